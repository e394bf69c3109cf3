/- Functions of the program as plain Lean definitions, each with the proof that the program computes it. No condition. Printed by a program of the prover, part 2. -/
import Derived.Test.YtnnofignhdijiaaRPp1
import Derived.KernelRfl
set_option linter.all false
set_option maxRecDepth 100000
namespace Go.Proofs.Ytnnofignhdijiaa
open Go Go.AM
variable (N : Nat) {R : Type}
noncomputable def rg22x0 : List (Nat × List Nat) := [(0, [0]), (1, [1]), (2, []), (3, [1]), (4, [1, 3]), (5, [15, 14, 13, 3]), (6, [13, 15, 3, 14]), (7, [3, 5, 15, 14, 13]), (8, [6, 3, 5, 15, 14, 13]), (9, [6]), (10, [3, 5, 15, 14, 13]), (11, [15, 14, 13, 3]), (12, [])]
noncomputable def hd22x0 : Hints := [(15, [15, 14, 13, 3], [12000000002], [])]
noncomputable def h22x0s0 (N : Nat) : Sg Try.prog 0 22 := .start hd22x0 rg22x0
noncomputable def S22x0x15 (w1 : LD) (w2 : Int) (w3 : Int) (w4 : D) (kr : Int → D → Option R) (k0 : Int → Option R) (k1 : Unit → Option R) : Option R :=
  bif (decide (w3 < w2)) then
    bif (inB w3 w1.length) then
      bnd (G71x0 N ((w1.getD w3.toNat (.i 0)).cell 0).toI ((w1.getD w3.toNat (.i 0)).cell 1).toI ((w1.getD w3.toNat (.i 0)).cell 2).toI ((w1.getD w3.toNat (.i 0)).cell 3).items ((w1.getD w3.toNat (.i 0)).cell 4).items w4) fun y0 =>
      bif y0.isSome then
        bif ((y0.getD default) != 0) then
          k0 (y0.getD default)
        else
          bnd (G72x0 N ((w1.getD w3.toNat (.i 0)).cell 0).toI ((w1.getD w3.toNat (.i 0)).cell 1).toI ((w1.getD w3.toNat (.i 0)).cell 2).toI ((w1.getD w3.toNat (.i 0)).cell 3).items ((w1.getD w3.toNat (.i 0)).cell 4).items w4) fun y1 =>
          bif y1.isSome then
            kr (IntKind.wrap .i64 (w3 + 1)) (y1.getD default).2
          else
            none
      else
        none
    else
      none
  else
    k1 ()
noncomputable def L22x0x15 (N : Nat) {R : Type} (w1 : LD) (w2 : Int) : Nat → Int → D → (Int → Option R) → (Unit → Option R) → Option R
  | 0, _, _, _, _ => none
  | m + 1, w3, w4, k0, k1 => S22x0x15 N w1 w2 w3 w4 (fun w3 w4 => L22x0x15 N w1 w2 m w3 w4 k0 k1) k0 k1
noncomputable def G22x0x15 (w1 : LD) (w2 : Int) (w3 : Int) (w4 : D) : Option (Sum (Int) (Unit)) := L22x0x15 N (R := (Sum (Int) (Unit))) w1 w2 N w3 w4 (fun p => some (.inl p)) (fun p => some (.inr p))
noncomputable def J22x0x15 (L x : List Lf) (kr : List Lf → Option R) (k0 : Int → Option R) (k1 : Unit → Option R) : Option R := S22x0x15 N (ll L 1) (li L 2) (li x 0) (ld x 1) (fun w3 w4 => kr [.i w3, .d w4]) k0 k1
theorem sb22x0x15 (L x : List Lf) (kr : List Lf → Option R) (k0 : Int → Option R) (k1 : Unit → Option R) : J22x0x15 N L x kr k0 k1 = (J22x0x15 N L x (fun y => some (.inl y)) (fun p => some (.inr (.inl p))) (fun p => some (.inr (.inr p)))).bind (sumE kr (sumE k0 k1)) := by
  unfold J22x0x15 S22x0x15
  repeat' (first | with_reducible apply cond_b | (with_reducible apply bnd_b; intro _) | rfl)
noncomputable def Q22x0x15 (L : List Lf) (m : Nat) (x : List Lf) : Option (Sum (Int) (Unit)) := L22x0x15 N (R := (Sum (Int) (Unit))) (ll L 1) (li L 2) m (li x 0) (ld x 1) (fun p => some (.inl p)) (fun p => some (.inr p))
noncomputable def sh22x0x15 : Sh := { tmps := [(3, .c (.p 12000000002 0)), (13, .c (.sl 53)), (14, .c (.i .i64)), (15, .c (.i .i64))], mem := [(12000000002, .dat 116)] }
noncomputable def A22x0x15 (L : List Lf) : List (Bool × (Ex × St)) := bnd (Q22x0x15 N L N (pk sh22x0x15 [3, 4] L)) fun q => [((inlB q), (.ret, ⟨[(2, .c (.i .i64 (inlV q)))], []⟩)), ((inrQ q).isSome, ((.exit 0), ⟨[], []⟩))]
theorem step22x0x15 (m : Nat) (kn : St → Option (Ex × St)) (L x : List Lf) : lpB Try.prog (T72x0 N) (h22x0s0 N).h 0 22 15 sh22x0x15 [3, 4] [2] [] (m + 100) kn L x = J22x0x15 N L x (fun y => kn (ofSh sh22x0x15 (mx sh22x0x15 [3, 4] L y))) (fun p => some (.ret, ⟨[(2, .c (.i .i64 p))], []⟩)) (fun _ => some ((.exit 0), ⟨[], []⟩)) := by kernel_rfl
theorem ql22x0x15 (L : List Lf) (m : Nat) (x : List Lf) : Q22x0x15 N L (m + 1) x = J22x0x15 N L x (Q22x0x15 N L m) (fun p => some (.inl p)) (fun p => some (.inr p)) := by kernel_rfl
noncomputable def h22x0s1 : Sg Try.prog 0 22 :=
  (h22x0s0 N).lp (A22x0x15 N) N progOk (T72x0_ok N) (fun m kn L x => (step22x0x15 N m kn L x).trans (sb22x0x15 N L x _ _ _)) (fun L m x => (ql22x0x15 N L m x).trans (sb22x0x15 N L x (Q22x0x15 N L m) (fun p => some (.inl p)) (fun p => some (.inr p)))) fun L x hx => (altS alt1) x hx
noncomputable def F22x0 (v1 : LD) (k0 : Int → Option R) : Option R :=
  bif (decide ((v1.length : Int) > 50000)) then
    k0 3
  else
    bnd (V70x0 N) fun y0 =>
    bnd (G22x0x15 N v1 (v1.length : Int) 0 y0) fun y1 =>
    bif (inlB y1) then
      k0 (inlV y1)
    else
      bif (inrQ y1).isSome then
        k0 0
      else
        none
noncomputable def G22x0 (v1 : LD) : Option (Int) := F22x0 N v1 (fun p => some p)
theorem bind22x0 (v1 : LD) (k0 : Int → Option R) : F22x0 N v1 k0 = (G22x0 N v1).bind k0 := by
  unfold G22x0 F22x0
  repeat' (first | with_reducible apply cond_b | (with_reducible apply bnd_b; intro _) | rfl)
noncomputable def sh22x0 : Sh := { tmps := [(0, .g ([.sl 53]))], mem := [] }
noncomputable def A22x0 (L : List Lf) : List (Bool × Res) := bnd (F22x0 N (ll L 1) (fun p => some p)) fun q => [(q.isSome, ([.c (.i .i64 (q.getD default))], []))]
theorem raw22x0 (L : List Lf) : bd Try.prog (T72x0 N) (h22x0s1 N).h 22 sh22x0 L = F22x0 N (ll L 1) (fun p => some ([.c (.i .i64 p)], [])) := by kernel_rfl
theorem ok22x0 : FnOk Try.prog 22 sh22x0 (A22x0 N) :=
  (h22x0s1 N).fn progOk (T72x0_ok N) fun L x hx => ((raw22x0 N L).trans ((bind22x0 N ..).trans (alt1 x hx)))
noncomputable def T22x0 : Oracle := ext 22 (spSh sh22x0 (A22x0 N)) (T72x0 N)
theorem T22x0_ok : OracleOk Try.prog (T22x0 N) := FnOk.to (ok22x0 N) (T72x0_ok N)
noncomputable def rg63x0 : List (Nat × List Nat) := [(0, [0]), (1, [1]), (2, [1, 3]), (3, [1, 3, 4]), (4, [11, 10, 9, 3, 4]), (5, [9, 11, 3, 4, 10]), (6, [3, 4, 6, 11, 10, 9]), (7, [11, 10, 9, 3, 4]), (8, [3])]
noncomputable def hd63x0 : Hints := [(12, [11, 10, 9, 3, 4], [8000000002, 3], [3])]
noncomputable def h63x0s0 (N : Nat) : Sg Try.prog 0 63 := .start hd63x0 rg63x0
noncomputable def S63x0x12 (w1 : LD) (w2 : Int) (w3 : Int) (w4 : Bool) (w5 : LD) (w6 : D) (kr : Int → Bool → LD → D → Option R) (k0 : Bool × LD → Option R) : Option R :=
  bif (decide (w3 < w2)) then
    bif (inB w3 w1.length) then
      bnd (G72x0 N ((w1.getD w3.toNat (.i 0)).cell 0).toI ((w1.getD w3.toNat (.i 0)).cell 1).toI ((w1.getD w3.toNat (.i 0)).cell 2).toI ((w1.getD w3.toNat (.i 0)).cell 3).items ((w1.getD w3.toNat (.i 0)).cell 4).items w6) fun y0 =>
      bif y0.isSome then
        bif (decide ((w5.length + 1) * 8 ≤ room) && decide ((w5.length + 1) ≤ strMax)) then
          kr (IntKind.wrap .i64 (w3 + 1)) false (w5 ++ [(.i (y0.getD default).1)]) (y0.getD default).2
        else
          none
      else
        none
    else
      none
  else
    k0 (w4, w5)
noncomputable def L63x0x12 (N : Nat) {R : Type} (w1 : LD) (w2 : Int) : Nat → Int → Bool → LD → D → (Bool × LD → Option R) → Option R
  | 0, _, _, _, _, _ => none
  | m + 1, w3, w4, w5, w6, k0 => S63x0x12 N w1 w2 w3 w4 w5 w6 (fun w3 w4 w5 w6 => L63x0x12 N w1 w2 m w3 w4 w5 w6 k0) k0
noncomputable def G63x0x12 (w1 : LD) (w2 : Int) (w3 : Int) (w4 : Bool) (w5 : LD) (w6 : D) : Option (Bool × LD) := L63x0x12 N (R := (Bool × LD)) w1 w2 N w3 w4 w5 w6 (fun p => some p)
noncomputable def J63x0x12 (L x : List Lf) (kr : List Lf → Option R) (k0 : Bool × LD → Option R) : Option R := S63x0x12 N (ll L 1) (li L 2) (li x 0) (lb x 1) (ll x 2) (ld x 3) (fun w3 w4 w5 w6 => kr [.i w3, .b w4, .l w5, .d w6]) k0
theorem sb63x0x12 (L x : List Lf) (kr : List Lf → Option R) (k0 : Bool × LD → Option R) : J63x0x12 N L x kr k0 = (J63x0x12 N L x (fun y => some (.inl y)) (fun p => some (.inr p))).bind (sumE kr k0) := by
  unfold J63x0x12 S63x0x12
  repeat' (first | with_reducible apply cond_b | (with_reducible apply bnd_b; intro _) | rfl)
noncomputable def Q63x0x12 (L : List Lf) (m : Nat) (x : List Lf) : Option (Bool × LD) := L63x0x12 N (R := (Bool × LD)) (ll L 1) (li L 2) m (li x 0) (lb x 1) (ll x 2) (ld x 3) (fun p => some p)
noncomputable def sh63x0x12 : Sh := { tmps := [(3, .c (.o 3)), (4, .c (.p 8000000002 0)), (9, .c (.sl 53)), (10, .c (.i .i64)), (11, .c (.i .i64))], mem := [(3, .row 3 true), (8000000002, .dat 116)] }
noncomputable def A63x0x12 (L : List Lf) : List (Bool × (Ex × St)) := bnd (Q63x0x12 N L N (pk sh63x0x12 [3, 4, 5, 6] L)) fun q => [(q.isSome, ((.exit 0), ⟨[(3, .c (.o 3))], [(3, .row 3 true (q.getD default).1 (q.getD default).2)]⟩))]
theorem step63x0x12 (m : Nat) (kn : St → Option (Ex × St)) (L x : List Lf) : lpB Try.prog (T22x0 N) (h63x0s0 N).h 0 63 12 sh63x0x12 [3, 4, 5, 6] [2, 3] [3] (m + 100) kn L x = J63x0x12 N L x (fun y => kn (ofSh sh63x0x12 (mx sh63x0x12 [3, 4, 5, 6] L y))) (fun p => some ((.exit 0), ⟨[(3, .c (.o 3))], [(3, .row 3 true p.1 p.2)]⟩)) := by kernel_rfl
theorem ql63x0x12 (L : List Lf) (m : Nat) (x : List Lf) : Q63x0x12 N L (m + 1) x = J63x0x12 N L x (Q63x0x12 N L m) some := by kernel_rfl
noncomputable def h63x0s1 : Sg Try.prog 0 63 :=
  (h63x0s0 N).lp (A63x0x12 N) N progOk (T22x0_ok N) (fun m kn L x => (step63x0x12 N m kn L x).trans (sb63x0x12 N L x _ _)) (fun L m x => (ql63x0x12 N L m x).trans (sb63x0x12 N L x (Q63x0x12 N L m) some)) fun L x hx => alt1 x hx
noncomputable def F63x0 (v1 : LD) (k0 : Bool × LD → Option R) : Option R :=
  bnd (V70x0 N) fun y0 =>
  bnd (G63x0x12 N v1 (v1.length : Int) 0 true [] y0) fun y1 =>
  bif y1.isSome then
    k0 (y1.getD default)
  else
    none
noncomputable def G63x0 (v1 : LD) : Option (Bool × LD) := F63x0 N v1 (fun p => some p)
theorem bind63x0 (v1 : LD) (k0 : Bool × LD → Option R) : F63x0 N v1 k0 = (G63x0 N v1).bind k0 := by
  unfold G63x0 F63x0
  repeat' (first | with_reducible apply cond_b | (with_reducible apply bnd_b; intro _) | rfl)
noncomputable def sh63x0 : Sh := { tmps := [(0, .g ([.sl 53]))], mem := [] }
noncomputable def A63x0 (L : List Lf) : List (Bool × Res) := bnd (F63x0 N (ll L 1) (fun p => some p)) fun q => [(q.isSome, ([.c (.sl 3 (q.getD default).1 (q.getD default).2)], []))]
theorem raw63x0 (L : List Lf) : bd Try.prog (T22x0 N) (h63x0s1 N).h 63 sh63x0 L = F63x0 N (ll L 1) (fun p => some ([.c (.sl 3 p.1 p.2)], [])) := by kernel_rfl
theorem ok63x0 : FnOk Try.prog 63 sh63x0 (A63x0 N) :=
  (h63x0s1 N).fn progOk (T22x0_ok N) fun L x hx => ((raw63x0 N L).trans ((bind63x0 N ..).trans (alt1 x hx)))
noncomputable def T63x0 : Oracle := ext 63 (spSh sh63x0 (A63x0 N)) (T22x0 N)
theorem T63x0_ok : OracleOk Try.prog (T63x0 N) := FnOk.to (ok63x0 N) (T22x0_ok N)
noncomputable def rg18x0 : List (Nat × List Nat) := [(0, [0]), (1, [1]), (2, [4, 1]), (3, [4]), (4, [1])]
noncomputable def hd18x0 : Hints := []
noncomputable def h18x0s0 (N : Nat) : Sg Try.prog 0 18 := .start hd18x0 rg18x0
noncomputable def F18x0 (v1 : LD) (k0 : Bool × LD × Int → Option R) : Option R :=
  bnd (G22x0 N v1) fun y0 =>
  bif y0.isSome then
    bif ((y0.getD default) != 0) then
      k0 (true, [], (y0.getD default))
    else
      bnd (G63x0 N v1) fun y1 =>
      bif y1.isSome then
        k0 ((y1.getD default).1, (y1.getD default).2, 0)
      else
        none
  else
    none
noncomputable def G18x0 (v1 : LD) : Option (Bool × LD × Int) := F18x0 N v1 (fun p => some p)
theorem bind18x0 (v1 : LD) (k0 : Bool × LD × Int → Option R) : F18x0 N v1 k0 = (G18x0 N v1).bind k0 := by
  unfold G18x0 F18x0
  repeat' (first | with_reducible apply cond_b | (with_reducible apply bnd_b; intro _) | rfl)
noncomputable def sh18x0 : Sh := { tmps := [(0, .g ([.sl 53]))], mem := [] }
noncomputable def A18x0 (L : List Lf) : List (Bool × Res) := bnd (F18x0 N (ll L 1) (fun p => some p)) fun q => [(q.isSome, ([.c (.sl 3 (q.getD default).1 (q.getD default).2.1), .c (.i .i64 (q.getD default).2.2)], []))]
theorem raw18x0 (L : List Lf) : bd Try.prog (T63x0 N) (h18x0s0 N).h 18 sh18x0 L = F18x0 N (ll L 1) (fun p => some ([.c (.sl 3 p.1 p.2.1), .c (.i .i64 p.2.2)], [])) := by kernel_rfl
theorem ok18x0 : FnOk Try.prog 18 sh18x0 (A18x0 N) :=
  (h18x0s0 N).fn progOk (T63x0_ok N) fun L x hx => ((raw18x0 N L).trans ((bind18x0 N ..).trans (alt1 x hx)))
noncomputable def T18x0 : Oracle := ext 18 (spSh sh18x0 (A18x0 N)) (T63x0 N)
theorem T18x0_ok : OracleOk Try.prog (T18x0 N) := FnOk.to (ok18x0 N) (T63x0_ok N)
noncomputable def rg24x0 : List (Nat × List Nat) := [(0, [0, 1]), (1, [0, 1]), (2, []), (3, [0, 1]), (4, [13, 12, 0, 1]), (5, [13, 0, 1, 12]), (6, [0, 5, 1, 13, 12]), (7, []), (8, [13, 12, 0, 1]), (9, [])]
noncomputable def hd24x0 : Hints := [(12, [13, 12, 0, 1], [], [])]
noncomputable def h24x0s0 (N : Nat) : Sg Try.prog 0 24 := .start hd24x0 rg24x0
noncomputable def S24x0x12 (N : Nat) (w1 w3 : LD) (w4 : Int) (w5 : Int) (kr : Int → Option R) (k0 : Unit → Option R) (k1 : Unit → Option R) : Option R :=
  bif (decide (w5 < w4)) then
    bif (inB w5 w1.length) then
      bif (inB w5 w3.length) then
        bnd ((w1.getD w5.toNat (.i 0)).toI != (w3.getD w5.toNat (.i 0)).toI) fun y0 =>
        bif y0 then
          k0 ()
        else
          kr (IntKind.wrap .i64 (w5 + 1))
      else
        none
    else
      none
  else
    k1 ()
noncomputable def L24x0x12 (N : Nat) {R : Type} (w1 w3 : LD) (w4 : Int) : Nat → Int → (Unit → Option R) → (Unit → Option R) → Option R
  | 0, _, _, _ => none
  | m + 1, w5, k0, k1 => S24x0x12 N w1 w3 w4 w5 (fun w5 => L24x0x12 N w1 w3 w4 m w5 k0 k1) k0 k1
noncomputable def G24x0x12 (w1 w3 : LD) (w4 : Int) (w5 : Int) : Option (Sum (Unit) (Unit)) := L24x0x12 N (R := (Sum (Unit) (Unit))) w1 w3 w4 N w5 (fun p => some (.inl p)) (fun p => some (.inr p))
noncomputable def J24x0x12 (L x : List Lf) (kr : List Lf → Option R) (k0 : Unit → Option R) (k1 : Unit → Option R) : Option R := S24x0x12 N (ll L 1) (ll L 3) (li L 4) (li x 0) (fun w5 => kr [.i w5]) k0 k1
theorem sb24x0x12 (L x : List Lf) (kr : List Lf → Option R) (k0 : Unit → Option R) (k1 : Unit → Option R) : J24x0x12 N L x kr k0 k1 = (J24x0x12 N L x (fun y => some (.inl y)) (fun p => some (.inr (.inl p))) (fun p => some (.inr (.inr p)))).bind (sumE kr (sumE k0 k1)) := by
  unfold J24x0x12 S24x0x12
  repeat' (first | with_reducible apply cond_b | (with_reducible apply bnd_b; intro _) | rfl)
noncomputable def Q24x0x12 (L : List Lf) (m : Nat) (x : List Lf) : Option (Sum (Unit) (Unit)) := L24x0x12 N (R := (Sum (Unit) (Unit))) (ll L 1) (ll L 3) (li L 4) m (li x 0) (fun p => some (.inl p)) (fun p => some (.inr p))
noncomputable def sh24x0x12 : Sh := { tmps := [(0, .c (.sl 3)), (1, .c (.sl 3)), (12, .c (.i .i64)), (13, .c (.i .i64))], mem := [] }
noncomputable def A24x0x12 (L : List Lf) : List (Bool × (Ex × St)) := bnd (Q24x0x12 N L N (pk sh24x0x12 [5] L)) fun q => [((inlB q), (.ret, ⟨[(4, .c (.b false))], []⟩)), ((inrQ q).isSome, ((.exit 0), ⟨[], []⟩))]
theorem step24x0x12 (m : Nat) (kn : St → Option (Ex × St)) (L x : List Lf) : lpB Try.prog (T18x0 N) (h24x0s0 N).h 0 24 12 sh24x0x12 [5] [4] [] (m + 100) kn L x = J24x0x12 N L x (fun y => kn (ofSh sh24x0x12 (mx sh24x0x12 [5] L y))) (fun _ => some (.ret, ⟨[(4, .c (.b false))], []⟩)) (fun _ => some ((.exit 0), ⟨[], []⟩)) := by kernel_rfl
theorem ql24x0x12 (L : List Lf) (m : Nat) (x : List Lf) : Q24x0x12 N L (m + 1) x = J24x0x12 N L x (Q24x0x12 N L m) (fun p => some (.inl p)) (fun p => some (.inr p)) := by kernel_rfl
noncomputable def h24x0s1 : Sg Try.prog 0 24 :=
  (h24x0s0 N).lp (A24x0x12 N) N progOk (T18x0_ok N) (fun m kn L x => (step24x0x12 N m kn L x).trans (sb24x0x12 N L x _ _ _)) (fun L m x => (ql24x0x12 N L m x).trans (sb24x0x12 N L x (Q24x0x12 N L m) (fun p => some (.inl p)) (fun p => some (.inr p)))) fun L x hx => (altS alt1) x hx
noncomputable def F24x0 (v1 v3 : LD) (k0 : Bool → Option R) : Option R :=
  bif ((v1.length : Int) != (v3.length : Int)) then
    k0 false
  else
    bnd (G24x0x12 N v1 v3 (v1.length : Int) 0) fun y0 =>
    bif (inlB y0) then
      k0 false
    else
      bif (inrQ y0).isSome then
        k0 true
      else
        none
noncomputable def G24x0 (v1 v3 : LD) : Option (Bool) := F24x0 N v1 v3 (fun p => some p)
theorem bind24x0 (v1 v3 : LD) (k0 : Bool → Option R) : F24x0 N v1 v3 k0 = (G24x0 N v1 v3).bind k0 := by
  unfold G24x0 F24x0
  repeat' (first | with_reducible apply cond_b | (with_reducible apply bnd_b; intro _) | rfl)
noncomputable def sh24x0 : Sh := { tmps := [(0, .c (.sl 3)), (1, .c (.sl 3))], mem := [] }
noncomputable def A24x0 (L : List Lf) : List (Bool × Res) := bnd (F24x0 N (ll L 1) (ll L 3) (fun p => some p)) fun q => [(q.isSome, ([.c (.b (q.getD default))], []))]
theorem raw24x0 (L : List Lf) : bd Try.prog (T18x0 N) (h24x0s1 N).h 24 sh24x0 L = F24x0 N (ll L 1) (ll L 3) (fun p => some ([.c (.b p)], [])) := by kernel_rfl
theorem ok24x0 : FnOk Try.prog 24 sh24x0 (A24x0 N) :=
  (h24x0s1 N).fn progOk (T18x0_ok N) fun L x hx => ((raw24x0 N L).trans ((bind24x0 N ..).trans (alt1 x hx)))
noncomputable def T24x0 : Oracle := ext 24 (spSh sh24x0 (A24x0 N)) (T18x0 N)
theorem T24x0_ok : OracleOk Try.prog (T24x0 N) := FnOk.to (ok24x0 N) (T18x0_ok N)
noncomputable def rg17x0 : List (Nat × List Nat) := [(0, []), (1, []), (2, [1]), (3, [2, 3]), (4, [3, 5, 4])]
noncomputable def hd17x0 : Hints := [(13, [3, 5, 4], [], [])]
noncomputable def h17x0s0 (N : Nat) : Sg Try.prog 0 17 := .start hd17x0 rg17x0
noncomputable def F17x0x13 (w0 : Int) (w2 : LD) (w3 : Int) (k0 : Bool → Option R) : Option R :=
  bif (bif (w0 == 0) then (w3 == 0) else false) then
    bnd (G24x0 N w2 [(.i (-1)), (.i 100), (.i (-1)), (.i 100), (.i 105)]) fun y0 =>
    bif y0.isSome then
      k0 (y0.getD default)
    else
      none
  else
    k0 false
noncomputable def G17x0x13 (w0 : Int) (w2 : LD) (w3 : Int) : Option (Bool) := F17x0x13 N w0 w2 w3 (fun p => some p)
theorem bind17x0x13 (w0 : Int) (w2 : LD) (w3 : Int) (k0 : Bool → Option R) : F17x0x13 N w0 w2 w3 k0 = (G17x0x13 N w0 w2 w3).bind k0 := by
  unfold G17x0x13 F17x0x13
  repeat' (first | with_reducible apply cond_b | (with_reducible apply bnd_b; intro _) | rfl)
noncomputable def sh17x0x13 : Sh := { tmps := [(3, .c (.i .i64)), (4, .c (.sl 3)), (5, .c (.i .i64))], mem := [] }
noncomputable def A17x0x13 (L : List Lf) : List (Bool × (Ex × St)) := bnd (F17x0x13 N (li L 0) (ll L 2) (li L 3) (fun p => some p)) fun q => [(q.isSome, (.normal, ⟨[(0, .c (.b (q.getD default)))], []⟩))]
theorem raw17x0x13 (L : List Lf) : pc Try.prog (T24x0 N) (h17x0s0 N).h 0 100 17 13 sh17x0x13 L [0] [] = F17x0x13 N (li L 0) (ll L 2) (li L 3) (fun p => some (.normal, ⟨[(0, .c (.b p))], []⟩)) := by kernel_rfl
noncomputable def h17x0s1 : Sg Try.prog 0 17 :=
  (h17x0s0 N).cut (A17x0x13 N) progOk (T24x0_ok N) fun L x hx => (raw17x0x13 N L).trans ((bind17x0x13 N ..).trans (alt1 x hx))
noncomputable def F17x0 (k0 : Bool → Option R) : Option R :=
  bnd (G49x0 N ([109] : List UInt8) 1 100 [(.a [(.i 0), (.i 0), (.i 0), (.i 0), (.i (-1)), (.i (-1)), (.i (-1))]), (.a [(.i 5), (.i 4), (.i 0), (.i 0), (.i 120), (.i (-1)), (.i (-1))])] [] [] false) fun y0 =>
  bif y0.isSome then
    bnd (G18x0 N (y0.getD default).2.1) fun y1 =>
    bif y1.isSome then
      bnd (G17x0x13 N (y0.getD default).2.2 (y1.getD default).2.1 (y1.getD default).2.2) fun y2 =>
      bif y2.isSome then
        k0 (y2.getD default)
      else
        none
    else
      none
  else
    none
noncomputable def G17x0 : Option (Bool) := F17x0 N (fun p => some p)
theorem bind17x0 (k0 : Bool → Option R) : F17x0 N k0 = (G17x0 N).bind k0 := by
  unfold G17x0 F17x0
  repeat' (first | with_reducible apply cond_b | (with_reducible apply bnd_b; intro _) | rfl)
noncomputable def sh17x0 : Sh := { tmps := [], mem := [] }
noncomputable def A17x0 (L : List Lf) : List (Bool × Res) := bnd (F17x0 N (fun p => some p)) fun q => [(q.isSome, ([.c (.b (q.getD default))], []))]
theorem raw17x0 (L : List Lf) : bd Try.prog (T24x0 N) (h17x0s1 N).h 17 sh17x0 L = F17x0 N (fun p => some ([.c (.b p)], [])) := by kernel_rfl
theorem ok17x0 : FnOk Try.prog 17 sh17x0 (A17x0 N) :=
  (h17x0s1 N).fn progOk (T24x0_ok N) fun L x hx => ((raw17x0 N L).trans ((bind17x0 N ..).trans (alt1 x hx)))
noncomputable def T17x0 : Oracle := ext 17 (spSh sh17x0 (A17x0 N)) (T24x0 N)
theorem T17x0_ok : OracleOk Try.prog (T17x0 N) := FnOk.to (ok17x0 N) (T24x0_ok N)
noncomputable def rg96x0 : List (Nat × List Nat) := [(0, [0, 1]), (1, [2, 1]), (2, [2, 1, 5]), (3, [2, 7, 1, 5, 6]), (4, [15, 14, 13, 7, 2, 1, 5, 6]), (5, [13, 15, 7, 2, 1, 14, 5, 6]), (6, [7, 2, 9, 1, 15, 14, 13, 5, 6]), (7, [7, 9, 1, 10, 15, 14, 13, 2, 5, 6]), (8, [1, 10, 15, 14, 13, 7, 2, 5, 6, 9]), (9, [5, 9, 6, 15, 14, 13, 7, 2, 1]), (10, [6, 9, 15, 14, 13, 7, 2, 1, 5]), (11, [15, 14, 13, 7, 2, 1, 5, 6]), (12, [5])]
noncomputable def hd96x0 : Hints := [(12, [15, 14, 13, 7, 2, 1, 5, 6], [2, 5], [5])]
noncomputable def h96x0s0 (N : Nat) : Sg Try.prog 0 96 := .start hd96x0 rg96x0
noncomputable def S96x0x12 (N : Nat) (w0 : Bool) (w4 : LD) (w5 w13 : Int) (w1 w2 w6 : Int) (w14 : Bool) (w15 : LD) (kr : Int → Int → Int → Bool → LD → Option R) (k0 : Bool × LD → Option R) : Option R :=
  bif (decide (w6 < w5)) then
    bif (inB w6 w4.length) then
      bnd (IntKind.wrap .i64 (w2 + ((w4.getD w6.toNat (.i 0)).cell 1).toI)) fun y0 =>
      bif (bif w0 then (w2 == w13) else false) then
        kr w1 y0 (IntKind.wrap .i64 (w6 + 1)) w14 w15
      else
        bif (decide ((w15.length + 1) * 32 ≤ room) && decide ((w15.length + 1) ≤ strMax)) then
          bnd ((w15 ++ [(.a [(.i ((w4.getD w6.toNat (.i 0)).cell 0).toI), (.i ((w4.getD w6.toNat (.i 0)).cell 1).toI), (.i ((w4.getD w6.toNat (.i 0)).cell 2).toI), (.i w1)])]) : List D) fun y1 =>
          bnd (IntKind.wrap .i64 (w1 + ((w4.getD w6.toNat (.i 0)).cell 1).toI)) fun y2 =>
          kr y2 y0 (IntKind.wrap .i64 (w6 + 1)) false y1
        else
          none
    else
      none
  else
    k0 (w14, w15)
noncomputable def L96x0x12 (N : Nat) {R : Type} (w0 : Bool) (w4 : LD) (w5 w13 : Int) : Nat → Int → Int → Int → Bool → LD → (Bool × LD → Option R) → Option R
  | 0, _, _, _, _, _, _ => none
  | m + 1, w1, w2, w6, w14, w15, k0 => S96x0x12 N w0 w4 w5 w13 w1 w2 w6 w14 w15 (fun w1 w2 w6 w14 w15 => L96x0x12 N w0 w4 w5 w13 m w1 w2 w6 w14 w15 k0) k0
noncomputable def G96x0x12 (w0 : Bool) (w4 : LD) (w5 w13 : Int) (w1 w2 w6 : Int) (w14 : Bool) (w15 : LD) : Option (Bool × LD) := L96x0x12 N (R := (Bool × LD)) w0 w4 w5 w13 N w1 w2 w6 w14 w15 (fun p => some p)
noncomputable def J96x0x12 (L x : List Lf) (kr : List Lf → Option R) (k0 : Bool × LD → Option R) : Option R := S96x0x12 N (lb L 0) (ll L 4) (li L 5) (li L 13) (li x 0) (li x 1) (li x 2) (lb x 3) (ll x 4) (fun w1 w2 w6 w14 w15 => kr [.i w1, .i w2, .i w6, .b w14, .l w15]) k0
theorem sb96x0x12 (L x : List Lf) (kr : List Lf → Option R) (k0 : Bool × LD → Option R) : J96x0x12 N L x kr k0 = (J96x0x12 N L x (fun y => some (.inl y)) (fun p => some (.inr p))).bind (sumE kr k0) := by
  unfold J96x0x12 S96x0x12
  repeat' (first | with_reducible apply cond_b | (with_reducible apply bnd_b; intro _) | rfl)
noncomputable def Q96x0x12 (L : List Lf) (m : Nat) (x : List Lf) : Option (Bool × LD) := L96x0x12 N (R := (Bool × LD)) (lb L 0) (ll L 4) (li L 5) (li L 13) m (li x 0) (li x 1) (li x 2) (lb x 3) (ll x 4) (fun p => some p)
noncomputable def sh96x0x12 : Sh := { tmps := [(1, .c (.b)), (2, .c (.p 2 0)), (5, .c (.o 5)), (6, .c (.i .i64)), (7, .c (.i .i64)), (13, .c (.sl 146)), (14, .c (.i .i64)), (15, .c (.i .i64))], mem := [(2, .box (.b :: [.b, .i .i64, .sl 146, .i .i64, .i .i64])), (5, .row 148 true)] }
noncomputable def K96x0x12w0 (L : List Lf) (p : Bool × LD) : Ex × St := ((.exit 0), ⟨[(5, .c (.o 5))], [(5, .row 148 true p.1 p.2)]⟩)
noncomputable def A96x0x12 (L : List Lf) : List (Bool × (Ex × St)) := bnd (Q96x0x12 N L N (pk sh96x0x12 [1, 2, 6, 14, 15] L)) fun q => [(q.isSome, K96x0x12w0 L (q.getD default))]
theorem step96x0x12 (m : Nat) (kn : St → Option (Ex × St)) (L x : List Lf) : lpB Try.prog (T17x0 N) (h96x0s0 N).h 0 96 12 sh96x0x12 [1, 2, 6, 14, 15] [4, 5] [5] (m + 100) kn L x = J96x0x12 N L x (fun y => kn (ofSh sh96x0x12 (mx sh96x0x12 [1, 2, 6, 14, 15] L y))) (fun p => some (K96x0x12w0 L p)) := by kernel_rfl
theorem ql96x0x12 (L : List Lf) (m : Nat) (x : List Lf) : Q96x0x12 N L (m + 1) x = J96x0x12 N L x (Q96x0x12 N L m) some := by kernel_rfl
noncomputable def h96x0s1 : Sg Try.prog 0 96 :=
  (h96x0s0 N).lp (A96x0x12 N) N progOk (T17x0_ok N) (fun m kn L x => (step96x0x12 N m kn L x).trans (sb96x0x12 N L x _ _)) (fun L m x => (ql96x0x12 N L m x).trans (sb96x0x12 N L x (Q96x0x12 N L m) some)) fun L x hx => alt1 x hx
noncomputable def F96x0 (v4 : LD) (v6 : Int) (v7 : Bool) (k0 : Bool × LD → Option R) : Option R :=
  bnd (G96x0x12 N v7 v4 (v4.length : Int) v6 0 0 0 true []) fun y0 =>
  bif y0.isSome then
    k0 (y0.getD default)
  else
    none
noncomputable def G96x0 (v4 : LD) (v6 : Int) (v7 : Bool) : Option (Bool × LD) := F96x0 N v4 v6 v7 (fun p => some p)
theorem bind96x0 (v4 : LD) (v6 : Int) (v7 : Bool) (k0 : Bool × LD → Option R) : F96x0 N v4 v6 v7 k0 = (G96x0 N v4 v6 v7).bind k0 := by
  unfold G96x0 F96x0
  repeat' (first | with_reducible apply cond_b | (with_reducible apply bnd_b; intro _) | rfl)
noncomputable def sh96x0 : Sh := { tmps := [(0, .g (.b :: [.b, .i .i64, .sl 146, .i .i64, .i .i64])), (1, .c (.b))], mem := [] }
noncomputable def A96x0 (L : List Lf) : List (Bool × Res) := bnd (F96x0 N (ll L 4) (li L 6) (lb L 7) (fun p => some p)) fun q => [(q.isSome, ([.c (.sl 148 (q.getD default).1 (q.getD default).2)], []))]
theorem raw96x0 (L : List Lf) : bd Try.prog (T17x0 N) (h96x0s1 N).h 96 sh96x0 L = F96x0 N (ll L 4) (li L 6) (lb L 7) (fun p => some ([.c (.sl 148 p.1 p.2)], [])) := by kernel_rfl
theorem ok96x0 : FnOk Try.prog 96 sh96x0 (A96x0 N) :=
  (h96x0s1 N).fn progOk (T17x0_ok N) fun L x hx => ((raw96x0 N L).trans ((bind96x0 N ..).trans (alt1 x hx)))
noncomputable def T96x0 : Oracle := ext 96 (spSh sh96x0 (A96x0 N)) (T17x0 N)
theorem T96x0_ok : OracleOk Try.prog (T96x0 N) := FnOk.to (ok96x0 N) (T17x0_ok N)
noncomputable def rg149x0 : List (Nat × List Nat) := [(0, [0, 1]), (1, [0, 1])]
noncomputable def hd149x0 : Hints := []
noncomputable def h149x0s0 (N : Nat) : Sg Try.prog 0 149 := .start hd149x0 rg149x0
noncomputable def F149x0 (N : Nat) (v0 : LB) (v1 : Int) (k0 : Int → R) : R :=
  k0 (Lib.indexByte v0 v1.toNat.toUInt8)
noncomputable def V149x0 (v0 : LB) (v1 : Int) : Int := F149x0 N v0 v1 (fun p => p)
theorem tot149x0 (v0 : LB) (v1 : Int) (k0 : Int → R) : F149x0 N v0 v1 k0 = k0 (V149x0 N v0 v1) := by
  unfold V149x0 F149x0
  repeat' (first | rfl | apply cond_k | (apply bnd_k; intro _))
noncomputable def sh149x0 : Sh := { tmps := [(0, .c (.s)), (1, .c (.i .u8))], mem := [] }
noncomputable def A149x0 (L : List Lf) : List (Bool × Res) := bnd (F149x0 N (ls L 0) (li L 1) (fun p => p)) fun q => [(true, ([.c (.i .i64 q)], []))]
theorem raw149x0 (L : List Lf) : bd Try.prog (T96x0 N) (h149x0s0 N).h 149 sh149x0 L = F149x0 N (ls L 0) (li L 1) (fun p => some ([.c (.i .i64 p)], [])) := by kernel_rfl
theorem ok149x0 : FnOk Try.prog 149 sh149x0 (A149x0 N) :=
  (h149x0s0 N).fn progOk (T96x0_ok N) fun L x hx => ((raw149x0 N L).trans ((tot149x0 N ..).trans (alt0 _ _ hx)))
noncomputable def T149x0 : Oracle := ext 149 (spSh sh149x0 (A149x0 N)) (T96x0 N)
theorem T149x0_ok : OracleOk Try.prog (T149x0 N) := FnOk.to (ok149x0 N) (T96x0_ok N)
noncomputable def rg148x0 : List (Nat × List Nat) := [(0, [1, 0]), (1, [1, 0]), (2, [5, 1, 0]), (4, [5, 0, 1]), (6, [5, 0, 1]), (8, [5, 0, 1]), (9, [0, 1]), (7, []), (5, [0, 1]), (3, []), (10, [1, 0, 5]), (11, [1, 0, 5, 6]), (12, [0, 5, 6, 7, 1]), (13, [0, 5, 8, 6, 7, 1]), (14, [8, 9, 0, 6, 7, 5, 1]), (15, [8, 9, 0, 6, 7, 5, 1, 10]), (16, [0, 8, 6, 9, 7, 5, 1, 10]), (17, [0, 8, 9, 6, 7, 5, 1, 10]), (18, [11, 8, 0, 7, 5, 1, 10, 9, 6]), (19, []), (20, [8, 11, 0, 7, 5, 1, 10, 9, 6]), (21, [0, 8, 7, 5, 1, 10, 9, 6]), (22, [8]), (23, [8, 10, 5, 0, 1, 9, 6, 7]), (24, [10, 5, 8, 0, 1, 9, 6, 7]), (25, [5, 10, 8, 0, 1, 9, 6, 7]), (30, [5, 10, 8, 9, 0, 1, 6, 7]), (31, [0, 8, 1]), (32, [13, 8]), (33, []), (34, [8, 13]), (26, [0, 8, 1]), (27, [12, 8]), (28, [12, 8]), (29, []), (35, [])]
noncomputable def hd148x0 : Hints := []
noncomputable def h148x0s0 (N : Nat) : Sg Try.prog 0 148 := .start hd148x0 rg148x0
noncomputable def F148x0 (v0 : LB) (k0 : Int → R) : R :=
  bif (([0] : List UInt8) == v0) then
    k0 0
  else
    bnd (V149x0 N v0 0) fun y0 =>
    k0 y0
noncomputable def V148x0 (v0 : LB) : Int := F148x0 N v0 (fun p => p)
theorem tot148x0 (v0 : LB) (k0 : Int → R) : F148x0 N v0 k0 = k0 (V148x0 N v0) := by
  unfold V148x0 F148x0
  repeat' (first | rfl | apply cond_k | (apply bnd_k; intro _))
noncomputable def sh148x0 : Sh := { tmps := [(0, .c (.s)), (1, .c (.ks [0]))], mem := [] }
noncomputable def A148x0 (L : List Lf) : List (Bool × Res) := bnd (F148x0 N (ls L 0) (fun p => p)) fun q => [(true, ([.c (.i .i64 q)], []))]
theorem raw148x0 (L : List Lf) : bd Try.prog (T149x0 N) (h148x0s0 N).h 148 sh148x0 L = F148x0 N (ls L 0) (fun p => some ([.c (.i .i64 p)], [])) := by kernel_rfl
theorem ok148x0 : FnOk Try.prog 148 sh148x0 (A148x0 N) :=
  (h148x0s0 N).fn progOk (T149x0_ok N) fun L x hx => ((raw148x0 N L).trans ((tot148x0 N ..).trans (alt0 _ _ hx)))
noncomputable def T148x0 : Oracle := ext 148 (spSh sh148x0 (A148x0 N)) (T149x0 N)
theorem T148x0_ok : OracleOk Try.prog (T148x0 N) := FnOk.to (ok148x0 N) (T149x0_ok N)
noncomputable def rg147x0 : List (Nat × List Nat) := [(0, [0, 1]), (1, [0, 1]), (2, [7, 0, 1]), (3, [0, 7, 1]), (4, [0])]
noncomputable def hd147x0 : Hints := []
noncomputable def h147x0s0 (N : Nat) : Sg Try.prog 0 147 := .start hd147x0 rg147x0
noncomputable def F147x0 (v0 : LB) (k0 : Ty3 → Option R) : Option R :=
  bnd (V148x0 N v0) fun y0 =>
  bif (decide (y0 ≥ 0)) then
    bif ((decide (0 ≤ y0)) && (decide (y0 ≤ (v0.length : Int)))) then
      bif (((decide (0 ≤ (IntKind.wrap .i64 (y0 + 1)))) && (decide ((IntKind.wrap .i64 (y0 + 1)) ≤ (v0.length : Int)))) && (decide ((v0.length : Int) ≤ (v0.length : Int)))) then
        bnd ((v0.take (v0.length : Int).toNat).drop (IntKind.wrap .i64 (y0 + 1)).toNat) fun y1 =>
        k0 (((v0.take y0.toNat).drop 0), y1, true)
      else
        none
    else
      none
  else
    k0 (v0, ([] : List UInt8), false)
noncomputable def G147x0 (v0 : LB) : Option (Ty3) := F147x0 N v0 (fun p => some p)
theorem bind147x0 (v0 : LB) (k0 : Ty3 → Option R) : F147x0 N v0 k0 = (G147x0 N v0).bind k0 := by
  unfold G147x0 F147x0
  repeat' (first | with_reducible apply cond_b | (with_reducible apply bnd_b; intro _) | rfl)
noncomputable def sh147x0 : Sh := { tmps := [(0, .c (.s)), (1, .c (.ks [0]))], mem := [] }
noncomputable def A147x0 (L : List Lf) : List (Bool × Res) := bnd (F147x0 N (ls L 0) (fun p => some p)) fun q => [(q.isSome, ([.c (.s (q.getD default).1), .c (.s (q.getD default).2.1), .c (.b (q.getD default).2.2)], []))]
theorem raw147x0 (L : List Lf) : bd Try.prog (T148x0 N) (h147x0s0 N).h 147 sh147x0 L = F147x0 N (ls L 0) (fun p => some ([.c (.s p.1), .c (.s p.2.1), .c (.b p.2.2)], [])) := by kernel_rfl
theorem ok147x0 : FnOk Try.prog 147 sh147x0 (A147x0 N) :=
  (h147x0s0 N).fn progOk (T148x0_ok N) fun L x hx => ((raw147x0 N L).trans ((bind147x0 N ..).trans (alt1 x hx)))
noncomputable def T147x0 : Oracle := ext 147 (spSh sh147x0 (A147x0 N)) (T148x0 N)
theorem T147x0_ok : OracleOk Try.prog (T147x0 N) := FnOk.to (ok147x0 N) (T148x0_ok N)
noncomputable def rg144x0 : List (Nat × List Nat) := [(0, [0, 1]), (1, [0, 1])]
noncomputable def hd144x0 : Hints := []
noncomputable def h144x0s0 (N : Nat) : Sg Try.prog 0 144 := .start hd144x0 rg144x0
noncomputable def F144x0 (v0 : LB) (k0 : Ty3 → Option R) : Option R :=
  bnd (G147x0 N v0) fun y0 =>
  bif y0.isSome then
    k0 (y0.getD default)
  else
    none
noncomputable def G144x0 (v0 : LB) : Option (Ty3) := F144x0 N v0 (fun p => some p)
theorem bind144x0 (v0 : LB) (k0 : Ty3 → Option R) : F144x0 N v0 k0 = (G144x0 N v0).bind k0 := by
  unfold G144x0 F144x0
  repeat' (first | with_reducible apply cond_b | (with_reducible apply bnd_b; intro _) | rfl)
noncomputable def sh144x0 : Sh := { tmps := [(0, .c (.s)), (1, .c (.ks [0]))], mem := [] }
noncomputable def A144x0 (L : List Lf) : List (Bool × Res) := bnd (F144x0 N (ls L 0) (fun p => some p)) fun q => [(q.isSome, ([.c (.s (q.getD default).1), .c (.s (q.getD default).2.1), .c (.b (q.getD default).2.2)], []))]
theorem raw144x0 (L : List Lf) : bd Try.prog (T147x0 N) (h144x0s0 N).h 144 sh144x0 L = F144x0 N (ls L 0) (fun p => some ([.c (.s p.1), .c (.s p.2.1), .c (.b p.2.2)], [])) := by kernel_rfl
theorem ok144x0 : FnOk Try.prog 144 sh144x0 (A144x0 N) :=
  (h144x0s0 N).fn progOk (T147x0_ok N) fun L x hx => ((raw144x0 N L).trans ((bind144x0 N ..).trans (alt1 x hx)))
noncomputable def T144x0 : Oracle := ext 144 (spSh sh144x0 (A144x0 N)) (T147x0 N)
theorem T144x0_ok : OracleOk Try.prog (T144x0 N) := FnOk.to (ok144x0 N) (T147x0_ok N)
noncomputable def rg137x0 : List (Nat × List Nat) := [(0, [0, 1, 2]), (1, [3, 1, 6, 2]), (2, [1, 3, 7, 6, 2]), (3, [3, 8, 7, 6, 2]), (10, [28, 8, 7, 6, 2, 3]), (12, [28, 8, 7, 6, 2, 3]), (4, [8, 2, 7, 3, 6]), (5, [7, 3, 6]), (6, [7, 6, 3]), (8, [3, 7, 6]), (9, [7, 3, 6]), (7, [7, 6]), (13, [8, 7, 6]), (14, [7, 6]), (11, [8, 7, 6]), (15, [7, 6])]
noncomputable def hd137x0 : Hints := [(25, [3, 7, 6], [7, 6, 3], []), (29, [7, 3, 6, 60], [7, 6, 3], []), (24023, [7, 6, 3, 46], [7, 6, 3], []), (12041, [8, 7, 6, 2, 3, 75], [7, 6, 3], []), (36035, [8, 7, 6, 28, 2, 3, 70], [7, 6, 3], [])]
noncomputable def h137x0s0 (N : Nat) : Sg Try.prog 0 137 := .start hd137x0 rg137x0
noncomputable def F137x0x25 (w1 w2 w11 : Int) (k0 : Bool → Option R) : Option R :=
  bif (w2 == 1) then
    bnd (G124x0 N w1 true) fun y0 =>
    bif y0.isSome then
      k0 (decide (w11 > (y0.getD default)))
    else
      none
  else
    k0 false
noncomputable def G137x0x25 (w1 w2 w11 : Int) : Option (Bool) := F137x0x25 N w1 w2 w11 (fun p => some p)
theorem bind137x0x25 (w1 w2 w11 : Int) (k0 : Bool → Option R) : F137x0x25 N w1 w2 w11 k0 = (G137x0x25 N w1 w2 w11).bind k0 := by
  unfold G137x0x25 F137x0x25
  repeat' (first | with_reducible apply cond_b | (with_reducible apply bnd_b; intro _) | rfl)
noncomputable def sh137x0x25 : Sh := { tmps := [(3, .c (.p 3 0)), (6, .c (.p 6 0)), (7, .c (.p 7 0))], mem := [(3, .box ([.i .i64, .i .i64, .i .i64, .i .i64])), (6, .box ([.i .i64, .i .i64, .i .i64, .s, .b])), (7, .box ([.i .i64, .i .i64, .i .i64, .s, .b]))] }
noncomputable def K137x0x25w0 (L : List Lf) (p : Bool) : Ex × St := (.normal, mg (ofSh sh137x0x25 L) [3, 6, 7, 60] [(60, .c (.b p))] [3, 6, 7] [])
noncomputable def A137x0x25 (L : List Lf) : List (Bool × (Ex × St)) := bnd (F137x0x25 N (li L 1) (li L 2) (li L 11) (fun p => some p)) fun q => [(q.isSome, K137x0x25w0 L (q.getD default))]
theorem raw137x0x25 (L : List Lf) : pc Try.prog (T144x0 N) (h137x0s0 N).h 0 100 137 25 sh137x0x25 L [7, 3, 6, 60] [7, 6, 3] = F137x0x25 N (li L 1) (li L 2) (li L 11) (fun p => some (K137x0x25w0 L p)) := by kernel_rfl
noncomputable def h137x0s1 : Sg Try.prog 0 137 :=
  (h137x0s0 N).cut (A137x0x25 N) progOk (T144x0_ok N) fun L x hx => (raw137x0x25 N L).trans ((bind137x0x25 N ..).trans (alt1 x hx))
noncomputable def F137x0x29 (N : Nat) (w0 : Bool) (w2 w12 : Int) (k0 : Int → Option R) : Option R :=
  bif w0 then
    bif (decide (0 ≤ (IntKind.wrap .i64 (8 * w2)))) then
      bnd (IntKind.wrap .i64 (1 * 2 ^ (min (IntKind.wrap .i64 (8 * w2)).toNat 64))) fun y0 =>
      k0 (IntKind.wrap .i64 (w12 - y0))
    else
      none
  else
    k0 w12
noncomputable def G137x0x29 (w0 : Bool) (w2 w12 : Int) : Option (Int) := F137x0x29 N w0 w2 w12 (fun p => some p)
theorem bind137x0x29 (w0 : Bool) (w2 w12 : Int) (k0 : Int → Option R) : F137x0x29 N w0 w2 w12 k0 = (G137x0x29 N w0 w2 w12).bind k0 := by
  unfold G137x0x29 F137x0x29
  repeat' (first | with_reducible apply cond_b | (with_reducible apply bnd_b; intro _) | rfl)
noncomputable def sh137x0x29 : Sh := { tmps := [(3, .c (.p 3 0)), (6, .c (.p 6 0)), (7, .c (.p 7 0)), (60, .c (.b))], mem := [(3, .box ([.i .i64, .i .i64, .i .i64, .i .i64])), (6, .box ([.i .i64, .i .i64, .i .i64, .s, .b])), (7, .box ([.i .i64, .i .i64, .i .i64, .s, .b]))] }
noncomputable def K137x0x29w0 (L : List Lf) (p : Int) : Ex × St := (.normal, mg (ofSh sh137x0x29 L) [6, 7] [] [6, 7] [(7, .box [.i .i64 (li L 10), .i .i64 (li L 11), .i .i64 p, .s (ls L 13), .b (lb L 14)])])
noncomputable def A137x0x29 (L : List Lf) : List (Bool × (Ex × St)) := bnd (F137x0x29 N (lb L 0) (li L 2) (li L 12) (fun p => some p)) fun q => [(q.isSome, K137x0x29w0 L (q.getD default))]
theorem raw137x0x29 (L : List Lf) : pc Try.prog (T144x0 N) (h137x0s1 N).h 0 100 137 29 sh137x0x29 L [7, 6] [7, 6] = F137x0x29 N (lb L 0) (li L 2) (li L 12) (fun p => some (K137x0x29w0 L p)) := by kernel_rfl
noncomputable def h137x0s2 : Sg Try.prog 0 137 :=
  (h137x0s1 N).cut (A137x0x29 N) progOk (T144x0_ok N) fun L x hx => (raw137x0x29 N L).trans ((bind137x0x29 N ..).trans (alt1 x hx))
noncomputable def F137x0x24023 (w0 : Bool) (w2 w3 w12 : Int) (k0 : Int → Option R) : Option R :=
  bif w0 then
    k0 0
  else
    bnd (G137x0x25 N w2 w3 w12) fun y0 =>
    bif y0.isSome then
      bnd (G137x0x29 N (y0.getD default) w2 w12) fun y1 =>
      bif y1.isSome then
        k0 (y1.getD default)
      else
        none
    else
      none
noncomputable def G137x0x24023 (w0 : Bool) (w2 w3 w12 : Int) : Option (Int) := F137x0x24023 N w0 w2 w3 w12 (fun p => some p)
theorem bind137x0x24023 (w0 : Bool) (w2 w3 w12 : Int) (k0 : Int → Option R) : F137x0x24023 N w0 w2 w3 w12 k0 = (G137x0x24023 N w0 w2 w3 w12).bind k0 := by
  unfold G137x0x24023 F137x0x24023
  repeat' (first | with_reducible apply cond_b | (with_reducible apply bnd_b; intro _) | rfl)
noncomputable def J137x0x24023 (L : List Lf) (k0 : Int → Option R) : Option R := F137x0x24023 N (lb L 0) (li L 2) (li L 3) (li L 12) k0
noncomputable def sh137x0x24023 : Sh := { tmps := [(3, .c (.p 3 0)), (6, .c (.p 6 0)), (7, .c (.p 7 0)), (46, .c (.b))], mem := [(3, .box ([.i .i64, .i .i64, .i .i64, .i .i64])), (6, .box ([.i .i64, .i .i64, .i .i64, .s, .b])), (7, .box ([.i .i64, .i .i64, .i .i64, .s, .b]))] }
noncomputable def K137x0x24023w0 (L : List Lf) (p : Int) : Ex × St := (.normal, mg (ofSh sh137x0x24023 L) [6, 7] [] [6, 7] [(7, .box [.i .i64 (li L 10), .i .i64 (li L 11), .i .i64 p, .s (ls L 13), .b (lb L 14)])])
noncomputable def A137x0x24023 (L : List Lf) : List (Bool × (Ex × St)) := bnd (J137x0x24023 N L (fun p => some p)) fun q => [(q.isSome, K137x0x24023w0 L (q.getD default))]
theorem raw137x0x24023 (L : List Lf) : pc Try.prog (T144x0 N) (h137x0s2 N).h 0 100 137 24023 sh137x0x24023 L [7, 6] [7, 6] = J137x0x24023 N L (fun p => some (K137x0x24023w0 L p)) := by kernel_rfl
noncomputable def h137x0s3 : Sg Try.prog 0 137 :=
  (h137x0s2 N).cut (A137x0x24023 N) progOk (T144x0_ok N) fun L x hx => (raw137x0x24023 N L).trans ((bind137x0x24023 N ..).trans (alt1 x hx))
noncomputable def F137x0x12041 (w0 : Bool) (w2 : LD) (w3 : Bool) (w5 w6 w15 : Int) (w16 : LB) (k0 : Ty5 → Option R) : Option R :=
  bif w3 then
    bnd (G144x0 N (strD w2)) fun y0 =>
    bif y0.isSome then
      k0 (w15, (y0.getD default).1, ((y0.getD default).1 == ([] : List UInt8)))
    else
      none
  else
    bnd (G81x0 N w2 w0) fun y1 =>
    bif y1.isSome then
      bnd (G124x0 N w5 (w6 == 1)) fun y2 =>
      bif y2.isSome then
        bnd (G137x0x24023 N ((y1.getD default) == (y2.getD default)) w5 w6 (y1.getD default)) fun y3 =>
        bif y3.isSome then
          k0 ((y3.getD default), w16, ((y1.getD default) == (y2.getD default)))
        else
          none
      else
        none
    else
      none
noncomputable def G137x0x12041 (w0 : Bool) (w2 : LD) (w3 : Bool) (w5 w6 w15 : Int) (w16 : LB) : Option (Ty5) := F137x0x12041 N w0 w2 w3 w5 w6 w15 w16 (fun p => some p)
theorem bind137x0x12041 (w0 : Bool) (w2 : LD) (w3 : Bool) (w5 w6 w15 : Int) (w16 : LB) (k0 : Ty5 → Option R) : F137x0x12041 N w0 w2 w3 w5 w6 w15 w16 k0 = (G137x0x12041 N w0 w2 w3 w5 w6 w15 w16).bind k0 := by
  unfold G137x0x12041 F137x0x12041
  repeat' (first | with_reducible apply cond_b | (with_reducible apply bnd_b; intro _) | rfl)
noncomputable def J137x0x12041 (L : List Lf) (k0 : Ty5 → Option R) : Option R := F137x0x12041 N (lb L 0) (ll L 2) (lb L 3) (li L 5) (li L 6) (li L 15) (ls L 16) k0
noncomputable def sh137x0x12041 : Sh := { tmps := [(2, .c (.b)), (3, .c (.p 3 0)), (6, .c (.p 6 0)), (7, .c (.p 7 0)), (8, .c (.sl 5)), (75, .c (.b))], mem := [(3, .box ([.i .i64, .i .i64, .i .i64, .i .i64])), (6, .box ([.i .i64, .i .i64, .i .i64, .s, .b])), (7, .box ([.i .i64, .i .i64, .i .i64, .s, .b]))] }
noncomputable def K137x0x12041w0 (L : List Lf) (p : Ty5) : Ex × St := (.normal, mg (ofSh sh137x0x12041 L) [6, 7] [] [6, 7] [(7, .box [.i .i64 (li L 13), .i .i64 (li L 14), .i .i64 p.1, .s p.2.1, .b p.2.2])])
noncomputable def A137x0x12041 (L : List Lf) : List (Bool × (Ex × St)) := bnd (J137x0x12041 N L (fun p => some p)) fun q => [(q.isSome, K137x0x12041w0 L (q.getD default))]
theorem raw137x0x12041 (L : List Lf) : pc Try.prog (T144x0 N) (h137x0s3 N).h 0 100 137 12041 sh137x0x12041 L [7, 6] [7, 6] = J137x0x12041 N L (fun p => some (K137x0x12041w0 L p)) := by kernel_rfl
noncomputable def h137x0s4 : Sg Try.prog 0 137 :=
  (h137x0s3 N).cut (A137x0x12041 N) progOk (T144x0_ok N) fun L x hx => (raw137x0x12041 N L).trans ((bind137x0x12041 N ..).trans (alt1 x hx))
noncomputable def F137x0x36035 (w0 : Bool) (w2 : LD) (w3 : Int) (w4 : Bool) (w6 w7 w16 : Int) (w17 : LB) (w18 : Bool) (k0 : Ty5 → Option R) : Option R :=
  bif w4 then
    k0 (w16, (strD w2), w18)
  else
    bnd (G137x0x12041 N w0 w2 (w3 == 2) w6 w7 w16 w17) fun y0 =>
    bif y0.isSome then
      k0 (y0.getD default)
    else
      none
noncomputable def G137x0x36035 (w0 : Bool) (w2 : LD) (w3 : Int) (w4 : Bool) (w6 w7 w16 : Int) (w17 : LB) (w18 : Bool) : Option (Ty5) := F137x0x36035 N w0 w2 w3 w4 w6 w7 w16 w17 w18 (fun p => some p)
theorem bind137x0x36035 (w0 : Bool) (w2 : LD) (w3 : Int) (w4 : Bool) (w6 w7 w16 : Int) (w17 : LB) (w18 : Bool) (k0 : Ty5 → Option R) : F137x0x36035 N w0 w2 w3 w4 w6 w7 w16 w17 w18 k0 = (G137x0x36035 N w0 w2 w3 w4 w6 w7 w16 w17 w18).bind k0 := by
  unfold G137x0x36035 F137x0x36035
  repeat' (first | with_reducible apply cond_b | (with_reducible apply bnd_b; intro _) | rfl)
noncomputable def J137x0x36035 (L : List Lf) (k0 : Ty5 → Option R) : Option R := F137x0x36035 N (lb L 0) (ll L 2) (li L 3) (lb L 4) (li L 6) (li L 7) (li L 16) (ls L 17) (lb L 18) k0
noncomputable def sh137x0x36035 : Sh := { tmps := [(2, .c (.b)), (3, .c (.p 3 0)), (6, .c (.p 6 0)), (7, .c (.p 7 0)), (8, .c (.sl 5)), (28, .c (.i .i64)), (70, .c (.b))], mem := [(3, .box ([.i .i64, .i .i64, .i .i64, .i .i64])), (6, .box ([.i .i64, .i .i64, .i .i64, .s, .b])), (7, .box ([.i .i64, .i .i64, .i .i64, .s, .b]))] }
noncomputable def K137x0x36035w0 (L : List Lf) (p : Ty5) : Ex × St := (.normal, mg (ofSh sh137x0x36035 L) [6, 7] [] [6, 7] [(7, .box [.i .i64 (li L 14), .i .i64 (li L 15), .i .i64 p.1, .s p.2.1, .b p.2.2])])
noncomputable def A137x0x36035 (L : List Lf) : List (Bool × (Ex × St)) := bnd (J137x0x36035 N L (fun p => some p)) fun q => [(q.isSome, K137x0x36035w0 L (q.getD default))]
theorem raw137x0x36035 (L : List Lf) : pc Try.prog (T144x0 N) (h137x0s4 N).h 0 100 137 36035 sh137x0x36035 L [7, 6] [7, 6] = J137x0x36035 N L (fun p => some (K137x0x36035w0 L p)) := by kernel_rfl
noncomputable def h137x0s5 : Sg Try.prog 0 137 :=
  (h137x0s4 N).cut (A137x0x36035 N) progOk (T144x0_ok N) fun L x hx => (raw137x0x36035 N L).trans ((bind137x0x36035 N ..).trans (alt1 x hx))
noncomputable def F137x0 (v1 v2 v3 : Int) (v5 : LD) (v6 : Bool) (k0 : Ty5 → Option R) : Option R :=
  bif (((decide (0 ≤ v3)) && (decide (v3 ≤ (IntKind.wrap .i64 (v3 + v1))))) && (decide ((IntKind.wrap .i64 (v3 + v1)) ≤ (v5.length : Int)))) then
    bnd (((v5.take (IntKind.wrap .i64 (v3 + v1)).toNat).drop v3.toNat) : List D) fun y0 =>
    bnd (G137x0x36035 N v6 y0 v2 (v2 == 3) v1 v2 0 ([] : List UInt8) false) fun y1 =>
    bif y1.isSome then
      k0 (y1.getD default)
    else
      none
  else
    none
noncomputable def G137x0 (v1 v2 v3 : Int) (v5 : LD) (v6 : Bool) : Option (Ty5) := F137x0 N v1 v2 v3 v5 v6 (fun p => some p)
theorem bind137x0 (v1 v2 v3 : Int) (v5 : LD) (v6 : Bool) (k0 : Ty5 → Option R) : F137x0 N v1 v2 v3 v5 v6 k0 = (G137x0 N v1 v2 v3 v5 v6).bind k0 := by
  unfold G137x0 F137x0
  repeat' (first | with_reducible apply cond_b | (with_reducible apply bnd_b; intro _) | rfl)
noncomputable def J137x0 (L : List Lf) (k0 : Ty5 → Option R) : Option R := F137x0 N (li L 1) (li L 2) (li L 3) (ll L 5) (lb L 6) k0
noncomputable def sh137x0 : Sh := { tmps := [(0, .g ([.i .i64, .i .i64, .i .i64, .i .i64])), (1, .c (.sl 5)), (2, .c (.b))], mem := [] }
noncomputable def K137x0w0 (L : List Lf) (p : Ty5) : Res := ([.g [.i .i64 (li L 0), .i .i64 (li L 2), .i .i64 p.1, .s p.2.1, .b p.2.2]], [])
noncomputable def A137x0 (L : List Lf) : List (Bool × Res) := bnd (J137x0 N L (fun p => some p)) fun q => [(q.isSome, K137x0w0 L (q.getD default))]
theorem raw137x0 (L : List Lf) : bd Try.prog (T144x0 N) (h137x0s5 N).h 137 sh137x0 L = J137x0 N L (fun p => some (K137x0w0 L p)) := by kernel_rfl
theorem ok137x0 : FnOk Try.prog 137 sh137x0 (A137x0 N) :=
  (h137x0s5 N).fn progOk (T144x0_ok N) fun L x hx => ((raw137x0 N L).trans ((bind137x0 N ..).trans (alt1 x hx)))
noncomputable def T137x0 : Oracle := ext 137 (spSh sh137x0 (A137x0 N)) (T144x0 N)
theorem T137x0_ok : OracleOk Try.prog (T137x0 N) := FnOk.to (ok137x0 N) (T144x0_ok N)
noncomputable def rg94x0 : List (Nat × List Nat) := [(0, [0, 1]), (1, [2, 3]), (2, [2, 3, 5]), (3, [14, 13, 12, 5, 3, 2]), (4, [12, 14, 5, 3, 2, 13]), (5, [5, 7, 3, 2, 14, 13, 12]), (6, [14, 13, 12, 5, 3, 2]), (7, [5])]
noncomputable def hd94x0 : Hints := [(9, [14, 13, 12, 5, 3, 2], [3, 2, 5], [5])]
noncomputable def h94x0s0 (N : Nat) : Sg Try.prog 0 94 := .start hd94x0 rg94x0
noncomputable def S94x0x9 (w1 : LD) (w2 : Int) (w5 : Bool) (w17 : LD) (w3 : Int) (w18 : Bool) (w19 : LD) (kr : Int → Bool → LD → Option R) (k0 : Bool × LD → Option R) : Option R :=
  bif (decide (w3 < w2)) then
    bif (inB w3 w1.length) then
      bnd (G137x0 N ((w1.getD w3.toNat (.i 0)).cell 1).toI ((w1.getD w3.toNat (.i 0)).cell 2).toI ((w1.getD w3.toNat (.i 0)).cell 3).toI w17 w5) fun y0 =>
      bif y0.isSome then
        bif (decide ((w19.length + 1) * 48 ≤ room) && decide ((w19.length + 1) ≤ strMax)) then
          bnd ((w19 ++ [(.a [(.i ((w1.getD w3.toNat (.i 0)).cell 0).toI), (.i ((w1.getD w3.toNat (.i 0)).cell 2).toI), (.i (y0.getD default).1), (.s (y0.getD default).2.1), (.b (y0.getD default).2.2)])]) : List D) fun y1 =>
          kr (IntKind.wrap .i64 (w3 + 1)) false y1
        else
          none
      else
        none
    else
      none
  else
    k0 (w18, w19)
noncomputable def L94x0x9 (N : Nat) {R : Type} (w1 : LD) (w2 : Int) (w5 : Bool) (w17 : LD) : Nat → Int → Bool → LD → (Bool × LD → Option R) → Option R
  | 0, _, _, _, _ => none
  | m + 1, w3, w18, w19, k0 => S94x0x9 N w1 w2 w5 w17 w3 w18 w19 (fun w3 w18 w19 => L94x0x9 N w1 w2 w5 w17 m w3 w18 w19 k0) k0
noncomputable def G94x0x9 (w1 : LD) (w2 : Int) (w5 : Bool) (w17 : LD) (w3 : Int) (w18 : Bool) (w19 : LD) : Option (Bool × LD) := L94x0x9 N (R := (Bool × LD)) w1 w2 w5 w17 N w3 w18 w19 (fun p => some p)
noncomputable def J94x0x9 (L x : List Lf) (kr : List Lf → Option R) (k0 : Bool × LD → Option R) : Option R := S94x0x9 N (ll L 1) (li L 2) (lb L 5) (ll L 17) (li x 0) (lb x 1) (ll x 2) (fun w3 w18 w19 => kr [.i w3, .b w18, .l w19]) k0
theorem sb94x0x9 (L x : List Lf) (kr : List Lf → Option R) (k0 : Bool × LD → Option R) : J94x0x9 N L x kr k0 = (J94x0x9 N L x (fun y => some (.inl y)) (fun p => some (.inr p))).bind (sumE kr k0) := by
  unfold J94x0x9 S94x0x9
  repeat' (first | with_reducible apply cond_b | (with_reducible apply bnd_b; intro _) | rfl)
noncomputable def Q94x0x9 (L : List Lf) (m : Nat) (x : List Lf) : Option (Bool × LD) := L94x0x9 N (R := (Bool × LD)) (ll L 1) (li L 2) (lb L 5) (ll L 17) m (li x 0) (lb x 1) (ll x 2) (fun p => some p)
noncomputable def sh94x0x9 : Sh := { tmps := [(2, .c (.p 2 0)), (3, .c (.p 3 0)), (5, .c (.o 5)), (12, .c (.sl 148)), (13, .c (.i .i64)), (14, .c (.i .i64))], mem := [(2, .box (.b :: [.b, .i .i64, .sl 146, .i .i64, .i .i64])), (3, .box ([.i .i64, .i .i64, .i .i64, .sl 103, .sl 5])), (5, .row 65 true)] }
noncomputable def A94x0x9 (L : List Lf) : List (Bool × (Ex × St)) := bnd (Q94x0x9 N L N (pk sh94x0x9 [3, 18, 19] L)) fun q => [(q.isSome, ((.exit 0), ⟨[(5, .c (.o 5))], [(5, .row 65 true (q.getD default).1 (q.getD default).2)]⟩))]
theorem step94x0x9 (m : Nat) (kn : St → Option (Ex × St)) (L x : List Lf) : lpB Try.prog (T137x0 N) (h94x0s0 N).h 0 94 9 sh94x0x9 [3, 18, 19] [4, 5] [5] (m + 100) kn L x = J94x0x9 N L x (fun y => kn (ofSh sh94x0x9 (mx sh94x0x9 [3, 18, 19] L y))) (fun p => some ((.exit 0), ⟨[(5, .c (.o 5))], [(5, .row 65 true p.1 p.2)]⟩)) := by kernel_rfl
theorem ql94x0x9 (L : List Lf) (m : Nat) (x : List Lf) : Q94x0x9 N L (m + 1) x = J94x0x9 N L x (Q94x0x9 N L m) some := by kernel_rfl
noncomputable def h94x0s1 : Sg Try.prog 0 94 :=
  (h94x0s0 N).lp (A94x0x9 N) N progOk (T137x0_ok N) (fun m kn L x => (step94x0x9 N m kn L x).trans (sb94x0x9 N L x _ _)) (fun L m x => (ql94x0x9 N L m x).trans (sb94x0x9 N L x (Q94x0x9 N L m) some)) fun L x hx => alt1 x hx
noncomputable def F94x0 (v1 : Bool) (v4 : LD) (v6 v7 : Int) (v13 : LD) (k0 : Bool × LD → Option R) : Option R :=
  bnd (G96x0 N v4 v6 (v7 == 3)) fun y0 =>
  bif y0.isSome then
    bnd (G94x0x9 N (y0.getD default).2 ((y0.getD default).2.length : Int) v1 v13 0 true []) fun y1 =>
    bif y1.isSome then
      k0 (y1.getD default)
    else
      none
  else
    none
noncomputable def G94x0 (v1 : Bool) (v4 : LD) (v6 v7 : Int) (v13 : LD) : Option (Bool × LD) := F94x0 N v1 v4 v6 v7 v13 (fun p => some p)
theorem bind94x0 (v1 : Bool) (v4 : LD) (v6 v7 : Int) (v13 : LD) (k0 : Bool × LD → Option R) : F94x0 N v1 v4 v6 v7 v13 k0 = (G94x0 N v1 v4 v6 v7 v13).bind k0 := by
  unfold G94x0 F94x0
  repeat' (first | with_reducible apply cond_b | (with_reducible apply bnd_b; intro _) | rfl)
noncomputable def J94x0 (L : List Lf) (k0 : Bool × LD → Option R) : Option R := F94x0 N (lb L 1) (ll L 4) (li L 6) (li L 7) (ll L 13) k0
noncomputable def sh94x0 : Sh := { tmps := [(0, .g (.b :: [.b, .i .i64, .sl 146, .i .i64, .i .i64])), (1, .g ([.i .i64, .i .i64, .i .i64, .sl 103, .sl 5]))], mem := [] }
noncomputable def A94x0 (L : List Lf) : List (Bool × Res) := bnd (J94x0 N L (fun p => some p)) fun q => [(q.isSome, ([.c (.sl 65 (q.getD default).1 (q.getD default).2)], []))]
theorem raw94x0 (L : List Lf) : bd Try.prog (T137x0 N) (h94x0s1 N).h 94 sh94x0 L = J94x0 N L (fun p => some ([.c (.sl 65 p.1 p.2)], [])) := by kernel_rfl
theorem ok94x0 : FnOk Try.prog 94 sh94x0 (A94x0 N) :=
  (h94x0s1 N).fn progOk (T137x0_ok N) fun L x hx => ((raw94x0 N L).trans ((bind94x0 N ..).trans (alt1 x hx)))
noncomputable def T94x0 : Oracle := ext 94 (spSh sh94x0 (A94x0 N)) (T137x0 N)
theorem T94x0_ok : OracleOk Try.prog (T94x0 N) := FnOk.to (ok94x0 N) (T137x0_ok N)
noncomputable def rg85x0 : List (Nat × List Nat) := [(0, [0]), (1, [1]), (2, [1, 3]), (3, [1, 4, 3]), (4, [13, 12, 11, 4, 3]), (5, [11, 13, 4, 3, 12]), (6, [4, 6, 3, 13, 12, 11]), (7, [4, 6, 3, 7, 13, 12, 11]), (8, [6, 3, 8, 7, 13, 12, 11, 4]), (9, [3, 8, 7, 6, 13, 12, 11, 4]), (10, [13, 12, 11, 4, 3]), (11, [3])]
noncomputable def hd85x0 : Hints := [(12, [13, 12, 11, 4, 3], [10000000002, 3], [3]), (29, [3, 8, 7, 6, 13, 12, 11, 4, 29], [8, 6, 10000000002, 3], [])]
noncomputable def h85x0s0 (N : Nat) : Sg Try.prog 0 85 := .start hd85x0 rg85x0
noncomputable def F85x0x29 (w0 : Int) (w5 : Bool) (w7 : LD) (w8 : Int) (w14 : LD) (w16 : Bool) (w17 : Int) (w19 : LD) (w21 : Int) (k0 : LD → Option R) (k1 : Unit → Option R) : Option R :=
  bif w5 then
    bnd (G94x0 N w16 w19 w21 w8 w14) fun y0 =>
    bif y0.isSome then
      bif (decide ((w7.length + 1) * 40 ≤ room) && decide ((w7.length + 1) ≤ strMax)) then
        bnd ((w7 ++ [(.a [(.i w17), (.i w0), (.l (y0.getD default).1 (y0.getD default).2)])]) : List D) fun y1 =>
        k0 y1
      else
        none
    else
      none
  else
    k1 ()
noncomputable def G85x0x29 (w0 : Int) (w5 : Bool) (w7 : LD) (w8 : Int) (w14 : LD) (w16 : Bool) (w17 : Int) (w19 : LD) (w21 : Int) : Option (Sum (LD) (Unit)) := F85x0x29 N w0 w5 w7 w8 w14 w16 w17 w19 w21 (fun p => some (.inl p)) (fun p => some (.inr p))
theorem bind85x0x29 (w0 : Int) (w5 : Bool) (w7 : LD) (w8 : Int) (w14 : LD) (w16 : Bool) (w17 : Int) (w19 : LD) (w21 : Int) (k0 : LD → Option R) (k1 : Unit → Option R) : F85x0x29 N w0 w5 w7 w8 w14 w16 w17 w19 w21 k0 k1 = (G85x0x29 N w0 w5 w7 w8 w14 w16 w17 w19 w21).bind (sumE k0 k1) := by
  unfold G85x0x29 F85x0x29
  repeat' (first | with_reducible apply cond_b | (with_reducible apply bnd_b; intro _) | rfl)
noncomputable def J85x0x29 (L : List Lf) (k0 : LD → Option R) (k1 : Unit → Option R) : Option R := F85x0x29 N (li L 0) (lb L 5) (ll L 7) (li L 8) (ll L 14) (lb L 16) (li L 17) (ll L 19) (li L 21) k0 k1
noncomputable def sh85x0x29 : Sh := { tmps := [(3, .c (.o 3)), (4, .c (.p 10000000002 0)), (6, .c (.p 6 0)), (7, .c (.i .i64)), (8, .c (.p 8 0)), (11, .c (.sl 53)), (12, .c (.i .i64)), (13, .c (.i .i64)), (29, .c (.b))], mem := [(3, .row 129 true), (6, .box ([.i .i64, .i .i64, .i .i64, .sl 103, .sl 5])), (8, .box (.b :: [.b, .i .i64, .sl 146, .i .i64, .i .i64])), (10000000002, .dat 116)] }
noncomputable def K85x0x29w0 (L : List Lf) (p : LD) : Ex × St := (.normal, mg (ofSh sh85x0x29 L) [3, 4, 11, 12, 13] [(3, .c (.o 40))] [40, 10000000002] [(40, .row 129 true false p)])
noncomputable def K85x0x29w1 (L : List Lf) (_ : Unit) : Ex × St := (.normal, mg (ofSh sh85x0x29 L) [3, 4, 11, 12, 13] [] [3, 10000000002] [])
noncomputable def A85x0x29 (L : List Lf) : List (Bool × (Ex × St)) := bnd (J85x0x29 N L (fun p => some (.inl p)) (fun p => some (.inr p))) fun q => [((inlB q), K85x0x29w0 L (inlV q)), ((inrQ q).isSome, K85x0x29w1 L ())]
theorem raw85x0x29 (L : List Lf) : pc Try.prog (T94x0 N) (h85x0s0 N).h 0 100 85 29 sh85x0x29 L [13, 12, 11, 4, 3] [10000000002, 40, 3] = J85x0x29 N L (fun p => some (K85x0x29w0 L p)) (fun _ => some (K85x0x29w1 L ())) := by kernel_rfl
noncomputable def h85x0s1 : Sg Try.prog 0 85 :=
  (h85x0s0 N).cut (A85x0x29 N) progOk (T94x0_ok N) fun L x hx => (raw85x0x29 N L).trans ((bind85x0x29 N ..).trans ((altS alt1) x hx))
noncomputable def S85x0x12 (w1 : LD) (w2 : Int) (w3 : Int) (w4 : Bool) (w5 : LD) (w6 : D) (kr : Int → Bool → LD → D → Option R) (k0 : Bool × LD → Option R) : Option R :=
  bif (decide (w3 < w2)) then
    bif (inB w3 w1.length) then
      bnd (G72x0 N ((w1.getD w3.toNat (.i 0)).cell 0).toI ((w1.getD w3.toNat (.i 0)).cell 1).toI ((w1.getD w3.toNat (.i 0)).cell 2).toI ((w1.getD w3.toNat (.i 0)).cell 3).items ((w1.getD w3.toNat (.i 0)).cell 4).items w6) fun y0 =>
      bif y0.isSome then
        bif (inB ((w1.getD w3.toNat (.i 0)).cell 1).toI 16) then
          bnd ((y0.getD default).2.cell (0 + (((w1.getD w3.toNat (.i 0)).cell 1).toI.toNat * 6))).toB fun y1 =>
          bnd ((y0.getD default).2.cell (1 + (((w1.getD w3.toNat (.i 0)).cell 1).toI.toNat * 6))).toB fun y2 =>
          bnd ((y0.getD default).2.cell (2 + (((w1.getD w3.toNat (.i 0)).cell 1).toI.toNat * 6))).toI fun y3 =>
          bnd ((y0.getD default).2.cell (3 + (((w1.getD w3.toNat (.i 0)).cell 1).toI.toNat * 6))).isNil fun y4 =>
          bnd (((y0.getD default).2.cell (3 + (((w1.getD w3.toNat (.i 0)).cell 1).toI.toNat * 6))).items : List D) fun y5 =>
          bnd ((y0.getD default).2.cell (4 + (((w1.getD w3.toNat (.i 0)).cell 1).toI.toNat * 6))).toI fun y6 =>
          bnd ((y0.getD default).2.cell (5 + (((w1.getD w3.toNat (.i 0)).cell 1).toI.toNat * 6))).toI fun y7 =>
          bnd (G85x0x29 N (y0.getD default).1 (((w1.getD w3.toNat (.i 0)).cell 0).toI != 1) w5 ((w1.getD w3.toNat (.i 0)).cell 0).toI ((w1.getD w3.toNat (.i 0)).cell 4).items y2 y3 y5 y7) fun y8 =>
          bif (inlB y8) then
            kr (IntKind.wrap .i64 (w3 + 1)) false (inlV y8) (y0.getD default).2
          else
            bif (inrQ y8).isSome then
              kr (IntKind.wrap .i64 (w3 + 1)) w4 w5 (y0.getD default).2
            else
              none
        else
          none
      else
        none
    else
      none
  else
    k0 (w4, w5)
noncomputable def L85x0x12 (N : Nat) {R : Type} (w1 : LD) (w2 : Int) : Nat → Int → Bool → LD → D → (Bool × LD → Option R) → Option R
  | 0, _, _, _, _, _ => none
  | m + 1, w3, w4, w5, w6, k0 => S85x0x12 N w1 w2 w3 w4 w5 w6 (fun w3 w4 w5 w6 => L85x0x12 N w1 w2 m w3 w4 w5 w6 k0) k0
noncomputable def G85x0x12 (w1 : LD) (w2 : Int) (w3 : Int) (w4 : Bool) (w5 : LD) (w6 : D) : Option (Bool × LD) := L85x0x12 N (R := (Bool × LD)) w1 w2 N w3 w4 w5 w6 (fun p => some p)
noncomputable def J85x0x12 (L x : List Lf) (kr : List Lf → Option R) (k0 : Bool × LD → Option R) : Option R := S85x0x12 N (ll L 1) (li L 2) (li x 0) (lb x 1) (ll x 2) (ld x 3) (fun w3 w4 w5 w6 => kr [.i w3, .b w4, .l w5, .d w6]) k0
theorem sb85x0x12 (L x : List Lf) (kr : List Lf → Option R) (k0 : Bool × LD → Option R) : J85x0x12 N L x kr k0 = (J85x0x12 N L x (fun y => some (.inl y)) (fun p => some (.inr p))).bind (sumE kr k0) := by
  unfold J85x0x12 S85x0x12
  repeat' (first | with_reducible apply cond_b | (with_reducible apply bnd_b; intro _) | rfl)
noncomputable def Q85x0x12 (L : List Lf) (m : Nat) (x : List Lf) : Option (Bool × LD) := L85x0x12 N (R := (Bool × LD)) (ll L 1) (li L 2) m (li x 0) (lb x 1) (ll x 2) (ld x 3) (fun p => some p)
noncomputable def sh85x0x12 : Sh := { tmps := [(3, .c (.o 3)), (4, .c (.p 10000000002 0)), (11, .c (.sl 53)), (12, .c (.i .i64)), (13, .c (.i .i64))], mem := [(3, .row 129 true), (10000000002, .dat 116)] }
noncomputable def K85x0x12w0 (L : List Lf) (p : Bool × LD) : Ex × St := ((.exit 0), ⟨[(3, .c (.o 3))], [(3, .row 129 true p.1 p.2)]⟩)
noncomputable def A85x0x12 (L : List Lf) : List (Bool × (Ex × St)) := bnd (Q85x0x12 N L N (pk sh85x0x12 [3, 4, 5, 6] L)) fun q => [(q.isSome, K85x0x12w0 L (q.getD default))]
theorem step85x0x12 (m : Nat) (kn : St → Option (Ex × St)) (L x : List Lf) : lpB Try.prog (T94x0 N) (h85x0s1 N).h 0 85 12 sh85x0x12 [3, 4, 5, 6] [2, 3] [3] (m + 100) kn L x = J85x0x12 N L x (fun y => kn (ofSh sh85x0x12 (mx sh85x0x12 [3, 4, 5, 6] L y))) (fun p => some (K85x0x12w0 L p)) := by kernel_rfl
theorem ql85x0x12 (L : List Lf) (m : Nat) (x : List Lf) : Q85x0x12 N L (m + 1) x = J85x0x12 N L x (Q85x0x12 N L m) some := by kernel_rfl
noncomputable def h85x0s2 : Sg Try.prog 0 85 :=
  (h85x0s1 N).lp (A85x0x12 N) N progOk (T94x0_ok N) (fun m kn L x => (step85x0x12 N m kn L x).trans (sb85x0x12 N L x _ _)) (fun L m x => (ql85x0x12 N L m x).trans (sb85x0x12 N L x (Q85x0x12 N L m) some)) fun L x hx => alt1 x hx
noncomputable def F85x0 (v1 : LD) (k0 : Bool × LD → Option R) : Option R :=
  bnd (V70x0 N) fun y0 =>
  bnd (G85x0x12 N v1 (v1.length : Int) 0 true [] y0) fun y1 =>
  bif y1.isSome then
    k0 (y1.getD default)
  else
    none
noncomputable def G85x0 (v1 : LD) : Option (Bool × LD) := F85x0 N v1 (fun p => some p)
theorem bind85x0 (v1 : LD) (k0 : Bool × LD → Option R) : F85x0 N v1 k0 = (G85x0 N v1).bind k0 := by
  unfold G85x0 F85x0
  repeat' (first | with_reducible apply cond_b | (with_reducible apply bnd_b; intro _) | rfl)
noncomputable def sh85x0 : Sh := { tmps := [(0, .g ([.sl 53]))], mem := [] }
noncomputable def A85x0 (L : List Lf) : List (Bool × Res) := bnd (F85x0 N (ll L 1) (fun p => some p)) fun q => [(q.isSome, ([.c (.sl 129 (q.getD default).1 (q.getD default).2)], []))]
theorem raw85x0 (L : List Lf) : bd Try.prog (T94x0 N) (h85x0s2 N).h 85 sh85x0 L = F85x0 N (ll L 1) (fun p => some ([.c (.sl 129 p.1 p.2)], [])) := by kernel_rfl
theorem ok85x0 : FnOk Try.prog 85 sh85x0 (A85x0 N) :=
  (h85x0s2 N).fn progOk (T94x0_ok N) fun L x hx => ((raw85x0 N L).trans ((bind85x0 N ..).trans (alt1 x hx)))
noncomputable def T85x0 : Oracle := ext 85 (spSh sh85x0 (A85x0 N)) (T94x0 N)
theorem T85x0_ok : OracleOk Try.prog (T85x0 N) := FnOk.to (ok85x0 N) (T94x0_ok N)
noncomputable def rg86x0 : List (Nat × List Nat) := [(0, [0, 1]), (1, [2, 1]), (2, [10, 9, 8, 1]), (3, [8, 10, 1, 9]), (4, [6, 1, 10, 9, 8]), (5, [6]), (6, [10, 9, 8, 1]), (7, [])]
noncomputable def hd86x0 : Hints := [(6, [10, 9, 8, 1], [], [])]
noncomputable def h86x0s0 (N : Nat) : Sg Try.prog 0 86 := .start hd86x0 rg86x0
noncomputable def S86x0x6 (N : Nat) (w0 : Int) (w2 : LD) (w3 : Int) (w4 : Int) (kr : Int → Option R) (k0 : LB → Option R) (k1 : Unit → Option R) : Option R :=
  bif (decide (w4 < w3)) then
    bif (inB w4 w2.length) then
      bnd (bif (((w2.getD w4.toNat (.i 0)).cell 0).toI == w0) then (((w2.getD w4.toNat (.i 0)).cell 1).toI == 2) else false) fun y0 =>
      bif y0 then
        k0 ((w2.getD w4.toNat (.i 0)).cell 3).toS
      else
        kr (IntKind.wrap .i64 (w4 + 1))
    else
      none
  else
    k1 ()
noncomputable def L86x0x6 (N : Nat) {R : Type} (w0 : Int) (w2 : LD) (w3 : Int) : Nat → Int → (LB → Option R) → (Unit → Option R) → Option R
  | 0, _, _, _ => none
  | m + 1, w4, k0, k1 => S86x0x6 N w0 w2 w3 w4 (fun w4 => L86x0x6 N w0 w2 w3 m w4 k0 k1) k0 k1
noncomputable def G86x0x6 (w0 : Int) (w2 : LD) (w3 : Int) (w4 : Int) : Option (Sum (LB) (Unit)) := L86x0x6 N (R := (Sum (LB) (Unit))) w0 w2 w3 N w4 (fun p => some (.inl p)) (fun p => some (.inr p))
noncomputable def J86x0x6 (L x : List Lf) (kr : List Lf → Option R) (k0 : LB → Option R) (k1 : Unit → Option R) : Option R := S86x0x6 N (li L 0) (ll L 2) (li L 3) (li x 0) (fun w4 => kr [.i w4]) k0 k1
theorem sb86x0x6 (L x : List Lf) (kr : List Lf → Option R) (k0 : LB → Option R) (k1 : Unit → Option R) : J86x0x6 N L x kr k0 k1 = (J86x0x6 N L x (fun y => some (.inl y)) (fun p => some (.inr (.inl p))) (fun p => some (.inr (.inr p)))).bind (sumE kr (sumE k0 k1)) := by
  unfold J86x0x6 S86x0x6
  repeat' (first | with_reducible apply cond_b | (with_reducible apply bnd_b; intro _) | rfl)
noncomputable def Q86x0x6 (L : List Lf) (m : Nat) (x : List Lf) : Option (Sum (LB) (Unit)) := L86x0x6 N (R := (Sum (LB) (Unit))) (li L 0) (ll L 2) (li L 3) m (li x 0) (fun p => some (.inl p)) (fun p => some (.inr p))
noncomputable def sh86x0x6 : Sh := { tmps := [(1, .c (.i .i64)), (8, .c (.sl 65)), (9, .c (.i .i64)), (10, .c (.i .i64))], mem := [] }
noncomputable def A86x0x6 (L : List Lf) : List (Bool × (Ex × St)) := bnd (Q86x0x6 N L N (pk sh86x0x6 [4] L)) fun q => [((inlB q), (.ret, ⟨[(4, .c (.s (inlV q)))], []⟩)), ((inrQ q).isSome, ((.exit 0), ⟨[], []⟩))]
theorem step86x0x6 (m : Nat) (kn : St → Option (Ex × St)) (L x : List Lf) : lpB Try.prog (T85x0 N) (h86x0s0 N).h 0 86 6 sh86x0x6 [4] [4] [] (m + 100) kn L x = J86x0x6 N L x (fun y => kn (ofSh sh86x0x6 (mx sh86x0x6 [4] L y))) (fun p => some (.ret, ⟨[(4, .c (.s p))], []⟩)) (fun _ => some ((.exit 0), ⟨[], []⟩)) := by kernel_rfl
theorem ql86x0x6 (L : List Lf) (m : Nat) (x : List Lf) : Q86x0x6 N L (m + 1) x = J86x0x6 N L x (Q86x0x6 N L m) (fun p => some (.inl p)) (fun p => some (.inr p)) := by kernel_rfl
noncomputable def h86x0s1 : Sg Try.prog 0 86 :=
  (h86x0s0 N).lp (A86x0x6 N) N progOk (T85x0_ok N) (fun m kn L x => (step86x0x6 N m kn L x).trans (sb86x0x6 N L x _ _ _)) (fun L m x => (ql86x0x6 N L m x).trans (sb86x0x6 N L x (Q86x0x6 N L m) (fun p => some (.inl p)) (fun p => some (.inr p)))) fun L x hx => (altS alt1) x hx
noncomputable def F86x0 (v3 : LD) (v4 : Int) (k0 : LB → Option R) : Option R :=
  bnd (G86x0x6 N v4 v3 (v3.length : Int) 0) fun y0 =>
  bif (inlB y0) then
    k0 (inlV y0)
  else
    bif (inrQ y0).isSome then
      k0 ([] : List UInt8)
    else
      none
noncomputable def G86x0 (v3 : LD) (v4 : Int) : Option (LB) := F86x0 N v3 v4 (fun p => some p)
theorem bind86x0 (v3 : LD) (v4 : Int) (k0 : LB → Option R) : F86x0 N v3 v4 k0 = (G86x0 N v3 v4).bind k0 := by
  unfold G86x0 F86x0
  repeat' (first | with_reducible apply cond_b | (with_reducible apply bnd_b; intro _) | rfl)
noncomputable def sh86x0 : Sh := { tmps := [(0, .g ([.i .i64, .i .i64, .sl 65])), (1, .c (.i .i64))], mem := [] }
noncomputable def A86x0 (L : List Lf) : List (Bool × Res) := bnd (F86x0 N (ll L 3) (li L 4) (fun p => some p)) fun q => [(q.isSome, ([.c (.s (q.getD default))], []))]
theorem raw86x0 (L : List Lf) : bd Try.prog (T85x0 N) (h86x0s1 N).h 86 sh86x0 L = F86x0 N (ll L 3) (li L 4) (fun p => some ([.c (.s p)], [])) := by kernel_rfl
theorem ok86x0 : FnOk Try.prog 86 sh86x0 (A86x0 N) :=
  (h86x0s1 N).fn progOk (T85x0_ok N) fun L x hx => ((raw86x0 N L).trans ((bind86x0 N ..).trans (alt1 x hx)))
noncomputable def T86x0 : Oracle := ext 86 (spSh sh86x0 (A86x0 N)) (T85x0 N)
theorem T86x0_ok : OracleOk Try.prog (T86x0 N) := FnOk.to (ok86x0 N) (T85x0_ok N)
noncomputable def rg87x0 : List (Nat × List Nat) := [(0, [0, 1, 2]), (1, [3, 1, 2]), (2, [13, 12, 11, 1, 2]), (3, [11, 13, 1, 2, 12]), (4, [9, 1, 2, 13, 12, 11]), (5, [9]), (6, [13, 12, 11, 1, 2]), (7, [])]
noncomputable def hd87x0 : Hints := [(6, [13, 12, 11, 1, 2], [], [])]
noncomputable def h87x0s0 (N : Nat) : Sg Try.prog 0 87 := .start hd87x0 rg87x0
noncomputable def S87x0x6 (N : Nat) (w0 w1 : Int) (w3 : LD) (w4 : Int) (w5 : Int) (kr : Int → Option R) (k0 : Int → Option R) (k1 : Unit → Option R) : Option R :=
  bif (decide (w5 < w4)) then
    bif (inB w5 w3.length) then
      bnd (bif (((w3.getD w5.toNat (.i 0)).cell 0).toI == w0) then (((w3.getD w5.toNat (.i 0)).cell 1).toI == w1) else false) fun y0 =>
      bnd (bif y0 then (!((w3.getD w5.toNat (.i 0)).cell 4).toB) else false) fun y1 =>
      bif y1 then
        k0 ((w3.getD w5.toNat (.i 0)).cell 2).toI
      else
        kr (IntKind.wrap .i64 (w5 + 1))
    else
      none
  else
    k1 ()
noncomputable def L87x0x6 (N : Nat) {R : Type} (w0 w1 : Int) (w3 : LD) (w4 : Int) : Nat → Int → (Int → Option R) → (Unit → Option R) → Option R
  | 0, _, _, _ => none
  | m + 1, w5, k0, k1 => S87x0x6 N w0 w1 w3 w4 w5 (fun w5 => L87x0x6 N w0 w1 w3 w4 m w5 k0 k1) k0 k1
noncomputable def G87x0x6 (w0 w1 : Int) (w3 : LD) (w4 : Int) (w5 : Int) : Option (Sum (Int) (Unit)) := L87x0x6 N (R := (Sum (Int) (Unit))) w0 w1 w3 w4 N w5 (fun p => some (.inl p)) (fun p => some (.inr p))
noncomputable def J87x0x6 (L x : List Lf) (kr : List Lf → Option R) (k0 : Int → Option R) (k1 : Unit → Option R) : Option R := S87x0x6 N (li L 0) (li L 1) (ll L 3) (li L 4) (li x 0) (fun w5 => kr [.i w5]) k0 k1
theorem sb87x0x6 (L x : List Lf) (kr : List Lf → Option R) (k0 : Int → Option R) (k1 : Unit → Option R) : J87x0x6 N L x kr k0 k1 = (J87x0x6 N L x (fun y => some (.inl y)) (fun p => some (.inr (.inl p))) (fun p => some (.inr (.inr p)))).bind (sumE kr (sumE k0 k1)) := by
  unfold J87x0x6 S87x0x6
  repeat' (first | with_reducible apply cond_b | (with_reducible apply bnd_b; intro _) | rfl)
noncomputable def Q87x0x6 (L : List Lf) (m : Nat) (x : List Lf) : Option (Sum (Int) (Unit)) := L87x0x6 N (R := (Sum (Int) (Unit))) (li L 0) (li L 1) (ll L 3) (li L 4) m (li x 0) (fun p => some (.inl p)) (fun p => some (.inr p))
noncomputable def sh87x0x6 : Sh := { tmps := [(1, .c (.i .i64)), (2, .c (.i .i64)), (11, .c (.sl 65)), (12, .c (.i .i64)), (13, .c (.i .i64))], mem := [] }
noncomputable def A87x0x6 (L : List Lf) : List (Bool × (Ex × St)) := bnd (Q87x0x6 N L N (pk sh87x0x6 [5] L)) fun q => [((inlB q), (.ret, ⟨[(6, .c (.i .i64 (inlV q))), (7, .c (.b true))], []⟩)), ((inrQ q).isSome, ((.exit 0), ⟨[], []⟩))]
theorem step87x0x6 (m : Nat) (kn : St → Option (Ex × St)) (L x : List Lf) : lpB Try.prog (T86x0 N) (h87x0s0 N).h 0 87 6 sh87x0x6 [5] [6, 7] [] (m + 100) kn L x = J87x0x6 N L x (fun y => kn (ofSh sh87x0x6 (mx sh87x0x6 [5] L y))) (fun p => some (.ret, ⟨[(6, .c (.i .i64 p)), (7, .c (.b true))], []⟩)) (fun _ => some ((.exit 0), ⟨[], []⟩)) := by kernel_rfl
theorem ql87x0x6 (L : List Lf) (m : Nat) (x : List Lf) : Q87x0x6 N L (m + 1) x = J87x0x6 N L x (Q87x0x6 N L m) (fun p => some (.inl p)) (fun p => some (.inr p)) := by kernel_rfl
noncomputable def h87x0s1 : Sg Try.prog 0 87 :=
  (h87x0s0 N).lp (A87x0x6 N) N progOk (T86x0_ok N) (fun m kn L x => (step87x0x6 N m kn L x).trans (sb87x0x6 N L x _ _ _)) (fun L m x => (ql87x0x6 N L m x).trans (sb87x0x6 N L x (Q87x0x6 N L m) (fun p => some (.inl p)) (fun p => some (.inr p)))) fun L x hx => (altS alt1) x hx
noncomputable def F87x0 (v3 : LD) (v4 v5 : Int) (k0 : Int × Bool → Option R) : Option R :=
  bnd (G87x0x6 N v4 v5 v3 (v3.length : Int) 0) fun y0 =>
  bif (inlB y0) then
    k0 ((inlV y0), true)
  else
    bif (inrQ y0).isSome then
      k0 (0, false)
    else
      none
noncomputable def G87x0 (v3 : LD) (v4 v5 : Int) : Option (Int × Bool) := F87x0 N v3 v4 v5 (fun p => some p)
theorem bind87x0 (v3 : LD) (v4 v5 : Int) (k0 : Int × Bool → Option R) : F87x0 N v3 v4 v5 k0 = (G87x0 N v3 v4 v5).bind k0 := by
  unfold G87x0 F87x0
  repeat' (first | with_reducible apply cond_b | (with_reducible apply bnd_b; intro _) | rfl)
noncomputable def sh87x0 : Sh := { tmps := [(0, .g ([.i .i64, .i .i64, .sl 65])), (1, .c (.i .i64)), (2, .c (.i .i64))], mem := [] }
noncomputable def A87x0 (L : List Lf) : List (Bool × Res) := bnd (F87x0 N (ll L 3) (li L 4) (li L 5) (fun p => some p)) fun q => [(q.isSome, ([.c (.i .i64 (q.getD default).1), .c (.b (q.getD default).2)], []))]
theorem raw87x0 (L : List Lf) : bd Try.prog (T86x0 N) (h87x0s1 N).h 87 sh87x0 L = F87x0 N (ll L 3) (li L 4) (li L 5) (fun p => some ([.c (.i .i64 p.1), .c (.b p.2)], [])) := by kernel_rfl
theorem ok87x0 : FnOk Try.prog 87 sh87x0 (A87x0 N) :=
  (h87x0s1 N).fn progOk (T86x0_ok N) fun L x hx => ((raw87x0 N L).trans ((bind87x0 N ..).trans (alt1 x hx)))
noncomputable def T87x0 : Oracle := ext 87 (spSh sh87x0 (A87x0 N)) (T86x0 N)
theorem T87x0_ok : OracleOk Try.prog (T87x0 N) := FnOk.to (ok87x0 N) (T86x0_ok N)
noncomputable def rg88x0 : List (Nat × List Nat) := [(0, [1, 0]), (1, [3, 0]), (2, [19, 3, 0]), (21, [19, 3, 0]), (25, [19, 3, 0]), (26, [3, 0]), (27, [0, 17]), (28, [17]), (22, [3, 0]), (23, [0, 3, 15, 16]), (24, [16, 3]), (3, [3, 0]), (4, [3, 5, 0]), (5, [5, 3, 6, 0]), (6, [38, 37, 36, 3, 6, 5, 0]), (7, [38, 36, 3, 6, 37, 5, 0]), (8, [3, 7, 8, 6, 38, 37, 36, 5, 0]), (9, [8, 9, 6, 10, 38, 37, 36, 3, 5, 0]), (10, [38, 37, 36, 3, 6, 5, 0]), (11, [5, 3, 0, 6]), (12, [62, 61, 60, 3, 0, 5, 6]), (13, [62, 60, 3, 61, 0, 5, 6]), (14, [3, 11, 12, 62, 61, 60, 0, 5, 6]), (15, [14, 12, 13, 62, 61, 60, 3, 0, 5, 6]), (17, [12, 62, 61, 60, 3, 0, 5, 6]), (16, [12, 13, 62, 61, 60, 3, 0, 5, 6]), (18, [62, 61, 60, 3, 0, 5, 6]), (19, [0, 5, 6]), (20, [6]), (29, [])]
noncomputable def hd88x0 : Hints := [(51050, [12, 13, 62, 61, 60, 3, 0, 5, 6, 74], [64, 9, 7, 3, 2, 1, 0], [])]
noncomputable def h88x0s0 (N : Nat) : Sg Try.prog 4 88 := .start hd88x0 rg88x0
noncomputable def F88x0x51050 (N : Nat) (w1 : Int) (w4 : Bool) (k0 : Int → R) : R :=
  bif w4 then
    k0 w1
  else
    k0 (-1)
noncomputable def V88x0x51050 (w1 : Int) (w4 : Bool) : Int := F88x0x51050 N w1 w4 (fun p => p)
theorem tot88x0x51050 (w1 : Int) (w4 : Bool) (k0 : Int → R) : F88x0x51050 N w1 w4 k0 = k0 (V88x0x51050 N w1 w4) := by
  unfold V88x0x51050 F88x0x51050
  repeat' (first | rfl | apply cond_k | (apply bnd_k; intro _))
noncomputable def sh88x0x51050 : Sh := { tmps := [(0, .c (.p 0 0)), (3, .c (.p 7 0)), (5, .c (.p 9 0)), (6, .c (.b)), (12, .c (.p 9 4)), (13, .c (.i .i64)), (60, .c (.bs 64 3)), (61, .c (.i .i64)), (62, .c (.i .i64)), (74, .c (.b))], mem := [(0, .box (.s :: [.i .i64, .i .i64, .o 1, .o 2, .o 3])), (1, .row 78 true), (2, .row 82 true), (3, .row 9 true), (7, .box ([.i .i64, .i .i64, .sl 65])), (9, .box (rI 7 ([]))), (64, .box ([.p 9 4, .p 9 5, .p 9 6]))] }
noncomputable def K88x0x51050w0 (L : List Lf) (p : Int) : Ex × St := (.normal, mg (ofSh sh88x0x51050 L) [0, 3, 5, 6, 60, 61, 62] [] [0, 1, 2, 3, 7, 9, 64] [(9, .box (rL L 18 4 ([.i .i64 p, .i .i64 (li L 23), .i .i64 (li L 24)])))])
noncomputable def A88x0x51050 (L : List Lf) : List (Bool × (Ex × St)) := bnd (F88x0x51050 N (li L 1) (lb L 4) (fun p => p)) fun q => [(true, K88x0x51050w0 L q)]
theorem raw88x0x51050 (L : List Lf) : pc Try.prog (T87x0 N) (h88x0s0 N).h 4 100 88 51050 sh88x0x51050 L [62, 61, 60, 3, 0, 5, 6] [64, 9, 7, 3, 2, 1, 0] = F88x0x51050 N (li L 1) (lb L 4) (fun p => some (K88x0x51050w0 L p)) := by kernel_rfl
noncomputable def h88x0s1 : Sg Try.prog 4 88 :=
  (h88x0s0 N).cut (A88x0x51050 N) progOk (T87x0_ok N) fun L x hx => (raw88x0x51050 N L).trans ((tot88x0x51050 N ..).trans (alt0 _ _ hx))
noncomputable def F88x0x51050b (N : Nat) (w1 : Int) (w4 : Bool) (k0 : Int → R) : R :=
  bif w4 then
    k0 w1
  else
    k0 (-1)
noncomputable def V88x0x51050b (w1 : Int) (w4 : Bool) : Int := F88x0x51050b N w1 w4 (fun p => p)
theorem tot88x0x51050b (w1 : Int) (w4 : Bool) (k0 : Int → R) : F88x0x51050b N w1 w4 k0 = k0 (V88x0x51050b N w1 w4) := by
  unfold V88x0x51050b F88x0x51050b
  repeat' (first | rfl | apply cond_k | (apply bnd_k; intro _))
noncomputable def sh88x0x51050b : Sh := { tmps := [(0, .c (.p 0 0)), (3, .c (.p 7 0)), (5, .c (.p 9 0)), (6, .c (.b)), (12, .c (.p 9 5)), (13, .c (.i .i64)), (60, .c (.bs 64 3)), (61, .c (.i .i64)), (62, .c (.i .i64)), (74, .c (.b))], mem := [(0, .box (.s :: [.i .i64, .i .i64, .o 1, .o 2, .o 3])), (1, .row 78 true), (2, .row 82 true), (3, .row 9 true), (7, .box ([.i .i64, .i .i64, .sl 65])), (9, .box (rI 7 ([]))), (64, .box ([.p 9 4, .p 9 5, .p 9 6]))] }
noncomputable def K88x0x51050bw0 (L : List Lf) (p : Int) : Ex × St := (.normal, mg (ofSh sh88x0x51050b L) [0, 3, 5, 6, 60, 61, 62] [] [0, 1, 2, 3, 7, 9, 64] [(9, .box (rL L 18 5 ([.i .i64 p, .i .i64 (li L 24)])))])
noncomputable def A88x0x51050b (L : List Lf) : List (Bool × (Ex × St)) := bnd (F88x0x51050b N (li L 1) (lb L 4) (fun p => p)) fun q => [(true, K88x0x51050bw0 L q)]
theorem raw88x0x51050b (L : List Lf) : pc Try.prog (T87x0 N) ((h88x0s1 N).no 51050).h 4 100 88 51050 sh88x0x51050b L [62, 61, 60, 3, 0, 5, 6] [64, 9, 7, 3, 2, 1, 0] = F88x0x51050b N (li L 1) (lb L 4) (fun p => some (K88x0x51050bw0 L p)) := by kernel_rfl
noncomputable def h88x0s2 : Sg Try.prog 4 88 :=
  (h88x0s1 N).add (((h88x0s1 N).no 51050).cut (A88x0x51050b N) progOk (T87x0_ok N) fun L x hx => (raw88x0x51050b N L).trans ((tot88x0x51050b N ..).trans (alt0 _ _ hx))) 51050
noncomputable def F88x0x51050bb (N : Nat) (w1 : Int) (w4 : Bool) (k0 : Int → R) : R :=
  bif w4 then
    k0 w1
  else
    k0 (-1)
noncomputable def V88x0x51050bb (w1 : Int) (w4 : Bool) : Int := F88x0x51050bb N w1 w4 (fun p => p)
theorem tot88x0x51050bb (w1 : Int) (w4 : Bool) (k0 : Int → R) : F88x0x51050bb N w1 w4 k0 = k0 (V88x0x51050bb N w1 w4) := by
  unfold V88x0x51050bb F88x0x51050bb
  repeat' (first | rfl | apply cond_k | (apply bnd_k; intro _))
noncomputable def sh88x0x51050bb : Sh := { tmps := [(0, .c (.p 0 0)), (3, .c (.p 7 0)), (5, .c (.p 9 0)), (6, .c (.b)), (12, .c (.p 9 6)), (13, .c (.i .i64)), (60, .c (.bs 64 3)), (61, .c (.i .i64)), (62, .c (.i .i64)), (74, .c (.b))], mem := [(0, .box (.s :: [.i .i64, .i .i64, .o 1, .o 2, .o 3])), (1, .row 78 true), (2, .row 82 true), (3, .row 9 true), (7, .box ([.i .i64, .i .i64, .sl 65])), (9, .box (rI 7 ([]))), (64, .box ([.p 9 4, .p 9 5, .p 9 6]))] }
noncomputable def K88x0x51050bbw0 (L : List Lf) (p : Int) : Ex × St := (.normal, mg (ofSh sh88x0x51050bb L) [0, 3, 5, 6, 60, 61, 62] [] [0, 1, 2, 3, 7, 9, 64] [(9, .box (rL L 18 6 ([.i .i64 p])))])
noncomputable def A88x0x51050bb (L : List Lf) : List (Bool × (Ex × St)) := bnd (F88x0x51050bb N (li L 1) (lb L 4) (fun p => p)) fun q => [(true, K88x0x51050bbw0 L q)]
theorem raw88x0x51050bb (L : List Lf) : pc Try.prog (T87x0 N) ((h88x0s2 N).no 51050).h 4 100 88 51050 sh88x0x51050bb L [62, 61, 60, 3, 0, 5, 6] [64, 9, 7, 3, 2, 1, 0] = F88x0x51050bb N (li L 1) (lb L 4) (fun p => some (K88x0x51050bbw0 L p)) := by kernel_rfl
noncomputable def h88x0s3 : Sg Try.prog 4 88 :=
  (h88x0s2 N).add (((h88x0s2 N).no 51050).cut (A88x0x51050bb N) progOk (T87x0_ok N) fun L x hx => (raw88x0x51050bb N L).trans ((tot88x0x51050bb N ..).trans (alt0 _ _ hx))) 51050
noncomputable def F88x0 (v0 v1 : Int) (v3 : LD) (v6 : Int) (v8 v10 v12 : LD) (k0 : Bool × LD → Option R) (k1 : Bool × LD → Option R) (k2 : Bool × LD → Option R) (k3 : Unit → Option R) : Option R :=
  bif (v0 == 20) then
    bnd (G87x0 N v3 0 1) fun y0 =>
    bif y0.isSome then
      bnd (bif (decide (v1 ≥ 0)) then (y0.getD default).2 else false) fun y1 =>
      bnd (G87x0 N v3 1 1) fun y2 =>
      bif y2.isSome then
        bnd (G87x0 N v3 2 1) fun y3 =>
        bif y3.isSome then
          bnd (bif (bif y1 then (y2.getD default).2 else false) then (y3.getD default).2 else false) fun y4 =>
          bnd (G87x0 N v3 3 0) fun y5 =>
          bif y5.isSome then
            bnd (V88x0x51050 N (y5.getD default).1 (y5.getD default).2) fun y6 =>
            bnd (G87x0 N v3 4 0) fun y7 =>
            bif y7.isSome then
              bnd (V88x0x51050b N (y7.getD default).1 (y7.getD default).2) fun y8 =>
              bnd (G87x0 N v3 5 0) fun y9 =>
              bif y9.isSome then
                bnd (V88x0x51050bb N (y9.getD default).1 (y9.getD default).2) fun y10 =>
                bif (decide ((v8.length + 1) * 56 ≤ room) && decide ((v8.length + 1) ≤ strMax)) then
                  bnd ((v8 ++ [(.a [(.i (IntKind.wrap .i64 (v1 - v6))), (.i (y0.getD default).1), (.i (y2.getD default).1), (.i (y3.getD default).1), (.i y6), (.i y8), (.i y10)])]) : List D) fun y11 =>
                  k0 (y4, y11)
                else
                  none
              else
                none
            else
              none
          else
            none
        else
          none
      else
        none
    else
      none
  else
    bif (v0 == 19) then
      bnd (G87x0 N v3 1 0) fun y12 =>
      bif y12.isSome then
        bnd (G86x0 N v3 2) fun y13 =>
        bif y13.isSome then
          bif (decide ((v10.length + 1) * 32 ≤ room) && decide ((v10.length + 1) ≤ strMax)) then
            bnd ((v10 ++ [(.a [(.i (IntKind.wrap .i64 (v1 - v6))), (.i (IntKind.wrap .i64 ((y12.getD default).1 - v6))), (.s (y13.getD default))])]) : List D) fun y14 =>
            bnd (bif (y12.getD default).2 then (decide (v1 ≥ 0)) else false) fun y15 =>
            k1 (y15, y14)
          else
            none
        else
          none
      else
        none
    else
      bif (v0 == 30) then
        bnd (G86x0 N v3 1) fun y16 =>
        bif y16.isSome then
          bif (decide ((v12.length + 1) * 16 ≤ room) && decide ((v12.length + 1) ≤ strMax)) then
            k2 ((!((y16.getD default) == ([] : List UInt8))), (v12 ++ [(.s (y16.getD default))]))
          else
            none
        else
          none
      else
        k3 ()
noncomputable def G88x0 (v0 v1 : Int) (v3 : LD) (v6 : Int) (v8 v10 v12 : LD) : Option (Sum (Bool × LD) (Sum (Bool × LD) (Sum (Bool × LD) (Unit)))) := F88x0 N v0 v1 v3 v6 v8 v10 v12 (fun p => some (.inl p)) (fun p => some (.inr (.inl p))) (fun p => some (.inr (.inr (.inl p)))) (fun p => some (.inr (.inr (.inr p))))
theorem bind88x0 (v0 v1 : Int) (v3 : LD) (v6 : Int) (v8 v10 v12 : LD) (k0 : Bool × LD → Option R) (k1 : Bool × LD → Option R) (k2 : Bool × LD → Option R) (k3 : Unit → Option R) : F88x0 N v0 v1 v3 v6 v8 v10 v12 k0 k1 k2 k3 = (G88x0 N v0 v1 v3 v6 v8 v10 v12).bind (sumE k0 (sumE k1 (sumE k2 k3))) := by
  unfold G88x0 F88x0
  repeat' (first | with_reducible apply cond_b | (with_reducible apply bnd_b; intro _) | rfl)
noncomputable def J88x0 (L : List Lf) (k0 : Bool × LD → Option R) (k1 : Bool × LD → Option R) (k2 : Bool × LD → Option R) (k3 : Unit → Option R) : Option R := F88x0 N (li L 0) (li L 1) (ll L 3) (li L 6) (ll L 8) (ll L 10) (ll L 12) k0 k1 k2 k3
noncomputable def sh88x0 : Sh := { tmps := [(0, .c (.p 0 0)), (1, .g ([.i .i64, .i .i64, .sl 65]))], mem := [(0, .box (.s :: [.i .i64, .i .i64, .o 1, .o 2, .o 3])), (1, .row 78 true), (2, .row 82 true), (3, .row 9 true)] }
noncomputable def K88x0w0 (L : List Lf) (p : Bool × LD) : Res := ([.c (.b p.1)], mgA (ofSh sh88x0 L).mem [(0, .box [.s (ls L 4), .i .i64 (li L 5), .i .i64 (li L 6), .o 92, .o 2, .o 3]), (92, .row 78 true false p.2)] [0, 2, 3, 92])
noncomputable def K88x0w1 (L : List Lf) (p : Bool × LD) : Res := ([.c (.b p.1)], mgA (ofSh sh88x0 L).mem [(0, .box [.s (ls L 4), .i .i64 (li L 5), .i .i64 (li L 6), .o 1, .o 125, .o 3]), (125, .row 82 true false p.2)] [0, 1, 3, 125])
noncomputable def K88x0w2 (L : List Lf) (p : Bool × LD) : Res := ([.c (.b p.1)], mgA (ofSh sh88x0 L).mem [(0, .box [.s (ls L 4), .i .i64 (li L 5), .i .i64 (li L 6), .o 1, .o 2, .o 145]), (145, .row 9 true false p.2)] [0, 1, 2, 145])
noncomputable def A88x0 (L : List Lf) : List (Bool × Res) := bnd (J88x0 N L (fun p => some (.inl p)) (fun p => some (.inr (.inl p))) (fun p => some (.inr (.inr (.inl p)))) (fun p => some (.inr (.inr (.inr p))))) fun q => [((inlB q), K88x0w0 L (inlV q)), ((inlB (inrQ q)), K88x0w1 L (inlV (inrQ q))), ((inlB (inrQ (inrQ q))), K88x0w2 L (inlV (inrQ (inrQ q)))), ((inrQ (inrQ (inrQ q))).isSome, ([.c (.b true)], mgA (ofSh sh88x0 L).mem [] [0, 1, 2, 3]))]
theorem raw88x0 (L : List Lf) : bd Try.prog (T87x0 N) (h88x0s3 N).h 88 sh88x0 L = J88x0 N L (fun p => some (K88x0w0 L p)) (fun p => some (K88x0w1 L p)) (fun p => some (K88x0w2 L p)) (fun _ => some ([.c (.b true)], mgA (ofSh sh88x0 L).mem [] [0, 1, 2, 3])) := by kernel_rfl
theorem ok88x0 : FnOk Try.prog 88 sh88x0 (A88x0 N) :=
  (h88x0s3 N).fn progOk (T87x0_ok N) fun L x hx => ((raw88x0 N L).trans ((bind88x0 N ..).trans ((altS (altS (altS alt1))) x hx)))
noncomputable def T88x0 : Oracle := ext 88 (spSh sh88x0 (A88x0 N)) (T87x0 N)
theorem T88x0_ok : OracleOk Try.prog (T88x0 N) := FnOk.to (ok88x0 N) (T87x0_ok N)
noncomputable def rg41x0 : List (Nat × List Nat) := [(0, [0]), (1, [1, 2]), (2, [4, 2, 1]), (3, [4, 2]), (4, [1, 2]), (5, [5, 2]), (6, [5, 6, 2]), (7, [5, 6, 2, 7]), (8, [23, 22, 21, 6, 2, 5, 7]), (9, [21, 23, 6, 2, 5, 22, 7]), (10, [9, 6, 2, 5, 23, 22, 21, 7]), (11, [9, 6, 2, 5]), (12, [9, 6, 2, 5]), (13, [23, 22, 21, 6, 2, 5, 7]), (14, [7, 6, 2, 5]), (15, [2]), (16, [5, 6, 2]), (17, [58, 57, 56, 6, 2]), (18, [56, 58, 6, 2, 57]), (19, [11, 6, 2, 58, 57, 56]), (20, [2]), (21, [58, 57, 56, 6, 2]), (22, [6, 2]), (23, [12, 2, 6]), (24, [12, 2]), (25, [6, 2])]
noncomputable def hd41x0 : Hints := [(24, [23, 22, 21, 6, 2, 5, 7], [6, 2, 50006005, 50006004, 50006003], [50006005, 50006004, 50006003]), (51, [58, 57, 56, 6, 2], [50006005, 50006004, 50006003, 6, 2], [50006005, 50006004, 50006003]), (58, [11, 6, 2, 58, 57, 56], [11, 50006005, 50006004, 50006003, 6, 2], [])]
noncomputable def h41x0s0 (N : Nat) : Sg Try.prog 0 41 := .start hd41x0 rg41x0
noncomputable def S41x0x24 (w2 : Bool) (w4 : LD) (w5 : Int) (w16 : LB) (w17 w18 : Int) (w6 : Int) (kr : Int → Option R) (k0 : Ty4 → Option R) : Option R :=
  bif (decide (w6 < w5)) then
    bif (inB w6 w4.length) then
      bif (((w4.getD w6.toNat (.i 0)).cell 0).toI == 0) then
        bnd (G86x0 N ((w4.getD w6.toNat (.i 0)).cell 2).items 1) fun y0 =>
        bif y0.isSome then
          bnd (G87x0 N ((w4.getD w6.toNat (.i 0)).cell 2).items 2 0) fun y1 =>
          bif y1.isSome then
            k0 ((y1.getD default).2, (y0.getD default), (y1.getD default).1, ((w4.getD w6.toNat (.i 0)).cell 1).toI)
          else
            none
        else
          none
      else
        kr (IntKind.wrap .i64 (w6 + 1))
    else
      none
  else
    k0 (w2, w16, w17, w18)
noncomputable def L41x0x24 (N : Nat) {R : Type} (w2 : Bool) (w4 : LD) (w5 : Int) (w16 : LB) (w17 w18 : Int) : Nat → Int → (Ty4 → Option R) → Option R
  | 0, _, _ => none
  | m + 1, w6, k0 => S41x0x24 N w2 w4 w5 w16 w17 w18 w6 (fun w6 => L41x0x24 N w2 w4 w5 w16 w17 w18 m w6 k0) k0
noncomputable def G41x0x24 (w2 : Bool) (w4 : LD) (w5 : Int) (w16 : LB) (w17 w18 : Int) (w6 : Int) : Option (Ty4) := L41x0x24 N (R := (Ty4)) w2 w4 w5 w16 w17 w18 N w6 (fun p => some p)
noncomputable def J41x0x24 (L x : List Lf) (kr : List Lf → Option R) (k0 : Ty4 → Option R) : Option R := S41x0x24 N (lb L 2) (ll L 4) (li L 5) (ls L 16) (li L 17) (li L 18) (li x 0) (fun w6 => kr [.i w6]) k0
theorem sb41x0x24 (L x : List Lf) (kr : List Lf → Option R) (k0 : Ty4 → Option R) : J41x0x24 N L x kr k0 = (J41x0x24 N L x (fun y => some (.inl y)) (fun p => some (.inr p))).bind (sumE kr k0) := by
  unfold J41x0x24 S41x0x24
  repeat' (first | with_reducible apply cond_b | (with_reducible apply bnd_b; intro _) | rfl)
noncomputable def Q41x0x24 (L : List Lf) (m : Nat) (x : List Lf) : Option (Ty4) := L41x0x24 N (R := (Ty4)) (lb L 2) (ll L 4) (li L 5) (ls L 16) (li L 17) (li L 18) m (li x 0) (fun p => some p)
noncomputable def sh41x0x24 : Sh := { tmps := [(2, .c (.p 2 0)), (5, .c (.sl 129)), (6, .c (.p 6 0)), (7, .c (.b)), (21, .c (.sl 129)), (22, .c (.i .i64)), (23, .c (.i .i64))], mem := [(2, .box (.s :: [.i .i64, .i .i64, .sl 78, .sl 82, .sl 9])), (6, .box (.s :: [.i .i64, .i .i64, .o 50006003, .o 50006004, .o 50006005])), (50006003, .row 78 true), (50006004, .row 82 true), (50006005, .row 9 true)] }
noncomputable def K41x0x24w0 (L : List Lf) (p : Ty4) : Ex × St := ((.exit 0), mg (ofSh sh41x0x24 L) [2, 5, 6, 7] [(7, .c (.b p.1))] [2, 6, 50006003, 50006004, 50006005] [(6, .box [.s p.2.1, .i .i64 p.2.2.1, .i .i64 p.2.2.2, .o 50006003, .o 50006004, .o 50006005])])
noncomputable def A41x0x24 (L : List Lf) : List (Bool × (Ex × St)) := bnd (Q41x0x24 N L N (pk sh41x0x24 [6] L)) fun q => [(q.isSome, K41x0x24w0 L (q.getD default))]
theorem step41x0x24 (m : Nat) (kn : St → Option (Ex × St)) (L x : List Lf) : lpB Try.prog (T88x0 N) (h41x0s0 N).h 0 41 24 sh41x0x24 [6] [2, 3, 7, 6, 5] [50006005, 50006004, 50006003, 6, 2] (m + 100) kn L x = J41x0x24 N L x (fun y => kn (ofSh sh41x0x24 (mx sh41x0x24 [6] L y))) (fun p => some (K41x0x24w0 L p)) := by kernel_rfl
theorem ql41x0x24 (L : List Lf) (m : Nat) (x : List Lf) : Q41x0x24 N L (m + 1) x = J41x0x24 N L x (Q41x0x24 N L m) some := by kernel_rfl
noncomputable def h41x0s1 : Sg Try.prog 0 41 :=
  (h41x0s0 N).lp (A41x0x24 N) N progOk (T88x0_ok N) (fun m kn L x => (step41x0x24 N m kn L x).trans (sb41x0x24 N L x _ _)) (fun L m x => (ql41x0x24 N L m x).trans (sb41x0x24 N L x (Q41x0x24 N L m) some)) fun L x hx => alt1 x hx
noncomputable def F41x0x58 (w15 w16 w17 : Int) (w19 w21 w23 w25 : LD) (k0 : Bool × LD → Option R) (k1 : Bool × LD → Option R) (k2 : Bool × LD → Option R) (k3 : Unit → Option R) : Option R :=
  bnd (G88x0 N w16 w17 w19 w15 w21 w23 w25) fun y0 =>
  bif (inlB y0) then
    k0 ((!(inlV y0).1), (inlV y0).2)
  else
    bif (inlB (inrQ y0)) then
      k1 ((!(inlV (inrQ y0)).1), (inlV (inrQ y0)).2)
    else
      bif (inlB (inrQ (inrQ y0))) then
        k2 ((!(inlV (inrQ (inrQ y0))).1), (inlV (inrQ (inrQ y0))).2)
      else
        bif (inrQ (inrQ (inrQ y0))).isSome then
          k3 ()
        else
          none
noncomputable def G41x0x58 (w15 w16 w17 : Int) (w19 w21 w23 w25 : LD) : Option (Sum (Bool × LD) (Sum (Bool × LD) (Sum (Bool × LD) (Unit)))) := F41x0x58 N w15 w16 w17 w19 w21 w23 w25 (fun p => some (.inl p)) (fun p => some (.inr (.inl p))) (fun p => some (.inr (.inr (.inl p)))) (fun p => some (.inr (.inr (.inr p))))
theorem bind41x0x58 (w15 w16 w17 : Int) (w19 w21 w23 w25 : LD) (k0 : Bool × LD → Option R) (k1 : Bool × LD → Option R) (k2 : Bool × LD → Option R) (k3 : Unit → Option R) : F41x0x58 N w15 w16 w17 w19 w21 w23 w25 k0 k1 k2 k3 = (G41x0x58 N w15 w16 w17 w19 w21 w23 w25).bind (sumE k0 (sumE k1 (sumE k2 k3))) := by
  unfold G41x0x58 F41x0x58
  repeat' (first | with_reducible apply cond_b | (with_reducible apply bnd_b; intro _) | rfl)
noncomputable def J41x0x58 (L : List Lf) (k0 : Bool × LD → Option R) (k1 : Bool × LD → Option R) (k2 : Bool × LD → Option R) (k3 : Unit → Option R) : Option R := F41x0x58 N (li L 15) (li L 16) (li L 17) (ll L 19) (ll L 21) (ll L 23) (ll L 25) k0 k1 k2 k3
noncomputable def sh41x0x58 : Sh := { tmps := [(2, .c (.p 2 0)), (6, .c (.p 6 0)), (11, .c (.p 11 0)), (56, .c (.sl 129)), (57, .c (.i .i64)), (58, .c (.i .i64))], mem := [(2, .box (.s :: [.i .i64, .i .i64, .sl 78, .sl 82, .sl 9])), (6, .box (.s :: [.i .i64, .i .i64, .o 50006003, .o 50006004, .o 50006005])), (11, .box ([.i .i64, .i .i64, .sl 65])), (50006003, .row 78 true), (50006004, .row 82 true), (50006005, .row 9 true)] }
noncomputable def K41x0x58w0 (L : List Lf) (p : Bool × LD) : Ex × St := (.normal, mg (ofSh sh41x0x58 L) [2, 6, 56, 57, 58, 64] [(64, .c (.b p.1))] [2, 6, 50006004, 50006005, 64000000092] [(6, .box [.s (ls L 13), .i .i64 (li L 14), .i .i64 (li L 15), .o 64000000092, .o 50006004, .o 50006005]), (64000000092, .row 78 true false p.2)])
noncomputable def K41x0x58w1 (L : List Lf) (p : Bool × LD) : Ex × St := (.normal, mg (ofSh sh41x0x58 L) [2, 6, 56, 57, 58, 64] [(64, .c (.b p.1))] [2, 6, 50006003, 50006005, 64000000125] [(6, .box [.s (ls L 13), .i .i64 (li L 14), .i .i64 (li L 15), .o 50006003, .o 64000000125, .o 50006005]), (64000000125, .row 82 true false p.2)])
noncomputable def K41x0x58w2 (L : List Lf) (p : Bool × LD) : Ex × St := (.normal, mg (ofSh sh41x0x58 L) [2, 6, 56, 57, 58, 64] [(64, .c (.b p.1))] [2, 6, 50006003, 50006004, 64000000145] [(6, .box [.s (ls L 13), .i .i64 (li L 14), .i .i64 (li L 15), .o 50006003, .o 50006004, .o 64000000145]), (64000000145, .row 9 true false p.2)])
noncomputable def K41x0x58w3 (L : List Lf) (_ : Unit) : Ex × St := (.normal, mg (ofSh sh41x0x58 L) [2, 6, 56, 57, 58, 64] [(64, .c (.b false))] [2, 6, 50006003, 50006004, 50006005] [])
noncomputable def A41x0x58 (L : List Lf) : List (Bool × (Ex × St)) := bnd (J41x0x58 N L (fun p => some (.inl p)) (fun p => some (.inr (.inl p))) (fun p => some (.inr (.inr (.inl p)))) (fun p => some (.inr (.inr (.inr p))))) fun q => [((inlB q), K41x0x58w0 L (inlV q)), ((inlB (inrQ q)), K41x0x58w1 L (inlV (inrQ q))), ((inlB (inrQ (inrQ q))), K41x0x58w2 L (inlV (inrQ (inrQ q)))), ((inrQ (inrQ (inrQ q))).isSome, K41x0x58w3 L ())]
theorem raw41x0x58 (L : List Lf) : pc Try.prog (T88x0 N) (h41x0s1 N).h 0 100 41 58 sh41x0x58 L [2, 58, 57, 56, 6, 64] [50006005, 50006004, 64000000092, 6, 2, 64000000125, 50006003, 64000000145] = J41x0x58 N L (fun p => some (K41x0x58w0 L p)) (fun p => some (K41x0x58w1 L p)) (fun p => some (K41x0x58w2 L p)) (fun _ => some (K41x0x58w3 L ())) := by kernel_rfl
noncomputable def h41x0s2 : Sg Try.prog 0 41 :=
  (h41x0s1 N).cut (A41x0x58 N) progOk (T88x0_ok N) fun L x hx => (raw41x0x58 N L).trans ((bind41x0x58 N ..).trans ((altS (altS (altS alt1))) x hx))
noncomputable def S41x0x51 (w1 : LD) (w2 w15 : Int) (w3 : Int) (w16 : Bool) (w17 : LD) (w18 : Bool) (w19 : LD) (w20 : Bool) (w21 : LD) (kr : Int → Bool → LD → Bool → LD → Bool → LD → Option R) (k0 : Ty2 → Option R) (k1 : Ty2 → Option R) (k2 : Ty2 → Option R) (k3 : Ty1 → Option R) : Option R :=
  bif (decide (w3 < w2)) then
    bif (inB w3 w1.length) then
      bnd (G41x0x58 N w15 ((w1.getD w3.toNat (.i 0)).cell 0).toI ((w1.getD w3.toNat (.i 0)).cell 1).toI ((w1.getD w3.toNat (.i 0)).cell 2).items w17 w19 w21) fun y0 =>
      bif (inlB y0) then
        bif (inlV y0).1 then
          k0 (([] : List UInt8), w18, w19, w20, w21)
        else
          kr (IntKind.wrap .i64 (w3 + 1)) false (inlV y0).2 w18 w19 w20 w21
      else
        bif (inlB (inrQ y0)) then
          bif (inlV (inrQ y0)).1 then
            k1 (([] : List UInt8), w16, w17, w20, w21)
          else
            kr (IntKind.wrap .i64 (w3 + 1)) w16 w17 false (inlV (inrQ y0)).2 w20 w21
        else
          bif (inlB (inrQ (inrQ y0))) then
            bif (inlV (inrQ (inrQ y0))).1 then
              k2 (([] : List UInt8), w16, w17, w18, w19)
            else
              kr (IntKind.wrap .i64 (w3 + 1)) w16 w17 w18 w19 false (inlV (inrQ (inrQ y0))).2
          else
            bif (inrQ (inrQ (inrQ y0))).isSome then
              kr (IntKind.wrap .i64 (w3 + 1)) w16 w17 w18 w19 w20 w21
            else
              none
    else
      none
  else
    k3 (w16, w17, w18, w19, w20, w21)
noncomputable def L41x0x51 (N : Nat) {R : Type} (w1 : LD) (w2 w15 : Int) : Nat → Int → Bool → LD → Bool → LD → Bool → LD → (Ty2 → Option R) → (Ty2 → Option R) → (Ty2 → Option R) → (Ty1 → Option R) → Option R
  | 0, _, _, _, _, _, _, _, _, _, _, _ => none
  | m + 1, w3, w16, w17, w18, w19, w20, w21, k0, k1, k2, k3 => S41x0x51 N w1 w2 w15 w3 w16 w17 w18 w19 w20 w21 (fun w3 w16 w17 w18 w19 w20 w21 => L41x0x51 N w1 w2 w15 m w3 w16 w17 w18 w19 w20 w21 k0 k1 k2 k3) k0 k1 k2 k3
noncomputable def G41x0x51 (w1 : LD) (w2 w15 : Int) (w3 : Int) (w16 : Bool) (w17 : LD) (w18 : Bool) (w19 : LD) (w20 : Bool) (w21 : LD) : Option (Sum (Ty2) (Sum (Ty2) (Sum (Ty2) (Ty1)))) := L41x0x51 N (R := (Sum (Ty2) (Sum (Ty2) (Sum (Ty2) (Ty1))))) w1 w2 w15 N w3 w16 w17 w18 w19 w20 w21 (fun p => some (.inl p)) (fun p => some (.inr (.inl p))) (fun p => some (.inr (.inr (.inl p)))) (fun p => some (.inr (.inr (.inr p))))
noncomputable def J41x0x51 (L x : List Lf) (kr : List Lf → Option R) (k0 : Ty2 → Option R) (k1 : Ty2 → Option R) (k2 : Ty2 → Option R) (k3 : Ty1 → Option R) : Option R := S41x0x51 N (ll L 1) (li L 2) (li L 15) (li x 0) (lb x 1) (ll x 2) (lb x 3) (ll x 4) (lb x 5) (ll x 6) (fun w3 w16 w17 w18 w19 w20 w21 => kr [.i w3, .b w16, .l w17, .b w18, .l w19, .b w20, .l w21]) k0 k1 k2 k3
theorem sb41x0x51 (L x : List Lf) (kr : List Lf → Option R) (k0 : Ty2 → Option R) (k1 : Ty2 → Option R) (k2 : Ty2 → Option R) (k3 : Ty1 → Option R) : J41x0x51 N L x kr k0 k1 k2 k3 = (J41x0x51 N L x (fun y => some (.inl y)) (fun p => some (.inr (.inl p))) (fun p => some (.inr (.inr (.inl p)))) (fun p => some (.inr (.inr (.inr (.inl p))))) (fun p => some (.inr (.inr (.inr (.inr p)))))).bind (sumE kr (sumE k0 (sumE k1 (sumE k2 k3)))) := by
  unfold J41x0x51 S41x0x51
  repeat' (first | with_reducible apply cond_b | (with_reducible apply bnd_b; intro _) | rfl)
noncomputable def Q41x0x51 (L : List Lf) (m : Nat) (x : List Lf) : Option (Sum (Ty2) (Sum (Ty2) (Sum (Ty2) (Ty1)))) := L41x0x51 N (R := (Sum (Ty2) (Sum (Ty2) (Sum (Ty2) (Ty1))))) (ll L 1) (li L 2) (li L 15) m (li x 0) (lb x 1) (ll x 2) (lb x 3) (ll x 4) (lb x 5) (ll x 6) (fun p => some (.inl p)) (fun p => some (.inr (.inl p))) (fun p => some (.inr (.inr (.inl p)))) (fun p => some (.inr (.inr (.inr p))))
noncomputable def sh41x0x51 : Sh := { tmps := [(2, .c (.p 2 0)), (6, .c (.p 6 0)), (56, .c (.sl 129)), (57, .c (.i .i64)), (58, .c (.i .i64))], mem := [(2, .box (.s :: [.i .i64, .i .i64, .sl 78, .sl 82, .sl 9])), (6, .box (.s :: [.i .i64, .i .i64, .o 50006003, .o 50006004, .o 50006005])), (50006003, .row 78 true), (50006004, .row 82 true), (50006005, .row 9 true)] }
noncomputable def K41x0x51w0 (L : List Lf) (p : Ty2) : Ex × St := (.ret, ⟨[(2, .c (.p 2 0)), (3, .c (.i .i64 2))], [(2, .box [.s p.1, .i .i64 0, .i .i64 0, .sl 78 true [], .sl 82 true [], .sl 9 true []]), (6, .box [.s (ls L 13), .i .i64 (li L 14), .i .i64 (li L 15), .o 64000000092, .o 50006004, .o 50006005]), (50006004, .row 82 true p.2.1 p.2.2.1), (50006005, .row 9 true p.2.2.2.1 p.2.2.2.2)]⟩)
noncomputable def K41x0x51w1 (L : List Lf) (p : Ty2) : Ex × St := (.ret, ⟨[(2, .c (.p 2 0)), (3, .c (.i .i64 2))], [(2, .box [.s p.1, .i .i64 0, .i .i64 0, .sl 78 true [], .sl 82 true [], .sl 9 true []]), (6, .box [.s (ls L 13), .i .i64 (li L 14), .i .i64 (li L 15), .o 50006003, .o 64000000125, .o 50006005]), (50006003, .row 78 true p.2.1 p.2.2.1), (50006005, .row 9 true p.2.2.2.1 p.2.2.2.2)]⟩)
noncomputable def K41x0x51w2 (L : List Lf) (p : Ty2) : Ex × St := (.ret, ⟨[(2, .c (.p 2 0)), (3, .c (.i .i64 2))], [(2, .box [.s p.1, .i .i64 0, .i .i64 0, .sl 78 true [], .sl 82 true [], .sl 9 true []]), (6, .box [.s (ls L 13), .i .i64 (li L 14), .i .i64 (li L 15), .o 50006003, .o 50006004, .o 64000000145]), (50006003, .row 78 true p.2.1 p.2.2.1), (50006004, .row 82 true p.2.2.2.1 p.2.2.2.2)]⟩)
noncomputable def K41x0x51w3 (L : List Lf) (p : Ty1) : Ex × St := let p1 := p.2; let p2 := p1.2; let p3 := p2.2; let p4 := p3.2; let p5 := p4.2; ((.exit 2), mg (ofSh sh41x0x51 L) [2, 6] [] [2, 6, 50006003, 50006004, 50006005] [(50006003, .row 78 true p.1 p1.1), (50006004, .row 82 true p2.1 p3.1), (50006005, .row 9 true p4.1 p5)])
noncomputable def A41x0x51 (L : List Lf) : List (Bool × (Ex × St)) := bnd (Q41x0x51 N L N (pk sh41x0x51 [3, 16, 17, 18, 19, 20, 21] L)) fun q => [((inlB q), K41x0x51w0 L (inlV q)), ((inlB (inrQ q)), K41x0x51w1 L (inlV (inrQ q))), ((inlB (inrQ (inrQ q))), K41x0x51w2 L (inlV (inrQ (inrQ q)))), ((inrQ (inrQ (inrQ q))).isSome, K41x0x51w3 L ((inrQ (inrQ (inrQ q))).getD default))]
theorem step41x0x51 (m : Nat) (kn : St → Option (Ex × St)) (L x : List Lf) : lpB Try.prog (T88x0 N) (h41x0s2 N).h 0 41 51 sh41x0x51 [3, 16, 17, 18, 19, 20, 21] [2, 3, 6] [2, 50006005, 50006004, 50006003, 6] (m + 100) kn L x = J41x0x51 N L x (fun y => kn (ofSh sh41x0x51 (mx sh41x0x51 [3, 16, 17, 18, 19, 20, 21] L y))) (fun p => some (K41x0x51w0 L p)) (fun p => some (K41x0x51w1 L p)) (fun p => some (K41x0x51w2 L p)) (fun p => some (K41x0x51w3 L p)) := by kernel_rfl
theorem ql41x0x51 (L : List Lf) (m : Nat) (x : List Lf) : Q41x0x51 N L (m + 1) x = J41x0x51 N L x (Q41x0x51 N L m) (fun p => some (.inl p)) (fun p => some (.inr (.inl p))) (fun p => some (.inr (.inr (.inl p)))) (fun p => some (.inr (.inr (.inr p)))) := by kernel_rfl
noncomputable def h41x0s3 : Sg Try.prog 0 41 :=
  (h41x0s2 N).lp (A41x0x51 N) N progOk (T88x0_ok N) (fun m kn L x => (step41x0x51 N m kn L x).trans (sb41x0x51 N L x _ _ _ _ _)) (fun L m x => (ql41x0x51 N L m x).trans (sb41x0x51 N L x (Q41x0x51 N L m) (fun p => some (.inl p)) (fun p => some (.inr (.inl p))) (fun p => some (.inr (.inr (.inl p)))) (fun p => some (.inr (.inr (.inr p)))))) fun L x hx => (altS (altS (altS alt1))) x hx
noncomputable def F41x0 (v1 : LD) (k0 : Ty0 → Option R) : Option R :=
  bnd (G22x0 N v1) fun y0 =>
  bif y0.isSome then
    bif ((y0.getD default) != 0) then
      k0 (([] : List UInt8), 0, 0, true, [], true, [], true, [], (y0.getD default))
    else
      bnd (G85x0 N v1) fun y1 =>
      bif y1.isSome then
        bnd (G41x0x24 N false (y1.getD default).2 ((y1.getD default).2.length : Int) ([] : List UInt8) 0 0 0) fun y2 =>
        bif y2.isSome then
          bnd (bif (!(y2.getD default).1) then true else ((y2.getD default).2.1 == ([] : List UInt8))) fun y3 =>
          bnd (bif y3 then true else (decide ((y2.getD default).2.2.2 < 0))) fun y4 =>
          bif y4 then
            k0 (([] : List UInt8), 0, 0, true, [], true, [], true, [], 4)
          else
            bnd (G41x0x51 N (y1.getD default).2 ((y1.getD default).2.length : Int) (y2.getD default).2.2.2 0 true [] true [] true []) fun y5 =>
            bif (inlB y5) then
              k0 ((inlV y5).1, 0, 0, true, [], true, [], true, [], 2)
            else
              bif (inlB (inrQ y5)) then
                k0 ((inlV (inrQ y5)).1, 0, 0, true, [], true, [], true, [], 2)
              else
                bif (inlB (inrQ (inrQ y5))) then
                  k0 ((inlV (inrQ (inrQ y5))).1, 0, 0, true, [], true, [], true, [], 2)
                else
                  bif (inrQ (inrQ (inrQ y5))).isSome then
                    bnd (G13x0 N (y2.getD default).2.1 (y2.getD default).2.2.1 (y2.getD default).2.2.2 ((inrQ (inrQ (inrQ y5))).getD default).2.1 ((inrQ (inrQ (inrQ y5))).getD default).2.2.2.1 ((inrQ (inrQ (inrQ y5))).getD default).2.2.2.2.2) fun y6 =>
                    bif y6.isSome then
                      bif ((y6.getD default) != 0) then
                        k0 (([] : List UInt8), 0, 0, true, [], true, [], true, [], (y6.getD default))
                      else
                        k0 ((y2.getD default).2.1, (y2.getD default).2.2.1, (y2.getD default).2.2.2, ((inrQ (inrQ (inrQ y5))).getD default).1, ((inrQ (inrQ (inrQ y5))).getD default).2.1, ((inrQ (inrQ (inrQ y5))).getD default).2.2.1, ((inrQ (inrQ (inrQ y5))).getD default).2.2.2.1, ((inrQ (inrQ (inrQ y5))).getD default).2.2.2.2.1, ((inrQ (inrQ (inrQ y5))).getD default).2.2.2.2.2, 0)
                    else
                      none
                  else
                    none
        else
          none
      else
        none
  else
    none
noncomputable def G41x0 (v1 : LD) : Option (Ty0) := F41x0 N v1 (fun p => some p)
theorem bind41x0 (v1 : LD) (k0 : Ty0 → Option R) : F41x0 N v1 k0 = (G41x0 N v1).bind k0 := by
  unfold G41x0 F41x0
  repeat' (first | with_reducible apply cond_b | (with_reducible apply bnd_b; intro _) | rfl)
noncomputable def sh41x0 : Sh := { tmps := [(0, .g ([.sl 53]))], mem := [] }
noncomputable def K41x0w0 (L : List Lf) (p : Ty0) : Res := let p1 := p.2; let p2 := p1.2; let p3 := p2.2; let p4 := p3.2; let p5 := p4.2; let p6 := p5.2; let p7 := p6.2; let p8 := p7.2; let p9 := p8.2; ([.g [.s p.1, .i .i64 p1.1, .i .i64 p2.1, .sl 78 p3.1 p4.1, .sl 82 p5.1 p6.1, .sl 9 p7.1 p8.1], .c (.i .i64 p9)], [])
noncomputable def A41x0 (L : List Lf) : List (Bool × Res) := bnd (F41x0 N (ll L 1) (fun p => some p)) fun q => [(q.isSome, K41x0w0 L (q.getD default))]
theorem raw41x0 (L : List Lf) : bd Try.prog (T88x0 N) (h41x0s3 N).h 41 sh41x0 L = F41x0 N (ll L 1) (fun p => some (K41x0w0 L p)) := by kernel_rfl
theorem ok41x0 : FnOk Try.prog 41 sh41x0 (A41x0 N) :=
  (h41x0s3 N).fn progOk (T88x0_ok N) fun L x hx => ((raw41x0 N L).trans ((bind41x0 N ..).trans (alt1 x hx)))
noncomputable def T41x0 : Oracle := ext 41 (spSh sh41x0 (A41x0 N)) (T88x0 N)
theorem T41x0_ok : OracleOk Try.prog (T41x0 N) := FnOk.to (ok41x0 N) (T88x0_ok N)
noncomputable def rg129x0 : List (Nat × List Nat) := [(0, [0]), (1, [0]), (2, []), (3, [0])]
noncomputable def hd129x0 : Hints := []
noncomputable def h129x0s0 (N : Nat) : Sg Try.prog 0 129 := .start hd129x0 rg129x0
noncomputable def F129x0 (N : Nat) (v0 : Bool) (v1 : LD) (k0 : Bool × LD → Option R) : Option R :=
  bif v0 then
    k0 (true, [])
  else
    bif (decide ((0 + v1.length) * 1 ≤ room) && decide ((0 + v1.length) ≤ strMax)) then
      k0 ((v1.isEmpty && false), v1)
    else
      none
noncomputable def G129x0 (v0 : Bool) (v1 : LD) : Option (Bool × LD) := F129x0 N v0 v1 (fun p => some p)
theorem bind129x0 (v0 : Bool) (v1 : LD) (k0 : Bool × LD → Option R) : F129x0 N v0 v1 k0 = (G129x0 N v0 v1).bind k0 := by
  unfold G129x0 F129x0
  repeat' (first | with_reducible apply cond_b | (with_reducible apply bnd_b; intro _) | rfl)
noncomputable def sh129x0 : Sh := { tmps := [(0, .c (.sl 5))], mem := [] }
noncomputable def A129x0 (L : List Lf) : List (Bool × Res) := bnd (F129x0 N (lb L 0) (ll L 1) (fun p => some p)) fun q => [(q.isSome, ([.c (.sl 5 (q.getD default).1 (q.getD default).2)], []))]
theorem raw129x0 (L : List Lf) : bd Try.prog (T41x0 N) (h129x0s0 N).h 129 sh129x0 L = F129x0 N (lb L 0) (ll L 1) (fun p => some ([.c (.sl 5 p.1 p.2)], [])) := by kernel_rfl
theorem ok129x0 : FnOk Try.prog 129 sh129x0 (A129x0 N) :=
  (h129x0s0 N).fn progOk (T41x0_ok N) fun L x hx => ((raw129x0 N L).trans ((bind129x0 N ..).trans (alt1 x hx)))
noncomputable def T129x0 : Oracle := ext 129 (spSh sh129x0 (A129x0 N)) (T41x0 N)
theorem T129x0_ok : OracleOk Try.prog (T129x0 N) := FnOk.to (ok129x0 N) (T41x0_ok N)
noncomputable def rg130x0 : List (Nat × List Nat) := [(0, [0]), (1, [0]), (2, []), (3, [0])]
noncomputable def hd130x0 : Hints := []
noncomputable def h130x0s0 (N : Nat) : Sg Try.prog 0 130 := .start hd130x0 rg130x0 true
noncomputable def F130x0 (N : Nat) (v0 : Bool) (v1 : LD) (k0 : Unit → Option R) (k1 : Bool → Option R) : Option R :=
  bif v0 then
    k0 ()
  else
    bif (decide ((0 + v1.length) * 40 ≤ room) && decide ((0 + v1.length) ≤ strMax)) then
      k1 (v1.isEmpty && false)
    else
      none
noncomputable def G130x0 (v0 : Bool) (v1 : LD) : Option (Sum (Unit) (Bool)) := F130x0 N v0 v1 (fun p => some (.inl p)) (fun p => some (.inr p))
theorem bind130x0 (v0 : Bool) (v1 : LD) (k0 : Unit → Option R) (k1 : Bool → Option R) : F130x0 N v0 v1 k0 k1 = (G130x0 N v0 v1).bind (sumE k0 k1) := by
  unfold G130x0 F130x0
  repeat' (first | with_reducible apply cond_b | (with_reducible apply bnd_b; intro _) | rfl)
noncomputable def sh130x0 : Sh := { tmps := [(0, .c (.sl 103))], mem := [] }
noncomputable def A130x0 (L : List Lf) : List (Bool × Res) := bnd (F130x0 N (lb L 0) (ll L 1) (fun p => some (.inl p)) (fun p => some (.inr p))) fun q => [((inlB q), ([.c (.sl 103 true [])], [])), ((inrQ q).isSome, ([.c (.o 7)], [(7, .row 103 true ((inrQ q).getD default) (ll L 1))]))]
theorem raw130x0 (L : List Lf) : bd Try.prog (T129x0 N) (h130x0s0 N).h 130 sh130x0 L = F130x0 N (lb L 0) (ll L 1) (fun _ => some ([.c (.sl 103 true [])], [])) (fun p => some ([.c (.o 7)], [(7, .row 103 true p (ll L 1))])) := by kernel_rfl
theorem ok130x0 : FnOk Try.prog 130 sh130x0 (A130x0 N) :=
  (h130x0s0 N).fn progOk (T129x0_ok N) fun L x hx => ((raw130x0 N L).trans ((bind130x0 N ..).trans ((altS alt1) x hx)))
noncomputable def T130x0 : Oracle := ext 130 (spSh sh130x0 (A130x0 N)) (T129x0 N)
theorem T130x0_ok : OracleOk Try.prog (T130x0 N) := FnOk.to (ok130x0 N) (T129x0_ok N)
noncomputable def rg131x0 : List (Nat × List Nat) := [(0, [0]), (1, [0]), (2, []), (3, [0])]
noncomputable def hd131x0 : Hints := []
noncomputable def h131x0s0 (N : Nat) : Sg Try.prog 0 131 := .start hd131x0 rg131x0 true
noncomputable def F131x0 (N : Nat) (v0 : Bool) (v1 : LD) (k0 : Unit → Option R) (k1 : Bool → Option R) : Option R :=
  bif v0 then
    k0 ()
  else
    bif (decide ((0 + v1.length) * 24 ≤ room) && decide ((0 + v1.length) ≤ strMax)) then
      k1 (v1.isEmpty && false)
    else
      none
noncomputable def G131x0 (v0 : Bool) (v1 : LD) : Option (Sum (Unit) (Bool)) := F131x0 N v0 v1 (fun p => some (.inl p)) (fun p => some (.inr p))
theorem bind131x0 (v0 : Bool) (v1 : LD) (k0 : Unit → Option R) (k1 : Bool → Option R) : F131x0 N v0 v1 k0 k1 = (G131x0 N v0 v1).bind (sumE k0 k1) := by
  unfold G131x0 F131x0
  repeat' (first | with_reducible apply cond_b | (with_reducible apply bnd_b; intro _) | rfl)
noncomputable def sh131x0 : Sh := { tmps := [(0, .c (.sl 146))], mem := [] }
noncomputable def A131x0 (L : List Lf) : List (Bool × Res) := bnd (F131x0 N (lb L 0) (ll L 1) (fun p => some (.inl p)) (fun p => some (.inr p))) fun q => [((inlB q), ([.c (.sl 146 true [])], [])), ((inrQ q).isSome, ([.c (.o 7)], [(7, .row 146 true ((inrQ q).getD default) (ll L 1))]))]
theorem raw131x0 (L : List Lf) : bd Try.prog (T130x0 N) (h131x0s0 N).h 131 sh131x0 L = F131x0 N (lb L 0) (ll L 1) (fun _ => some ([.c (.sl 146 true [])], [])) (fun p => some ([.c (.o 7)], [(7, .row 146 true p (ll L 1))])) := by kernel_rfl
theorem ok131x0 : FnOk Try.prog 131 sh131x0 (A131x0 N) :=
  (h131x0s0 N).fn progOk (T130x0_ok N) fun L x hx => ((raw131x0 N L).trans ((bind131x0 N ..).trans ((altS alt1) x hx)))
noncomputable def T131x0 : Oracle := ext 131 (spSh sh131x0 (A131x0 N)) (T130x0 N)
theorem T131x0_ok : OracleOk Try.prog (T131x0 N) := FnOk.to (ok131x0 N) (T130x0_ok N)
noncomputable def rg76x0 : List (Nat × List Nat) := [(0, [0]), (1, [1, 2]), (2, [1, 2]), (3, [1, 2]), (4, [15, 14, 1, 2]), (5, [15, 1, 14, 2]), (6, [1, 3, 15, 14, 2]), (7, [15, 14, 1, 2]), (8, [1, 2])]
noncomputable def hd76x0 : Hints := [(7, [1, 2], [2, 1], []), (12, [15, 14, 1, 2], [2, 11000000007, 1], []), (19, [1, 3, 15, 14, 2], [2, 11000000007, 1], [])]
noncomputable def h76x0s0 (N : Nat) : Sg Try.prog 0 76 := .start hd76x0 rg76x0
noncomputable def F76x0x7 (w3 : Bool) (w4 : LD) (k0 : Unit → Option R) (k1 : Bool → Option R) : Option R :=
  bnd (G130x0 N w3 w4) fun y0 =>
  bif (inlB y0) then
    k0 ()
  else
    bif (inrQ y0).isSome then
      k1 ((inrQ y0).getD default)
    else
      none
noncomputable def G76x0x7 (w3 : Bool) (w4 : LD) : Option (Sum (Unit) (Bool)) := F76x0x7 N w3 w4 (fun p => some (.inl p)) (fun p => some (.inr p))
theorem bind76x0x7 (w3 : Bool) (w4 : LD) (k0 : Unit → Option R) (k1 : Bool → Option R) : F76x0x7 N w3 w4 k0 k1 = (G76x0x7 N w3 w4).bind (sumE k0 k1) := by
  unfold G76x0x7 F76x0x7
  repeat' (first | with_reducible apply cond_b | (with_reducible apply bnd_b; intro _) | rfl)
noncomputable def sh76x0x7 : Sh := { tmps := [(1, .c (.p 1 0)), (2, .c (.p 2 0))], mem := [(1, .box ([.i .i64, .i .i64, .i .i64, .sl 103, .sl 5])), (2, .box ([.i .i64, .i .i64, .i .i64, .sl 103, .sl 5]))] }
noncomputable def K76x0x7w0 (L : List Lf) (_ : Unit) : Ex × St := (.normal, mg (ofSh sh76x0x7 L) [1, 2] [] [1, 2] [(1, .box [.i .i64 (li L 0), .i .i64 (li L 1), .i .i64 (li L 2), .sl 103 true [], .sl 5 (lb L 5) (ll L 6)])])
noncomputable def K76x0x7w1 (L : List Lf) (p : Bool) : Ex × St := (.normal, mg (ofSh sh76x0x7 L) [1, 2] [] [1, 2, 11000000007] [(1, .box [.i .i64 (li L 0), .i .i64 (li L 1), .i .i64 (li L 2), .o 11000000007, .sl 5 (lb L 5) (ll L 6)]), (11000000007, .row 103 true p (ll L 4))])
noncomputable def A76x0x7 (L : List Lf) : List (Bool × (Ex × St)) := bnd (F76x0x7 N (lb L 3) (ll L 4) (fun p => some (.inl p)) (fun p => some (.inr p))) fun q => [((inlB q), K76x0x7w0 L ()), ((inrQ q).isSome, K76x0x7w1 L ((inrQ q).getD default))]
theorem raw76x0x7 (L : List Lf) : pc Try.prog (T131x0 N) (h76x0s0 N).h 0 100 76 7 sh76x0x7 L [1, 2] [2, 1, 11000000007] = F76x0x7 N (lb L 3) (ll L 4) (fun _ => some (K76x0x7w0 L ())) (fun p => some (K76x0x7w1 L p)) := by kernel_rfl
noncomputable def h76x0s1 : Sg Try.prog 0 76 :=
  (h76x0s0 N).cut (A76x0x7 N) progOk (T131x0_ok N) fun L x hx => (raw76x0x7 N L).trans ((bind76x0x7 N ..).trans ((altS alt1) x hx))
noncomputable def F76x0x19 (w0 : Int) (w16 : LD) (k0 : LD → Option R) : Option R :=
  bif (inB w0 w16.length) then
    bif (decide (w0.toNat < w16.length)) then
      bnd (G131x0 N ((w16.getD w0.toNat (.i 0)).cell 2).isNil ((w16.getD w0.toNat (.i 0)).cell 2).items) fun y0 =>
      bif (inlB y0) then
        bif (inB w0 w16.length) then
          bif (decide (w0.toNat < w16.length)) then
            bnd ((w16.set w0.toNat (.a [(.b ((w16.getD w0.toNat (.i 0)).cell 0).toB), (.i ((w16.getD w0.toNat (.i 0)).cell 1).toI), (.l true [])])) : List D) fun y1 =>
            k0 y1
          else
            none
        else
          none
      else
        bif (inrQ y0).isSome then
          bif (inB w0 w16.length) then
            bif (decide (w0.toNat < w16.length)) then
              bnd ((w16.set w0.toNat (.a [(.b ((w16.getD w0.toNat (.i 0)).cell 0).toB), (.i ((w16.getD w0.toNat (.i 0)).cell 1).toI), (.l ((inrQ y0).getD default) ((w16.getD w0.toNat (.i 0)).cell 2).items)])) : List D) fun y2 =>
              k0 y2
            else
              none
          else
            none
        else
          none
    else
      none
  else
    none
noncomputable def G76x0x19 (w0 : Int) (w16 : LD) : Option (LD) := F76x0x19 N w0 w16 (fun p => some p)
theorem bind76x0x19 (w0 : Int) (w16 : LD) (k0 : LD → Option R) : F76x0x19 N w0 w16 k0 = (G76x0x19 N w0 w16).bind k0 := by
  unfold G76x0x19 F76x0x19
  repeat' (first | with_reducible apply cond_b | (with_reducible apply bnd_b; intro _) | rfl)
noncomputable def sh76x0x19 : Sh := { tmps := [(1, .c (.p 1 0)), (2, .c (.p 2 0)), (3, .c (.i .i64)), (14, .c (.i .i64)), (15, .c (.i .i64))], mem := [(1, .box ([.i .i64, .i .i64, .i .i64, .o 11000000007, .sl 5])), (2, .box ([.i .i64, .i .i64, .i .i64, .sl 103, .sl 5])), (11000000007, .row 103 true)] }
noncomputable def K76x0x19w0 (L : List Lf) (p : LD) : Ex × St := (.normal, mg (ofSh sh76x0x19 L) [1, 2, 14, 15] [] [1, 2, 11000000007] [(11000000007, .row 103 true (lb L 15) p)])
noncomputable def A76x0x19 (L : List Lf) : List (Bool × (Ex × St)) := bnd (F76x0x19 N (li L 0) (ll L 16) (fun p => some p)) fun q => [(q.isSome, K76x0x19w0 L (q.getD default))]
theorem raw76x0x19 (L : List Lf) : pc Try.prog (T131x0 N) (h76x0s1 N).h 0 100 76 19 sh76x0x19 L [15, 14, 1, 2] [2, 11000000007, 1] = F76x0x19 N (li L 0) (ll L 16) (fun p => some (K76x0x19w0 L p)) := by kernel_rfl
noncomputable def h76x0s2 : Sg Try.prog 0 76 :=
  (h76x0s1 N).cut (A76x0x19 N) progOk (T131x0_ok N) fun L x hx => (raw76x0x19 N L).trans ((bind76x0x19 N ..).trans (alt1 x hx))
noncomputable def S76x0x12 (w0 : Int) (w1 : Int) (w15 : LD) (kr : Int → LD → Option R) (k0 : LD → Option R) : Option R :=
  bif (decide (w1 < w0)) then
    bnd (G76x0x19 N w1 w15) fun y0 =>
    bif y0.isSome then
      kr (IntKind.wrap .i64 (w1 + 1)) (y0.getD default)
    else
      none
  else
    k0 w15
noncomputable def L76x0x12 (N : Nat) {R : Type} (w0 : Int) : Nat → Int → LD → (LD → Option R) → Option R
  | 0, _, _, _ => none
  | m + 1, w1, w15, k0 => S76x0x12 N w0 w1 w15 (fun w1 w15 => L76x0x12 N w0 m w1 w15 k0) k0
noncomputable def G76x0x12 (w0 : Int) (w1 : Int) (w15 : LD) : Option (LD) := L76x0x12 N (R := (LD)) w0 N w1 w15 (fun p => some p)
noncomputable def J76x0x12 (L x : List Lf) (kr : List Lf → Option R) (k0 : LD → Option R) : Option R := S76x0x12 N (li L 0) (li x 0) (ll x 1) (fun w1 w15 => kr [.i w1, .l w15]) k0
theorem sb76x0x12 (L x : List Lf) (kr : List Lf → Option R) (k0 : LD → Option R) : J76x0x12 N L x kr k0 = (J76x0x12 N L x (fun y => some (.inl y)) (fun p => some (.inr p))).bind (sumE kr k0) := by
  unfold J76x0x12 S76x0x12
  repeat' (first | with_reducible apply cond_b | (with_reducible apply bnd_b; intro _) | rfl)
noncomputable def Q76x0x12 (L : List Lf) (m : Nat) (x : List Lf) : Option (LD) := L76x0x12 N (R := (LD)) (li L 0) m (li x 0) (ll x 1) (fun p => some p)
noncomputable def sh76x0x12 : Sh := { tmps := [(1, .c (.p 1 0)), (2, .c (.p 2 0)), (14, .c (.i .i64)), (15, .c (.i .i64))], mem := [(1, .box ([.i .i64, .i .i64, .i .i64, .o 11000000007, .sl 5])), (2, .box ([.i .i64, .i .i64, .i .i64, .sl 103, .sl 5])), (11000000007, .row 103 true)] }
noncomputable def K76x0x12w0 (L : List Lf) (p : LD) : Ex × St := ((.exit 0), mg (ofSh sh76x0x12 L) [1, 2] [] [1, 2, 11000000007] [(11000000007, .row 103 true (lb L 14) p)])
noncomputable def A76x0x12 (L : List Lf) : List (Bool × (Ex × St)) := bnd (Q76x0x12 N L N (pk sh76x0x12 [1, 15] L)) fun q => [(q.isSome, K76x0x12w0 L (q.getD default))]
theorem step76x0x12 (m : Nat) (kn : St → Option (Ex × St)) (L x : List Lf) : lpB Try.prog (T131x0 N) (h76x0s2 N).h 0 76 12 sh76x0x12 [1, 15] [2, 1] [2, 11000000007, 1] (m + 100) kn L x = J76x0x12 N L x (fun y => kn (ofSh sh76x0x12 (mx sh76x0x12 [1, 15] L y))) (fun p => some (K76x0x12w0 L p)) := by kernel_rfl
theorem ql76x0x12 (L : List Lf) (m : Nat) (x : List Lf) : Q76x0x12 N L (m + 1) x = J76x0x12 N L x (Q76x0x12 N L m) some := by kernel_rfl
noncomputable def h76x0s3 : Sg Try.prog 0 76 :=
  (h76x0s2 N).lp (A76x0x12 N) N progOk (T131x0_ok N) (fun m kn L x => (step76x0x12 N m kn L x).trans (sb76x0x12 N L x _ _)) (fun L m x => (ql76x0x12 N L m x).trans (sb76x0x12 N L x (Q76x0x12 N L m) some)) fun L x hx => alt1 x hx
noncomputable def F76x0 (v3 : Bool) (v4 : LD) (v5 : Bool) (v6 : LD) (k0 : Bool × LD × Bool × LD → Option R) : Option R :=
  bnd (G129x0 N v5 v6) fun y0 =>
  bif y0.isSome then
    bnd (G76x0x7 N v3 v4) fun y1 =>
    bif (inlB y1) then
      k0 (true, [], (y0.getD default).1, (y0.getD default).2)
    else
      bif (inrQ y1).isSome then
        bnd (G76x0x12 N (v4.length : Int) 0 v4) fun y2 =>
        bif y2.isSome then
          k0 (((inrQ y1).getD default), (y2.getD default), (y0.getD default).1, (y0.getD default).2)
        else
          none
      else
        none
  else
    none
noncomputable def G76x0 (v3 : Bool) (v4 : LD) (v5 : Bool) (v6 : LD) : Option (Bool × LD × Bool × LD) := F76x0 N v3 v4 v5 v6 (fun p => some p)
theorem bind76x0 (v3 : Bool) (v4 : LD) (v5 : Bool) (v6 : LD) (k0 : Bool × LD × Bool × LD → Option R) : F76x0 N v3 v4 v5 v6 k0 = (G76x0 N v3 v4 v5 v6).bind k0 := by
  unfold G76x0 F76x0
  repeat' (first | with_reducible apply cond_b | (with_reducible apply bnd_b; intro _) | rfl)
noncomputable def J76x0 (L : List Lf) (k0 : Bool × LD × Bool × LD → Option R) : Option R := F76x0 N (lb L 3) (ll L 4) (lb L 5) (ll L 6) k0
noncomputable def sh76x0 : Sh := { tmps := [(0, .g ([.i .i64, .i .i64, .i .i64, .sl 103, .sl 5]))], mem := [] }
noncomputable def K76x0w0 (L : List Lf) (p : Bool × LD × Bool × LD) : Res := ([.g [.i .i64 (li L 0), .i .i64 (li L 1), .i .i64 (li L 2), .sl 103 p.1 p.2.1, .sl 5 p.2.2.1 p.2.2.2]], [])
noncomputable def A76x0 (L : List Lf) : List (Bool × Res) := bnd (J76x0 N L (fun p => some p)) fun q => [(q.isSome, K76x0w0 L (q.getD default))]
theorem raw76x0 (L : List Lf) : bd Try.prog (T131x0 N) (h76x0s3 N).h 76 sh76x0 L = J76x0 N L (fun p => some (K76x0w0 L p)) := by kernel_rfl
theorem ok76x0 : FnOk Try.prog 76 sh76x0 (A76x0 N) :=
  (h76x0s3 N).fn progOk (T131x0_ok N) fun L x hx => ((raw76x0 N L).trans ((bind76x0 N ..).trans (alt1 x hx)))
noncomputable def T76x0 : Oracle := ext 76 (spSh sh76x0 (A76x0 N)) (T131x0 N)
theorem T76x0_ok : OracleOk Try.prog (T76x0 N) := FnOk.to (ok76x0 N) (T131x0_ok N)
noncomputable def rg78x0 : List (Nat × List Nat) := [(0, [0]), (1, [1, 2]), (2, [1, 3, 2]), (3, [9, 8, 7, 3, 2]), (4, [7, 9, 3, 8, 2]), (5, [3, 5, 9, 8, 7, 2]), (6, [9, 8, 7, 3, 2]), (7, [3, 2])]
noncomputable def hd78x0 : Hints := [(9, [9, 8, 7, 3, 2], [3, 2, 50003000], [50003000])]
noncomputable def h78x0s0 (N : Nat) : Sg Try.prog 0 78 := .start hd78x0 rg78x0 true
noncomputable def S78x0x9 (w1 : LD) (w2 : Int) (w3 : Int) (w6 : Bool) (w7 : LD) (kr : Int → Bool → LD → Option R) (k0 : Bool × LD → Option R) : Option R :=
  bif (decide (w3 < w2)) then
    bif (inB w3 w1.length) then
      bnd (G76x0 N ((w1.getD w3.toNat (.i 0)).cell 3).isNil ((w1.getD w3.toNat (.i 0)).cell 3).items ((w1.getD w3.toNat (.i 0)).cell 4).isNil ((w1.getD w3.toNat (.i 0)).cell 4).items) fun y0 =>
      bif y0.isSome then
        bif (decide ((w7.length + 1) * 72 ≤ room) && decide ((w7.length + 1) ≤ strMax)) then
          bnd ((w7 ++ [(.a [(.i ((w1.getD w3.toNat (.i 0)).cell 0).toI), (.i ((w1.getD w3.toNat (.i 0)).cell 1).toI), (.i ((w1.getD w3.toNat (.i 0)).cell 2).toI), (.l (y0.getD default).1 (y0.getD default).2.1), (.l (y0.getD default).2.2.1 (y0.getD default).2.2.2)])]) : List D) fun y1 =>
          kr (IntKind.wrap .i64 (w3 + 1)) false y1
        else
          none
      else
        none
    else
      none
  else
    k0 (w6, w7)
noncomputable def L78x0x9 (N : Nat) {R : Type} (w1 : LD) (w2 : Int) : Nat → Int → Bool → LD → (Bool × LD → Option R) → Option R
  | 0, _, _, _, _ => none
  | m + 1, w3, w6, w7, k0 => S78x0x9 N w1 w2 w3 w6 w7 (fun w3 w6 w7 => L78x0x9 N w1 w2 m w3 w6 w7 k0) k0
noncomputable def G78x0x9 (w1 : LD) (w2 : Int) (w3 : Int) (w6 : Bool) (w7 : LD) : Option (Bool × LD) := L78x0x9 N (R := (Bool × LD)) w1 w2 N w3 w6 w7 (fun p => some p)
noncomputable def J78x0x9 (L x : List Lf) (kr : List Lf → Option R) (k0 : Bool × LD → Option R) : Option R := S78x0x9 N (ll L 1) (li L 2) (li x 0) (lb x 1) (ll x 2) (fun w3 w6 w7 => kr [.i w3, .b w6, .l w7]) k0
theorem sb78x0x9 (L x : List Lf) (kr : List Lf → Option R) (k0 : Bool × LD → Option R) : J78x0x9 N L x kr k0 = (J78x0x9 N L x (fun y => some (.inl y)) (fun p => some (.inr p))).bind (sumE kr k0) := by
  unfold J78x0x9 S78x0x9
  repeat' (first | with_reducible apply cond_b | (with_reducible apply bnd_b; intro _) | rfl)
noncomputable def Q78x0x9 (L : List Lf) (m : Nat) (x : List Lf) : Option (Bool × LD) := L78x0x9 N (R := (Bool × LD)) (ll L 1) (li L 2) m (li x 0) (lb x 1) (ll x 2) (fun p => some p)
noncomputable def sh78x0x9 : Sh := { tmps := [(2, .c (.p 2 0)), (3, .c (.p 3 0)), (7, .c (.sl 53)), (8, .c (.i .i64)), (9, .c (.i .i64))], mem := [(2, .box ([.sl 53])), (3, .box ([.o 50003000])), (50003000, .row 53 true)] }
noncomputable def K78x0x9w0 (L : List Lf) (p : Bool × LD) : Ex × St := ((.exit 0), mg (ofSh sh78x0x9 L) [2, 3] [] [2, 3, 50003000] [(50003000, .row 53 true p.1 p.2)])
noncomputable def A78x0x9 (L : List Lf) : List (Bool × (Ex × St)) := bnd (Q78x0x9 N L N (pk sh78x0x9 [3, 6, 7] L)) fun q => [(q.isSome, K78x0x9w0 L (q.getD default))]
theorem step78x0x9 (m : Nat) (kn : St → Option (Ex × St)) (L x : List Lf) : lpB Try.prog (T76x0 N) (h78x0s0 N).h 0 78 9 sh78x0x9 [3, 6, 7] [2, 3] [50003000, 3, 2] (m + 100) kn L x = J78x0x9 N L x (fun y => kn (ofSh sh78x0x9 (mx sh78x0x9 [3, 6, 7] L y))) (fun p => some (K78x0x9w0 L p)) := by kernel_rfl
theorem ql78x0x9 (L : List Lf) (m : Nat) (x : List Lf) : Q78x0x9 N L (m + 1) x = J78x0x9 N L x (Q78x0x9 N L m) some := by kernel_rfl
noncomputable def h78x0s1 : Sg Try.prog 0 78 :=
  (h78x0s0 N).lp (A78x0x9 N) N progOk (T76x0_ok N) (fun m kn L x => (step78x0x9 N m kn L x).trans (sb78x0x9 N L x _ _)) (fun L m x => (ql78x0x9 N L m x).trans (sb78x0x9 N L x (Q78x0x9 N L m) some)) fun L x hx => alt1 x hx
noncomputable def F78x0 (v1 : LD) (k0 : Bool × LD → Option R) : Option R :=
  bnd (G78x0x9 N v1 (v1.length : Int) 0 true []) fun y0 =>
  bif y0.isSome then
    k0 (y0.getD default)
  else
    none
noncomputable def G78x0 (v1 : LD) : Option (Bool × LD) := F78x0 N v1 (fun p => some p)
theorem bind78x0 (v1 : LD) (k0 : Bool × LD → Option R) : F78x0 N v1 k0 = (G78x0 N v1).bind k0 := by
  unfold G78x0 F78x0
  repeat' (first | with_reducible apply cond_b | (with_reducible apply bnd_b; intro _) | rfl)
noncomputable def sh78x0 : Sh := { tmps := [(0, .g ([.sl 53]))], mem := [] }
noncomputable def A78x0 (L : List Lf) : List (Bool × Res) := bnd (F78x0 N (ll L 1) (fun p => some p)) fun q => [(q.isSome, ([.g [.o 50003000]], [(50003000, .row 53 true (q.getD default).1 (q.getD default).2)]))]
theorem raw78x0 (L : List Lf) : bd Try.prog (T76x0 N) (h78x0s1 N).h 78 sh78x0 L = F78x0 N (ll L 1) (fun p => some ([.g [.o 50003000]], [(50003000, .row 53 true p.1 p.2)])) := by kernel_rfl
theorem ok78x0 : FnOk Try.prog 78 sh78x0 (A78x0 N) :=
  (h78x0s1 N).fn progOk (T76x0_ok N) fun L x hx => ((raw78x0 N L).trans ((bind78x0 N ..).trans (alt1 x hx)))
noncomputable def T78x0 : Oracle := ext 78 (spSh sh78x0 (A78x0 N)) (T76x0 N)
theorem T78x0_ok : OracleOk Try.prog (T78x0 N) := FnOk.to (ok78x0 N) (T76x0_ok N)
noncomputable def rg120x0 : List (Nat × List Nat) := [(0, [1, 0]), (1, [1, 0]), (2, [1, 0]), (3, [1, 0]), (4, [1, 0]), (5, [0, 1]), (6, [0])]
noncomputable def hd120x0 : Hints := [(17, [0, 1, 16], [], [])]
noncomputable def h120x0s0 (N : Nat) : Sg Try.prog 0 120 := .start hd120x0 rg120x0 true
noncomputable def F120x0x17 (N : Nat) (w2 : Int) (w3 : Bool) (k0 : Bool → Option R) (k1 : Unit → Option R) : Option R :=
  bif w3 then
    bif ((decide (0 ≤ w2)) && (decide (w2.toNat * 1 ≤ room) && decide (w2.toNat ≤ strMax))) then
      bif (decide (0 ≤ ((List.replicate w2.toNat ((.i 0) : D)).length : Int))) then
        k0 (Nat.beq w2.toNat 0)
      else
        none
    else
      none
  else
    k1 ()
noncomputable def G120x0x17 (w2 : Int) (w3 : Bool) : Option (Sum (Bool) (Unit)) := F120x0x17 N w2 w3 (fun p => some (.inl p)) (fun p => some (.inr p))
theorem bind120x0x17 (w2 : Int) (w3 : Bool) (k0 : Bool → Option R) (k1 : Unit → Option R) : F120x0x17 N w2 w3 k0 k1 = (G120x0x17 N w2 w3).bind (sumE k0 k1) := by
  unfold G120x0x17 F120x0x17
  repeat' (first | with_reducible apply cond_b | (with_reducible apply bnd_b; intro _) | rfl)
noncomputable def sh120x0x17 : Sh := { tmps := [(0, .c (.nsl 5)), (1, .c (.i .i64)), (16, .c (.b))], mem := [] }
noncomputable def A120x0x17 (L : List Lf) : List (Bool × (Ex × St)) := bnd (F120x0x17 N (li L 2) (lb L 3) (fun p => some (.inl p)) (fun p => some (.inr p))) fun q => [((inlB q), (.normal, ⟨[(0, .c (.o 25))], [(25, .row 5 true (inlV q) [])]⟩)), ((inrQ q).isSome, (.normal, ⟨[(0, .c (.sl 5 true []))], []⟩))]
theorem raw120x0x17 (L : List Lf) : pc Try.prog (T78x0 N) (h120x0s0 N).h 0 100 120 17 sh120x0x17 L [0] [25] = F120x0x17 N (li L 2) (lb L 3) (fun p => some (.normal, ⟨[(0, .c (.o 25))], [(25, .row 5 true p [])]⟩)) (fun _ => some (.normal, ⟨[(0, .c (.sl 5 true []))], []⟩)) := by kernel_rfl
noncomputable def h120x0s1 : Sg Try.prog 0 120 :=
  (h120x0s0 N).cut (A120x0x17 N) progOk (T78x0_ok N) fun L x hx => (raw120x0x17 N L).trans ((bind120x0x17 N ..).trans ((altS alt1) x hx))
noncomputable def F120x0 (v2 : Int) (k0 : Bool → Option R) (k1 : Unit → Option R) : Option R :=
  bif (decide (v2 < 0)) then
    none
  else
    bnd (G120x0x17 N (IntKind.wrap .i64 (v2 - 0)) (decide ((IntKind.wrap .i64 (v2 - 0)) > 0))) fun y0 =>
    bif (inlB y0) then
      k0 (inlV y0)
    else
      bif (inrQ y0).isSome then
        k1 ()
      else
        none
noncomputable def G120x0 (v2 : Int) : Option (Sum (Bool) (Unit)) := F120x0 N v2 (fun p => some (.inl p)) (fun p => some (.inr p))
theorem bind120x0 (v2 : Int) (k0 : Bool → Option R) (k1 : Unit → Option R) : F120x0 N v2 k0 k1 = (G120x0 N v2).bind (sumE k0 k1) := by
  unfold G120x0 F120x0
  repeat' (first | with_reducible apply cond_b | (with_reducible apply bnd_b; intro _) | rfl)
noncomputable def sh120x0 : Sh := { tmps := [(0, .c (.nsl 5)), (1, .c (.i .i64))], mem := [] }
noncomputable def A120x0 (L : List Lf) : List (Bool × Res) := bnd (F120x0 N (li L 2) (fun p => some (.inl p)) (fun p => some (.inr p))) fun q => [((inlB q), ([.c (.o 25)], [(25, .row 5 true (inlV q) [])])), ((inrQ q).isSome, ([.c (.sl 5 true [])], []))]
theorem raw120x0 (L : List Lf) : bd Try.prog (T78x0 N) (h120x0s1 N).h 120 sh120x0 L = F120x0 N (li L 2) (fun p => some ([.c (.o 25)], [(25, .row 5 true p [])])) (fun _ => some ([.c (.sl 5 true [])], [])) := by kernel_rfl
theorem ok120x0 : FnOk Try.prog 120 sh120x0 (A120x0 N) :=
  (h120x0s1 N).fn progOk (T78x0_ok N) fun L x hx => ((raw120x0 N L).trans ((bind120x0 N ..).trans ((altS alt1) x hx)))
noncomputable def T120x0 : Oracle := ext 120 (spSh sh120x0 (A120x0 N)) (T78x0 N)
theorem T120x0_ok : OracleOk Try.prog (T120x0 N) := FnOk.to (ok120x0 N) (T78x0_ok N)
noncomputable def rg66x0 : List (Nat × List Nat) := [(0, [0]), (1, [0]), (2, [0, 3]), (3, [11, 10, 9, 3, 0]), (4, [9, 11, 3, 10, 0]), (5, [3, 5, 11, 10, 9, 0]), (6, [3, 11, 10, 9, 0]), (7, [11, 10, 9, 3, 0]), (8, [11, 10, 9, 3, 0]), (9, [3, 0]), (10, [0, 6]), (11, [27, 26, 25, 6]), (12, [25, 27, 6, 26]), (13, [6, 8, 27, 26, 25]), (14, [27, 26, 25, 6]), (15, [6])]
noncomputable def hd66x0 : Hints := [(9, [11, 10, 9, 3, 0], [], []), (28, [3, 0], [], []), (33, [27, 26, 25, 6], [25000000025, 6], [6])]
noncomputable def h66x0s0 (N : Nat) : Sg Try.prog 0 66 := .start hd66x0 rg66x0 true
noncomputable def S66x0x9 (N : Nat) (w4 : LD) (w5 : Int) (w2 w6 : Int) (kr : Int → Int → Option R) (k0 : Int → Option R) : Option R :=
  bif (decide (w6 < w5)) then
    bif (inB w6 w4.length) then
      bnd (IntKind.wrap .i64 (w2 + ((w4.getD w6.toNat (.i 0)).items.length : Int))) fun y0 =>
      bif (decide (y0 < 0)) then
        none
      else
        kr y0 (IntKind.wrap .i64 (w6 + 1))
    else
      none
  else
    k0 w2
noncomputable def L66x0x9 (N : Nat) {R : Type} (w4 : LD) (w5 : Int) : Nat → Int → Int → (Int → Option R) → Option R
  | 0, _, _, _ => none
  | m + 1, w2, w6, k0 => S66x0x9 N w4 w5 w2 w6 (fun w2 w6 => L66x0x9 N w4 w5 m w2 w6 k0) k0
noncomputable def G66x0x9 (w4 : LD) (w5 : Int) (w2 w6 : Int) : Option (Int) := L66x0x9 N (R := (Int)) w4 w5 N w2 w6 (fun p => some p)
noncomputable def J66x0x9 (L x : List Lf) (kr : List Lf → Option R) (k0 : Int → Option R) : Option R := S66x0x9 N (ll L 4) (li L 5) (li x 0) (li x 1) (fun w2 w6 => kr [.i w2, .i w6]) k0
theorem sb66x0x9 (L x : List Lf) (kr : List Lf → Option R) (k0 : Int → Option R) : J66x0x9 N L x kr k0 = (J66x0x9 N L x (fun y => some (.inl y)) (fun p => some (.inr p))).bind (sumE kr k0) := by
  unfold J66x0x9 S66x0x9
  repeat' (first | with_reducible apply cond_b | (with_reducible apply bnd_b; intro _) | rfl)
noncomputable def Q66x0x9 (L : List Lf) (m : Nat) (x : List Lf) : Option (Int) := L66x0x9 N (R := (Int)) (ll L 4) (li L 5) m (li x 0) (li x 1) (fun p => some p)
noncomputable def sh66x0x9 : Sh := { tmps := [(0, .c (.sl 37)), (3, .c (.i .i64)), (9, .c (.sl 37)), (10, .c (.i .i64)), (11, .c (.i .i64))], mem := [] }
noncomputable def K66x0x9w0 (L : List Lf) (p : Int) : Ex × St := ((.exit 0), mg (ofSh sh66x0x9 L) [0, 3] [(3, .c (.i .i64 p))] [] [])
noncomputable def A66x0x9 (L : List Lf) : List (Bool × (Ex × St)) := bnd (Q66x0x9 N L N (pk sh66x0x9 [2, 6] L)) fun q => [(q.isSome, K66x0x9w0 L (q.getD default))]
theorem step66x0x9 (m : Nat) (kn : St → Option (Ex × St)) (L x : List Lf) : lpB Try.prog (T120x0 N) (h66x0s0 N).h 0 66 9 sh66x0x9 [2, 6] [2, 3, 0] [] (m + 100) kn L x = J66x0x9 N L x (fun y => kn (ofSh sh66x0x9 (mx sh66x0x9 [2, 6] L y))) (fun p => some (K66x0x9w0 L p)) := by kernel_rfl
theorem ql66x0x9 (L : List Lf) (m : Nat) (x : List Lf) : Q66x0x9 N L (m + 1) x = J66x0x9 N L x (Q66x0x9 N L m) some := by kernel_rfl
noncomputable def h66x0s1 : Sg Try.prog 0 66 :=
  (h66x0s0 N).lp (A66x0x9 N) N progOk (T120x0_ok N) (fun m kn L x => (step66x0x9 N m kn L x).trans (sb66x0x9 N L x _ _)) (fun L m x => (ql66x0x9 N L m x).trans (sb66x0x9 N L x (Q66x0x9 N L m) some)) fun L x hx => alt1 x hx
noncomputable def F66x0x28 (w2 : Int) (k0 : Bool → Option R) (k1 : Unit → Option R) : Option R :=
  bnd (G120x0 N w2) fun y0 =>
  bif (inlB y0) then
    k0 (inlV y0)
  else
    bif (inrQ y0).isSome then
      k1 ()
    else
      none
noncomputable def G66x0x28 (w2 : Int) : Option (Sum (Bool) (Unit)) := F66x0x28 N w2 (fun p => some (.inl p)) (fun p => some (.inr p))
theorem bind66x0x28 (w2 : Int) (k0 : Bool → Option R) (k1 : Unit → Option R) : F66x0x28 N w2 k0 k1 = (G66x0x28 N w2).bind (sumE k0 k1) := by
  unfold G66x0x28 F66x0x28
  repeat' (first | with_reducible apply cond_b | (with_reducible apply bnd_b; intro _) | rfl)
noncomputable def sh66x0x28 : Sh := { tmps := [(0, .c (.sl 37)), (3, .c (.i .i64))], mem := [] }
noncomputable def K66x0x28w0 (L : List Lf) (p : Bool) : Ex × St := (.normal, ⟨[(0, .c (.sl 37 (lb L 0) (ll L 1))), (6, .c (.o 25000000025))], [(25000000025, .row 5 true p [])]⟩)
noncomputable def K66x0x28w1 (L : List Lf) (_ : Unit) : Ex × St := (.normal, mg (ofSh sh66x0x28 L) [0, 6] [(6, .c (.sl 5 true []))] [] [])
noncomputable def A66x0x28 (L : List Lf) : List (Bool × (Ex × St)) := bnd (F66x0x28 N (li L 2) (fun p => some (.inl p)) (fun p => some (.inr p))) fun q => [((inlB q), K66x0x28w0 L (inlV q)), ((inrQ q).isSome, K66x0x28w1 L ())]
theorem raw66x0x28 (L : List Lf) : pc Try.prog (T120x0 N) (h66x0s1 N).h 0 100 66 28 sh66x0x28 L [0, 6] [25000000025] = F66x0x28 N (li L 2) (fun p => some (K66x0x28w0 L p)) (fun _ => some (K66x0x28w1 L ())) := by kernel_rfl
noncomputable def h66x0s2 : Sg Try.prog 0 66 :=
  (h66x0s1 N).cut (A66x0x28 N) progOk (T120x0_ok N) fun L x hx => (raw66x0x28 N L).trans ((bind66x0x28 N ..).trans ((altS alt1) x hx))
noncomputable def S66x0x33 (N : Nat) (w1 : LD) (w2 : Int) (w3 : Int) (w4 : Bool) (w5 : LD) (kr : Int → Bool → LD → Option R) (k0 : Bool × LD → Option R) : Option R :=
  bif (decide (w3 < w2)) then
    bif (inB w3 w1.length) then
      bif (decide ((w5.length + (w1.getD w3.toNat (.i 0)).items.length) * 1 ≤ room) && decide ((w5.length + (w1.getD w3.toNat (.i 0)).items.length) ≤ strMax)) then
        kr (IntKind.wrap .i64 (w3 + 1)) ((w1.getD w3.toNat (.i 0)).items.isEmpty && w4) (w5 ++ (w1.getD w3.toNat (.i 0)).items)
      else
        none
    else
      none
  else
    k0 (w4, w5)
noncomputable def L66x0x33 (N : Nat) {R : Type} (w1 : LD) (w2 : Int) : Nat → Int → Bool → LD → (Bool × LD → Option R) → Option R
  | 0, _, _, _, _ => none
  | m + 1, w3, w4, w5, k0 => S66x0x33 N w1 w2 w3 w4 w5 (fun w3 w4 w5 => L66x0x33 N w1 w2 m w3 w4 w5 k0) k0
noncomputable def G66x0x33 (w1 : LD) (w2 : Int) (w3 : Int) (w4 : Bool) (w5 : LD) : Option (Bool × LD) := L66x0x33 N (R := (Bool × LD)) w1 w2 N w3 w4 w5 (fun p => some p)
noncomputable def J66x0x33 (L x : List Lf) (kr : List Lf → Option R) (k0 : Bool × LD → Option R) : Option R := S66x0x33 N (ll L 1) (li L 2) (li x 0) (lb x 1) (ll x 2) (fun w3 w4 w5 => kr [.i w3, .b w4, .l w5]) k0
theorem sb66x0x33 (L x : List Lf) (kr : List Lf → Option R) (k0 : Bool × LD → Option R) : J66x0x33 N L x kr k0 = (J66x0x33 N L x (fun y => some (.inl y)) (fun p => some (.inr p))).bind (sumE kr k0) := by
  unfold J66x0x33 S66x0x33
  repeat' (first | with_reducible apply cond_b | (with_reducible apply bnd_b; intro _) | rfl)
noncomputable def Q66x0x33 (L : List Lf) (m : Nat) (x : List Lf) : Option (Bool × LD) := L66x0x33 N (R := (Bool × LD)) (ll L 1) (li L 2) m (li x 0) (lb x 1) (ll x 2) (fun p => some p)
noncomputable def sh66x0x33 : Sh := { tmps := [(6, .c (.o 6)), (25, .c (.sl 37)), (26, .c (.i .i64)), (27, .c (.i .i64))], mem := [(6, .row 5 true)] }
noncomputable def A66x0x33 (L : List Lf) : List (Bool × (Ex × St)) := bnd (Q66x0x33 N L N (pk sh66x0x33 [3, 4, 5] L)) fun q => [(q.isSome, ((.exit 2), ⟨[(6, .c (.o 6))], [(6, .row 5 true (q.getD default).1 (q.getD default).2)]⟩))]
theorem step66x0x33 (m : Nat) (kn : St → Option (Ex × St)) (L x : List Lf) : lpB Try.prog (T120x0 N) (h66x0s2 N).h 0 66 33 sh66x0x33 [3, 4, 5] [2, 6] [6] (m + 100) kn L x = J66x0x33 N L x (fun y => kn (ofSh sh66x0x33 (mx sh66x0x33 [3, 4, 5] L y))) (fun p => some ((.exit 2), ⟨[(6, .c (.o 6))], [(6, .row 5 true p.1 p.2)]⟩)) := by kernel_rfl
theorem ql66x0x33 (L : List Lf) (m : Nat) (x : List Lf) : Q66x0x33 N L (m + 1) x = J66x0x33 N L x (Q66x0x33 N L m) some := by kernel_rfl
noncomputable def h66x0s3 : Sg Try.prog 0 66 :=
  (h66x0s2 N).lp (A66x0x33 N) N progOk (T120x0_ok N) (fun m kn L x => (step66x0x33 N m kn L x).trans (sb66x0x33 N L x _ _)) (fun L m x => (ql66x0x33 N L m x).trans (sb66x0x33 N L x (Q66x0x33 N L m) some)) fun L x hx => alt1 x hx
noncomputable def F66x0 (v1 : LD) (k0 : Bool × LD → Option R) : Option R :=
  bnd (G66x0x9 N v1 (v1.length : Int) 0 0) fun y0 =>
  bif y0.isSome then
    bnd (G66x0x28 N (y0.getD default)) fun y1 =>
    bif (inlB y1) then
      bnd (G66x0x33 N v1 (v1.length : Int) 0 (inlV y1) []) fun y2 =>
      bif y2.isSome then
        k0 (y2.getD default)
      else
        none
    else
      bif (inrQ y1).isSome then
        bnd (G66x0x33 N v1 (v1.length : Int) 0 true []) fun y3 =>
        bif y3.isSome then
          k0 (y3.getD default)
        else
          none
      else
        none
  else
    none
noncomputable def G66x0 (v1 : LD) : Option (Bool × LD) := F66x0 N v1 (fun p => some p)
theorem bind66x0 (v1 : LD) (k0 : Bool × LD → Option R) : F66x0 N v1 k0 = (G66x0 N v1).bind k0 := by
  unfold G66x0 F66x0
  repeat' (first | with_reducible apply cond_b | (with_reducible apply bnd_b; intro _) | rfl)
noncomputable def sh66x0 : Sh := { tmps := [(0, .c (.sl 37))], mem := [] }
noncomputable def A66x0 (L : List Lf) : List (Bool × Res) := bnd (F66x0 N (ll L 1) (fun p => some p)) fun q => [(q.isSome, ([.c (.o 6)], [(6, .row 5 true (q.getD default).1 (q.getD default).2)]))]
theorem raw66x0 (L : List Lf) : bd Try.prog (T120x0 N) (h66x0s3 N).h 66 sh66x0 L = F66x0 N (ll L 1) (fun p => some ([.c (.o 6)], [(6, .row 5 true p.1 p.2)])) := by kernel_rfl
theorem ok66x0 : FnOk Try.prog 66 sh66x0 (A66x0 N) :=
  (h66x0s3 N).fn progOk (T120x0_ok N) fun L x hx => ((raw66x0 N L).trans ((bind66x0 N ..).trans (alt1 x hx)))
noncomputable def T66x0 : Oracle := ext 66 (spSh sh66x0 (A66x0 N)) (T120x0 N)
theorem T66x0_ok : OracleOk Try.prog (T66x0 N) := FnOk.to (ok66x0 N) (T120x0_ok N)
noncomputable def rg31x0 : List (Nat × List Nat) := [(0, [0]), (1, [1, 2]), (2, [4, 2, 1]), (3, [4, 2]), (4, [1, 2]), (5, [1, 2, 5]), (6, [1, 6, 2, 5]), (7, [23, 22, 21, 6, 2, 5]), (8, [23, 21, 6, 22, 2, 5]), (9, [6, 8, 23, 22, 21, 2, 5, 7]), (10, [8, 23, 22, 21, 6, 2, 5, 9, 7]), (11, [9, 2, 6, 8, 5, 7, 23, 22, 21]), (12, [2]), (13, [6, 8, 5, 7, 9, 23, 22, 21, 2]), (14, [5, 7, 8, 10, 9, 23, 22, 21, 6, 2]), (15, [23, 22, 21, 6, 2, 5]), (16, [5, 2])]
noncomputable def hd31x0 : Hints := [(21, [23, 22, 21, 6, 2, 5], [20000000002, 19050003000, 5, 2], [])]
noncomputable def h31x0s0 (N : Nat) : Sg Try.prog 0 31 := .start hd31x0 rg31x0
noncomputable def S31x0x21 (w1 : LD) (w2 : Int) (w3 : Int) (w7 : LD) (w8 : D) (kr : Int → LD → D → Option R) (k0 : LD → Option R) (k1 : LD → Option R) : Option R :=
  bif (decide (w3 < w2)) then
    bif (inB w3 w1.length) then
      bnd (G72x0 N ((w1.getD w3.toNat (.i 0)).cell 0).toI ((w1.getD w3.toNat (.i 0)).cell 1).toI ((w1.getD w3.toNat (.i 0)).cell 2).toI ((w1.getD w3.toNat (.i 0)).cell 3).items ((w1.getD w3.toNat (.i 0)).cell 4).items w8) fun y0 =>
      bif y0.isSome then
        bif (((w1.getD w3.toNat (.i 0)).cell 0).toI != 3) then
          kr (IntKind.wrap .i64 (w3 + 1)) w7 (y0.getD default).2
        else
          bif (decide ((y0.getD default).1 > 4294967294)) then
            k0 w7
          else
            bif (inB ((w1.getD w3.toNat (.i 0)).cell 1).toI 16) then
              bnd ((y0.getD default).2.cell (0 + (((w1.getD w3.toNat (.i 0)).cell 1).toI.toNat * 6))).toB fun y1 =>
              bnd ((y0.getD default).2.cell (1 + (((w1.getD w3.toNat (.i 0)).cell 1).toI.toNat * 6))).toB fun y2 =>
              bnd ((y0.getD default).2.cell (2 + (((w1.getD w3.toNat (.i 0)).cell 1).toI.toNat * 6))).toI fun y3 =>
              bnd ((y0.getD default).2.cell (3 + (((w1.getD w3.toNat (.i 0)).cell 1).toI.toNat * 6))).isNil fun y4 =>
              bnd (((y0.getD default).2.cell (3 + (((w1.getD w3.toNat (.i 0)).cell 1).toI.toNat * 6))).items : List D) fun y5 =>
              bnd ((y0.getD default).2.cell (4 + (((w1.getD w3.toNat (.i 0)).cell 1).toI.toNat * 6))).toI fun y6 =>
              bnd ((y0.getD default).2.cell (5 + (((w1.getD w3.toNat (.i 0)).cell 1).toI.toNat * 6))).toI fun y7 =>
              bif ((decide (0 ≤ y7)) && (decide (y7 ≤ (((w1.getD w3.toNat (.i 0)).cell 4).items.length : Int)))) then
                bnd (((((w1.getD w3.toNat (.i 0)).cell 4).items.take y7.toNat).drop 0) : List D) fun y8 =>
                bnd (G67x0 N (y0.getD default).1 4 y2) fun y9 =>
                bif y9.isSome then
                  bif (((decide (0 ≤ y7)) && (decide (y7 ≤ (((w1.getD w3.toNat (.i 0)).cell 4).items.length : Int)))) && (decide ((((w1.getD w3.toNat (.i 0)).cell 4).items.length : Int) ≤ (((w1.getD w3.toNat (.i 0)).cell 4).items.length : Int)))) then
                    bnd (((((w1.getD w3.toNat (.i 0)).cell 4).items.take (((w1.getD w3.toNat (.i 0)).cell 4).items.length : Int).toNat).drop y7.toNat) : List D) fun y10 =>
                    bnd (G66x0 N [(.l ((w1.getD w3.toNat (.i 0)).cell 4).isNil y8), (.l false (y9.getD default)), (.l ((w1.getD w3.toNat (.i 0)).cell 4).isNil y10)]) fun y11 =>
                    bif y11.isSome then
                      bif (inB w3 w7.length) then
                        bif (decide (w3.toNat < w7.length)) then
                          bnd ((w7.set w3.toNat (.a [(.i 2), (.i ((w1.getD w3.toNat (.i 0)).cell 1).toI), (.i 0), (.l true []), (.l (y11.getD default).1 (y11.getD default).2)])) : List D) fun y12 =>
                          kr (IntKind.wrap .i64 (w3 + 1)) y12 (y0.getD default).2
                        else
                          none
                      else
                        none
                    else
                      none
                  else
                    none
                else
                  none
              else
                none
            else
              none
      else
        none
    else
      none
  else
    k1 w7
noncomputable def L31x0x21 (N : Nat) {R : Type} (w1 : LD) (w2 : Int) : Nat → Int → LD → D → (LD → Option R) → (LD → Option R) → Option R
  | 0, _, _, _, _, _ => none
  | m + 1, w3, w7, w8, k0, k1 => S31x0x21 N w1 w2 w3 w7 w8 (fun w3 w7 w8 => L31x0x21 N w1 w2 m w3 w7 w8 k0 k1) k0 k1
noncomputable def G31x0x21 (w1 : LD) (w2 : Int) (w3 : Int) (w7 : LD) (w8 : D) : Option (Sum (LD) (LD)) := L31x0x21 N (R := (Sum (LD) (LD))) w1 w2 N w3 w7 w8 (fun p => some (.inl p)) (fun p => some (.inr p))
noncomputable def J31x0x21 (L x : List Lf) (kr : List Lf → Option R) (k0 : LD → Option R) (k1 : LD → Option R) : Option R := S31x0x21 N (ll L 1) (li L 2) (li x 0) (ll x 1) (ld x 2) (fun w3 w7 w8 => kr [.i w3, .l w7, .d w8]) k0 k1
theorem sb31x0x21 (L x : List Lf) (kr : List Lf → Option R) (k0 : LD → Option R) (k1 : LD → Option R) : J31x0x21 N L x kr k0 k1 = (J31x0x21 N L x (fun y => some (.inl y)) (fun p => some (.inr (.inl p))) (fun p => some (.inr (.inr p)))).bind (sumE kr (sumE k0 k1)) := by
  unfold J31x0x21 S31x0x21
  repeat' (first | with_reducible apply cond_b | (with_reducible apply bnd_b; intro _) | rfl)
noncomputable def Q31x0x21 (L : List Lf) (m : Nat) (x : List Lf) : Option (Sum (LD) (LD)) := L31x0x21 N (R := (Sum (LD) (LD))) (ll L 1) (li L 2) m (li x 0) (ll x 1) (ld x 2) (fun p => some (.inl p)) (fun p => some (.inr p))
noncomputable def sh31x0x21 : Sh := { tmps := [(2, .c (.p 2 0)), (5, .c (.p 5 0)), (6, .c (.p 20000000002 0)), (21, .c (.sl 53)), (22, .c (.i .i64)), (23, .c (.i .i64))], mem := [(2, .box ([.sl 53])), (5, .box ([.o 19050003000])), (19050003000, .row 53 true), (20000000002, .dat 116)] }
noncomputable def K31x0x21w0 (L : List Lf) (p : LD) : Ex × St := (.ret, ⟨[(2, .c (.p 2 0)), (3, .c (.i .i64 9))], [(2, .box [.sl 53 true []]), (5, .box [.o 19050003000]), (19050003000, .row 53 true (lb L 6) p)]⟩)
noncomputable def K31x0x21w1 (L : List Lf) (p : LD) : Ex × St := ((.exit 0), mg (ofSh sh31x0x21 L) [2, 5] [] [2, 5, 19050003000] [(19050003000, .row 53 true (lb L 6) p)])
noncomputable def A31x0x21 (L : List Lf) : List (Bool × (Ex × St)) := bnd (Q31x0x21 N L N (pk sh31x0x21 [3, 7, 8] L)) fun q => [((inlB q), K31x0x21w0 L (inlV q)), ((inrQ q).isSome, K31x0x21w1 L ((inrQ q).getD default))]
theorem step31x0x21 (m : Nat) (kn : St → Option (Ex × St)) (L x : List Lf) : lpB Try.prog (T66x0 N) (h31x0s0 N).h 0 31 21 sh31x0x21 [3, 7, 8] [2, 3, 5] [2, 19050003000, 5] (m + 100) kn L x = J31x0x21 N L x (fun y => kn (ofSh sh31x0x21 (mx sh31x0x21 [3, 7, 8] L y))) (fun p => some (K31x0x21w0 L p)) (fun p => some (K31x0x21w1 L p)) := by kernel_rfl
theorem ql31x0x21 (L : List Lf) (m : Nat) (x : List Lf) : Q31x0x21 N L (m + 1) x = J31x0x21 N L x (Q31x0x21 N L m) (fun p => some (.inl p)) (fun p => some (.inr p)) := by kernel_rfl
noncomputable def h31x0s1 : Sg Try.prog 0 31 :=
  (h31x0s0 N).lp (A31x0x21 N) N progOk (T66x0_ok N) (fun m kn L x => (step31x0x21 N m kn L x).trans (sb31x0x21 N L x _ _ _)) (fun L m x => (ql31x0x21 N L m x).trans (sb31x0x21 N L x (Q31x0x21 N L m) (fun p => some (.inl p)) (fun p => some (.inr p)))) fun L x hx => (altS alt1) x hx
noncomputable def F31x0 (v1 : LD) (k0 : Bool × LD × Int → Option R) : Option R :=
  bnd (G22x0 N v1) fun y0 =>
  bif y0.isSome then
    bif ((y0.getD default) != 0) then
      k0 (true, [], (y0.getD default))
    else
      bnd (G78x0 N v1) fun y1 =>
      bif y1.isSome then
        bnd (V70x0 N) fun y2 =>
        bnd (G31x0x21 N v1 (v1.length : Int) 0 (y1.getD default).2 y2) fun y3 =>
        bif (inlB y3) then
          k0 (true, [], 9)
        else
          bif (inrQ y3).isSome then
            k0 ((y1.getD default).1, ((inrQ y3).getD default), 0)
          else
            none
      else
        none
  else
    none
noncomputable def G31x0 (v1 : LD) : Option (Bool × LD × Int) := F31x0 N v1 (fun p => some p)
theorem bind31x0 (v1 : LD) (k0 : Bool × LD × Int → Option R) : F31x0 N v1 k0 = (G31x0 N v1).bind k0 := by
  unfold G31x0 F31x0
  repeat' (first | with_reducible apply cond_b | (with_reducible apply bnd_b; intro _) | rfl)
noncomputable def sh31x0 : Sh := { tmps := [(0, .g ([.sl 53]))], mem := [] }
noncomputable def A31x0 (L : List Lf) : List (Bool × Res) := bnd (F31x0 N (ll L 1) (fun p => some p)) fun q => [(q.isSome, ([.g [.sl 53 (q.getD default).1 (q.getD default).2.1], .c (.i .i64 (q.getD default).2.2)], []))]
theorem raw31x0 (L : List Lf) : bd Try.prog (T66x0 N) (h31x0s1 N).h 31 sh31x0 L = F31x0 N (ll L 1) (fun p => some ([.g [.sl 53 p.1 p.2.1], .c (.i .i64 p.2.2)], [])) := by kernel_rfl
theorem ok31x0 : FnOk Try.prog 31 sh31x0 (A31x0 N) :=
  (h31x0s1 N).fn progOk (T66x0_ok N) fun L x hx => ((raw31x0 N L).trans ((bind31x0 N ..).trans (alt1 x hx)))
noncomputable def T31x0 : Oracle := ext 31 (spSh sh31x0 (A31x0 N)) (T66x0 N)
theorem T31x0_ok : OracleOk Try.prog (T31x0 N) := FnOk.to (ok31x0 N) (T66x0_ok N)
noncomputable def rg16x0 : List (Nat × List Nat) := [(0, [0, 1]), (1, [2, 3]), (2, []), (3, [2, 3]), (4, [57, 56, 2, 3]), (5, [57, 2, 3, 56]), (6, [2, 5, 3, 57, 56]), (7, []), (8, [57, 56, 2, 3]), (9, [2, 3]), (10, [75, 74, 2, 3]), (11, [75, 2, 3, 74]), (12, [2, 6, 3, 75, 74]), (13, []), (14, [75, 74, 2, 3]), (15, [2, 3]), (16, [93, 92, 2, 3]), (17, [93, 2, 3, 92]), (18, [2, 7, 3, 93, 92]), (19, []), (20, [93, 92, 2, 3]), (21, [])]
noncomputable def hd16x0 : Hints := [(12, [57, 56, 2, 3], [3, 2], []), (30, [75, 74, 2, 3], [3, 2], []), (48, [93, 92, 2, 3], [3, 2], [])]
noncomputable def h16x0s0 (N : Nat) : Sg Try.prog 0 16 := .start hd16x0 rg16x0
noncomputable def S16x0x12 (N : Nat) (w0 : Int) (w6 w15 : LD) (w1 : Int) (kr : Int → Option R) (k0 : Unit → Option R) (k1 : Unit → Option R) : Option R :=
  bif (decide (w1 < w0)) then
    bif (inB w1 w6.length) then
      bif (inB w1 w15.length) then
        bnd (!((((w6.getD w1.toNat (.i 0)).cell 0).toI == ((w15.getD w1.toNat (.i 0)).cell 0).toI) && ((((w6.getD w1.toNat (.i 0)).cell 1).toI == ((w15.getD w1.toNat (.i 0)).cell 1).toI) && ((((w6.getD w1.toNat (.i 0)).cell 2).toI == ((w15.getD w1.toNat (.i 0)).cell 2).toI) && ((((w6.getD w1.toNat (.i 0)).cell 3).toI == ((w15.getD w1.toNat (.i 0)).cell 3).toI) && ((((w6.getD w1.toNat (.i 0)).cell 4).toI == ((w15.getD w1.toNat (.i 0)).cell 4).toI) && ((((w6.getD w1.toNat (.i 0)).cell 5).toI == ((w15.getD w1.toNat (.i 0)).cell 5).toI) && ((((w6.getD w1.toNat (.i 0)).cell 6).toI == ((w15.getD w1.toNat (.i 0)).cell 6).toI) && true)))))))) fun y0 =>
        bif y0 then
          k0 ()
        else
          kr (IntKind.wrap .i64 (w1 + 1))
      else
        none
    else
      none
  else
    k1 ()
noncomputable def L16x0x12 (N : Nat) {R : Type} (w0 : Int) (w6 w15 : LD) : Nat → Int → (Unit → Option R) → (Unit → Option R) → Option R
  | 0, _, _, _ => none
  | m + 1, w1, k0, k1 => S16x0x12 N w0 w6 w15 w1 (fun w1 => L16x0x12 N w0 w6 w15 m w1 k0 k1) k0 k1
noncomputable def G16x0x12 (w0 : Int) (w6 w15 : LD) (w1 : Int) : Option (Sum (Unit) (Unit)) := L16x0x12 N (R := (Sum (Unit) (Unit))) w0 w6 w15 N w1 (fun p => some (.inl p)) (fun p => some (.inr p))
noncomputable def J16x0x12 (L x : List Lf) (kr : List Lf → Option R) (k0 : Unit → Option R) (k1 : Unit → Option R) : Option R := S16x0x12 N (li L 0) (ll L 6) (ll L 15) (li x 0) (fun w1 => kr [.i w1]) k0 k1
theorem sb16x0x12 (L x : List Lf) (kr : List Lf → Option R) (k0 : Unit → Option R) (k1 : Unit → Option R) : J16x0x12 N L x kr k0 k1 = (J16x0x12 N L x (fun y => some (.inl y)) (fun p => some (.inr (.inl p))) (fun p => some (.inr (.inr p)))).bind (sumE kr (sumE k0 k1)) := by
  unfold J16x0x12 S16x0x12
  repeat' (first | with_reducible apply cond_b | (with_reducible apply bnd_b; intro _) | rfl)
noncomputable def Q16x0x12 (L : List Lf) (m : Nat) (x : List Lf) : Option (Sum (Unit) (Unit)) := L16x0x12 N (R := (Sum (Unit) (Unit))) (li L 0) (ll L 6) (ll L 15) m (li x 0) (fun p => some (.inl p)) (fun p => some (.inr p))
noncomputable def sh16x0x12 : Sh := { tmps := [(2, .c (.p 2 0)), (3, .c (.p 3 0)), (56, .c (.i .i64)), (57, .c (.i .i64))], mem := [(2, .box (.s :: [.i .i64, .i .i64, .sl 78, .sl 82, .sl 9])), (3, .box (.s :: [.i .i64, .i .i64, .sl 78, .sl 82, .sl 9]))] }
noncomputable def K16x0x12w0 (L : List Lf) (_ : Unit) : Ex × St := (.ret, mg (ofSh sh16x0x12 L) [4] [(4, .c (.b false))] [2, 3] [])
noncomputable def A16x0x12 (L : List Lf) : List (Bool × (Ex × St)) := bnd (Q16x0x12 N L N (pk sh16x0x12 [1] L)) fun q => [((inlB q), K16x0x12w0 L ()), ((inrQ q).isSome, ((.exit 0), mg (ofSh sh16x0x12 L) [2, 3] [] [2, 3] []))]
theorem step16x0x12 (m : Nat) (kn : St → Option (Ex × St)) (L x : List Lf) : lpB Try.prog (T31x0 N) (h16x0s0 N).h 0 16 12 sh16x0x12 [1] [4, 2, 3] [3, 2] (m + 100) kn L x = J16x0x12 N L x (fun y => kn (ofSh sh16x0x12 (mx sh16x0x12 [1] L y))) (fun _ => some (K16x0x12w0 L ())) (fun _ => some ((.exit 0), mg (ofSh sh16x0x12 L) [2, 3] [] [2, 3] [])) := by kernel_rfl
theorem ql16x0x12 (L : List Lf) (m : Nat) (x : List Lf) : Q16x0x12 N L (m + 1) x = J16x0x12 N L x (Q16x0x12 N L m) (fun p => some (.inl p)) (fun p => some (.inr p)) := by kernel_rfl
noncomputable def h16x0s1 : Sg Try.prog 0 16 :=
  (h16x0s0 N).lp (A16x0x12 N) N progOk (T31x0_ok N) (fun m kn L x => (step16x0x12 N m kn L x).trans (sb16x0x12 N L x _ _ _)) (fun L m x => (ql16x0x12 N L m x).trans (sb16x0x12 N L x (Q16x0x12 N L m) (fun p => some (.inl p)) (fun p => some (.inr p)))) fun L x hx => (altS alt1) x hx
noncomputable def S16x0x30 (N : Nat) (w0 : Int) (w8 w17 : LD) (w1 : Int) (kr : Int → Option R) (k0 : Unit → Option R) (k1 : Unit → Option R) : Option R :=
  bif (decide (w1 < w0)) then
    bif (inB w1 w8.length) then
      bif (inB w1 w17.length) then
        bnd (!((((w8.getD w1.toNat (.i 0)).cell 0).toI == ((w17.getD w1.toNat (.i 0)).cell 0).toI) && ((((w8.getD w1.toNat (.i 0)).cell 1).toI == ((w17.getD w1.toNat (.i 0)).cell 1).toI) && ((((w8.getD w1.toNat (.i 0)).cell 2).toS == ((w17.getD w1.toNat (.i 0)).cell 2).toS) && true)))) fun y0 =>
        bif y0 then
          k0 ()
        else
          kr (IntKind.wrap .i64 (w1 + 1))
      else
        none
    else
      none
  else
    k1 ()
noncomputable def L16x0x30 (N : Nat) {R : Type} (w0 : Int) (w8 w17 : LD) : Nat → Int → (Unit → Option R) → (Unit → Option R) → Option R
  | 0, _, _, _ => none
  | m + 1, w1, k0, k1 => S16x0x30 N w0 w8 w17 w1 (fun w1 => L16x0x30 N w0 w8 w17 m w1 k0 k1) k0 k1
noncomputable def G16x0x30 (w0 : Int) (w8 w17 : LD) (w1 : Int) : Option (Sum (Unit) (Unit)) := L16x0x30 N (R := (Sum (Unit) (Unit))) w0 w8 w17 N w1 (fun p => some (.inl p)) (fun p => some (.inr p))
noncomputable def J16x0x30 (L x : List Lf) (kr : List Lf → Option R) (k0 : Unit → Option R) (k1 : Unit → Option R) : Option R := S16x0x30 N (li L 0) (ll L 8) (ll L 17) (li x 0) (fun w1 => kr [.i w1]) k0 k1
theorem sb16x0x30 (L x : List Lf) (kr : List Lf → Option R) (k0 : Unit → Option R) (k1 : Unit → Option R) : J16x0x30 N L x kr k0 k1 = (J16x0x30 N L x (fun y => some (.inl y)) (fun p => some (.inr (.inl p))) (fun p => some (.inr (.inr p)))).bind (sumE kr (sumE k0 k1)) := by
  unfold J16x0x30 S16x0x30
  repeat' (first | with_reducible apply cond_b | (with_reducible apply bnd_b; intro _) | rfl)
noncomputable def Q16x0x30 (L : List Lf) (m : Nat) (x : List Lf) : Option (Sum (Unit) (Unit)) := L16x0x30 N (R := (Sum (Unit) (Unit))) (li L 0) (ll L 8) (ll L 17) m (li x 0) (fun p => some (.inl p)) (fun p => some (.inr p))
noncomputable def sh16x0x30 : Sh := { tmps := [(2, .c (.p 2 0)), (3, .c (.p 3 0)), (74, .c (.i .i64)), (75, .c (.i .i64))], mem := [(2, .box (.s :: [.i .i64, .i .i64, .sl 78, .sl 82, .sl 9])), (3, .box (.s :: [.i .i64, .i .i64, .sl 78, .sl 82, .sl 9]))] }
noncomputable def K16x0x30w0 (L : List Lf) (_ : Unit) : Ex × St := (.ret, mg (ofSh sh16x0x30 L) [4] [(4, .c (.b false))] [2, 3] [])
noncomputable def A16x0x30 (L : List Lf) : List (Bool × (Ex × St)) := bnd (Q16x0x30 N L N (pk sh16x0x30 [1] L)) fun q => [((inlB q), K16x0x30w0 L ()), ((inrQ q).isSome, ((.exit 2), mg (ofSh sh16x0x30 L) [2, 3] [] [2, 3] []))]
theorem step16x0x30 (m : Nat) (kn : St → Option (Ex × St)) (L x : List Lf) : lpB Try.prog (T31x0 N) (h16x0s1 N).h 0 16 30 sh16x0x30 [1] [4, 2, 3] [3, 2] (m + 100) kn L x = J16x0x30 N L x (fun y => kn (ofSh sh16x0x30 (mx sh16x0x30 [1] L y))) (fun _ => some (K16x0x30w0 L ())) (fun _ => some ((.exit 2), mg (ofSh sh16x0x30 L) [2, 3] [] [2, 3] [])) := by kernel_rfl
theorem ql16x0x30 (L : List Lf) (m : Nat) (x : List Lf) : Q16x0x30 N L (m + 1) x = J16x0x30 N L x (Q16x0x30 N L m) (fun p => some (.inl p)) (fun p => some (.inr p)) := by kernel_rfl
noncomputable def h16x0s2 : Sg Try.prog 0 16 :=
  (h16x0s1 N).lp (A16x0x30 N) N progOk (T31x0_ok N) (fun m kn L x => (step16x0x30 N m kn L x).trans (sb16x0x30 N L x _ _ _)) (fun L m x => (ql16x0x30 N L m x).trans (sb16x0x30 N L x (Q16x0x30 N L m) (fun p => some (.inl p)) (fun p => some (.inr p)))) fun L x hx => (altS alt1) x hx
noncomputable def S16x0x48 (N : Nat) (w0 : Int) (w10 w19 : LD) (w1 : Int) (kr : Int → Option R) (k0 : Unit → Option R) (k1 : Unit → Option R) : Option R :=
  bif (decide (w1 < w0)) then
    bif (inB w1 w10.length) then
      bif (inB w1 w19.length) then
        bnd (!((w10.getD w1.toNat (.i 0)).toS == (w19.getD w1.toNat (.i 0)).toS)) fun y0 =>
        bif y0 then
          k0 ()
        else
          kr (IntKind.wrap .i64 (w1 + 1))
      else
        none
    else
      none
  else
    k1 ()
noncomputable def L16x0x48 (N : Nat) {R : Type} (w0 : Int) (w10 w19 : LD) : Nat → Int → (Unit → Option R) → (Unit → Option R) → Option R
  | 0, _, _, _ => none
  | m + 1, w1, k0, k1 => S16x0x48 N w0 w10 w19 w1 (fun w1 => L16x0x48 N w0 w10 w19 m w1 k0 k1) k0 k1
noncomputable def G16x0x48 (w0 : Int) (w10 w19 : LD) (w1 : Int) : Option (Sum (Unit) (Unit)) := L16x0x48 N (R := (Sum (Unit) (Unit))) w0 w10 w19 N w1 (fun p => some (.inl p)) (fun p => some (.inr p))
noncomputable def J16x0x48 (L x : List Lf) (kr : List Lf → Option R) (k0 : Unit → Option R) (k1 : Unit → Option R) : Option R := S16x0x48 N (li L 0) (ll L 10) (ll L 19) (li x 0) (fun w1 => kr [.i w1]) k0 k1
theorem sb16x0x48 (L x : List Lf) (kr : List Lf → Option R) (k0 : Unit → Option R) (k1 : Unit → Option R) : J16x0x48 N L x kr k0 k1 = (J16x0x48 N L x (fun y => some (.inl y)) (fun p => some (.inr (.inl p))) (fun p => some (.inr (.inr p)))).bind (sumE kr (sumE k0 k1)) := by
  unfold J16x0x48 S16x0x48
  repeat' (first | with_reducible apply cond_b | (with_reducible apply bnd_b; intro _) | rfl)
noncomputable def Q16x0x48 (L : List Lf) (m : Nat) (x : List Lf) : Option (Sum (Unit) (Unit)) := L16x0x48 N (R := (Sum (Unit) (Unit))) (li L 0) (ll L 10) (ll L 19) m (li x 0) (fun p => some (.inl p)) (fun p => some (.inr p))
noncomputable def sh16x0x48 : Sh := { tmps := [(2, .c (.p 2 0)), (3, .c (.p 3 0)), (92, .c (.i .i64)), (93, .c (.i .i64))], mem := [(2, .box (.s :: [.i .i64, .i .i64, .sl 78, .sl 82, .sl 9])), (3, .box (.s :: [.i .i64, .i .i64, .sl 78, .sl 82, .sl 9]))] }
noncomputable def A16x0x48 (L : List Lf) : List (Bool × (Ex × St)) := bnd (Q16x0x48 N L N (pk sh16x0x48 [1] L)) fun q => [((inlB q), (.ret, ⟨[(4, .c (.b false))], []⟩)), ((inrQ q).isSome, ((.exit 4), ⟨[], []⟩))]
theorem step16x0x48 (m : Nat) (kn : St → Option (Ex × St)) (L x : List Lf) : lpB Try.prog (T31x0 N) (h16x0s2 N).h 0 16 48 sh16x0x48 [1] [4] [] (m + 100) kn L x = J16x0x48 N L x (fun y => kn (ofSh sh16x0x48 (mx sh16x0x48 [1] L y))) (fun _ => some (.ret, ⟨[(4, .c (.b false))], []⟩)) (fun _ => some ((.exit 4), ⟨[], []⟩)) := by kernel_rfl
theorem ql16x0x48 (L : List Lf) (m : Nat) (x : List Lf) : Q16x0x48 N L (m + 1) x = J16x0x48 N L x (Q16x0x48 N L m) (fun p => some (.inl p)) (fun p => some (.inr p)) := by kernel_rfl
noncomputable def h16x0s3 : Sg Try.prog 0 16 :=
  (h16x0s2 N).lp (A16x0x48 N) N progOk (T31x0_ok N) (fun m kn L x => (step16x0x48 N m kn L x).trans (sb16x0x48 N L x _ _ _)) (fun L m x => (ql16x0x48 N L m x).trans (sb16x0x48 N L x (Q16x0x48 N L m) (fun p => some (.inl p)) (fun p => some (.inr p)))) fun L x hx => (altS alt1) x hx
noncomputable def F16x0 (v0 : LB) (v1 v2 : Int) (v4 v6 v8 : LD) (v9 : LB) (v10 v11 : Int) (v13 v15 v17 : LD) (k0 : Bool → Option R) : Option R :=
  bnd (bif (bif (!(v0 == v9)) then true else (v1 != v10)) then true else (v2 != v11)) fun y0 =>
  bnd (bif y0 then true else ((v4.length : Int) != (v13.length : Int))) fun y1 =>
  bnd (bif y1 then true else ((v6.length : Int) != (v15.length : Int))) fun y2 =>
  bnd (bif y2 then true else ((v8.length : Int) != (v17.length : Int))) fun y3 =>
  bif y3 then
    k0 false
  else
    bnd (G16x0x12 N (v4.length : Int) v4 v13 0) fun y4 =>
    bif (inlB y4) then
      k0 false
    else
      bif (inrQ y4).isSome then
        bnd (G16x0x30 N (v6.length : Int) v6 v15 0) fun y5 =>
        bif (inlB y5) then
          k0 false
        else
          bif (inrQ y5).isSome then
            bnd (G16x0x48 N (v8.length : Int) v8 v17 0) fun y6 =>
            bif (inlB y6) then
              k0 false
            else
              bif (inrQ y6).isSome then
                k0 true
              else
                none
          else
            none
      else
        none
noncomputable def G16x0 (v0 : LB) (v1 v2 : Int) (v4 v6 v8 : LD) (v9 : LB) (v10 v11 : Int) (v13 v15 v17 : LD) : Option (Bool) := F16x0 N v0 v1 v2 v4 v6 v8 v9 v10 v11 v13 v15 v17 (fun p => some p)
theorem bind16x0 (v0 : LB) (v1 v2 : Int) (v4 v6 v8 : LD) (v9 : LB) (v10 v11 : Int) (v13 v15 v17 : LD) (k0 : Bool → Option R) : F16x0 N v0 v1 v2 v4 v6 v8 v9 v10 v11 v13 v15 v17 k0 = (G16x0 N v0 v1 v2 v4 v6 v8 v9 v10 v11 v13 v15 v17).bind k0 := by
  unfold G16x0 F16x0
  repeat' (first | with_reducible apply cond_b | (with_reducible apply bnd_b; intro _) | rfl)
noncomputable def J16x0 (L : List Lf) (k0 : Bool → Option R) : Option R := F16x0 N (ls L 0) (li L 1) (li L 2) (ll L 4) (ll L 6) (ll L 8) (ls L 9) (li L 10) (li L 11) (ll L 13) (ll L 15) (ll L 17) k0
noncomputable def sh16x0 : Sh := { tmps := [(0, .g (.s :: [.i .i64, .i .i64, .sl 78, .sl 82, .sl 9])), (1, .g (.s :: [.i .i64, .i .i64, .sl 78, .sl 82, .sl 9]))], mem := [] }
noncomputable def A16x0 (L : List Lf) : List (Bool × Res) := bnd (J16x0 N L (fun p => some p)) fun q => [(q.isSome, ([.c (.b (q.getD default))], []))]
theorem raw16x0 (L : List Lf) : bd Try.prog (T31x0 N) (h16x0s3 N).h 16 sh16x0 L = J16x0 N L (fun p => some ([.c (.b p)], [])) := by kernel_rfl
theorem ok16x0 : FnOk Try.prog 16 sh16x0 (A16x0 N) :=
  (h16x0s3 N).fn progOk (T31x0_ok N) fun L x hx => ((raw16x0 N L).trans ((bind16x0 N ..).trans (alt1 x hx)))
noncomputable def T16x0 : Oracle := ext 16 (spSh sh16x0 (A16x0 N)) (T31x0 N)
theorem T16x0_ok : OracleOk Try.prog (T16x0 N) := FnOk.to (ok16x0 N) (T31x0_ok N)
noncomputable def rg12x0 : List (Nat × List Nat) := [(0, [0, 1]), (1, [2, 1]), (2, [2, 1, 5, 6]), (3, [5, 7, 6, 8, 2]), (4, []), (5, [6, 5, 2]), (6, []), (7, [5, 2]), (8, [5, 6, 2, 9]), (9, [10, 6, 8, 2, 9]), (10, [6, 8, 12, 2, 9, 11])]
noncomputable def hd12x0 : Hints := [(31, [6, 8, 12, 2, 9, 11], [11, 9, 2], [])]
noncomputable def h12x0s0 (N : Nat) : Sg Try.prog 0 12 := .start hd12x0 rg12x0
noncomputable def F12x0x31 (w0 w1 w2 : Int) (w3 : LB) (w4 w5 : Int) (w7 w9 w11 : LD) (w12 : LB) (w13 w14 : Int) (w16 w18 w20 : LD) (w21 : LB) (w22 w23 : Int) (w25 w27 w29 : LD) (k0 : Bool → Option R) : Option R :=
  bnd (bif (bif (w0 == 0) then (w1 == 0) else false) then (w2 == 0) else false) fun y0 =>
  bif y0 then
    bnd (G16x0 N w3 w4 w5 w7 w9 w11 w12 w13 w14 w16 w18 w20) fun y1 =>
    bif y1.isSome then
      bif (y1.getD default) then
        bnd (G16x0 N w3 w4 w5 w7 w9 w11 w21 w22 w23 w25 w27 w29) fun y2 =>
        bif y2.isSome then
          bif (y2.getD default) then
            bnd (G17x0 N) fun y3 =>
            bif y3.isSome then
              k0 (y3.getD default)
            else
              none
          else
            k0 false
        else
          none
      else
        k0 false
    else
      none
  else
    k0 false
noncomputable def G12x0x31 (w0 w1 w2 : Int) (w3 : LB) (w4 w5 : Int) (w7 w9 w11 : LD) (w12 : LB) (w13 w14 : Int) (w16 w18 w20 : LD) (w21 : LB) (w22 w23 : Int) (w25 w27 w29 : LD) : Option (Bool) := F12x0x31 N w0 w1 w2 w3 w4 w5 w7 w9 w11 w12 w13 w14 w16 w18 w20 w21 w22 w23 w25 w27 w29 (fun p => some p)
theorem bind12x0x31 (w0 w1 w2 : Int) (w3 : LB) (w4 w5 : Int) (w7 w9 w11 : LD) (w12 : LB) (w13 w14 : Int) (w16 w18 w20 : LD) (w21 : LB) (w22 w23 : Int) (w25 w27 w29 : LD) (k0 : Bool → Option R) : F12x0x31 N w0 w1 w2 w3 w4 w5 w7 w9 w11 w12 w13 w14 w16 w18 w20 w21 w22 w23 w25 w27 w29 k0 = (G12x0x31 N w0 w1 w2 w3 w4 w5 w7 w9 w11 w12 w13 w14 w16 w18 w20 w21 w22 w23 w25 w27 w29).bind k0 := by
  unfold G12x0x31 F12x0x31
  repeat' (first | with_reducible apply cond_b | (with_reducible apply bnd_b; intro _) | rfl)
noncomputable def J12x0x31 (L : List Lf) (k0 : Bool → Option R) : Option R := F12x0x31 N (li L 0) (li L 1) (li L 2) (ls L 3) (li L 4) (li L 5) (ll L 7) (ll L 9) (ll L 11) (ls L 12) (li L 13) (li L 14) (ll L 16) (ll L 18) (ll L 20) (ls L 21) (li L 22) (li L 23) (ll L 25) (ll L 27) (ll L 29) k0
noncomputable def sh12x0x31 : Sh := { tmps := [(2, .c (.p 2 0)), (6, .c (.i .i64)), (8, .c (.i .i64)), (9, .c (.p 9 0)), (11, .c (.p 11 0)), (12, .c (.i .i64))], mem := [(2, .box (.s :: [.i .i64, .i .i64, .sl 78, .sl 82, .sl 9])), (9, .box (.s :: [.i .i64, .i .i64, .sl 78, .sl 82, .sl 9])), (11, .box (.s :: [.i .i64, .i .i64, .sl 78, .sl 82, .sl 9]))] }
noncomputable def A12x0x31 (L : List Lf) : List (Bool × (Ex × St)) := bnd (J12x0x31 N L (fun p => some p)) fun q => [(q.isSome, (.normal, ⟨[(4, .c (.b (q.getD default)))], []⟩))]
theorem raw12x0x31 (L : List Lf) : pc Try.prog (T16x0 N) (h12x0s0 N).h 0 100 12 31 sh12x0x31 L [4] [] = J12x0x31 N L (fun p => some (.normal, ⟨[(4, .c (.b p))], []⟩)) := by kernel_rfl
noncomputable def h12x0s1 : Sg Try.prog 0 12 :=
  (h12x0s0 N).cut (A12x0x31 N) progOk (T16x0_ok N) fun L x hx => (raw12x0x31 N L).trans ((bind12x0x31 N ..).trans (alt1 x hx))
noncomputable def F12x0 (v0 : LB) (v1 v2 : Int) (v4 v6 v8 : LD) (v9 : Bool) (k0 : Bool → Option R) : Option R :=
  bnd (G49x0 N v0 v1 v2 v4 v6 v8 v9) fun y0 =>
  bif y0.isSome then
    bnd (G50x0 N v0 v1 v2 v4 v6 v8 v9) fun y1 =>
    bif y1.isSome then
      bnd (G28x0 N (y0.getD default).2.1 (y1.getD default).2.1) fun y2 =>
      bif y2.isSome then
        bnd (bif (!(y2.getD default)) then true else ((y0.getD default).2.2 != (y1.getD default).2.2)) fun y3 =>
        bif y3 then
          k0 false
        else
          bif ((y0.getD default).2.2 != 0) then
            bnd (G17x0 N) fun y4 =>
            bif y4.isSome then
              k0 (y4.getD default)
            else
              none
          else
            bnd (G41x0 N (y0.getD default).2.1) fun y5 =>
            bif y5.isSome then
              bnd (G31x0 N (y0.getD default).2.1) fun y6 =>
              bif y6.isSome then
                bnd (G41x0 N (y6.getD default).2.1) fun y7 =>
                bif y7.isSome then
                  bnd (G12x0x31 N (y5.getD default).2.2.2.2.2.2.2.2.2 (y6.getD default).2.2 (y7.getD default).2.2.2.2.2.2.2.2.2 v0 v1 v2 v4 v6 v8 (y5.getD default).1 (y5.getD default).2.1 (y5.getD default).2.2.1 (y5.getD default).2.2.2.2.1 (y5.getD default).2.2.2.2.2.2.1 (y5.getD default).2.2.2.2.2.2.2.2.1 (y7.getD default).1 (y7.getD default).2.1 (y7.getD default).2.2.1 (y7.getD default).2.2.2.2.1 (y7.getD default).2.2.2.2.2.2.1 (y7.getD default).2.2.2.2.2.2.2.2.1) fun y8 =>
                  bif y8.isSome then
                    k0 (y8.getD default)
                  else
                    none
                else
                  none
              else
                none
            else
              none
      else
        none
    else
      none
  else
    none
noncomputable def G12x0 (v0 : LB) (v1 v2 : Int) (v4 v6 v8 : LD) (v9 : Bool) : Option (Bool) := F12x0 N v0 v1 v2 v4 v6 v8 v9 (fun p => some p)
theorem bind12x0 (v0 : LB) (v1 v2 : Int) (v4 v6 v8 : LD) (v9 : Bool) (k0 : Bool → Option R) : F12x0 N v0 v1 v2 v4 v6 v8 v9 k0 = (G12x0 N v0 v1 v2 v4 v6 v8 v9).bind k0 := by
  unfold G12x0 F12x0
  repeat' (first | with_reducible apply cond_b | (with_reducible apply bnd_b; intro _) | rfl)
noncomputable def J12x0 (L : List Lf) (k0 : Bool → Option R) : Option R := F12x0 N (ls L 0) (li L 1) (li L 2) (ll L 4) (ll L 6) (ll L 8) (lb L 9) k0
noncomputable def sh12x0 : Sh := { tmps := [(0, .g (.s :: [.i .i64, .i .i64, .sl 78, .sl 82, .sl 9])), (1, .c (.b))], mem := [] }
noncomputable def A12x0 (L : List Lf) : List (Bool × Res) := bnd (J12x0 N L (fun p => some p)) fun q => [(q.isSome, ([.c (.b (q.getD default))], []))]
theorem raw12x0 (L : List Lf) : bd Try.prog (T16x0 N) (h12x0s1 N).h 12 sh12x0 L = J12x0 N L (fun p => some ([.c (.b p)], [])) := by kernel_rfl
theorem ok12x0 : FnOk Try.prog 12 sh12x0 (A12x0 N) :=
  (h12x0s1 N).fn progOk (T16x0_ok N) fun L x hx => ((raw12x0 N L).trans ((bind12x0 N ..).trans (alt1 x hx)))
noncomputable def T12x0 : Oracle := ext 12 (spSh sh12x0 (A12x0 N)) (T16x0 N)
theorem T12x0_ok : OracleOk Try.prog (T12x0 N) := FnOk.to (ok12x0 N) (T16x0_ok N)
noncomputable def rg125x0 : List (Nat × List Nat) := [(0, [0]), (1, [1]), (2, []), (3, [1]), (4, []), (5, [1]), (6, [17, 16, 15, 1]), (7, [17, 15, 1, 16]), (8, [4, 1, 3, 17, 16, 15]), (10, [4, 1, 3, 17, 16, 15]), (12, [4, 1, 3, 17, 16, 15]), (13, []), (11, []), (9, []), (14, [1, 3, 4, 17, 16, 15]), (15, [59, 58, 57, 4, 17, 16, 15, 1]), (16, [57, 59, 4, 58, 17, 16, 15, 1]), (17, [6, 4, 59, 58, 57, 17, 16, 15, 1]), (18, []), (19, [59, 58, 57, 4, 17, 16, 15, 1]), (20, [17, 16, 15, 1]), (21, [])]
noncomputable def hd125x0 : Hints := [(18, [17, 16, 15, 1], [1], []), (25, [4, 1, 3, 17, 16, 15], [4, 1], []), (45, [59, 58, 57, 4, 17, 16, 15, 1], [4, 1], [])]
noncomputable def h125x0s0 (N : Nat) : Sg Try.prog 0 125 := .start hd125x0 rg125x0
noncomputable def F125x0x25 (w9 w10 : Int) (k0 : Bool → R) : R :=
  bnd (V57x0 N w9 0 255) fun y0 =>
  bif y0 then
    k0 true
  else
    bnd (V57x0 N w10 1 255) fun y1 =>
    k0 y1
noncomputable def V125x0x25 (w9 w10 : Int) : Bool := F125x0x25 N w9 w10 (fun p => p)
theorem tot125x0x25 (w9 w10 : Int) (k0 : Bool → R) : F125x0x25 N w9 w10 k0 = k0 (V125x0x25 N w9 w10) := by
  unfold V125x0x25 F125x0x25
  repeat' (first | rfl | apply cond_k | (apply bnd_k; intro _))
noncomputable def sh125x0x25 : Sh := { tmps := [(1, .c (.p 1 0)), (3, .c (.i .i64)), (4, .c (.p 4 0)), (15, .c (.sl 146)), (16, .c (.i .i64)), (17, .c (.i .i64))], mem := [(1, .box ([.b, .i .i64, .sl 146])), (4, .box ([.i .i64, .i .i64, .i .i64]))] }
noncomputable def K125x0x25w0 (L : List Lf) (p : Bool) : Ex × St := (.normal, mg (ofSh sh125x0x25 L) [1, 3, 4, 15, 16, 17, 22] [(22, .c (.b p))] [1, 4] [])
noncomputable def A125x0x25 (L : List Lf) : List (Bool × (Ex × St)) := bnd (F125x0x25 N (li L 9) (li L 10) (fun p => p)) fun q => [(true, K125x0x25w0 L q)]
theorem raw125x0x25 (L : List Lf) : pc Try.prog (T12x0 N) (h125x0s0 N).h 0 100 125 25 sh125x0x25 L [4, 1, 3, 17, 16, 15, 22] [4, 1] = F125x0x25 N (li L 9) (li L 10) (fun p => some (K125x0x25w0 L p)) := by kernel_rfl
noncomputable def h125x0s1 : Sg Try.prog 0 125 :=
  (h125x0s0 N).cut (A125x0x25 N) progOk (T12x0_ok N) fun L x hx => (raw125x0x25 N L).trans ((tot125x0x25 N ..).trans (alt0 _ _ hx))
noncomputable def S125x0x45 (N : Nat) (w5 : LD) (w6 w12 : Int) (w7 : Int) (kr : Int → Option R) (k0 : Unit → Option R) (k1 : Unit → Option R) : Option R :=
  bif (decide (w7 < w6)) then
    bif (inB w7 w5.length) then
      bif (((w5.getD w7.toNat (.i 0)).cell 0).toI == w12) then
        k0 ()
      else
        kr (IntKind.wrap .i64 (w7 + 1))
    else
      none
  else
    k1 ()
noncomputable def L125x0x45 (N : Nat) {R : Type} (w5 : LD) (w6 w12 : Int) : Nat → Int → (Unit → Option R) → (Unit → Option R) → Option R
  | 0, _, _, _ => none
  | m + 1, w7, k0, k1 => S125x0x45 N w5 w6 w12 w7 (fun w7 => L125x0x45 N w5 w6 w12 m w7 k0 k1) k0 k1
noncomputable def G125x0x45 (w5 : LD) (w6 w12 : Int) (w7 : Int) : Option (Sum (Unit) (Unit)) := L125x0x45 N (R := (Sum (Unit) (Unit))) w5 w6 w12 N w7 (fun p => some (.inl p)) (fun p => some (.inr p))
noncomputable def J125x0x45 (L x : List Lf) (kr : List Lf → Option R) (k0 : Unit → Option R) (k1 : Unit → Option R) : Option R := S125x0x45 N (ll L 5) (li L 6) (li L 12) (li x 0) (fun w7 => kr [.i w7]) k0 k1
theorem sb125x0x45 (L x : List Lf) (kr : List Lf → Option R) (k0 : Unit → Option R) (k1 : Unit → Option R) : J125x0x45 N L x kr k0 k1 = (J125x0x45 N L x (fun y => some (.inl y)) (fun p => some (.inr (.inl p))) (fun p => some (.inr (.inr p)))).bind (sumE kr (sumE k0 k1)) := by
  unfold J125x0x45 S125x0x45
  repeat' (first | with_reducible apply cond_b | (with_reducible apply bnd_b; intro _) | rfl)
noncomputable def Q125x0x45 (L : List Lf) (m : Nat) (x : List Lf) : Option (Sum (Unit) (Unit)) := L125x0x45 N (R := (Sum (Unit) (Unit))) (ll L 5) (li L 6) (li L 12) m (li x 0) (fun p => some (.inl p)) (fun p => some (.inr p))
noncomputable def sh125x0x45 : Sh := { tmps := [(1, .c (.p 1 0)), (4, .c (.p 4 0)), (15, .c (.sl 146)), (16, .c (.i .i64)), (17, .c (.i .i64)), (57, .c (.sl 146)), (58, .c (.i .i64)), (59, .c (.i .i64))], mem := [(1, .box ([.b, .i .i64, .sl 146])), (4, .box ([.i .i64, .i .i64, .i .i64]))] }
noncomputable def K125x0x45w0 (L : List Lf) (_ : Unit) : Ex × St := (.ret, mg (ofSh sh125x0x45 L) [2] [(2, .c (.i .i64 5))] [1] [])
noncomputable def K125x0x45w1 (L : List Lf) (_ : Unit) : Ex × St := ((.exit 3), mg (ofSh sh125x0x45 L) [1, 15, 16, 17] [] [1] [])
noncomputable def A125x0x45 (L : List Lf) : List (Bool × (Ex × St)) := bnd (Q125x0x45 N L N (pk sh125x0x45 [7] L)) fun q => [((inlB q), K125x0x45w0 L ()), ((inrQ q).isSome, K125x0x45w1 L ())]
theorem step125x0x45 (m : Nat) (kn : St → Option (Ex × St)) (L x : List Lf) : lpB Try.prog (T12x0 N) (h125x0s1 N).h 0 125 45 sh125x0x45 [7] [2, 17, 16, 15, 1] [1] (m + 100) kn L x = J125x0x45 N L x (fun y => kn (ofSh sh125x0x45 (mx sh125x0x45 [7] L y))) (fun _ => some (K125x0x45w0 L ())) (fun _ => some (K125x0x45w1 L ())) := by kernel_rfl
theorem ql125x0x45 (L : List Lf) (m : Nat) (x : List Lf) : Q125x0x45 N L (m + 1) x = J125x0x45 N L x (Q125x0x45 N L m) (fun p => some (.inl p)) (fun p => some (.inr p)) := by kernel_rfl
noncomputable def h125x0s2 : Sg Try.prog 0 125 :=
  (h125x0s1 N).lp (A125x0x45 N) N progOk (T12x0_ok N) (fun m kn L x => (step125x0x45 N m kn L x).trans (sb125x0x45 N L x _ _ _)) (fun L m x => (ql125x0x45 N L m x).trans (sb125x0x45 N L x (Q125x0x45 N L m) (fun p => some (.inl p)) (fun p => some (.inr p)))) fun L x hx => (altS alt1) x hx
noncomputable def S125x0x18 (w1 : LD) (w2 : Int) (w7 : LD) (w3 : Int) (kr : Int → Option R) (k0 : Int → Option R) (k1 : Unit → Option R) : Option R :=
  bif (decide (w3 < w2)) then
    bif (inB w3 w1.length) then
      bnd (V125x0x25 N ((w1.getD w3.toNat (.i 0)).cell 0).toI ((w1.getD w3.toNat (.i 0)).cell 1).toI) fun y0 =>
      bif y0 then
        k0 9
      else
        bnd (V57x0 N ((w1.getD w3.toNat (.i 0)).cell 2).toI 0 3) fun y1 =>
        bif y1 then
          k0 7
        else
          bnd (bif (decide (((w1.getD w3.toNat (.i 0)).cell 2).toI ≤ 1)) then (((w1.getD w3.toNat (.i 0)).cell 1).toI != 1) else false) fun y2 =>
          bnd (bif y2 then (((w1.getD w3.toNat (.i 0)).cell 1).toI != 2) else false) fun y3 =>
          bnd (bif y3 then (((w1.getD w3.toNat (.i 0)).cell 1).toI != 4) else false) fun y4 =>
          bif y4 then
            k0 2
          else
            bif ((decide (0 ≤ w3)) && (decide (w3 ≤ (w7.length : Int)))) then
              bnd (G125x0x45 N ((w7.take w3.toNat).drop 0) (((w7.take w3.toNat).drop 0).length : Int) ((w1.getD w3.toNat (.i 0)).cell 0).toI 0) fun y5 =>
              bif (inlB y5) then
                k0 5
              else
                bif (inrQ y5).isSome then
                  kr (IntKind.wrap .i64 (w3 + 1))
                else
                  none
            else
              none
    else
      none
  else
    k1 ()
noncomputable def L125x0x18 (N : Nat) {R : Type} (w1 : LD) (w2 : Int) (w7 : LD) : Nat → Int → (Int → Option R) → (Unit → Option R) → Option R
  | 0, _, _, _ => none
  | m + 1, w3, k0, k1 => S125x0x18 N w1 w2 w7 w3 (fun w3 => L125x0x18 N w1 w2 w7 m w3 k0 k1) k0 k1
noncomputable def G125x0x18 (w1 : LD) (w2 : Int) (w7 : LD) (w3 : Int) : Option (Sum (Int) (Unit)) := L125x0x18 N (R := (Sum (Int) (Unit))) w1 w2 w7 N w3 (fun p => some (.inl p)) (fun p => some (.inr p))
noncomputable def J125x0x18 (L x : List Lf) (kr : List Lf → Option R) (k0 : Int → Option R) (k1 : Unit → Option R) : Option R := S125x0x18 N (ll L 1) (li L 2) (ll L 7) (li x 0) (fun w3 => kr [.i w3]) k0 k1
theorem sb125x0x18 (L x : List Lf) (kr : List Lf → Option R) (k0 : Int → Option R) (k1 : Unit → Option R) : J125x0x18 N L x kr k0 k1 = (J125x0x18 N L x (fun y => some (.inl y)) (fun p => some (.inr (.inl p))) (fun p => some (.inr (.inr p)))).bind (sumE kr (sumE k0 k1)) := by
  unfold J125x0x18 S125x0x18
  repeat' (first | with_reducible apply cond_b | (with_reducible apply bnd_b; intro _) | rfl)
noncomputable def Q125x0x18 (L : List Lf) (m : Nat) (x : List Lf) : Option (Sum (Int) (Unit)) := L125x0x18 N (R := (Sum (Int) (Unit))) (ll L 1) (li L 2) (ll L 7) m (li x 0) (fun p => some (.inl p)) (fun p => some (.inr p))
noncomputable def sh125x0x18 : Sh := { tmps := [(1, .c (.p 1 0)), (15, .c (.sl 146)), (16, .c (.i .i64)), (17, .c (.i .i64))], mem := [(1, .box ([.b, .i .i64, .sl 146]))] }
noncomputable def A125x0x18 (L : List Lf) : List (Bool × (Ex × St)) := bnd (Q125x0x18 N L N (pk sh125x0x18 [3] L)) fun q => [((inlB q), (.ret, ⟨[(2, .c (.i .i64 (inlV q)))], []⟩)), ((inrQ q).isSome, ((.exit 0), ⟨[], []⟩))]
theorem step125x0x18 (m : Nat) (kn : St → Option (Ex × St)) (L x : List Lf) : lpB Try.prog (T12x0 N) (h125x0s2 N).h 0 125 18 sh125x0x18 [3] [2] [] (m + 100) kn L x = J125x0x18 N L x (fun y => kn (ofSh sh125x0x18 (mx sh125x0x18 [3] L y))) (fun p => some (.ret, ⟨[(2, .c (.i .i64 p))], []⟩)) (fun _ => some ((.exit 0), ⟨[], []⟩)) := by kernel_rfl
theorem ql125x0x18 (L : List Lf) (m : Nat) (x : List Lf) : Q125x0x18 N L (m + 1) x = J125x0x18 N L x (Q125x0x18 N L m) (fun p => some (.inl p)) (fun p => some (.inr p)) := by kernel_rfl
noncomputable def h125x0s3 : Sg Try.prog 0 125 :=
  (h125x0s2 N).lp (A125x0x18 N) N progOk (T12x0_ok N) (fun m kn L x => (step125x0x18 N m kn L x).trans (sb125x0x18 N L x _ _ _)) (fun L m x => (ql125x0x18 N L m x).trans (sb125x0x18 N L x (Q125x0x18 N L m) (fun p => some (.inl p)) (fun p => some (.inr p)))) fun L x hx => (altS alt1) x hx
noncomputable def F125x0 (v1 : Int) (v3 : LD) (k0 : Int → Option R) : Option R :=
  bnd (V57x0 N v1 0 65535) fun y0 =>
  bif y0 then
    k0 9
  else
    bif (decide ((v3.length : Int) > 30)) then
      k0 3
    else
      bnd (G125x0x18 N v3 (v3.length : Int) v3 0) fun y1 =>
      bif (inlB y1) then
        k0 (inlV y1)
      else
        bif (inrQ y1).isSome then
          k0 0
        else
          none
noncomputable def G125x0 (v1 : Int) (v3 : LD) : Option (Int) := F125x0 N v1 v3 (fun p => some p)
theorem bind125x0 (v1 : Int) (v3 : LD) (k0 : Int → Option R) : F125x0 N v1 v3 k0 = (G125x0 N v1 v3).bind k0 := by
  unfold G125x0 F125x0
  repeat' (first | with_reducible apply cond_b | (with_reducible apply bnd_b; intro _) | rfl)
noncomputable def sh125x0 : Sh := { tmps := [(0, .g ([.b, .i .i64, .sl 146]))], mem := [] }
noncomputable def A125x0 (L : List Lf) : List (Bool × Res) := bnd (F125x0 N (li L 1) (ll L 3) (fun p => some p)) fun q => [(q.isSome, ([.c (.i .i64 (q.getD default))], []))]
theorem raw125x0 (L : List Lf) : bd Try.prog (T12x0 N) (h125x0s3 N).h 125 sh125x0 L = F125x0 N (li L 1) (ll L 3) (fun p => some ([.c (.i .i64 p)], [])) := by kernel_rfl
theorem ok125x0 : FnOk Try.prog 125 sh125x0 (A125x0 N) :=
  (h125x0s3 N).fn progOk (T12x0_ok N) fun L x hx => ((raw125x0 N L).trans ((bind125x0 N ..).trans (alt1 x hx)))
noncomputable def T125x0 : Oracle := ext 125 (spSh sh125x0 (A125x0 N)) (T12x0 N)
theorem T125x0_ok : OracleOk Try.prog (T125x0 N) := FnOk.to (ok125x0 N) (T12x0_ok N)
noncomputable def rg132x0 : List (Nat × List Nat) := [(0, [0]), (1, [1])]
noncomputable def hd132x0 : Hints := []
noncomputable def h132x0s0 (N : Nat) : Sg Try.prog 0 132 := .start hd132x0 rg132x0
noncomputable def F132x0 (N : Nat) (v0 v1 v2 : Int) (k0 : Bool → R) : R :=
  bnd (bif (bif (v0 == 253) then (v2 == 0) else false) then (v1 == 4) else false) fun y0 =>
  k0 y0
noncomputable def V132x0 (v0 v1 v2 : Int) : Bool := F132x0 N v0 v1 v2 (fun p => p)
theorem tot132x0 (v0 v1 v2 : Int) (k0 : Bool → R) : F132x0 N v0 v1 v2 k0 = k0 (V132x0 N v0 v1 v2) := by
  unfold V132x0 F132x0
  repeat' (first | rfl | apply cond_k | (apply bnd_k; intro _))
noncomputable def sh132x0 : Sh := { tmps := [(0, .g ([.i .i64, .i .i64, .i .i64]))], mem := [] }
noncomputable def A132x0 (L : List Lf) : List (Bool × Res) := bnd (F132x0 N (li L 0) (li L 1) (li L 2) (fun p => p)) fun q => [(true, ([.c (.b q)], []))]
theorem raw132x0 (L : List Lf) : bd Try.prog (T125x0 N) (h132x0s0 N).h 132 sh132x0 L = F132x0 N (li L 0) (li L 1) (li L 2) (fun p => some ([.c (.b p)], [])) := by kernel_rfl
theorem ok132x0 : FnOk Try.prog 132 sh132x0 (A132x0 N) :=
  (h132x0s0 N).fn progOk (T125x0_ok N) fun L x hx => ((raw132x0 N L).trans ((tot132x0 N ..).trans (alt0 _ _ hx)))
noncomputable def T132x0 : Oracle := ext 132 (spSh sh132x0 (A132x0 N)) (T125x0 N)
theorem T132x0_ok : OracleOk Try.prog (T132x0 N) := FnOk.to (ok132x0 N) (T125x0_ok N)
noncomputable def rg79x0 : List (Nat × List Nat) := [(0, [0]), (1, [1]), (2, [1, 4]), (3, [10, 9, 8, 4]), (4, [8, 10, 4, 9]), (5, [6, 4, 10, 9, 8]), (6, [4]), (7, [4, 6, 10, 9, 8]), (8, [10, 9, 8, 4]), (9, [])]
noncomputable def hd79x0 : Hints := [(9, [10, 9, 8, 4], [], [])]
noncomputable def h79x0s0 (N : Nat) : Sg Try.prog 0 79 := .start hd79x0 rg79x0
noncomputable def S79x0x9 (w2 : LD) (w3 : Int) (w0 w4 : Int) (kr : Int → Int → Option R) (k0 : Int → Option R) (k1 : Unit → Option R) : Option R :=
  bif (decide (w4 < w3)) then
    bif (inB w4 w2.length) then
      bnd (V132x0 N ((w2.getD w4.toNat (.i 0)).cell 0).toI ((w2.getD w4.toNat (.i 0)).cell 1).toI ((w2.getD w4.toNat (.i 0)).cell 2).toI) fun y0 =>
      bif y0 then
        k0 w0
      else
        bnd (IntKind.wrap .i64 (w0 + ((w2.getD w4.toNat (.i 0)).cell 1).toI)) fun y1 =>
        kr y1 (IntKind.wrap .i64 (w4 + 1))
    else
      none
  else
    k1 ()
noncomputable def L79x0x9 (N : Nat) {R : Type} (w2 : LD) (w3 : Int) : Nat → Int → Int → (Int → Option R) → (Unit → Option R) → Option R
  | 0, _, _, _, _ => none
  | m + 1, w0, w4, k0, k1 => S79x0x9 N w2 w3 w0 w4 (fun w0 w4 => L79x0x9 N w2 w3 m w0 w4 k0 k1) k0 k1
noncomputable def G79x0x9 (w2 : LD) (w3 : Int) (w0 w4 : Int) : Option (Sum (Int) (Unit)) := L79x0x9 N (R := (Sum (Int) (Unit))) w2 w3 N w0 w4 (fun p => some (.inl p)) (fun p => some (.inr p))
noncomputable def J79x0x9 (L x : List Lf) (kr : List Lf → Option R) (k0 : Int → Option R) (k1 : Unit → Option R) : Option R := S79x0x9 N (ll L 2) (li L 3) (li x 0) (li x 1) (fun w0 w4 => kr [.i w0, .i w4]) k0 k1
theorem sb79x0x9 (L x : List Lf) (kr : List Lf → Option R) (k0 : Int → Option R) (k1 : Unit → Option R) : J79x0x9 N L x kr k0 k1 = (J79x0x9 N L x (fun y => some (.inl y)) (fun p => some (.inr (.inl p))) (fun p => some (.inr (.inr p)))).bind (sumE kr (sumE k0 k1)) := by
  unfold J79x0x9 S79x0x9
  repeat' (first | with_reducible apply cond_b | (with_reducible apply bnd_b; intro _) | rfl)
noncomputable def Q79x0x9 (L : List Lf) (m : Nat) (x : List Lf) : Option (Sum (Int) (Unit)) := L79x0x9 N (R := (Sum (Int) (Unit))) (ll L 2) (li L 3) m (li x 0) (li x 1) (fun p => some (.inl p)) (fun p => some (.inr p))
noncomputable def sh79x0x9 : Sh := { tmps := [(4, .c (.i .i64)), (8, .c (.sl 146)), (9, .c (.i .i64)), (10, .c (.i .i64))], mem := [] }
noncomputable def A79x0x9 (L : List Lf) : List (Bool × (Ex × St)) := bnd (Q79x0x9 N L N (pk sh79x0x9 [0, 4] L)) fun q => [((inlB q), (.ret, ⟨[(2, .c (.i .i64 (inlV q))), (3, .c (.b true))], []⟩)), ((inrQ q).isSome, ((.exit 0), ⟨[], []⟩))]
theorem step79x0x9 (m : Nat) (kn : St → Option (Ex × St)) (L x : List Lf) : lpB Try.prog (T132x0 N) (h79x0s0 N).h 0 79 9 sh79x0x9 [0, 4] [2, 3] [] (m + 100) kn L x = J79x0x9 N L x (fun y => kn (ofSh sh79x0x9 (mx sh79x0x9 [0, 4] L y))) (fun p => some (.ret, ⟨[(2, .c (.i .i64 p)), (3, .c (.b true))], []⟩)) (fun _ => some ((.exit 0), ⟨[], []⟩)) := by kernel_rfl
theorem ql79x0x9 (L : List Lf) (m : Nat) (x : List Lf) : Q79x0x9 N L (m + 1) x = J79x0x9 N L x (Q79x0x9 N L m) (fun p => some (.inl p)) (fun p => some (.inr p)) := by kernel_rfl
noncomputable def h79x0s1 : Sg Try.prog 0 79 :=
  (h79x0s0 N).lp (A79x0x9 N) N progOk (T132x0_ok N) (fun m kn L x => (step79x0x9 N m kn L x).trans (sb79x0x9 N L x _ _ _)) (fun L m x => (ql79x0x9 N L m x).trans (sb79x0x9 N L x (Q79x0x9 N L m) (fun p => some (.inl p)) (fun p => some (.inr p)))) fun L x hx => (altS alt1) x hx
noncomputable def F79x0 (v3 : LD) (k0 : Int × Bool → Option R) : Option R :=
  bnd (G79x0x9 N v3 (v3.length : Int) 0 0) fun y0 =>
  bif (inlB y0) then
    k0 ((inlV y0), true)
  else
    bif (inrQ y0).isSome then
      k0 (0, false)
    else
      none
noncomputable def G79x0 (v3 : LD) : Option (Int × Bool) := F79x0 N v3 (fun p => some p)
theorem bind79x0 (v3 : LD) (k0 : Int × Bool → Option R) : F79x0 N v3 k0 = (G79x0 N v3).bind k0 := by
  unfold G79x0 F79x0
  repeat' (first | with_reducible apply cond_b | (with_reducible apply bnd_b; intro _) | rfl)
noncomputable def sh79x0 : Sh := { tmps := [(0, .g ([.b, .i .i64, .sl 146]))], mem := [] }
noncomputable def A79x0 (L : List Lf) : List (Bool × Res) := bnd (F79x0 N (ll L 3) (fun p => some p)) fun q => [(q.isSome, ([.c (.i .i64 (q.getD default).1), .c (.b (q.getD default).2)], []))]
theorem raw79x0 (L : List Lf) : bd Try.prog (T132x0 N) (h79x0s1 N).h 79 sh79x0 L = F79x0 N (ll L 3) (fun p => some ([.c (.i .i64 p.1), .c (.b p.2)], [])) := by kernel_rfl
theorem ok79x0 : FnOk Try.prog 79 sh79x0 (A79x0 N) :=
  (h79x0s1 N).fn progOk (T132x0_ok N) fun L x hx => ((raw79x0 N L).trans ((bind79x0 N ..).trans (alt1 x hx)))
noncomputable def T79x0 : Oracle := ext 79 (spSh sh79x0 (A79x0 N)) (T132x0 N)
theorem T79x0_ok : OracleOk Try.prog (T79x0 N) := FnOk.to (ok79x0 N) (T132x0_ok N)
noncomputable def rg100x0 : List (Nat × List Nat) := [(0, [0, 1]), (1, [1, 2]), (2, [1, 2, 5]), (3, [2, 6, 5]), (4, [13, 12, 11, 6, 5]), (5, [11, 13, 6, 12, 5]), (6, [6, 8, 13, 12, 11, 5]), (7, [13, 12, 11, 5]), (8, [5, 8, 13, 12, 11, 6]), (9, [13, 12, 11, 6, 5]), (10, [5])]
noncomputable def hd100x0 : Hints := [(12, [13, 12, 11, 6, 5], [5], [5]), (19, [6, 8, 13, 12, 11, 5], [8, 5], [])]
noncomputable def h100x0s0 (N : Nat) : Sg Try.prog 0 100 := .start hd100x0 rg100x0
noncomputable def F100x0x19 (w0 : Bool) (w7 w8 w9 : Int) (k0 : Bool → R) : R :=
  bif w0 then
    bnd (V132x0 N w7 w8 w9) fun y0 =>
    k0 y0
  else
    k0 false
noncomputable def V100x0x19 (w0 : Bool) (w7 w8 w9 : Int) : Bool := F100x0x19 N w0 w7 w8 w9 (fun p => p)
theorem tot100x0x19 (w0 : Bool) (w7 w8 w9 : Int) (k0 : Bool → R) : F100x0x19 N w0 w7 w8 w9 k0 = k0 (V100x0x19 N w0 w7 w8 w9) := by
  unfold V100x0x19 F100x0x19
  repeat' (first | rfl | apply cond_k | (apply bnd_k; intro _))
noncomputable def J100x0x19 (L : List Lf) (k0 : Bool → R) : R := F100x0x19 N (lb L 0) (li L 7) (li L 8) (li L 9) k0
noncomputable def sh100x0x19 : Sh := { tmps := [(5, .c (.o 5)), (6, .c (.b)), (8, .c (.p 8 0)), (11, .c (.sl 146)), (12, .c (.i .i64)), (13, .c (.i .i64))], mem := [(5, .row 146 true), (8, .box ([.i .i64, .i .i64, .i .i64]))] }
noncomputable def K100x0x19w0 (L : List Lf) (p : Bool) : Ex × St := (.normal, mg (ofSh sh100x0x19 L) [5, 6, 8, 11, 12, 13, 21] [(21, .c (.b p))] [5, 8] [])
noncomputable def A100x0x19 (L : List Lf) : List (Bool × (Ex × St)) := bnd (J100x0x19 N L (fun p => p)) fun q => [(true, K100x0x19w0 L q)]
theorem raw100x0x19 (L : List Lf) : pc Try.prog (T79x0 N) (h100x0s0 N).h 0 100 100 19 sh100x0x19 L [13, 12, 11, 5, 8, 6, 21] [8, 5] = J100x0x19 N L (fun p => some (K100x0x19w0 L p)) := by kernel_rfl
noncomputable def h100x0s1 : Sg Try.prog 0 100 :=
  (h100x0s0 N).cut (A100x0x19 N) progOk (T79x0_ok N) fun L x hx => (raw100x0x19 N L).trans ((tot100x0x19 N ..).trans (alt0 _ _ hx))
noncomputable def S100x0x12 (w2 : LD) (w3 : Int) (w0 : Bool) (w4 : Int) (w5 : Bool) (w6 : LD) (kr : Bool → Int → Bool → LD → Option R) (k0 : Bool × LD → Option R) : Option R :=
  bif (decide (w4 < w3)) then
    bif (inB w4 w2.length) then
      bnd (V100x0x19 N w0 ((w2.getD w4.toNat (.i 0)).cell 0).toI ((w2.getD w4.toNat (.i 0)).cell 1).toI ((w2.getD w4.toNat (.i 0)).cell 2).toI) fun y0 =>
      bif y0 then
        kr false (IntKind.wrap .i64 (w4 + 1)) w5 w6
      else
        bif (decide ((w6.length + 1) * 24 ≤ room) && decide ((w6.length + 1) ≤ strMax)) then
          bnd ((w6 ++ [(.a [(.i ((w2.getD w4.toNat (.i 0)).cell 0).toI), (.i ((w2.getD w4.toNat (.i 0)).cell 1).toI), (.i ((w2.getD w4.toNat (.i 0)).cell 2).toI)])]) : List D) fun y1 =>
          kr w0 (IntKind.wrap .i64 (w4 + 1)) false y1
        else
          none
    else
      none
  else
    k0 (w5, w6)
noncomputable def L100x0x12 (N : Nat) {R : Type} (w2 : LD) (w3 : Int) : Nat → Bool → Int → Bool → LD → (Bool × LD → Option R) → Option R
  | 0, _, _, _, _, _ => none
  | m + 1, w0, w4, w5, w6, k0 => S100x0x12 N w2 w3 w0 w4 w5 w6 (fun w0 w4 w5 w6 => L100x0x12 N w2 w3 m w0 w4 w5 w6 k0) k0
noncomputable def G100x0x12 (w2 : LD) (w3 : Int) (w0 : Bool) (w4 : Int) (w5 : Bool) (w6 : LD) : Option (Bool × LD) := L100x0x12 N (R := (Bool × LD)) w2 w3 N w0 w4 w5 w6 (fun p => some p)
noncomputable def J100x0x12 (L x : List Lf) (kr : List Lf → Option R) (k0 : Bool × LD → Option R) : Option R := S100x0x12 N (ll L 2) (li L 3) (lb x 0) (li x 1) (lb x 2) (ll x 3) (fun w0 w4 w5 w6 => kr [.b w0, .i w4, .b w5, .l w6]) k0
theorem sb100x0x12 (L x : List Lf) (kr : List Lf → Option R) (k0 : Bool × LD → Option R) : J100x0x12 N L x kr k0 = (J100x0x12 N L x (fun y => some (.inl y)) (fun p => some (.inr p))).bind (sumE kr k0) := by
  unfold J100x0x12 S100x0x12
  repeat' (first | with_reducible apply cond_b | (with_reducible apply bnd_b; intro _) | rfl)
noncomputable def Q100x0x12 (L : List Lf) (m : Nat) (x : List Lf) : Option (Bool × LD) := L100x0x12 N (R := (Bool × LD)) (ll L 2) (li L 3) m (lb x 0) (li x 1) (lb x 2) (ll x 3) (fun p => some p)
noncomputable def sh100x0x12 : Sh := { tmps := [(5, .c (.o 5)), (6, .c (.b)), (11, .c (.sl 146)), (12, .c (.i .i64)), (13, .c (.i .i64))], mem := [(5, .row 146 true)] }
noncomputable def K100x0x12w0 (L : List Lf) (p : Bool × LD) : Ex × St := ((.exit 0), ⟨[(5, .c (.o 5))], [(5, .row 146 true p.1 p.2)]⟩)
noncomputable def A100x0x12 (L : List Lf) : List (Bool × (Ex × St)) := bnd (Q100x0x12 N L N (pk sh100x0x12 [0, 4, 5, 6] L)) fun q => [(q.isSome, K100x0x12w0 L (q.getD default))]
theorem step100x0x12 (m : Nat) (kn : St → Option (Ex × St)) (L x : List Lf) : lpB Try.prog (T79x0 N) (h100x0s1 N).h 0 100 12 sh100x0x12 [0, 4, 5, 6] [4, 5] [5] (m + 100) kn L x = J100x0x12 N L x (fun y => kn (ofSh sh100x0x12 (mx sh100x0x12 [0, 4, 5, 6] L y))) (fun p => some (K100x0x12w0 L p)) := by kernel_rfl
theorem ql100x0x12 (L : List Lf) (m : Nat) (x : List Lf) : Q100x0x12 N L (m + 1) x = J100x0x12 N L x (Q100x0x12 N L m) some := by kernel_rfl
noncomputable def h100x0s2 : Sg Try.prog 0 100 :=
  (h100x0s1 N).lp (A100x0x12 N) N progOk (T79x0_ok N) (fun m kn L x => (step100x0x12 N m kn L x).trans (sb100x0x12 N L x _ _)) (fun L m x => (ql100x0x12 N L m x).trans (sb100x0x12 N L x (Q100x0x12 N L m) some)) fun L x hx => alt1 x hx
noncomputable def F100x0 (v3 : LD) (v4 : Bool) (k0 : Bool × LD → Option R) : Option R :=
  bnd (G100x0x12 N v3 (v3.length : Int) v4 0 true []) fun y0 =>
  bif y0.isSome then
    k0 (y0.getD default)
  else
    none
noncomputable def G100x0 (v3 : LD) (v4 : Bool) : Option (Bool × LD) := F100x0 N v3 v4 (fun p => some p)
theorem bind100x0 (v3 : LD) (v4 : Bool) (k0 : Bool × LD → Option R) : F100x0 N v3 v4 k0 = (G100x0 N v3 v4).bind k0 := by
  unfold G100x0 F100x0
  repeat' (first | with_reducible apply cond_b | (with_reducible apply bnd_b; intro _) | rfl)
noncomputable def sh100x0 : Sh := { tmps := [(0, .g ([.b, .i .i64, .sl 146])), (1, .c (.b))], mem := [] }
noncomputable def A100x0 (L : List Lf) : List (Bool × Res) := bnd (F100x0 N (ll L 3) (lb L 4) (fun p => some p)) fun q => [(q.isSome, ([.c (.sl 146 (q.getD default).1 (q.getD default).2)], []))]
theorem raw100x0 (L : List Lf) : bd Try.prog (T79x0 N) (h100x0s2 N).h 100 sh100x0 L = F100x0 N (ll L 3) (lb L 4) (fun p => some ([.c (.sl 146 p.1 p.2)], [])) := by kernel_rfl
theorem ok100x0 : FnOk Try.prog 100 sh100x0 (A100x0 N) :=
  (h100x0s2 N).fn progOk (T79x0_ok N) fun L x hx => ((raw100x0 N L).trans ((bind100x0 N ..).trans (alt1 x hx)))
noncomputable def T100x0 : Oracle := ext 100 (spSh sh100x0 (A100x0 N)) (T79x0 N)
theorem T100x0_ok : OracleOk Try.prog (T100x0 N) := FnOk.to (ok100x0 N) (T79x0_ok N)
noncomputable def rg126x0 : List (Nat × List Nat) := [(0, [0]), (1, [0]), (2, [0, 3]), (3, [8, 7, 6, 3]), (4, [6, 8, 3, 7]), (5, [3, 5, 8, 7, 6]), (6, [8, 7, 6, 3]), (7, [3])]
noncomputable def hd126x0 : Hints := [(9, [8, 7, 6, 3], [], [])]
noncomputable def h126x0s0 (N : Nat) : Sg Try.prog 0 126 := .start hd126x0 rg126x0
noncomputable def S126x0x9 (N : Nat) (w2 : LD) (w3 : Int) (w0 w4 : Int) (kr : Int → Int → Option R) (k0 : Int → Option R) : Option R :=
  bif (decide (w4 < w3)) then
    bif (inB w4 w2.length) then
      bnd (IntKind.wrap .i64 (w0 + ((w2.getD w4.toNat (.i 0)).cell 1).toI)) fun y0 =>
      kr y0 (IntKind.wrap .i64 (w4 + 1))
    else
      none
  else
    k0 w0
noncomputable def L126x0x9 (N : Nat) {R : Type} (w2 : LD) (w3 : Int) : Nat → Int → Int → (Int → Option R) → Option R
  | 0, _, _, _ => none
  | m + 1, w0, w4, k0 => S126x0x9 N w2 w3 w0 w4 (fun w0 w4 => L126x0x9 N w2 w3 m w0 w4 k0) k0
noncomputable def G126x0x9 (w2 : LD) (w3 : Int) (w0 w4 : Int) : Option (Int) := L126x0x9 N (R := (Int)) w2 w3 N w0 w4 (fun p => some p)
noncomputable def J126x0x9 (L x : List Lf) (kr : List Lf → Option R) (k0 : Int → Option R) : Option R := S126x0x9 N (ll L 2) (li L 3) (li x 0) (li x 1) (fun w0 w4 => kr [.i w0, .i w4]) k0
theorem sb126x0x9 (L x : List Lf) (kr : List Lf → Option R) (k0 : Int → Option R) : J126x0x9 N L x kr k0 = (J126x0x9 N L x (fun y => some (.inl y)) (fun p => some (.inr p))).bind (sumE kr k0) := by
  unfold J126x0x9 S126x0x9
  repeat' (first | with_reducible apply cond_b | (with_reducible apply bnd_b; intro _) | rfl)
noncomputable def Q126x0x9 (L : List Lf) (m : Nat) (x : List Lf) : Option (Int) := L126x0x9 N (R := (Int)) (ll L 2) (li L 3) m (li x 0) (li x 1) (fun p => some p)
noncomputable def sh126x0x9 : Sh := { tmps := [(3, .c (.i .i64)), (6, .c (.sl 146)), (7, .c (.i .i64)), (8, .c (.i .i64))], mem := [] }
noncomputable def A126x0x9 (L : List Lf) : List (Bool × (Ex × St)) := bnd (Q126x0x9 N L N (pk sh126x0x9 [0, 4] L)) fun q => [(q.isSome, ((.exit 0), ⟨[(3, .c (.i .i64 (q.getD default)))], []⟩))]
theorem step126x0x9 (m : Nat) (kn : St → Option (Ex × St)) (L x : List Lf) : lpB Try.prog (T100x0 N) (h126x0s0 N).h 0 126 9 sh126x0x9 [0, 4] [2, 3] [] (m + 100) kn L x = J126x0x9 N L x (fun y => kn (ofSh sh126x0x9 (mx sh126x0x9 [0, 4] L y))) (fun p => some ((.exit 0), ⟨[(3, .c (.i .i64 p))], []⟩)) := by kernel_rfl
theorem ql126x0x9 (L : List Lf) (m : Nat) (x : List Lf) : Q126x0x9 N L (m + 1) x = J126x0x9 N L x (Q126x0x9 N L m) some := by kernel_rfl
noncomputable def h126x0s1 : Sg Try.prog 0 126 :=
  (h126x0s0 N).lp (A126x0x9 N) N progOk (T100x0_ok N) (fun m kn L x => (step126x0x9 N m kn L x).trans (sb126x0x9 N L x _ _)) (fun L m x => (ql126x0x9 N L m x).trans (sb126x0x9 N L x (Q126x0x9 N L m) some)) fun L x hx => alt1 x hx
noncomputable def F126x0 (v1 : LD) (k0 : Int → Option R) : Option R :=
  bnd (G126x0x9 N v1 (v1.length : Int) 0 0) fun y0 =>
  bif y0.isSome then
    k0 (y0.getD default)
  else
    none
noncomputable def G126x0 (v1 : LD) : Option (Int) := F126x0 N v1 (fun p => some p)
theorem bind126x0 (v1 : LD) (k0 : Int → Option R) : F126x0 N v1 k0 = (G126x0 N v1).bind k0 := by
  unfold G126x0 F126x0
  repeat' (first | with_reducible apply cond_b | (with_reducible apply bnd_b; intro _) | rfl)
noncomputable def sh126x0 : Sh := { tmps := [(0, .c (.sl 146))], mem := [] }
noncomputable def A126x0 (L : List Lf) : List (Bool × Res) := bnd (F126x0 N (ll L 1) (fun p => some p)) fun q => [(q.isSome, ([.c (.i .i64 (q.getD default))], []))]
theorem raw126x0 (L : List Lf) : bd Try.prog (T100x0 N) (h126x0s1 N).h 126 sh126x0 L = F126x0 N (ll L 1) (fun p => some ([.c (.i .i64 p)], [])) := by kernel_rfl
theorem ok126x0 : FnOk Try.prog 126 sh126x0 (A126x0 N) :=
  (h126x0s1 N).fn progOk (T100x0_ok N) fun L x hx => ((raw126x0 N L).trans ((bind126x0 N ..).trans (alt1 x hx)))
noncomputable def T126x0 : Oracle := ext 126 (spSh sh126x0 (A126x0 N)) (T100x0 N)
theorem T126x0_ok : OracleOk Try.prog (T126x0 N) := FnOk.to (ok126x0 N) (T100x0_ok N)
noncomputable def rg73x0 : List (Nat × List Nat) := [(0, [1, 0]), (1, [3, 0]), (2, []), (3, [3, 0]), (4, [3, 0, 5, 6]), (5, [3, 0]), (6, [3, 5, 6, 0]), (7, []), (8, [3, 0]), (9, [3]), (10, []), (11, [3]), (12, [3, 0]), (13, []), (14, [0, 3]), (15, []), (16, [0, 3]), (17, [7, 3, 0]), (18, [3, 9, 0, 7]), (19, []), (20, [3, 7]), (21, []), (22, [])]
noncomputable def hd73x0 : Hints := [(17, [3, 0, 5, 6, 15], [4, 0], []), (19, [3, 5, 6, 0], [4, 0], [])]
noncomputable def h73x0s0 (N : Nat) : Sg Try.prog 1 73 := .start hd73x0 rg73x0
noncomputable def F73x0x17 (N : Nat) (w0 w1 : Int) (w2 : Bool) (k0 : Int × Int → R) : R :=
  bif w2 then
    k0 (3, 31)
  else
    k0 (w0, w1)
noncomputable def V73x0x17 (w0 w1 : Int) (w2 : Bool) : Int × Int := F73x0x17 N w0 w1 w2 (fun p => p)
theorem tot73x0x17 (w0 w1 : Int) (w2 : Bool) (k0 : Int × Int → R) : F73x0x17 N w0 w1 w2 k0 = k0 (V73x0x17 N w0 w1 w2) := by
  unfold V73x0x17 F73x0x17
  repeat' (first | rfl | apply cond_k | (apply bnd_k; intro _))
noncomputable def sh73x0x17 : Sh := { tmps := [(0, .c (.p 0 0)), (3, .c (.p 4 0)), (5, .c (.i .i64)), (6, .c (.i .i64)), (15, .c (.b))], mem := [(0, .dat 106), (4, .box ([.i .i64, .i .i64, .i .i64, .sl 103, .sl 5]))] }
noncomputable def K73x0x17w0 (L : List Lf) (p : Int × Int) : Ex × St := (.normal, mg (ofSh sh73x0x17 L) [0, 3, 5, 6] [(5, .c (.i .i64 p.1)), (6, .c (.i .i64 p.2))] [0, 4] [])
noncomputable def A73x0x17 (L : List Lf) : List (Bool × (Ex × St)) := bnd (F73x0x17 N (li L 0) (li L 1) (lb L 2) (fun p => p)) fun q => [(true, K73x0x17w0 L q)]
theorem raw73x0x17 (L : List Lf) : pc Try.prog (T126x0 N) (h73x0s0 N).h 1 100 73 17 sh73x0x17 L [3, 5, 6, 0] [4, 0] = F73x0x17 N (li L 0) (li L 1) (lb L 2) (fun p => some (K73x0x17w0 L p)) := by kernel_rfl
noncomputable def h73x0s1 : Sg Try.prog 1 73 :=
  (h73x0s0 N).cut (A73x0x17 N) progOk (T126x0_ok N) fun L x hx => (raw73x0x17 N L).trans ((tot73x0x17 N ..).trans (alt0 _ _ hx))
noncomputable def F73x0x19 (w0 w1 w4 w5 : Int) (k0 : Bool → R) : R :=
  bnd (V57x0 N w4 0 w0) fun y0 =>
  bif y0 then
    k0 true
  else
    bnd (V57x0 N w5 0 w1) fun y1 =>
    k0 y1
noncomputable def V73x0x19 (w0 w1 w4 w5 : Int) : Bool := F73x0x19 N w0 w1 w4 w5 (fun p => p)
theorem tot73x0x19 (w0 w1 w4 w5 : Int) (k0 : Bool → R) : F73x0x19 N w0 w1 w4 w5 k0 = k0 (V73x0x19 N w0 w1 w4 w5) := by
  unfold V73x0x19 F73x0x19
  repeat' (first | rfl | apply cond_k | (apply bnd_k; intro _))
noncomputable def J73x0x19 (L : List Lf) (k0 : Bool → R) : R := F73x0x19 N (li L 0) (li L 1) (li L 4) (li L 5) k0
noncomputable def sh73x0x19 : Sh := { tmps := [(0, .c (.p 0 0)), (3, .c (.p 4 0)), (5, .c (.i .i64)), (6, .c (.i .i64))], mem := [(0, .dat 106), (4, .box ([.i .i64, .i .i64, .i .i64, .sl 103, .sl 5]))] }
noncomputable def K73x0x19w0 (L : List Lf) (p : Bool) : Ex × St := (.normal, mg (ofSh sh73x0x19 L) [0, 3, 25] [(25, .c (.b p))] [0, 4] [])
noncomputable def A73x0x19 (L : List Lf) : List (Bool × (Ex × St)) := bnd (J73x0x19 N L (fun p => p)) fun q => [(true, K73x0x19w0 L q)]
theorem raw73x0x19 (L : List Lf) : pc Try.prog (T126x0 N) (h73x0s1 N).h 1 100 73 19 sh73x0x19 L [3, 0, 25] [4, 0] = J73x0x19 N L (fun p => some (K73x0x19w0 L p)) := by kernel_rfl
noncomputable def h73x0s2 : Sg Try.prog 1 73 :=
  (h73x0s1 N).cut (A73x0x19 N) progOk (T126x0_ok N) fun L x hx => (raw73x0x19 N L).trans ((tot73x0x19 N ..).trans (alt0 _ _ hx))
noncomputable def F73x0 (v0 v1 v2 : Int) (v4 v6 : LD) (v7 : D) (k0 : Int → Option R) : Option R :=
  bnd (V57x0 N v0 1 3) fun y0 =>
  bif y0 then
    k0 7
  else
    bnd (V73x0x17 N 15 0 (v0 == 3)) fun y1 =>
    bnd (V73x0x19 N y1.1 y1.2 v1 v2) fun y2 =>
    bif y2 then
      k0 9
    else
      bif (v0 == 1) then
        bnd (bif ((v4.length : Int) != 1) then true else (decide ((v6.length : Int) > 0))) fun y3 =>
        bif y3 then
          k0 2
        else
          bif (inB 0 v4.length) then
            bnd (G125x0 N ((v4.getD 0 (.i 0)).cell 1).toI ((v4.getD 0 (.i 0)).cell 2).items) fun y4 =>
            bif y4.isSome then
              k0 (y4.getD default)
            else
              none
          else
            none
      else
        bif (decide ((v4.length : Int) > 0)) then
          k0 2
        else
          bif (inB v1 16) then
            bif (!(v7.cell (0 + (v1.toNat * 1))).toB) then
              k0 11
            else
              bif (inB v1 16) then
                bnd (G79x0 N (v7.cell (18 + (v1.toNat * 3))).items) fun y5 =>
                bif y5.isSome then
                  bnd (bif (v0 == 3) then (bif (!(y5.getD default).2) then true else (decide ((v7.cell 64).toI < 0))) else false) fun y6 =>
                  bif y6 then
                    k0 11
                  else
                    bnd (G100x0 N (v7.cell (18 + (v1.toNat * 3))).items (v0 == 3)) fun y7 =>
                    bif y7.isSome then
                      bnd (G126x0 N (y7.getD default).2) fun y8 =>
                      bif y8.isSome then
                        bif ((v6.length : Int) != (y8.getD default)) then
                          k0 2
                        else
                          k0 0
                      else
                        none
                    else
                      none
                else
                  none
              else
                none
          else
            none
noncomputable def G73x0 (v0 v1 v2 : Int) (v4 v6 : LD) (v7 : D) : Option (Int) := F73x0 N v0 v1 v2 v4 v6 v7 (fun p => some p)
theorem bind73x0 (v0 v1 v2 : Int) (v4 v6 : LD) (v7 : D) (k0 : Int → Option R) : F73x0 N v0 v1 v2 v4 v6 v7 k0 = (G73x0 N v0 v1 v2 v4 v6 v7).bind k0 := by
  unfold G73x0 F73x0
  repeat' (first | with_reducible apply cond_b | (with_reducible apply bnd_b; intro _) | rfl)
noncomputable def J73x0 (L : List Lf) (k0 : Int → Option R) : Option R := F73x0 N (li L 0) (li L 1) (li L 2) (ll L 4) (ll L 6) (ld L 7) k0
noncomputable def sh73x0 : Sh := { tmps := [(0, .c (.p 0 0)), (1, .g ([.i .i64, .i .i64, .i .i64, .sl 103, .sl 5]))], mem := [(0, .dat 106)] }
noncomputable def A73x0 (L : List Lf) : List (Bool × Res) := bnd (J73x0 N L (fun p => some p)) fun q => [(q.isSome, ([.c (.i .i64 (q.getD default))], [(0, .dat 106 (ld L 7))]))]
theorem raw73x0 (L : List Lf) : bd Try.prog (T126x0 N) (h73x0s2 N).h 73 sh73x0 L = J73x0 N L (fun p => some ([.c (.i .i64 p)], [(0, .dat 106 (ld L 7))])) := by kernel_rfl
theorem ok73x0 : FnOk Try.prog 73 sh73x0 (A73x0 N) :=
  (h73x0s2 N).fn progOk (T126x0_ok N) fun L x hx => ((raw73x0 N L).trans ((bind73x0 N ..).trans (alt1 x hx)))
noncomputable def T73x0 : Oracle := ext 73 (spSh sh73x0 (A73x0 N)) (T126x0 N)
theorem T73x0_ok : OracleOk Try.prog (T73x0 N) := FnOk.to (ok73x0 N) (T126x0_ok N)
noncomputable def rg83x0 : List (Nat × List Nat) := [(0, [0, 1]), (1, [0, 1]), (2, [0, 1, 5]), (3, [10, 9, 1, 0, 5]), (4, [10, 1, 0, 5, 9]), (5, [6, 1, 0, 5, 10, 9]), (6, [1, 0, 6, 5, 10, 9, 7]), (7, [0, 6, 5, 10, 9, 1]), (8, [5, 0, 7, 10, 9, 1]), (9, [10, 9, 1, 0, 5]), (10, [5])]
noncomputable def hd83x0 : Hints := [(9, [10, 9, 1, 0, 5], [], []), (23, [0, 6, 5, 10, 9, 1, 7, 15], [], [])]
noncomputable def h83x0s0 (N : Nat) : Sg Try.prog 0 83 := .start hd83x0 rg83x0
noncomputable def F83x0x23 (N : Nat) (w1 : LD) (w4 w5 : Int) (w8 : Bool) (k0 : Int → R) : R :=
  bif w8 then
    bnd (IntKind.wrap .i64 ((IntKind.wrap .i64 ((w1.length : Int) - 1)) - w4)) fun y0 =>
    k0 y0
  else
    k0 w5
noncomputable def V83x0x23 (w1 : LD) (w4 w5 : Int) (w8 : Bool) : Int := F83x0x23 N w1 w4 w5 w8 (fun p => p)
theorem tot83x0x23 (w1 : LD) (w4 w5 : Int) (w8 : Bool) (k0 : Int → R) : F83x0x23 N w1 w4 w5 w8 k0 = k0 (V83x0x23 N w1 w4 w5 w8) := by
  unfold V83x0x23 F83x0x23
  repeat' (first | rfl | apply cond_k | (apply bnd_k; intro _))
noncomputable def J83x0x23 (L : List Lf) (k0 : Int → R) : R := F83x0x23 N (ll L 1) (li L 4) (li L 5) (lb L 8) k0
noncomputable def sh83x0x23 : Sh := { tmps := [(0, .c (.sl 5)), (1, .c (.b)), (5, .c (.i .i64)), (6, .c (.i .i64)), (7, .c (.i .i64)), (9, .c (.i .i64)), (10, .c (.i .i64)), (15, .c (.b))], mem := [] }
noncomputable def K83x0x23w0 (L : List Lf) (p : Int) : Ex × St := (.normal, mg (ofSh sh83x0x23 L) [0, 1, 5, 7, 9, 10] [(7, .c (.i .i64 p))] [] [])
noncomputable def A83x0x23 (L : List Lf) : List (Bool × (Ex × St)) := bnd (J83x0x23 N L (fun p => p)) fun q => [(true, K83x0x23w0 L q)]
theorem raw83x0x23 (L : List Lf) : pc Try.prog (T73x0 N) (h83x0s0 N).h 0 100 83 23 sh83x0x23 L [5, 0, 7, 10, 9, 1] [] = J83x0x23 N L (fun p => some (K83x0x23w0 L p)) := by kernel_rfl
noncomputable def h83x0s1 : Sg Try.prog 0 83 :=
  (h83x0s0 N).cut (A83x0x23 N) progOk (T73x0_ok N) fun L x hx => (raw83x0x23 N L).trans ((tot83x0x23 N ..).trans (alt0 _ _ hx))
noncomputable def S83x0x9 (w1 : LD) (w2 : Bool) (w4 : Int) (w3 w5 : Int) (kr : Int → Int → Option R) (k0 : Int → Option R) : Option R :=
  bif (decide (w5 < w4)) then
    bnd (V83x0x23 N w1 w5 w5 (!w2)) fun y0 =>
    bif (inB y0 w1.length) then
      bnd (IntKind.wrap .i64 ((IntKind.wrap .i64 (256 * w3)) + (IntKind.wrap .i64 (w1.getD y0.toNat (.i 0)).toI))) fun y1 =>
      kr y1 (IntKind.wrap .i64 (w5 + 1))
    else
      none
  else
    k0 w3
noncomputable def L83x0x9 (N : Nat) {R : Type} (w1 : LD) (w2 : Bool) (w4 : Int) : Nat → Int → Int → (Int → Option R) → Option R
  | 0, _, _, _ => none
  | m + 1, w3, w5, k0 => S83x0x9 N w1 w2 w4 w3 w5 (fun w3 w5 => L83x0x9 N w1 w2 w4 m w3 w5 k0) k0
noncomputable def G83x0x9 (w1 : LD) (w2 : Bool) (w4 : Int) (w3 w5 : Int) : Option (Int) := L83x0x9 N (R := (Int)) w1 w2 w4 N w3 w5 (fun p => some p)
noncomputable def J83x0x9 (L x : List Lf) (kr : List Lf → Option R) (k0 : Int → Option R) : Option R := S83x0x9 N (ll L 1) (lb L 2) (li L 4) (li x 0) (li x 1) (fun w3 w5 => kr [.i w3, .i w5]) k0
theorem sb83x0x9 (L x : List Lf) (kr : List Lf → Option R) (k0 : Int → Option R) : J83x0x9 N L x kr k0 = (J83x0x9 N L x (fun y => some (.inl y)) (fun p => some (.inr p))).bind (sumE kr k0) := by
  unfold J83x0x9 S83x0x9
  repeat' (first | with_reducible apply cond_b | (with_reducible apply bnd_b; intro _) | rfl)
noncomputable def Q83x0x9 (L : List Lf) (m : Nat) (x : List Lf) : Option (Int) := L83x0x9 N (R := (Int)) (ll L 1) (lb L 2) (li L 4) m (li x 0) (li x 1) (fun p => some p)
noncomputable def sh83x0x9 : Sh := { tmps := [(0, .c (.sl 5)), (1, .c (.b)), (5, .c (.i .i64)), (9, .c (.i .i64)), (10, .c (.i .i64))], mem := [] }
noncomputable def A83x0x9 (L : List Lf) : List (Bool × (Ex × St)) := bnd (Q83x0x9 N L N (pk sh83x0x9 [3, 5] L)) fun q => [(q.isSome, ((.exit 0), ⟨[(5, .c (.i .i64 (q.getD default)))], []⟩))]
theorem step83x0x9 (m : Nat) (kn : St → Option (Ex × St)) (L x : List Lf) : lpB Try.prog (T73x0 N) (h83x0s1 N).h 0 83 9 sh83x0x9 [3, 5] [4, 5] [] (m + 100) kn L x = J83x0x9 N L x (fun y => kn (ofSh sh83x0x9 (mx sh83x0x9 [3, 5] L y))) (fun p => some ((.exit 0), ⟨[(5, .c (.i .i64 p))], []⟩)) := by kernel_rfl
theorem ql83x0x9 (L : List Lf) (m : Nat) (x : List Lf) : Q83x0x9 N L (m + 1) x = J83x0x9 N L x (Q83x0x9 N L m) some := by kernel_rfl
noncomputable def h83x0s2 : Sg Try.prog 0 83 :=
  (h83x0s1 N).lp (A83x0x9 N) N progOk (T73x0_ok N) (fun m kn L x => (step83x0x9 N m kn L x).trans (sb83x0x9 N L x _ _)) (fun L m x => (ql83x0x9 N L m x).trans (sb83x0x9 N L x (Q83x0x9 N L m) some)) fun L x hx => alt1 x hx
noncomputable def F83x0 (v1 : LD) (v2 : Bool) (k0 : Int → Option R) : Option R :=
  bnd (G83x0x9 N v1 v2 (v1.length : Int) 0 0) fun y0 =>
  bif y0.isSome then
    k0 (y0.getD default)
  else
    none
noncomputable def G83x0 (v1 : LD) (v2 : Bool) : Option (Int) := F83x0 N v1 v2 (fun p => some p)
theorem bind83x0 (v1 : LD) (v2 : Bool) (k0 : Int → Option R) : F83x0 N v1 v2 k0 = (G83x0 N v1 v2).bind k0 := by
  unfold G83x0 F83x0
  repeat' (first | with_reducible apply cond_b | (with_reducible apply bnd_b; intro _) | rfl)
noncomputable def sh83x0 : Sh := { tmps := [(0, .c (.sl 5)), (1, .c (.b))], mem := [] }
noncomputable def A83x0 (L : List Lf) : List (Bool × Res) := bnd (F83x0 N (ll L 1) (lb L 2) (fun p => some p)) fun q => [(q.isSome, ([.c (.i .i64 (q.getD default))], []))]
theorem raw83x0 (L : List Lf) : bd Try.prog (T73x0 N) (h83x0s2 N).h 83 sh83x0 L = F83x0 N (ll L 1) (lb L 2) (fun p => some ([.c (.i .i64 p)], [])) := by kernel_rfl
theorem ok83x0 : FnOk Try.prog 83 sh83x0 (A83x0 N) :=
  (h83x0s2 N).fn progOk (T73x0_ok N) fun L x hx => ((raw83x0 N L).trans ((bind83x0 N ..).trans (alt1 x hx)))
noncomputable def T83x0 : Oracle := ext 83 (spSh sh83x0 (A83x0 N)) (T73x0 N)
theorem T83x0_ok : OracleOk Try.prog (T83x0 N) := FnOk.to (ok83x0 N) (T73x0_ok N)
noncomputable def rg74x0 : List (Nat × List Nat) := [(0, [1, 0]), (1, [3, 0]), (2, [10, 0, 3]), (5, [10, 0, 3]), (6, [0, 3]), (7, [0]), (3, [0, 3]), (4, []), (8, [0, 3]), (9, [5, 3, 0]), (10, [7, 3, 6, 5, 0]), (11, []), (12, [3, 6, 5, 0]), (13, [8, 0]), (14, []), (15, [0, 8]), (16, [8])]
noncomputable def hd74x0 : Hints := []
noncomputable def h74x0s0 (N : Nat) : Sg Try.prog 1 74 := .start hd74x0 rg74x0
noncomputable def F74x0 (v0 v1 v2 : Int) (v4 v6 : LD) (v7 : D) (k0 : Int × D → Option R) : Option R :=
  bif (v0 == 1) then
    bif (inB 0 v4.length) then
      bif (inB v1 16) then
        bif (inB v1 16) then
          bnd (((((v7.put (0 + (v1.toNat * 1)) (.b true)).put (16 + (v1.toNat * 3)) (.b ((v4.getD 0 (.i 0)).cell 0).toB)).put (17 + (v1.toNat * 3)) (.i ((v4.getD 0 (.i 0)).cell 1).toI)).put (18 + (v1.toNat * 3)) (.l ((v4.getD 0 (.i 0)).cell 2).isNil ((v4.getD 0 (.i 0)).cell 2).items)) : D) fun y0 =>
          k0 ((-1), y0)
        else
          none
      else
        none
    else
      none
  else
    bif (v0 == 3) then
      bnd (IntKind.wrap .i64 ((IntKind.wrap .i64 (v2 - ((v7.cell 64).toI.tmod 32))) + 32)) fun y1 =>
      bnd ((v7.put 64 (.i (IntKind.wrap .i64 ((v7.cell 64).toI + (y1.tmod 32))))) : D) fun y2 =>
      k0 ((y2.cell 64).toI, y2)
    else
      bif (inB v1 16) then
        bnd (G79x0 N (v7.cell (18 + (v1.toNat * 3))).items) fun y3 =>
        bif y3.isSome then
          bif (!(y3.getD default).2) then
            k0 ((-1), v7)
          else
            bif (((decide (0 ≤ (y3.getD default).1)) && (decide ((y3.getD default).1 ≤ (IntKind.wrap .i64 ((y3.getD default).1 + 4))))) && (decide ((IntKind.wrap .i64 ((y3.getD default).1 + 4)) ≤ (v6.length : Int)))) then
              bnd (((v6.take (IntKind.wrap .i64 ((y3.getD default).1 + 4)).toNat).drop (y3.getD default).1.toNat) : List D) fun y4 =>
              bnd (G83x0 N y4 (v7.cell (16 + (v1.toNat * 3))).toB) fun y5 =>
              bif y5.isSome then
                bif ((y5.getD default) == 4294967295) then
                  k0 ((-1), v7)
                else
                  k0 ((y5.getD default), (v7.put 64 (.i (y5.getD default))))
              else
                none
            else
              none
        else
          none
      else
        none
noncomputable def G74x0 (v0 v1 v2 : Int) (v4 v6 : LD) (v7 : D) : Option (Int × D) := F74x0 N v0 v1 v2 v4 v6 v7 (fun p => some p)
theorem bind74x0 (v0 v1 v2 : Int) (v4 v6 : LD) (v7 : D) (k0 : Int × D → Option R) : F74x0 N v0 v1 v2 v4 v6 v7 k0 = (G74x0 N v0 v1 v2 v4 v6 v7).bind k0 := by
  unfold G74x0 F74x0
  repeat' (first | with_reducible apply cond_b | (with_reducible apply bnd_b; intro _) | rfl)
noncomputable def J74x0 (L : List Lf) (k0 : Int × D → Option R) : Option R := F74x0 N (li L 0) (li L 1) (li L 2) (ll L 4) (ll L 6) (ld L 7) k0
noncomputable def sh74x0 : Sh := { tmps := [(0, .c (.p 0 0)), (1, .g ([.i .i64, .i .i64, .i .i64, .sl 103, .sl 5]))], mem := [(0, .dat 106)] }
noncomputable def A74x0 (L : List Lf) : List (Bool × Res) := bnd (J74x0 N L (fun p => some p)) fun q => [(q.isSome, ([.c (.i .i64 (q.getD default).1)], [(0, .dat 106 (q.getD default).2)]))]
theorem raw74x0 (L : List Lf) : bd Try.prog (T83x0 N) (h74x0s0 N).h 74 sh74x0 L = J74x0 N L (fun p => some ([.c (.i .i64 p.1)], [(0, .dat 106 p.2)])) := by kernel_rfl
theorem ok74x0 : FnOk Try.prog 74 sh74x0 (A74x0 N) :=
  (h74x0s0 N).fn progOk (T83x0_ok N) fun L x hx => ((raw74x0 N L).trans ((bind74x0 N ..).trans (alt1 x hx)))
noncomputable def T74x0 : Oracle := ext 74 (spSh sh74x0 (A74x0 N)) (T83x0 N)
theorem T74x0_ok : OracleOk Try.prog (T74x0 N) := FnOk.to (ok74x0 N) (T83x0_ok N)
noncomputable def rg23x0 : List (Nat × List Nat) := [(0, [0]), (1, [1]), (2, []), (3, [1]), (4, [1, 3]), (5, [16, 15, 14, 3]), (6, [14, 16, 3, 15]), (7, [3, 5, 16, 15, 14]), (8, [6, 3, 5, 16, 15, 14]), (9, [6]), (10, [3, 5, 16, 15, 14]), (11, [16, 15, 14, 3]), (12, [])]
noncomputable def hd23x0 : Hints := [(15, [16, 15, 14, 3], [12], [])]
noncomputable def h23x0s0 (N : Nat) : Sg Try.prog 0 23 := .start hd23x0 rg23x0
noncomputable def S23x0x15 (w1 : LD) (w2 : Int) (w3 : Int) (w4 : D) (kr : Int → D → Option R) (k0 : Int → Option R) (k1 : Unit → Option R) : Option R :=
  bif (decide (w3 < w2)) then
    bif (inB w3 w1.length) then
      bnd (G73x0 N ((w1.getD w3.toNat (.i 0)).cell 0).toI ((w1.getD w3.toNat (.i 0)).cell 1).toI ((w1.getD w3.toNat (.i 0)).cell 2).toI ((w1.getD w3.toNat (.i 0)).cell 3).items ((w1.getD w3.toNat (.i 0)).cell 4).items w4) fun y0 =>
      bif y0.isSome then
        bif ((y0.getD default) != 0) then
          k0 (y0.getD default)
        else
          bnd (G74x0 N ((w1.getD w3.toNat (.i 0)).cell 0).toI ((w1.getD w3.toNat (.i 0)).cell 1).toI ((w1.getD w3.toNat (.i 0)).cell 2).toI ((w1.getD w3.toNat (.i 0)).cell 3).items ((w1.getD w3.toNat (.i 0)).cell 4).items w4) fun y1 =>
          bif y1.isSome then
            kr (IntKind.wrap .i64 (w3 + 1)) (y1.getD default).2
          else
            none
      else
        none
    else
      none
  else
    k1 ()
noncomputable def L23x0x15 (N : Nat) {R : Type} (w1 : LD) (w2 : Int) : Nat → Int → D → (Int → Option R) → (Unit → Option R) → Option R
  | 0, _, _, _, _ => none
  | m + 1, w3, w4, k0, k1 => S23x0x15 N w1 w2 w3 w4 (fun w3 w4 => L23x0x15 N w1 w2 m w3 w4 k0 k1) k0 k1
noncomputable def G23x0x15 (w1 : LD) (w2 : Int) (w3 : Int) (w4 : D) : Option (Sum (Int) (Unit)) := L23x0x15 N (R := (Sum (Int) (Unit))) w1 w2 N w3 w4 (fun p => some (.inl p)) (fun p => some (.inr p))
noncomputable def J23x0x15 (L x : List Lf) (kr : List Lf → Option R) (k0 : Int → Option R) (k1 : Unit → Option R) : Option R := S23x0x15 N (ll L 1) (li L 2) (li x 0) (ld x 1) (fun w3 w4 => kr [.i w3, .d w4]) k0 k1
theorem sb23x0x15 (L x : List Lf) (kr : List Lf → Option R) (k0 : Int → Option R) (k1 : Unit → Option R) : J23x0x15 N L x kr k0 k1 = (J23x0x15 N L x (fun y => some (.inl y)) (fun p => some (.inr (.inl p))) (fun p => some (.inr (.inr p)))).bind (sumE kr (sumE k0 k1)) := by
  unfold J23x0x15 S23x0x15
  repeat' (first | with_reducible apply cond_b | (with_reducible apply bnd_b; intro _) | rfl)
noncomputable def Q23x0x15 (L : List Lf) (m : Nat) (x : List Lf) : Option (Sum (Int) (Unit)) := L23x0x15 N (R := (Sum (Int) (Unit))) (ll L 1) (li L 2) m (li x 0) (ld x 1) (fun p => some (.inl p)) (fun p => some (.inr p))
noncomputable def sh23x0x15 : Sh := { tmps := [(3, .c (.p 12 0)), (14, .c (.sl 53)), (15, .c (.i .i64)), (16, .c (.i .i64))], mem := [(12, .dat 106)] }
noncomputable def A23x0x15 (L : List Lf) : List (Bool × (Ex × St)) := bnd (Q23x0x15 N L N (pk sh23x0x15 [3, 4] L)) fun q => [((inlB q), (.ret, ⟨[(2, .c (.i .i64 (inlV q)))], []⟩)), ((inrQ q).isSome, ((.exit 0), ⟨[], []⟩))]
theorem step23x0x15 (m : Nat) (kn : St → Option (Ex × St)) (L x : List Lf) : lpB Try.prog (T74x0 N) (h23x0s0 N).h 0 23 15 sh23x0x15 [3, 4] [2] [] (m + 100) kn L x = J23x0x15 N L x (fun y => kn (ofSh sh23x0x15 (mx sh23x0x15 [3, 4] L y))) (fun p => some (.ret, ⟨[(2, .c (.i .i64 p))], []⟩)) (fun _ => some ((.exit 0), ⟨[], []⟩)) := by kernel_rfl
theorem ql23x0x15 (L : List Lf) (m : Nat) (x : List Lf) : Q23x0x15 N L (m + 1) x = J23x0x15 N L x (Q23x0x15 N L m) (fun p => some (.inl p)) (fun p => some (.inr p)) := by kernel_rfl
noncomputable def h23x0s1 : Sg Try.prog 0 23 :=
  (h23x0s0 N).lp (A23x0x15 N) N progOk (T74x0_ok N) (fun m kn L x => (step23x0x15 N m kn L x).trans (sb23x0x15 N L x _ _ _)) (fun L m x => (ql23x0x15 N L m x).trans (sb23x0x15 N L x (Q23x0x15 N L m) (fun p => some (.inl p)) (fun p => some (.inr p)))) fun L x hx => (altS alt1) x hx
noncomputable def F23x0 (v1 : LD) (k0 : Int → Option R) : Option R :=
  bif (decide ((v1.length : Int) > 50000)) then
    k0 3
  else
    bnd ((.a [(.b false), (.b false), (.b false), (.b false), (.b false), (.b false), (.b false), (.b false), (.b false), (.b false), (.b false), (.b false), (.b false), (.b false), (.b false), (.b false), (.b false), (.i 0), (.l true []), (.b false), (.i 0), (.l true []), (.b false), (.i 0), (.l true []), (.b false), (.i 0), (.l true []), (.b false), (.i 0), (.l true []), (.b false), (.i 0), (.l true []), (.b false), (.i 0), (.l true []), (.b false), (.i 0), (.l true []), (.b false), (.i 0), (.l true []), (.b false), (.i 0), (.l true []), (.b false), (.i 0), (.l true []), (.b false), (.i 0), (.l true []), (.b false), (.i 0), (.l true []), (.b false), (.i 0), (.l true []), (.b false), (.i 0), (.l true []), (.b false), (.i 0), (.l true []), (.i (-1))]) : D) fun y0 =>
    bnd (G23x0x15 N v1 (v1.length : Int) 0 y0) fun y1 =>
    bif (inlB y1) then
      k0 (inlV y1)
    else
      bif (inrQ y1).isSome then
        k0 0
      else
        none
noncomputable def G23x0 (v1 : LD) : Option (Int) := F23x0 N v1 (fun p => some p)
theorem bind23x0 (v1 : LD) (k0 : Int → Option R) : F23x0 N v1 k0 = (G23x0 N v1).bind k0 := by
  unfold G23x0 F23x0
  repeat' (first | with_reducible apply cond_b | (with_reducible apply bnd_b; intro _) | rfl)
noncomputable def sh23x0 : Sh := { tmps := [(0, .g ([.sl 53]))], mem := [] }
noncomputable def A23x0 (L : List Lf) : List (Bool × Res) := bnd (F23x0 N (ll L 1) (fun p => some p)) fun q => [(q.isSome, ([.c (.i .i64 (q.getD default))], []))]
theorem raw23x0 (L : List Lf) : bd Try.prog (T74x0 N) (h23x0s1 N).h 23 sh23x0 L = F23x0 N (ll L 1) (fun p => some ([.c (.i .i64 p)], [])) := by kernel_rfl
theorem ok23x0 : FnOk Try.prog 23 sh23x0 (A23x0 N) :=
  (h23x0s1 N).fn progOk (T74x0_ok N) fun L x hx => ((raw23x0 N L).trans ((bind23x0 N ..).trans (alt1 x hx)))
noncomputable def T23x0 : Oracle := ext 23 (spSh sh23x0 (A23x0 N)) (T74x0 N)
theorem T23x0_ok : OracleOk Try.prog (T23x0 N) := FnOk.to (ok23x0 N) (T74x0_ok N)
end Go.Proofs.Ytnnofignhdijiaa
