/- Functions of the program as plain Lean definitions, each with the proof that the program computes it. No condition. Printed by a program of the prover, part 2. -/
import Derived.Test.YtnnofignhdijiaaRPp1
import Derived.KernelRfl
set_option linter.all false
set_option maxRecDepth 100000
namespace Go.Proofs.Ytnnofignhdijiaa
open Go Go.AM
variable (N : Nat) {R : Type}
noncomputable def S24x0x12 (N : Nat) (w1 w3 : LD) (w4 : Int) (w5 : Int) (kr : Int → Option R) (k0 : Unit → Option R) (k1 : Unit → Option R) : Option R :=
  bif (decide (w5 < w4)) then
    bif (inB w5 w1.length) then
      bif (inB w5 w3.length) then
        bnd ((w1.getD w5.toNat (.i 0)).toI != (w3.getD w5.toNat (.i 0)).toI) fun y0 =>
        bif y0 then
          k0 ()
        else
          kr (IntKind.wrap .i64 (w5 + 1))
      else
        none
    else
      none
  else
    k1 ()
noncomputable def L24x0x12 (N : Nat) {R : Type} (w1 w3 : LD) (w4 : Int) : Nat → Int → (Unit → Option R) → (Unit → Option R) → Option R
  | 0, _, _, _ => none
  | m + 1, w5, k0, k1 => S24x0x12 N w1 w3 w4 w5 (fun w5 => L24x0x12 N w1 w3 w4 m w5 k0 k1) k0 k1
noncomputable def G24x0x12 (w1 w3 : LD) (w4 : Int) (w5 : Int) : Option (Sum (Unit) (Unit)) := L24x0x12 N (R := (Sum (Unit) (Unit))) w1 w3 w4 N w5 (fun p => some (.inl p)) (fun p => some (.inr p))
noncomputable def J24x0x12 (L x : List Lf) (kr : List Lf → Option R) (k0 : Unit → Option R) (k1 : Unit → Option R) : Option R := S24x0x12 N (ll L 1) (ll L 3) (li L 4) (li x 0) (fun w5 => kr [.i w5]) k0 k1
theorem sb24x0x12 (L x : List Lf) (kr : List Lf → Option R) (k0 : Unit → Option R) (k1 : Unit → Option R) : J24x0x12 N L x kr k0 k1 = (J24x0x12 N L x (fun y => some (.inl y)) (fun p => some (.inr (.inl p))) (fun p => some (.inr (.inr p)))).bind (sumE kr (sumE k0 k1)) := by
  unfold J24x0x12 S24x0x12
  repeat' (first | with_reducible apply cond_b | (with_reducible apply bnd_b; intro _) | rfl)
noncomputable def Q24x0x12 (L : List Lf) (m : Nat) (x : List Lf) : Option (Sum (Unit) (Unit)) := L24x0x12 N (R := (Sum (Unit) (Unit))) (ll L 1) (ll L 3) (li L 4) m (li x 0) (fun p => some (.inl p)) (fun p => some (.inr p))
noncomputable def sh24x0x12 : Sh := { tmps := [(0, .c (.sl 3)), (1, .c (.sl 3)), (12, .c (.i .i64)), (13, .c (.i .i64))], mem := [] }
noncomputable def A24x0x12 (L : List Lf) : List (Bool × (Ex × St)) := bnd (Q24x0x12 N L N (pk sh24x0x12 [5] L)) fun q => [((inlB q), (.ret, ⟨[(4, .c (.b false))], []⟩)), ((inrQ q).isSome, ((.exit 0), ⟨[], []⟩))]
theorem step24x0x12 (m : Nat) (kn : St → Option (Ex × St)) (L x : List Lf) : lpB Try.prog (T18x0 N) (h24x0s0 N).h 0 24 12 sh24x0x12 [5] [4] [] (m + 100) kn L x = J24x0x12 N L x (fun y => kn (ofSh sh24x0x12 (mx sh24x0x12 [5] L y))) (fun _ => some (.ret, ⟨[(4, .c (.b false))], []⟩)) (fun _ => some ((.exit 0), ⟨[], []⟩)) := by kernel_rfl
theorem ql24x0x12 (L : List Lf) (m : Nat) (x : List Lf) : Q24x0x12 N L (m + 1) x = J24x0x12 N L x (Q24x0x12 N L m) (fun p => some (.inl p)) (fun p => some (.inr p)) := by kernel_rfl
noncomputable def h24x0s1 : Sg Try.prog 0 24 :=
  (h24x0s0 N).lp (A24x0x12 N) N progOk (T18x0_ok N) (fun m kn L x => (step24x0x12 N m kn L x).trans (sb24x0x12 N L x _ _ _)) (fun L m x => (ql24x0x12 N L m x).trans (sb24x0x12 N L x (Q24x0x12 N L m) (fun p => some (.inl p)) (fun p => some (.inr p)))) fun L x hx => (altS alt1) x hx
noncomputable def F24x0 (v1 v3 : LD) (k0 : Bool → Option R) : Option R :=
  bif ((v1.length : Int) != (v3.length : Int)) then
    k0 false
  else
    bnd (G24x0x12 N v1 v3 (v1.length : Int) 0) fun y0 =>
    bif (inlB y0) then
      k0 false
    else
      bif (inrQ y0).isSome then
        k0 true
      else
        none
noncomputable def G24x0 (v1 v3 : LD) : Option (Bool) := F24x0 N v1 v3 (fun p => some p)
theorem bind24x0 (v1 v3 : LD) (k0 : Bool → Option R) : F24x0 N v1 v3 k0 = (G24x0 N v1 v3).bind k0 := by
  unfold G24x0 F24x0
  repeat' (first | with_reducible apply cond_b | (with_reducible apply bnd_b; intro _) | rfl)
noncomputable def sh24x0 : Sh := { tmps := [(0, .c (.sl 3)), (1, .c (.sl 3))], mem := [] }
noncomputable def A24x0 (L : List Lf) : List (Bool × Res) := bnd (F24x0 N (ll L 1) (ll L 3) (fun p => some p)) fun q => [(q.isSome, ([.c (.b (q.getD default))], []))]
theorem raw24x0 (L : List Lf) : bd Try.prog (T18x0 N) (h24x0s1 N).h 24 sh24x0 L = F24x0 N (ll L 1) (ll L 3) (fun p => some ([.c (.b p)], [])) := by kernel_rfl
theorem ok24x0 : FnOk Try.prog 24 sh24x0 (A24x0 N) :=
  (h24x0s1 N).fn progOk (T18x0_ok N) fun L x hx => ((raw24x0 N L).trans ((bind24x0 N ..).trans (alt1 x hx)))
noncomputable def T24x0 : Oracle := ext 24 (spSh sh24x0 (A24x0 N)) (T18x0 N)
theorem T24x0_ok : OracleOk Try.prog (T24x0 N) := FnOk.to (ok24x0 N) (T18x0_ok N)
noncomputable def rg17x0 : List (Nat × List Nat) := [(0, []), (1, []), (2, [1]), (3, [2, 3]), (4, [3, 5, 4])]
noncomputable def hd17x0 : Hints := [(13, [3, 5, 4], [], [])]
noncomputable def h17x0s0 (N : Nat) : Sg Try.prog 0 17 := .start hd17x0 rg17x0
noncomputable def F17x0x13 (w0 : Int) (w2 : LD) (w3 : Int) (k0 : Bool → Option R) : Option R :=
  bif (bif (w0 == 0) then (w3 == 0) else false) then
    bnd (G24x0 N w2 [(.i (-1)), (.i 100), (.i (-1)), (.i 100), (.i 105)]) fun y0 =>
    bif y0.isSome then
      k0 (y0.getD default)
    else
      none
  else
    k0 false
noncomputable def G17x0x13 (w0 : Int) (w2 : LD) (w3 : Int) : Option (Bool) := F17x0x13 N w0 w2 w3 (fun p => some p)
theorem bind17x0x13 (w0 : Int) (w2 : LD) (w3 : Int) (k0 : Bool → Option R) : F17x0x13 N w0 w2 w3 k0 = (G17x0x13 N w0 w2 w3).bind k0 := by
  unfold G17x0x13 F17x0x13
  repeat' (first | with_reducible apply cond_b | (with_reducible apply bnd_b; intro _) | rfl)
noncomputable def sh17x0x13 : Sh := { tmps := [(3, .c (.i .i64)), (4, .c (.sl 3)), (5, .c (.i .i64))], mem := [] }
noncomputable def A17x0x13 (L : List Lf) : List (Bool × (Ex × St)) := bnd (F17x0x13 N (li L 0) (ll L 2) (li L 3) (fun p => some p)) fun q => [(q.isSome, (.normal, ⟨[(0, .c (.b (q.getD default)))], []⟩))]
theorem raw17x0x13 (L : List Lf) : pc Try.prog (T24x0 N) (h17x0s0 N).h 0 100 17 13 sh17x0x13 L [0] [] = F17x0x13 N (li L 0) (ll L 2) (li L 3) (fun p => some (.normal, ⟨[(0, .c (.b p))], []⟩)) := by kernel_rfl
noncomputable def h17x0s1 : Sg Try.prog 0 17 :=
  (h17x0s0 N).cut (A17x0x13 N) progOk (T24x0_ok N) fun L x hx => (raw17x0x13 N L).trans ((bind17x0x13 N ..).trans (alt1 x hx))
noncomputable def F17x0 (k0 : Bool → Option R) : Option R :=
  bnd (G49x0 N ([109] : List UInt8) 1 100 [(.a [(.i 0), (.i 0), (.i 0), (.i 0), (.i (-1)), (.i (-1)), (.i (-1))]), (.a [(.i 5), (.i 4), (.i 0), (.i 0), (.i 120), (.i (-1)), (.i (-1))])] [] [] false) fun y0 =>
  bif y0.isSome then
    bnd (G18x0 N (y0.getD default).2.1) fun y1 =>
    bif y1.isSome then
      bnd (G17x0x13 N (y0.getD default).2.2 (y1.getD default).2.1 (y1.getD default).2.2) fun y2 =>
      bif y2.isSome then
        k0 (y2.getD default)
      else
        none
    else
      none
  else
    none
noncomputable def G17x0 : Option (Bool) := F17x0 N (fun p => some p)
theorem bind17x0 (k0 : Bool → Option R) : F17x0 N k0 = (G17x0 N).bind k0 := by
  unfold G17x0 F17x0
  repeat' (first | with_reducible apply cond_b | (with_reducible apply bnd_b; intro _) | rfl)
noncomputable def sh17x0 : Sh := { tmps := [], mem := [] }
noncomputable def A17x0 (L : List Lf) : List (Bool × Res) := bnd (F17x0 N (fun p => some p)) fun q => [(q.isSome, ([.c (.b (q.getD default))], []))]
theorem raw17x0 (L : List Lf) : bd Try.prog (T24x0 N) (h17x0s1 N).h 17 sh17x0 L = F17x0 N (fun p => some ([.c (.b p)], [])) := by kernel_rfl
theorem ok17x0 : FnOk Try.prog 17 sh17x0 (A17x0 N) :=
  (h17x0s1 N).fn progOk (T24x0_ok N) fun L x hx => ((raw17x0 N L).trans ((bind17x0 N ..).trans (alt1 x hx)))
noncomputable def T17x0 : Oracle := ext 17 (spSh sh17x0 (A17x0 N)) (T24x0 N)
theorem T17x0_ok : OracleOk Try.prog (T17x0 N) := FnOk.to (ok17x0 N) (T24x0_ok N)
noncomputable def rg82x0 : List (Nat × List Nat) := [(0, [0]), (1, [1]), (2, [3, 1]), (3, [3, 1, 4])]
noncomputable def hd82x0 : Hints := []
noncomputable def h82x0s0 (N : Nat) : Sg Try.prog 0 82 := .start hd82x0 rg82x0
noncomputable def F82x0 (N : Nat) (k0 : D → R) : R :=
  bnd ((.a [(.b false), (.b false), (.i 0), (.l true []), (.i 0), (.i 0), (.b false), (.b false), (.i 0), (.l true []), (.i 0), (.i 0), (.b false), (.b false), (.i 0), (.l true []), (.i 0), (.i 0), (.b false), (.b false), (.i 0), (.l true []), (.i 0), (.i 0), (.b false), (.b false), (.i 0), (.l true []), (.i 0), (.i 0), (.b false), (.b false), (.i 0), (.l true []), (.i 0), (.i 0), (.b false), (.b false), (.i 0), (.l true []), (.i 0), (.i 0), (.b false), (.b false), (.i 0), (.l true []), (.i 0), (.i 0), (.b false), (.b false), (.i 0), (.l true []), (.i 0), (.i 0), (.b false), (.b false), (.i 0), (.l true []), (.i 0), (.i 0), (.b false), (.b false), (.i 0), (.l true []), (.i 0), (.i 0), (.b false), (.b false), (.i 0), (.l true []), (.i 0), (.i 0), (.b false), (.b false), (.i 0), (.l true []), (.i 0), (.i 0), (.b false), (.b false), (.i 0), (.l true []), (.i 0), (.i 0), (.b false), (.b false), (.i 0), (.l true []), (.i 0), (.i 0), (.b false), (.b false), (.i 0), (.l true []), (.i 0), (.i 0)]) : D) fun y0 =>
  k0 y0
noncomputable def V82x0 : D := F82x0 N (fun p => p)
theorem tot82x0 (k0 : D → R) : F82x0 N k0 = k0 (V82x0 N) := by
  unfold V82x0 F82x0
  repeat' (first | rfl | apply cond_k | (apply bnd_k; intro _))
noncomputable def sh82x0 : Sh := { tmps := [(0, .c (.sl 5))], mem := [] }
noncomputable def K82x0w0 (L : List Lf) (p : D) : Res := ([.c (.f 133 [(3, 0), (1, 0), (4, 0)])], [(1, .box [.sl 5 (lb L 0) (ll L 1)]), (3, .box [.i .i64 0]), (4, .dat 114 p)])
noncomputable def A82x0 (L : List Lf) : List (Bool × Res) := bnd (F82x0 N (fun p => p)) fun q => [(true, K82x0w0 L q)]
theorem raw82x0 (L : List Lf) : bd Try.prog (T17x0 N) (h82x0s0 N).h 82 sh82x0 L = F82x0 N (fun p => some (K82x0w0 L p)) := by kernel_rfl
theorem ok82x0 : FnOk Try.prog 82 sh82x0 (A82x0 N) :=
  (h82x0s0 N).fn progOk (T17x0_ok N) fun L x hx => ((raw82x0 N L).trans ((tot82x0 N ..).trans (alt0 _ _ hx)))
noncomputable def T82x0 : Oracle := ext 82 (spSh sh82x0 (A82x0 N)) (T17x0 N)
theorem T82x0_ok : OracleOk Try.prog (T82x0 N) := FnOk.to (ok82x0 N) (T17x0_ok N)
noncomputable def rg134x0 : List (Nat × List Nat) := [(0, [1, 0, 2]), (1, [1, 0, 2]), (2, [1, 0]), (3, [0]), (4, [1, 0, 2]), (5, [2, 1, 0])]
noncomputable def hd134x0 : Hints := []
noncomputable def h134x0s0 (N : Nat) : Sg Try.prog 2 134 := .start hd134x0 rg134x0
noncomputable def F134x0 (N : Nat) (v0 v1 : Int) (v2 : Bool) (v3 : LD) (k0 : Bool × LD × Int → Option R) : Option R :=
  bnd (bif (decide (v1 < 0)) then true else (decide (v0 > (IntKind.wrap .i64 ((v3.length : Int) - v1))))) fun y0 =>
  bif y0 then
    bif (((decide (0 ≤ v0)) && (decide (v0 ≤ v0))) && (decide (v0.toNat * 1 ≤ room) && decide (v0.toNat ≤ strMax))) then
      k0 (false, (List.replicate v0.toNat ((.i 0) : D)), (-1))
    else
      none
  else
    bif ((((decide (0 ≤ (IntKind.wrap .i64 ((IntKind.wrap .i64 (v1 + v0)) - v0)))) && (decide ((IntKind.wrap .i64 ((IntKind.wrap .i64 (v1 + v0)) - v0)) ≤ (IntKind.wrap .i64 (v1 + v0))))) && (decide ((IntKind.wrap .i64 (v1 + v0)) ≤ (IntKind.wrap .i64 (v1 + v0))))) && (decide ((IntKind.wrap .i64 (v1 + v0)) ≤ (v3.length : Int)))) then
      bnd (((v3.take (IntKind.wrap .i64 (v1 + v0)).toNat).drop (IntKind.wrap .i64 ((IntKind.wrap .i64 (v1 + v0)) - v0)).toNat) : List D) fun y1 =>
      k0 (v2, y1, (IntKind.wrap .i64 (v1 + v0)))
    else
      none
noncomputable def G134x0 (v0 v1 : Int) (v2 : Bool) (v3 : LD) : Option (Bool × LD × Int) := F134x0 N v0 v1 v2 v3 (fun p => some p)
theorem bind134x0 (v0 v1 : Int) (v2 : Bool) (v3 : LD) (k0 : Bool × LD × Int → Option R) : F134x0 N v0 v1 v2 v3 k0 = (G134x0 N v0 v1 v2 v3).bind k0 := by
  unfold G134x0 F134x0
  repeat' (first | with_reducible apply cond_b | (with_reducible apply bnd_b; intro _) | rfl)
noncomputable def J134x0 (L : List Lf) (k0 : Bool × LD × Int → Option R) : Option R := F134x0 N (li L 0) (li L 1) (lb L 2) (ll L 3) k0
noncomputable def sh134x0 : Sh := { tmps := [(0, .c (.i .i64)), (1, .c (.p 0 0)), (2, .c (.p 1 0))], mem := [(0, .box ([.i .i64])), (1, .box ([.sl 5]))] }
noncomputable def K134x0w0 (L : List Lf) (p : Bool × LD × Int) : Res := ([.c (.sl 5 p.1 p.2.1)], mgA (ofSh sh134x0 L).mem [(0, .box [.i .i64 p.2.2])] [0, 1])
noncomputable def A134x0 (L : List Lf) : List (Bool × Res) := bnd (J134x0 N L (fun p => some p)) fun q => [(q.isSome, K134x0w0 L (q.getD default))]
theorem raw134x0 (L : List Lf) : bd Try.prog (T82x0 N) (h134x0s0 N).h 134 sh134x0 L = J134x0 N L (fun p => some (K134x0w0 L p)) := by kernel_rfl
theorem ok134x0 : FnOk Try.prog 134 sh134x0 (A134x0 N) :=
  (h134x0s0 N).fn progOk (T82x0_ok N) fun L x hx => ((raw134x0 N L).trans ((bind134x0 N ..).trans (alt1 x hx)))
noncomputable def T134x0 : Oracle := ext 134 (spSh sh134x0 (A134x0 N)) (T82x0 N)
theorem T134x0_ok : OracleOk Try.prog (T134x0 N) := FnOk.to (ok134x0 N) (T82x0_ok N)
noncomputable def rg129x0 : List (Nat × List Nat) := [(0, [0]), (1, [0]), (2, []), (3, [0])]
noncomputable def hd129x0 : Hints := []
noncomputable def h129x0s0 (N : Nat) : Sg Try.prog 0 129 := .start hd129x0 rg129x0
noncomputable def F129x0 (N : Nat) (v0 : Bool) (v1 : LD) (k0 : Bool × LD → Option R) : Option R :=
  bif v0 then
    k0 (true, [])
  else
    bif (decide ((0 + v1.length) * 1 ≤ room) && decide ((0 + v1.length) ≤ strMax)) then
      k0 ((v1.isEmpty && false), v1)
    else
      none
noncomputable def G129x0 (v0 : Bool) (v1 : LD) : Option (Bool × LD) := F129x0 N v0 v1 (fun p => some p)
theorem bind129x0 (v0 : Bool) (v1 : LD) (k0 : Bool × LD → Option R) : F129x0 N v0 v1 k0 = (G129x0 N v0 v1).bind k0 := by
  unfold G129x0 F129x0
  repeat' (first | with_reducible apply cond_b | (with_reducible apply bnd_b; intro _) | rfl)
noncomputable def sh129x0 : Sh := { tmps := [(0, .c (.sl 5))], mem := [] }
noncomputable def A129x0 (L : List Lf) : List (Bool × Res) := bnd (F129x0 N (lb L 0) (ll L 1) (fun p => some p)) fun q => [(q.isSome, ([.c (.sl 5 (q.getD default).1 (q.getD default).2)], []))]
theorem raw129x0 (L : List Lf) : bd Try.prog (T134x0 N) (h129x0s0 N).h 129 sh129x0 L = F129x0 N (lb L 0) (ll L 1) (fun p => some ([.c (.sl 5 p.1 p.2)], [])) := by kernel_rfl
theorem ok129x0 : FnOk Try.prog 129 sh129x0 (A129x0 N) :=
  (h129x0s0 N).fn progOk (T134x0_ok N) fun L x hx => ((raw129x0 N L).trans ((bind129x0 N ..).trans (alt1 x hx)))
noncomputable def T129x0 : Oracle := ext 129 (spSh sh129x0 (A129x0 N)) (T134x0 N)
theorem T129x0_ok : OracleOk Try.prog (T129x0 N) := FnOk.to (ok129x0 N) (T134x0_ok N)
noncomputable def rg133x0 : List (Nat × List Nat) := [(0, [0, 1, 2]), (1, [0, 1, 2, 3]), (2, [0, 1, 2, 6, 3]), (3, [7, 2, 0, 6, 3]), (4, [7, 8, 2, 0, 6, 3]), (6, [9, 8, 2, 0, 6, 3, 7]), (8, [9, 8, 2, 0, 6, 3, 7]), (10, [9, 8, 7, 2, 6, 0, 3]), (5, [8, 6, 3]), (11, [9, 8, 7, 2, 6, 0, 3]), (12, [7, 8, 2, 6, 0, 3]), (13, [10, 7, 8, 2, 6, 0, 3]), (14, [7, 11, 8, 2, 6, 0, 10, 3]), (15, [7, 11, 8, 2, 6, 0, 10, 3]), (16, [62, 61, 7, 11, 8, 2, 6, 0, 10, 3]), (17, [7, 11, 62, 61, 8, 2, 6, 0, 10, 3]), (18, [11, 12, 62, 61, 7, 8, 2, 6, 0, 10, 3]), (19, [62, 61, 7, 11, 8, 2, 6, 0, 10, 3]), (20, [11, 8, 2, 6, 0, 10, 3]), (21, [8, 11, 2, 6, 0, 10, 3]), (22, [8, 6, 0, 10, 3]), (9, [9, 8, 2, 0, 6, 3, 7]), (7, [9, 8, 2, 0, 6, 3, 7]), (23, [8, 2, 0, 6, 3, 7]), (24, [8, 0, 13, 6, 3, 7]), (25, [0, 13, 14, 8, 6, 3, 7]), (26, [8, 6, 3]), (27, [13, 14, 7, 8, 6, 0, 3]), (28, [14, 15, 7, 8, 6, 0, 3]), (29, [15, 7, 8, 6, 0, 3]), (30, [7, 15, 8, 6, 0, 3]), (31, [8, 6, 0, 3])]
noncomputable def hd133x0 : Hints := [(48, [62, 61, 7, 11, 8, 2, 6, 0, 10, 3], [14, 11, 1, 6, 2, 0, 50014005], [50014002]), (24023, [9, 8, 2, 0, 6, 3, 7, 25], [11, 1, 6, 2, 0], []), (89, [15, 7, 8, 6, 0, 3, 127], [2, 11, 1, 6, 0], [])]
noncomputable def h133x0s0 (N : Nat) : Sg Try.prog 3 133 := .start hd133x0 rg133x0
noncomputable def S133x0x48 (w2 : Int) (w5 : Bool) (w6 : LD) (w3 w4 : Int) (w24 : Bool) (w25 : LD) (kr : Int → Int → Bool → LD → Option R) (k0 : Int × Bool × LD → Option R) : Option R :=
  bif (decide (w3 < w2)) then
    bnd (G134x0 N 3 w4 w5 w6) fun y0 =>
    bif y0.isSome then
      bif (inB 0 (y0.getD default).2.1.length) then
        bnd (IntKind.wrap .i64 ((y0.getD default).2.1.getD 0 (.i 0)).toI) fun y1 =>
        bif (inB 1 (y0.getD default).2.1.length) then
          bnd (IntKind.wrap .i64 ((y0.getD default).2.1.getD 1 (.i 0)).toI) fun y2 =>
          bif (inB 2 (y0.getD default).2.1.length) then
            bnd (IntKind.wrap .i64 ((y0.getD default).2.1.getD 2 (.i 0)).toI) fun y3 =>
            bif (decide ((w25.length + 1) * 24 ≤ room) && decide ((w25.length + 1) ≤ strMax)) then
              bnd ((w25 ++ [(.a [(.i y1), (.i y2), (.i y3)])]) : List D) fun y4 =>
              kr (IntKind.wrap .u8 (w3 + 1)) (y0.getD default).2.2 false y4
            else
              none
          else
            none
        else
          none
      else
        none
    else
      none
  else
    k0 (w4, w24, w25)
noncomputable def L133x0x48 (N : Nat) {R : Type} (w2 : Int) (w5 : Bool) (w6 : LD) : Nat → Int → Int → Bool → LD → (Int × Bool × LD → Option R) → Option R
  | 0, _, _, _, _, _ => none
  | m + 1, w3, w4, w24, w25, k0 => S133x0x48 N w2 w5 w6 w3 w4 w24 w25 (fun w3 w4 w24 w25 => L133x0x48 N w2 w5 w6 m w3 w4 w24 w25 k0) k0
noncomputable def G133x0x48 (w2 : Int) (w5 : Bool) (w6 : LD) (w3 w4 : Int) (w24 : Bool) (w25 : LD) : Option (Int × Bool × LD) := L133x0x48 N (R := (Int × Bool × LD)) w2 w5 w6 N w3 w4 w24 w25 (fun p => some p)
noncomputable def J133x0x48 (L x : List Lf) (kr : List Lf → Option R) (k0 : Int × Bool × LD → Option R) : Option R := S133x0x48 N (li L 2) (lb L 5) (ll L 6) (li x 0) (li x 1) (lb x 2) (ll x 3) (fun w3 w4 w24 w25 => kr [.i w3, .i w4, .b w24, .l w25]) k0
theorem sb133x0x48 (L x : List Lf) (kr : List Lf → Option R) (k0 : Int × Bool × LD → Option R) : J133x0x48 N L x kr k0 = (J133x0x48 N L x (fun y => some (.inl y)) (fun p => some (.inr p))).bind (sumE kr k0) := by
  unfold J133x0x48 S133x0x48
  repeat' (first | with_reducible apply cond_b | (with_reducible apply bnd_b; intro _) | rfl)
noncomputable def Q133x0x48 (L : List Lf) (m : Nat) (x : List Lf) : Option (Int × Bool × LD) := L133x0x48 N (R := (Int × Bool × LD)) (li L 2) (lb L 5) (ll L 6) m (li x 0) (li x 1) (lb x 2) (ll x 3) (fun p => some p)
noncomputable def sh133x0x48 : Sh := { tmps := [(0, .c (.p 0 0)), (2, .c (.p 2 0)), (3, .c (.p 6 0)), (6, .c (.i .i64)), (7, .c (.f 134 [(0, 0), (1, 0)])), (8, .c (.p 11 0)), (10, .c (.i .u8)), (11, .c (.p 14 0)), (61, .c (.i .u8)), (62, .c (.i .u8))], mem := [(0, .box ([.i .i64])), (1, .box ([.sl 5])), (2, .dat 114), (6, .box ([.i .i64, .i .i64, .i .i64, .sl 103, .sl 5])), (11, .box ([.i .i64, .i .i64, .i .i64, .sl 103, .sl 5])), (14, .box ([.b, .i .i64, .o 50014005])), (50014005, .row 146 true)] }
noncomputable def K133x0x48w0 (L : List Lf) (p : Int × Bool × LD) : Ex × St := ((.exit 1), mg (ofSh sh133x0x48 L) [0, 2, 3, 6, 7, 8, 10, 11] [] [0, 1, 2, 6, 11, 14, 50014005] [(0, .box [.i .i64 p.1]), (50014005, .row 146 true p.2.1 p.2.2)])
noncomputable def A133x0x48 (L : List Lf) : List (Bool × (Ex × St)) := bnd (Q133x0x48 N L N (pk sh133x0x48 [3, 4, 24, 25] L)) fun q => [(q.isSome, K133x0x48w0 L (q.getD default))]
theorem step133x0x48 (m : Nat) (kn : St → Option (Ex × St)) (L x : List Lf) : lpB Try.prog (T129x0 N) (h133x0s0 N).h 3 133 48 sh133x0x48 [3, 4, 24, 25] [3, 4, 5, 11, 8, 2, 6, 0, 10, 7] [50014005, 14, 11, 1, 6, 2, 0] (m + 100) kn L x = J133x0x48 N L x (fun y => kn (ofSh sh133x0x48 (mx sh133x0x48 [3, 4, 24, 25] L y))) (fun p => some (K133x0x48w0 L p)) := by kernel_rfl
theorem ql133x0x48 (L : List Lf) (m : Nat) (x : List Lf) : Q133x0x48 N L (m + 1) x = J133x0x48 N L x (Q133x0x48 N L m) some := by kernel_rfl
noncomputable def h133x0s1 : Sg Try.prog 3 133 :=
  (h133x0s0 N).lp (A133x0x48 N) N progOk (T129x0_ok N) (fun m kn L x => (step133x0x48 N m kn L x).trans (sb133x0x48 N L x _ _)) (fun L m x => (ql133x0x48 N L m x).trans (sb133x0x48 N L x (Q133x0x48 N L m) some)) fun L x hx => alt1 x hx
noncomputable def F133x0x24023 (w1 : Int) (w2 : Bool) (w3 : Int) (w4 : Bool) (w5 : LD) (w6 : D) (k0 : Int × Int × Int → Option R) (k1 : Bool × Int × D × Int × Int × LD → Option R) (k2 : Unit → Option R) : Option R :=
  bif w2 then
    k0 (3, (IntKind.wrap .i64 ((IntKind.wrap .i64 (w1 - 128)).tdiv 32)), (w1.tmod 32))
  else
    bif (decide (w1 < 16)) then
      k0 (2, w1, 0)
    else
      bnd (V52x0 N w1 64 79) fun y0 =>
      bif y0 then
        bnd (G134x0 N 1 w3 w4 w5) fun y1 =>
        bif y1.isSome then
          bif (inB 0 (y1.getD default).2.1.length) then
            bnd (G134x0 N 2 (y1.getD default).2.2 w4 w5) fun y2 =>
            bif y2.isSome then
              bnd (G81x0 N (y2.getD default).2.1 (((y1.getD default).2.1.getD 0 (.i 0)).toI == 1)) fun y3 =>
              bif y3.isSome then
                bnd (G134x0 N 1 (y2.getD default).2.2 w4 w5) fun y4 =>
                bif y4.isSome then
                  bif (inB 0 (y4.getD default).2.1.length) then
                    bnd (G133x0x48 N ((y4.getD default).2.1.getD 0 (.i 0)).toI w4 w5 0 (y4.getD default).2.2 true []) fun y5 =>
                    bif y5.isSome then
                      bnd (G123x0 N (y5.getD default).2.2) fun y6 =>
                      bif y6.isSome then
                        bif (inB (IntKind.wrap .i64 (w1 - 64)) 16) then
                          bnd (((((((w6.put (0 + ((IntKind.wrap .i64 (w1 - 64)).toNat * 6)) (.b true)).put (1 + ((IntKind.wrap .i64 (w1 - 64)).toNat * 6)) (.b (((y1.getD default).2.1.getD 0 (.i 0)).toI == 1))).put (2 + ((IntKind.wrap .i64 (w1 - 64)).toNat * 6)) (.i (y3.getD default))).put (3 + ((IntKind.wrap .i64 (w1 - 64)).toNat * 6)) (.l (y5.getD default).2.1 (y5.getD default).2.2)).put (4 + ((IntKind.wrap .i64 (w1 - 64)).toNat * 6)) (.i (y6.getD default).1)).put (5 + ((IntKind.wrap .i64 (w1 - 64)).toNat * 6)) (.i (y6.getD default).2)) : D) fun y7 =>
                          bnd (bif (decide ((y5.getD default).1 ≥ 0)) then (decide (((y1.getD default).2.1.getD 0 (.i 0)).toI ≤ 1)) else false) fun y8 =>
                          k1 (y8, (y5.getD default).1, y7, (IntKind.wrap .i64 (w1 - 64)), (IntKind.wrap .i64 (w1 - 64)), [(.a [(.b (((y1.getD default).2.1.getD 0 (.i 0)).toI == 1)), (.i (y3.getD default)), (.l (y5.getD default).2.1 (y5.getD default).2.2)])])
                        else
                          none
                      else
                        none
                    else
                      none
                  else
                    none
                else
                  none
              else
                none
            else
              none
          else
            none
        else
          none
      else
        k2 ()
noncomputable def G133x0x24023 (w1 : Int) (w2 : Bool) (w3 : Int) (w4 : Bool) (w5 : LD) (w6 : D) : Option (Sum (Int × Int × Int) (Sum (Bool × Int × D × Int × Int × LD) (Unit))) := F133x0x24023 N w1 w2 w3 w4 w5 w6 (fun p => some (.inl p)) (fun p => some (.inr (.inl p))) (fun p => some (.inr (.inr p)))
theorem bind133x0x24023 (w1 : Int) (w2 : Bool) (w3 : Int) (w4 : Bool) (w5 : LD) (w6 : D) (k0 : Int × Int × Int → Option R) (k1 : Bool × Int × D × Int × Int × LD → Option R) (k2 : Unit → Option R) : F133x0x24023 N w1 w2 w3 w4 w5 w6 k0 k1 k2 = (G133x0x24023 N w1 w2 w3 w4 w5 w6).bind (sumE k0 (sumE k1 k2)) := by
  unfold G133x0x24023 F133x0x24023
  repeat' (first | with_reducible apply cond_b | (with_reducible apply bnd_b; intro _) | rfl)
noncomputable def J133x0x24023 (L : List Lf) (k0 : Int × Int × Int → Option R) (k1 : Bool × Int × D × Int × Int × LD → Option R) (k2 : Unit → Option R) : Option R := F133x0x24023 N (li L 1) (lb L 2) (li L 3) (lb L 4) (ll L 5) (ld L 6) k0 k1 k2
noncomputable def sh133x0x24023 : Sh := { tmps := [(0, .c (.p 0 0)), (2, .c (.p 2 0)), (3, .c (.p 6 0)), (6, .c (.i .i64)), (7, .c (.f 134 [(0, 0), (1, 0)])), (8, .c (.p 11 0)), (9, .c (.i .i64)), (25, .c (.b))], mem := [(0, .box ([.i .i64])), (1, .box ([.sl 5])), (2, .dat 114), (6, .box ([.i .i64, .i .i64, .i .i64, .sl 103, .sl 5])), (11, .box ([.i .i64, .i .i64, .i .i64, .sl 103, .sl 5]))] }
noncomputable def K133x0x24023w0 (L : List Lf) (p : Int × Int × Int) : Ex × St := (.normal, mg (ofSh sh133x0x24023 L) [0, 2, 3, 6, 7, 8] [] [0, 1, 2, 6, 11] [(11, .box [.i .i64 p.1, .i .i64 p.2.1, .i .i64 p.2.2, .sl 103 true [], .sl 5 true []])])
noncomputable def K133x0x24023w1 (L : List Lf) (p : Bool × Int × D × Int × Int × LD) : Ex × St := let p1 := p.2; let p2 := p1.2; let p3 := p2.2; let p4 := p3.2; let p5 := p4.2; (.ret, mg (ofSh sh133x0x24023 L) [0, 3, 4, 5, 6, 8] [(4, .c (.i .i64 (li L 0))), (5, .c (.b p.1))] [0, 1, 2, 6, 11, 89] [(0, .box [.i .i64 p1.1]), (2, .dat 114 p2.1), (6, .box [.i .i64 1, .i .i64 p3.1, .i .i64 0, .o 89, .sl 5 true []]), (11, .box [.i .i64 1, .i .i64 p4.1, .i .i64 0, .o 89, .sl 5 true []]), (89, .row 103 true false p5)])
noncomputable def K133x0x24023w2 (L : List Lf) (_ : Unit) : Ex × St := (.ret, mg (ofSh sh133x0x24023 L) [3, 4, 5, 6, 8] [(4, .c (.i .i64 (li L 0))), (5, .c (.b false))] [0, 1, 2, 6, 11] [(6, .box [.i .i64 (li L 14), .i .i64 (li L 15), .i .i64 (li L 16), .sl 103 (lb L 17) (ll L 18), .sl 5 (lb L 19) (ll L 20)])])
noncomputable def A133x0x24023 (L : List Lf) : List (Bool × (Ex × St)) := bnd (J133x0x24023 N L (fun p => some (.inl p)) (fun p => some (.inr (.inl p))) (fun p => some (.inr (.inr p)))) fun q => [((inlB q), K133x0x24023w0 L (inlV q)), ((inlB (inrQ q)), K133x0x24023w1 L (inlV (inrQ q))), ((inrQ (inrQ q)).isSome, K133x0x24023w2 L ())]
theorem raw133x0x24023 (L : List Lf) : pc Try.prog (T129x0 N) (h133x0s1 N).h 3 100 133 24023 sh133x0x24023 L [8, 2, 0, 6, 3, 7, 4, 5] [11, 1, 6, 2, 0, 89] = J133x0x24023 N L (fun p => some (K133x0x24023w0 L p)) (fun p => some (K133x0x24023w1 L p)) (fun _ => some (K133x0x24023w2 L ())) := by kernel_rfl
noncomputable def h133x0s2 : Sg Try.prog 3 133 :=
  (h133x0s1 N).cut (A133x0x24023 N) progOk (T129x0_ok N) fun L x hx => (raw133x0x24023 N L).trans ((bind133x0x24023 N ..).trans ((altS (altS alt1)) x hx))
noncomputable def F133x0x89 (N : Nat) (w1 : Int) (w2 : Bool) (k0 : Int → R) : R :=
  bif w2 then
    k0 (IntKind.wrap .i64 (w1 - 4))
  else
    k0 w1
noncomputable def V133x0x89 (w1 : Int) (w2 : Bool) : Int := F133x0x89 N w1 w2 (fun p => p)
theorem tot133x0x89 (w1 : Int) (w2 : Bool) (k0 : Int → R) : F133x0x89 N w1 w2 k0 = k0 (V133x0x89 N w1 w2) := by
  unfold V133x0x89 F133x0x89
  repeat' (first | rfl | apply cond_k | (apply bnd_k; intro _))
noncomputable def sh133x0x89 : Sh := { tmps := [(0, .c (.p 0 0)), (3, .c (.p 6 0)), (6, .c (.i .i64)), (7, .c (.f 134 [(0, 0), (1, 0)])), (8, .c (.p 11 0)), (15, .c (.i .i64)), (127, .c (.b))], mem := [(0, .box ([.i .i64])), (1, .box ([.sl 5])), (2, .dat 114), (6, .box ([.i .i64, .i .i64, .i .i64, .sl 103, .sl 5])), (11, .box ([.i .i64, .i .i64, .i .i64, .sl 103, .sl 5]))] }
noncomputable def K133x0x89w0 (L : List Lf) (p : Int) : Ex × St := (.normal, mg (ofSh sh133x0x89 L) [0, 3, 6, 7, 8, 15] [(15, .c (.i .i64 p))] [0, 1, 2, 6, 11] [])
noncomputable def A133x0x89 (L : List Lf) : List (Bool × (Ex × St)) := bnd (F133x0x89 N (li L 1) (lb L 2) (fun p => p)) fun q => [(true, K133x0x89w0 L q)]
theorem raw133x0x89 (L : List Lf) : pc Try.prog (T129x0 N) (h133x0s2 N).h 3 100 133 89 sh133x0x89 L [7, 15, 8, 6, 0, 3] [2, 11, 1, 6, 0] = F133x0x89 N (li L 1) (lb L 2) (fun p => some (K133x0x89w0 L p)) := by kernel_rfl
noncomputable def h133x0s3 : Sg Try.prog 3 133 :=
  (h133x0s2 N).cut (A133x0x89 N) progOk (T129x0_ok N) fun L x hx => (raw133x0x89 N L).trans ((tot133x0x89 N ..).trans (alt0 _ _ hx))
noncomputable def F133x0 (v0 : Int) (v1 : Bool) (v2 : LD) (v3 : D) (k0 : Ty0 → Option R) : Option R :=
  bnd (G134x0 N 1 v0 v1 v2) fun y0 =>
  bif y0.isSome then
    bif (inB 0 (y0.getD default).2.1.length) then
      bnd (IntKind.wrap .i64 ((y0.getD default).2.1.getD 0 (.i 0)).toI) fun y1 =>
      bnd (G133x0x24023 N y1 (decide (y1 ≥ 128)) (y0.getD default).2.2 v1 v2 v3) fun y2 =>
      bif (inlB y2) then
        bif (inB (inlV y2).2.1 16) then
          bnd (bif (decide ((y0.getD default).2.2 < 0)) then true else (!(v3.cell (0 + ((inlV y2).2.1.toNat * 6))).toB)) fun y3 =>
          bnd (bif y3 then true else (bif ((inlV y2).1 == 3) then (decide ((v3.cell (5 + ((inlV y2).2.1.toNat * 6))).toI < 0)) else false)) fun y4 =>
          bif y4 then
            k0 ((inlV y2).1, (inlV y2).2.1, (inlV y2).2.2, true, [], true, [], false, (y0.getD default).2.2, v3)
          else
            bnd (V133x0x89 N (v3.cell (4 + ((inlV y2).2.1.toNat * 6))).toI ((inlV y2).1 == 3)) fun y5 =>
            bnd (G134x0 N y5 (y0.getD default).2.2 v1 v2) fun y6 =>
            bif y6.isSome then
              bnd (G129x0 N (y6.getD default).1 (y6.getD default).2.1) fun y7 =>
              bif y7.isSome then
                k0 ((inlV y2).1, (inlV y2).2.1, (inlV y2).2.2, true, [], (y7.getD default).1, (y7.getD default).2, (decide ((y6.getD default).2.2 ≥ 0)), (y6.getD default).2.2, v3)
              else
                none
            else
              none
        else
          none
      else
        bif (inlB (inrQ y2)) then
          k0 (1, (inlV (inrQ y2)).2.2.2.1, 0, false, (inlV (inrQ y2)).2.2.2.2.2, true, [], (inlV (inrQ y2)).1, (inlV (inrQ y2)).2.1, (inlV (inrQ y2)).2.2.1)
        else
          bif (inrQ (inrQ y2)).isSome then
            k0 (0, 0, 0, true, [], true, [], false, (y0.getD default).2.2, v3)
          else
            none
    else
      none
  else
    none
noncomputable def G133x0 (v0 : Int) (v1 : Bool) (v2 : LD) (v3 : D) : Option (Ty0) := F133x0 N v0 v1 v2 v3 (fun p => some p)
theorem bind133x0 (v0 : Int) (v1 : Bool) (v2 : LD) (v3 : D) (k0 : Ty0 → Option R) : F133x0 N v0 v1 v2 v3 k0 = (G133x0 N v0 v1 v2 v3).bind k0 := by
  unfold G133x0 F133x0
  repeat' (first | with_reducible apply cond_b | (with_reducible apply bnd_b; intro _) | rfl)
noncomputable def J133x0 (L : List Lf) (k0 : Ty0 → Option R) : Option R := F133x0 N (li L 0) (lb L 1) (ll L 2) (ld L 3) k0
noncomputable def sh133x0 : Sh := { tmps := [(0, .c (.p 0 0)), (1, .c (.p 1 0)), (2, .c (.p 2 0))], mem := [(0, .box ([.i .i64])), (1, .box ([.sl 5])), (2, .dat 114)] }
noncomputable def K133x0w0 (L : List Lf) (p : Ty0) : Res := let p1 := p.2; let p2 := p1.2; let p3 := p2.2; let p4 := p3.2; let p5 := p4.2; let p6 := p5.2; let p7 := p6.2; let p8 := p7.2; let p9 := p8.2; ([.g [.i .i64 p.1, .i .i64 p1.1, .i .i64 p2.1, .sl 103 p3.1 p4.1, .sl 5 p5.1 p6.1], .c (.i .i64 (li L 0)), .c (.b p7.1)], mgA (ofSh sh133x0 L).mem [(0, .box [.i .i64 p8.1]), (2, .dat 114 p9)] [0, 1, 2])
noncomputable def A133x0 (L : List Lf) : List (Bool × Res) := bnd (J133x0 N L (fun p => some p)) fun q => [(q.isSome, K133x0w0 L (q.getD default))]
theorem raw133x0 (L : List Lf) : bd Try.prog (T129x0 N) (h133x0s3 N).h 133 sh133x0 L = J133x0 N L (fun p => some (K133x0w0 L p)) := by kernel_rfl
theorem ok133x0 : FnOk Try.prog 133 sh133x0 (A133x0 N) :=
  (h133x0s3 N).fn progOk (T129x0_ok N) fun L x hx => ((raw133x0 N L).trans ((bind133x0 N ..).trans (alt1 x hx)))
noncomputable def T133x0 : Oracle := ext 133 (spSh sh133x0 (A133x0 N)) (T129x0 N)
theorem T133x0_ok : OracleOk Try.prog (T133x0 N) := FnOk.to (ok133x0 N) (T129x0_ok N)
noncomputable def rg35x0 : List (Nat × List Nat) := [(0, [0]), (1, [0, 2]), (3, [0, 2]), (5, [0, 2]), (6, [2]), (4, [2]), (2, [2]), (7, [0, 2]), (8, [0, 2, 5]), (9, [6, 2, 5]), (10, [6, 7, 2, 5]), (11, [8, 6, 7, 2, 5]), (12, [7, 2, 5, 8, 6]), (13, [11, 10, 2, 5, 9, 8, 6, 7]), (14, [10, 2]), (15, [5, 9, 8, 6, 7, 2]), (16, [8, 9, 6, 7, 2, 5]), (17, [5, 2]), (18, [12, 2, 5]), (19, [12, 2]), (20, [5, 2])]
noncomputable def hd35x0 : Hints := [(10, [0, 2], [2], []), (33, [8, 6, 7, 2, 5], [61000000004, 61000000001, 61000000003, 5, 2, 50005000], [50005000])]
noncomputable def h35x0s0 (N : Nat) : Sg Try.prog 0 35 := .start hd35x0 rg35x0
noncomputable def F35x0x10 (w1 : LD) (k0 : Bool → Option R) : Option R :=
  bif (decide ((w1.length : Int) < 12)) then
    k0 true
  else
    bif (decide (4 ≤ (w1.length : Int))) then
      bnd (!((strD ((w1.take 4).drop 0)) == ([72, 65, 82, 49] : List UInt8))) fun y0 =>
      bif y0 then
        k0 true
      else
        bif (decide (8 ≤ (w1.length : Int))) then
          bnd (G81x0 N ((w1.take 8).drop 4) true) fun y1 =>
          bif y1.isSome then
            bnd (IntKind.wrap .i64 ((IntKind.wrap .i64 ((w1.length : Int) - 8)) - 4)) fun y2 =>
            k0 ((y1.getD default) != y2)
          else
            none
        else
          none
    else
      none
noncomputable def G35x0x10 (w1 : LD) : Option (Bool) := F35x0x10 N w1 (fun p => some p)
theorem bind35x0x10 (w1 : LD) (k0 : Bool → Option R) : F35x0x10 N w1 k0 = (G35x0x10 N w1).bind k0 := by
  unfold G35x0x10 F35x0x10
  repeat' (first | with_reducible apply cond_b | (with_reducible apply bnd_b; intro _) | rfl)
noncomputable def sh35x0x10 : Sh := { tmps := [(0, .c (.sl 5)), (2, .c (.p 2 0))], mem := [(2, .box ([.sl 53]))] }
noncomputable def K35x0x10w0 (L : List Lf) (p : Bool) : Ex × St := (.normal, mg (ofSh sh35x0x10 L) [0, 2, 18] [(18, .c (.b p))] [2] [])
noncomputable def A35x0x10 (L : List Lf) : List (Bool × (Ex × St)) := bnd (F35x0x10 N (ll L 1) (fun p => some p)) fun q => [(q.isSome, K35x0x10w0 L (q.getD default))]
theorem raw35x0x10 (L : List Lf) : pc Try.prog (T133x0 N) (h35x0s0 N).h 0 100 35 10 sh35x0x10 L [2, 0, 18] [2] = F35x0x10 N (ll L 1) (fun p => some (K35x0x10w0 L p)) := by kernel_rfl
noncomputable def h35x0s1 : Sg Try.prog 0 35 :=
  (h35x0s0 N).cut (A35x0x10 N) progOk (T133x0_ok N) fun L x hx => (raw35x0x10 N L).trans ((bind35x0x10 N ..).trans (alt1 x hx))
noncomputable def S35x0x33 (w1 : LD) (w7 : Bool) (w8 : LD) (w2 : Int) (w5 : Bool) (w6 : LD) (w9 : Int) (w10 : D) (kr : Int → Bool → LD → Int → D → Option R) (k0 : Int × Bool × LD → Option R) (k1 : Bool × LD → Option R) : Option R :=
  bif (decide (w2 < (w1.length : Int))) then
    bnd (G133x0 N w9 w7 w8 w10) fun y0 =>
    bif y0.isSome then
      bif (!(y0.getD default).2.2.2.2.2.2.2.1) then
        k0 ((IntKind.wrap .i64 (8 + w9)), w5, w6)
      else
        bif (decide ((w6.length + 1) * 72 ≤ room) && decide ((w6.length + 1) ≤ strMax)) then
          bnd ((w6 ++ [(.a [(.i (y0.getD default).1), (.i (y0.getD default).2.1), (.i (y0.getD default).2.2.1), (.l (y0.getD default).2.2.2.1 (y0.getD default).2.2.2.2.1), (.l (y0.getD default).2.2.2.2.2.1 (y0.getD default).2.2.2.2.2.2.1)])]) : List D) fun y1 =>
          bnd (G65x0 N (y0.getD default).1 (y0.getD default).2.1 (y0.getD default).2.2.1 (y0.getD default).2.2.2.2.1 (y0.getD default).2.2.2.2.2.2.1) fun y2 =>
          bif y2.isSome then
            bnd (IntKind.wrap .i64 (w2 + ((y2.getD default).2.length : Int))) fun y3 =>
            kr y3 false y1 (y0.getD default).2.2.2.2.2.2.2.2.1 (y0.getD default).2.2.2.2.2.2.2.2.2
          else
            none
        else
          none
    else
      none
  else
    k1 (w5, w6)
noncomputable def L35x0x33 (N : Nat) {R : Type} (w1 : LD) (w7 : Bool) (w8 : LD) : Nat → Int → Bool → LD → Int → D → (Int × Bool × LD → Option R) → (Bool × LD → Option R) → Option R
  | 0, _, _, _, _, _, _, _ => none
  | m + 1, w2, w5, w6, w9, w10, k0, k1 => S35x0x33 N w1 w7 w8 w2 w5 w6 w9 w10 (fun w2 w5 w6 w9 w10 => L35x0x33 N w1 w7 w8 m w2 w5 w6 w9 w10 k0 k1) k0 k1
noncomputable def G35x0x33 (w1 : LD) (w7 : Bool) (w8 : LD) (w2 : Int) (w5 : Bool) (w6 : LD) (w9 : Int) (w10 : D) : Option (Sum (Int × Bool × LD) (Bool × LD)) := L35x0x33 N (R := (Sum (Int × Bool × LD) (Bool × LD))) w1 w7 w8 N w2 w5 w6 w9 w10 (fun p => some (.inl p)) (fun p => some (.inr p))
noncomputable def J35x0x33 (L x : List Lf) (kr : List Lf → Option R) (k0 : Int × Bool × LD → Option R) (k1 : Bool × LD → Option R) : Option R := S35x0x33 N (ll L 1) (lb L 7) (ll L 8) (li x 0) (lb x 1) (ll x 2) (li x 3) (ld x 4) (fun w2 w5 w6 w9 w10 => kr [.i w2, .b w5, .l w6, .i w9, .d w10]) k0 k1
theorem sb35x0x33 (L x : List Lf) (kr : List Lf → Option R) (k0 : Int × Bool × LD → Option R) (k1 : Bool × LD → Option R) : J35x0x33 N L x kr k0 k1 = (J35x0x33 N L x (fun y => some (.inl y)) (fun p => some (.inr (.inl p))) (fun p => some (.inr (.inr p)))).bind (sumE kr (sumE k0 k1)) := by
  unfold J35x0x33 S35x0x33
  repeat' (first | with_reducible apply cond_b | (with_reducible apply bnd_b; intro _) | rfl)
noncomputable def Q35x0x33 (L : List Lf) (m : Nat) (x : List Lf) : Option (Sum (Int × Bool × LD) (Bool × LD)) := L35x0x33 N (R := (Sum (Int × Bool × LD) (Bool × LD))) (ll L 1) (lb L 7) (ll L 8) m (li x 0) (lb x 1) (ll x 2) (li x 3) (ld x 4) (fun p => some (.inl p)) (fun p => some (.inr p))
noncomputable def sh35x0x33 : Sh := { tmps := [(2, .c (.p 2 0)), (5, .c (.p 5 0)), (6, .c (.sl 5)), (7, .c (.f 133 [(61000000003, 0), (61000000001, 0), (61000000004, 0)])), (8, .c (.i .i64))], mem := [(2, .box ([.sl 53])), (5, .box ([.o 50005000])), (50005000, .row 53 true), (61000000001, .box ([.sl 5])), (61000000003, .box ([.i .i64])), (61000000004, .dat 114)] }
noncomputable def K35x0x33w0 (L : List Lf) (p : Int × Bool × LD) : Ex × St := (.ret, ⟨[(2, .c (.p 2 0)), (3, .c (.i .i64 p.1)), (4, .c (.i .i64 6))], [(2, .box [.sl 53 true []]), (5, .box [.o 50005000]), (50005000, .row 53 true p.2.1 p.2.2)]⟩)
noncomputable def K35x0x33w1 (L : List Lf) (p : Bool × LD) : Ex × St := ((.exit 1), mg (ofSh sh35x0x33 L) [2, 5] [] [2, 5, 50005000] [(50005000, .row 53 true p.1 p.2)])
noncomputable def A35x0x33 (L : List Lf) : List (Bool × (Ex × St)) := bnd (Q35x0x33 N L N (pk sh35x0x33 [2, 5, 6, 9, 10] L)) fun q => [((inlB q), K35x0x33w0 L (inlV q)), ((inrQ q).isSome, K35x0x33w1 L ((inrQ q).getD default))]
theorem step35x0x33 (m : Nat) (kn : St → Option (Ex × St)) (L x : List Lf) : lpB Try.prog (T133x0 N) (h35x0s1 N).h 0 35 33 sh35x0x33 [2, 5, 6, 9, 10] [2, 3, 4, 5] [2, 50005000, 5] (m + 100) kn L x = J35x0x33 N L x (fun y => kn (ofSh sh35x0x33 (mx sh35x0x33 [2, 5, 6, 9, 10] L y))) (fun p => some (K35x0x33w0 L p)) (fun p => some (K35x0x33w1 L p)) := by kernel_rfl
theorem ql35x0x33 (L : List Lf) (m : Nat) (x : List Lf) : Q35x0x33 N L (m + 1) x = J35x0x33 N L x (Q35x0x33 N L m) (fun p => some (.inl p)) (fun p => some (.inr p)) := by kernel_rfl
noncomputable def h35x0s2 : Sg Try.prog 0 35 :=
  (h35x0s1 N).lp (A35x0x33 N) N progOk (T133x0_ok N) (fun m kn L x => (step35x0x33 N m kn L x).trans (sb35x0x33 N L x _ _ _)) (fun L m x => (ql35x0x33 N L m x).trans (sb35x0x33 N L x (Q35x0x33 N L m) (fun p => some (.inl p)) (fun p => some (.inr p)))) fun L x hx => (altS alt1) x hx
noncomputable def F35x0 (v0 : Bool) (v1 : LD) (k0 : Bool × LD × Int × Int → Option R) : Option R :=
  bif (decide ((v1.length : Int) > 4000000)) then
    k0 (true, [], 0, 3)
  else
    bnd (G35x0x10 N v1) fun y0 =>
    bif y0.isSome then
      bif (y0.getD default) then
        k0 (true, [], 0, 6)
      else
        bif ((decide (0 ≤ (IntKind.wrap .i64 ((v1.length : Int) - 4)))) && (decide ((IntKind.wrap .i64 ((v1.length : Int) - 4)) ≤ (v1.length : Int)))) then
          bnd (((v1.take (IntKind.wrap .i64 ((v1.length : Int) - 4)).toNat).drop 0) : List D) fun y1 =>
          bnd (G39x0 N y1) fun y2 =>
          bif y2.isSome then
            bif (((decide (0 ≤ (IntKind.wrap .i64 ((v1.length : Int) - 4)))) && (decide ((IntKind.wrap .i64 ((v1.length : Int) - 4)) ≤ (v1.length : Int)))) && (decide ((v1.length : Int) ≤ (v1.length : Int)))) then
              bnd (((v1.take (v1.length : Int).toNat).drop (IntKind.wrap .i64 ((v1.length : Int) - 4)).toNat) : List D) fun y3 =>
              bnd (G81x0 N y3 true) fun y4 =>
              bif y4.isSome then
                bif ((y2.getD default) != (y4.getD default)) then
                  k0 (true, [], 0, 1)
                else
                  bif ((decide (8 ≤ (IntKind.wrap .i64 ((v1.length : Int) - 4)))) && (decide ((IntKind.wrap .i64 ((v1.length : Int) - 4)) ≤ (v1.length : Int)))) then
                    bnd (((v1.take (IntKind.wrap .i64 ((v1.length : Int) - 4)).toNat).drop 8) : List D) fun y5 =>
                    bnd (V82x0 N) fun y6 =>
                    bnd (G35x0x33 N y5 v0 y5 0 true [] 0 y6) fun y7 =>
                    bif (inlB y7) then
                      k0 (true, [], (inlV y7).1, 6)
                    else
                      bif (inrQ y7).isSome then
                        bnd (G22x0 N ((inrQ y7).getD default).2) fun y8 =>
                        bif y8.isSome then
                          bif ((y8.getD default) != 0) then
                            k0 (true, [], 0, (y8.getD default))
                          else
                            k0 (((inrQ y7).getD default).1, ((inrQ y7).getD default).2, 0, 0)
                        else
                          none
                      else
                        none
                  else
                    none
              else
                none
            else
              none
          else
            none
        else
          none
    else
      none
noncomputable def G35x0 (v0 : Bool) (v1 : LD) : Option (Bool × LD × Int × Int) := F35x0 N v0 v1 (fun p => some p)
theorem bind35x0 (v0 : Bool) (v1 : LD) (k0 : Bool × LD × Int × Int → Option R) : F35x0 N v0 v1 k0 = (G35x0 N v0 v1).bind k0 := by
  unfold G35x0 F35x0
  repeat' (first | with_reducible apply cond_b | (with_reducible apply bnd_b; intro _) | rfl)
noncomputable def sh35x0 : Sh := { tmps := [(0, .c (.sl 5))], mem := [] }
noncomputable def K35x0w0 (L : List Lf) (p : Bool × LD × Int × Int) : Res := ([.g [.sl 53 p.1 p.2.1], .c (.i .i64 p.2.2.1), .c (.i .i64 p.2.2.2)], [])
noncomputable def A35x0 (L : List Lf) : List (Bool × Res) := bnd (F35x0 N (lb L 0) (ll L 1) (fun p => some p)) fun q => [(q.isSome, K35x0w0 L (q.getD default))]
theorem raw35x0 (L : List Lf) : bd Try.prog (T133x0 N) (h35x0s2 N).h 35 sh35x0 L = F35x0 N (lb L 0) (ll L 1) (fun p => some (K35x0w0 L p)) := by kernel_rfl
theorem ok35x0 : FnOk Try.prog 35 sh35x0 (A35x0 N) :=
  (h35x0s2 N).fn progOk (T133x0_ok N) fun L x hx => ((raw35x0 N L).trans ((bind35x0 N ..).trans (alt1 x hx)))
noncomputable def T35x0 : Oracle := ext 35 (spSh sh35x0 (A35x0 N)) (T133x0 N)
theorem T35x0_ok : OracleOk Try.prog (T35x0 N) := FnOk.to (ok35x0 N) (T133x0_ok N)
noncomputable def rg140x0 : List (Nat × List Nat) := [(0, [0, 1]), (1, [0, 1]), (2, []), (3, [0, 1]), (4, [13, 12, 0, 1]), (5, [13, 0, 1, 12]), (6, [0, 5, 1, 13, 12]), (7, []), (8, [13, 12, 0, 1]), (9, [])]
noncomputable def hd140x0 : Hints := [(12, [13, 12, 0, 1], [], [])]
noncomputable def h140x0s0 (N : Nat) : Sg Try.prog 0 140 := .start hd140x0 rg140x0
noncomputable def S140x0x12 (N : Nat) (w1 w3 : LD) (w4 : Int) (w5 : Int) (kr : Int → Option R) (k0 : Unit → Option R) (k1 : Unit → Option R) : Option R :=
  bif (decide (w5 < w4)) then
    bif (inB w5 w1.length) then
      bif (inB w5 w3.length) then
        bnd (!((((w1.getD w5.toNat (.i 0)).cell 0).toI == ((w3.getD w5.toNat (.i 0)).cell 0).toI) && ((((w1.getD w5.toNat (.i 0)).cell 1).toI == ((w3.getD w5.toNat (.i 0)).cell 1).toI) && ((((w1.getD w5.toNat (.i 0)).cell 2).toI == ((w3.getD w5.toNat (.i 0)).cell 2).toI) && true)))) fun y0 =>
        bif y0 then
          k0 ()
        else
          kr (IntKind.wrap .i64 (w5 + 1))
      else
        none
    else
      none
  else
    k1 ()
noncomputable def L140x0x12 (N : Nat) {R : Type} (w1 w3 : LD) (w4 : Int) : Nat → Int → (Unit → Option R) → (Unit → Option R) → Option R
  | 0, _, _, _ => none
  | m + 1, w5, k0, k1 => S140x0x12 N w1 w3 w4 w5 (fun w5 => L140x0x12 N w1 w3 w4 m w5 k0 k1) k0 k1
noncomputable def G140x0x12 (w1 w3 : LD) (w4 : Int) (w5 : Int) : Option (Sum (Unit) (Unit)) := L140x0x12 N (R := (Sum (Unit) (Unit))) w1 w3 w4 N w5 (fun p => some (.inl p)) (fun p => some (.inr p))
noncomputable def J140x0x12 (L x : List Lf) (kr : List Lf → Option R) (k0 : Unit → Option R) (k1 : Unit → Option R) : Option R := S140x0x12 N (ll L 1) (ll L 3) (li L 4) (li x 0) (fun w5 => kr [.i w5]) k0 k1
theorem sb140x0x12 (L x : List Lf) (kr : List Lf → Option R) (k0 : Unit → Option R) (k1 : Unit → Option R) : J140x0x12 N L x kr k0 k1 = (J140x0x12 N L x (fun y => some (.inl y)) (fun p => some (.inr (.inl p))) (fun p => some (.inr (.inr p)))).bind (sumE kr (sumE k0 k1)) := by
  unfold J140x0x12 S140x0x12
  repeat' (first | with_reducible apply cond_b | (with_reducible apply bnd_b; intro _) | rfl)
noncomputable def Q140x0x12 (L : List Lf) (m : Nat) (x : List Lf) : Option (Sum (Unit) (Unit)) := L140x0x12 N (R := (Sum (Unit) (Unit))) (ll L 1) (ll L 3) (li L 4) m (li x 0) (fun p => some (.inl p)) (fun p => some (.inr p))
noncomputable def sh140x0x12 : Sh := { tmps := [(0, .c (.sl 146)), (1, .c (.sl 146)), (12, .c (.i .i64)), (13, .c (.i .i64))], mem := [] }
noncomputable def A140x0x12 (L : List Lf) : List (Bool × (Ex × St)) := bnd (Q140x0x12 N L N (pk sh140x0x12 [5] L)) fun q => [((inlB q), (.ret, ⟨[(4, .c (.b false))], []⟩)), ((inrQ q).isSome, ((.exit 0), ⟨[], []⟩))]
theorem step140x0x12 (m : Nat) (kn : St → Option (Ex × St)) (L x : List Lf) : lpB Try.prog (T35x0 N) (h140x0s0 N).h 0 140 12 sh140x0x12 [5] [4] [] (m + 100) kn L x = J140x0x12 N L x (fun y => kn (ofSh sh140x0x12 (mx sh140x0x12 [5] L y))) (fun _ => some (.ret, ⟨[(4, .c (.b false))], []⟩)) (fun _ => some ((.exit 0), ⟨[], []⟩)) := by kernel_rfl
theorem ql140x0x12 (L : List Lf) (m : Nat) (x : List Lf) : Q140x0x12 N L (m + 1) x = J140x0x12 N L x (Q140x0x12 N L m) (fun p => some (.inl p)) (fun p => some (.inr p)) := by kernel_rfl
noncomputable def h140x0s1 : Sg Try.prog 0 140 :=
  (h140x0s0 N).lp (A140x0x12 N) N progOk (T35x0_ok N) (fun m kn L x => (step140x0x12 N m kn L x).trans (sb140x0x12 N L x _ _ _)) (fun L m x => (ql140x0x12 N L m x).trans (sb140x0x12 N L x (Q140x0x12 N L m) (fun p => some (.inl p)) (fun p => some (.inr p)))) fun L x hx => (altS alt1) x hx
noncomputable def F140x0 (v1 v3 : LD) (k0 : Bool → Option R) : Option R :=
  bif ((v1.length : Int) != (v3.length : Int)) then
    k0 false
  else
    bnd (G140x0x12 N v1 v3 (v1.length : Int) 0) fun y0 =>
    bif (inlB y0) then
      k0 false
    else
      bif (inrQ y0).isSome then
        k0 true
      else
        none
noncomputable def G140x0 (v1 v3 : LD) : Option (Bool) := F140x0 N v1 v3 (fun p => some p)
theorem bind140x0 (v1 v3 : LD) (k0 : Bool → Option R) : F140x0 N v1 v3 k0 = (G140x0 N v1 v3).bind k0 := by
  unfold G140x0 F140x0
  repeat' (first | with_reducible apply cond_b | (with_reducible apply bnd_b; intro _) | rfl)
noncomputable def sh140x0 : Sh := { tmps := [(0, .c (.sl 146)), (1, .c (.sl 146))], mem := [] }
noncomputable def A140x0 (L : List Lf) : List (Bool × Res) := bnd (F140x0 N (ll L 1) (ll L 3) (fun p => some p)) fun q => [(q.isSome, ([.c (.b (q.getD default))], []))]
theorem raw140x0 (L : List Lf) : bd Try.prog (T35x0 N) (h140x0s1 N).h 140 sh140x0 L = F140x0 N (ll L 1) (ll L 3) (fun p => some ([.c (.b p)], [])) := by kernel_rfl
theorem ok140x0 : FnOk Try.prog 140 sh140x0 (A140x0 N) :=
  (h140x0s1 N).fn progOk (T35x0_ok N) fun L x hx => ((raw140x0 N L).trans ((bind140x0 N ..).trans (alt1 x hx)))
noncomputable def T140x0 : Oracle := ext 140 (spSh sh140x0 (A140x0 N)) (T35x0 N)
theorem T140x0_ok : OracleOk Try.prog (T140x0 N) := FnOk.to (ok140x0 N) (T35x0_ok N)
noncomputable def rg104x0 : List (Nat × List Nat) := [(0, [0, 1]), (1, [2, 3])]
noncomputable def hd104x0 : Hints := [(4, [2, 3], [3, 2], [])]
noncomputable def h104x0s0 (N : Nat) : Sg Try.prog 0 104 := .start hd104x0 rg104x0
noncomputable def F104x0x4 (w0 : Bool) (w1 : Int) (w3 : LD) (w4 : Bool) (w5 : Int) (w7 : LD) (k0 : Bool → Option R) : Option R :=
  bif (bif (w0 == w4) then (w1 == w5) else false) then
    bnd (G140x0 N w3 w7) fun y0 =>
    bif y0.isSome then
      k0 (y0.getD default)
    else
      none
  else
    k0 false
noncomputable def G104x0x4 (w0 : Bool) (w1 : Int) (w3 : LD) (w4 : Bool) (w5 : Int) (w7 : LD) : Option (Bool) := F104x0x4 N w0 w1 w3 w4 w5 w7 (fun p => some p)
theorem bind104x0x4 (w0 : Bool) (w1 : Int) (w3 : LD) (w4 : Bool) (w5 : Int) (w7 : LD) (k0 : Bool → Option R) : F104x0x4 N w0 w1 w3 w4 w5 w7 k0 = (G104x0x4 N w0 w1 w3 w4 w5 w7).bind k0 := by
  unfold G104x0x4 F104x0x4
  repeat' (first | with_reducible apply cond_b | (with_reducible apply bnd_b; intro _) | rfl)
noncomputable def J104x0x4 (L : List Lf) (k0 : Bool → Option R) : Option R := F104x0x4 N (lb L 0) (li L 1) (ll L 3) (lb L 4) (li L 5) (ll L 7) k0
noncomputable def sh104x0x4 : Sh := { tmps := [(2, .c (.p 2 0)), (3, .c (.p 3 0))], mem := [(2, .box ([.b, .i .i64, .sl 146])), (3, .box ([.b, .i .i64, .sl 146]))] }
noncomputable def A104x0x4 (L : List Lf) : List (Bool × (Ex × St)) := bnd (J104x0x4 N L (fun p => some p)) fun q => [(q.isSome, (.normal, ⟨[(4, .c (.b (q.getD default)))], []⟩))]
theorem raw104x0x4 (L : List Lf) : pc Try.prog (T140x0 N) (h104x0s0 N).h 0 100 104 4 sh104x0x4 L [4] [] = J104x0x4 N L (fun p => some (.normal, ⟨[(4, .c (.b p))], []⟩)) := by kernel_rfl
noncomputable def h104x0s1 : Sg Try.prog 0 104 :=
  (h104x0s0 N).cut (A104x0x4 N) progOk (T140x0_ok N) fun L x hx => (raw104x0x4 N L).trans ((bind104x0x4 N ..).trans (alt1 x hx))
noncomputable def F104x0 (v0 : Bool) (v1 : Int) (v3 : LD) (v4 : Bool) (v5 : Int) (v7 : LD) (k0 : Bool → Option R) : Option R :=
  bnd (G104x0x4 N v0 v1 v3 v4 v5 v7) fun y0 =>
  bif y0.isSome then
    k0 (y0.getD default)
  else
    none
noncomputable def G104x0 (v0 : Bool) (v1 : Int) (v3 : LD) (v4 : Bool) (v5 : Int) (v7 : LD) : Option (Bool) := F104x0 N v0 v1 v3 v4 v5 v7 (fun p => some p)
theorem bind104x0 (v0 : Bool) (v1 : Int) (v3 : LD) (v4 : Bool) (v5 : Int) (v7 : LD) (k0 : Bool → Option R) : F104x0 N v0 v1 v3 v4 v5 v7 k0 = (G104x0 N v0 v1 v3 v4 v5 v7).bind k0 := by
  unfold G104x0 F104x0
  repeat' (first | with_reducible apply cond_b | (with_reducible apply bnd_b; intro _) | rfl)
noncomputable def J104x0 (L : List Lf) (k0 : Bool → Option R) : Option R := F104x0 N (lb L 0) (li L 1) (ll L 3) (lb L 4) (li L 5) (ll L 7) k0
noncomputable def sh104x0 : Sh := { tmps := [(0, .g ([.b, .i .i64, .sl 146])), (1, .g ([.b, .i .i64, .sl 146]))], mem := [] }
noncomputable def A104x0 (L : List Lf) : List (Bool × Res) := bnd (J104x0 N L (fun p => some p)) fun q => [(q.isSome, ([.c (.b (q.getD default))], []))]
theorem raw104x0 (L : List Lf) : bd Try.prog (T140x0 N) (h104x0s1 N).h 104 sh104x0 L = J104x0 N L (fun p => some ([.c (.b p)], [])) := by kernel_rfl
theorem ok104x0 : FnOk Try.prog 104 sh104x0 (A104x0 N) :=
  (h104x0s1 N).fn progOk (T140x0_ok N) fun L x hx => ((raw104x0 N L).trans ((bind104x0 N ..).trans (alt1 x hx)))
noncomputable def T104x0 : Oracle := ext 104 (spSh sh104x0 (A104x0 N)) (T140x0 N)
theorem T104x0_ok : OracleOk Try.prog (T104x0 N) := FnOk.to (ok104x0 N) (T140x0_ok N)
noncomputable def rg103x0 : List (Nat × List Nat) := [(0, [0, 1, 2]), (1, [0, 1, 2]), (2, []), (3, [0, 1, 2]), (4, [17, 16, 15, 1, 2]), (5, [17, 15, 1, 2, 16]), (6, [1, 7, 2, 8, 17, 16, 15]), (7, [2, 8, 9, 17, 16, 15, 1]), (8, []), (9, [17, 16, 15, 1, 2]), (10, [])]
noncomputable def hd103x0 : Hints := [(12, [17, 16, 15, 1, 2], [], [])]
noncomputable def h103x0s0 (N : Nat) : Sg Try.prog 0 103 := .start hd103x0 rg103x0
noncomputable def S103x0x12 (w1 w3 : LD) (w4 : Int) (w5 : Int) (kr : Int → Option R) (k0 : Unit → Option R) (k1 : Unit → Option R) : Option R :=
  bif (decide (w5 < w4)) then
    bif (inB w5 w3.length) then
      bif (inB w5 w1.length) then
        bnd (G104x0 N ((w3.getD w5.toNat (.i 0)).cell 0).toB ((w3.getD w5.toNat (.i 0)).cell 1).toI ((w3.getD w5.toNat (.i 0)).cell 2).items ((w1.getD w5.toNat (.i 0)).cell 0).toB ((w1.getD w5.toNat (.i 0)).cell 1).toI ((w1.getD w5.toNat (.i 0)).cell 2).items) fun y0 =>
        bif y0.isSome then
          bif (!(y0.getD default)) then
            k0 ()
          else
            kr (IntKind.wrap .i64 (w5 + 1))
        else
          none
      else
        none
    else
      none
  else
    k1 ()
noncomputable def L103x0x12 (N : Nat) {R : Type} (w1 w3 : LD) (w4 : Int) : Nat → Int → (Unit → Option R) → (Unit → Option R) → Option R
  | 0, _, _, _ => none
  | m + 1, w5, k0, k1 => S103x0x12 N w1 w3 w4 w5 (fun w5 => L103x0x12 N w1 w3 w4 m w5 k0 k1) k0 k1
noncomputable def G103x0x12 (w1 w3 : LD) (w4 : Int) (w5 : Int) : Option (Sum (Unit) (Unit)) := L103x0x12 N (R := (Sum (Unit) (Unit))) w1 w3 w4 N w5 (fun p => some (.inl p)) (fun p => some (.inr p))
noncomputable def J103x0x12 (L x : List Lf) (kr : List Lf → Option R) (k0 : Unit → Option R) (k1 : Unit → Option R) : Option R := S103x0x12 N (ll L 1) (ll L 3) (li L 4) (li x 0) (fun w5 => kr [.i w5]) k0 k1
theorem sb103x0x12 (L x : List Lf) (kr : List Lf → Option R) (k0 : Unit → Option R) (k1 : Unit → Option R) : J103x0x12 N L x kr k0 k1 = (J103x0x12 N L x (fun y => some (.inl y)) (fun p => some (.inr (.inl p))) (fun p => some (.inr (.inr p)))).bind (sumE kr (sumE k0 k1)) := by
  unfold J103x0x12 S103x0x12
  repeat' (first | with_reducible apply cond_b | (with_reducible apply bnd_b; intro _) | rfl)
noncomputable def Q103x0x12 (L : List Lf) (m : Nat) (x : List Lf) : Option (Sum (Unit) (Unit)) := L103x0x12 N (R := (Sum (Unit) (Unit))) (ll L 1) (ll L 3) (li L 4) m (li x 0) (fun p => some (.inl p)) (fun p => some (.inr p))
noncomputable def sh103x0x12 : Sh := { tmps := [(1, .c (.sl 103)), (2, .c (.f 104 [])), (15, .c (.sl 103)), (16, .c (.i .i64)), (17, .c (.i .i64))], mem := [] }
noncomputable def A103x0x12 (L : List Lf) : List (Bool × (Ex × St)) := bnd (Q103x0x12 N L N (pk sh103x0x12 [5] L)) fun q => [((inlB q), (.ret, ⟨[(6, .c (.b false))], []⟩)), ((inrQ q).isSome, ((.exit 0), ⟨[], []⟩))]
theorem step103x0x12 (m : Nat) (kn : St → Option (Ex × St)) (L x : List Lf) : lpB Try.prog (T104x0 N) (h103x0s0 N).h 0 103 12 sh103x0x12 [5] [6] [] (m + 100) kn L x = J103x0x12 N L x (fun y => kn (ofSh sh103x0x12 (mx sh103x0x12 [5] L y))) (fun _ => some (.ret, ⟨[(6, .c (.b false))], []⟩)) (fun _ => some ((.exit 0), ⟨[], []⟩)) := by kernel_rfl
theorem ql103x0x12 (L : List Lf) (m : Nat) (x : List Lf) : Q103x0x12 N L (m + 1) x = J103x0x12 N L x (Q103x0x12 N L m) (fun p => some (.inl p)) (fun p => some (.inr p)) := by kernel_rfl
noncomputable def h103x0s1 : Sg Try.prog 0 103 :=
  (h103x0s0 N).lp (A103x0x12 N) N progOk (T104x0_ok N) (fun m kn L x => (step103x0x12 N m kn L x).trans (sb103x0x12 N L x _ _ _)) (fun L m x => (ql103x0x12 N L m x).trans (sb103x0x12 N L x (Q103x0x12 N L m) (fun p => some (.inl p)) (fun p => some (.inr p)))) fun L x hx => (altS alt1) x hx
noncomputable def F103x0 (v1 v3 : LD) (k0 : Bool → Option R) : Option R :=
  bif ((v1.length : Int) != (v3.length : Int)) then
    k0 false
  else
    bnd (G103x0x12 N v3 v1 (v1.length : Int) 0) fun y0 =>
    bif (inlB y0) then
      k0 false
    else
      bif (inrQ y0).isSome then
        k0 true
      else
        none
noncomputable def G103x0 (v1 v3 : LD) : Option (Bool) := F103x0 N v1 v3 (fun p => some p)
theorem bind103x0 (v1 v3 : LD) (k0 : Bool → Option R) : F103x0 N v1 v3 k0 = (G103x0 N v1 v3).bind k0 := by
  unfold G103x0 F103x0
  repeat' (first | with_reducible apply cond_b | (with_reducible apply bnd_b; intro _) | rfl)
noncomputable def sh103x0 : Sh := { tmps := [(0, .c (.sl 103)), (1, .c (.sl 103)), (2, .c (.f 104 []))], mem := [] }
noncomputable def A103x0 (L : List Lf) : List (Bool × Res) := bnd (F103x0 N (ll L 1) (ll L 3) (fun p => some p)) fun q => [(q.isSome, ([.c (.b (q.getD default))], []))]
theorem raw103x0 (L : List Lf) : bd Try.prog (T104x0 N) (h103x0s1 N).h 103 sh103x0 L = F103x0 N (ll L 1) (ll L 3) (fun p => some ([.c (.b p)], [])) := by kernel_rfl
theorem ok103x0 : FnOk Try.prog 103 sh103x0 (A103x0 N) :=
  (h103x0s1 N).fn progOk (T104x0_ok N) fun L x hx => ((raw103x0 N L).trans ((bind103x0 N ..).trans (alt1 x hx)))
noncomputable def T103x0 : Oracle := ext 103 (spSh sh103x0 (A103x0 N)) (T104x0 N)
theorem T103x0_ok : OracleOk Try.prog (T103x0 N) := FnOk.to (ok103x0 N) (T104x0_ok N)
noncomputable def rg25x0 : List (Nat × List Nat) := [(0, [0, 1]), (1, [0, 1]), (2, []), (3, [0, 1]), (4, [13, 12, 0, 1]), (5, [13, 0, 1, 12]), (6, [0, 5, 1, 13, 12]), (7, []), (8, [13, 12, 0, 1]), (9, [])]
noncomputable def hd25x0 : Hints := [(12, [13, 12, 0, 1], [], [])]
noncomputable def h25x0s0 (N : Nat) : Sg Try.prog 0 25 := .start hd25x0 rg25x0
noncomputable def S25x0x12 (N : Nat) (w1 w3 : LD) (w4 : Int) (w5 : Int) (kr : Int → Option R) (k0 : Unit → Option R) (k1 : Unit → Option R) : Option R :=
  bif (decide (w5 < w4)) then
    bif (inB w5 w1.length) then
      bif (inB w5 w3.length) then
        bnd ((w1.getD w5.toNat (.i 0)).toI != (w3.getD w5.toNat (.i 0)).toI) fun y0 =>
        bif y0 then
          k0 ()
        else
          kr (IntKind.wrap .i64 (w5 + 1))
      else
        none
    else
      none
  else
    k1 ()
noncomputable def L25x0x12 (N : Nat) {R : Type} (w1 w3 : LD) (w4 : Int) : Nat → Int → (Unit → Option R) → (Unit → Option R) → Option R
  | 0, _, _, _ => none
  | m + 1, w5, k0, k1 => S25x0x12 N w1 w3 w4 w5 (fun w5 => L25x0x12 N w1 w3 w4 m w5 k0 k1) k0 k1
noncomputable def G25x0x12 (w1 w3 : LD) (w4 : Int) (w5 : Int) : Option (Sum (Unit) (Unit)) := L25x0x12 N (R := (Sum (Unit) (Unit))) w1 w3 w4 N w5 (fun p => some (.inl p)) (fun p => some (.inr p))
noncomputable def J25x0x12 (L x : List Lf) (kr : List Lf → Option R) (k0 : Unit → Option R) (k1 : Unit → Option R) : Option R := S25x0x12 N (ll L 1) (ll L 3) (li L 4) (li x 0) (fun w5 => kr [.i w5]) k0 k1
theorem sb25x0x12 (L x : List Lf) (kr : List Lf → Option R) (k0 : Unit → Option R) (k1 : Unit → Option R) : J25x0x12 N L x kr k0 k1 = (J25x0x12 N L x (fun y => some (.inl y)) (fun p => some (.inr (.inl p))) (fun p => some (.inr (.inr p)))).bind (sumE kr (sumE k0 k1)) := by
  unfold J25x0x12 S25x0x12
  repeat' (first | with_reducible apply cond_b | (with_reducible apply bnd_b; intro _) | rfl)
noncomputable def Q25x0x12 (L : List Lf) (m : Nat) (x : List Lf) : Option (Sum (Unit) (Unit)) := L25x0x12 N (R := (Sum (Unit) (Unit))) (ll L 1) (ll L 3) (li L 4) m (li x 0) (fun p => some (.inl p)) (fun p => some (.inr p))
noncomputable def sh25x0x12 : Sh := { tmps := [(0, .c (.sl 5)), (1, .c (.sl 5)), (12, .c (.i .i64)), (13, .c (.i .i64))], mem := [] }
noncomputable def A25x0x12 (L : List Lf) : List (Bool × (Ex × St)) := bnd (Q25x0x12 N L N (pk sh25x0x12 [5] L)) fun q => [((inlB q), (.ret, ⟨[(4, .c (.b false))], []⟩)), ((inrQ q).isSome, ((.exit 0), ⟨[], []⟩))]
theorem step25x0x12 (m : Nat) (kn : St → Option (Ex × St)) (L x : List Lf) : lpB Try.prog (T103x0 N) (h25x0s0 N).h 0 25 12 sh25x0x12 [5] [4] [] (m + 100) kn L x = J25x0x12 N L x (fun y => kn (ofSh sh25x0x12 (mx sh25x0x12 [5] L y))) (fun _ => some (.ret, ⟨[(4, .c (.b false))], []⟩)) (fun _ => some ((.exit 0), ⟨[], []⟩)) := by kernel_rfl
theorem ql25x0x12 (L : List Lf) (m : Nat) (x : List Lf) : Q25x0x12 N L (m + 1) x = J25x0x12 N L x (Q25x0x12 N L m) (fun p => some (.inl p)) (fun p => some (.inr p)) := by kernel_rfl
noncomputable def h25x0s1 : Sg Try.prog 0 25 :=
  (h25x0s0 N).lp (A25x0x12 N) N progOk (T103x0_ok N) (fun m kn L x => (step25x0x12 N m kn L x).trans (sb25x0x12 N L x _ _ _)) (fun L m x => (ql25x0x12 N L m x).trans (sb25x0x12 N L x (Q25x0x12 N L m) (fun p => some (.inl p)) (fun p => some (.inr p)))) fun L x hx => (altS alt1) x hx
noncomputable def F25x0 (v1 v3 : LD) (k0 : Bool → Option R) : Option R :=
  bif ((v1.length : Int) != (v3.length : Int)) then
    k0 false
  else
    bnd (G25x0x12 N v1 v3 (v1.length : Int) 0) fun y0 =>
    bif (inlB y0) then
      k0 false
    else
      bif (inrQ y0).isSome then
        k0 true
      else
        none
noncomputable def G25x0 (v1 v3 : LD) : Option (Bool) := F25x0 N v1 v3 (fun p => some p)
theorem bind25x0 (v1 v3 : LD) (k0 : Bool → Option R) : F25x0 N v1 v3 k0 = (G25x0 N v1 v3).bind k0 := by
  unfold G25x0 F25x0
  repeat' (first | with_reducible apply cond_b | (with_reducible apply bnd_b; intro _) | rfl)
noncomputable def sh25x0 : Sh := { tmps := [(0, .c (.sl 5)), (1, .c (.sl 5))], mem := [] }
noncomputable def A25x0 (L : List Lf) : List (Bool × Res) := bnd (F25x0 N (ll L 1) (ll L 3) (fun p => some p)) fun q => [(q.isSome, ([.c (.b (q.getD default))], []))]
theorem raw25x0 (L : List Lf) : bd Try.prog (T103x0 N) (h25x0s1 N).h 25 sh25x0 L = F25x0 N (ll L 1) (ll L 3) (fun p => some ([.c (.b p)], [])) := by kernel_rfl
theorem ok25x0 : FnOk Try.prog 25 sh25x0 (A25x0 N) :=
  (h25x0s1 N).fn progOk (T103x0_ok N) fun L x hx => ((raw25x0 N L).trans ((bind25x0 N ..).trans (alt1 x hx)))
noncomputable def T25x0 : Oracle := ext 25 (spSh sh25x0 (A25x0 N)) (T103x0 N)
theorem T25x0_ok : OracleOk Try.prog (T25x0 N) := FnOk.to (ok25x0 N) (T103x0_ok N)
noncomputable def rg48x0 : List (Nat × List Nat) := [(0, [0, 1]), (1, [2, 3])]
noncomputable def hd48x0 : Hints := [(4, [2, 3], [3, 2], [])]
noncomputable def h48x0s0 (N : Nat) : Sg Try.prog 0 48 := .start hd48x0 rg48x0
noncomputable def F48x0x4 (w0 w1 w2 : Int) (w4 w6 : LD) (w7 w8 w9 : Int) (w11 w13 : LD) (k0 : Bool → Option R) : Option R :=
  bnd (bif (bif (w0 == w7) then (w1 == w8) else false) then (w2 == w9) else false) fun y0 =>
  bif y0 then
    bnd (G103x0 N w4 w11) fun y1 =>
    bif y1.isSome then
      bif (y1.getD default) then
        bnd (G25x0 N w6 w13) fun y2 =>
        bif y2.isSome then
          k0 (y2.getD default)
        else
          none
      else
        k0 false
    else
      none
  else
    k0 false
noncomputable def G48x0x4 (w0 w1 w2 : Int) (w4 w6 : LD) (w7 w8 w9 : Int) (w11 w13 : LD) : Option (Bool) := F48x0x4 N w0 w1 w2 w4 w6 w7 w8 w9 w11 w13 (fun p => some p)
theorem bind48x0x4 (w0 w1 w2 : Int) (w4 w6 : LD) (w7 w8 w9 : Int) (w11 w13 : LD) (k0 : Bool → Option R) : F48x0x4 N w0 w1 w2 w4 w6 w7 w8 w9 w11 w13 k0 = (G48x0x4 N w0 w1 w2 w4 w6 w7 w8 w9 w11 w13).bind k0 := by
  unfold G48x0x4 F48x0x4
  repeat' (first | with_reducible apply cond_b | (with_reducible apply bnd_b; intro _) | rfl)
noncomputable def J48x0x4 (L : List Lf) (k0 : Bool → Option R) : Option R := F48x0x4 N (li L 0) (li L 1) (li L 2) (ll L 4) (ll L 6) (li L 7) (li L 8) (li L 9) (ll L 11) (ll L 13) k0
noncomputable def sh48x0x4 : Sh := { tmps := [(2, .c (.p 2 0)), (3, .c (.p 3 0))], mem := [(2, .box ([.i .i64, .i .i64, .i .i64, .sl 103, .sl 5])), (3, .box ([.i .i64, .i .i64, .i .i64, .sl 103, .sl 5]))] }
noncomputable def A48x0x4 (L : List Lf) : List (Bool × (Ex × St)) := bnd (J48x0x4 N L (fun p => some p)) fun q => [(q.isSome, (.normal, ⟨[(4, .c (.b (q.getD default)))], []⟩))]
theorem raw48x0x4 (L : List Lf) : pc Try.prog (T25x0 N) (h48x0s0 N).h 0 100 48 4 sh48x0x4 L [4] [] = J48x0x4 N L (fun p => some (.normal, ⟨[(4, .c (.b p))], []⟩)) := by kernel_rfl
noncomputable def h48x0s1 : Sg Try.prog 0 48 :=
  (h48x0s0 N).cut (A48x0x4 N) progOk (T25x0_ok N) fun L x hx => (raw48x0x4 N L).trans ((bind48x0x4 N ..).trans (alt1 x hx))
noncomputable def F48x0 (v0 v1 v2 : Int) (v4 v6 : LD) (v7 v8 v9 : Int) (v11 v13 : LD) (k0 : Bool → Option R) : Option R :=
  bnd (G48x0x4 N v0 v1 v2 v4 v6 v7 v8 v9 v11 v13) fun y0 =>
  bif y0.isSome then
    k0 (y0.getD default)
  else
    none
noncomputable def G48x0 (v0 v1 v2 : Int) (v4 v6 : LD) (v7 v8 v9 : Int) (v11 v13 : LD) : Option (Bool) := F48x0 N v0 v1 v2 v4 v6 v7 v8 v9 v11 v13 (fun p => some p)
theorem bind48x0 (v0 v1 v2 : Int) (v4 v6 : LD) (v7 v8 v9 : Int) (v11 v13 : LD) (k0 : Bool → Option R) : F48x0 N v0 v1 v2 v4 v6 v7 v8 v9 v11 v13 k0 = (G48x0 N v0 v1 v2 v4 v6 v7 v8 v9 v11 v13).bind k0 := by
  unfold G48x0 F48x0
  repeat' (first | with_reducible apply cond_b | (with_reducible apply bnd_b; intro _) | rfl)
noncomputable def J48x0 (L : List Lf) (k0 : Bool → Option R) : Option R := F48x0 N (li L 0) (li L 1) (li L 2) (ll L 4) (ll L 6) (li L 7) (li L 8) (li L 9) (ll L 11) (ll L 13) k0
noncomputable def sh48x0 : Sh := { tmps := [(0, .g ([.i .i64, .i .i64, .i .i64, .sl 103, .sl 5])), (1, .g ([.i .i64, .i .i64, .i .i64, .sl 103, .sl 5]))], mem := [] }
noncomputable def A48x0 (L : List Lf) : List (Bool × Res) := bnd (J48x0 N L (fun p => some p)) fun q => [(q.isSome, ([.c (.b (q.getD default))], []))]
theorem raw48x0 (L : List Lf) : bd Try.prog (T25x0 N) (h48x0s1 N).h 48 sh48x0 L = J48x0 N L (fun p => some ([.c (.b p)], [])) := by kernel_rfl
theorem ok48x0 : FnOk Try.prog 48 sh48x0 (A48x0 N) :=
  (h48x0s1 N).fn progOk (T25x0_ok N) fun L x hx => ((raw48x0 N L).trans ((bind48x0 N ..).trans (alt1 x hx)))
noncomputable def T48x0 : Oracle := ext 48 (spSh sh48x0 (A48x0 N)) (T25x0 N)
theorem T48x0_ok : OracleOk Try.prog (T48x0 N) := FnOk.to (ok48x0 N) (T25x0_ok N)
noncomputable def rg77x0 : List (Nat × List Nat) := [(0, [0, 1, 2]), (1, [0, 1, 2]), (2, []), (3, [0, 1, 2]), (4, [17, 16, 15, 1, 2]), (5, [17, 15, 1, 2, 16]), (6, [1, 7, 2, 8, 17, 16, 15]), (7, [2, 8, 9, 17, 16, 15, 1]), (8, []), (9, [17, 16, 15, 1, 2]), (10, [])]
noncomputable def hd77x0 : Hints := [(12, [17, 16, 15, 1, 2], [], [])]
noncomputable def h77x0s0 (N : Nat) : Sg Try.prog 0 77 := .start hd77x0 rg77x0
noncomputable def S77x0x12 (w1 w3 : LD) (w4 : Int) (w5 : Int) (kr : Int → Option R) (k0 : Unit → Option R) (k1 : Unit → Option R) : Option R :=
  bif (decide (w5 < w4)) then
    bif (inB w5 w3.length) then
      bif (inB w5 w1.length) then
        bnd (G48x0 N ((w3.getD w5.toNat (.i 0)).cell 0).toI ((w3.getD w5.toNat (.i 0)).cell 1).toI ((w3.getD w5.toNat (.i 0)).cell 2).toI ((w3.getD w5.toNat (.i 0)).cell 3).items ((w3.getD w5.toNat (.i 0)).cell 4).items ((w1.getD w5.toNat (.i 0)).cell 0).toI ((w1.getD w5.toNat (.i 0)).cell 1).toI ((w1.getD w5.toNat (.i 0)).cell 2).toI ((w1.getD w5.toNat (.i 0)).cell 3).items ((w1.getD w5.toNat (.i 0)).cell 4).items) fun y0 =>
        bif y0.isSome then
          bif (!(y0.getD default)) then
            k0 ()
          else
            kr (IntKind.wrap .i64 (w5 + 1))
        else
          none
      else
        none
    else
      none
  else
    k1 ()
noncomputable def L77x0x12 (N : Nat) {R : Type} (w1 w3 : LD) (w4 : Int) : Nat → Int → (Unit → Option R) → (Unit → Option R) → Option R
  | 0, _, _, _ => none
  | m + 1, w5, k0, k1 => S77x0x12 N w1 w3 w4 w5 (fun w5 => L77x0x12 N w1 w3 w4 m w5 k0 k1) k0 k1
noncomputable def G77x0x12 (w1 w3 : LD) (w4 : Int) (w5 : Int) : Option (Sum (Unit) (Unit)) := L77x0x12 N (R := (Sum (Unit) (Unit))) w1 w3 w4 N w5 (fun p => some (.inl p)) (fun p => some (.inr p))
noncomputable def J77x0x12 (L x : List Lf) (kr : List Lf → Option R) (k0 : Unit → Option R) (k1 : Unit → Option R) : Option R := S77x0x12 N (ll L 1) (ll L 3) (li L 4) (li x 0) (fun w5 => kr [.i w5]) k0 k1
theorem sb77x0x12 (L x : List Lf) (kr : List Lf → Option R) (k0 : Unit → Option R) (k1 : Unit → Option R) : J77x0x12 N L x kr k0 k1 = (J77x0x12 N L x (fun y => some (.inl y)) (fun p => some (.inr (.inl p))) (fun p => some (.inr (.inr p)))).bind (sumE kr (sumE k0 k1)) := by
  unfold J77x0x12 S77x0x12
  repeat' (first | with_reducible apply cond_b | (with_reducible apply bnd_b; intro _) | rfl)
noncomputable def Q77x0x12 (L : List Lf) (m : Nat) (x : List Lf) : Option (Sum (Unit) (Unit)) := L77x0x12 N (R := (Sum (Unit) (Unit))) (ll L 1) (ll L 3) (li L 4) m (li x 0) (fun p => some (.inl p)) (fun p => some (.inr p))
noncomputable def sh77x0x12 : Sh := { tmps := [(1, .c (.sl 53)), (2, .c (.f 48 [])), (15, .c (.sl 53)), (16, .c (.i .i64)), (17, .c (.i .i64))], mem := [] }
noncomputable def A77x0x12 (L : List Lf) : List (Bool × (Ex × St)) := bnd (Q77x0x12 N L N (pk sh77x0x12 [5] L)) fun q => [((inlB q), (.ret, ⟨[(6, .c (.b false))], []⟩)), ((inrQ q).isSome, ((.exit 0), ⟨[], []⟩))]
theorem step77x0x12 (m : Nat) (kn : St → Option (Ex × St)) (L x : List Lf) : lpB Try.prog (T48x0 N) (h77x0s0 N).h 0 77 12 sh77x0x12 [5] [6] [] (m + 100) kn L x = J77x0x12 N L x (fun y => kn (ofSh sh77x0x12 (mx sh77x0x12 [5] L y))) (fun _ => some (.ret, ⟨[(6, .c (.b false))], []⟩)) (fun _ => some ((.exit 0), ⟨[], []⟩)) := by kernel_rfl
theorem ql77x0x12 (L : List Lf) (m : Nat) (x : List Lf) : Q77x0x12 N L (m + 1) x = J77x0x12 N L x (Q77x0x12 N L m) (fun p => some (.inl p)) (fun p => some (.inr p)) := by kernel_rfl
noncomputable def h77x0s1 : Sg Try.prog 0 77 :=
  (h77x0s0 N).lp (A77x0x12 N) N progOk (T48x0_ok N) (fun m kn L x => (step77x0x12 N m kn L x).trans (sb77x0x12 N L x _ _ _)) (fun L m x => (ql77x0x12 N L m x).trans (sb77x0x12 N L x (Q77x0x12 N L m) (fun p => some (.inl p)) (fun p => some (.inr p)))) fun L x hx => (altS alt1) x hx
noncomputable def F77x0 (v1 v3 : LD) (k0 : Bool → Option R) : Option R :=
  bif ((v1.length : Int) != (v3.length : Int)) then
    k0 false
  else
    bnd (G77x0x12 N v3 v1 (v1.length : Int) 0) fun y0 =>
    bif (inlB y0) then
      k0 false
    else
      bif (inrQ y0).isSome then
        k0 true
      else
        none
noncomputable def G77x0 (v1 v3 : LD) : Option (Bool) := F77x0 N v1 v3 (fun p => some p)
theorem bind77x0 (v1 v3 : LD) (k0 : Bool → Option R) : F77x0 N v1 v3 k0 = (G77x0 N v1 v3).bind k0 := by
  unfold G77x0 F77x0
  repeat' (first | with_reducible apply cond_b | (with_reducible apply bnd_b; intro _) | rfl)
noncomputable def sh77x0 : Sh := { tmps := [(0, .c (.sl 53)), (1, .c (.sl 53)), (2, .c (.f 48 []))], mem := [] }
noncomputable def A77x0 (L : List Lf) : List (Bool × Res) := bnd (F77x0 N (ll L 1) (ll L 3) (fun p => some p)) fun q => [(q.isSome, ([.c (.b (q.getD default))], []))]
theorem raw77x0 (L : List Lf) : bd Try.prog (T48x0 N) (h77x0s1 N).h 77 sh77x0 L = F77x0 N (ll L 1) (ll L 3) (fun p => some ([.c (.b p)], [])) := by kernel_rfl
theorem ok77x0 : FnOk Try.prog 77 sh77x0 (A77x0 N) :=
  (h77x0s1 N).fn progOk (T48x0_ok N) fun L x hx => ((raw77x0 N L).trans ((bind77x0 N ..).trans (alt1 x hx)))
noncomputable def T77x0 : Oracle := ext 77 (spSh sh77x0 (A77x0 N)) (T48x0 N)
theorem T77x0_ok : OracleOk Try.prog (T77x0 N) := FnOk.to (ok77x0 N) (T48x0_ok N)
noncomputable def rg28x0 : List (Nat × List Nat) := [(0, [0, 1]), (1, [2, 3])]
noncomputable def hd28x0 : Hints := []
noncomputable def h28x0s0 (N : Nat) : Sg Try.prog 0 28 := .start hd28x0 rg28x0
noncomputable def F28x0 (v1 v3 : LD) (k0 : Bool → Option R) : Option R :=
  bnd (G77x0 N v1 v3) fun y0 =>
  bif y0.isSome then
    k0 (y0.getD default)
  else
    none
noncomputable def G28x0 (v1 v3 : LD) : Option (Bool) := F28x0 N v1 v3 (fun p => some p)
theorem bind28x0 (v1 v3 : LD) (k0 : Bool → Option R) : F28x0 N v1 v3 k0 = (G28x0 N v1 v3).bind k0 := by
  unfold G28x0 F28x0
  repeat' (first | with_reducible apply cond_b | (with_reducible apply bnd_b; intro _) | rfl)
noncomputable def sh28x0 : Sh := { tmps := [(0, .g ([.sl 53])), (1, .g ([.sl 53]))], mem := [] }
noncomputable def A28x0 (L : List Lf) : List (Bool × Res) := bnd (F28x0 N (ll L 1) (ll L 3) (fun p => some p)) fun q => [(q.isSome, ([.c (.b (q.getD default))], []))]
theorem raw28x0 (L : List Lf) : bd Try.prog (T77x0 N) (h28x0s0 N).h 28 sh28x0 L = F28x0 N (ll L 1) (ll L 3) (fun p => some ([.c (.b p)], [])) := by kernel_rfl
theorem ok28x0 : FnOk Try.prog 28 sh28x0 (A28x0 N) :=
  (h28x0s0 N).fn progOk (T77x0_ok N) fun L x hx => ((raw28x0 N L).trans ((bind28x0 N ..).trans (alt1 x hx)))
noncomputable def T28x0 : Oracle := ext 28 (spSh sh28x0 (A28x0 N)) (T77x0 N)
theorem T28x0_ok : OracleOk Try.prog (T28x0 N) := FnOk.to (ok28x0 N) (T77x0_ok N)
noncomputable def rg37x0 : List (Nat × List Nat) := [(0, [0]), (1, [0, 2]), (2, [2]), (3, [0, 2]), (4, [0, 4, 2]), (5, [0, 5, 4, 2]), (6, [5, 0, 4, 6, 2]), (7, [5, 0, 4, 6, 7, 2]), (8, [6, 7, 4, 5, 2, 0]), (9, [10, 7, 8, 4, 5, 2, 0, 6]), (10, [7, 8, 4, 5, 0, 6, 2]), (11, [4, 8, 5, 0, 6, 7, 2]), (12, [5, 8, 0, 4, 6, 7, 2]), (13, [4, 5, 2])]
noncomputable def hd37x0 : Hints := [(21, [5, 0, 4, 6, 7, 2], [19000000002, 18000000004, 18000000001, 18000000003, 4, 2, 50004000], [50004000]), (28, [10, 7, 8, 4, 5, 2, 0, 6], [8, 19000000002, 18000000004, 18000000001, 18000000003, 50004000, 4, 2], [])]
noncomputable def h37x0s0 (N : Nat) : Sg Try.prog 0 37 := .start hd37x0 rg37x0
noncomputable def F37x0x28 (w3 : Bool) (w6 w7 w8 : Int) (w10 w12 : LD) (w19 : D) (k0 : Bool → Option R) : Option R :=
  bif (!w3) then
    k0 true
  else
    bnd (G71x0 N w6 w7 w8 w10 w12 w19) fun y0 =>
    bif y0.isSome then
      k0 ((y0.getD default) != 0)
    else
      none
noncomputable def G37x0x28 (w3 : Bool) (w6 w7 w8 : Int) (w10 w12 : LD) (w19 : D) : Option (Bool) := F37x0x28 N w3 w6 w7 w8 w10 w12 w19 (fun p => some p)
theorem bind37x0x28 (w3 : Bool) (w6 w7 w8 : Int) (w10 w12 : LD) (w19 : D) (k0 : Bool → Option R) : F37x0x28 N w3 w6 w7 w8 w10 w12 w19 k0 = (G37x0x28 N w3 w6 w7 w8 w10 w12 w19).bind k0 := by
  unfold G37x0x28 F37x0x28
  repeat' (first | with_reducible apply cond_b | (with_reducible apply bnd_b; intro _) | rfl)
noncomputable def J37x0x28 (L : List Lf) (k0 : Bool → Option R) : Option R := F37x0x28 N (lb L 3) (li L 6) (li L 7) (li L 8) (ll L 10) (ll L 12) (ld L 19) k0
noncomputable def sh37x0x28 : Sh := { tmps := [(0, .c (.sl 5)), (2, .c (.p 2 0)), (4, .c (.p 4 0)), (5, .c (.i .i64)), (6, .c (.f 133 [(18000000003, 0), (18000000001, 0), (18000000004, 0)])), (7, .c (.p 19000000002 0)), (8, .c (.p 8 0)), (10, .c (.b))], mem := [(2, .box ([.sl 53])), (4, .box ([.o 50004000])), (8, .box ([.i .i64, .i .i64, .i .i64, .sl 103, .sl 5])), (50004000, .row 53 true), (18000000001, .box ([.sl 5])), (18000000003, .box ([.i .i64])), (18000000004, .dat 114), (19000000002, .dat 116)] }
noncomputable def K37x0x28w0 (L : List Lf) (p : Bool) : Ex × St := (.normal, mg (ofSh sh37x0x28 L) [0, 2, 4, 5, 6, 7, 8, 42] [(42, .c (.b p))] [2, 4, 8, 50004000, 18000000001, 18000000003, 18000000004, 19000000002] [])
noncomputable def A37x0x28 (L : List Lf) : List (Bool × (Ex × St)) := bnd (J37x0x28 N L (fun p => some p)) fun q => [(q.isSome, K37x0x28w0 L (q.getD default))]
theorem raw37x0x28 (L : List Lf) : pc Try.prog (T28x0 N) (h37x0s0 N).h 0 100 37 28 sh37x0x28 L [4, 5, 2, 7, 8, 0, 6, 42] [8, 19000000002, 18000000004, 18000000001, 18000000003, 50004000, 4, 2] = J37x0x28 N L (fun p => some (K37x0x28w0 L p)) := by kernel_rfl
noncomputable def h37x0s1 : Sg Try.prog 0 37 :=
  (h37x0s0 N).cut (A37x0x28 N) progOk (T28x0_ok N) fun L x hx => (raw37x0x28 N L).trans ((bind37x0x28 N ..).trans (alt1 x hx))
noncomputable def S37x0x21 (w1 : LD) (w7 : Bool) (w8 : LD) (w2 : Int) (w5 : Bool) (w6 : LD) (w9 : Int) (w10 w11 : D) (kr : Int → Bool → LD → Int → D → D → Option R) (k0 : Int × Bool × LD → Option R) : Option R :=
  bnd (bif (decide (w2 < (w1.length : Int))) then (decide ((w6.length : Int) < 50000)) else false) fun y0 =>
  bif y0 then
    bnd (G133x0 N w9 w7 w8 w10) fun y1 =>
    bif y1.isSome then
      bnd (G37x0x28 N (y1.getD default).2.2.2.2.2.2.2.1 (y1.getD default).1 (y1.getD default).2.1 (y1.getD default).2.2.1 (y1.getD default).2.2.2.2.1 (y1.getD default).2.2.2.2.2.2.1 w11) fun y2 =>
      bif y2.isSome then
        bif (y2.getD default) then
          k0 (w2, w5, w6)
        else
          bnd (G72x0 N (y1.getD default).1 (y1.getD default).2.1 (y1.getD default).2.2.1 (y1.getD default).2.2.2.2.1 (y1.getD default).2.2.2.2.2.2.1 w11) fun y3 =>
          bif y3.isSome then
            bif (decide ((w6.length + 1) * 72 ≤ room) && decide ((w6.length + 1) ≤ strMax)) then
              bnd ((w6 ++ [(.a [(.i (y1.getD default).1), (.i (y1.getD default).2.1), (.i (y1.getD default).2.2.1), (.l (y1.getD default).2.2.2.1 (y1.getD default).2.2.2.2.1), (.l (y1.getD default).2.2.2.2.2.1 (y1.getD default).2.2.2.2.2.2.1)])]) : List D) fun y4 =>
              bnd (G65x0 N (y1.getD default).1 (y1.getD default).2.1 (y1.getD default).2.2.1 (y1.getD default).2.2.2.2.1 (y1.getD default).2.2.2.2.2.2.1) fun y5 =>
              bif y5.isSome then
                bnd (IntKind.wrap .i64 (w2 + ((y5.getD default).2.length : Int))) fun y6 =>
                kr y6 false y4 (y1.getD default).2.2.2.2.2.2.2.2.1 (y1.getD default).2.2.2.2.2.2.2.2.2 (y3.getD default).2
              else
                none
            else
              none
          else
            none
      else
        none
    else
      none
  else
    k0 (w2, w5, w6)
noncomputable def L37x0x21 (N : Nat) {R : Type} (w1 : LD) (w7 : Bool) (w8 : LD) : Nat → Int → Bool → LD → Int → D → D → (Int × Bool × LD → Option R) → Option R
  | 0, _, _, _, _, _, _, _ => none
  | m + 1, w2, w5, w6, w9, w10, w11, k0 => S37x0x21 N w1 w7 w8 w2 w5 w6 w9 w10 w11 (fun w2 w5 w6 w9 w10 w11 => L37x0x21 N w1 w7 w8 m w2 w5 w6 w9 w10 w11 k0) k0
noncomputable def G37x0x21 (w1 : LD) (w7 : Bool) (w8 : LD) (w2 : Int) (w5 : Bool) (w6 : LD) (w9 : Int) (w10 w11 : D) : Option (Int × Bool × LD) := L37x0x21 N (R := (Int × Bool × LD)) w1 w7 w8 N w2 w5 w6 w9 w10 w11 (fun p => some p)
noncomputable def J37x0x21 (L x : List Lf) (kr : List Lf → Option R) (k0 : Int × Bool × LD → Option R) : Option R := S37x0x21 N (ll L 1) (lb L 7) (ll L 8) (li x 0) (lb x 1) (ll x 2) (li x 3) (ld x 4) (ld x 5) (fun w2 w5 w6 w9 w10 w11 => kr [.i w2, .b w5, .l w6, .i w9, .d w10, .d w11]) k0
theorem sb37x0x21 (L x : List Lf) (kr : List Lf → Option R) (k0 : Int × Bool × LD → Option R) : J37x0x21 N L x kr k0 = (J37x0x21 N L x (fun y => some (.inl y)) (fun p => some (.inr p))).bind (sumE kr k0) := by
  unfold J37x0x21 S37x0x21
  repeat' (first | with_reducible apply cond_b | (with_reducible apply bnd_b; intro _) | rfl)
noncomputable def Q37x0x21 (L : List Lf) (m : Nat) (x : List Lf) : Option (Int × Bool × LD) := L37x0x21 N (R := (Int × Bool × LD)) (ll L 1) (lb L 7) (ll L 8) m (li x 0) (lb x 1) (ll x 2) (li x 3) (ld x 4) (ld x 5) (fun p => some p)
noncomputable def sh37x0x21 : Sh := { tmps := [(0, .c (.sl 5)), (2, .c (.p 2 0)), (4, .c (.p 4 0)), (5, .c (.i .i64)), (6, .c (.f 133 [(18000000003, 0), (18000000001, 0), (18000000004, 0)])), (7, .c (.p 19000000002 0))], mem := [(2, .box ([.sl 53])), (4, .box ([.o 50004000])), (50004000, .row 53 true), (18000000001, .box ([.sl 5])), (18000000003, .box ([.i .i64])), (18000000004, .dat 114), (19000000002, .dat 116)] }
noncomputable def K37x0x21w0 (L : List Lf) (p : Int × Bool × LD) : Ex × St := ((.exit 0), mg (ofSh sh37x0x21 L) [2, 4, 5] [(5, .c (.i .i64 p.1))] [2, 4, 50004000] [(50004000, .row 53 true p.2.1 p.2.2)])
noncomputable def A37x0x21 (L : List Lf) : List (Bool × (Ex × St)) := bnd (Q37x0x21 N L N (pk sh37x0x21 [2, 5, 6, 9, 10, 11] L)) fun q => [(q.isSome, K37x0x21w0 L (q.getD default))]
theorem step37x0x21 (m : Nat) (kn : St → Option (Ex × St)) (L x : List Lf) : lpB Try.prog (T28x0 N) (h37x0s1 N).h 0 37 21 sh37x0x21 [2, 5, 6, 9, 10, 11] [2, 3, 4, 5] [50004000, 4, 2] (m + 100) kn L x = J37x0x21 N L x (fun y => kn (ofSh sh37x0x21 (mx sh37x0x21 [2, 5, 6, 9, 10, 11] L y))) (fun p => some (K37x0x21w0 L p)) := by kernel_rfl
theorem ql37x0x21 (L : List Lf) (m : Nat) (x : List Lf) : Q37x0x21 N L (m + 1) x = J37x0x21 N L x (Q37x0x21 N L m) some := by kernel_rfl
noncomputable def h37x0s2 : Sg Try.prog 0 37 :=
  (h37x0s1 N).lp (A37x0x21 N) N progOk (T28x0_ok N) (fun m kn L x => (step37x0x21 N m kn L x).trans (sb37x0x21 N L x _ _)) (fun L m x => (ql37x0x21 N L m x).trans (sb37x0x21 N L x (Q37x0x21 N L m) some)) fun L x hx => alt1 x hx
noncomputable def F37x0 (v0 : Bool) (v1 : LD) (k0 : Bool × LD × Int → Option R) : Option R :=
  bif (decide ((v1.length : Int) < 8)) then
    k0 (true, [], 0)
  else
    bif ((decide (8 ≤ (v1.length : Int))) && (decide ((v1.length : Int) ≤ (v1.length : Int)))) then
      bnd (V82x0 N) fun y0 =>
      bnd (V70x0 N) fun y1 =>
      bnd (G37x0x21 N v1 v0 ((v1.take (v1.length : Int).toNat).drop 8) 8 true [] 0 y0 y1) fun y2 =>
      bif y2.isSome then
        k0 ((y2.getD default).2.1, (y2.getD default).2.2, (y2.getD default).1)
      else
        none
    else
      none
noncomputable def G37x0 (v0 : Bool) (v1 : LD) : Option (Bool × LD × Int) := F37x0 N v0 v1 (fun p => some p)
theorem bind37x0 (v0 : Bool) (v1 : LD) (k0 : Bool × LD × Int → Option R) : F37x0 N v0 v1 k0 = (G37x0 N v0 v1).bind k0 := by
  unfold G37x0 F37x0
  repeat' (first | with_reducible apply cond_b | (with_reducible apply bnd_b; intro _) | rfl)
noncomputable def sh37x0 : Sh := { tmps := [(0, .c (.sl 5))], mem := [] }
noncomputable def A37x0 (L : List Lf) : List (Bool × Res) := bnd (F37x0 N (lb L 0) (ll L 1) (fun p => some p)) fun q => [(q.isSome, ([.g [.sl 53 (q.getD default).1 (q.getD default).2.1], .c (.i .i64 (q.getD default).2.2)], []))]
theorem raw37x0 (L : List Lf) : bd Try.prog (T28x0 N) (h37x0s2 N).h 37 sh37x0 L = F37x0 N (lb L 0) (ll L 1) (fun p => some ([.g [.sl 53 p.1 p.2.1], .c (.i .i64 p.2.2)], [])) := by kernel_rfl
theorem ok37x0 : FnOk Try.prog 37 sh37x0 (A37x0 N) :=
  (h37x0s2 N).fn progOk (T28x0_ok N) fun L x hx => ((raw37x0 N L).trans ((bind37x0 N ..).trans (alt1 x hx)))
noncomputable def T37x0 : Oracle := ext 37 (spSh sh37x0 (A37x0 N)) (T28x0 N)
theorem T37x0_ok : OracleOk Try.prog (T37x0 N) := FnOk.to (ok37x0 N) (T28x0_ok N)
noncomputable def rg8x0 : List (Nat × List Nat) := [(0, [0, 1]), (1, [2, 1]), (2, [6, 2, 5, 1]), (3, [2, 6]), (4, [6, 8]), (5, [5, 2, 1]), (6, [11, 10, 2, 9, 1, 5]), (7, []), (8, [1, 5, 2]), (9, [5, 1, 2]), (10, [13, 1, 12, 2, 5]), (11, []), (12, [])]
noncomputable def hd8x0 : Hints := [(13, [6, 8], [], []), (19, [11, 10, 2, 9, 1, 5], [9, 2], []), (31, [13, 1, 12, 2, 5], [12, 2], []), (29, [5, 1, 2, 58], [2], [])]
noncomputable def h8x0s0 (N : Nat) : Sg Try.prog 0 8 := .start hd8x0 rg8x0
noncomputable def F8x0x13 (w0 w1 : Int) (k0 : Bool → Option R) : Option R :=
  bif (w0 == w1) then
    bnd (G17x0 N) fun y0 =>
    bif y0.isSome then
      k0 (y0.getD default)
    else
      none
  else
    k0 false
noncomputable def G8x0x13 (w0 w1 : Int) : Option (Bool) := F8x0x13 N w0 w1 (fun p => some p)
theorem bind8x0x13 (w0 w1 : Int) (k0 : Bool → Option R) : F8x0x13 N w0 w1 k0 = (G8x0x13 N w0 w1).bind k0 := by
  unfold G8x0x13 F8x0x13
  repeat' (first | with_reducible apply cond_b | (with_reducible apply bnd_b; intro _) | rfl)
noncomputable def sh8x0x13 : Sh := { tmps := [(6, .c (.i .i64)), (8, .c (.i .i64))], mem := [] }
noncomputable def A8x0x13 (L : List Lf) : List (Bool × (Ex × St)) := bnd (F8x0x13 N (li L 0) (li L 1) (fun p => some p)) fun q => [(q.isSome, (.normal, ⟨[(4, .c (.b (q.getD default)))], []⟩))]
theorem raw8x0x13 (L : List Lf) : pc Try.prog (T37x0 N) (h8x0s0 N).h 0 100 8 13 sh8x0x13 L [4] [] = F8x0x13 N (li L 0) (li L 1) (fun p => some (.normal, ⟨[(4, .c (.b p))], []⟩)) := by kernel_rfl
noncomputable def h8x0s1 : Sg Try.prog 0 8 :=
  (h8x0s0 N).cut (A8x0x13 N) progOk (T37x0_ok N) fun L x hx => (raw8x0x13 N L).trans ((bind8x0x13 N ..).trans (alt1 x hx))
noncomputable def F8x0x19 (w3 w4 : Int) (w6 w8 : LD) (k0 : Bool → Option R) : Option R :=
  bif (bif (w4 != 0) then true else (w3 != 0)) then
    k0 true
  else
    bnd (G28x0 N w6 w8) fun y0 =>
    bif y0.isSome then
      k0 (!(y0.getD default))
    else
      none
noncomputable def G8x0x19 (w3 w4 : Int) (w6 w8 : LD) : Option (Bool) := F8x0x19 N w3 w4 w6 w8 (fun p => some p)
theorem bind8x0x19 (w3 w4 : Int) (w6 w8 : LD) (k0 : Bool → Option R) : F8x0x19 N w3 w4 w6 w8 k0 = (G8x0x19 N w3 w4 w6 w8).bind k0 := by
  unfold G8x0x19 F8x0x19
  repeat' (first | with_reducible apply cond_b | (with_reducible apply bnd_b; intro _) | rfl)
noncomputable def J8x0x19 (L : List Lf) (k0 : Bool → Option R) : Option R := F8x0x19 N (li L 3) (li L 4) (ll L 6) (ll L 8) k0
noncomputable def sh8x0x19 : Sh := { tmps := [(1, .c (.i .i64)), (2, .c (.p 2 0)), (5, .c (.sl 5)), (9, .c (.p 9 0)), (10, .c (.i .i64)), (11, .c (.i .i64))], mem := [(2, .box ([.sl 53])), (9, .box ([.sl 53]))] }
noncomputable def K8x0x19w0 (L : List Lf) (p : Bool) : Ex × St := (.normal, mg (ofSh sh8x0x19 L) [1, 2, 5, 49] [(49, .c (.b p))] [2] [])
noncomputable def A8x0x19 (L : List Lf) : List (Bool × (Ex × St)) := bnd (J8x0x19 N L (fun p => some p)) fun q => [(q.isSome, K8x0x19w0 L (q.getD default))]
theorem raw8x0x19 (L : List Lf) : pc Try.prog (T37x0 N) (h8x0s1 N).h 0 100 8 19 sh8x0x19 L [1, 5, 2, 49] [2] = J8x0x19 N L (fun p => some (K8x0x19w0 L p)) := by kernel_rfl
noncomputable def h8x0s2 : Sg Try.prog 0 8 :=
  (h8x0s1 N).cut (A8x0x19 N) progOk (T37x0_ok N) fun L x hx => (raw8x0x19 N L).trans ((bind8x0x19 N ..).trans (alt1 x hx))
noncomputable def F8x0x31 (w0 : Int) (w2 : LD) (w3 : Int) (w5 w7 : LD) (k0 : Bool → Option R) : Option R :=
  bif (decide (w3 > w0)) then
    k0 true
  else
    bif (decide ((w7.length : Int) > (w5.length : Int))) then
      k0 true
    else
      bif ((decide (0 ≤ (w7.length : Int))) && (decide ((w7.length : Int) ≤ (w5.length : Int)))) then
        bnd (G28x0 N w7 ((w5.take (w7.length : Int).toNat).drop 0)) fun y0 =>
        bif y0.isSome then
          bif (!(y0.getD default)) then
            k0 true
          else
            bif (w0 == (IntKind.wrap .i64 ((w2.length : Int) - 4))) then
              k0 ((w7.length : Int) != (w5.length : Int))
            else
              k0 false
        else
          none
      else
        none
noncomputable def G8x0x31 (w0 : Int) (w2 : LD) (w3 : Int) (w5 w7 : LD) : Option (Bool) := F8x0x31 N w0 w2 w3 w5 w7 (fun p => some p)
theorem bind8x0x31 (w0 : Int) (w2 : LD) (w3 : Int) (w5 w7 : LD) (k0 : Bool → Option R) : F8x0x31 N w0 w2 w3 w5 w7 k0 = (G8x0x31 N w0 w2 w3 w5 w7).bind k0 := by
  unfold G8x0x31 F8x0x31
  repeat' (first | with_reducible apply cond_b | (with_reducible apply bnd_b; intro _) | rfl)
noncomputable def J8x0x31 (L : List Lf) (k0 : Bool → Option R) : Option R := F8x0x31 N (li L 0) (ll L 2) (li L 3) (ll L 5) (ll L 7) k0
noncomputable def sh8x0x31 : Sh := { tmps := [(1, .c (.i .i64)), (2, .c (.p 2 0)), (5, .c (.sl 5)), (12, .c (.p 12 0)), (13, .c (.i .i64))], mem := [(2, .box ([.sl 53])), (12, .box ([.sl 53]))] }
noncomputable def A8x0x31 (L : List Lf) : List (Bool × (Ex × St)) := bnd (J8x0x31 N L (fun p => some p)) fun q => [(q.isSome, (.normal, ⟨[(105, .c (.b (q.getD default)))], []⟩))]
theorem raw8x0x31 (L : List Lf) : pc Try.prog (T37x0 N) (h8x0s2 N).h 0 100 8 31 sh8x0x31 L [105] [] = J8x0x31 N L (fun p => some (.normal, ⟨[(105, .c (.b p))], []⟩)) := by kernel_rfl
noncomputable def h8x0s3 : Sg Try.prog 0 8 :=
  (h8x0s2 N).cut (A8x0x31 N) progOk (T37x0_ok N) fun L x hx => (raw8x0x31 N L).trans ((bind8x0x31 N ..).trans (alt1 x hx))
noncomputable def F8x0x29 (w0 : Int) (w1 : Bool) (w2 : LD) (w3 : Bool) (w5 : LD) (k0 : Unit → Option R) (k1 : Unit → Option R) : Option R :=
  bif w3 then
    bif ((decide (0 ≤ w0)) && (decide (w0 ≤ (w2.length : Int)))) then
      bnd (G37x0 N w1 ((w2.take w0.toNat).drop 0)) fun y0 =>
      bif y0.isSome then
        bnd (G8x0x31 N w0 w2 (y0.getD default).2.2 w5 (y0.getD default).2.1) fun y1 =>
        bif y1.isSome then
          bif (y1.getD default) then
            k0 ()
          else
            k1 ()
        else
          none
      else
        none
    else
      none
  else
    k1 ()
noncomputable def G8x0x29 (w0 : Int) (w1 : Bool) (w2 : LD) (w3 : Bool) (w5 : LD) : Option (Sum (Unit) (Unit)) := F8x0x29 N w0 w1 w2 w3 w5 (fun p => some (.inl p)) (fun p => some (.inr p))
theorem bind8x0x29 (w0 : Int) (w1 : Bool) (w2 : LD) (w3 : Bool) (w5 : LD) (k0 : Unit → Option R) (k1 : Unit → Option R) : F8x0x29 N w0 w1 w2 w3 w5 k0 k1 = (G8x0x29 N w0 w1 w2 w3 w5).bind (sumE k0 k1) := by
  unfold G8x0x29 F8x0x29
  repeat' (first | with_reducible apply cond_b | (with_reducible apply bnd_b; intro _) | rfl)
noncomputable def J8x0x29 (L : List Lf) (k0 : Unit → Option R) (k1 : Unit → Option R) : Option R := F8x0x29 N (li L 0) (lb L 1) (ll L 2) (lb L 3) (ll L 5) k0 k1
noncomputable def sh8x0x29 : Sh := { tmps := [(1, .c (.i .i64)), (2, .c (.p 2 0)), (5, .c (.sl 5)), (58, .c (.b))], mem := [(2, .box ([.sl 53]))] }
noncomputable def A8x0x29 (L : List Lf) : List (Bool × (Ex × St)) := bnd (J8x0x29 N L (fun p => some (.inl p)) (fun p => some (.inr p))) fun q => [((inlB q), (.ret, ⟨[(4, .c (.b false))], []⟩)), ((inrQ q).isSome, (.normal, ⟨[], []⟩))]
theorem raw8x0x29 (L : List Lf) : pc Try.prog (T37x0 N) (h8x0s3 N).h 0 100 8 29 sh8x0x29 L [4] [] = J8x0x29 N L (fun _ => some (.ret, ⟨[(4, .c (.b false))], []⟩)) (fun _ => some (.normal, ⟨[], []⟩)) := by kernel_rfl
noncomputable def h8x0s4 : Sg Try.prog 0 8 :=
  (h8x0s3 N).cut (A8x0x29 N) progOk (T37x0_ok N) fun L x hx => (raw8x0x29 N L).trans ((bind8x0x29 N ..).trans ((altS alt1) x hx))
noncomputable def F8x0 (v1 : LD) (v2 : Int) (k0 : Bool → Option R) : Option R :=
  bnd (G20x0 N v1) fun y0 =>
  bif y0.isSome then
    bif ((y0.getD default).2.2 != 0) then
      bnd (G21x0 N v1) fun y1 =>
      bif y1.isSome then
        bnd (G8x0x13 N (y0.getD default).2.2 (y1.getD default).2.2) fun y2 =>
        bif y2.isSome then
          k0 (y2.getD default)
        else
          none
      else
        none
    else
      bnd (G35x0 N (y0.getD default).1 (y0.getD default).2.1) fun y3 =>
      bif y3.isSome then
        bnd (G8x0x19 N (y3.getD default).2.2.1 (y3.getD default).2.2.2 v1 (y3.getD default).2.1) fun y4 =>
        bif y4.isSome then
          bif (y4.getD default) then
            k0 false
          else
            bnd (bif (decide (v2 ≥ 8)) then (decide (v2 ≤ (IntKind.wrap .i64 (((y0.getD default).2.1.length : Int) - 4)))) else false) fun y5 =>
            bnd (G8x0x29 N v2 (y0.getD default).1 (y0.getD default).2.1 y5 v1) fun y6 =>
            bif (inlB y6) then
              k0 false
            else
              bif (inrQ y6).isSome then
                bnd (G17x0 N) fun y7 =>
                bif y7.isSome then
                  k0 (y7.getD default)
                else
                  none
              else
                none
        else
          none
      else
        none
  else
    none
noncomputable def G8x0 (v1 : LD) (v2 : Int) : Option (Bool) := F8x0 N v1 v2 (fun p => some p)
theorem bind8x0 (v1 : LD) (v2 : Int) (k0 : Bool → Option R) : F8x0 N v1 v2 k0 = (G8x0 N v1 v2).bind k0 := by
  unfold G8x0 F8x0
  repeat' (first | with_reducible apply cond_b | (with_reducible apply bnd_b; intro _) | rfl)
noncomputable def sh8x0 : Sh := { tmps := [(0, .g ([.sl 53])), (1, .c (.i .i64))], mem := [] }
noncomputable def A8x0 (L : List Lf) : List (Bool × Res) := bnd (F8x0 N (ll L 1) (li L 2) (fun p => some p)) fun q => [(q.isSome, ([.c (.b (q.getD default))], []))]
theorem raw8x0 (L : List Lf) : bd Try.prog (T37x0 N) (h8x0s4 N).h 8 sh8x0 L = F8x0 N (ll L 1) (li L 2) (fun p => some ([.c (.b p)], [])) := by kernel_rfl
theorem ok8x0 : FnOk Try.prog 8 sh8x0 (A8x0 N) :=
  (h8x0s4 N).fn progOk (T37x0_ok N) fun L x hx => ((raw8x0 N L).trans ((bind8x0 N ..).trans (alt1 x hx)))
noncomputable def T8x0 : Oracle := ext 8 (spSh sh8x0 (A8x0 N)) (T37x0 N)
theorem T8x0_ok : OracleOk Try.prog (T8x0 N) := FnOk.to (ok8x0 N) (T37x0_ok N)
end Go.Proofs.Ytnnofignhdijiaa
