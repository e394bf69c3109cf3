/- Functions of the program as plain Lean definitions, each with the proof that the program computes it. No condition. Printed by a program of the prover, part 1. -/
import Derived.Test.YtpnacmnpahjpoaaGreatDoorHk1
import Derived.Test.YtpnacmnpahjpoaaGreatDoorChecked
import Derived.KernelRfl
set_option linter.all false
set_option maxRecDepth 100000
namespace Go.Proofs.YtpnacmnpahjpoaaGreatDoor
open Go Go.AM
noncomputable section
variable (N : Nat) {R : Type}
abbrev LD : Type := List D
abbrev LB : Type := List UInt8
def sh14x0 : Sh := toldSh
def A14x0 (N : Nat) (L : List Lf) : List (Bool × Res) := toldA L
theorem ok14x0 : FnOk Tryz.prog 14 sh14x0 (A14x0 N) := told_fn
def T14x0 : Oracle := ext 14 (spSh sh14x0 (A14x0 N)) noOracle
theorem T14x0_ok : OracleOk Tryz.prog (T14x0 N) := FnOk.to (ok14x0 N) noOracle_ok
def rg48x0 : List (Nat × List Nat) := [(0, [0, 1, 2]), (1, [0, 1, 2])]
def hd48x0 : Hints := []
def h48x0s0 (N : Nat) : Sg Tryz.prog 0 48 := .start hd48x0 rg48x0
def F48x0 (N : Nat) (v0 v1 v2 : Int) (k0 : Bool → R) : R :=
 k0 (bif (decide (v0 ≥ v1)) then (decide (v0 ≤ v2)) else false)
def V48x0 (v0 v1 v2 : Int) : Bool := F48x0 N v0 v1 v2 (fun p => p)
theorem tot48x0 (v0 v1 v2 : Int) (k0 : Bool → R) : F48x0 N v0 v1 v2 k0 = k0 (V48x0 N v0 v1 v2) := by
 unfold V48x0 F48x0
 repeat' (first | rfl | apply cond_k | (apply bnd_k; intro _))
def sh48x0 : Sh := { tmps := [(0, .c (.i .i64)), (1, .c (.i .i64)), (2, .c (.i .i64))], mem := [] }
def A48x0 (L : List Lf) : List (Bool × Res) := bnd (F48x0 N (li L 0) (li L 1) (li L 2) (fun p => p)) fun q => [(true, ([.c (.b q)], []))]
theorem raw48x0 (L : List Lf) : bd Tryz.prog (T14x0 N) (h48x0s0 N).h 48 sh48x0 L = F48x0 N (li L 0) (li L 1) (li L 2) (fun p => some ([.c (.b p)], [])) := by kernel_rfl
theorem ok48x0 : FnOk Tryz.prog 48 sh48x0 (A48x0 N) :=
 (h48x0s0 N).fn progOk (T14x0_ok N) fun L x hx => ((raw48x0 N L).trans ((tot48x0 N ..).trans (alt0 _ _ hx)))
def T48x0 : Oracle := ext 48 (spSh sh48x0 (A48x0 N)) (T14x0 N)
theorem T48x0_ok : OracleOk Tryz.prog (T48x0 N) := FnOk.to (ok48x0 N) (T14x0_ok N)
def rg78x0 : List (Nat × List Nat) := [(0, [0, 1, 2]), (1, [0, 1, 2])]
def hd78x0 : Hints := []
def h78x0s0 (N : Nat) : Sg Tryz.prog 0 78 := .start hd78x0 rg78x0
def F78x0 (N : Nat) (v0 v1 v2 : Int) (k0 : Bool → R) : R :=
 k0 (bif (decide (v0 ≥ v1)) then (decide (v0 ≤ v2)) else false)
def V78x0 (v0 v1 v2 : Int) : Bool := F78x0 N v0 v1 v2 (fun p => p)
theorem tot78x0 (v0 v1 v2 : Int) (k0 : Bool → R) : F78x0 N v0 v1 v2 k0 = k0 (V78x0 N v0 v1 v2) := by
 unfold V78x0 F78x0
 repeat' (first | rfl | apply cond_k | (apply bnd_k; intro _))
def sh78x0 : Sh := { tmps := [(0, .c (.i .i64)), (1, .c (.i .i64)), (2, .c (.i .i64))], mem := [] }
def A78x0 (L : List Lf) : List (Bool × Res) := bnd (F78x0 N (li L 0) (li L 1) (li L 2) (fun p => p)) fun q => [(true, ([.c (.b q)], []))]
theorem raw78x0 (L : List Lf) : bd Tryz.prog (T48x0 N) (h78x0s0 N).h 78 sh78x0 L = F78x0 N (li L 0) (li L 1) (li L 2) (fun p => some ([.c (.b p)], [])) := by kernel_rfl
theorem ok78x0 : FnOk Tryz.prog 78 sh78x0 (A78x0 N) :=
 (h78x0s0 N).fn progOk (T48x0_ok N) fun L x hx => ((raw78x0 N L).trans ((tot78x0 N ..).trans (alt0 _ _ hx)))
def T78x0 : Oracle := ext 78 (spSh sh78x0 (A78x0 N)) (T48x0 N)
theorem T78x0_ok : OracleOk Tryz.prog (T78x0 N) := FnOk.to (ok78x0 N) (T48x0_ok N)
def rg50x0 : List (Nat × List Nat) := [(0, [0]), (1, [0]), (2, []), (3, [0]), (4, [10, 9, 8]), (5, [8, 10, 9]), (6, [4, 10, 9, 8]), (7, []), (8, [10, 9, 8]), (9, [])]
def hd50x0 : Hints := [(12, [8, 9, 10], [], [])]
def h50x0s0 (N : Nat) : Sg Tryz.prog 0 50 := .start hd50x0 rg50x0
def S50x0x12 (w1 : LD) (w2 : Int) (w3 : Int) (kr : Int → Option R) (k0 : Unit → Option R) (k1 : Unit → Option R) : Option R :=
 bif (decide (w3 < w2)) then
  bif (inB w3 w1.length) then
   bnd (V78x0 N (w1.getD w3.toNat (.i 0)).toI (-1) 1000000000) fun y0 =>
   bif (!y0) then
    k0 ()
   else
    kr (IntKind.wrap .i64 (w3 + 1))
  else
   none
 else
  k1 ()
def L50x0x12 (N : Nat) {R : Type} (w1 : LD) (w2 : Int) : Nat → Int → (Unit → Option R) → (Unit → Option R) → Option R
 | 0, _, _, _ => none
 | m + 1, w3, k0, k1 => S50x0x12 N w1 w2 w3 (fun w3 => L50x0x12 N w1 w2 m w3 k0 k1) k0 k1
def G50x0x12 (w1 : LD) (w2 : Int) (w3 : Int) : Option (Sum (Unit) (Unit)) := L50x0x12 N (R := (Sum (Unit) (Unit))) w1 w2 N w3 (fun p => some (.inl p)) (fun p => some (.inr p))
def J50x0x12 (L x : List Lf) (kr : List Lf → Option R) (k0 : Unit → Option R) (k1 : Unit → Option R) : Option R := S50x0x12 N (ll L 1) (li L 2) (li x 0) (fun w3 => kr [.i w3]) k0 k1
theorem sb50x0x12 (L x : List Lf) (kr : List Lf → Option R) (k0 : Unit → Option R) (k1 : Unit → Option R) : J50x0x12 N L x kr k0 k1 = (J50x0x12 N L x (fun y => some (.inl y)) (fun p => some (.inr (.inl p))) (fun p => some (.inr (.inr p)))).bind (sumE kr (sumE k0 k1)) := by
 unfold J50x0x12 S50x0x12
 repeat' (first | with_reducible apply cond_b | (with_reducible apply bnd_b; intro _) | rfl)
def Q50x0x12 (L : List Lf) (m : Nat) (x : List Lf) : Option (Sum (Unit) (Unit)) := L50x0x12 N (R := (Sum (Unit) (Unit))) (ll L 1) (li L 2) m (li x 0) (fun p => some (.inl p)) (fun p => some (.inr p))
def sh50x0x12 : Sh := { tmps := [(8, .c (.sl 3)), (9, .c (.i .i64)), (10, .c (.i .i64))], mem := [] }
def A50x0x12 (L : List Lf) : List (Bool × (Ex × St)) := bnd (Q50x0x12 N L N (pk sh50x0x12 [3] L)) fun q => [((inlB q), (.ret, ⟨[(2, .c (.i .i64 9))], []⟩)), ((inrQ q).isSome, ((.exit 0), ⟨[], []⟩))]
theorem step50x0x12 (m : Nat) (kn : St → Option (Ex × St)) (L x : List Lf) : lpB Tryz.prog (T78x0 N) (h50x0s0 N).h 0 50 12 sh50x0x12 [3] [2] [] (m + 100) kn L x = J50x0x12 N L x (fun y => kn (ofSh sh50x0x12 (mx sh50x0x12 [3] L y))) (fun _ => some (.ret, ⟨[(2, .c (.i .i64 9))], []⟩)) (fun _ => some ((.exit 0), ⟨[], []⟩)) := by kernel_rfl
theorem ql50x0x12 (L : List Lf) (m : Nat) (x : List Lf) : Q50x0x12 N L (m + 1) x = J50x0x12 N L x (Q50x0x12 N L m) (fun p => some (.inl p)) (fun p => some (.inr p)) := by kernel_rfl
def h50x0s1 : Sg Tryz.prog 0 50 :=
 (h50x0s0 N).lp (A50x0x12 N) N progOk (T78x0_ok N) (fun m kn L x => (step50x0x12 N m kn L x).trans (sb50x0x12 N L x _ _ _)) (fun L m x => (ql50x0x12 N L m x).trans (sb50x0x12 N L x (Q50x0x12 N L m) (fun p => some (.inl p)) (fun p => some (.inr p)))) fun L x hx => (altS alt1) x hx
def F50x0 (v1 : LD) (k0 : Int → Option R) : Option R :=
 bif (decide ((v1.length : Int) > 1000000)) then
  k0 3
 else
  bnd (G50x0x12 N v1 (v1.length : Int) 0) fun y0 =>
  bif (inlB y0) then
   k0 9
  else
   bif (inrQ y0).isSome then
    k0 0
   else
    none
def G50x0 (v1 : LD) : Option (Int) := F50x0 N v1 (fun p => some p)
theorem bind50x0 (v1 : LD) (k0 : Int → Option R) : F50x0 N v1 k0 = (G50x0 N v1).bind k0 := by
 unfold G50x0 F50x0
 repeat' (first | with_reducible apply cond_b | (with_reducible apply bnd_b; intro _) | rfl)
def sh50x0 : Sh := { tmps := [(0, .c (.sl 3))], mem := [] }
def A50x0 (L : List Lf) : List (Bool × Res) := bnd (F50x0 N (ll L 1) (fun p => some p)) fun q => [(q.isSome, ([.c (.i .i64 (q.getD default))], []))]
theorem raw50x0 (L : List Lf) : bd Tryz.prog (T78x0 N) (h50x0s1 N).h 50 sh50x0 L = F50x0 N (ll L 1) (fun p => some ([.c (.i .i64 p)], [])) := by kernel_rfl
theorem ok50x0 : FnOk Tryz.prog 50 sh50x0 (A50x0 N) :=
 (h50x0s1 N).fn progOk (T78x0_ok N) fun L x hx => ((raw50x0 N L).trans ((bind50x0 N ..).trans (alt1 x hx)))
def T50x0 : Oracle := ext 50 (spSh sh50x0 (A50x0 N)) (T78x0 N)
theorem T50x0_ok : OracleOk Tryz.prog (T50x0 N) := FnOk.to (ok50x0 N) (T78x0_ok N)
def rg51x0 : List (Nat × List Nat) := [(0, [0, 1]), (1, [2, 1]), (2, [2, 1, 5, 6]), (3, [2, 1]), (4, [1, 2, 5, 6]), (5, [1, 2, 5, 6, 7]), (6, [32, 31, 30, 2, 5, 6, 7]), (7, [32, 30, 2, 5, 6, 31, 7]), (9, [2, 9, 5, 6, 32, 31, 30, 7, 8]), (10, [9, 7, 8, 32, 31, 30, 2, 5, 6]), (12, [9, 5, 7, 8, 32, 31, 30, 2, 6]), (8, [7, 8, 9, 6, 32, 31, 30, 2, 5]), (13, [7, 8, 5, 9, 32, 31, 30, 2, 6]), (11, [7, 8, 32, 31, 30, 2, 5, 6]), (14, [32, 31, 30, 2, 5, 6, 7]), (15, [7])]
def hd51x0 : Hints := [(11, [1, 2, 5, 6, 16], [2], []), (18, [2, 5, 6, 7, 30, 31, 32], [2, 29], []), (24041, [2, 5, 6, 7, 8, 9, 30, 31, 32, 68], [2, 29], []), (36035, [2, 5, 6, 7, 8, 9, 30, 31, 32, 62], [2, 29], []), (30002, [2, 5, 6, 7, 8, 9, 30, 31, 32, 48], [2, 29], [])]
def h51x0s0 (N : Nat) : Sg Tryz.prog 0 51 := .start hd51x0 rg51x0
def F51x0x11 (N : Nat) (w2 w3 : Int) (w4 : Bool) (w9 w10 : Int) (k0 : Int × Int → Option R) : Option R :=
 bif w4 then
  bif (!(w10 == 0)) then
   bif (!(w9 == 0)) then
    bnd (IntKind.wrap .i64 ((IntKind.wrap .i64 ((IntKind.wrap .i64 (10000 + w9)) - 1)).tdiv w9)) fun y0 =>
    k0 ((IntKind.wrap .i64 ((10000 : Int).tdiv w10)), y0)
   else
    none
  else
   none
 else
  k0 (w2, w3)
def G51x0x11 (w2 w3 : Int) (w4 : Bool) (w9 w10 : Int) : Option (Int × Int) := F51x0x11 N w2 w3 w4 w9 w10 (fun p => some p)
theorem bind51x0x11 (w2 w3 : Int) (w4 : Bool) (w9 w10 : Int) (k0 : Int × Int → Option R) : F51x0x11 N w2 w3 w4 w9 w10 k0 = (G51x0x11 N w2 w3 w4 w9 w10).bind k0 := by
 unfold G51x0x11 F51x0x11
 repeat' (first | with_reducible apply cond_b | (with_reducible apply bnd_b; intro _) | rfl)
def J51x0x11 (L : List Lf) (k0 : Int × Int → Option R) : Option R := F51x0x11 N (li L 2) (li L 3) (lb L 4) (li L 9) (li L 10) k0
def sh51x0x11 : Sh := { tmps := [(1, .c (.sl 3)), (2, .c (.p 2 0)), (5, .c (.i .i64)), (6, .c (.i .i64)), (16, .c (.b))], mem := [(2, .box (.i .i64 :: .i .i64 :: .s :: rI 5 ([])))] }
def K51x0x11w0 (L : List Lf) (p : Int × Int) : Ex × St := (.normal, mg (ofSh sh51x0x11 L) [1, 2, 5, 6] [(5, .c (.i .i64 p.1)), (6, .c (.i .i64 p.2))] [2] [])
def A51x0x11 (L : List Lf) : List (Bool × (Ex × St)) := bnd (J51x0x11 N L (fun p => some p)) fun q => [(q.isSome, K51x0x11w0 L (q.getD default))]
theorem raw51x0x11 (L : List Lf) : pc Tryz.prog (T50x0 N) (h51x0s0 N).h 0 100 51 11 sh51x0x11 L [1, 2, 5, 6] [2] = J51x0x11 N L (fun p => some (K51x0x11w0 L p)) := by kernel_rfl
def h51x0s1 : Sg Tryz.prog 0 51 :=
 (h51x0s0 N).cut (A51x0x11 N) progOk (T50x0_ok N) fun L x hx => (raw51x0x11 N L).trans ((bind51x0x11 N ..).trans (alt1 x hx))
def F51x0x24041 (N : Nat) (w0 w1 w2 w3 : Int) (w8 : Bool) (w18 : LD) (k0 : LD → Option R) : Option R :=
 bif w8 then
  bif (!((max2 w0 1) == 0)) then
   bnd (IntKind.wrap .i64 ((IntKind.wrap .i64 (1000 * (IntKind.wrap .i64 (w0 - w3)))).tdiv (max2 w0 1))) fun y0 =>
   bif (inB w2 w18.length) then
    bif (decide (w2.toNat < w18.length)) then
     k0 (w18.set w2.toNat (.i (min2 y0 1000)))
    else
     none
   else
    none
  else
   none
 else
  bif (!((max2 w1 1) == 0)) then
   bnd (IntKind.wrap .i64 ((IntKind.wrap .i64 (1000 * (IntKind.wrap .i64 (w3 - w1)))).tdiv (max2 w1 1))) fun y1 =>
   bif (inB w2 w18.length) then
    bif (decide (w2.toNat < w18.length)) then
     k0 (w18.set w2.toNat (.i (min2 y1 1000)))
    else
     none
   else
    none
  else
   none
def G51x0x24041 (w0 w1 w2 w3 : Int) (w8 : Bool) (w18 : LD) : Option (LD) := F51x0x24041 N w0 w1 w2 w3 w8 w18 (fun p => some p)
theorem bind51x0x24041 (w0 w1 w2 w3 : Int) (w8 : Bool) (w18 : LD) (k0 : LD → Option R) : F51x0x24041 N w0 w1 w2 w3 w8 w18 k0 = (G51x0x24041 N w0 w1 w2 w3 w8 w18).bind k0 := by
 unfold G51x0x24041 F51x0x24041
 repeat' (first | with_reducible apply cond_b | (with_reducible apply bnd_b; intro _) | rfl)
def J51x0x24041 (L : List Lf) (k0 : LD → Option R) : Option R := F51x0x24041 N (li L 0) (li L 1) (li L 2) (li L 3) (lb L 8) (ll L 18) k0
def sh51x0x24041 : Sh := { tmps := [(2, .c (.p 2 0)), (5, .c (.i .i64)), (6, .c (.i .i64)), (7, .c (.o 29)), (8, .c (.i .i64)), (9, .c (.i .i64)), (30, .c (.sl 3)), (31, .c (.i .i64)), (32, .c (.i .i64)), (68, .c (.b))], mem := [(2, .box (.i .i64 :: .i .i64 :: .s :: rI 5 ([]))), (29, .row 3 true)] }
def K51x0x24041w0 (L : List Lf) (p : LD) : Ex × St := (.normal, mg (ofSh sh51x0x24041 L) [32, 31, 30, 2, 5, 6, 7] [] [29, 2] [(29, .row 3 true (lb L 17) p)])
def A51x0x24041 (L : List Lf) : List (Bool × (Ex × St)) := bnd (J51x0x24041 N L (fun p => some p)) fun q => [(q.isSome, K51x0x24041w0 L (q.getD default))]
theorem raw51x0x24041 (L : List Lf) : pc Tryz.prog (T50x0 N) (h51x0s1 N).h 0 100 51 24041 sh51x0x24041 L [32, 31, 30, 2, 5, 6, 7] [29, 2] = J51x0x24041 N L (fun p => some (K51x0x24041w0 L p)) := by kernel_rfl
def h51x0s2 : Sg Tryz.prog 0 51 :=
 (h51x0s1 N).cut (A51x0x24041 N) progOk (T50x0_ok N) fun L x hx => (raw51x0x24041 N L).trans ((bind51x0x24041 N ..).trans (alt1 x hx))
def F51x0x36035 (w0 w1 w2 w3 : Int) (w8 : Bool) (w18 : LD) (k0 : LD → Option R) : Option R :=
 bif w8 then
  bif (inB w2 w18.length) then
   bif (decide (w2.toNat < w18.length)) then
    k0 (w18.set w2.toNat (.i 1000))
   else
    none
  else
   none
 else
  bnd (G51x0x24041 N w0 w1 w2 w3 (decide (w3 < w0)) w18) fun y0 =>
  bif y0.isSome then
   k0 (y0.getD default)
  else
   none
def G51x0x36035 (w0 w1 w2 w3 : Int) (w8 : Bool) (w18 : LD) : Option (LD) := F51x0x36035 N w0 w1 w2 w3 w8 w18 (fun p => some p)
theorem bind51x0x36035 (w0 w1 w2 w3 : Int) (w8 : Bool) (w18 : LD) (k0 : LD → Option R) : F51x0x36035 N w0 w1 w2 w3 w8 w18 k0 = (G51x0x36035 N w0 w1 w2 w3 w8 w18).bind k0 := by
 unfold G51x0x36035 F51x0x36035
 repeat' (first | with_reducible apply cond_b | (with_reducible apply bnd_b; intro _) | rfl)
def J51x0x36035 (L : List Lf) (k0 : LD → Option R) : Option R := F51x0x36035 N (li L 0) (li L 1) (li L 2) (li L 3) (lb L 8) (ll L 18) k0
def sh51x0x36035 : Sh := { tmps := [(2, .c (.p 2 0)), (5, .c (.i .i64)), (6, .c (.i .i64)), (7, .c (.o 29)), (8, .c (.i .i64)), (9, .c (.i .i64)), (30, .c (.sl 3)), (31, .c (.i .i64)), (32, .c (.i .i64)), (62, .c (.b))], mem := [(2, .box (.i .i64 :: .i .i64 :: .s :: rI 5 ([]))), (29, .row 3 true)] }
def K51x0x36035w0 (L : List Lf) (p : LD) : Ex × St := (.normal, mg (ofSh sh51x0x36035 L) [32, 31, 30, 2, 5, 6, 7] [] [29, 2] [(29, .row 3 true (lb L 17) p)])
def A51x0x36035 (L : List Lf) : List (Bool × (Ex × St)) := bnd (J51x0x36035 N L (fun p => some p)) fun q => [(q.isSome, K51x0x36035w0 L (q.getD default))]
theorem raw51x0x36035 (L : List Lf) : pc Tryz.prog (T50x0 N) (h51x0s2 N).h 0 100 51 36035 sh51x0x36035 L [32, 31, 30, 2, 5, 6, 7] [29, 2] = J51x0x36035 N L (fun p => some (K51x0x36035w0 L p)) := by kernel_rfl
def h51x0s3 : Sg Tryz.prog 0 51 :=
 (h51x0s2 N).cut (A51x0x36035 N) progOk (T50x0_ok N) fun L x hx => (raw51x0x36035 N L).trans ((bind51x0x36035 N ..).trans (alt1 x hx))
def F51x0x30002 (w0 w1 w2 w3 : Int) (w8 : Bool) (w18 : LD) (k0 : LD → Option R) : Option R :=
 bif w8 then
  k0 w18
 else
  bnd (G51x0x36035 N w0 w1 w2 w3 (decide (w3 < 0)) w18) fun y0 =>
  bif y0.isSome then
   k0 (y0.getD default)
  else
   none
def G51x0x30002 (w0 w1 w2 w3 : Int) (w8 : Bool) (w18 : LD) : Option (LD) := F51x0x30002 N w0 w1 w2 w3 w8 w18 (fun p => some p)
theorem bind51x0x30002 (w0 w1 w2 w3 : Int) (w8 : Bool) (w18 : LD) (k0 : LD → Option R) : F51x0x30002 N w0 w1 w2 w3 w8 w18 k0 = (G51x0x30002 N w0 w1 w2 w3 w8 w18).bind k0 := by
 unfold G51x0x30002 F51x0x30002
 repeat' (first | with_reducible apply cond_b | (with_reducible apply bnd_b; intro _) | rfl)
def J51x0x30002 (L : List Lf) (k0 : LD → Option R) : Option R := F51x0x30002 N (li L 0) (li L 1) (li L 2) (li L 3) (lb L 8) (ll L 18) k0
def sh51x0x30002 : Sh := { tmps := [(2, .c (.p 2 0)), (5, .c (.i .i64)), (6, .c (.i .i64)), (7, .c (.o 29)), (8, .c (.i .i64)), (9, .c (.i .i64)), (30, .c (.sl 3)), (31, .c (.i .i64)), (32, .c (.i .i64)), (48, .c (.b))], mem := [(2, .box (.i .i64 :: .i .i64 :: .s :: rI 5 ([]))), (29, .row 3 true)] }
def K51x0x30002w0 (L : List Lf) (p : LD) : Ex × St := (.normal, mg (ofSh sh51x0x30002 L) [32, 31, 30, 2, 5, 6, 7] [] [29, 2] [(29, .row 3 true (lb L 17) p)])
def A51x0x30002 (L : List Lf) : List (Bool × (Ex × St)) := bnd (J51x0x30002 N L (fun p => some p)) fun q => [(q.isSome, K51x0x30002w0 L (q.getD default))]
theorem raw51x0x30002 (L : List Lf) : pc Tryz.prog (T50x0 N) (h51x0s3 N).h 0 100 51 30002 sh51x0x30002 L [32, 31, 30, 2, 5, 6, 7] [29, 2] = J51x0x30002 N L (fun p => some (K51x0x30002w0 L p)) := by kernel_rfl
def h51x0s4 : Sg Tryz.prog 0 51 :=
 (h51x0s3 N).cut (A51x0x30002 N) progOk (T50x0_ok N) fun L x hx => (raw51x0x30002 N L).trans ((bind51x0x30002 N ..).trans (alt1 x hx))
def S51x0x18 (w0 w1 : Int) (w3 : LD) (w4 w9 : Int) (w5 : Int) (w15 : LD) (kr : Int → LD → Option R) (k0 : LD → Option R) : Option R :=
 bif (decide (w5 < w4)) then
  bif (inB w5 w3.length) then
   bnd (bif (w9 == 0) then true else (bif (decide ((w3.getD w5.toNat (.i 0)).toI ≥ w0)) then (decide ((w3.getD w5.toNat (.i 0)).toI ≤ w1)) else false)) fun y0 =>
   bnd (G51x0x30002 N w0 w1 w5 (w3.getD w5.toNat (.i 0)).toI y0 w15) fun y1 =>
   bif y1.isSome then
    kr (IntKind.wrap .i64 (w5 + 1)) (y1.getD default)
   else
    none
  else
   none
 else
  k0 w15
def L51x0x18 (N : Nat) {R : Type} (w0 w1 : Int) (w3 : LD) (w4 w9 : Int) : Nat → Int → LD → (LD → Option R) → Option R
 | 0, _, _, _ => none
 | m + 1, w5, w15, k0 => S51x0x18 N w0 w1 w3 w4 w9 w5 w15 (fun w5 w15 => L51x0x18 N w0 w1 w3 w4 w9 m w5 w15 k0) k0
def G51x0x18 (w0 w1 : Int) (w3 : LD) (w4 w9 : Int) (w5 : Int) (w15 : LD) : Option (LD) := L51x0x18 N (R := (LD)) w0 w1 w3 w4 w9 N w5 w15 (fun p => some p)
def J51x0x18 (L x : List Lf) (kr : List Lf → Option R) (k0 : LD → Option R) : Option R := S51x0x18 N (li L 0) (li L 1) (ll L 3) (li L 4) (li L 9) (li x 0) (ll x 1) (fun w5 w15 => kr [.i w5, .l w15]) k0
theorem sb51x0x18 (L x : List Lf) (kr : List Lf → Option R) (k0 : LD → Option R) : J51x0x18 N L x kr k0 = (J51x0x18 N L x (fun y => some (.inl y)) (fun p => some (.inr p))).bind (sumE kr k0) := by
 unfold J51x0x18 S51x0x18
 repeat' (first | with_reducible apply cond_b | (with_reducible apply bnd_b; intro _) | rfl)
def Q51x0x18 (L : List Lf) (m : Nat) (x : List Lf) : Option (LD) := L51x0x18 N (R := (LD)) (li L 0) (li L 1) (ll L 3) (li L 4) (li L 9) m (li x 0) (ll x 1) (fun p => some p)
def sh51x0x18 : Sh := { tmps := [(2, .c (.p 2 0)), (5, .c (.i .i64)), (6, .c (.i .i64)), (7, .c (.o 29)), (30, .c (.sl 3)), (31, .c (.i .i64)), (32, .c (.i .i64))], mem := [(2, .box (.i .i64 :: .i .i64 :: .s :: rI 5 ([]))), (29, .row 3 true)] }
def K51x0x18w0 (L : List Lf) (p : LD) : Ex × St := ((.exit 0), ⟨[(7, .c (.o 29))], [(29, .row 3 true (lb L 14) p)]⟩)
def A51x0x18 (L : List Lf) : List (Bool × (Ex × St)) := bnd (Q51x0x18 N L N (pk sh51x0x18 [5, 15] L)) fun q => [(q.isSome, K51x0x18w0 L (q.getD default))]
theorem step51x0x18 (m : Nat) (kn : St → Option (Ex × St)) (L x : List Lf) : lpB Tryz.prog (T50x0 N) (h51x0s4 N).h 0 51 18 sh51x0x18 [5, 15] [4, 7] [29] (m + 100) kn L x = J51x0x18 N L x (fun y => kn (ofSh sh51x0x18 (mx sh51x0x18 [5, 15] L y))) (fun p => some (K51x0x18w0 L p)) := by kernel_rfl
theorem ql51x0x18 (L : List Lf) (m : Nat) (x : List Lf) : Q51x0x18 N L (m + 1) x = J51x0x18 N L x (Q51x0x18 N L m) some := by kernel_rfl
def h51x0s5 : Sg Tryz.prog 0 51 :=
 (h51x0s4 N).lp (A51x0x18 N) N progOk (T50x0_ok N) (fun m kn L x => (step51x0x18 N m kn L x).trans (sb51x0x18 N L x _ _)) (fun L m x => (ql51x0x18 N L m x).trans (sb51x0x18 N L x (Q51x0x18 N L m) some)) fun L x hx => alt1 x hx
def F51x0 (v3 v4 v5 : Int) (v9 : LD) (k0 : LD → Option R) : Option R :=
 bnd (G51x0x11 N v4 v5 (v3 == 4) v4 v5) fun y0 =>
 bif y0.isSome then
  bif (((decide (0 ≤ (v9.length : Int))) && (decide ((v9.length : Int) ≤ (v9.length : Int)))) && (decide ((v9.length : Int).toNat * 8 ≤ room) && decide ((v9.length : Int).toNat ≤ strMax))) then
   bnd (G51x0x18 N (y0.getD default).1 (y0.getD default).2 v9 (v9.length : Int) v3 0 (List.replicate (v9.length : Int).toNat ((.i 0) : D))) fun y1 =>
   bif y1.isSome then
    k0 (y1.getD default)
   else
    none
  else
   none
 else
  none
def G51x0 (v3 v4 v5 : Int) (v9 : LD) : Option (LD) := F51x0 N v3 v4 v5 v9 (fun p => some p)
theorem bind51x0 (v3 v4 v5 : Int) (v9 : LD) (k0 : LD → Option R) : F51x0 N v3 v4 v5 v9 k0 = (G51x0 N v3 v4 v5 v9).bind k0 := by
 unfold G51x0 F51x0
 repeat' (first | with_reducible apply cond_b | (with_reducible apply bnd_b; intro _) | rfl)
def J51x0 (L : List Lf) (k0 : LD → Option R) : Option R := F51x0 N (li L 3) (li L 4) (li L 5) (ll L 9) k0
def sh51x0 : Sh := { tmps := [(0, .g (.i .i64 :: .i .i64 :: .s :: rI 5 ([]))), (1, .c (.sl 3))], mem := [] }
def A51x0 (L : List Lf) : List (Bool × Res) := bnd (J51x0 N L (fun p => some p)) fun q => [(q.isSome, ([.c (.sl 3 false (q.getD default))], []))]
theorem raw51x0 (L : List Lf) : bd Tryz.prog (T50x0 N) (h51x0s5 N).h 51 sh51x0 L = J51x0 N L (fun p => some ([.c (.sl 3 false p)], [])) := by kernel_rfl
theorem ok51x0 : FnOk Tryz.prog 51 sh51x0 (A51x0 N) :=
 (h51x0s5 N).fn progOk (T50x0_ok N) fun L x hx => ((raw51x0 N L).trans ((bind51x0 N ..).trans (alt1 x hx)))
def T51x0 : Oracle := ext 51 (spSh sh51x0 (A51x0 N)) (T50x0 N)
theorem T51x0_ok : OracleOk Tryz.prog (T51x0 N) := FnOk.to (ok51x0 N) (T50x0_ok N)
def rg22x0 : List (Nat × List Nat) := [(0, [0, 1]), (1, [2, 1]), (3, [2, 1]), (4, [2, 1]), (6, [2, 1]), (7, []), (5, []), (2, []), (8, [1, 2]), (9, [6, 2, 1]), (10, [6]), (11, [2, 1])]
def hd22x0 : Hints := [(13, [1, 2], [2], []), (12002, [1, 2, 12], [2], [])]
def h22x0s0 (N : Nat) : Sg Tryz.prog 0 22 := .start hd22x0 rg22x0
def F22x0x13 (w6 w7 : Int) (k0 : Bool → R) : R :=
 bnd (V48x0 N w6 1 40000) fun y0 =>
 bif (!y0) then
  k0 true
 else
  bnd (V48x0 N w7 1 40000) fun y1 =>
  k0 (!y1)
def V22x0x13 (w6 w7 : Int) : Bool := F22x0x13 N w6 w7 (fun p => p)
theorem tot22x0x13 (w6 w7 : Int) (k0 : Bool → R) : F22x0x13 N w6 w7 k0 = k0 (V22x0x13 N w6 w7) := by
 unfold V22x0x13 F22x0x13
 repeat' (first | rfl | apply cond_k | (apply bnd_k; intro _))
def sh22x0x13 : Sh := { tmps := [(1, .c (.sl 3)), (2, .c (.p 2 0))], mem := [(2, .box (.i .i64 :: .i .i64 :: .s :: rI 5 ([])))] }
def K22x0x13w0 (L : List Lf) (p : Bool) : Ex × St := (.normal, mg (ofSh sh22x0x13 L) [2, 1, 16] [(16, .c (.b p))] [2] [])
def A22x0x13 (L : List Lf) : List (Bool × (Ex × St)) := bnd (F22x0x13 N (li L 6) (li L 7) (fun p => p)) fun q => [(true, K22x0x13w0 L q)]
theorem raw22x0x13 (L : List Lf) : pc Tryz.prog (T51x0 N) (h22x0s0 N).h 0 100 22 13 sh22x0x13 L [2, 1, 16] [2] = F22x0x13 N (li L 6) (li L 7) (fun p => some (K22x0x13w0 L p)) := by kernel_rfl
def h22x0s1 : Sg Tryz.prog 0 22 :=
 (h22x0s0 N).cut (A22x0x13 N) progOk (T51x0_ok N) fun L x hx => (raw22x0x13 N L).trans ((tot22x0x13 N ..).trans (alt0 _ _ hx))
def F22x0x12002 (w2 : Bool) (w7 w8 : Int) (k0 : Unit → Option R) (k1 : Int → Option R) : Option R :=
 bif w2 then
  k0 ()
 else
  bnd (V22x0x13 N w7 w8) fun y0 =>
  bif y0 then
   k1 9
  else
   bif (decide (w7 > w8)) then
    k1 10
   else
    k0 ()
def G22x0x12002 (w2 : Bool) (w7 w8 : Int) : Option (Sum (Unit) (Int)) := F22x0x12002 N w2 w7 w8 (fun p => some (.inl p)) (fun p => some (.inr p))
theorem bind22x0x12002 (w2 : Bool) (w7 w8 : Int) (k0 : Unit → Option R) (k1 : Int → Option R) : F22x0x12002 N w2 w7 w8 k0 k1 = (G22x0x12002 N w2 w7 w8).bind (sumE k0 k1) := by
 unfold G22x0x12002 F22x0x12002
 repeat' (first | with_reducible apply cond_b | (with_reducible apply bnd_b; intro _) | rfl)
def sh22x0x12002 : Sh := { tmps := [(1, .c (.sl 3)), (2, .c (.p 2 0)), (12, .c (.b))], mem := [(2, .box (.i .i64 :: .i .i64 :: .s :: rI 5 ([])))] }
def K22x0x12002w1 (L : List Lf) (p : Int) : Ex × St := (.ret, mg (ofSh sh22x0x12002 L) [4, 5] [(4, .c (.sl 3 true [])), (5, .c (.i .i64 p))] [2] [])
def A22x0x12002 (L : List Lf) : List (Bool × (Ex × St)) := bnd (F22x0x12002 N (lb L 2) (li L 7) (li L 8) (fun p => some (.inl p)) (fun p => some (.inr p))) fun q => [((inlB q), (.normal, mg (ofSh sh22x0x12002 L) [1, 2] [] [2] [])), ((inrQ q).isSome, K22x0x12002w1 L ((inrQ q).getD default))]
theorem raw22x0x12002 (L : List Lf) : pc Tryz.prog (T51x0 N) (h22x0s1 N).h 0 100 22 12002 sh22x0x12002 L [1, 2, 4, 5] [2] = F22x0x12002 N (lb L 2) (li L 7) (li L 8) (fun _ => some (.normal, mg (ofSh sh22x0x12002 L) [1, 2] [] [2] [])) (fun p => some (K22x0x12002w1 L p)) := by kernel_rfl
def h22x0s2 : Sg Tryz.prog 0 22 :=
 (h22x0s1 N).cut (A22x0x12002 N) progOk (T51x0_ok N) fun L x hx => (raw22x0x12002 N L).trans ((bind22x0x12002 N ..).trans ((altS alt1) x hx))
def F22x0 (v3 v4 v5 : Int) (v9 : LD) (k0 : Bool × LD × Int → Option R) : Option R :=
 bnd (V48x0 N v3 0 4) fun y0 =>
 bif (!y0) then
  k0 (true, [], 7)
 else
  bnd (G22x0x12002 N (v3 == 0) v4 v5) fun y1 =>
  bif (inlB y1) then
   bnd (G50x0 N v9) fun y2 =>
   bif y2.isSome then
    bif ((y2.getD default) != 0) then
     k0 (true, [], (y2.getD default))
    else
     bnd (G51x0 N v3 v4 v5 v9) fun y3 =>
     bif y3.isSome then
      k0 (false, (y3.getD default), 0)
     else
      none
   else
    none
  else
   bif (inrQ y1).isSome then
    k0 (true, [], ((inrQ y1).getD default))
   else
    none
def G22x0 (v3 v4 v5 : Int) (v9 : LD) : Option (Bool × LD × Int) := F22x0 N v3 v4 v5 v9 (fun p => some p)
theorem bind22x0 (v3 v4 v5 : Int) (v9 : LD) (k0 : Bool × LD × Int → Option R) : F22x0 N v3 v4 v5 v9 k0 = (G22x0 N v3 v4 v5 v9).bind k0 := by
 unfold G22x0 F22x0
 repeat' (first | with_reducible apply cond_b | (with_reducible apply bnd_b; intro _) | rfl)
def J22x0 (L : List Lf) (k0 : Bool × LD × Int → Option R) : Option R := F22x0 N (li L 3) (li L 4) (li L 5) (ll L 9) k0
def sh22x0 : Sh := { tmps := [(0, .g (.i .i64 :: .i .i64 :: .s :: rI 5 ([]))), (1, .c (.sl 3))], mem := [] }
def A22x0 (L : List Lf) : List (Bool × Res) := bnd (J22x0 N L (fun p => some p)) fun q => [(q.isSome, ([.c (.sl 3 (q.getD default).1 (q.getD default).2.1), .c (.i .i64 (q.getD default).2.2)], []))]
theorem raw22x0 (L : List Lf) : bd Tryz.prog (T51x0 N) (h22x0s2 N).h 22 sh22x0 L = J22x0 N L (fun p => some ([.c (.sl 3 p.1 p.2.1), .c (.i .i64 p.2.2)], [])) := by kernel_rfl
theorem ok22x0 : FnOk Tryz.prog 22 sh22x0 (A22x0 N) :=
 (h22x0s2 N).fn progOk (T51x0_ok N) fun L x hx => ((raw22x0 N L).trans ((bind22x0 N ..).trans (alt1 x hx)))
def T22x0 : Oracle := ext 22 (spSh sh22x0 (A22x0 N)) (T51x0 N)
theorem T22x0_ok : OracleOk Tryz.prog (T22x0 N) := FnOk.to (ok22x0 N) (T51x0_ok N)
def rg5x0 : List (Nat × List Nat) := [(0, [0, 1, 2]), (1, [1, 2, 3]), (2, []), (3, [3, 1, 2]), (4, [8, 3, 7, 1, 2]), (5, []), (6, [7, 1, 3, 2]), (7, []), (8, [1, 3, 7, 2]), (10, [1, 3, 7, 2]), (11, [7, 1, 3]), (9, [7]), (12, [1, 2, 3, 7])]
def hd5x0 : Hints := [(28, [7], [], []), (34, [1, 3, 7], [3], []), (37, [1, 2, 3, 7], [3], [])]
def h5x0s0 (N : Nat) : Sg Tryz.prog 0 5 := .start hd5x0 rg5x0
def F5x0x28 (N : Nat) (w1 : LD) (k0 : Bool → Option R) : Option R :=
 bif (inB 0 w1.length) then
  bif ((w1.getD 0 (.i 0)).toI == 0) then
   k0 true
  else
   k0 false
 else
  none
def G5x0x28 (w1 : LD) : Option (Bool) := F5x0x28 N w1 (fun p => some p)
theorem bind5x0x28 (w1 : LD) (k0 : Bool → Option R) : F5x0x28 N w1 k0 = (G5x0x28 N w1).bind k0 := by
 unfold G5x0x28 F5x0x28
 repeat' (first | with_reducible apply cond_b | (with_reducible apply bnd_b; intro _) | rfl)
def sh5x0x28 : Sh := { tmps := [(7, .c (.sl 3))], mem := [] }
def A5x0x28 (L : List Lf) : List (Bool × (Ex × St)) := bnd (F5x0x28 N (ll L 1) (fun p => some p)) fun q => [(q.isSome, (.normal, ⟨[(6, .c (.b (q.getD default)))], []⟩))]
theorem raw5x0x28 (L : List Lf) : pc Tryz.prog (T22x0 N) (h5x0s0 N).h 0 100 5 28 sh5x0x28 L [6] [] = F5x0x28 N (ll L 1) (fun p => some (.normal, ⟨[(6, .c (.b p))], []⟩)) := by kernel_rfl
def h5x0s1 : Sg Tryz.prog 0 5 :=
 (h5x0s0 N).cut (A5x0x28 N) progOk (T22x0_ok N) fun L x hx => (raw5x0x28 N L).trans ((bind5x0x28 N ..).trans (alt1 x hx))
def F5x0x34 (N : Nat) (w0 : Int) (w2 : LD) (w8 : Int) (k0 : Bool → Option R) : Option R :=
 bif (inB 1 w2.length) then
  bif (inB 0 w2.length) then
   bif (decide ((w2.getD 1 (.i 0)).toI ≥ (w2.getD 0 (.i 0)).toI)) then
    bif (inB 0 w2.length) then
     bnd (decide ((IntKind.wrap .i64 (1000 * (IntKind.wrap .i64 (w0 - w8)))) ≥ w8)) fun y0 =>
     bif ((decide ((w2.getD 0 (.i 0)).toI > 0)) == y0) then
      k0 true
     else
      k0 false
    else
     none
   else
    k0 false
  else
   none
 else
  none
def G5x0x34 (w0 : Int) (w2 : LD) (w8 : Int) : Option (Bool) := F5x0x34 N w0 w2 w8 (fun p => some p)
theorem bind5x0x34 (w0 : Int) (w2 : LD) (w8 : Int) (k0 : Bool → Option R) : F5x0x34 N w0 w2 w8 k0 = (G5x0x34 N w0 w2 w8).bind k0 := by
 unfold G5x0x34 F5x0x34
 repeat' (first | with_reducible apply cond_b | (with_reducible apply bnd_b; intro _) | rfl)
def sh5x0x34 : Sh := { tmps := [(1, .c (.i .i64)), (3, .c (.p 3 0)), (7, .c (.sl 3))], mem := [(3, .box (.i .i64 :: .i .i64 :: .s :: rI 5 ([])))] }
def A5x0x34 (L : List Lf) : List (Bool × (Ex × St)) := bnd (F5x0x34 N (li L 0) (ll L 2) (li L 8) (fun p => some p)) fun q => [(q.isSome, (.normal, ⟨[(6, .c (.b (q.getD default)))], []⟩))]
theorem raw5x0x34 (L : List Lf) : pc Tryz.prog (T22x0 N) (h5x0s1 N).h 0 100 5 34 sh5x0x34 L [6] [] = F5x0x34 N (li L 0) (ll L 2) (li L 8) (fun p => some (.normal, ⟨[(6, .c (.b p))], []⟩)) := by kernel_rfl
def h5x0s2 : Sg Tryz.prog 0 5 :=
 (h5x0s1 N).cut (A5x0x34 N) progOk (T22x0_ok N) fun L x hx => (raw5x0x34 N L).trans ((bind5x0x34 N ..).trans (alt1 x hx))
def F5x0x37 (N : Nat) (w0 w1 : Int) (w3 : LD) (w8 : Int) (k0 : Bool → Option R) : Option R :=
 bif (decide ((IntKind.wrap .i64 (w0 + w1)) > w8)) then
  k0 true
 else
  bif (inB 1 w3.length) then
   bif (inB 0 w3.length) then
    bif (decide ((w3.getD 1 (.i 0)).toI ≤ (w3.getD 0 (.i 0)).toI)) then
     k0 true
    else
     k0 false
   else
    none
  else
   none
def G5x0x37 (w0 w1 : Int) (w3 : LD) (w8 : Int) : Option (Bool) := F5x0x37 N w0 w1 w3 w8 (fun p => some p)
theorem bind5x0x37 (w0 w1 : Int) (w3 : LD) (w8 : Int) (k0 : Bool → Option R) : F5x0x37 N w0 w1 w3 w8 k0 = (G5x0x37 N w0 w1 w3 w8).bind k0 := by
 unfold G5x0x37 F5x0x37
 repeat' (first | with_reducible apply cond_b | (with_reducible apply bnd_b; intro _) | rfl)
def J5x0x37 (L : List Lf) (k0 : Bool → Option R) : Option R := F5x0x37 N (li L 0) (li L 1) (ll L 3) (li L 8) k0
def sh5x0x37 : Sh := { tmps := [(1, .c (.i .i64)), (2, .c (.i .i64)), (3, .c (.p 3 0)), (7, .c (.sl 3))], mem := [(3, .box (.i .i64 :: .i .i64 :: .s :: rI 5 ([])))] }
def A5x0x37 (L : List Lf) : List (Bool × (Ex × St)) := bnd (J5x0x37 N L (fun p => some p)) fun q => [(q.isSome, (.normal, ⟨[(6, .c (.b (q.getD default)))], []⟩))]
theorem raw5x0x37 (L : List Lf) : pc Tryz.prog (T22x0 N) (h5x0s2 N).h 0 100 5 37 sh5x0x37 L [6] [] = J5x0x37 N L (fun p => some (.normal, ⟨[(6, .c (.b p))], []⟩)) := by kernel_rfl
def h5x0s3 : Sg Tryz.prog 0 5 :=
 (h5x0s2 N).cut (A5x0x37 N) progOk (T22x0_ok N) fun L x hx => (raw5x0x37 N L).trans ((bind5x0x37 N ..).trans (alt1 x hx))
def F5x0 (v3 v4 v5 v8 v9 : Int) (k0 : Bool → Option R) : Option R :=
 bnd (bif (decide (v8 < 0)) then true else (decide (v8 > 1000000))) fun y0 =>
 bnd (bif (bif y0 then true else (decide (v9 < 0))) then true else (decide (v9 > 1000000))) fun y1 =>
 bif y1 then
  k0 true
 else
  bnd (G22x0 N v3 v4 v5 [(.i v8), (.i (IntKind.wrap .i64 (v8 + v9)))]) fun y2 =>
  bif y2.isSome then
   bnd (bif ((y2.getD default).2.2 != 0) then true else (v3 == 0)) fun y3 =>
   bif (bif y3 then true else (v3 == 4)) then
    k0 true
   else
    bif (((y2.getD default).2.1.length : Int) != 2) then
     k0 false
    else
     bif (bif (decide (v8 ≥ v4)) then (decide (v8 ≤ v5)) else false) then
      bnd (G5x0x28 N (y2.getD default).2.1) fun y4 =>
      bif y4.isSome then
       k0 (y4.getD default)
      else
       none
     else
      bif (decide (v8 > v5)) then
       bnd (G5x0x34 N v8 (y2.getD default).2.1 v5) fun y5 =>
       bif y5.isSome then
        k0 (y5.getD default)
       else
        none
      else
       bnd (G5x0x37 N v8 v9 (y2.getD default).2.1 v4) fun y6 =>
       bif y6.isSome then
        k0 (y6.getD default)
       else
        none
  else
   none
def G5x0 (v3 v4 v5 v8 v9 : Int) : Option (Bool) := F5x0 N v3 v4 v5 v8 v9 (fun p => some p)
theorem bind5x0 (v3 v4 v5 v8 v9 : Int) (k0 : Bool → Option R) : F5x0 N v3 v4 v5 v8 v9 k0 = (G5x0 N v3 v4 v5 v8 v9).bind k0 := by
 unfold G5x0 F5x0
 repeat' (first | with_reducible apply cond_b | (with_reducible apply bnd_b; intro _) | rfl)
def J5x0 (L : List Lf) (k0 : Bool → Option R) : Option R := F5x0 N (li L 3) (li L 4) (li L 5) (li L 8) (li L 9) k0
def sh5x0 : Sh := { tmps := [(0, .g (.i .i64 :: .i .i64 :: .s :: rI 5 ([]))), (1, .c (.i .i64)), (2, .c (.i .i64))], mem := [] }
def A5x0 (L : List Lf) : List (Bool × Res) := bnd (J5x0 N L (fun p => some p)) fun q => [(q.isSome, ([.c (.b (q.getD default))], []))]
theorem raw5x0 (L : List Lf) : bd Tryz.prog (T22x0 N) (h5x0s3 N).h 5 sh5x0 L = J5x0 N L (fun p => some ([.c (.b p)], [])) := by kernel_rfl
theorem ok5x0 : FnOk Tryz.prog 5 sh5x0 (A5x0 N) :=
 (h5x0s3 N).fn progOk (T22x0_ok N) fun L x hx => ((raw5x0 N L).trans ((bind5x0 N ..).trans (alt1 x hx)))
def T5x0 : Oracle := ext 5 (spSh sh5x0 (A5x0 N)) (T22x0 N)
theorem T5x0_ok : OracleOk Tryz.prog (T5x0 N) := FnOk.to (ok5x0 N) (T22x0_ok N)
def rg49x0 : List (Nat × List Nat) := [(0, [0, 1, 2]), (1, [0, 1, 2])]
def hd49x0 : Hints := []
def h49x0s0 (N : Nat) : Sg Tryz.prog 0 49 := .start hd49x0 rg49x0
def F49x0 (N : Nat) (v0 v1 v2 : Int) (k0 : Bool → R) : R :=
 k0 (bif (decide (v0 < v1)) then true else (decide (v0 > v2)))
def V49x0 (v0 v1 v2 : Int) : Bool := F49x0 N v0 v1 v2 (fun p => p)
theorem tot49x0 (v0 v1 v2 : Int) (k0 : Bool → R) : F49x0 N v0 v1 v2 k0 = k0 (V49x0 N v0 v1 v2) := by
 unfold V49x0 F49x0
 repeat' (first | rfl | apply cond_k | (apply bnd_k; intro _))
def sh49x0 : Sh := { tmps := [(0, .c (.i .i64)), (1, .c (.i .i64)), (2, .c (.i .i64))], mem := [] }
def A49x0 (L : List Lf) : List (Bool × Res) := bnd (F49x0 N (li L 0) (li L 1) (li L 2) (fun p => p)) fun q => [(true, ([.c (.b q)], []))]
theorem raw49x0 (L : List Lf) : bd Tryz.prog (T5x0 N) (h49x0s0 N).h 49 sh49x0 L = F49x0 N (li L 0) (li L 1) (li L 2) (fun p => some ([.c (.b p)], [])) := by kernel_rfl
theorem ok49x0 : FnOk Tryz.prog 49 sh49x0 (A49x0 N) :=
 (h49x0s0 N).fn progOk (T5x0_ok N) fun L x hx => ((raw49x0 N L).trans ((tot49x0 N ..).trans (alt0 _ _ hx)))
def T49x0 : Oracle := ext 49 (spSh sh49x0 (A49x0 N)) (T5x0 N)
theorem T49x0_ok : OracleOk Tryz.prog (T49x0 N) := FnOk.to (ok49x0 N) (T5x0_ok N)
def rg52x0 : List (Nat × List Nat) := [(0, [0]), (1, [0]), (2, []), (3, [0]), (4, [10, 9, 8]), (5, [8, 10, 9]), (6, [4, 10, 9, 8]), (7, []), (8, [10, 9, 8]), (9, [])]
def hd52x0 : Hints := [(12, [8, 9, 10], [], [])]
def h52x0s0 (N : Nat) : Sg Tryz.prog 0 52 := .start hd52x0 rg52x0
def S52x0x12 (N : Nat) (w1 : LD) (w2 : Int) (w3 : Int) (kr : Int → Option R) (k0 : Unit → Option R) (k1 : Unit → Option R) : Option R :=
 bif (decide (w3 < w2)) then
  bif (inB w3 w1.length) then
   bnd (bif (decide ((w1.getD w3.toNat (.i 0)).toI < (-1))) then true else (decide ((w1.getD w3.toNat (.i 0)).toI > 1000000000))) fun y0 =>
   bif y0 then
    k0 ()
   else
    kr (IntKind.wrap .i64 (w3 + 1))
  else
   none
 else
  k1 ()
def L52x0x12 (N : Nat) {R : Type} (w1 : LD) (w2 : Int) : Nat → Int → (Unit → Option R) → (Unit → Option R) → Option R
 | 0, _, _, _ => none
 | m + 1, w3, k0, k1 => S52x0x12 N w1 w2 w3 (fun w3 => L52x0x12 N w1 w2 m w3 k0 k1) k0 k1
def G52x0x12 (w1 : LD) (w2 : Int) (w3 : Int) : Option (Sum (Unit) (Unit)) := L52x0x12 N (R := (Sum (Unit) (Unit))) w1 w2 N w3 (fun p => some (.inl p)) (fun p => some (.inr p))
def J52x0x12 (L x : List Lf) (kr : List Lf → Option R) (k0 : Unit → Option R) (k1 : Unit → Option R) : Option R := S52x0x12 N (ll L 1) (li L 2) (li x 0) (fun w3 => kr [.i w3]) k0 k1
theorem sb52x0x12 (L x : List Lf) (kr : List Lf → Option R) (k0 : Unit → Option R) (k1 : Unit → Option R) : J52x0x12 N L x kr k0 k1 = (J52x0x12 N L x (fun y => some (.inl y)) (fun p => some (.inr (.inl p))) (fun p => some (.inr (.inr p)))).bind (sumE kr (sumE k0 k1)) := by
 unfold J52x0x12 S52x0x12
 repeat' (first | with_reducible apply cond_b | (with_reducible apply bnd_b; intro _) | rfl)
def Q52x0x12 (L : List Lf) (m : Nat) (x : List Lf) : Option (Sum (Unit) (Unit)) := L52x0x12 N (R := (Sum (Unit) (Unit))) (ll L 1) (li L 2) m (li x 0) (fun p => some (.inl p)) (fun p => some (.inr p))
def sh52x0x12 : Sh := { tmps := [(8, .c (.sl 3)), (9, .c (.i .i64)), (10, .c (.i .i64))], mem := [] }
def A52x0x12 (L : List Lf) : List (Bool × (Ex × St)) := bnd (Q52x0x12 N L N (pk sh52x0x12 [3] L)) fun q => [((inlB q), (.ret, ⟨[(2, .c (.i .i64 9))], []⟩)), ((inrQ q).isSome, ((.exit 0), ⟨[], []⟩))]
theorem step52x0x12 (m : Nat) (kn : St → Option (Ex × St)) (L x : List Lf) : lpB Tryz.prog (T49x0 N) (h52x0s0 N).h 0 52 12 sh52x0x12 [3] [2] [] (m + 100) kn L x = J52x0x12 N L x (fun y => kn (ofSh sh52x0x12 (mx sh52x0x12 [3] L y))) (fun _ => some (.ret, ⟨[(2, .c (.i .i64 9))], []⟩)) (fun _ => some ((.exit 0), ⟨[], []⟩)) := by kernel_rfl
theorem ql52x0x12 (L : List Lf) (m : Nat) (x : List Lf) : Q52x0x12 N L (m + 1) x = J52x0x12 N L x (Q52x0x12 N L m) (fun p => some (.inl p)) (fun p => some (.inr p)) := by kernel_rfl
def h52x0s1 : Sg Tryz.prog 0 52 :=
 (h52x0s0 N).lp (A52x0x12 N) N progOk (T49x0_ok N) (fun m kn L x => (step52x0x12 N m kn L x).trans (sb52x0x12 N L x _ _ _)) (fun L m x => (ql52x0x12 N L m x).trans (sb52x0x12 N L x (Q52x0x12 N L m) (fun p => some (.inl p)) (fun p => some (.inr p)))) fun L x hx => (altS alt1) x hx
def F52x0 (v1 : LD) (k0 : Int → Option R) : Option R :=
 bif (decide ((v1.length : Int) > 1000000)) then
  k0 3
 else
  bnd (G52x0x12 N v1 (v1.length : Int) 0) fun y0 =>
  bif (inlB y0) then
   k0 9
  else
   bif (inrQ y0).isSome then
    k0 0
   else
    none
def G52x0 (v1 : LD) : Option (Int) := F52x0 N v1 (fun p => some p)
theorem bind52x0 (v1 : LD) (k0 : Int → Option R) : F52x0 N v1 k0 = (G52x0 N v1).bind k0 := by
 unfold G52x0 F52x0
 repeat' (first | with_reducible apply cond_b | (with_reducible apply bnd_b; intro _) | rfl)
def sh52x0 : Sh := { tmps := [(0, .c (.sl 3))], mem := [] }
def A52x0 (L : List Lf) : List (Bool × Res) := bnd (F52x0 N (ll L 1) (fun p => some p)) fun q => [(q.isSome, ([.c (.i .i64 (q.getD default))], []))]
theorem raw52x0 (L : List Lf) : bd Tryz.prog (T49x0 N) (h52x0s1 N).h 52 sh52x0 L = F52x0 N (ll L 1) (fun p => some ([.c (.i .i64 p)], [])) := by kernel_rfl
theorem ok52x0 : FnOk Tryz.prog 52 sh52x0 (A52x0 N) :=
 (h52x0s1 N).fn progOk (T49x0_ok N) fun L x hx => ((raw52x0 N L).trans ((bind52x0 N ..).trans (alt1 x hx)))
def T52x0 : Oracle := ext 52 (spSh sh52x0 (A52x0 N)) (T49x0 N)
theorem T52x0_ok : OracleOk Tryz.prog (T52x0 N) := FnOk.to (ok52x0 N) (T49x0_ok N)
def rg53x0 : List (Nat × List Nat) := [(0, [0, 1]), (1, [2, 1]), (2, []), (3, [1, 2]), (4, []), (5, [2, 1]), (6, [2, 1, 5, 6]), (7, [2, 1]), (8, [1, 5, 6]), (9, [5, 1]), (10, [1, 6]), (11, [1, 6]), (12, [])]
def hd53x0 : Hints := [(23, [1, 2, 5, 6, 18], [2], [])]
def h53x0s0 (N : Nat) : Sg Tryz.prog 0 53 := .start hd53x0 rg53x0
def F53x0x23 (N : Nat) (w1 w2 : Int) (w3 : Bool) (w8 w9 : Int) (k0 : Int × Int → Option R) : Option R :=
 bif w3 then
  bif (!(w9 == 0)) then
   bif (!(w8 == 0)) then
    bnd (IntKind.wrap .i64 ((IntKind.wrap .i64 ((IntKind.wrap .i64 (10000 + w8)) - 1)).tdiv w8)) fun y0 =>
    k0 ((IntKind.wrap .i64 ((10000 : Int).tdiv w9)), y0)
   else
    none
  else
   none
 else
  k0 (w1, w2)
def G53x0x23 (w1 w2 : Int) (w3 : Bool) (w8 w9 : Int) : Option (Int × Int) := F53x0x23 N w1 w2 w3 w8 w9 (fun p => some p)
theorem bind53x0x23 (w1 w2 : Int) (w3 : Bool) (w8 w9 : Int) (k0 : Int × Int → Option R) : F53x0x23 N w1 w2 w3 w8 w9 k0 = (G53x0x23 N w1 w2 w3 w8 w9).bind k0 := by
 unfold G53x0x23 F53x0x23
 repeat' (first | with_reducible apply cond_b | (with_reducible apply bnd_b; intro _) | rfl)
def J53x0x23 (L : List Lf) (k0 : Int × Int → Option R) : Option R := F53x0x23 N (li L 1) (li L 2) (lb L 3) (li L 8) (li L 9) k0
def sh53x0x23 : Sh := { tmps := [(1, .c (.i .i64)), (2, .c (.p 2 0)), (5, .c (.i .i64)), (6, .c (.i .i64)), (18, .c (.b))], mem := [(2, .box (.i .i64 :: .i .i64 :: .s :: rI 5 ([])))] }
def K53x0x23w0 (L : List Lf) (p : Int × Int) : Ex × St := (.normal, ⟨[(1, .c (.i .i64 (li L 0))), (5, .c (.i .i64 p.1)), (6, .c (.i .i64 p.2))], []⟩)
def A53x0x23 (L : List Lf) : List (Bool × (Ex × St)) := bnd (J53x0x23 N L (fun p => some p)) fun q => [(q.isSome, K53x0x23w0 L (q.getD default))]
theorem raw53x0x23 (L : List Lf) : pc Tryz.prog (T52x0 N) (h53x0s0 N).h 0 100 53 23 sh53x0x23 L [1, 5, 6] [] = J53x0x23 N L (fun p => some (K53x0x23w0 L p)) := by kernel_rfl
def h53x0s1 : Sg Tryz.prog 0 53 :=
 (h53x0s0 N).cut (A53x0x23 N) progOk (T52x0_ok N) fun L x hx => (raw53x0x23 N L).trans ((bind53x0x23 N ..).trans (alt1 x hx))
def F53x0 (v3 v4 v5 v8 : Int) (k0 : Int → Option R) : Option R :=
 bif (v3 == 0) then
  k0 0
 else
  bif (decide (v8 < 0)) then
   k0 1000
  else
   bnd (G53x0x23 N v4 v5 (v3 == 4) v4 v5) fun y0 =>
   bif y0.isSome then
    bif (decide (v8 < (y0.getD default).1)) then
     bnd (IntKind.wrap .i64 (1000 * (IntKind.wrap .i64 ((y0.getD default).1 - v8)))) fun y1 =>
     bif (!((max2 (y0.getD default).1 1) == 0)) then
      bnd (IntKind.wrap .i64 (y1.tdiv (max2 (y0.getD default).1 1))) fun y2 =>
      k0 (min2 y2 1000)
     else
      none
    else
     bif (decide (v8 > (y0.getD default).2)) then
      bnd (IntKind.wrap .i64 (1000 * (IntKind.wrap .i64 (v8 - (y0.getD default).2)))) fun y3 =>
      bif (!((max2 (y0.getD default).2 1) == 0)) then
       bnd (IntKind.wrap .i64 (y3.tdiv (max2 (y0.getD default).2 1))) fun y4 =>
       k0 (min2 y4 1000)
      else
       none
     else
      k0 0
   else
    none
def G53x0 (v3 v4 v5 v8 : Int) : Option (Int) := F53x0 N v3 v4 v5 v8 (fun p => some p)
theorem bind53x0 (v3 v4 v5 v8 : Int) (k0 : Int → Option R) : F53x0 N v3 v4 v5 v8 k0 = (G53x0 N v3 v4 v5 v8).bind k0 := by
 unfold G53x0 F53x0
 repeat' (first | with_reducible apply cond_b | (with_reducible apply bnd_b; intro _) | rfl)
def J53x0 (L : List Lf) (k0 : Int → Option R) : Option R := F53x0 N (li L 3) (li L 4) (li L 5) (li L 8) k0
def sh53x0 : Sh := { tmps := [(0, .g (.i .i64 :: .i .i64 :: .s :: rI 5 ([]))), (1, .c (.i .i64))], mem := [] }
def A53x0 (L : List Lf) : List (Bool × Res) := bnd (J53x0 N L (fun p => some p)) fun q => [(q.isSome, ([.c (.i .i64 (q.getD default))], []))]
theorem raw53x0 (L : List Lf) : bd Tryz.prog (T52x0 N) (h53x0s1 N).h 53 sh53x0 L = J53x0 N L (fun p => some ([.c (.i .i64 p)], [])) := by kernel_rfl
theorem ok53x0 : FnOk Tryz.prog 53 sh53x0 (A53x0 N) :=
 (h53x0s1 N).fn progOk (T52x0_ok N) fun L x hx => ((raw53x0 N L).trans ((bind53x0 N ..).trans (alt1 x hx)))
def T53x0 : Oracle := ext 53 (spSh sh53x0 (A53x0 N)) (T52x0 N)
theorem T53x0_ok : OracleOk Tryz.prog (T53x0 N) := FnOk.to (ok53x0 N) (T52x0_ok N)
def rg23x0 : List (Nat × List Nat) := [(0, [0, 1]), (1, [2, 1]), (2, []), (3, [2, 1]), (4, [2, 1]), (5, []), (6, [2, 1]), (7, []), (8, [1, 2]), (9, [6, 1, 2]), (10, [6]), (11, [1, 2]), (12, [1, 7, 2]), (13, [36, 35, 34, 7, 2]), (14, [34, 36, 7, 2, 35]), (15, [7, 2, 9, 36, 35, 34]), (16, [36, 35, 34, 7, 2]), (17, [7])]
def hd23x0 : Hints := [(13, [1, 2], [2], []), (14, [1, 2, 15], [2], []), (39, [2, 7, 34, 35, 36], [2, 7], [7])]
def h23x0s0 (N : Nat) : Sg Tryz.prog 0 23 := .start hd23x0 rg23x0
def F23x0x13 (w6 w7 : Int) (k0 : Bool → R) : R :=
 bnd (V49x0 N w6 1 40000) fun y0 =>
 bif y0 then
  k0 true
 else
  bnd (V49x0 N w7 1 40000) fun y1 =>
  k0 y1
def V23x0x13 (w6 w7 : Int) : Bool := F23x0x13 N w6 w7 (fun p => p)
theorem tot23x0x13 (w6 w7 : Int) (k0 : Bool → R) : F23x0x13 N w6 w7 k0 = k0 (V23x0x13 N w6 w7) := by
 unfold V23x0x13 F23x0x13
 repeat' (first | rfl | apply cond_k | (apply bnd_k; intro _))
def sh23x0x13 : Sh := { tmps := [(1, .c (.sl 3)), (2, .c (.p 2 0))], mem := [(2, .box (.i .i64 :: .i .i64 :: .s :: rI 5 ([])))] }
def K23x0x13w0 (L : List Lf) (p : Bool) : Ex × St := (.normal, mg (ofSh sh23x0x13 L) [2, 1, 23] [(23, .c (.b p))] [2] [])
def A23x0x13 (L : List Lf) : List (Bool × (Ex × St)) := bnd (F23x0x13 N (li L 6) (li L 7) (fun p => p)) fun q => [(true, K23x0x13w0 L q)]
theorem raw23x0x13 (L : List Lf) : pc Tryz.prog (T53x0 N) (h23x0s0 N).h 0 100 23 13 sh23x0x13 L [2, 1, 23] [2] = F23x0x13 N (li L 6) (li L 7) (fun p => some (K23x0x13w0 L p)) := by kernel_rfl
def h23x0s1 : Sg Tryz.prog 0 23 :=
 (h23x0s0 N).cut (A23x0x13 N) progOk (T53x0_ok N) fun L x hx => (raw23x0x13 N L).trans ((tot23x0x13 N ..).trans (alt0 _ _ hx))
def F23x0x14 (w2 : Bool) (w7 w8 : Int) (k0 : Int → Option R) (k1 : Unit → Option R) : Option R :=
 bif w2 then
  bnd (V23x0x13 N w7 w8) fun y0 =>
  bif y0 then
   k0 9
  else
   bif (decide (w7 > w8)) then
    k0 10
   else
    k1 ()
 else
  k1 ()
def G23x0x14 (w2 : Bool) (w7 w8 : Int) : Option (Sum (Int) (Unit)) := F23x0x14 N w2 w7 w8 (fun p => some (.inl p)) (fun p => some (.inr p))
theorem bind23x0x14 (w2 : Bool) (w7 w8 : Int) (k0 : Int → Option R) (k1 : Unit → Option R) : F23x0x14 N w2 w7 w8 k0 k1 = (G23x0x14 N w2 w7 w8).bind (sumE k0 k1) := by
 unfold G23x0x14 F23x0x14
 repeat' (first | with_reducible apply cond_b | (with_reducible apply bnd_b; intro _) | rfl)
def sh23x0x14 : Sh := { tmps := [(1, .c (.sl 3)), (2, .c (.p 2 0)), (15, .c (.b))], mem := [(2, .box (.i .i64 :: .i .i64 :: .s :: rI 5 ([])))] }
def K23x0x14w0 (L : List Lf) (p : Int) : Ex × St := (.ret, mg (ofSh sh23x0x14 L) [4, 5] [(4, .c (.sl 3 true [])), (5, .c (.i .i64 p))] [2] [])
def A23x0x14 (L : List Lf) : List (Bool × (Ex × St)) := bnd (F23x0x14 N (lb L 2) (li L 7) (li L 8) (fun p => some (.inl p)) (fun p => some (.inr p))) fun q => [((inlB q), K23x0x14w0 L (inlV q)), ((inrQ q).isSome, (.normal, mg (ofSh sh23x0x14 L) [1, 2] [] [2] []))]
theorem raw23x0x14 (L : List Lf) : pc Tryz.prog (T53x0 N) (h23x0s1 N).h 0 100 23 14 sh23x0x14 L [1, 2, 4, 5] [2] = F23x0x14 N (lb L 2) (li L 7) (li L 8) (fun p => some (K23x0x14w0 L p)) (fun _ => some (.normal, mg (ofSh sh23x0x14 L) [1, 2] [] [2] [])) := by kernel_rfl
def h23x0s2 : Sg Tryz.prog 0 23 :=
 (h23x0s1 N).cut (A23x0x14 N) progOk (T53x0_ok N) fun L x hx => (raw23x0x14 N L).trans ((bind23x0x14 N ..).trans ((altS alt1) x hx))
def S23x0x39 (w1 : LD) (w2 w7 w8 w9 : Int) (w3 : Int) (w12 : Bool) (w13 : LD) (kr : Int → Bool → LD → Option R) (k0 : Bool × LD → Option R) : Option R :=
 bif (decide (w3 < w2)) then
  bif (inB w3 w1.length) then
   bnd (G53x0 N w7 w8 w9 (w1.getD w3.toNat (.i 0)).toI) fun y0 =>
   bif y0.isSome then
    bif (decide ((w13.length + 1) * 8 ≤ room) && decide ((w13.length + 1) ≤ strMax)) then
     kr (IntKind.wrap .i64 (w3 + 1)) false (w13 ++ [(.i (y0.getD default))])
    else
     none
   else
    none
  else
   none
 else
  k0 (w12, w13)
def L23x0x39 (N : Nat) {R : Type} (w1 : LD) (w2 w7 w8 w9 : Int) : Nat → Int → Bool → LD → (Bool × LD → Option R) → Option R
 | 0, _, _, _, _ => none
 | m + 1, w3, w12, w13, k0 => S23x0x39 N w1 w2 w7 w8 w9 w3 w12 w13 (fun w3 w12 w13 => L23x0x39 N w1 w2 w7 w8 w9 m w3 w12 w13 k0) k0
def G23x0x39 (w1 : LD) (w2 w7 w8 w9 : Int) (w3 : Int) (w12 : Bool) (w13 : LD) : Option (Bool × LD) := L23x0x39 N (R := (Bool × LD)) w1 w2 w7 w8 w9 N w3 w12 w13 (fun p => some p)
def J23x0x39 (L x : List Lf) (kr : List Lf → Option R) (k0 : Bool × LD → Option R) : Option R := S23x0x39 N (ll L 1) (li L 2) (li L 7) (li L 8) (li L 9) (li x 0) (lb x 1) (ll x 2) (fun w3 w12 w13 => kr [.i w3, .b w12, .l w13]) k0
theorem sb23x0x39 (L x : List Lf) (kr : List Lf → Option R) (k0 : Bool × LD → Option R) : J23x0x39 N L x kr k0 = (J23x0x39 N L x (fun y => some (.inl y)) (fun p => some (.inr p))).bind (sumE kr k0) := by
 unfold J23x0x39 S23x0x39
 repeat' (first | with_reducible apply cond_b | (with_reducible apply bnd_b; intro _) | rfl)
def Q23x0x39 (L : List Lf) (m : Nat) (x : List Lf) : Option (Bool × LD) := L23x0x39 N (R := (Bool × LD)) (ll L 1) (li L 2) (li L 7) (li L 8) (li L 9) m (li x 0) (lb x 1) (ll x 2) (fun p => some p)
def sh23x0x39 : Sh := { tmps := [(2, .c (.p 2 0)), (7, .c (.o 7)), (34, .c (.sl 3)), (35, .c (.i .i64)), (36, .c (.i .i64))], mem := [(2, .box (.i .i64 :: .i .i64 :: .s :: rI 5 ([]))), (7, .row 3 true)] }
def A23x0x39 (L : List Lf) : List (Bool × (Ex × St)) := bnd (Q23x0x39 N L N (pk sh23x0x39 [3, 12, 13] L)) fun q => [(q.isSome, ((.exit 0), ⟨[(7, .c (.o 7))], [(7, .row 3 true (q.getD default).1 (q.getD default).2)]⟩))]
theorem step23x0x39 (m : Nat) (kn : St → Option (Ex × St)) (L x : List Lf) : lpB Tryz.prog (T53x0 N) (h23x0s2 N).h 0 23 39 sh23x0x39 [3, 12, 13] [4, 5, 7] [7] (m + 100) kn L x = J23x0x39 N L x (fun y => kn (ofSh sh23x0x39 (mx sh23x0x39 [3, 12, 13] L y))) (fun p => some ((.exit 0), ⟨[(7, .c (.o 7))], [(7, .row 3 true p.1 p.2)]⟩)) := by kernel_rfl
theorem ql23x0x39 (L : List Lf) (m : Nat) (x : List Lf) : Q23x0x39 N L (m + 1) x = J23x0x39 N L x (Q23x0x39 N L m) some := by kernel_rfl
def h23x0s3 : Sg Tryz.prog 0 23 :=
 (h23x0s2 N).lp (A23x0x39 N) N progOk (T53x0_ok N) (fun m kn L x => (step23x0x39 N m kn L x).trans (sb23x0x39 N L x _ _)) (fun L m x => (ql23x0x39 N L m x).trans (sb23x0x39 N L x (Q23x0x39 N L m) some)) fun L x hx => alt1 x hx
def F23x0 (v3 v4 v5 : Int) (v9 : LD) (k0 : Bool × LD × Int → Option R) : Option R :=
 bnd (V49x0 N v3 0 4) fun y0 =>
 bif y0 then
  k0 (true, [], 7)
 else
  bnd (G23x0x14 N (decide (v3 > 0)) v4 v5) fun y1 =>
  bif (inlB y1) then
   k0 (true, [], (inlV y1))
  else
   bif (inrQ y1).isSome then
    bnd (G52x0 N v9) fun y2 =>
    bif y2.isSome then
     bif ((y2.getD default) != 0) then
      k0 (true, [], (y2.getD default))
     else
      bnd (G23x0x39 N v9 (v9.length : Int) v3 v4 v5 0 true []) fun y3 =>
      bif y3.isSome then
       k0 ((y3.getD default).1, (y3.getD default).2, 0)
      else
       none
    else
     none
   else
    none
def G23x0 (v3 v4 v5 : Int) (v9 : LD) : Option (Bool × LD × Int) := F23x0 N v3 v4 v5 v9 (fun p => some p)
theorem bind23x0 (v3 v4 v5 : Int) (v9 : LD) (k0 : Bool × LD × Int → Option R) : F23x0 N v3 v4 v5 v9 k0 = (G23x0 N v3 v4 v5 v9).bind k0 := by
 unfold G23x0 F23x0
 repeat' (first | with_reducible apply cond_b | (with_reducible apply bnd_b; intro _) | rfl)
def J23x0 (L : List Lf) (k0 : Bool × LD × Int → Option R) : Option R := F23x0 N (li L 3) (li L 4) (li L 5) (ll L 9) k0
def sh23x0 : Sh := { tmps := [(0, .g (.i .i64 :: .i .i64 :: .s :: rI 5 ([]))), (1, .c (.sl 3))], mem := [] }
def A23x0 (L : List Lf) : List (Bool × Res) := bnd (J23x0 N L (fun p => some p)) fun q => [(q.isSome, ([.c (.sl 3 (q.getD default).1 (q.getD default).2.1), .c (.i .i64 (q.getD default).2.2)], []))]
theorem raw23x0 (L : List Lf) : bd Tryz.prog (T53x0 N) (h23x0s3 N).h 23 sh23x0 L = J23x0 N L (fun p => some ([.c (.sl 3 p.1 p.2.1), .c (.i .i64 p.2.2)], [])) := by kernel_rfl
theorem ok23x0 : FnOk Tryz.prog 23 sh23x0 (A23x0 N) :=
 (h23x0s3 N).fn progOk (T53x0_ok N) fun L x hx => ((raw23x0 N L).trans ((bind23x0 N ..).trans (alt1 x hx)))
def T23x0 : Oracle := ext 23 (spSh sh23x0 (A23x0 N)) (T53x0 N)
theorem T23x0_ok : OracleOk Tryz.prog (T23x0 N) := FnOk.to (ok23x0 N) (T53x0_ok N)
end
end Go.Proofs.YtpnacmnpahjpoaaGreatDoor
