/- Functions of the program as plain Lean definitions, each with the proof that the program computes it. No condition. Printed by a program of the prover, part 1. -/
import Derived.Test.YtngnemeafkmaoaaGreatHk1
import Derived.Test.YtngnemeafkmaoaaGreatChecked
import Derived.KernelRfl
set_option linter.all false
set_option maxRecDepth 100000
namespace Go.Proofs.YtngnemeafkmaoaaGreat
open Go Go.AM
noncomputable section
variable (N : Nat) {R : Type}
abbrev LD : Type := List D
abbrev LB : Type := List UInt8
abbrev Ty0 : Type := LB × Int × Int × Bool × LD × Bool × LD × Bool × LD × Int
abbrev Ty1 : Type := Int × Int × Int × Bool × LD × Bool × LD × Bool × Int × D
abbrev Ty2 : Type := LB × Bool × LD × Bool × LD × Bool × LD
abbrev Ty3 : Type := Int × Int × Int × Bool × LD × Bool × LD × Int × Bool
abbrev Ty4 : Type := Bool × LD × Bool × LD × Bool × LD
abbrev Ty5 : Type := LB × Bool × LD × Bool × LD
abbrev Ty6 : Type := LB × LB × Int × Int
abbrev Ty7 : Type := LB × LB × Bool
abbrev Ty8 : Type := Bool × LD × Bool × LD
abbrev Ty9 : Type := Bool × LB × Int × Int
abbrev Ty10 : Type := Bool × LD × Int × Int
abbrev Ty11 : Type := Int × LB × Bool
def rg49x0 : List (Nat × List Nat) := [(0, [0, 1]), (1, [0, 1]), (2, [0, 1, 5]), (3, [10, 9, 0, 1, 5]), (4, [10, 0, 1, 5, 9]), (5, [0, 6, 1, 5, 10, 9]), (6, [1, 6, 5, 0, 10, 9, 7]), (7, [6, 5, 0, 10, 9, 1]), (8, [5, 0, 7, 10, 9, 1]), (9, [10, 9, 0, 1, 5]), (10, [5])]
def hd49x0 : Hints := [(9, [10, 9, 0, 1, 5], [], []), (23, [6, 5, 0, 10, 9, 1, 7, 18], [], [])]
def h49x0s0 (N : Nat) : Sg Tryz.prog 0 49 := .start hd49x0 rg49x0
def F49x0x23 (N : Nat) (w4 w5 : Int) (w8 : Bool) (k0 : Int → R) : R :=
 bif w8 then
  k0 w4
 else
  k0 w5
def V49x0x23 (w4 w5 : Int) (w8 : Bool) : Int := F49x0x23 N w4 w5 w8 (fun p => p)
theorem tot49x0x23 (w4 w5 : Int) (w8 : Bool) (k0 : Int → R) : F49x0x23 N w4 w5 w8 k0 = k0 (V49x0x23 N w4 w5 w8) := by
 unfold V49x0x23 F49x0x23
 repeat' (first | rfl | apply cond_k | (apply bnd_k; intro _))
def sh49x0x23 : Sh := { tmps := [(0, .c (.sl 5)), (1, .c (.b)), (5, .c (.i .i64)), (6, .c (.i .i64)), (7, .c (.i .i64)), (9, .c (.i .i64)), (10, .c (.i .i64)), (18, .c (.b))], mem := [] }
def K49x0x23w0 (L : List Lf) (p : Int) : Ex × St := (.normal, mg (ofSh sh49x0x23 L) [0, 1, 5, 7, 9, 10] [(7, .c (.i .i64 p))] [] [])
def A49x0x23 (L : List Lf) : List (Bool × (Ex × St)) := bnd (F49x0x23 N (li L 4) (li L 5) (lb L 8) (fun p => p)) fun q => [(true, K49x0x23w0 L q)]
theorem raw49x0x23 (L : List Lf) : pc Tryz.prog noOracle (h49x0s0 N).h 0 100 49 23 sh49x0x23 L [5, 0, 7, 10, 9, 1] [] = F49x0x23 N (li L 4) (li L 5) (lb L 8) (fun p => some (K49x0x23w0 L p)) := by kernel_rfl
def h49x0s1 : Sg Tryz.prog 0 49 :=
 (h49x0s0 N).cut (A49x0x23 N) progOk noOracle_ok fun L x hx => (raw49x0x23 N L).trans ((tot49x0x23 N ..).trans (alt0 _ _ hx))
def S49x0x9 (w1 : LD) (w2 : Bool) (w4 : Int) (w3 w5 : Int) (kr : Int → Int → Option R) (k0 : Int → Option R) : Option R :=
 bif (decide (w5 < w4)) then
  bnd (IntKind.wrap .i64 ((IntKind.wrap .i64 ((w1.length : Int) - 1)) - w5)) fun y0 =>
  bnd (V49x0x23 N w5 y0 w2) fun y1 =>
  bif (inB y1 w1.length) then
   bnd ((bitsV .or .i64 (IntKind.wrap .i64 (w3 * 2 ^ 8)) (IntKind.wrap .i64 (w1.getD y1.toNat (.i 0)).toI)).getD 0) fun y2 =>
   kr y2 (IntKind.wrap .i64 (w5 + 1))
  else
   none
 else
  k0 w3
def L49x0x9 (N : Nat) {R : Type} (w1 : LD) (w2 : Bool) (w4 : Int) : Nat → Int → Int → (Int → Option R) → Option R
 | 0, _, _, _ => none
 | m + 1, w3, w5, k0 => S49x0x9 N w1 w2 w4 w3 w5 (fun w3 w5 => L49x0x9 N w1 w2 w4 m w3 w5 k0) k0
def G49x0x9 (w1 : LD) (w2 : Bool) (w4 : Int) (w3 w5 : Int) : Option (Int) := L49x0x9 N (R := (Int)) w1 w2 w4 N w3 w5 (fun p => some p)
def J49x0x9 (L x : List Lf) (kr : List Lf → Option R) (k0 : Int → Option R) : Option R := S49x0x9 N (ll L 1) (lb L 2) (li L 4) (li x 0) (li x 1) (fun w3 w5 => kr [.i w3, .i w5]) k0
theorem sb49x0x9 (L x : List Lf) (kr : List Lf → Option R) (k0 : Int → Option R) : J49x0x9 N L x kr k0 = (J49x0x9 N L x (fun y => some (.inl y)) (fun p => some (.inr p))).bind (sumE kr k0) := by
 unfold J49x0x9 S49x0x9
 repeat' (first | with_reducible apply cond_b | (with_reducible apply bnd_b; intro _) | rfl)
def Q49x0x9 (L : List Lf) (m : Nat) (x : List Lf) : Option (Int) := L49x0x9 N (R := (Int)) (ll L 1) (lb L 2) (li L 4) m (li x 0) (li x 1) (fun p => some p)
def sh49x0x9 : Sh := { tmps := [(0, .c (.sl 5)), (1, .c (.b)), (5, .c (.i .i64)), (9, .c (.i .i64)), (10, .c (.i .i64))], mem := [] }
def A49x0x9 (L : List Lf) : List (Bool × (Ex × St)) := bnd (Q49x0x9 N L N (pk sh49x0x9 [3, 5] L)) fun q => [(q.isSome, ((.exit 0), ⟨[(5, .c (.i .i64 (q.getD default)))], []⟩))]
theorem step49x0x9 (m : Nat) (kn : St → Option (Ex × St)) (L x : List Lf) : lpB Tryz.prog noOracle (h49x0s1 N).h 0 49 9 sh49x0x9 [3, 5] [4, 5] [] (m + 100) kn L x = J49x0x9 N L x (fun y => kn (ofSh sh49x0x9 (mx sh49x0x9 [3, 5] L y))) (fun p => some ((.exit 0), ⟨[(5, .c (.i .i64 p))], []⟩)) := by kernel_rfl
theorem ql49x0x9 (L : List Lf) (m : Nat) (x : List Lf) : Q49x0x9 N L (m + 1) x = J49x0x9 N L x (Q49x0x9 N L m) some := by kernel_rfl
def h49x0s2 : Sg Tryz.prog 0 49 :=
 (h49x0s1 N).lp (A49x0x9 N) N progOk noOracle_ok (fun m kn L x => (step49x0x9 N m kn L x).trans (sb49x0x9 N L x _ _)) (fun L m x => (ql49x0x9 N L m x).trans (sb49x0x9 N L x (Q49x0x9 N L m) some)) fun L x hx => alt1 x hx
def F49x0 (v1 : LD) (v2 : Bool) (k0 : Int → Option R) : Option R :=
 bnd (G49x0x9 N v1 v2 (v1.length : Int) 0 0) fun y0 =>
 bif y0.isSome then
  k0 (y0.getD default)
 else
  none
def G49x0 (v1 : LD) (v2 : Bool) : Option (Int) := F49x0 N v1 v2 (fun p => some p)
theorem bind49x0 (v1 : LD) (v2 : Bool) (k0 : Int → Option R) : F49x0 N v1 v2 k0 = (G49x0 N v1 v2).bind k0 := by
 unfold G49x0 F49x0
 repeat' (first | with_reducible apply cond_b | (with_reducible apply bnd_b; intro _) | rfl)
def sh49x0 : Sh := { tmps := [(0, .c (.sl 5)), (1, .c (.b))], mem := [] }
def A49x0 (L : List Lf) : List (Bool × Res) := bnd (F49x0 N (ll L 1) (lb L 2) (fun p => some p)) fun q => [(q.isSome, ([.c (.i .i64 (q.getD default))], []))]
theorem raw49x0 (L : List Lf) : bd Tryz.prog noOracle (h49x0s2 N).h 49 sh49x0 L = F49x0 N (ll L 1) (lb L 2) (fun p => some ([.c (.i .i64 p)], [])) := by kernel_rfl
theorem ok49x0 : FnOk Tryz.prog 49 sh49x0 (A49x0 N) :=
 (h49x0s2 N).fn progOk noOracle_ok fun L x hx => ((raw49x0 N L).trans ((bind49x0 N ..).trans (alt1 x hx)))
def T49x0 : Oracle := ext 49 (spSh sh49x0 (A49x0 N)) noOracle
theorem T49x0_ok : OracleOk Tryz.prog (T49x0 N) := FnOk.to (ok49x0 N) noOracle_ok
def rg50x0 : List (Nat × List Nat) := [(0, [0]), (1, [0]), (2, [0, 3]), (3, [8, 7, 6, 3]), (4, [6, 8, 3, 7]), (5, [3, 5, 8, 7, 6]), (6, [8, 7, 6, 3]), (7, [3])]
def hd50x0 : Hints := [(9, [8, 7, 6, 3], [], [])]
def h50x0s0 (N : Nat) : Sg Tryz.prog 0 50 := .start hd50x0 rg50x0
def S50x0x9 (N : Nat) (w2 : LD) (w3 : Int) (w0 w4 : Int) (kr : Int → Int → Option R) (k0 : Int → Option R) : Option R :=
 bif (decide (w4 < w3)) then
  bif (inB w4 w2.length) then
   bnd (IntKind.wrap .u32 ((IntKind.wrap .u32 (31 * w0)) + (IntKind.wrap .u32 (w2.getD w4.toNat (.i 0)).toI))) fun y0 =>
   kr y0 (IntKind.wrap .i64 (w4 + 1))
  else
   none
 else
  k0 w0
def L50x0x9 (N : Nat) {R : Type} (w2 : LD) (w3 : Int) : Nat → Int → Int → (Int → Option R) → Option R
 | 0, _, _, _ => none
 | m + 1, w0, w4, k0 => S50x0x9 N w2 w3 w0 w4 (fun w0 w4 => L50x0x9 N w2 w3 m w0 w4 k0) k0
def G50x0x9 (w2 : LD) (w3 : Int) (w0 w4 : Int) : Option (Int) := L50x0x9 N (R := (Int)) w2 w3 N w0 w4 (fun p => some p)
def J50x0x9 (L x : List Lf) (kr : List Lf → Option R) (k0 : Int → Option R) : Option R := S50x0x9 N (ll L 2) (li L 3) (li x 0) (li x 1) (fun w0 w4 => kr [.i w0, .i w4]) k0
theorem sb50x0x9 (L x : List Lf) (kr : List Lf → Option R) (k0 : Int → Option R) : J50x0x9 N L x kr k0 = (J50x0x9 N L x (fun y => some (.inl y)) (fun p => some (.inr p))).bind (sumE kr k0) := by
 unfold J50x0x9 S50x0x9
 repeat' (first | with_reducible apply cond_b | (with_reducible apply bnd_b; intro _) | rfl)
def Q50x0x9 (L : List Lf) (m : Nat) (x : List Lf) : Option (Int) := L50x0x9 N (R := (Int)) (ll L 2) (li L 3) m (li x 0) (li x 1) (fun p => some p)
def sh50x0x9 : Sh := { tmps := [(3, .c (.i .u32)), (6, .c (.sl 5)), (7, .c (.i .i64)), (8, .c (.i .i64))], mem := [] }
def A50x0x9 (L : List Lf) : List (Bool × (Ex × St)) := bnd (Q50x0x9 N L N (pk sh50x0x9 [0, 4] L)) fun q => [(q.isSome, ((.exit 0), ⟨[(3, .c (.i .u32 (q.getD default)))], []⟩))]
theorem step50x0x9 (m : Nat) (kn : St → Option (Ex × St)) (L x : List Lf) : lpB Tryz.prog (T49x0 N) (h50x0s0 N).h 0 50 9 sh50x0x9 [0, 4] [2, 3] [] (m + 100) kn L x = J50x0x9 N L x (fun y => kn (ofSh sh50x0x9 (mx sh50x0x9 [0, 4] L y))) (fun p => some ((.exit 0), ⟨[(3, .c (.i .u32 p))], []⟩)) := by kernel_rfl
theorem ql50x0x9 (L : List Lf) (m : Nat) (x : List Lf) : Q50x0x9 N L (m + 1) x = J50x0x9 N L x (Q50x0x9 N L m) some := by kernel_rfl
def h50x0s1 : Sg Tryz.prog 0 50 :=
 (h50x0s0 N).lp (A50x0x9 N) N progOk (T49x0_ok N) (fun m kn L x => (step50x0x9 N m kn L x).trans (sb50x0x9 N L x _ _)) (fun L m x => (ql50x0x9 N L m x).trans (sb50x0x9 N L x (Q50x0x9 N L m) some)) fun L x hx => alt1 x hx
def F50x0 (v1 : LD) (k0 : Int → Option R) : Option R :=
 bnd (G50x0x9 N v1 (v1.length : Int) 1 0) fun y0 =>
 bif y0.isSome then
  k0 (IntKind.wrap .i64 (y0.getD default))
 else
  none
def G50x0 (v1 : LD) : Option (Int) := F50x0 N v1 (fun p => some p)
theorem bind50x0 (v1 : LD) (k0 : Int → Option R) : F50x0 N v1 k0 = (G50x0 N v1).bind k0 := by
 unfold G50x0 F50x0
 repeat' (first | with_reducible apply cond_b | (with_reducible apply bnd_b; intro _) | rfl)
def sh50x0 : Sh := { tmps := [(0, .c (.sl 5))], mem := [] }
def A50x0 (L : List Lf) : List (Bool × Res) := bnd (F50x0 N (ll L 1) (fun p => some p)) fun q => [(q.isSome, ([.c (.i .i64 (q.getD default))], []))]
theorem raw50x0 (L : List Lf) : bd Tryz.prog (T49x0 N) (h50x0s1 N).h 50 sh50x0 L = F50x0 N (ll L 1) (fun p => some ([.c (.i .i64 p)], [])) := by kernel_rfl
theorem ok50x0 : FnOk Tryz.prog 50 sh50x0 (A50x0 N) :=
 (h50x0s1 N).fn progOk (T49x0_ok N) fun L x hx => ((raw50x0 N L).trans ((bind50x0 N ..).trans (alt1 x hx)))
def T50x0 : Oracle := ext 50 (spSh sh50x0 (A50x0 N)) (T49x0 N)
theorem T50x0_ok : OracleOk Tryz.prog (T50x0 N) := FnOk.to (ok50x0 N) (T49x0_ok N)
def rg51x0 : List (Nat × List Nat) := [(0, [0]), (1, [1]), (2, [3, 1]), (3, [3, 1, 4])]
def hd51x0 : Hints := []
def h51x0s0 (N : Nat) : Sg Tryz.prog 0 51 := .start hd51x0 rg51x0
def F51x0 (N : Nat) (k0 : D → R) : R :=
 bnd ((.a [(.b false), (.b false), (.i 0), (.l true []), (.i 0), (.i 0), (.b false), (.b false), (.i 0), (.l true []), (.i 0), (.i 0), (.b false), (.b false), (.i 0), (.l true []), (.i 0), (.i 0), (.b false), (.b false), (.i 0), (.l true []), (.i 0), (.i 0), (.b false), (.b false), (.i 0), (.l true []), (.i 0), (.i 0), (.b false), (.b false), (.i 0), (.l true []), (.i 0), (.i 0), (.b false), (.b false), (.i 0), (.l true []), (.i 0), (.i 0), (.b false), (.b false), (.i 0), (.l true []), (.i 0), (.i 0), (.b false), (.b false), (.i 0), (.l true []), (.i 0), (.i 0), (.b false), (.b false), (.i 0), (.l true []), (.i 0), (.i 0), (.b false), (.b false), (.i 0), (.l true []), (.i 0), (.i 0), (.b false), (.b false), (.i 0), (.l true []), (.i 0), (.i 0), (.b false), (.b false), (.i 0), (.l true []), (.i 0), (.i 0), (.b false), (.b false), (.i 0), (.l true []), (.i 0), (.i 0), (.b false), (.b false), (.i 0), (.l true []), (.i 0), (.i 0), (.b false), (.b false), (.i 0), (.l true []), (.i 0), (.i 0)]) : D) fun y0 =>
 k0 y0
def V51x0 : D := F51x0 N (fun p => p)
theorem tot51x0 (k0 : D → R) : F51x0 N k0 = k0 (V51x0 N) := by
 unfold V51x0 F51x0
 repeat' (first | rfl | apply cond_k | (apply bnd_k; intro _))
def sh51x0 : Sh := { tmps := [(0, .c (.sl 5))], mem := [] }
def K51x0w0 (L : List Lf) (p : D) : Res := ([.c (.f 113 [(3, 0), (1, 0), (4, 0)])], [(1, .box [.sl 5 (lb L 0) (ll L 1)]), (3, .box [.i .i64 0]), (4, .dat 175 p)])
def A51x0 (L : List Lf) : List (Bool × Res) := bnd (F51x0 N (fun p => p)) fun q => [(true, K51x0w0 L q)]
theorem raw51x0 (L : List Lf) : bd Tryz.prog (T50x0 N) (h51x0s0 N).h 51 sh51x0 L = F51x0 N (fun p => some (K51x0w0 L p)) := by kernel_rfl
theorem ok51x0 : FnOk Tryz.prog 51 sh51x0 (A51x0 N) :=
 (h51x0s0 N).fn progOk (T50x0_ok N) fun L x hx => ((raw51x0 N L).trans ((tot51x0 N ..).trans (alt0 _ _ hx)))
def T51x0 : Oracle := ext 51 (spSh sh51x0 (A51x0 N)) (T50x0 N)
theorem T51x0_ok : OracleOk Tryz.prog (T51x0 N) := FnOk.to (ok51x0 N) (T50x0_ok N)
def rg114x0 : List (Nat × List Nat) := [(0, [1, 0, 2]), (1, [1, 0, 2]), (2, [1, 0]), (3, [0]), (4, [1, 0, 2]), (5, [2, 1, 0])]
def hd114x0 : Hints := []
def h114x0s0 (N : Nat) : Sg Tryz.prog 2 114 := .start hd114x0 rg114x0
def F114x0 (N : Nat) (v0 v1 : Int) (v2 : Bool) (v3 : LD) (k0 : Bool × LD × Int → Option R) : Option R :=
 bnd (bif (decide (v1 < 0)) then true else (decide (v0 > (IntKind.wrap .i64 ((v3.length : Int) - v1))))) fun y0 =>
 bif y0 then
  bif (((decide (0 ≤ v0)) && (decide (v0 ≤ v0))) && (decide (v0.toNat * 1 ≤ room) && decide (v0.toNat ≤ strMax))) then
   k0 (false, (List.replicate v0.toNat ((.i 0) : D)), (-1))
  else
   none
 else
  bif ((((decide (0 ≤ (IntKind.wrap .i64 ((IntKind.wrap .i64 (v1 + v0)) - v0)))) && (decide ((IntKind.wrap .i64 ((IntKind.wrap .i64 (v1 + v0)) - v0)) ≤ (IntKind.wrap .i64 (v1 + v0))))) && (decide ((IntKind.wrap .i64 (v1 + v0)) ≤ (IntKind.wrap .i64 (v1 + v0))))) && (decide ((IntKind.wrap .i64 (v1 + v0)) ≤ (v3.length : Int)))) then
   bnd (((v3.take (IntKind.wrap .i64 (v1 + v0)).toNat).drop (IntKind.wrap .i64 ((IntKind.wrap .i64 (v1 + v0)) - v0)).toNat) : List D) fun y1 =>
   k0 (v2, y1, (IntKind.wrap .i64 (v1 + v0)))
  else
   none
def G114x0 (v0 v1 : Int) (v2 : Bool) (v3 : LD) : Option (Bool × LD × Int) := F114x0 N v0 v1 v2 v3 (fun p => some p)
theorem bind114x0 (v0 v1 : Int) (v2 : Bool) (v3 : LD) (k0 : Bool × LD × Int → Option R) : F114x0 N v0 v1 v2 v3 k0 = (G114x0 N v0 v1 v2 v3).bind k0 := by
 unfold G114x0 F114x0
 repeat' (first | with_reducible apply cond_b | (with_reducible apply bnd_b; intro _) | rfl)
def J114x0 (L : List Lf) (k0 : Bool × LD × Int → Option R) : Option R := F114x0 N (li L 0) (li L 1) (lb L 2) (ll L 3) k0
def sh114x0 : Sh := { tmps := [(0, .c (.i .i64)), (1, .c (.p 0 0)), (2, .c (.p 1 0))], mem := [(0, .box ([.i .i64])), (1, .box ([.sl 5]))] }
def K114x0w0 (L : List Lf) (p : Bool × LD × Int) : Res := ([.c (.sl 5 p.1 p.2.1)], mgA (ofSh sh114x0 L).mem [(0, .box [.i .i64 p.2.2])] [0, 1])
def A114x0 (L : List Lf) : List (Bool × Res) := bnd (J114x0 N L (fun p => some p)) fun q => [(q.isSome, K114x0w0 L (q.getD default))]
theorem raw114x0 (L : List Lf) : bd Tryz.prog (T51x0 N) (h114x0s0 N).h 114 sh114x0 L = J114x0 N L (fun p => some (K114x0w0 L p)) := by kernel_rfl
theorem ok114x0 : FnOk Tryz.prog 114 sh114x0 (A114x0 N) :=
 (h114x0s0 N).fn progOk (T51x0_ok N) fun L x hx => ((raw114x0 N L).trans ((bind114x0 N ..).trans (alt1 x hx)))
def T114x0 : Oracle := ext 114 (spSh sh114x0 (A114x0 N)) (T51x0 N)
theorem T114x0_ok : OracleOk Tryz.prog (T114x0 N) := FnOk.to (ok114x0 N) (T51x0_ok N)
def rg115x0 : List (Nat × List Nat) := [(0, [0, 1, 2]), (1, [0, 1, 2])]
def hd115x0 : Hints := []
def h115x0s0 (N : Nat) : Sg Tryz.prog 0 115 := .start hd115x0 rg115x0
def F115x0 (N : Nat) (v0 v1 v2 : Int) (k0 : Bool → R) : R :=
 k0 (bif (decide (v0 ≥ v1)) then (decide (v0 ≤ v2)) else false)
def V115x0 (v0 v1 v2 : Int) : Bool := F115x0 N v0 v1 v2 (fun p => p)
theorem tot115x0 (v0 v1 v2 : Int) (k0 : Bool → R) : F115x0 N v0 v1 v2 k0 = k0 (V115x0 N v0 v1 v2) := by
 unfold V115x0 F115x0
 repeat' (first | rfl | apply cond_k | (apply bnd_k; intro _))
def sh115x0 : Sh := { tmps := [(0, .c (.i .i64)), (1, .c (.i .i64)), (2, .c (.i .i64))], mem := [] }
def A115x0 (L : List Lf) : List (Bool × Res) := bnd (F115x0 N (li L 0) (li L 1) (li L 2) (fun p => p)) fun q => [(true, ([.c (.b q)], []))]
theorem raw115x0 (L : List Lf) : bd Tryz.prog (T114x0 N) (h115x0s0 N).h 115 sh115x0 L = F115x0 N (li L 0) (li L 1) (li L 2) (fun p => some ([.c (.b p)], [])) := by kernel_rfl
theorem ok115x0 : FnOk Tryz.prog 115 sh115x0 (A115x0 N) :=
 (h115x0s0 N).fn progOk (T114x0_ok N) fun L x hx => ((raw115x0 N L).trans ((tot115x0 N ..).trans (alt0 _ _ hx)))
def T115x0 : Oracle := ext 115 (spSh sh115x0 (A115x0 N)) (T114x0 N)
theorem T115x0_ok : OracleOk Tryz.prog (T115x0 N) := FnOk.to (ok115x0 N) (T114x0_ok N)
def rg116x0 : List (Nat × List Nat) := [(0, [0]), (1, [1, 2]), (2, [1, 3, 2]), (3, [11, 10, 9, 3, 2]), (4, [9, 11, 3, 10, 2]), (5, [5, 3, 11, 10, 9, 2]), (6, [3, 5, 11, 10, 9, 2]), (7, [3, 5, 11, 10, 9, 2]), (8, [11, 10, 9, 3, 2]), (9, [3, 2])]
def hd116x0 : Hints := [(9, [11, 10, 9, 3, 2], [3, 2], []), (20, [3, 5, 11, 10, 9, 2, 32], [5, 3, 2], [])]
def h116x0s0 (N : Nat) : Sg Tryz.prog 0 116 := .start hd116x0 rg116x0
def F116x0x20 (N : Nat) (w4 : Bool) (w17 w18 : Int) (k0 : Int → R) : R :=
 bif w4 then
  k0 w17
 else
  k0 w18
def V116x0x20 (w4 : Bool) (w17 w18 : Int) : Int := F116x0x20 N w4 w17 w18 (fun p => p)
theorem tot116x0x20 (w4 : Bool) (w17 w18 : Int) (k0 : Int → R) : F116x0x20 N w4 w17 w18 k0 = k0 (V116x0x20 N w4 w17 w18) := by
 unfold V116x0x20 F116x0x20
 repeat' (first | rfl | apply cond_k | (apply bnd_k; intro _))
def sh116x0x20 : Sh := { tmps := [(2, .c (.p 2 0)), (3, .c (.p 3 0)), (5, .c (.p 5 0)), (9, .c (.sl 136)), (10, .c (.i .i64)), (11, .c (.i .i64)), (32, .c (.b))], mem := [(2, .box (.b :: [.b, .i .i64, .sl 136, .i .i64, .i .i64])), (3, .box (.b :: [.b, .i .i64, .sl 136, .i .i64, .i .i64])), (5, .box ([.i .i64, .i .i64, .i .i64]))] }
def K116x0x20w0 (L : List Lf) (p : Int) : Ex × St := (.normal, mg (ofSh sh116x0x20 L) [2, 3, 5, 9, 10, 11] [] [2, 3, 5] [(3, .box [.b (lb L 12), .b (lb L 13), .i .i64 (li L 14), .sl 136 (lb L 15) (ll L 16), .i .i64 (li L 17), .i .i64 p])])
def A116x0x20 (L : List Lf) : List (Bool × (Ex × St)) := bnd (F116x0x20 N (lb L 4) (li L 17) (li L 18) (fun p => p)) fun q => [(true, K116x0x20w0 L q)]
theorem raw116x0x20 (L : List Lf) : pc Tryz.prog (T115x0 N) (h116x0s0 N).h 0 100 116 20 sh116x0x20 L [3, 5, 11, 10, 9, 2] [5, 3, 2] = F116x0x20 N (lb L 4) (li L 17) (li L 18) (fun p => some (K116x0x20w0 L p)) := by kernel_rfl
def h116x0s1 : Sg Tryz.prog 0 116 :=
 (h116x0s0 N).cut (A116x0x20 N) progOk (T115x0_ok N) fun L x hx => (raw116x0x20 N L).trans ((tot116x0x20 N ..).trans (alt0 _ _ hx))
def S116x0x9 (w1 : LD) (w2 : Int) (w3 w16 w17 : Int) (kr : Int → Int → Int → Option R) (k0 : Int × Int → Option R) : Option R :=
 bif (decide (w3 < w2)) then
  bif (inB w3 w1.length) then
   bnd (bif (((w1.getD w3.toNat (.i 0)).cell 0).toI == 253) then (((w1.getD w3.toNat (.i 0)).cell 2).toI == 0) else false) fun y0 =>
   bnd (bif y0 then (((w1.getD w3.toNat (.i 0)).cell 1).toI == 4) else false) fun y1 =>
   bnd (V116x0x20 N (bif y1 then (decide (w17 < 0)) else false) w16 w17) fun y2 =>
   bnd (IntKind.wrap .i64 (w16 + ((w1.getD w3.toNat (.i 0)).cell 1).toI)) fun y3 =>
   kr (IntKind.wrap .i64 (w3 + 1)) y3 y2
  else
   none
 else
  k0 (w16, w17)
def L116x0x9 (N : Nat) {R : Type} (w1 : LD) (w2 : Int) : Nat → Int → Int → Int → (Int × Int → Option R) → Option R
 | 0, _, _, _, _ => none
 | m + 1, w3, w16, w17, k0 => S116x0x9 N w1 w2 w3 w16 w17 (fun w3 w16 w17 => L116x0x9 N w1 w2 m w3 w16 w17 k0) k0
def G116x0x9 (w1 : LD) (w2 : Int) (w3 w16 w17 : Int) : Option (Int × Int) := L116x0x9 N (R := (Int × Int)) w1 w2 N w3 w16 w17 (fun p => some p)
def J116x0x9 (L x : List Lf) (kr : List Lf → Option R) (k0 : Int × Int → Option R) : Option R := S116x0x9 N (ll L 1) (li L 2) (li x 0) (li x 1) (li x 2) (fun w3 w16 w17 => kr [.i w3, .i w16, .i w17]) k0
theorem sb116x0x9 (L x : List Lf) (kr : List Lf → Option R) (k0 : Int × Int → Option R) : J116x0x9 N L x kr k0 = (J116x0x9 N L x (fun y => some (.inl y)) (fun p => some (.inr p))).bind (sumE kr k0) := by
 unfold J116x0x9 S116x0x9
 repeat' (first | with_reducible apply cond_b | (with_reducible apply bnd_b; intro _) | rfl)
def Q116x0x9 (L : List Lf) (m : Nat) (x : List Lf) : Option (Int × Int) := L116x0x9 N (R := (Int × Int)) (ll L 1) (li L 2) m (li x 0) (li x 1) (li x 2) (fun p => some p)
def sh116x0x9 : Sh := { tmps := [(2, .c (.p 2 0)), (3, .c (.p 3 0)), (9, .c (.sl 136)), (10, .c (.i .i64)), (11, .c (.i .i64))], mem := [(2, .box (.b :: [.b, .i .i64, .sl 136, .i .i64, .i .i64])), (3, .box (.b :: [.b, .i .i64, .sl 136, .i .i64, .i .i64]))] }
def K116x0x9w0 (L : List Lf) (p : Int × Int) : Ex × St := ((.exit 0), mg (ofSh sh116x0x9 L) [2, 3] [] [2, 3] [(3, .box [.b (lb L 11), .b (lb L 12), .i .i64 (li L 13), .sl 136 (lb L 14) (ll L 15), .i .i64 p.1, .i .i64 p.2])])
def A116x0x9 (L : List Lf) : List (Bool × (Ex × St)) := bnd (Q116x0x9 N L N (pk sh116x0x9 [3, 16, 17] L)) fun q => [(q.isSome, K116x0x9w0 L (q.getD default))]
theorem step116x0x9 (m : Nat) (kn : St → Option (Ex × St)) (L x : List Lf) : lpB Tryz.prog (T115x0 N) (h116x0s1 N).h 0 116 9 sh116x0x9 [3, 16, 17] [2, 3] [3, 2] (m + 100) kn L x = J116x0x9 N L x (fun y => kn (ofSh sh116x0x9 (mx sh116x0x9 [3, 16, 17] L y))) (fun p => some (K116x0x9w0 L p)) := by kernel_rfl
theorem ql116x0x9 (L : List Lf) (m : Nat) (x : List Lf) : Q116x0x9 N L (m + 1) x = J116x0x9 N L x (Q116x0x9 N L m) some := by kernel_rfl
def h116x0s2 : Sg Tryz.prog 0 116 :=
 (h116x0s1 N).lp (A116x0x9 N) N progOk (T115x0_ok N) (fun m kn L x => (step116x0x9 N m kn L x).trans (sb116x0x9 N L x _ _)) (fun L m x => (ql116x0x9 N L m x).trans (sb116x0x9 N L x (Q116x0x9 N L m) some)) fun L x hx => alt1 x hx
def F116x0 (v3 : LD) (k0 : Int × Int → Option R) : Option R :=
 bnd (G116x0x9 N v3 (v3.length : Int) 0 0 (-1)) fun y0 =>
 bif y0.isSome then
  k0 (y0.getD default)
 else
  none
def G116x0 (v3 : LD) : Option (Int × Int) := F116x0 N v3 (fun p => some p)
theorem bind116x0 (v3 : LD) (k0 : Int × Int → Option R) : F116x0 N v3 k0 = (G116x0 N v3).bind k0 := by
 unfold G116x0 F116x0
 repeat' (first | with_reducible apply cond_b | (with_reducible apply bnd_b; intro _) | rfl)
def sh116x0 : Sh := { tmps := [(0, .g ([.b, .i .i64, .sl 136]))], mem := [] }
def K116x0w0 (L : List Lf) (p : Int × Int) : Res := ([.g [.b true, .b (lb L 0), .i .i64 (li L 1), .sl 136 (lb L 2) (ll L 3), .i .i64 p.1, .i .i64 p.2]], [])
def A116x0 (L : List Lf) : List (Bool × Res) := bnd (F116x0 N (ll L 3) (fun p => some p)) fun q => [(q.isSome, K116x0w0 L (q.getD default))]
theorem raw116x0 (L : List Lf) : bd Tryz.prog (T115x0 N) (h116x0s2 N).h 116 sh116x0 L = F116x0 N (ll L 3) (fun p => some (K116x0w0 L p)) := by kernel_rfl
theorem ok116x0 : FnOk Tryz.prog 116 sh116x0 (A116x0 N) :=
 (h116x0s2 N).fn progOk (T115x0_ok N) fun L x hx => ((raw116x0 N L).trans ((bind116x0 N ..).trans (alt1 x hx)))
def T116x0 : Oracle := ext 116 (spSh sh116x0 (A116x0 N)) (T115x0 N)
theorem T116x0_ok : OracleOk Tryz.prog (T116x0 N) := FnOk.to (ok116x0 N) (T115x0_ok N)
def rg117x0 : List (Nat × List Nat) := [(0, [0]), (1, [0]), (2, []), (3, [0])]
def hd117x0 : Hints := []
def h117x0s0 (N : Nat) : Sg Tryz.prog 0 117 := .start hd117x0 rg117x0
def F117x0 (N : Nat) (v0 : Bool) (v1 : LD) (k0 : Bool × LD → Option R) : Option R :=
 bif v0 then
  k0 (true, [])
 else
  bif (decide ((0 + v1.length) * 1 ≤ room) && decide ((0 + v1.length) ≤ strMax)) then
   k0 ((v1.isEmpty && false), v1)
  else
   none
def G117x0 (v0 : Bool) (v1 : LD) : Option (Bool × LD) := F117x0 N v0 v1 (fun p => some p)
theorem bind117x0 (v0 : Bool) (v1 : LD) (k0 : Bool × LD → Option R) : F117x0 N v0 v1 k0 = (G117x0 N v0 v1).bind k0 := by
 unfold G117x0 F117x0
 repeat' (first | with_reducible apply cond_b | (with_reducible apply bnd_b; intro _) | rfl)
def sh117x0 : Sh := { tmps := [(0, .c (.sl 5))], mem := [] }
def A117x0 (L : List Lf) : List (Bool × Res) := bnd (F117x0 N (lb L 0) (ll L 1) (fun p => some p)) fun q => [(q.isSome, ([.c (.sl 5 (q.getD default).1 (q.getD default).2)], []))]
theorem raw117x0 (L : List Lf) : bd Tryz.prog (T116x0 N) (h117x0s0 N).h 117 sh117x0 L = F117x0 N (lb L 0) (ll L 1) (fun p => some ([.c (.sl 5 p.1 p.2)], [])) := by kernel_rfl
theorem ok117x0 : FnOk Tryz.prog 117 sh117x0 (A117x0 N) :=
 (h117x0s0 N).fn progOk (T116x0_ok N) fun L x hx => ((raw117x0 N L).trans ((bind117x0 N ..).trans (alt1 x hx)))
def T117x0 : Oracle := ext 117 (spSh sh117x0 (A117x0 N)) (T116x0 N)
theorem T117x0_ok : OracleOk Tryz.prog (T117x0 N) := FnOk.to (ok117x0 N) (T116x0_ok N)
def rg113x0 : List (Nat × List Nat) := [(0, [0, 1, 2]), (1, [0, 1, 2, 3]), (2, [0, 1, 2, 6, 3]), (3, [7, 2, 0, 6, 3]), (4, [7, 8, 2, 0, 6, 3]), (6, [9, 8, 2, 0, 6, 3, 7]), (8, [9, 8, 2, 0, 6, 3, 7]), (10, [9, 8, 7, 2, 6, 0, 3]), (5, [8, 6, 3]), (11, [9, 8, 7, 2, 6, 0, 3]), (12, [7, 8, 2, 6, 0, 3]), (13, [10, 7, 8, 2, 6, 0, 3]), (14, [7, 11, 8, 2, 6, 0, 10, 3]), (15, [7, 11, 8, 2, 6, 0, 10, 3]), (16, [62, 61, 7, 11, 8, 2, 6, 0, 10, 3]), (17, [7, 11, 62, 61, 8, 2, 6, 0, 10, 3]), (18, [11, 12, 62, 61, 7, 8, 2, 6, 0, 10, 3]), (19, [62, 61, 7, 11, 8, 2, 6, 0, 10, 3]), (20, [11, 8, 2, 6, 0, 10, 3]), (21, [8, 11, 2, 6, 0, 10, 3]), (22, [8, 6, 0, 10, 3]), (9, [9, 8, 2, 0, 6, 3, 7]), (7, [9, 8, 2, 0, 6, 3, 7]), (23, [8, 2, 0, 6, 3, 7]), (24, [8, 0, 13, 6, 3, 7]), (25, [0, 13, 14, 8, 6, 3, 7]), (26, [8, 6, 3]), (27, [13, 14, 7, 8, 6, 0, 3]), (28, [14, 15, 7, 8, 6, 0, 3]), (29, [15, 7, 8, 6, 0, 3]), (30, [7, 15, 8, 6, 0, 3]), (31, [8, 6, 0, 3])]
def hd113x0 : Hints := [(48, [62, 61, 7, 11, 8, 2, 6, 0, 10, 3], [14, 11, 1, 6, 2, 0, 50014005], [50014002]), (24023, [9, 8, 2, 0, 6, 3, 7, 25], [11, 1, 6, 2, 0], []), (89, [15, 7, 8, 6, 0, 3, 127], [2, 11, 1, 6, 0], [])]
def h113x0s0 (N : Nat) : Sg Tryz.prog 3 113 := .start hd113x0 rg113x0
def S113x0x48 (w2 : Int) (w5 : Bool) (w6 : LD) (w3 w4 : Int) (w24 : Bool) (w25 : LD) (kr : Int → Int → Bool → LD → Option R) (k0 : Int × Bool × LD → Option R) : Option R :=
 bif (decide (w3 < w2)) then
  bnd (G114x0 N 3 w4 w5 w6) fun y0 =>
  bif y0.isSome then
   bif (inB 0 (y0.getD default).2.1.length) then
    bnd (IntKind.wrap .i64 ((y0.getD default).2.1.getD 0 (.i 0)).toI) fun y1 =>
    bif (inB 1 (y0.getD default).2.1.length) then
     bnd (IntKind.wrap .i64 ((y0.getD default).2.1.getD 1 (.i 0)).toI) fun y2 =>
     bif (inB 2 (y0.getD default).2.1.length) then
      bnd (IntKind.wrap .i64 ((y0.getD default).2.1.getD 2 (.i 0)).toI) fun y3 =>
      bif (decide ((w25.length + 1) * 24 ≤ room) && decide ((w25.length + 1) ≤ strMax)) then
       bnd ((w25 ++ [(.a [(.i y1), (.i y2), (.i y3)])]) : List D) fun y4 =>
       kr (IntKind.wrap .u8 (w3 + 1)) (y0.getD default).2.2 false y4
      else
       none
     else
      none
    else
     none
   else
    none
  else
   none
 else
  k0 (w4, w24, w25)
def L113x0x48 (N : Nat) {R : Type} (w2 : Int) (w5 : Bool) (w6 : LD) : Nat → Int → Int → Bool → LD → (Int × Bool × LD → Option R) → Option R
 | 0, _, _, _, _, _ => none
 | m + 1, w3, w4, w24, w25, k0 => S113x0x48 N w2 w5 w6 w3 w4 w24 w25 (fun w3 w4 w24 w25 => L113x0x48 N w2 w5 w6 m w3 w4 w24 w25 k0) k0
def G113x0x48 (w2 : Int) (w5 : Bool) (w6 : LD) (w3 w4 : Int) (w24 : Bool) (w25 : LD) : Option (Int × Bool × LD) := L113x0x48 N (R := (Int × Bool × LD)) w2 w5 w6 N w3 w4 w24 w25 (fun p => some p)
def J113x0x48 (L x : List Lf) (kr : List Lf → Option R) (k0 : Int × Bool × LD → Option R) : Option R := S113x0x48 N (li L 2) (lb L 5) (ll L 6) (li x 0) (li x 1) (lb x 2) (ll x 3) (fun w3 w4 w24 w25 => kr [.i w3, .i w4, .b w24, .l w25]) k0
theorem sb113x0x48 (L x : List Lf) (kr : List Lf → Option R) (k0 : Int × Bool × LD → Option R) : J113x0x48 N L x kr k0 = (J113x0x48 N L x (fun y => some (.inl y)) (fun p => some (.inr p))).bind (sumE kr k0) := by
 unfold J113x0x48 S113x0x48
 repeat' (first | with_reducible apply cond_b | (with_reducible apply bnd_b; intro _) | rfl)
def Q113x0x48 (L : List Lf) (m : Nat) (x : List Lf) : Option (Int × Bool × LD) := L113x0x48 N (R := (Int × Bool × LD)) (li L 2) (lb L 5) (ll L 6) m (li x 0) (li x 1) (lb x 2) (ll x 3) (fun p => some p)
def sh113x0x48 : Sh := { tmps := [(0, .c (.p 0 0)), (2, .c (.p 2 0)), (3, .c (.p 6 0)), (6, .c (.i .i64)), (7, .c (.f 114 [(0, 0), (1, 0)])), (8, .c (.p 11 0)), (10, .c (.i .u8)), (11, .c (.p 14 0)), (61, .c (.i .u8)), (62, .c (.i .u8))], mem := [(0, .box ([.i .i64])), (1, .box ([.sl 5])), (2, .dat 175), (6, .box ([.i .i64, .i .i64, .i .i64, .sl 115, .sl 5])), (11, .box ([.i .i64, .i .i64, .i .i64, .sl 115, .sl 5])), (14, .box ([.b, .i .i64, .o 50014005])), (50014005, .row 136 true)] }
def K113x0x48w0 (L : List Lf) (p : Int × Bool × LD) : Ex × St := ((.exit 1), mg (ofSh sh113x0x48 L) [0, 2, 3, 6, 7, 8, 10, 11] [] [0, 1, 2, 6, 11, 14, 50014005] [(0, .box [.i .i64 p.1]), (50014005, .row 136 true p.2.1 p.2.2)])
def A113x0x48 (L : List Lf) : List (Bool × (Ex × St)) := bnd (Q113x0x48 N L N (pk sh113x0x48 [3, 4, 24, 25] L)) fun q => [(q.isSome, K113x0x48w0 L (q.getD default))]
theorem step113x0x48 (m : Nat) (kn : St → Option (Ex × St)) (L x : List Lf) : lpB Tryz.prog (T117x0 N) (h113x0s0 N).h 3 113 48 sh113x0x48 [3, 4, 24, 25] [3, 4, 5, 11, 8, 2, 6, 0, 10, 7] [50014005, 14, 11, 1, 6, 2, 0] (m + 100) kn L x = J113x0x48 N L x (fun y => kn (ofSh sh113x0x48 (mx sh113x0x48 [3, 4, 24, 25] L y))) (fun p => some (K113x0x48w0 L p)) := by kernel_rfl
theorem ql113x0x48 (L : List Lf) (m : Nat) (x : List Lf) : Q113x0x48 N L (m + 1) x = J113x0x48 N L x (Q113x0x48 N L m) some := by kernel_rfl
def h113x0s1 : Sg Tryz.prog 3 113 :=
 (h113x0s0 N).lp (A113x0x48 N) N progOk (T117x0_ok N) (fun m kn L x => (step113x0x48 N m kn L x).trans (sb113x0x48 N L x _ _)) (fun L m x => (ql113x0x48 N L m x).trans (sb113x0x48 N L x (Q113x0x48 N L m) some)) fun L x hx => alt1 x hx
def F113x0x24023 (w1 : Int) (w2 : Bool) (w3 : Int) (w4 : Bool) (w5 : LD) (w6 : D) (k0 : Int × Int × Int → Option R) (k1 : Bool × Int × D × Int × Int × LD → Option R) (k2 : Unit → Option R) : Option R :=
 bif w2 then
  k0 (3, (IntKind.wrap .i64 ((IntKind.wrap .i64 (w1 - 128)).tdiv 32)), (w1.tmod 32))
 else
  bif (decide (w1 < 16)) then
   k0 (2, w1, 0)
  else
   bnd (V115x0 N w1 64 79) fun y0 =>
   bif y0 then
    bnd (G114x0 N 1 w3 w4 w5) fun y1 =>
    bif y1.isSome then
     bif (inB 0 (y1.getD default).2.1.length) then
      bnd (G114x0 N 2 (y1.getD default).2.2 w4 w5) fun y2 =>
      bif y2.isSome then
       bnd (G49x0 N (y2.getD default).2.1 (((y1.getD default).2.1.getD 0 (.i 0)).toI == 1)) fun y3 =>
       bif y3.isSome then
        bnd (G114x0 N 1 (y2.getD default).2.2 w4 w5) fun y4 =>
        bif y4.isSome then
         bif (inB 0 (y4.getD default).2.1.length) then
          bnd (G113x0x48 N ((y4.getD default).2.1.getD 0 (.i 0)).toI w4 w5 0 (y4.getD default).2.2 true []) fun y5 =>
          bif y5.isSome then
           bnd (G116x0 N (y5.getD default).2.2) fun y6 =>
           bif y6.isSome then
            bif (inB (IntKind.wrap .i64 (w1 - 64)) 16) then
             bnd (((((((w6.put (0 + ((IntKind.wrap .i64 (w1 - 64)).toNat * 6)) (.b true)).put (1 + ((IntKind.wrap .i64 (w1 - 64)).toNat * 6)) (.b (((y1.getD default).2.1.getD 0 (.i 0)).toI == 1))).put (2 + ((IntKind.wrap .i64 (w1 - 64)).toNat * 6)) (.i (y3.getD default))).put (3 + ((IntKind.wrap .i64 (w1 - 64)).toNat * 6)) (.l (y5.getD default).2.1 (y5.getD default).2.2)).put (4 + ((IntKind.wrap .i64 (w1 - 64)).toNat * 6)) (.i (y6.getD default).1)).put (5 + ((IntKind.wrap .i64 (w1 - 64)).toNat * 6)) (.i (y6.getD default).2)) : D) fun y7 =>
             bnd (bif (decide ((y5.getD default).1 ≥ 0)) then (decide (((y1.getD default).2.1.getD 0 (.i 0)).toI ≤ 1)) else false) fun y8 =>
             k1 (y8, (y5.getD default).1, y7, (IntKind.wrap .i64 (w1 - 64)), (IntKind.wrap .i64 (w1 - 64)), [(.a [(.b (((y1.getD default).2.1.getD 0 (.i 0)).toI == 1)), (.i (y3.getD default)), (.l (y5.getD default).2.1 (y5.getD default).2.2)])])
            else
             none
           else
            none
          else
           none
         else
          none
        else
         none
       else
        none
      else
       none
     else
      none
    else
     none
   else
    k2 ()
def G113x0x24023 (w1 : Int) (w2 : Bool) (w3 : Int) (w4 : Bool) (w5 : LD) (w6 : D) : Option (Sum (Int × Int × Int) (Sum (Bool × Int × D × Int × Int × LD) (Unit))) := F113x0x24023 N w1 w2 w3 w4 w5 w6 (fun p => some (.inl p)) (fun p => some (.inr (.inl p))) (fun p => some (.inr (.inr p)))
theorem bind113x0x24023 (w1 : Int) (w2 : Bool) (w3 : Int) (w4 : Bool) (w5 : LD) (w6 : D) (k0 : Int × Int × Int → Option R) (k1 : Bool × Int × D × Int × Int × LD → Option R) (k2 : Unit → Option R) : F113x0x24023 N w1 w2 w3 w4 w5 w6 k0 k1 k2 = (G113x0x24023 N w1 w2 w3 w4 w5 w6).bind (sumE k0 (sumE k1 k2)) := by
 unfold G113x0x24023 F113x0x24023
 repeat' (first | with_reducible apply cond_b | (with_reducible apply bnd_b; intro _) | rfl)
def J113x0x24023 (L : List Lf) (k0 : Int × Int × Int → Option R) (k1 : Bool × Int × D × Int × Int × LD → Option R) (k2 : Unit → Option R) : Option R := F113x0x24023 N (li L 1) (lb L 2) (li L 3) (lb L 4) (ll L 5) (ld L 6) k0 k1 k2
def sh113x0x24023 : Sh := { tmps := [(0, .c (.p 0 0)), (2, .c (.p 2 0)), (3, .c (.p 6 0)), (6, .c (.i .i64)), (7, .c (.f 114 [(0, 0), (1, 0)])), (8, .c (.p 11 0)), (9, .c (.i .i64)), (25, .c (.b))], mem := [(0, .box ([.i .i64])), (1, .box ([.sl 5])), (2, .dat 175), (6, .box ([.i .i64, .i .i64, .i .i64, .sl 115, .sl 5])), (11, .box ([.i .i64, .i .i64, .i .i64, .sl 115, .sl 5]))] }
def K113x0x24023w0 (L : List Lf) (p : Int × Int × Int) : Ex × St := (.normal, mg (ofSh sh113x0x24023 L) [0, 2, 3, 6, 7, 8] [] [0, 1, 2, 6, 11] [(11, .box [.i .i64 p.1, .i .i64 p.2.1, .i .i64 p.2.2, .sl 115 true [], .sl 5 true []])])
def K113x0x24023w1 (L : List Lf) (p : Bool × Int × D × Int × Int × LD) : Ex × St := let p1 := p.2; let p2 := p1.2; let p3 := p2.2; let p4 := p3.2; let p5 := p4.2; (.ret, mg (ofSh sh113x0x24023 L) [0, 3, 4, 5, 6, 8] [(4, .c (.i .i64 (li L 0))), (5, .c (.b p.1))] [0, 1, 2, 6, 11, 89] [(0, .box [.i .i64 p1.1]), (2, .dat 175 p2.1), (6, .box [.i .i64 1, .i .i64 p3.1, .i .i64 0, .o 89, .sl 5 true []]), (11, .box [.i .i64 1, .i .i64 p4.1, .i .i64 0, .o 89, .sl 5 true []]), (89, .row 115 true false p5)])
def K113x0x24023w2 (L : List Lf) (_ : Unit) : Ex × St := (.ret, mg (ofSh sh113x0x24023 L) [3, 4, 5, 6, 8] [(4, .c (.i .i64 (li L 0))), (5, .c (.b false))] [0, 1, 2, 6, 11] [(6, .box [.i .i64 (li L 14), .i .i64 (li L 15), .i .i64 (li L 16), .sl 115 (lb L 17) (ll L 18), .sl 5 (lb L 19) (ll L 20)])])
def A113x0x24023 (L : List Lf) : List (Bool × (Ex × St)) := bnd (J113x0x24023 N L (fun p => some (.inl p)) (fun p => some (.inr (.inl p))) (fun p => some (.inr (.inr p)))) fun q => [((inlB q), K113x0x24023w0 L (inlV q)), ((inlB (inrQ q)), K113x0x24023w1 L (inlV (inrQ q))), ((inrQ (inrQ q)).isSome, K113x0x24023w2 L ())]
theorem raw113x0x24023 (L : List Lf) : pc Tryz.prog (T117x0 N) (h113x0s1 N).h 3 100 113 24023 sh113x0x24023 L [8, 2, 0, 6, 3, 7, 4, 5] [11, 1, 6, 2, 0, 89] = J113x0x24023 N L (fun p => some (K113x0x24023w0 L p)) (fun p => some (K113x0x24023w1 L p)) (fun _ => some (K113x0x24023w2 L ())) := by kernel_rfl
def h113x0s2 : Sg Tryz.prog 3 113 :=
 (h113x0s1 N).cut (A113x0x24023 N) progOk (T117x0_ok N) fun L x hx => (raw113x0x24023 N L).trans ((bind113x0x24023 N ..).trans ((altS (altS alt1)) x hx))
def F113x0x89 (N : Nat) (w1 : Int) (w2 : Bool) (k0 : Int → R) : R :=
 bif w2 then
  k0 (IntKind.wrap .i64 (w1 - 4))
 else
  k0 w1
def V113x0x89 (w1 : Int) (w2 : Bool) : Int := F113x0x89 N w1 w2 (fun p => p)
theorem tot113x0x89 (w1 : Int) (w2 : Bool) (k0 : Int → R) : F113x0x89 N w1 w2 k0 = k0 (V113x0x89 N w1 w2) := by
 unfold V113x0x89 F113x0x89
 repeat' (first | rfl | apply cond_k | (apply bnd_k; intro _))
def sh113x0x89 : Sh := { tmps := [(0, .c (.p 0 0)), (3, .c (.p 6 0)), (6, .c (.i .i64)), (7, .c (.f 114 [(0, 0), (1, 0)])), (8, .c (.p 11 0)), (15, .c (.i .i64)), (127, .c (.b))], mem := [(0, .box ([.i .i64])), (1, .box ([.sl 5])), (2, .dat 175), (6, .box ([.i .i64, .i .i64, .i .i64, .sl 115, .sl 5])), (11, .box ([.i .i64, .i .i64, .i .i64, .sl 115, .sl 5]))] }
def K113x0x89w0 (L : List Lf) (p : Int) : Ex × St := (.normal, mg (ofSh sh113x0x89 L) [0, 3, 6, 7, 8, 15] [(15, .c (.i .i64 p))] [0, 1, 2, 6, 11] [])
def A113x0x89 (L : List Lf) : List (Bool × (Ex × St)) := bnd (F113x0x89 N (li L 1) (lb L 2) (fun p => p)) fun q => [(true, K113x0x89w0 L q)]
theorem raw113x0x89 (L : List Lf) : pc Tryz.prog (T117x0 N) (h113x0s2 N).h 3 100 113 89 sh113x0x89 L [7, 15, 8, 6, 0, 3] [2, 11, 1, 6, 0] = F113x0x89 N (li L 1) (lb L 2) (fun p => some (K113x0x89w0 L p)) := by kernel_rfl
def h113x0s3 : Sg Tryz.prog 3 113 :=
 (h113x0s2 N).cut (A113x0x89 N) progOk (T117x0_ok N) fun L x hx => (raw113x0x89 N L).trans ((tot113x0x89 N ..).trans (alt0 _ _ hx))
def F113x0 (v0 : Int) (v1 : Bool) (v2 : LD) (v3 : D) (k0 : Ty1 → Option R) : Option R :=
 bnd (G114x0 N 1 v0 v1 v2) fun y0 =>
 bif y0.isSome then
  bif (inB 0 (y0.getD default).2.1.length) then
   bnd (IntKind.wrap .i64 ((y0.getD default).2.1.getD 0 (.i 0)).toI) fun y1 =>
   bnd (G113x0x24023 N y1 (decide (y1 ≥ 128)) (y0.getD default).2.2 v1 v2 v3) fun y2 =>
   bif (inlB y2) then
    bif (inB (inlV y2).2.1 16) then
     bnd (bif (decide ((y0.getD default).2.2 < 0)) then true else (!(v3.cell (0 + ((inlV y2).2.1.toNat * 6))).toB)) fun y3 =>
     bnd (bif y3 then true else (bif ((inlV y2).1 == 3) then (decide ((v3.cell (5 + ((inlV y2).2.1.toNat * 6))).toI < 0)) else false)) fun y4 =>
     bif y4 then
      k0 ((inlV y2).1, (inlV y2).2.1, (inlV y2).2.2, true, [], true, [], false, (y0.getD default).2.2, v3)
     else
      bnd (V113x0x89 N (v3.cell (4 + ((inlV y2).2.1.toNat * 6))).toI ((inlV y2).1 == 3)) fun y5 =>
      bnd (G114x0 N y5 (y0.getD default).2.2 v1 v2) fun y6 =>
      bif y6.isSome then
       bnd (G117x0 N (y6.getD default).1 (y6.getD default).2.1) fun y7 =>
       bif y7.isSome then
        k0 ((inlV y2).1, (inlV y2).2.1, (inlV y2).2.2, true, [], (y7.getD default).1, (y7.getD default).2, (decide ((y6.getD default).2.2 ≥ 0)), (y6.getD default).2.2, v3)
       else
        none
      else
       none
    else
     none
   else
    bif (inlB (inrQ y2)) then
     k0 (1, (inlV (inrQ y2)).2.2.2.1, 0, false, (inlV (inrQ y2)).2.2.2.2.2, true, [], (inlV (inrQ y2)).1, (inlV (inrQ y2)).2.1, (inlV (inrQ y2)).2.2.1)
    else
     bif (inrQ (inrQ y2)).isSome then
      k0 (0, 0, 0, true, [], true, [], false, (y0.getD default).2.2, v3)
     else
      none
  else
   none
 else
  none
def G113x0 (v0 : Int) (v1 : Bool) (v2 : LD) (v3 : D) : Option (Ty1) := F113x0 N v0 v1 v2 v3 (fun p => some p)
theorem bind113x0 (v0 : Int) (v1 : Bool) (v2 : LD) (v3 : D) (k0 : Ty1 → Option R) : F113x0 N v0 v1 v2 v3 k0 = (G113x0 N v0 v1 v2 v3).bind k0 := by
 unfold G113x0 F113x0
 repeat' (first | with_reducible apply cond_b | (with_reducible apply bnd_b; intro _) | rfl)
def J113x0 (L : List Lf) (k0 : Ty1 → Option R) : Option R := F113x0 N (li L 0) (lb L 1) (ll L 2) (ld L 3) k0
def sh113x0 : Sh := { tmps := [(0, .c (.p 0 0)), (1, .c (.p 1 0)), (2, .c (.p 2 0))], mem := [(0, .box ([.i .i64])), (1, .box ([.sl 5])), (2, .dat 175)] }
def K113x0w0 (L : List Lf) (p : Ty1) : Res := let p1 := p.2; let p2 := p1.2; let p3 := p2.2; let p4 := p3.2; let p5 := p4.2; let p6 := p5.2; let p7 := p6.2; let p8 := p7.2; let p9 := p8.2; ([.g [.i .i64 p.1, .i .i64 p1.1, .i .i64 p2.1, .sl 115 p3.1 p4.1, .sl 5 p5.1 p6.1], .c (.i .i64 (li L 0)), .c (.b p7.1)], mgA (ofSh sh113x0 L).mem [(0, .box [.i .i64 p8.1]), (2, .dat 175 p9)] [0, 1, 2])
def A113x0 (L : List Lf) : List (Bool × Res) := bnd (J113x0 N L (fun p => some p)) fun q => [(q.isSome, K113x0w0 L (q.getD default))]
theorem raw113x0 (L : List Lf) : bd Tryz.prog (T117x0 N) (h113x0s3 N).h 113 sh113x0 L = J113x0 N L (fun p => some (K113x0w0 L p)) := by kernel_rfl
theorem ok113x0 : FnOk Tryz.prog 113 sh113x0 (A113x0 N) :=
 (h113x0s3 N).fn progOk (T117x0_ok N) fun L x hx => ((raw113x0 N L).trans ((bind113x0 N ..).trans (alt1 x hx)))
def T113x0 : Oracle := ext 113 (spSh sh113x0 (A113x0 N)) (T117x0 N)
theorem T113x0_ok : OracleOk Tryz.prog (T113x0 N) := FnOk.to (ok113x0 N) (T117x0_ok N)
def rg138x0 : List (Nat × List Nat) := [(0, [0]), (1, [2, 3, 0]), (3, [0, 2, 3]), (2, [2, 3, 0])]
def hd138x0 : Hints := [(3, [2, 3, 0], [0], [])]
def h138x0s0 (N : Nat) : Sg Tryz.prog 1 138 := .start hd138x0 rg138x0
def S138x0x3 (N : Nat) (w0 w1 : Int) (w3 : LD) (kr : Int → Int → LD → Option R) (k0 : LD → Option R) : Option R :=
 bif (decide (w0 < w1)) then
  bif (inB w1 w3.length) then
   bif (decide (w1.toNat < w3.length)) then
    bif (inB w0 w3.length) then
     bif (decide (w0.toNat < w3.length)) then
      bif (inB w0 w3.length) then
       bif (decide (w0.toNat < w3.length)) then
        bif (inB w1 (w3.set w0.toNat (.i (w3.getD w1.toNat (.i 0)).toI)).length) then
         bif (decide (w1.toNat < (w3.set w0.toNat (.i (w3.getD w1.toNat (.i 0)).toI)).length)) then
          bnd (((w3.set w0.toNat (.i (w3.getD w1.toNat (.i 0)).toI)).set w1.toNat (.i (w3.getD w0.toNat (.i 0)).toI)) : List D) fun y0 =>
          kr (IntKind.wrap .i64 (w0 + 1)) (IntKind.wrap .i64 (w1 - 1)) y0
         else
          none
        else
         none
       else
        none
      else
       none
     else
      none
    else
     none
   else
    none
  else
   none
 else
  k0 w3
def L138x0x3 (N : Nat) {R : Type} : Nat → Int → Int → LD → (LD → Option R) → Option R
 | 0, _, _, _, _ => none
 | m + 1, w0, w1, w3, k0 => S138x0x3 N w0 w1 w3 (fun w0 w1 w3 => L138x0x3 N m w0 w1 w3 k0) k0
def G138x0x3 (w0 w1 : Int) (w3 : LD) : Option (LD) := L138x0x3 N (R := (LD)) N w0 w1 w3 (fun p => some p)
def J138x0x3 (L x : List Lf) (kr : List Lf → Option R) (k0 : LD → Option R) : Option R := S138x0x3 N (li x 0) (li x 1) (ll x 2) (fun w0 w1 w3 => kr [.i w0, .i w1, .l w3]) k0
theorem sb138x0x3 (L x : List Lf) (kr : List Lf → Option R) (k0 : LD → Option R) : J138x0x3 N L x kr k0 = (J138x0x3 N L x (fun y => some (.inl y)) (fun p => some (.inr p))).bind (sumE kr k0) := by
 unfold J138x0x3 S138x0x3
 repeat' (first | with_reducible apply cond_b | (with_reducible apply bnd_b; intro _) | rfl)
def Q138x0x3 (L : List Lf) (m : Nat) (x : List Lf) : Option (LD) := L138x0x3 N (R := (LD)) m (li x 0) (li x 1) (ll x 2) (fun p => some p)
def sh138x0x3 : Sh := { tmps := [(0, .c (.o 0)), (2, .c (.i .i64)), (3, .c (.i .i64))], mem := [(0, .row 5 true)] }
def A138x0x3 (L : List Lf) : List (Bool × (Ex × St)) := bnd (Q138x0x3 N L N (pk sh138x0x3 [0, 1, 3] L)) fun q => [(q.isSome, ((.exit 0), ⟨[], [(0, .row 5 true (lb L 2) (q.getD default))]⟩))]
theorem step138x0x3 (m : Nat) (kn : St → Option (Ex × St)) (L x : List Lf) : lpB Tryz.prog (T113x0 N) (h138x0s0 N).h 1 138 3 sh138x0x3 [0, 1, 3] [] [0] (m + 100) kn L x = J138x0x3 N L x (fun y => kn (ofSh sh138x0x3 (mx sh138x0x3 [0, 1, 3] L y))) (fun p => some ((.exit 0), ⟨[], [(0, .row 5 true (lb L 2) p)]⟩)) := by kernel_rfl
theorem ql138x0x3 (L : List Lf) (m : Nat) (x : List Lf) : Q138x0x3 N L (m + 1) x = J138x0x3 N L x (Q138x0x3 N L m) some := by kernel_rfl
def h138x0s1 : Sg Tryz.prog 1 138 :=
 (h138x0s0 N).lp (A138x0x3 N) N progOk (T113x0_ok N) (fun m kn L x => (step138x0x3 N m kn L x).trans (sb138x0x3 N L x _ _)) (fun L m x => (ql138x0x3 N L m x).trans (sb138x0x3 N L x (Q138x0x3 N L m) some)) fun L x hx => alt1 x hx
def F138x0 (v1 : LD) (k0 : LD → Option R) : Option R :=
 bnd (G138x0x3 N 0 (IntKind.wrap .i64 ((v1.length : Int) - 1)) v1) fun y0 =>
 bif y0.isSome then
  k0 (y0.getD default)
 else
  none
def G138x0 (v1 : LD) : Option (LD) := F138x0 N v1 (fun p => some p)
theorem bind138x0 (v1 : LD) (k0 : LD → Option R) : F138x0 N v1 k0 = (G138x0 N v1).bind k0 := by
 unfold G138x0 F138x0
 repeat' (first | with_reducible apply cond_b | (with_reducible apply bnd_b; intro _) | rfl)
def sh138x0 : Sh := { tmps := [(0, .c (.o 0))], mem := [(0, .row 5 true)] }
def A138x0 (L : List Lf) : List (Bool × Res) := bnd (F138x0 N (ll L 1) (fun p => some p)) fun q => [(q.isSome, ([], [(0, .row 5 true (lb L 0) (q.getD default))]))]
theorem raw138x0 (L : List Lf) : bd Tryz.prog (T113x0 N) (h138x0s1 N).h 138 sh138x0 L = F138x0 N (ll L 1) (fun p => some ([], [(0, .row 5 true (lb L 0) p)])) := by kernel_rfl
theorem ok138x0 : FnOk Tryz.prog 138 sh138x0 (A138x0 N) :=
 (h138x0s1 N).fn progOk (T113x0_ok N) fun L x hx => ((raw138x0 N L).trans ((bind138x0 N ..).trans (alt1 x hx)))
def T138x0 : Oracle := ext 138 (spSh sh138x0 (A138x0 N)) (T113x0 N)
theorem T138x0_ok : OracleOk Tryz.prog (T138x0 N) := FnOk.to (ok138x0 N) (T113x0_ok N)
def rg78x0 : List (Nat × List Nat) := [(0, [1, 0, 2]), (1, [1, 0, 2]), (2, [7, 0, 2]), (3, [13, 12, 7, 0, 2]), (4, [13, 7, 0, 12, 2]), (5, [7, 8, 0, 13, 12, 2]), (6, [13, 12, 7, 0, 2]), (7, [2, 7]), (8, [7]), (9, [7])]
def hd78x0 : Hints := [(9, [13, 12, 7, 0, 2], [10], []), (26, [7, 25], [10], [])]
def h78x0s0 (N : Nat) : Sg Tryz.prog 0 78 := .start hd78x0 rg78x0
def S78x0x9 (N : Nat) (w0 w2 : Int) (w3 : Int) (w5 : LD) (kr : Int → LD → Option R) (k0 : LD → Option R) : Option R :=
 bif (decide (w3 < w2)) then
  bif (decide (0 ≤ (IntKind.wrap .i64 (8 * w3)))) then
   bnd (IntKind.wrap .u8 (w0.fdiv (2 ^ (min (IntKind.wrap .i64 (8 * w3)).toNat 64)))) fun y0 =>
   bif (inB w3 w5.length) then
    bif (decide (w3.toNat < w5.length)) then
     kr (IntKind.wrap .i64 (w3 + 1)) (w5.set w3.toNat (.i y0))
    else
     none
   else
    none
  else
   none
 else
  k0 w5
def L78x0x9 (N : Nat) {R : Type} (w0 w2 : Int) : Nat → Int → LD → (LD → Option R) → Option R
 | 0, _, _, _ => none
 | m + 1, w3, w5, k0 => S78x0x9 N w0 w2 w3 w5 (fun w3 w5 => L78x0x9 N w0 w2 m w3 w5 k0) k0
def G78x0x9 (w0 w2 : Int) (w3 : Int) (w5 : LD) : Option (LD) := L78x0x9 N (R := (LD)) w0 w2 N w3 w5 (fun p => some p)
def J78x0x9 (L x : List Lf) (kr : List Lf → Option R) (k0 : LD → Option R) : Option R := S78x0x9 N (li L 0) (li L 2) (li x 0) (ll x 1) (fun w3 w5 => kr [.i w3, .l w5]) k0
theorem sb78x0x9 (L x : List Lf) (kr : List Lf → Option R) (k0 : LD → Option R) : J78x0x9 N L x kr k0 = (J78x0x9 N L x (fun y => some (.inl y)) (fun p => some (.inr p))).bind (sumE kr k0) := by
 unfold J78x0x9 S78x0x9
 repeat' (first | with_reducible apply cond_b | (with_reducible apply bnd_b; intro _) | rfl)
def Q78x0x9 (L : List Lf) (m : Nat) (x : List Lf) : Option (LD) := L78x0x9 N (R := (LD)) (li L 0) (li L 2) m (li x 0) (ll x 1) (fun p => some p)
def sh78x0x9 : Sh := { tmps := [(0, .c (.i .i64)), (2, .c (.b)), (7, .c (.o 10)), (12, .c (.i .i64)), (13, .c (.i .i64))], mem := [(10, .row 5 true)] }
def K78x0x9w0 (L : List Lf) (p : LD) : Ex × St := ((.exit 0), mg (ofSh sh78x0x9 L) [2, 7] [] [10] [(10, .row 5 true (lb L 4) p)])
def A78x0x9 (L : List Lf) : List (Bool × (Ex × St)) := bnd (Q78x0x9 N L N (pk sh78x0x9 [3, 5] L)) fun q => [(q.isSome, K78x0x9w0 L (q.getD default))]
theorem step78x0x9 (m : Nat) (kn : St → Option (Ex × St)) (L x : List Lf) : lpB Tryz.prog (T138x0 N) (h78x0s0 N).h 0 78 9 sh78x0x9 [3, 5] [6, 2, 7] [10] (m + 100) kn L x = J78x0x9 N L x (fun y => kn (ofSh sh78x0x9 (mx sh78x0x9 [3, 5] L y))) (fun p => some (K78x0x9w0 L p)) := by kernel_rfl
theorem ql78x0x9 (L : List Lf) (m : Nat) (x : List Lf) : Q78x0x9 N L (m + 1) x = J78x0x9 N L x (Q78x0x9 N L m) some := by kernel_rfl
def h78x0s1 : Sg Tryz.prog 0 78 :=
 (h78x0s0 N).lp (A78x0x9 N) N progOk (T138x0_ok N) (fun m kn L x => (step78x0x9 N m kn L x).trans (sb78x0x9 N L x _ _)) (fun L m x => (ql78x0x9 N L m x).trans (sb78x0x9 N L x (Q78x0x9 N L m) some)) fun L x hx => alt1 x hx
def F78x0x26 (w0 : Bool) (w2 : LD) (k0 : LD → Option R) : Option R :=
 bif w0 then
  bnd (G138x0 N w2) fun y0 =>
  bif y0.isSome then
   k0 (y0.getD default)
  else
   none
 else
  k0 w2
def G78x0x26 (w0 : Bool) (w2 : LD) : Option (LD) := F78x0x26 N w0 w2 (fun p => some p)
theorem bind78x0x26 (w0 : Bool) (w2 : LD) (k0 : LD → Option R) : F78x0x26 N w0 w2 k0 = (G78x0x26 N w0 w2).bind k0 := by
 unfold G78x0x26 F78x0x26
 repeat' (first | with_reducible apply cond_b | (with_reducible apply bnd_b; intro _) | rfl)
def sh78x0x26 : Sh := { tmps := [(7, .c (.o 10)), (25, .c (.b))], mem := [(10, .row 5 true)] }
def K78x0x26w0 (L : List Lf) (p : LD) : Ex × St := (.normal, ⟨[(7, .c (.o 10))], [(10, .row 5 true (lb L 1) p)]⟩)
def A78x0x26 (L : List Lf) : List (Bool × (Ex × St)) := bnd (F78x0x26 N (lb L 0) (ll L 2) (fun p => some p)) fun q => [(q.isSome, K78x0x26w0 L (q.getD default))]
theorem raw78x0x26 (L : List Lf) : pc Tryz.prog (T138x0 N) (h78x0s1 N).h 0 100 78 26 sh78x0x26 L [7] [10] = F78x0x26 N (lb L 0) (ll L 2) (fun p => some (K78x0x26w0 L p)) := by kernel_rfl
def h78x0s2 : Sg Tryz.prog 0 78 :=
 (h78x0s1 N).cut (A78x0x26 N) progOk (T138x0_ok N) fun L x hx => (raw78x0x26 N L).trans ((bind78x0x26 N ..).trans (alt1 x hx))
def F78x0 (v0 v1 : Int) (v2 : Bool) (k0 : LD → Option R) : Option R :=
 bif (((decide (0 ≤ v1)) && (decide (v1 ≤ v1))) && (decide (v1.toNat * 1 ≤ room) && decide (v1.toNat ≤ strMax))) then
  bnd (G78x0x9 N v0 ((List.replicate v1.toNat ((.i 0) : D)).length : Int) 0 (List.replicate v1.toNat ((.i 0) : D))) fun y0 =>
  bif y0.isSome then
   bnd (G78x0x26 N v2 (y0.getD default)) fun y1 =>
   bif y1.isSome then
    k0 (y1.getD default)
   else
    none
  else
   none
 else
  none
def G78x0 (v0 v1 : Int) (v2 : Bool) : Option (LD) := F78x0 N v0 v1 v2 (fun p => some p)
theorem bind78x0 (v0 v1 : Int) (v2 : Bool) (k0 : LD → Option R) : F78x0 N v0 v1 v2 k0 = (G78x0 N v0 v1 v2).bind k0 := by
 unfold G78x0 F78x0
 repeat' (first | with_reducible apply cond_b | (with_reducible apply bnd_b; intro _) | rfl)
def sh78x0 : Sh := { tmps := [(0, .c (.i .i64)), (1, .c (.i .i64)), (2, .c (.b))], mem := [] }
def A78x0 (L : List Lf) : List (Bool × Res) := bnd (F78x0 N (li L 0) (li L 1) (lb L 2) (fun p => some p)) fun q => [(q.isSome, ([.c (.sl 5 false (q.getD default))], []))]
theorem raw78x0 (L : List Lf) : bd Tryz.prog (T138x0 N) (h78x0s2 N).h 78 sh78x0 L = F78x0 N (li L 0) (li L 1) (lb L 2) (fun p => some ([.c (.sl 5 false p)], [])) := by kernel_rfl
theorem ok78x0 : FnOk Tryz.prog 78 sh78x0 (A78x0 N) :=
 (h78x0s2 N).fn progOk (T138x0_ok N) fun L x hx => ((raw78x0 N L).trans ((bind78x0 N ..).trans (alt1 x hx)))
def T78x0 : Oracle := ext 78 (spSh sh78x0 (A78x0 N)) (T138x0 N)
theorem T78x0_ok : OracleOk Tryz.prog (T78x0 N) := FnOk.to (ok78x0 N) (T138x0_ok N)
def rg52x0 : List (Nat × List Nat) := [(0, [0]), (1, [1]), (2, [8, 1]), (4, [8, 1]), (5, [1]), (3, [1]), (6, [1]), (7, [1, 3]), (8, [3, 4]), (9, [4, 3]), (10, [4, 3]), (11, [4, 3]), (12, [3, 4]), (13, [62, 61, 60, 4]), (14, [60, 62, 4, 61]), (15, [4, 6, 62, 61, 60]), (16, [62, 61, 60, 4]), (17, [4])]
def hd52x0 : Hints := [(29, [4, 3, 42], [40, 3], []), (39, [62, 61, 60, 4], [58, 4], [4])]
def h52x0s0 (N : Nat) : Sg Tryz.prog 0 52 := .start hd52x0 rg52x0
def F52x0x29 (N : Nat) (w0 : Bool) (w6 : LD) (k0 : LD → Option R) : Option R :=
 bif w0 then
  bif (inB 1 w6.length) then
   bif (decide (1 < w6.length)) then
    k0 (w6.set 1 (.i 1))
   else
    none
  else
   none
 else
  k0 w6
def G52x0x29 (w0 : Bool) (w6 : LD) : Option (LD) := F52x0x29 N w0 w6 (fun p => some p)
theorem bind52x0x29 (w0 : Bool) (w6 : LD) (k0 : LD → Option R) : F52x0x29 N w0 w6 k0 = (G52x0x29 N w0 w6).bind k0 := by
 unfold G52x0x29 F52x0x29
 repeat' (first | with_reducible apply cond_b | (with_reducible apply bnd_b; intro _) | rfl)
def sh52x0x29 : Sh := { tmps := [(3, .c (.p 3 0)), (4, .c (.o 40)), (42, .c (.b))], mem := [(3, .box ([.b, .i .i64, .sl 136])), (40, .row 5 true)] }
def K52x0x29w0 (L : List Lf) (p : LD) : Ex × St := (.normal, mg (ofSh sh52x0x29 L) [3, 4] [] [3, 40] [(40, .row 5 true (lb L 5) p)])
def A52x0x29 (L : List Lf) : List (Bool × (Ex × St)) := bnd (F52x0x29 N (lb L 0) (ll L 6) (fun p => some p)) fun q => [(q.isSome, K52x0x29w0 L (q.getD default))]
theorem raw52x0x29 (L : List Lf) : pc Tryz.prog (T78x0 N) (h52x0s0 N).h 0 100 52 29 sh52x0x29 L [4, 3] [40, 3] = F52x0x29 N (lb L 0) (ll L 6) (fun p => some (K52x0x29w0 L p)) := by kernel_rfl
def h52x0s1 : Sg Tryz.prog 0 52 :=
 (h52x0s0 N).cut (A52x0x29 N) progOk (T78x0_ok N) fun L x hx => (raw52x0x29 N L).trans ((bind52x0x29 N ..).trans (alt1 x hx))
def S52x0x39 (N : Nat) (w1 : LD) (w2 : Int) (w3 : Int) (w4 : Bool) (w5 : LD) (kr : Int → Bool → LD → Option R) (k0 : Bool × LD → Option R) : Option R :=
 bif (decide (w3 < w2)) then
  bif (inB w3 w1.length) then
   bif (decide ((w5.length + 3) * 1 ≤ room) && decide ((w5.length + 3) ≤ strMax)) then
    bnd ((w5 ++ [(.i (IntKind.wrap .u8 ((w1.getD w3.toNat (.i 0)).cell 0).toI)), (.i (IntKind.wrap .u8 ((w1.getD w3.toNat (.i 0)).cell 1).toI)), (.i (IntKind.wrap .u8 ((w1.getD w3.toNat (.i 0)).cell 2).toI))]) : List D) fun y0 =>
    kr (IntKind.wrap .i64 (w3 + 1)) false y0
   else
    none
  else
   none
 else
  k0 (w4, w5)
def L52x0x39 (N : Nat) {R : Type} (w1 : LD) (w2 : Int) : Nat → Int → Bool → LD → (Bool × LD → Option R) → Option R
 | 0, _, _, _, _ => none
 | m + 1, w3, w4, w5, k0 => S52x0x39 N w1 w2 w3 w4 w5 (fun w3 w4 w5 => L52x0x39 N w1 w2 m w3 w4 w5 k0) k0
def G52x0x39 (w1 : LD) (w2 : Int) (w3 : Int) (w4 : Bool) (w5 : LD) : Option (Bool × LD) := L52x0x39 N (R := (Bool × LD)) w1 w2 N w3 w4 w5 (fun p => some p)
def J52x0x39 (L x : List Lf) (kr : List Lf → Option R) (k0 : Bool × LD → Option R) : Option R := S52x0x39 N (ll L 1) (li L 2) (li x 0) (lb x 1) (ll x 2) (fun w3 w4 w5 => kr [.i w3, .b w4, .l w5]) k0
theorem sb52x0x39 (L x : List Lf) (kr : List Lf → Option R) (k0 : Bool × LD → Option R) : J52x0x39 N L x kr k0 = (J52x0x39 N L x (fun y => some (.inl y)) (fun p => some (.inr p))).bind (sumE kr k0) := by
 unfold J52x0x39 S52x0x39
 repeat' (first | with_reducible apply cond_b | (with_reducible apply bnd_b; intro _) | rfl)
def Q52x0x39 (L : List Lf) (m : Nat) (x : List Lf) : Option (Bool × LD) := L52x0x39 N (R := (Bool × LD)) (ll L 1) (li L 2) m (li x 0) (lb x 1) (ll x 2) (fun p => some p)
def sh52x0x39 : Sh := { tmps := [(4, .c (.o 4)), (60, .c (.sl 136)), (61, .c (.i .i64)), (62, .c (.i .i64))], mem := [(4, .row 5 true)] }
def A52x0x39 (L : List Lf) : List (Bool × (Ex × St)) := bnd (Q52x0x39 N L N (pk sh52x0x39 [3, 4, 5] L)) fun q => [(q.isSome, ((.exit 1), ⟨[(4, .c (.o 4))], [(4, .row 5 true (q.getD default).1 (q.getD default).2)]⟩))]
theorem step52x0x39 (m : Nat) (kn : St → Option (Ex × St)) (L x : List Lf) : lpB Tryz.prog (T78x0 N) (h52x0s1 N).h 0 52 39 sh52x0x39 [3, 4, 5] [2, 4] [4] (m + 100) kn L x = J52x0x39 N L x (fun y => kn (ofSh sh52x0x39 (mx sh52x0x39 [3, 4, 5] L y))) (fun p => some ((.exit 1), ⟨[(4, .c (.o 4))], [(4, .row 5 true p.1 p.2)]⟩)) := by kernel_rfl
theorem ql52x0x39 (L : List Lf) (m : Nat) (x : List Lf) : Q52x0x39 N L (m + 1) x = J52x0x39 N L x (Q52x0x39 N L m) some := by kernel_rfl
def h52x0s2 : Sg Tryz.prog 0 52 :=
 (h52x0s1 N).lp (A52x0x39 N) N progOk (T78x0_ok N) (fun m kn L x => (step52x0x39 N m kn L x).trans (sb52x0x39 N L x _ _)) (fun L m x => (ql52x0x39 N L m x).trans (sb52x0x39 N L x (Q52x0x39 N L m) some)) fun L x hx => alt1 x hx
def F52x0 (v0 v1 v2 : Int) (v4 v6 : LD) (k0 : Bool × LD → Option R) : Option R :=
 bif (v0 == 2) then
  bif (decide ((1 + v6.length) * 1 ≤ room) && decide ((1 + v6.length) ≤ strMax)) then
   k0 ((v6.isEmpty && false), ([(.i (IntKind.wrap .u8 v1))] ++ v6))
  else
   none
 else
  bif (v0 == 3) then
   bnd (IntKind.wrap .i64 ((IntKind.wrap .i64 (128 + (IntKind.wrap .i64 (32 * v1)))) + v2)) fun y0 =>
   bif (decide ((1 + v6.length) * 1 ≤ room) && decide ((1 + v6.length) ≤ strMax)) then
    k0 ((v6.isEmpty && false), ([(.i (IntKind.wrap .u8 y0))] ++ v6))
   else
    none
  else
   bif (inB 0 v4.length) then
    bnd (G52x0x29 N ((v4.getD 0 (.i 0)).cell 0).toB [(.i (IntKind.wrap .u8 (IntKind.wrap .i64 (64 + v1)))), (.i 0)]) fun y1 =>
    bif y1.isSome then
     bnd (G78x0 N ((v4.getD 0 (.i 0)).cell 1).toI 2 ((v4.getD 0 (.i 0)).cell 0).toB) fun y2 =>
     bif y2.isSome then
      bif (decide (((y1.getD default).length + (y2.getD default).length) * 1 ≤ room) && decide (((y1.getD default).length + (y2.getD default).length) ≤ strMax)) then
       bnd (IntKind.wrap .u8 (((v4.getD 0 (.i 0)).cell 2).items.length : Int)) fun y3 =>
       bif (decide ((((y1.getD default) ++ (y2.getD default)).length + 1) * 1 ≤ room) && decide ((((y1.getD default) ++ (y2.getD default)).length + 1) ≤ strMax)) then
        bnd ((((y1.getD default) ++ (y2.getD default)) ++ [(.i y3)]) : List D) fun y4 =>
        bnd (G52x0x39 N ((v4.getD 0 (.i 0)).cell 2).items (((v4.getD 0 (.i 0)).cell 2).items.length : Int) 0 false y4) fun y5 =>
        bif y5.isSome then
         k0 (y5.getD default)
        else
         none
       else
        none
      else
       none
     else
      none
    else
     none
   else
    none
def G52x0 (v0 v1 v2 : Int) (v4 v6 : LD) : Option (Bool × LD) := F52x0 N v0 v1 v2 v4 v6 (fun p => some p)
theorem bind52x0 (v0 v1 v2 : Int) (v4 v6 : LD) (k0 : Bool × LD → Option R) : F52x0 N v0 v1 v2 v4 v6 k0 = (G52x0 N v0 v1 v2 v4 v6).bind k0 := by
 unfold G52x0 F52x0
 repeat' (first | with_reducible apply cond_b | (with_reducible apply bnd_b; intro _) | rfl)
def J52x0 (L : List Lf) (k0 : Bool × LD → Option R) : Option R := F52x0 N (li L 0) (li L 1) (li L 2) (ll L 4) (ll L 6) k0
def sh52x0 : Sh := { tmps := [(0, .g ([.i .i64, .i .i64, .i .i64, .sl 115, .sl 5]))], mem := [] }
def A52x0 (L : List Lf) : List (Bool × Res) := bnd (J52x0 N L (fun p => some p)) fun q => [(q.isSome, ([.c (.sl 5 (q.getD default).1 (q.getD default).2)], []))]
theorem raw52x0 (L : List Lf) : bd Tryz.prog (T78x0 N) (h52x0s2 N).h 52 sh52x0 L = J52x0 N L (fun p => some ([.c (.sl 5 p.1 p.2)], [])) := by kernel_rfl
theorem ok52x0 : FnOk Tryz.prog 52 sh52x0 (A52x0 N) :=
 (h52x0s2 N).fn progOk (T78x0_ok N) fun L x hx => ((raw52x0 N L).trans ((bind52x0 N ..).trans (alt1 x hx)))
def T52x0 : Oracle := ext 52 (spSh sh52x0 (A52x0 N)) (T78x0 N)
theorem T52x0_ok : OracleOk Tryz.prog (T52x0 N) := FnOk.to (ok52x0 N) (T78x0_ok N)
def rg118x0 : List (Nat × List Nat) := [(0, []), (1, [])]
def hd118x0 : Hints := []
def h118x0s0 (N : Nat) : Sg Tryz.prog 0 118 := .start hd118x0 rg118x0
def F118x0 (N : Nat) (k0 : D → R) : R :=
 bnd ((.a [(.b false), (.b false), (.i 0), (.l true []), (.i 0), (.i 0), (.b false), (.b false), (.i 0), (.l true []), (.i 0), (.i 0), (.b false), (.b false), (.i 0), (.l true []), (.i 0), (.i 0), (.b false), (.b false), (.i 0), (.l true []), (.i 0), (.i 0), (.b false), (.b false), (.i 0), (.l true []), (.i 0), (.i 0), (.b false), (.b false), (.i 0), (.l true []), (.i 0), (.i 0), (.b false), (.b false), (.i 0), (.l true []), (.i 0), (.i 0), (.b false), (.b false), (.i 0), (.l true []), (.i 0), (.i 0), (.b false), (.b false), (.i 0), (.l true []), (.i 0), (.i 0), (.b false), (.b false), (.i 0), (.l true []), (.i 0), (.i 0), (.b false), (.b false), (.i 0), (.l true []), (.i 0), (.i 0), (.b false), (.b false), (.i 0), (.l true []), (.i 0), (.i 0), (.b false), (.b false), (.i 0), (.l true []), (.i 0), (.i 0), (.b false), (.b false), (.i 0), (.l true []), (.i 0), (.i 0), (.b false), (.b false), (.i 0), (.l true []), (.i 0), (.i 0), (.b false), (.b false), (.i 0), (.l true []), (.i 0), (.i 0), (.i (-1))]) : D) fun y0 =>
 k0 y0
def V118x0 : D := F118x0 N (fun p => p)
theorem tot118x0 (k0 : D → R) : F118x0 N k0 = k0 (V118x0 N) := by
 unfold V118x0 F118x0
 repeat' (first | rfl | apply cond_k | (apply bnd_k; intro _))
def sh118x0 : Sh := { tmps := [], mem := [] }
def A118x0 (L : List Lf) : List (Bool × Res) := bnd (F118x0 N (fun p => p)) fun q => [(true, ([.c (.p 2 0)], [(2, .dat 182 q)]))]
theorem raw118x0 (L : List Lf) : bd Tryz.prog (T52x0 N) (h118x0s0 N).h 118 sh118x0 L = F118x0 N (fun p => some ([.c (.p 2 0)], [(2, .dat 182 p)])) := by kernel_rfl
theorem ok118x0 : FnOk Tryz.prog 118 sh118x0 (A118x0 N) :=
 (h118x0s0 N).fn progOk (T52x0_ok N) fun L x hx => ((raw118x0 N L).trans ((tot118x0 N ..).trans (alt0 _ _ hx)))
def T118x0 : Oracle := ext 118 (spSh sh118x0 (A118x0 N)) (T52x0 N)
theorem T118x0_ok : OracleOk Tryz.prog (T118x0 N) := FnOk.to (ok118x0 N) (T52x0_ok N)
def rg194x0 : List (Nat × List Nat) := [(0, [0, 1]), (1, [2, 1])]
def hd194x0 : Hints := []
def h194x0s0 (N : Nat) : Sg Tryz.prog 1 194 := .start hd194x0 rg194x0
def F194x0 (N : Nat) (v0 v3 : Int) (k0 : Bool → R) : R :=
 k0 (v0 == v3)
def V194x0 (v0 v3 : Int) : Bool := F194x0 N v0 v3 (fun p => p)
theorem tot194x0 (v0 v3 : Int) (k0 : Bool → R) : F194x0 N v0 v3 k0 = k0 (V194x0 N v0 v3) := by
 unfold V194x0 F194x0
 repeat' (first | rfl | apply cond_k | (apply bnd_k; intro _))
def sh194x0 : Sh := { tmps := [(0, .g ([.i .i64, .i .i64, .i .i64])), (1, .c (.p 0 0))], mem := [(0, .box ([.i .i64, .i .i64, .i .i64]))] }
def A194x0 (L : List Lf) : List (Bool × Res) := bnd (F194x0 N (li L 0) (li L 3) (fun p => p)) fun q => [(true, ([.c (.b q)], mgA (ofSh sh194x0 L).mem [] [0]))]
theorem raw194x0 (L : List Lf) : bd Tryz.prog (T118x0 N) (h194x0s0 N).h 194 sh194x0 L = F194x0 N (li L 0) (li L 3) (fun p => some ([.c (.b p)], mgA (ofSh sh194x0 L).mem [] [0])) := by kernel_rfl
theorem ok194x0 : FnOk Tryz.prog 194 sh194x0 (A194x0 N) :=
 (h194x0s0 N).fn progOk (T118x0_ok N) fun L x hx => ((raw194x0 N L).trans ((tot194x0 N ..).trans (alt0 _ _ hx)))
def T194x0 : Oracle := ext 194 (spSh sh194x0 (A194x0 N)) (T118x0 N)
theorem T194x0_ok : OracleOk Tryz.prog (T194x0 N) := FnOk.to (ok194x0 N) (T118x0_ok N)
def rg211x0 : List (Nat × List Nat) := [(0, [0, 1]), (1, [0, 1]), (2, [8, 7, 1, 0]), (3, [8, 1, 0, 7]), (4, [1, 0, 5, 8, 7]), (5, [5]), (6, [8, 7, 1, 0]), (7, [])]
def hd211x0 : Hints := [(6, [8, 7, 1, 0], [0], [])]
def h211x0s0 (N : Nat) : Sg Tryz.prog 1 211 := .start hd211x0 rg211x0
def S211x0x6 (w1 : LD) (w2 w4 : Int) (w3 : Int) (kr : Int → Option R) (k0 : Int → Option R) (k1 : Unit → Option R) : Option R :=
 bif (decide (w3 < w2)) then
  bif (inB w3 w1.length) then
   bnd (V194x0 N ((w1.getD w3.toNat (.i 0)).cell 0).toI w4) fun y0 =>
   bif y0 then
    k0 w3
   else
    kr (IntKind.wrap .i64 (w3 + 1))
  else
   none
 else
  k1 ()
def L211x0x6 (N : Nat) {R : Type} (w1 : LD) (w2 w4 : Int) : Nat → Int → (Int → Option R) → (Unit → Option R) → Option R
 | 0, _, _, _ => none
 | m + 1, w3, k0, k1 => S211x0x6 N w1 w2 w4 w3 (fun w3 => L211x0x6 N w1 w2 w4 m w3 k0 k1) k0 k1
def G211x0x6 (w1 : LD) (w2 w4 : Int) (w3 : Int) : Option (Sum (Int) (Unit)) := L211x0x6 N (R := (Sum (Int) (Unit))) w1 w2 w4 N w3 (fun p => some (.inl p)) (fun p => some (.inr p))
def J211x0x6 (L x : List Lf) (kr : List Lf → Option R) (k0 : Int → Option R) (k1 : Unit → Option R) : Option R := S211x0x6 N (ll L 1) (li L 2) (li L 4) (li x 0) (fun w3 => kr [.i w3]) k0 k1
theorem sb211x0x6 (L x : List Lf) (kr : List Lf → Option R) (k0 : Int → Option R) (k1 : Unit → Option R) : J211x0x6 N L x kr k0 k1 = (J211x0x6 N L x (fun y => some (.inl y)) (fun p => some (.inr (.inl p))) (fun p => some (.inr (.inr p)))).bind (sumE kr (sumE k0 k1)) := by
 unfold J211x0x6 S211x0x6
 repeat' (first | with_reducible apply cond_b | (with_reducible apply bnd_b; intro _) | rfl)
def Q211x0x6 (L : List Lf) (m : Nat) (x : List Lf) : Option (Sum (Int) (Unit)) := L211x0x6 N (R := (Sum (Int) (Unit))) (ll L 1) (li L 2) (li L 4) m (li x 0) (fun p => some (.inl p)) (fun p => some (.inr p))
def sh211x0x6 : Sh := { tmps := [(0, .c (.sl 136)), (1, .c (.f 194 [(0, 0)])), (7, .c (.i .i64)), (8, .c (.i .i64))], mem := [(0, .box ([.i .i64, .i .i64, .i .i64]))] }
def K211x0x6w0 (L : List Lf) (p : Int) : Ex × St := (.ret, mg (ofSh sh211x0x6 L) [4] [(4, .c (.i .i64 p))] [0] [])
def A211x0x6 (L : List Lf) : List (Bool × (Ex × St)) := bnd (Q211x0x6 N L N (pk sh211x0x6 [3] L)) fun q => [((inlB q), K211x0x6w0 L (inlV q)), ((inrQ q).isSome, ((.exit 0), mg (ofSh sh211x0x6 L) [] [] [0] []))]
theorem step211x0x6 (m : Nat) (kn : St → Option (Ex × St)) (L x : List Lf) : lpB Tryz.prog (T194x0 N) (h211x0s0 N).h 1 211 6 sh211x0x6 [3] [4] [0] (m + 100) kn L x = J211x0x6 N L x (fun y => kn (ofSh sh211x0x6 (mx sh211x0x6 [3] L y))) (fun p => some (K211x0x6w0 L p)) (fun _ => some ((.exit 0), mg (ofSh sh211x0x6 L) [] [] [0] [])) := by kernel_rfl
theorem ql211x0x6 (L : List Lf) (m : Nat) (x : List Lf) : Q211x0x6 N L (m + 1) x = J211x0x6 N L x (Q211x0x6 N L m) (fun p => some (.inl p)) (fun p => some (.inr p)) := by kernel_rfl
def h211x0s1 : Sg Tryz.prog 1 211 :=
 (h211x0s0 N).lp (A211x0x6 N) N progOk (T194x0_ok N) (fun m kn L x => (step211x0x6 N m kn L x).trans (sb211x0x6 N L x _ _ _)) (fun L m x => (ql211x0x6 N L m x).trans (sb211x0x6 N L x (Q211x0x6 N L m) (fun p => some (.inl p)) (fun p => some (.inr p)))) fun L x hx => (altS alt1) x hx
def F211x0 (v1 : LD) (v2 : Int) (k0 : Int → Option R) : Option R :=
 bnd (G211x0x6 N v1 (v1.length : Int) v2 0) fun y0 =>
 bif (inlB y0) then
  k0 (inlV y0)
 else
  bif (inrQ y0).isSome then
   k0 (-1)
  else
   none
def G211x0 (v1 : LD) (v2 : Int) : Option (Int) := F211x0 N v1 v2 (fun p => some p)
theorem bind211x0 (v1 : LD) (v2 : Int) (k0 : Int → Option R) : F211x0 N v1 v2 k0 = (G211x0 N v1 v2).bind k0 := by
 unfold G211x0 F211x0
 repeat' (first | with_reducible apply cond_b | (with_reducible apply bnd_b; intro _) | rfl)
def sh211x0 : Sh := { tmps := [(0, .c (.sl 136)), (1, .c (.f 194 [(0, 0)]))], mem := [(0, .box ([.i .i64, .i .i64, .i .i64]))] }
def A211x0 (L : List Lf) : List (Bool × Res) := bnd (F211x0 N (ll L 1) (li L 2) (fun p => some p)) fun q => [(q.isSome, ([.c (.i .i64 (q.getD default))], mgA (ofSh sh211x0 L).mem [] [0]))]
theorem raw211x0 (L : List Lf) : bd Tryz.prog (T194x0 N) (h211x0s1 N).h 211 sh211x0 L = F211x0 N (ll L 1) (li L 2) (fun p => some ([.c (.i .i64 p)], mgA (ofSh sh211x0 L).mem [] [0])) := by kernel_rfl
theorem ok211x0 : FnOk Tryz.prog 211 sh211x0 (A211x0 N) :=
 (h211x0s1 N).fn progOk (T194x0_ok N) fun L x hx => ((raw211x0 N L).trans ((bind211x0 N ..).trans (alt1 x hx)))
def T211x0 : Oracle := ext 211 (spSh sh211x0 (A211x0 N)) (T194x0 N)
theorem T211x0_ok : OracleOk Tryz.prog (T211x0 N) := FnOk.to (ok211x0 N) (T194x0_ok N)
def rg193x0 : List (Nat × List Nat) := [(0, [0, 1]), (1, [0, 1])]
def hd193x0 : Hints := []
def h193x0s0 (N : Nat) : Sg Tryz.prog 1 193 := .start hd193x0 rg193x0
def F193x0 (v1 : LD) (v2 : Int) (k0 : Bool → Option R) : Option R :=
 bnd (G211x0 N v1 v2) fun y0 =>
 bif y0.isSome then
  k0 (decide ((y0.getD default) ≥ 0))
 else
  none
def G193x0 (v1 : LD) (v2 : Int) : Option (Bool) := F193x0 N v1 v2 (fun p => some p)
theorem bind193x0 (v1 : LD) (v2 : Int) (k0 : Bool → Option R) : F193x0 N v1 v2 k0 = (G193x0 N v1 v2).bind k0 := by
 unfold G193x0 F193x0
 repeat' (first | with_reducible apply cond_b | (with_reducible apply bnd_b; intro _) | rfl)
def sh193x0 : Sh := { tmps := [(0, .c (.sl 136)), (1, .c (.f 194 [(0, 0)]))], mem := [(0, .box ([.i .i64, .i .i64, .i .i64]))] }
def A193x0 (L : List Lf) : List (Bool × Res) := bnd (F193x0 N (ll L 1) (li L 2) (fun p => some p)) fun q => [(q.isSome, ([.c (.b (q.getD default))], mgA (ofSh sh193x0 L).mem [] [0]))]
theorem raw193x0 (L : List Lf) : bd Tryz.prog (T211x0 N) (h193x0s0 N).h 193 sh193x0 L = F193x0 N (ll L 1) (li L 2) (fun p => some ([.c (.b p)], mgA (ofSh sh193x0 L).mem [] [0])) := by kernel_rfl
theorem ok193x0 : FnOk Tryz.prog 193 sh193x0 (A193x0 N) :=
 (h193x0s0 N).fn progOk (T211x0_ok N) fun L x hx => ((raw193x0 N L).trans ((bind193x0 N ..).trans (alt1 x hx)))
def T193x0 : Oracle := ext 193 (spSh sh193x0 (A193x0 N)) (T211x0 N)
theorem T193x0_ok : OracleOk Tryz.prog (T193x0 N) := FnOk.to (ok193x0 N) (T211x0_ok N)
def rg163x0 : List (Nat × List Nat) := [(0, [0]), (1, [1]), (3, [1]), (4, []), (2, []), (5, [1]), (6, [19, 18, 17, 1]), (7, [19, 17, 1, 18]), (8, [4, 1, 3, 19, 18, 17]), (9, [4, 5, 1, 3, 19, 18, 17]), (11, [4, 5, 1, 3, 19, 18, 17]), (13, [5, 4, 1, 3, 19, 18, 17]), (15, [1, 3, 4, 19, 18, 17]), (16, []), (14, []), (12, []), (10, []), (17, [19, 18, 17, 1]), (18, [])]
def hd163x0 : Hints := [(18, [19, 18, 17, 1], [1], []), (28, [4, 5, 1, 3, 19, 18, 17], [4, 1], [])]
def h163x0s0 (N : Nat) : Sg Tryz.prog 0 163 := .start hd163x0 rg163x0
def F163x0x28 (w10 w11 : Int) (k0 : Bool → R) : R :=
 bnd (V115x0 N w10 0 255) fun y0 =>
 bif (!y0) then
  k0 true
 else
  bnd (V115x0 N w11 1 255) fun y1 =>
  k0 (!y1)
def V163x0x28 (w10 w11 : Int) : Bool := F163x0x28 N w10 w11 (fun p => p)
theorem tot163x0x28 (w10 w11 : Int) (k0 : Bool → R) : F163x0x28 N w10 w11 k0 = k0 (V163x0x28 N w10 w11) := by
 unfold V163x0x28 F163x0x28
 repeat' (first | rfl | apply cond_k | (apply bnd_k; intro _))
def sh163x0x28 : Sh := { tmps := [(1, .c (.p 1 0)), (3, .c (.i .i64)), (4, .c (.p 4 0)), (5, .c (.b)), (17, .c (.sl 136)), (18, .c (.i .i64)), (19, .c (.i .i64))], mem := [(1, .box ([.b, .i .i64, .sl 136])), (4, .box ([.i .i64, .i .i64, .i .i64]))] }
def K163x0x28w0 (L : List Lf) (p : Bool) : Ex × St := (.normal, mg (ofSh sh163x0x28 L) [1, 3, 4, 5, 17, 18, 19, 32] [(32, .c (.b p))] [1, 4] [])
def A163x0x28 (L : List Lf) : List (Bool × (Ex × St)) := bnd (F163x0x28 N (li L 10) (li L 11) (fun p => p)) fun q => [(true, K163x0x28w0 L q)]
theorem raw163x0x28 (L : List Lf) : pc Tryz.prog (T193x0 N) (h163x0s0 N).h 0 100 163 28 sh163x0x28 L [4, 5, 1, 3, 19, 18, 17, 32] [4, 1] = F163x0x28 N (li L 10) (li L 11) (fun p => some (K163x0x28w0 L p)) := by kernel_rfl
def h163x0s1 : Sg Tryz.prog 0 163 :=
 (h163x0s0 N).cut (A163x0x28 N) progOk (T193x0_ok N) fun L x hx => (raw163x0x28 N L).trans ((tot163x0x28 N ..).trans (alt0 _ _ hx))
def S163x0x18 (w1 : LD) (w2 : Int) (w7 : LD) (w3 : Int) (kr : Int → Option R) (k0 : Int → Option R) (k1 : Unit → Option R) : Option R :=
 bif (decide (w3 < w2)) then
  bif (inB w3 w1.length) then
   bnd (bif (((w1.getD w3.toNat (.i 0)).cell 2).toI == 0) then true else (((w1.getD w3.toNat (.i 0)).cell 2).toI == 1)) fun y0 =>
   bnd (V163x0x28 N ((w1.getD w3.toNat (.i 0)).cell 0).toI ((w1.getD w3.toNat (.i 0)).cell 1).toI) fun y1 =>
   bif y1 then
    k0 9
   else
    bnd (V115x0 N ((w1.getD w3.toNat (.i 0)).cell 2).toI 0 3) fun y2 =>
    bif (!y2) then
     k0 7
    else
     bnd (bif y0 then (((w1.getD w3.toNat (.i 0)).cell 1).toI != 1) else false) fun y3 =>
     bnd (bif y3 then (((w1.getD w3.toNat (.i 0)).cell 1).toI != 2) else false) fun y4 =>
     bnd (bif y4 then (((w1.getD w3.toNat (.i 0)).cell 1).toI != 4) else false) fun y5 =>
     bif y5 then
      k0 2
     else
      bif ((decide (0 ≤ w3)) && (decide (w3 ≤ (w7.length : Int)))) then
       bnd (G193x0 N ((w7.take w3.toNat).drop 0) ((w1.getD w3.toNat (.i 0)).cell 0).toI) fun y6 =>
       bif y6.isSome then
        bif (y6.getD default) then
         k0 5
        else
         kr (IntKind.wrap .i64 (w3 + 1))
       else
        none
      else
       none
  else
   none
 else
  k1 ()
def L163x0x18 (N : Nat) {R : Type} (w1 : LD) (w2 : Int) (w7 : LD) : Nat → Int → (Int → Option R) → (Unit → Option R) → Option R
 | 0, _, _, _ => none
 | m + 1, w3, k0, k1 => S163x0x18 N w1 w2 w7 w3 (fun w3 => L163x0x18 N w1 w2 w7 m w3 k0 k1) k0 k1
def G163x0x18 (w1 : LD) (w2 : Int) (w7 : LD) (w3 : Int) : Option (Sum (Int) (Unit)) := L163x0x18 N (R := (Sum (Int) (Unit))) w1 w2 w7 N w3 (fun p => some (.inl p)) (fun p => some (.inr p))
def J163x0x18 (L x : List Lf) (kr : List Lf → Option R) (k0 : Int → Option R) (k1 : Unit → Option R) : Option R := S163x0x18 N (ll L 1) (li L 2) (ll L 7) (li x 0) (fun w3 => kr [.i w3]) k0 k1
theorem sb163x0x18 (L x : List Lf) (kr : List Lf → Option R) (k0 : Int → Option R) (k1 : Unit → Option R) : J163x0x18 N L x kr k0 k1 = (J163x0x18 N L x (fun y => some (.inl y)) (fun p => some (.inr (.inl p))) (fun p => some (.inr (.inr p)))).bind (sumE kr (sumE k0 k1)) := by
 unfold J163x0x18 S163x0x18
 repeat' (first | with_reducible apply cond_b | (with_reducible apply bnd_b; intro _) | rfl)
def Q163x0x18 (L : List Lf) (m : Nat) (x : List Lf) : Option (Sum (Int) (Unit)) := L163x0x18 N (R := (Sum (Int) (Unit))) (ll L 1) (li L 2) (ll L 7) m (li x 0) (fun p => some (.inl p)) (fun p => some (.inr p))
def sh163x0x18 : Sh := { tmps := [(1, .c (.p 1 0)), (17, .c (.sl 136)), (18, .c (.i .i64)), (19, .c (.i .i64))], mem := [(1, .box ([.b, .i .i64, .sl 136]))] }
def A163x0x18 (L : List Lf) : List (Bool × (Ex × St)) := bnd (Q163x0x18 N L N (pk sh163x0x18 [3] L)) fun q => [((inlB q), (.ret, ⟨[(2, .c (.i .i64 (inlV q)))], []⟩)), ((inrQ q).isSome, ((.exit 1), ⟨[], []⟩))]
theorem step163x0x18 (m : Nat) (kn : St → Option (Ex × St)) (L x : List Lf) : lpB Tryz.prog (T193x0 N) (h163x0s1 N).h 0 163 18 sh163x0x18 [3] [2] [] (m + 100) kn L x = J163x0x18 N L x (fun y => kn (ofSh sh163x0x18 (mx sh163x0x18 [3] L y))) (fun p => some (.ret, ⟨[(2, .c (.i .i64 p))], []⟩)) (fun _ => some ((.exit 1), ⟨[], []⟩)) := by kernel_rfl
theorem ql163x0x18 (L : List Lf) (m : Nat) (x : List Lf) : Q163x0x18 N L (m + 1) x = J163x0x18 N L x (Q163x0x18 N L m) (fun p => some (.inl p)) (fun p => some (.inr p)) := by kernel_rfl
def h163x0s2 : Sg Tryz.prog 0 163 :=
 (h163x0s1 N).lp (A163x0x18 N) N progOk (T193x0_ok N) (fun m kn L x => (step163x0x18 N m kn L x).trans (sb163x0x18 N L x _ _ _)) (fun L m x => (ql163x0x18 N L m x).trans (sb163x0x18 N L x (Q163x0x18 N L m) (fun p => some (.inl p)) (fun p => some (.inr p)))) fun L x hx => (altS alt1) x hx
def F163x0 (v1 : Int) (v3 : LD) (k0 : Int → Option R) : Option R :=
 bnd (V115x0 N v1 0 65535) fun y0 =>
 bif (!y0) then
  k0 9
 else
  bif (decide ((v3.length : Int) > 30)) then
   k0 3
  else
   bnd (G163x0x18 N v3 (v3.length : Int) v3 0) fun y1 =>
   bif (inlB y1) then
    k0 (inlV y1)
   else
    bif (inrQ y1).isSome then
     k0 0
    else
     none
def G163x0 (v1 : Int) (v3 : LD) : Option (Int) := F163x0 N v1 v3 (fun p => some p)
theorem bind163x0 (v1 : Int) (v3 : LD) (k0 : Int → Option R) : F163x0 N v1 v3 k0 = (G163x0 N v1 v3).bind k0 := by
 unfold G163x0 F163x0
 repeat' (first | with_reducible apply cond_b | (with_reducible apply bnd_b; intro _) | rfl)
def sh163x0 : Sh := { tmps := [(0, .g ([.b, .i .i64, .sl 136]))], mem := [] }
def A163x0 (L : List Lf) : List (Bool × Res) := bnd (F163x0 N (li L 1) (ll L 3) (fun p => some p)) fun q => [(q.isSome, ([.c (.i .i64 (q.getD default))], []))]
theorem raw163x0 (L : List Lf) : bd Tryz.prog (T193x0 N) (h163x0s2 N).h 163 sh163x0 L = F163x0 N (li L 1) (ll L 3) (fun p => some ([.c (.i .i64 p)], [])) := by kernel_rfl
theorem ok163x0 : FnOk Tryz.prog 163 sh163x0 (A163x0 N) :=
 (h163x0s2 N).fn progOk (T193x0_ok N) fun L x hx => ((raw163x0 N L).trans ((bind163x0 N ..).trans (alt1 x hx)))
def T163x0 : Oracle := ext 163 (spSh sh163x0 (A163x0 N)) (T193x0 N)
theorem T163x0_ok : OracleOk Tryz.prog (T163x0 N) := FnOk.to (ok163x0 N) (T193x0_ok N)
def rg119x0 : List (Nat × List Nat) := [(0, [1, 0]), (1, [3, 0]), (2, [6, 5, 3, 0]), (3, [6, 5, 3, 0, 9, 7, 8]), (4, [5, 3, 0, 6, 9]), (5, [5, 3, 7, 8, 0, 6, 9]), (6, [3, 7, 8, 5, 0, 6]), (7, [3, 7, 8, 9, 5, 0, 6]), (9, [3, 7, 8, 9, 5, 0, 6]), (11, [3, 9, 5, 0, 6]), (13, [5, 3, 0, 6]), (14, [3]), (12, []), (10, []), (8, []), (15, [0, 3, 6]), (16, [10, 6, 0, 3]), (17, []), (18, [10, 6, 3]), (19, [6, 11, 3]), (20, [11, 3]), (21, [3, 11]), (22, []), (23, [])]
def hd119x0 : Hints := [(14, [5, 3, 0, 6, 9, 7, 8, 18], [4, 0], []), (20, [3, 7, 8, 5, 0, 6, 9, 19], [4, 0], []), (28, [3, 7, 8, 9, 5, 0, 6], [4, 0], []), (62, [11, 3, 87], [0, 4], [])]
def h119x0s0 (N : Nat) : Sg Tryz.prog 1 119 := .start hd119x0 rg119x0
def F119x0x14 (N : Nat) (w2 w3 : Int) (w5 : Bool) (k0 : Int × Int → R) : R :=
 bif w5 then
  k0 (3, 31)
 else
  k0 (w2, w3)
def V119x0x14 (w2 w3 : Int) (w5 : Bool) : Int × Int := F119x0x14 N w2 w3 w5 (fun p => p)
theorem tot119x0x14 (w2 w3 : Int) (w5 : Bool) (k0 : Int × Int → R) : F119x0x14 N w2 w3 w5 k0 = k0 (V119x0x14 N w2 w3 w5) := by
 unfold V119x0x14 F119x0x14
 repeat' (first | rfl | apply cond_k | (apply bnd_k; intro _))
def sh119x0x14 : Sh := { tmps := [(0, .c (.p 0 0)), (3, .c (.p 4 0)), (5, .c (.b)), (6, .c (.b)), (7, .c (.i .i64)), (8, .c (.i .i64)), (9, .c (.i .i64)), (18, .c (.b))], mem := [(0, .dat 182), (4, .box ([.i .i64, .i .i64, .i .i64, .sl 115, .sl 5]))] }
def K119x0x14w0 (L : List Lf) (p : Int × Int) : Ex × St := (.normal, mg (ofSh sh119x0x14 L) [0, 3, 5, 6, 7, 8, 9] [(7, .c (.i .i64 p.1)), (8, .c (.i .i64 p.2))] [0, 4] [])
def A119x0x14 (L : List Lf) : List (Bool × (Ex × St)) := bnd (F119x0x14 N (li L 2) (li L 3) (lb L 5) (fun p => p)) fun q => [(true, K119x0x14w0 L q)]
theorem raw119x0x14 (L : List Lf) : pc Tryz.prog (T163x0 N) (h119x0s0 N).h 1 100 119 14 sh119x0x14 L [5, 3, 7, 8, 0, 6, 9] [4, 0] = F119x0x14 N (li L 2) (li L 3) (lb L 5) (fun p => some (K119x0x14w0 L p)) := by kernel_rfl
def h119x0s1 : Sg Tryz.prog 1 119 :=
 (h119x0s0 N).cut (A119x0x14 N) progOk (T163x0_ok N) fun L x hx => (raw119x0x14 N L).trans ((tot119x0x14 N ..).trans (alt0 _ _ hx))
def F119x0x20 (N : Nat) (w4 : Int) (w5 : Bool) (k0 : Int → R) : R :=
 bif w5 then
  k0 1
 else
  k0 w4
def V119x0x20 (w4 : Int) (w5 : Bool) : Int := F119x0x20 N w4 w5 (fun p => p)
theorem tot119x0x20 (w4 : Int) (w5 : Bool) (k0 : Int → R) : F119x0x20 N w4 w5 k0 = k0 (V119x0x20 N w4 w5) := by
 unfold V119x0x20 F119x0x20
 repeat' (first | rfl | apply cond_k | (apply bnd_k; intro _))
def sh119x0x20 : Sh := { tmps := [(0, .c (.p 0 0)), (3, .c (.p 4 0)), (5, .c (.b)), (6, .c (.b)), (7, .c (.i .i64)), (8, .c (.i .i64)), (9, .c (.i .i64)), (19, .c (.b))], mem := [(0, .dat 182), (4, .box ([.i .i64, .i .i64, .i .i64, .sl 115, .sl 5]))] }
def K119x0x20w0 (L : List Lf) (p : Int) : Ex × St := (.normal, mg (ofSh sh119x0x20 L) [0, 3, 5, 6, 7, 8, 9] [(9, .c (.i .i64 p))] [0, 4] [])
def A119x0x20 (L : List Lf) : List (Bool × (Ex × St)) := bnd (F119x0x20 N (li L 4) (lb L 5) (fun p => p)) fun q => [(true, K119x0x20w0 L q)]
theorem raw119x0x20 (L : List Lf) : pc Tryz.prog (T163x0 N) (h119x0s1 N).h 1 100 119 20 sh119x0x20 L [3, 7, 8, 9, 5, 0, 6] [4, 0] = F119x0x20 N (li L 4) (lb L 5) (fun p => some (K119x0x20w0 L p)) := by kernel_rfl
def h119x0s2 : Sg Tryz.prog 1 119 :=
 (h119x0s1 N).cut (A119x0x20 N) progOk (T163x0_ok N) fun L x hx => (raw119x0x20 N L).trans ((tot119x0x20 N ..).trans (alt0 _ _ hx))
def F119x0x28 (w2 w3 w7 w8 : Int) (k0 : Bool → R) : R :=
 bnd (V115x0 N w7 0 w2) fun y0 =>
 bif (!y0) then
  k0 true
 else
  bnd (V115x0 N w8 0 w3) fun y1 =>
  k0 (!y1)
def V119x0x28 (w2 w3 w7 w8 : Int) : Bool := F119x0x28 N w2 w3 w7 w8 (fun p => p)
theorem tot119x0x28 (w2 w3 w7 w8 : Int) (k0 : Bool → R) : F119x0x28 N w2 w3 w7 w8 k0 = k0 (V119x0x28 N w2 w3 w7 w8) := by
 unfold V119x0x28 F119x0x28
 repeat' (first | rfl | apply cond_k | (apply bnd_k; intro _))
def J119x0x28 (L : List Lf) (k0 : Bool → R) : R := F119x0x28 N (li L 2) (li L 3) (li L 7) (li L 8) k0
def sh119x0x28 : Sh := { tmps := [(0, .c (.p 0 0)), (3, .c (.p 4 0)), (5, .c (.b)), (6, .c (.b)), (7, .c (.i .i64)), (8, .c (.i .i64)), (9, .c (.i .i64))], mem := [(0, .dat 182), (4, .box ([.i .i64, .i .i64, .i .i64, .sl 115, .sl 5]))] }
def K119x0x28w0 (L : List Lf) (p : Bool) : Ex × St := (.normal, mg (ofSh sh119x0x28 L) [0, 3, 5, 6, 9, 25] [(25, .c (.b p))] [0, 4] [])
def A119x0x28 (L : List Lf) : List (Bool × (Ex × St)) := bnd (J119x0x28 N L (fun p => p)) fun q => [(true, K119x0x28w0 L q)]
theorem raw119x0x28 (L : List Lf) : pc Tryz.prog (T163x0 N) (h119x0s2 N).h 1 100 119 28 sh119x0x28 L [3, 9, 5, 0, 6, 25] [4, 0] = J119x0x28 N L (fun p => some (K119x0x28w0 L p)) := by kernel_rfl
def h119x0s3 : Sg Tryz.prog 1 119 :=
 (h119x0s2 N).cut (A119x0x28 N) progOk (T163x0_ok N) fun L x hx => (raw119x0x28 N L).trans ((tot119x0x28 N ..).trans (alt0 _ _ hx))
def F119x0x62 (N : Nat) (w0 : Int) (w1 : Bool) (k0 : Int → R) : R :=
 bif w1 then
  k0 (IntKind.wrap .i64 (w0 - 4))
 else
  k0 w0
def V119x0x62 (w0 : Int) (w1 : Bool) : Int := F119x0x62 N w0 w1 (fun p => p)
theorem tot119x0x62 (w0 : Int) (w1 : Bool) (k0 : Int → R) : F119x0x62 N w0 w1 k0 = k0 (V119x0x62 N w0 w1) := by
 unfold V119x0x62 F119x0x62
 repeat' (first | rfl | apply cond_k | (apply bnd_k; intro _))
def sh119x0x62 : Sh := { tmps := [(3, .c (.p 4 0)), (11, .c (.i .i64)), (87, .c (.b))], mem := [(0, .dat 182), (4, .box ([.i .i64, .i .i64, .i .i64, .sl 115, .sl 5]))] }
def K119x0x62w0 (L : List Lf) (p : Int) : Ex × St := (.normal, mg (ofSh sh119x0x62 L) [3, 11] [(11, .c (.i .i64 p))] [0, 4] [])
def A119x0x62 (L : List Lf) : List (Bool × (Ex × St)) := bnd (F119x0x62 N (li L 0) (lb L 1) (fun p => p)) fun q => [(true, K119x0x62w0 L q)]
theorem raw119x0x62 (L : List Lf) : pc Tryz.prog (T163x0 N) (h119x0s3 N).h 1 100 119 62 sh119x0x62 L [3, 11] [0, 4] = F119x0x62 N (li L 0) (lb L 1) (fun p => some (K119x0x62w0 L p)) := by kernel_rfl
def h119x0s4 : Sg Tryz.prog 1 119 :=
 (h119x0s3 N).cut (A119x0x62 N) progOk (T163x0_ok N) fun L x hx => (raw119x0x62 N L).trans ((tot119x0x62 N ..).trans (alt0 _ _ hx))
def F119x0 (v0 v1 v2 : Int) (v4 v6 : LD) (v7 : D) (k0 : Int → Option R) : Option R :=
 bnd (V119x0x14 N 15 0 (v0 == 3)) fun y0 =>
 bnd (V119x0x20 N 0 (v0 == 1)) fun y1 =>
 bnd (V115x0 N v0 1 3) fun y2 =>
 bif (!y2) then
  k0 7
 else
  bnd (V119x0x28 N y0.1 y0.2 v1 v2) fun y3 =>
  bif y3 then
   k0 9
  else
   bnd (bif ((v4.length : Int) != y1) then true else (bif (v0 == 1) then (decide ((v6.length : Int) > 0)) else false)) fun y4 =>
   bif y4 then
    k0 2
   else
    bif (v0 == 1) then
     bif (inB 0 v4.length) then
      bnd (G163x0 N ((v4.getD 0 (.i 0)).cell 1).toI ((v4.getD 0 (.i 0)).cell 2).items) fun y5 =>
      bif y5.isSome then
       k0 (y5.getD default)
      else
       none
     else
      none
    else
     bif (inB v1 16) then
      bnd (bif (!(v7.cell (0 + (v1.toNat * 6))).toB) then true else (bif (v0 == 3) then (bif (decide ((v7.cell (5 + (v1.toNat * 6))).toI < 0)) then true else (decide ((v7.cell 96).toI < 0))) else false)) fun y6 =>
      bif y6 then
       k0 11
      else
       bnd (V119x0x62 N (v7.cell (4 + (v1.toNat * 6))).toI (v0 == 3)) fun y7 =>
       bif ((v6.length : Int) != y7) then
        k0 2
       else
        k0 0
     else
      none
def G119x0 (v0 v1 v2 : Int) (v4 v6 : LD) (v7 : D) : Option (Int) := F119x0 N v0 v1 v2 v4 v6 v7 (fun p => some p)
theorem bind119x0 (v0 v1 v2 : Int) (v4 v6 : LD) (v7 : D) (k0 : Int → Option R) : F119x0 N v0 v1 v2 v4 v6 v7 k0 = (G119x0 N v0 v1 v2 v4 v6 v7).bind k0 := by
 unfold G119x0 F119x0
 repeat' (first | with_reducible apply cond_b | (with_reducible apply bnd_b; intro _) | rfl)
def J119x0 (L : List Lf) (k0 : Int → Option R) : Option R := F119x0 N (li L 0) (li L 1) (li L 2) (ll L 4) (ll L 6) (ld L 7) k0
def sh119x0 : Sh := { tmps := [(0, .c (.p 0 0)), (1, .g ([.i .i64, .i .i64, .i .i64, .sl 115, .sl 5]))], mem := [(0, .dat 182)] }
def A119x0 (L : List Lf) : List (Bool × Res) := bnd (J119x0 N L (fun p => some p)) fun q => [(q.isSome, ([.c (.i .i64 (q.getD default))], [(0, .dat 182 (ld L 7))]))]
theorem raw119x0 (L : List Lf) : bd Tryz.prog (T163x0 N) (h119x0s4 N).h 119 sh119x0 L = J119x0 N L (fun p => some ([.c (.i .i64 p)], [(0, .dat 182 (ld L 7))])) := by kernel_rfl
theorem ok119x0 : FnOk Tryz.prog 119 sh119x0 (A119x0 N) :=
 (h119x0s4 N).fn progOk (T163x0_ok N) fun L x hx => ((raw119x0 N L).trans ((bind119x0 N ..).trans (alt1 x hx)))
def T119x0 : Oracle := ext 119 (spSh sh119x0 (A119x0 N)) (T163x0 N)
theorem T119x0_ok : OracleOk Tryz.prog (T119x0 N) := FnOk.to (ok119x0 N) (T163x0_ok N)
def rg136x0 : List (Nat × List Nat) := [(0, [1, 0]), (1, [1, 0]), (2, [0]), (3, [0])]
def hd136x0 : Hints := []
def h136x0s0 (N : Nat) : Sg Tryz.prog 0 136 := .start hd136x0 rg136x0
def F136x0 (N : Nat) (v0 : Int) (v1 : Bool) (k0 : Int → Option R) : Option R :=
 bif v1 then
  bif (decide (0 ≤ (IntKind.wrap .i64 ((IntKind.wrap .i64 (8 * v0)) - 1)))) then
   bnd (IntKind.wrap .i64 (1 * 2 ^ (min (IntKind.wrap .i64 ((IntKind.wrap .i64 (8 * v0)) - 1)).toNat 64))) fun y0 =>
   k0 (IntKind.wrap .i64 (y0 - 1))
  else
   none
 else
  bif (decide (0 ≤ (IntKind.wrap .i64 (8 * v0)))) then
   bnd (IntKind.wrap .i64 (1 * 2 ^ (min (IntKind.wrap .i64 (8 * v0)).toNat 64))) fun y1 =>
   k0 (IntKind.wrap .i64 (y1 - 1))
  else
   none
def G136x0 (v0 : Int) (v1 : Bool) : Option (Int) := F136x0 N v0 v1 (fun p => some p)
theorem bind136x0 (v0 : Int) (v1 : Bool) (k0 : Int → Option R) : F136x0 N v0 v1 k0 = (G136x0 N v0 v1).bind k0 := by
 unfold G136x0 F136x0
 repeat' (first | with_reducible apply cond_b | (with_reducible apply bnd_b; intro _) | rfl)
def sh136x0 : Sh := { tmps := [(0, .c (.i .i64)), (1, .c (.b))], mem := [] }
def A136x0 (L : List Lf) : List (Bool × Res) := bnd (F136x0 N (li L 0) (lb L 1) (fun p => some p)) fun q => [(q.isSome, ([.c (.i .i64 (q.getD default))], []))]
theorem raw136x0 (L : List Lf) : bd Tryz.prog (T119x0 N) (h136x0s0 N).h 136 sh136x0 L = F136x0 N (li L 0) (lb L 1) (fun p => some ([.c (.i .i64 p)], [])) := by kernel_rfl
theorem ok136x0 : FnOk Tryz.prog 136 sh136x0 (A136x0 N) :=
 (h136x0s0 N).fn progOk (T119x0_ok N) fun L x hx => ((raw136x0 N L).trans ((bind136x0 N ..).trans (alt1 x hx)))
def T136x0 : Oracle := ext 136 (spSh sh136x0 (A136x0 N)) (T119x0 N)
theorem T136x0_ok : OracleOk Tryz.prog (T136x0 N) := FnOk.to (ok136x0 N) (T119x0_ok N)
def rg120x0 : List (Nat × List Nat) := [(0, [1, 0]), (1, [0, 3]), (2, [0, 3, 5]), (3, [3, 0, 5, 6]), (5, [3, 0, 6, 5]), (7, [6, 3, 0, 5]), (8, [3, 6, 0, 5]), (9, [7, 0, 5]), (10, [7, 0]), (6, [0, 3]), (4, [0, 3, 5]), (11, [5, 0]), (12, [0, 5]), (13, [5])]
def hd120x0 : Hints := [(32, [7, 0, 5, 67], [0], []), (26, [3, 6, 0, 5, 49], [7, 4, 0], []), (21020, [0, 3, 6, 5, 30], [7, 4, 0], []), (15014, [0, 3, 5, 6, 15], [7, 4, 0], []), (38, [0, 5, 70], [0], [])]
def h120x0s0 (N : Nat) : Sg Tryz.prog 1 120 := .start hd120x0 rg120x0
def F120x0x32 (N : Nat) (w0 w1 : Int) (w2 : Bool) (k0 : Int → R) : R :=
 bif w2 then
  k0 w1
 else
  k0 w0
def V120x0x32 (w0 w1 : Int) (w2 : Bool) : Int := F120x0x32 N w0 w1 w2 (fun p => p)
theorem tot120x0x32 (w0 w1 : Int) (w2 : Bool) (k0 : Int → R) : F120x0x32 N w0 w1 w2 k0 = k0 (V120x0x32 N w0 w1 w2) := by
 unfold V120x0x32 F120x0x32
 repeat' (first | rfl | apply cond_k | (apply bnd_k; intro _))
def sh120x0x32 : Sh := { tmps := [(0, .c (.p 0 0)), (5, .c (.i .i64)), (7, .c (.i .i64)), (67, .c (.b))], mem := [(0, .dat 182)] }
def K120x0x32w0 (L : List Lf) (p : Int) : Ex × St := (.normal, mg (ofSh sh120x0x32 L) [0, 5] [(5, .c (.i .i64 p))] [0] [])
def A120x0x32 (L : List Lf) : List (Bool × (Ex × St)) := bnd (F120x0x32 N (li L 0) (li L 1) (lb L 2) (fun p => p)) fun q => [(true, K120x0x32w0 L q)]
theorem raw120x0x32 (L : List Lf) : pc Tryz.prog (T136x0 N) (h120x0s0 N).h 1 100 120 32 sh120x0x32 L [5, 0] [0] = F120x0x32 N (li L 0) (li L 1) (lb L 2) (fun p => some (K120x0x32w0 L p)) := by kernel_rfl
def h120x0s1 : Sg Tryz.prog 1 120 :=
 (h120x0s0 N).cut (A120x0x32 N) progOk (T136x0_ok N) fun L x hx => (raw120x0x32 N L).trans ((tot120x0x32 N ..).trans (alt0 _ _ hx))
def F120x0x26 (w0 : Int) (w1 : Bool) (w9 : LD) (w11 : Bool) (w16 : Int) (k0 : Int → Option R) : Option R :=
 bif w1 then
  bif (((decide (0 ≤ w16)) && (decide (w16 ≤ (IntKind.wrap .i64 (w16 + 4))))) && (decide ((IntKind.wrap .i64 (w16 + 4)) ≤ (w9.length : Int)))) then
   bnd (((w9.take (IntKind.wrap .i64 (w16 + 4)).toNat).drop w16.toNat) : List D) fun y0 =>
   bnd (G49x0 N y0 w11) fun y1 =>
   bif y1.isSome then
    bnd (G136x0 N 4 false) fun y2 =>
    bif y2.isSome then
     bnd (V120x0x32 N w0 (y1.getD default) ((y1.getD default) != (y2.getD default))) fun y3 =>
     k0 y3
    else
     none
   else
    none
  else
   none
 else
  k0 w0
def G120x0x26 (w0 : Int) (w1 : Bool) (w9 : LD) (w11 : Bool) (w16 : Int) : Option (Int) := F120x0x26 N w0 w1 w9 w11 w16 (fun p => some p)
theorem bind120x0x26 (w0 : Int) (w1 : Bool) (w9 : LD) (w11 : Bool) (w16 : Int) (k0 : Int → Option R) : F120x0x26 N w0 w1 w9 w11 w16 k0 = (G120x0x26 N w0 w1 w9 w11 w16).bind k0 := by
 unfold G120x0x26 F120x0x26
 repeat' (first | with_reducible apply cond_b | (with_reducible apply bnd_b; intro _) | rfl)
def J120x0x26 (L : List Lf) (k0 : Int → Option R) : Option R := F120x0x26 N (li L 0) (lb L 1) (ll L 9) (lb L 11) (li L 16) k0
def sh120x0x26 : Sh := { tmps := [(0, .c (.p 0 0)), (3, .c (.p 4 0)), (5, .c (.i .i64)), (6, .c (.p 7 0)), (49, .c (.b))], mem := [(0, .dat 182), (4, .box ([.i .i64, .i .i64, .i .i64, .sl 115, .sl 5])), (7, .box (.b :: [.b, .i .i64, .sl 136, .i .i64, .i .i64]))] }
def K120x0x26w0 (L : List Lf) (p : Int) : Ex × St := (.normal, mg (ofSh sh120x0x26 L) [0, 5] [(5, .c (.i .i64 p))] [0] [])
def A120x0x26 (L : List Lf) : List (Bool × (Ex × St)) := bnd (J120x0x26 N L (fun p => some p)) fun q => [(q.isSome, K120x0x26w0 L (q.getD default))]
theorem raw120x0x26 (L : List Lf) : pc Tryz.prog (T136x0 N) (h120x0s1 N).h 1 100 120 26 sh120x0x26 L [5, 0] [0] = J120x0x26 N L (fun p => some (K120x0x26w0 L p)) := by kernel_rfl
def h120x0s2 : Sg Tryz.prog 1 120 :=
 (h120x0s1 N).cut (A120x0x26 N) progOk (T136x0_ok N) fun L x hx => (raw120x0x26 N L).trans ((bind120x0x26 N ..).trans (alt1 x hx))
def F120x0x21020 (w0 : Int) (w1 : Bool) (w2 : D) (w5 : Int) (w9 : LD) (w11 : Bool) (w16 : Int) (k0 : Int → Option R) : Option R :=
 bif w1 then
  bnd (IntKind.wrap .i64 ((IntKind.wrap .i64 (w5 - ((w2.cell 96).toI.tmod 32))) + 32)) fun y0 =>
  k0 (IntKind.wrap .i64 ((w2.cell 96).toI + (y0.tmod 32)))
 else
  bnd (G120x0x26 N w0 (decide (w16 ≥ 0)) w9 w11 w16) fun y1 =>
  bif y1.isSome then
   k0 (y1.getD default)
  else
   none
def G120x0x21020 (w0 : Int) (w1 : Bool) (w2 : D) (w5 : Int) (w9 : LD) (w11 : Bool) (w16 : Int) : Option (Int) := F120x0x21020 N w0 w1 w2 w5 w9 w11 w16 (fun p => some p)
theorem bind120x0x21020 (w0 : Int) (w1 : Bool) (w2 : D) (w5 : Int) (w9 : LD) (w11 : Bool) (w16 : Int) (k0 : Int → Option R) : F120x0x21020 N w0 w1 w2 w5 w9 w11 w16 k0 = (G120x0x21020 N w0 w1 w2 w5 w9 w11 w16).bind k0 := by
 unfold G120x0x21020 F120x0x21020
 repeat' (first | with_reducible apply cond_b | (with_reducible apply bnd_b; intro _) | rfl)
def J120x0x21020 (L : List Lf) (k0 : Int → Option R) : Option R := F120x0x21020 N (li L 0) (lb L 1) (ld L 2) (li L 5) (ll L 9) (lb L 11) (li L 16) k0
def sh120x0x21020 : Sh := { tmps := [(0, .c (.p 0 0)), (3, .c (.p 4 0)), (5, .c (.i .i64)), (6, .c (.p 7 0)), (30, .c (.b))], mem := [(0, .dat 182), (4, .box ([.i .i64, .i .i64, .i .i64, .sl 115, .sl 5])), (7, .box (.b :: [.b, .i .i64, .sl 136, .i .i64, .i .i64]))] }
def K120x0x21020w0 (L : List Lf) (p : Int) : Ex × St := (.normal, mg (ofSh sh120x0x21020 L) [0, 5] [(5, .c (.i .i64 p))] [0] [])
def A120x0x21020 (L : List Lf) : List (Bool × (Ex × St)) := bnd (J120x0x21020 N L (fun p => some p)) fun q => [(q.isSome, K120x0x21020w0 L (q.getD default))]
theorem raw120x0x21020 (L : List Lf) : pc Tryz.prog (T136x0 N) (h120x0s2 N).h 1 100 120 21020 sh120x0x21020 L [5, 0] [0] = J120x0x21020 N L (fun p => some (K120x0x21020w0 L p)) := by kernel_rfl
def h120x0s3 : Sg Tryz.prog 1 120 :=
 (h120x0s2 N).cut (A120x0x21020 N) progOk (T136x0_ok N) fun L x hx => (raw120x0x21020 N L).trans ((bind120x0x21020 N ..).trans (alt1 x hx))
def F120x0x15014 (w0 : Int) (w1 : Bool) (w2 : D) (w3 w4 w5 : Int) (w7 w9 : LD) (w11 : Bool) (w16 : Int) (k0 : Int × D → Option R) : Option R :=
 bif w1 then
  bif (inB 0 w7.length) then
   bnd (G116x0 N ((w7.getD 0 (.i 0)).cell 2).items) fun y0 =>
   bif y0.isSome then
    bif (inB w4 16) then
     bnd (((((((w2.put (0 + (w4.toNat * 6)) (.b true)).put (1 + (w4.toNat * 6)) (.b ((w7.getD 0 (.i 0)).cell 0).toB)).put (2 + (w4.toNat * 6)) (.i ((w7.getD 0 (.i 0)).cell 1).toI)).put (3 + (w4.toNat * 6)) (.l ((w7.getD 0 (.i 0)).cell 2).isNil ((w7.getD 0 (.i 0)).cell 2).items)).put (4 + (w4.toNat * 6)) (.i (y0.getD default).1)).put (5 + (w4.toNat * 6)) (.i (y0.getD default).2)) : D) fun y1 =>
     k0 (w0, y1)
    else
     none
   else
    none
  else
   none
 else
  bnd (G120x0x21020 N w0 (w3 == 3) w2 w5 w9 w11 w16) fun y2 =>
  bif y2.isSome then
   k0 ((y2.getD default), w2)
  else
   none
def G120x0x15014 (w0 : Int) (w1 : Bool) (w2 : D) (w3 w4 w5 : Int) (w7 w9 : LD) (w11 : Bool) (w16 : Int) : Option (Int × D) := F120x0x15014 N w0 w1 w2 w3 w4 w5 w7 w9 w11 w16 (fun p => some p)
theorem bind120x0x15014 (w0 : Int) (w1 : Bool) (w2 : D) (w3 w4 w5 : Int) (w7 w9 : LD) (w11 : Bool) (w16 : Int) (k0 : Int × D → Option R) : F120x0x15014 N w0 w1 w2 w3 w4 w5 w7 w9 w11 w16 k0 = (G120x0x15014 N w0 w1 w2 w3 w4 w5 w7 w9 w11 w16).bind k0 := by
 unfold G120x0x15014 F120x0x15014
 repeat' (first | with_reducible apply cond_b | (with_reducible apply bnd_b; intro _) | rfl)
def J120x0x15014 (L : List Lf) (k0 : Int × D → Option R) : Option R := F120x0x15014 N (li L 0) (lb L 1) (ld L 2) (li L 3) (li L 4) (li L 5) (ll L 7) (ll L 9) (lb L 11) (li L 16) k0
def sh120x0x15014 : Sh := { tmps := [(0, .c (.p 0 0)), (3, .c (.p 4 0)), (5, .c (.i .i64)), (6, .c (.p 7 0)), (15, .c (.b))], mem := [(0, .dat 182), (4, .box ([.i .i64, .i .i64, .i .i64, .sl 115, .sl 5])), (7, .box (.b :: [.b, .i .i64, .sl 136, .i .i64, .i .i64]))] }
def K120x0x15014w0 (L : List Lf) (p : Int × D) : Ex × St := (.normal, ⟨[(0, .c (.p 0 0)), (5, .c (.i .i64 p.1))], [(0, .dat 182 p.2)]⟩)
def A120x0x15014 (L : List Lf) : List (Bool × (Ex × St)) := bnd (J120x0x15014 N L (fun p => some p)) fun q => [(q.isSome, K120x0x15014w0 L (q.getD default))]
theorem raw120x0x15014 (L : List Lf) : pc Tryz.prog (T136x0 N) (h120x0s3 N).h 1 100 120 15014 sh120x0x15014 L [5, 0] [0] = J120x0x15014 N L (fun p => some (K120x0x15014w0 L p)) := by kernel_rfl
def h120x0s4 : Sg Tryz.prog 1 120 :=
 (h120x0s3 N).cut (A120x0x15014 N) progOk (T136x0_ok N) fun L x hx => (raw120x0x15014 N L).trans ((bind120x0x15014 N ..).trans (alt1 x hx))
def F120x0x38 (N : Nat) (w0 : Int) (w1 : Bool) (w2 : D) (k0 : D → R) : R :=
 bif w1 then
  k0 (w2.put 96 (.i w0))
 else
  k0 w2
def V120x0x38 (w0 : Int) (w1 : Bool) (w2 : D) : D := F120x0x38 N w0 w1 w2 (fun p => p)
theorem tot120x0x38 (w0 : Int) (w1 : Bool) (w2 : D) (k0 : D → R) : F120x0x38 N w0 w1 w2 k0 = k0 (V120x0x38 N w0 w1 w2) := by
 unfold V120x0x38 F120x0x38
 repeat' (first | rfl | apply cond_k | (apply bnd_k; intro _))
def sh120x0x38 : Sh := { tmps := [(0, .c (.p 0 0)), (5, .c (.i .i64)), (70, .c (.b))], mem := [(0, .dat 182)] }
def A120x0x38 (L : List Lf) : List (Bool × (Ex × St)) := bnd (F120x0x38 N (li L 0) (lb L 1) (ld L 2) (fun p => p)) fun q => [(true, (.normal, ⟨[(5, .c (.i .i64 (li L 0)))], [(0, .dat 182 q)]⟩))]
theorem raw120x0x38 (L : List Lf) : pc Tryz.prog (T136x0 N) (h120x0s4 N).h 1 100 120 38 sh120x0x38 L [5] [0] = F120x0x38 N (li L 0) (lb L 1) (ld L 2) (fun p => some (.normal, ⟨[(5, .c (.i .i64 (li L 0)))], [(0, .dat 182 p)]⟩)) := by kernel_rfl
def h120x0s5 : Sg Tryz.prog 1 120 :=
 (h120x0s4 N).cut (A120x0x38 N) progOk (T136x0_ok N) fun L x hx => (raw120x0x38 N L).trans ((tot120x0x38 N ..).trans (alt0 _ _ hx))
def F120x0 (v0 v1 v2 : Int) (v4 v6 : LD) (v7 : D) (k0 : Int × D → Option R) : Option R :=
 bif (inB v1 16) then
  bnd (G120x0x15014 N (-1) (v0 == 1) v7 v0 v1 v2 v4 v6 (v7.cell (1 + (v1.toNat * 6))).toB (v7.cell (5 + (v1.toNat * 6))).toI) fun y0 =>
  bif y0.isSome then
   bnd (V120x0x38 N (y0.getD default).1 (decide ((y0.getD default).1 ≥ 0)) (y0.getD default).2) fun y1 =>
   k0 ((y0.getD default).1, y1)
  else
   none
 else
  none
def G120x0 (v0 v1 v2 : Int) (v4 v6 : LD) (v7 : D) : Option (Int × D) := F120x0 N v0 v1 v2 v4 v6 v7 (fun p => some p)
theorem bind120x0 (v0 v1 v2 : Int) (v4 v6 : LD) (v7 : D) (k0 : Int × D → Option R) : F120x0 N v0 v1 v2 v4 v6 v7 k0 = (G120x0 N v0 v1 v2 v4 v6 v7).bind k0 := by
 unfold G120x0 F120x0
 repeat' (first | with_reducible apply cond_b | (with_reducible apply bnd_b; intro _) | rfl)
def J120x0 (L : List Lf) (k0 : Int × D → Option R) : Option R := F120x0 N (li L 0) (li L 1) (li L 2) (ll L 4) (ll L 6) (ld L 7) k0
def sh120x0 : Sh := { tmps := [(0, .c (.p 0 0)), (1, .g ([.i .i64, .i .i64, .i .i64, .sl 115, .sl 5]))], mem := [(0, .dat 182)] }
def A120x0 (L : List Lf) : List (Bool × Res) := bnd (J120x0 N L (fun p => some p)) fun q => [(q.isSome, ([.c (.i .i64 (q.getD default).1)], [(0, .dat 182 (q.getD default).2)]))]
theorem raw120x0 (L : List Lf) : bd Tryz.prog (T136x0 N) (h120x0s5 N).h 120 sh120x0 L = J120x0 N L (fun p => some ([.c (.i .i64 p.1)], [(0, .dat 182 p.2)])) := by kernel_rfl
theorem ok120x0 : FnOk Tryz.prog 120 sh120x0 (A120x0 N) :=
 (h120x0s5 N).fn progOk (T136x0_ok N) fun L x hx => ((raw120x0 N L).trans ((bind120x0 N ..).trans (alt1 x hx)))
def T120x0 : Oracle := ext 120 (spSh sh120x0 (A120x0 N)) (T136x0 N)
theorem T120x0_ok : OracleOk Tryz.prog (T120x0 N) := FnOk.to (ok120x0 N) (T136x0_ok N)
def rg53x0 : List (Nat × List Nat) := [(0, [0]), (1, [1]), (2, []), (3, [1]), (4, [1, 3]), (5, [15, 14, 13, 3]), (6, [13, 15, 3, 14]), (7, [3, 5, 15, 14, 13]), (8, [6, 3, 5, 15, 14, 13]), (9, [6]), (10, [3, 5, 15, 14, 13]), (11, [15, 14, 13, 3]), (12, [])]
def hd53x0 : Hints := [(15, [15, 14, 13, 3], [12000000002], [])]
def h53x0s0 (N : Nat) : Sg Tryz.prog 0 53 := .start hd53x0 rg53x0
def S53x0x15 (w1 : LD) (w2 : Int) (w3 : Int) (w4 : D) (kr : Int → D → Option R) (k0 : Int → Option R) (k1 : Unit → Option R) : Option R :=
 bif (decide (w3 < w2)) then
  bif (inB w3 w1.length) then
   bnd (G119x0 N ((w1.getD w3.toNat (.i 0)).cell 0).toI ((w1.getD w3.toNat (.i 0)).cell 1).toI ((w1.getD w3.toNat (.i 0)).cell 2).toI ((w1.getD w3.toNat (.i 0)).cell 3).items ((w1.getD w3.toNat (.i 0)).cell 4).items w4) fun y0 =>
   bif y0.isSome then
    bif ((y0.getD default) != 0) then
     k0 (y0.getD default)
    else
     bnd (G120x0 N ((w1.getD w3.toNat (.i 0)).cell 0).toI ((w1.getD w3.toNat (.i 0)).cell 1).toI ((w1.getD w3.toNat (.i 0)).cell 2).toI ((w1.getD w3.toNat (.i 0)).cell 3).items ((w1.getD w3.toNat (.i 0)).cell 4).items w4) fun y1 =>
     bif y1.isSome then
      kr (IntKind.wrap .i64 (w3 + 1)) (y1.getD default).2
     else
      none
   else
    none
  else
   none
 else
  k1 ()
def L53x0x15 (N : Nat) {R : Type} (w1 : LD) (w2 : Int) : Nat → Int → D → (Int → Option R) → (Unit → Option R) → Option R
 | 0, _, _, _, _ => none
 | m + 1, w3, w4, k0, k1 => S53x0x15 N w1 w2 w3 w4 (fun w3 w4 => L53x0x15 N w1 w2 m w3 w4 k0 k1) k0 k1
def G53x0x15 (w1 : LD) (w2 : Int) (w3 : Int) (w4 : D) : Option (Sum (Int) (Unit)) := L53x0x15 N (R := (Sum (Int) (Unit))) w1 w2 N w3 w4 (fun p => some (.inl p)) (fun p => some (.inr p))
def J53x0x15 (L x : List Lf) (kr : List Lf → Option R) (k0 : Int → Option R) (k1 : Unit → Option R) : Option R := S53x0x15 N (ll L 1) (li L 2) (li x 0) (ld x 1) (fun w3 w4 => kr [.i w3, .d w4]) k0 k1
theorem sb53x0x15 (L x : List Lf) (kr : List Lf → Option R) (k0 : Int → Option R) (k1 : Unit → Option R) : J53x0x15 N L x kr k0 k1 = (J53x0x15 N L x (fun y => some (.inl y)) (fun p => some (.inr (.inl p))) (fun p => some (.inr (.inr p)))).bind (sumE kr (sumE k0 k1)) := by
 unfold J53x0x15 S53x0x15
 repeat' (first | with_reducible apply cond_b | (with_reducible apply bnd_b; intro _) | rfl)
def Q53x0x15 (L : List Lf) (m : Nat) (x : List Lf) : Option (Sum (Int) (Unit)) := L53x0x15 N (R := (Sum (Int) (Unit))) (ll L 1) (li L 2) m (li x 0) (ld x 1) (fun p => some (.inl p)) (fun p => some (.inr p))
def sh53x0x15 : Sh := { tmps := [(3, .c (.p 12000000002 0)), (13, .c (.sl 96)), (14, .c (.i .i64)), (15, .c (.i .i64))], mem := [(12000000002, .dat 182)] }
def A53x0x15 (L : List Lf) : List (Bool × (Ex × St)) := bnd (Q53x0x15 N L N (pk sh53x0x15 [3, 4] L)) fun q => [((inlB q), (.ret, ⟨[(2, .c (.i .i64 (inlV q)))], []⟩)), ((inrQ q).isSome, ((.exit 0), ⟨[], []⟩))]
theorem step53x0x15 (m : Nat) (kn : St → Option (Ex × St)) (L x : List Lf) : lpB Tryz.prog (T120x0 N) (h53x0s0 N).h 0 53 15 sh53x0x15 [3, 4] [2] [] (m + 100) kn L x = J53x0x15 N L x (fun y => kn (ofSh sh53x0x15 (mx sh53x0x15 [3, 4] L y))) (fun p => some (.ret, ⟨[(2, .c (.i .i64 p))], []⟩)) (fun _ => some ((.exit 0), ⟨[], []⟩)) := by kernel_rfl
theorem ql53x0x15 (L : List Lf) (m : Nat) (x : List Lf) : Q53x0x15 N L (m + 1) x = J53x0x15 N L x (Q53x0x15 N L m) (fun p => some (.inl p)) (fun p => some (.inr p)) := by kernel_rfl
def h53x0s1 : Sg Tryz.prog 0 53 :=
 (h53x0s0 N).lp (A53x0x15 N) N progOk (T120x0_ok N) (fun m kn L x => (step53x0x15 N m kn L x).trans (sb53x0x15 N L x _ _ _)) (fun L m x => (ql53x0x15 N L m x).trans (sb53x0x15 N L x (Q53x0x15 N L m) (fun p => some (.inl p)) (fun p => some (.inr p)))) fun L x hx => (altS alt1) x hx
def F53x0 (v1 : LD) (k0 : Int → Option R) : Option R :=
 bif (decide ((v1.length : Int) > 50000)) then
  k0 3
 else
  bnd (V118x0 N) fun y0 =>
  bnd (G53x0x15 N v1 (v1.length : Int) 0 y0) fun y1 =>
  bif (inlB y1) then
   k0 (inlV y1)
  else
   bif (inrQ y1).isSome then
    k0 0
   else
    none
def G53x0 (v1 : LD) : Option (Int) := F53x0 N v1 (fun p => some p)
theorem bind53x0 (v1 : LD) (k0 : Int → Option R) : F53x0 N v1 k0 = (G53x0 N v1).bind k0 := by
 unfold G53x0 F53x0
 repeat' (first | with_reducible apply cond_b | (with_reducible apply bnd_b; intro _) | rfl)
def sh53x0 : Sh := { tmps := [(0, .g ([.sl 96]))], mem := [] }
def A53x0 (L : List Lf) : List (Bool × Res) := bnd (F53x0 N (ll L 1) (fun p => some p)) fun q => [(q.isSome, ([.c (.i .i64 (q.getD default))], []))]
theorem raw53x0 (L : List Lf) : bd Tryz.prog (T120x0 N) (h53x0s1 N).h 53 sh53x0 L = F53x0 N (ll L 1) (fun p => some ([.c (.i .i64 p)], [])) := by kernel_rfl
theorem ok53x0 : FnOk Tryz.prog 53 sh53x0 (A53x0 N) :=
 (h53x0s1 N).fn progOk (T120x0_ok N) fun L x hx => ((raw53x0 N L).trans ((bind53x0 N ..).trans (alt1 x hx)))
def T53x0 : Oracle := ext 53 (spSh sh53x0 (A53x0 N)) (T120x0 N)
theorem T53x0_ok : OracleOk Tryz.prog (T53x0 N) := FnOk.to (ok53x0 N) (T120x0_ok N)
def rg20x0 : List (Nat × List Nat) := [(0, [0]), (1, [0, 2]), (3, [0, 2]), (5, [0, 2]), (6, [2]), (4, [2]), (2, [2]), (7, [0, 2]), (8, [0, 2, 5]), (9, [6, 2, 5]), (10, [6, 7, 2, 5]), (11, [8, 6, 7, 2, 5]), (12, [7, 2, 5, 8, 6]), (13, [11, 10, 2, 5, 9, 8, 6, 7]), (14, [10, 2]), (15, [5, 9, 8, 6, 7, 2]), (16, [8, 9, 6, 7, 2, 5]), (17, [5, 2]), (18, [12, 2, 5]), (19, [12, 2]), (20, [5, 2])]
def hd20x0 : Hints := [(10, [0, 2], [2], []), (33, [8, 6, 7, 2, 5], [61000000004, 61000000001, 61000000003, 5, 2, 50005000], [50005000])]
def h20x0s0 (N : Nat) : Sg Tryz.prog 0 20 := .start hd20x0 rg20x0
def F20x0x10 (w1 : LD) (k0 : Bool → Option R) : Option R :=
 bif (decide ((w1.length : Int) < 12)) then
  k0 true
 else
  bif (decide (4 ≤ (w1.length : Int))) then
   bnd (!((strD ((w1.take 4).drop 0)) == ([72, 65, 82, 49] : List UInt8))) fun y0 =>
   bif y0 then
    k0 true
   else
    bif (decide (8 ≤ (w1.length : Int))) then
     bnd (G49x0 N ((w1.take 8).drop 4) true) fun y1 =>
     bif y1.isSome then
      bnd (IntKind.wrap .i64 ((IntKind.wrap .i64 ((w1.length : Int) - 8)) - 4)) fun y2 =>
      k0 ((y1.getD default) != y2)
     else
      none
    else
     none
  else
   none
def G20x0x10 (w1 : LD) : Option (Bool) := F20x0x10 N w1 (fun p => some p)
theorem bind20x0x10 (w1 : LD) (k0 : Bool → Option R) : F20x0x10 N w1 k0 = (G20x0x10 N w1).bind k0 := by
 unfold G20x0x10 F20x0x10
 repeat' (first | with_reducible apply cond_b | (with_reducible apply bnd_b; intro _) | rfl)
def sh20x0x10 : Sh := { tmps := [(0, .c (.sl 5)), (2, .c (.p 2 0))], mem := [(2, .box ([.sl 96]))] }
def K20x0x10w0 (L : List Lf) (p : Bool) : Ex × St := (.normal, mg (ofSh sh20x0x10 L) [0, 2, 18] [(18, .c (.b p))] [2] [])
def A20x0x10 (L : List Lf) : List (Bool × (Ex × St)) := bnd (F20x0x10 N (ll L 1) (fun p => some p)) fun q => [(q.isSome, K20x0x10w0 L (q.getD default))]
theorem raw20x0x10 (L : List Lf) : pc Tryz.prog (T53x0 N) (h20x0s0 N).h 0 100 20 10 sh20x0x10 L [2, 0, 18] [2] = F20x0x10 N (ll L 1) (fun p => some (K20x0x10w0 L p)) := by kernel_rfl
def h20x0s1 : Sg Tryz.prog 0 20 :=
 (h20x0s0 N).cut (A20x0x10 N) progOk (T53x0_ok N) fun L x hx => (raw20x0x10 N L).trans ((bind20x0x10 N ..).trans (alt1 x hx))
def S20x0x33 (w1 : LD) (w7 : Bool) (w8 : LD) (w2 : Int) (w5 : Bool) (w6 : LD) (w9 : Int) (w10 : D) (kr : Int → Bool → LD → Int → D → Option R) (k0 : Int × Bool × LD → Option R) (k1 : Bool × LD → Option R) : Option R :=
 bif (decide (w2 < (w1.length : Int))) then
  bnd (G113x0 N w9 w7 w8 w10) fun y0 =>
  bif y0.isSome then
   bif (!(y0.getD default).2.2.2.2.2.2.2.1) then
    k0 ((IntKind.wrap .i64 (8 + w9)), w5, w6)
   else
    bif (decide ((w6.length + 1) * 72 ≤ room) && decide ((w6.length + 1) ≤ strMax)) then
     bnd ((w6 ++ [(.a [(.i (y0.getD default).1), (.i (y0.getD default).2.1), (.i (y0.getD default).2.2.1), (.l (y0.getD default).2.2.2.1 (y0.getD default).2.2.2.2.1), (.l (y0.getD default).2.2.2.2.2.1 (y0.getD default).2.2.2.2.2.2.1)])]) : List D) fun y1 =>
     bnd (G52x0 N (y0.getD default).1 (y0.getD default).2.1 (y0.getD default).2.2.1 (y0.getD default).2.2.2.2.1 (y0.getD default).2.2.2.2.2.2.1) fun y2 =>
     bif y2.isSome then
      bnd (IntKind.wrap .i64 (w2 + ((y2.getD default).2.length : Int))) fun y3 =>
      kr y3 false y1 (y0.getD default).2.2.2.2.2.2.2.2.1 (y0.getD default).2.2.2.2.2.2.2.2.2
     else
      none
    else
     none
  else
   none
 else
  k1 (w5, w6)
def L20x0x33 (N : Nat) {R : Type} (w1 : LD) (w7 : Bool) (w8 : LD) : Nat → Int → Bool → LD → Int → D → (Int × Bool × LD → Option R) → (Bool × LD → Option R) → Option R
 | 0, _, _, _, _, _, _, _ => none
 | m + 1, w2, w5, w6, w9, w10, k0, k1 => S20x0x33 N w1 w7 w8 w2 w5 w6 w9 w10 (fun w2 w5 w6 w9 w10 => L20x0x33 N w1 w7 w8 m w2 w5 w6 w9 w10 k0 k1) k0 k1
def G20x0x33 (w1 : LD) (w7 : Bool) (w8 : LD) (w2 : Int) (w5 : Bool) (w6 : LD) (w9 : Int) (w10 : D) : Option (Sum (Int × Bool × LD) (Bool × LD)) := L20x0x33 N (R := (Sum (Int × Bool × LD) (Bool × LD))) w1 w7 w8 N w2 w5 w6 w9 w10 (fun p => some (.inl p)) (fun p => some (.inr p))
def J20x0x33 (L x : List Lf) (kr : List Lf → Option R) (k0 : Int × Bool × LD → Option R) (k1 : Bool × LD → Option R) : Option R := S20x0x33 N (ll L 1) (lb L 7) (ll L 8) (li x 0) (lb x 1) (ll x 2) (li x 3) (ld x 4) (fun w2 w5 w6 w9 w10 => kr [.i w2, .b w5, .l w6, .i w9, .d w10]) k0 k1
theorem sb20x0x33 (L x : List Lf) (kr : List Lf → Option R) (k0 : Int × Bool × LD → Option R) (k1 : Bool × LD → Option R) : J20x0x33 N L x kr k0 k1 = (J20x0x33 N L x (fun y => some (.inl y)) (fun p => some (.inr (.inl p))) (fun p => some (.inr (.inr p)))).bind (sumE kr (sumE k0 k1)) := by
 unfold J20x0x33 S20x0x33
 repeat' (first | with_reducible apply cond_b | (with_reducible apply bnd_b; intro _) | rfl)
def Q20x0x33 (L : List Lf) (m : Nat) (x : List Lf) : Option (Sum (Int × Bool × LD) (Bool × LD)) := L20x0x33 N (R := (Sum (Int × Bool × LD) (Bool × LD))) (ll L 1) (lb L 7) (ll L 8) m (li x 0) (lb x 1) (ll x 2) (li x 3) (ld x 4) (fun p => some (.inl p)) (fun p => some (.inr p))
def sh20x0x33 : Sh := { tmps := [(2, .c (.p 2 0)), (5, .c (.p 5 0)), (6, .c (.sl 5)), (7, .c (.f 113 [(61000000003, 0), (61000000001, 0), (61000000004, 0)])), (8, .c (.i .i64))], mem := [(2, .box ([.sl 96])), (5, .box ([.o 50005000])), (50005000, .row 96 true), (61000000001, .box ([.sl 5])), (61000000003, .box ([.i .i64])), (61000000004, .dat 175)] }
def K20x0x33w0 (L : List Lf) (p : Int × Bool × LD) : Ex × St := (.ret, ⟨[(2, .c (.p 2 0)), (3, .c (.i .i64 p.1)), (4, .c (.i .i64 6))], [(2, .box [.sl 96 true []]), (5, .box [.o 50005000]), (50005000, .row 96 true p.2.1 p.2.2)]⟩)
def K20x0x33w1 (L : List Lf) (p : Bool × LD) : Ex × St := ((.exit 1), mg (ofSh sh20x0x33 L) [2, 5] [] [2, 5, 50005000] [(50005000, .row 96 true p.1 p.2)])
def A20x0x33 (L : List Lf) : List (Bool × (Ex × St)) := bnd (Q20x0x33 N L N (pk sh20x0x33 [2, 5, 6, 9, 10] L)) fun q => [((inlB q), K20x0x33w0 L (inlV q)), ((inrQ q).isSome, K20x0x33w1 L ((inrQ q).getD default))]
theorem step20x0x33 (m : Nat) (kn : St → Option (Ex × St)) (L x : List Lf) : lpB Tryz.prog (T53x0 N) (h20x0s1 N).h 0 20 33 sh20x0x33 [2, 5, 6, 9, 10] [2, 3, 4, 5] [2, 50005000, 5] (m + 100) kn L x = J20x0x33 N L x (fun y => kn (ofSh sh20x0x33 (mx sh20x0x33 [2, 5, 6, 9, 10] L y))) (fun p => some (K20x0x33w0 L p)) (fun p => some (K20x0x33w1 L p)) := by kernel_rfl
theorem ql20x0x33 (L : List Lf) (m : Nat) (x : List Lf) : Q20x0x33 N L (m + 1) x = J20x0x33 N L x (Q20x0x33 N L m) (fun p => some (.inl p)) (fun p => some (.inr p)) := by kernel_rfl
def h20x0s2 : Sg Tryz.prog 0 20 :=
 (h20x0s1 N).lp (A20x0x33 N) N progOk (T53x0_ok N) (fun m kn L x => (step20x0x33 N m kn L x).trans (sb20x0x33 N L x _ _ _)) (fun L m x => (ql20x0x33 N L m x).trans (sb20x0x33 N L x (Q20x0x33 N L m) (fun p => some (.inl p)) (fun p => some (.inr p)))) fun L x hx => (altS alt1) x hx
def F20x0 (v0 : Bool) (v1 : LD) (k0 : Ty10 → Option R) : Option R :=
 bif (decide ((v1.length : Int) > 4000000)) then
  k0 (true, [], 0, 3)
 else
  bnd (G20x0x10 N v1) fun y0 =>
  bif y0.isSome then
   bif (y0.getD default) then
    k0 (true, [], 0, 6)
   else
    bif ((decide (0 ≤ (IntKind.wrap .i64 ((v1.length : Int) - 4)))) && (decide ((IntKind.wrap .i64 ((v1.length : Int) - 4)) ≤ (v1.length : Int)))) then
     bnd (((v1.take (IntKind.wrap .i64 ((v1.length : Int) - 4)).toNat).drop 0) : List D) fun y1 =>
     bnd (G50x0 N y1) fun y2 =>
     bif y2.isSome then
      bif (((decide (0 ≤ (IntKind.wrap .i64 ((v1.length : Int) - 4)))) && (decide ((IntKind.wrap .i64 ((v1.length : Int) - 4)) ≤ (v1.length : Int)))) && (decide ((v1.length : Int) ≤ (v1.length : Int)))) then
       bnd (((v1.take (v1.length : Int).toNat).drop (IntKind.wrap .i64 ((v1.length : Int) - 4)).toNat) : List D) fun y3 =>
       bnd (G49x0 N y3 true) fun y4 =>
       bif y4.isSome then
        bif ((y2.getD default) != (y4.getD default)) then
         k0 (true, [], 0, 1)
        else
         bif ((decide (8 ≤ (IntKind.wrap .i64 ((v1.length : Int) - 4)))) && (decide ((IntKind.wrap .i64 ((v1.length : Int) - 4)) ≤ (v1.length : Int)))) then
          bnd (((v1.take (IntKind.wrap .i64 ((v1.length : Int) - 4)).toNat).drop 8) : List D) fun y5 =>
          bnd (V51x0 N) fun y6 =>
          bnd (G20x0x33 N y5 v0 y5 0 true [] 0 y6) fun y7 =>
          bif (inlB y7) then
           k0 (true, [], (inlV y7).1, 6)
          else
           bif (inrQ y7).isSome then
            bnd (G53x0 N ((inrQ y7).getD default).2) fun y8 =>
            bif y8.isSome then
             bif ((y8.getD default) != 0) then
              k0 (true, [], 0, (y8.getD default))
             else
              k0 (((inrQ y7).getD default).1, ((inrQ y7).getD default).2, 0, 0)
            else
             none
           else
            none
         else
          none
       else
        none
      else
       none
     else
      none
    else
     none
  else
   none
def G20x0 (v0 : Bool) (v1 : LD) : Option (Ty10) := F20x0 N v0 v1 (fun p => some p)
theorem bind20x0 (v0 : Bool) (v1 : LD) (k0 : Ty10 → Option R) : F20x0 N v0 v1 k0 = (G20x0 N v0 v1).bind k0 := by
 unfold G20x0 F20x0
 repeat' (first | with_reducible apply cond_b | (with_reducible apply bnd_b; intro _) | rfl)
def sh20x0 : Sh := { tmps := [(0, .c (.sl 5))], mem := [] }
def K20x0w0 (L : List Lf) (p : Ty10) : Res := ([.g [.sl 96 p.1 p.2.1], .c (.i .i64 p.2.2.1), .c (.i .i64 p.2.2.2)], [])
def A20x0 (L : List Lf) : List (Bool × Res) := bnd (F20x0 N (lb L 0) (ll L 1) (fun p => some p)) fun q => [(q.isSome, K20x0w0 L (q.getD default))]
theorem raw20x0 (L : List Lf) : bd Tryz.prog (T53x0 N) (h20x0s2 N).h 20 sh20x0 L = F20x0 N (lb L 0) (ll L 1) (fun p => some (K20x0w0 L p)) := by kernel_rfl
theorem ok20x0 : FnOk Tryz.prog 20 sh20x0 (A20x0 N) :=
 (h20x0s2 N).fn progOk (T53x0_ok N) fun L x hx => ((raw20x0 N L).trans ((bind20x0 N ..).trans (alt1 x hx)))
def T20x0 : Oracle := ext 20 (spSh sh20x0 (A20x0 N)) (T53x0 N)
theorem T20x0_ok : OracleOk Tryz.prog (T20x0 N) := FnOk.to (ok20x0 N) (T53x0_ok N)
def rg164x0 : List (Nat × List Nat) := [(0, [0, 1]), (1, [2, 1]), (2, [2, 1, 5]), (3, [2, 7, 1, 5, 6]), (4, [15, 14, 13, 7, 2, 1, 5, 6]), (5, [13, 15, 7, 2, 1, 14, 5, 6]), (6, [7, 2, 9, 1, 15, 14, 13, 5, 6]), (7, [7, 9, 1, 10, 15, 14, 13, 2, 5, 6]), (8, [1, 10, 15, 14, 13, 7, 2, 5, 6, 9]), (9, [5, 9, 6, 15, 14, 13, 7, 2, 1]), (10, [6, 9, 15, 14, 13, 7, 2, 1, 5]), (11, [15, 14, 13, 7, 2, 1, 5, 6]), (12, [5])]
def hd164x0 : Hints := [(12, [15, 14, 13, 7, 2, 1, 5, 6], [2, 5], [5])]
def h164x0s0 (N : Nat) : Sg Tryz.prog 0 164 := .start hd164x0 rg164x0
def S164x0x12 (N : Nat) (w0 : Bool) (w4 : LD) (w5 w13 : Int) (w1 w2 w6 : Int) (w14 : Bool) (w15 : LD) (kr : Int → Int → Int → Bool → LD → Option R) (k0 : Bool × LD → Option R) : Option R :=
 bif (decide (w6 < w5)) then
  bif (inB w6 w4.length) then
   bnd (IntKind.wrap .i64 (w2 + ((w4.getD w6.toNat (.i 0)).cell 1).toI)) fun y0 =>
   bif (bif w0 then (w2 == w13) else false) then
    kr w1 y0 (IntKind.wrap .i64 (w6 + 1)) w14 w15
   else
    bif (decide ((w15.length + 1) * 32 ≤ room) && decide ((w15.length + 1) ≤ strMax)) then
     bnd ((w15 ++ [(.a [(.i ((w4.getD w6.toNat (.i 0)).cell 0).toI), (.i ((w4.getD w6.toNat (.i 0)).cell 1).toI), (.i ((w4.getD w6.toNat (.i 0)).cell 2).toI), (.i w1)])]) : List D) fun y1 =>
     bnd (IntKind.wrap .i64 (w1 + ((w4.getD w6.toNat (.i 0)).cell 1).toI)) fun y2 =>
     kr y2 y0 (IntKind.wrap .i64 (w6 + 1)) false y1
    else
     none
  else
   none
 else
  k0 (w14, w15)
def L164x0x12 (N : Nat) {R : Type} (w0 : Bool) (w4 : LD) (w5 w13 : Int) : Nat → Int → Int → Int → Bool → LD → (Bool × LD → Option R) → Option R
 | 0, _, _, _, _, _, _ => none
 | m + 1, w1, w2, w6, w14, w15, k0 => S164x0x12 N w0 w4 w5 w13 w1 w2 w6 w14 w15 (fun w1 w2 w6 w14 w15 => L164x0x12 N w0 w4 w5 w13 m w1 w2 w6 w14 w15 k0) k0
def G164x0x12 (w0 : Bool) (w4 : LD) (w5 w13 : Int) (w1 w2 w6 : Int) (w14 : Bool) (w15 : LD) : Option (Bool × LD) := L164x0x12 N (R := (Bool × LD)) w0 w4 w5 w13 N w1 w2 w6 w14 w15 (fun p => some p)
def J164x0x12 (L x : List Lf) (kr : List Lf → Option R) (k0 : Bool × LD → Option R) : Option R := S164x0x12 N (lb L 0) (ll L 4) (li L 5) (li L 13) (li x 0) (li x 1) (li x 2) (lb x 3) (ll x 4) (fun w1 w2 w6 w14 w15 => kr [.i w1, .i w2, .i w6, .b w14, .l w15]) k0
theorem sb164x0x12 (L x : List Lf) (kr : List Lf → Option R) (k0 : Bool × LD → Option R) : J164x0x12 N L x kr k0 = (J164x0x12 N L x (fun y => some (.inl y)) (fun p => some (.inr p))).bind (sumE kr k0) := by
 unfold J164x0x12 S164x0x12
 repeat' (first | with_reducible apply cond_b | (with_reducible apply bnd_b; intro _) | rfl)
def Q164x0x12 (L : List Lf) (m : Nat) (x : List Lf) : Option (Bool × LD) := L164x0x12 N (R := (Bool × LD)) (lb L 0) (ll L 4) (li L 5) (li L 13) m (li x 0) (li x 1) (li x 2) (lb x 3) (ll x 4) (fun p => some p)
def sh164x0x12 : Sh := { tmps := [(1, .c (.b)), (2, .c (.p 2 0)), (5, .c (.o 5)), (6, .c (.i .i64)), (7, .c (.i .i64)), (13, .c (.sl 136)), (14, .c (.i .i64)), (15, .c (.i .i64))], mem := [(2, .box (.b :: [.b, .i .i64, .sl 136, .i .i64, .i .i64])), (5, .row 237 true)] }
def K164x0x12w0 (L : List Lf) (p : Bool × LD) : Ex × St := ((.exit 0), ⟨[(5, .c (.o 5))], [(5, .row 237 true p.1 p.2)]⟩)
def A164x0x12 (L : List Lf) : List (Bool × (Ex × St)) := bnd (Q164x0x12 N L N (pk sh164x0x12 [1, 2, 6, 14, 15] L)) fun q => [(q.isSome, K164x0x12w0 L (q.getD default))]
theorem step164x0x12 (m : Nat) (kn : St → Option (Ex × St)) (L x : List Lf) : lpB Tryz.prog (T20x0 N) (h164x0s0 N).h 0 164 12 sh164x0x12 [1, 2, 6, 14, 15] [4, 5] [5] (m + 100) kn L x = J164x0x12 N L x (fun y => kn (ofSh sh164x0x12 (mx sh164x0x12 [1, 2, 6, 14, 15] L y))) (fun p => some (K164x0x12w0 L p)) := by kernel_rfl
theorem ql164x0x12 (L : List Lf) (m : Nat) (x : List Lf) : Q164x0x12 N L (m + 1) x = J164x0x12 N L x (Q164x0x12 N L m) some := by kernel_rfl
def h164x0s1 : Sg Tryz.prog 0 164 :=
 (h164x0s0 N).lp (A164x0x12 N) N progOk (T20x0_ok N) (fun m kn L x => (step164x0x12 N m kn L x).trans (sb164x0x12 N L x _ _)) (fun L m x => (ql164x0x12 N L m x).trans (sb164x0x12 N L x (Q164x0x12 N L m) some)) fun L x hx => alt1 x hx
def F164x0 (v4 : LD) (v6 : Int) (v7 : Bool) (k0 : Bool × LD → Option R) : Option R :=
 bnd (G164x0x12 N v7 v4 (v4.length : Int) v6 0 0 0 true []) fun y0 =>
 bif y0.isSome then
  k0 (y0.getD default)
 else
  none
def G164x0 (v4 : LD) (v6 : Int) (v7 : Bool) : Option (Bool × LD) := F164x0 N v4 v6 v7 (fun p => some p)
theorem bind164x0 (v4 : LD) (v6 : Int) (v7 : Bool) (k0 : Bool × LD → Option R) : F164x0 N v4 v6 v7 k0 = (G164x0 N v4 v6 v7).bind k0 := by
 unfold G164x0 F164x0
 repeat' (first | with_reducible apply cond_b | (with_reducible apply bnd_b; intro _) | rfl)
def sh164x0 : Sh := { tmps := [(0, .g (.b :: [.b, .i .i64, .sl 136, .i .i64, .i .i64])), (1, .c (.b))], mem := [] }
def A164x0 (L : List Lf) : List (Bool × Res) := bnd (F164x0 N (ll L 4) (li L 6) (lb L 7) (fun p => some p)) fun q => [(q.isSome, ([.c (.sl 237 (q.getD default).1 (q.getD default).2)], []))]
theorem raw164x0 (L : List Lf) : bd Tryz.prog (T20x0 N) (h164x0s1 N).h 164 sh164x0 L = F164x0 N (ll L 4) (li L 6) (lb L 7) (fun p => some ([.c (.sl 237 p.1 p.2)], [])) := by kernel_rfl
theorem ok164x0 : FnOk Tryz.prog 164 sh164x0 (A164x0 N) :=
 (h164x0s1 N).fn progOk (T20x0_ok N) fun L x hx => ((raw164x0 N L).trans ((bind164x0 N ..).trans (alt1 x hx)))
def T164x0 : Oracle := ext 164 (spSh sh164x0 (A164x0 N)) (T20x0 N)
theorem T164x0_ok : OracleOk Tryz.prog (T164x0 N) := FnOk.to (ok164x0 N) (T20x0_ok N)
def rg219x0 : List (Nat × List Nat) := [(0, [0, 1]), (1, [0, 1])]
def hd219x0 : Hints := []
def h219x0s0 (N : Nat) : Sg Tryz.prog 0 219 := .start hd219x0 rg219x0
def F219x0 (N : Nat) (v0 : LB) (v1 : Int) (k0 : Int → R) : R :=
 k0 (Lib.indexByte v0 v1.toNat.toUInt8)
def V219x0 (v0 : LB) (v1 : Int) : Int := F219x0 N v0 v1 (fun p => p)
theorem tot219x0 (v0 : LB) (v1 : Int) (k0 : Int → R) : F219x0 N v0 v1 k0 = k0 (V219x0 N v0 v1) := by
 unfold V219x0 F219x0
 repeat' (first | rfl | apply cond_k | (apply bnd_k; intro _))
def sh219x0 : Sh := { tmps := [(0, .c (.s)), (1, .c (.i .u8))], mem := [] }
def A219x0 (L : List Lf) : List (Bool × Res) := bnd (F219x0 N (ls L 0) (li L 1) (fun p => p)) fun q => [(true, ([.c (.i .i64 q)], []))]
theorem raw219x0 (L : List Lf) : bd Tryz.prog (T164x0 N) (h219x0s0 N).h 219 sh219x0 L = F219x0 N (ls L 0) (li L 1) (fun p => some ([.c (.i .i64 p)], [])) := by kernel_rfl
theorem ok219x0 : FnOk Tryz.prog 219 sh219x0 (A219x0 N) :=
 (h219x0s0 N).fn progOk (T164x0_ok N) fun L x hx => ((raw219x0 N L).trans ((tot219x0 N ..).trans (alt0 _ _ hx)))
def T219x0 : Oracle := ext 219 (spSh sh219x0 (A219x0 N)) (T164x0 N)
theorem T219x0_ok : OracleOk Tryz.prog (T219x0 N) := FnOk.to (ok219x0 N) (T164x0_ok N)
def rg212x0 : List (Nat × List Nat) := [(0, [1, 0]), (1, [1, 0]), (2, [5, 1, 0]), (4, [5, 0, 1]), (6, [5, 0, 1]), (8, [5, 0, 1]), (9, [0, 1]), (7, []), (5, [0, 1]), (3, []), (10, [1, 0, 5]), (11, [1, 0, 5, 6]), (12, [0, 5, 6, 7, 1]), (13, [0, 5, 8, 6, 7, 1]), (14, [8, 9, 0, 6, 7, 5, 1]), (15, [8, 9, 0, 6, 7, 5, 1, 10]), (16, [0, 8, 6, 9, 7, 5, 1, 10]), (17, [0, 8, 9, 6, 7, 5, 1, 10]), (18, [11, 8, 0, 7, 5, 1, 10, 9, 6]), (19, []), (20, [8, 11, 0, 7, 5, 1, 10, 9, 6]), (21, [0, 8, 7, 5, 1, 10, 9, 6]), (22, [8]), (23, [8, 10, 5, 0, 1, 9, 6, 7]), (24, [10, 5, 8, 0, 1, 9, 6, 7]), (25, [5, 10, 8, 0, 1, 9, 6, 7]), (30, [5, 10, 8, 9, 0, 1, 6, 7]), (31, [0, 8, 1]), (32, [13, 8]), (33, []), (34, [8, 13]), (26, [0, 8, 1]), (27, [12, 8]), (28, [12, 8]), (29, []), (35, [])]
def hd212x0 : Hints := []
def h212x0s0 (N : Nat) : Sg Tryz.prog 0 212 := .start hd212x0 rg212x0
def F212x0 (v0 : LB) (k0 : Int → R) : R :=
 bif (([0] : List UInt8) == v0) then
  k0 0
 else
  bnd (V219x0 N v0 0) fun y0 =>
  k0 y0
def V212x0 (v0 : LB) : Int := F212x0 N v0 (fun p => p)
theorem tot212x0 (v0 : LB) (k0 : Int → R) : F212x0 N v0 k0 = k0 (V212x0 N v0) := by
 unfold V212x0 F212x0
 repeat' (first | rfl | apply cond_k | (apply bnd_k; intro _))
def sh212x0 : Sh := { tmps := [(0, .c (.s)), (1, .c (.ks [0]))], mem := [] }
def A212x0 (L : List Lf) : List (Bool × Res) := bnd (F212x0 N (ls L 0) (fun p => p)) fun q => [(true, ([.c (.i .i64 q)], []))]
theorem raw212x0 (L : List Lf) : bd Tryz.prog (T219x0 N) (h212x0s0 N).h 212 sh212x0 L = F212x0 N (ls L 0) (fun p => some ([.c (.i .i64 p)], [])) := by kernel_rfl
theorem ok212x0 : FnOk Tryz.prog 212 sh212x0 (A212x0 N) :=
 (h212x0s0 N).fn progOk (T219x0_ok N) fun L x hx => ((raw212x0 N L).trans ((tot212x0 N ..).trans (alt0 _ _ hx)))
def T212x0 : Oracle := ext 212 (spSh sh212x0 (A212x0 N)) (T219x0 N)
theorem T212x0_ok : OracleOk Tryz.prog (T212x0 N) := FnOk.to (ok212x0 N) (T219x0_ok N)
def rg195x0 : List (Nat × List Nat) := [(0, [0, 1]), (1, [0, 1]), (2, [7, 0, 1]), (3, [0, 7, 1]), (4, [0])]
def hd195x0 : Hints := []
def h195x0s0 (N : Nat) : Sg Tryz.prog 0 195 := .start hd195x0 rg195x0
def F195x0 (v0 : LB) (k0 : Ty7 → Option R) : Option R :=
 bnd (V212x0 N v0) fun y0 =>
 bif (decide (y0 ≥ 0)) then
  bif ((decide (0 ≤ y0)) && (decide (y0 ≤ (v0.length : Int)))) then
   bif (((decide (0 ≤ (IntKind.wrap .i64 (y0 + 1)))) && (decide ((IntKind.wrap .i64 (y0 + 1)) ≤ (v0.length : Int)))) && (decide ((v0.length : Int) ≤ (v0.length : Int)))) then
    bnd ((v0.take (v0.length : Int).toNat).drop (IntKind.wrap .i64 (y0 + 1)).toNat) fun y1 =>
    k0 (((v0.take y0.toNat).drop 0), y1, true)
   else
    none
  else
   none
 else
  k0 (v0, ([] : List UInt8), false)
def G195x0 (v0 : LB) : Option (Ty7) := F195x0 N v0 (fun p => some p)
theorem bind195x0 (v0 : LB) (k0 : Ty7 → Option R) : F195x0 N v0 k0 = (G195x0 N v0).bind k0 := by
 unfold G195x0 F195x0
 repeat' (first | with_reducible apply cond_b | (with_reducible apply bnd_b; intro _) | rfl)
def sh195x0 : Sh := { tmps := [(0, .c (.s)), (1, .c (.ks [0]))], mem := [] }
def A195x0 (L : List Lf) : List (Bool × Res) := bnd (F195x0 N (ls L 0) (fun p => some p)) fun q => [(q.isSome, ([.c (.s (q.getD default).1), .c (.s (q.getD default).2.1), .c (.b (q.getD default).2.2)], []))]
theorem raw195x0 (L : List Lf) : bd Tryz.prog (T212x0 N) (h195x0s0 N).h 195 sh195x0 L = F195x0 N (ls L 0) (fun p => some ([.c (.s p.1), .c (.s p.2.1), .c (.b p.2.2)], [])) := by kernel_rfl
theorem ok195x0 : FnOk Tryz.prog 195 sh195x0 (A195x0 N) :=
 (h195x0s0 N).fn progOk (T212x0_ok N) fun L x hx => ((raw195x0 N L).trans ((bind195x0 N ..).trans (alt1 x hx)))
def T195x0 : Oracle := ext 195 (spSh sh195x0 (A195x0 N)) (T212x0 N)
theorem T195x0_ok : OracleOk Tryz.prog (T195x0 N) := FnOk.to (ok195x0 N) (T212x0_ok N)
def rg169x0 : List (Nat × List Nat) := [(0, [0, 1]), (1, [0, 1])]
def hd169x0 : Hints := []
def h169x0s0 (N : Nat) : Sg Tryz.prog 0 169 := .start hd169x0 rg169x0
def F169x0 (v0 : LB) (k0 : Ty7 → Option R) : Option R :=
 bnd (G195x0 N v0) fun y0 =>
 bif y0.isSome then
  k0 (y0.getD default)
 else
  none
def G169x0 (v0 : LB) : Option (Ty7) := F169x0 N v0 (fun p => some p)
theorem bind169x0 (v0 : LB) (k0 : Ty7 → Option R) : F169x0 N v0 k0 = (G169x0 N v0).bind k0 := by
 unfold G169x0 F169x0
 repeat' (first | with_reducible apply cond_b | (with_reducible apply bnd_b; intro _) | rfl)
def sh169x0 : Sh := { tmps := [(0, .c (.s)), (1, .c (.ks [0]))], mem := [] }
def A169x0 (L : List Lf) : List (Bool × Res) := bnd (F169x0 N (ls L 0) (fun p => some p)) fun q => [(q.isSome, ([.c (.s (q.getD default).1), .c (.s (q.getD default).2.1), .c (.b (q.getD default).2.2)], []))]
theorem raw169x0 (L : List Lf) : bd Tryz.prog (T195x0 N) (h169x0s0 N).h 169 sh169x0 L = F169x0 N (ls L 0) (fun p => some ([.c (.s p.1), .c (.s p.2.1), .c (.b p.2.2)], [])) := by kernel_rfl
theorem ok169x0 : FnOk Tryz.prog 169 sh169x0 (A169x0 N) :=
 (h169x0s0 N).fn progOk (T195x0_ok N) fun L x hx => ((raw169x0 N L).trans ((bind169x0 N ..).trans (alt1 x hx)))
def T169x0 : Oracle := ext 169 (spSh sh169x0 (A169x0 N)) (T195x0 N)
theorem T169x0_ok : OracleOk Tryz.prog (T169x0 N) := FnOk.to (ok169x0 N) (T195x0_ok N)
def rg165x0 : List (Nat × List Nat) := [(0, [0, 1, 2]), (1, [3, 1, 6, 2]), (2, [1, 3, 7, 6, 2]), (3, [3, 8, 7, 6, 2]), (10, [28, 8, 7, 6, 2, 3]), (12, [28, 8, 7, 6, 2, 3]), (4, [8, 2, 7, 3, 6]), (5, [7, 3, 6]), (6, [7, 6, 3]), (8, [3, 7, 6]), (9, [7, 3, 6]), (7, [7, 6]), (13, [8, 7, 6]), (14, [7, 6]), (11, [8, 7, 6]), (15, [7, 6])]
def hd165x0 : Hints := [(25, [3, 7, 6], [7, 6, 3], []), (29, [7, 3, 6, 60], [7, 6, 3], []), (24023, [7, 6, 3, 46], [7, 6, 3], []), (12041, [8, 7, 6, 2, 3, 75], [7, 6, 3], []), (36035, [8, 7, 6, 28, 2, 3, 70], [7, 6, 3], [])]
def h165x0s0 (N : Nat) : Sg Tryz.prog 0 165 := .start hd165x0 rg165x0
def F165x0x25 (w1 w2 w11 : Int) (k0 : Bool → Option R) : Option R :=
 bif (w2 == 1) then
  bnd (G136x0 N w1 true) fun y0 =>
  bif y0.isSome then
   k0 (decide (w11 > (y0.getD default)))
  else
   none
 else
  k0 false
def G165x0x25 (w1 w2 w11 : Int) : Option (Bool) := F165x0x25 N w1 w2 w11 (fun p => some p)
theorem bind165x0x25 (w1 w2 w11 : Int) (k0 : Bool → Option R) : F165x0x25 N w1 w2 w11 k0 = (G165x0x25 N w1 w2 w11).bind k0 := by
 unfold G165x0x25 F165x0x25
 repeat' (first | with_reducible apply cond_b | (with_reducible apply bnd_b; intro _) | rfl)
def sh165x0x25 : Sh := { tmps := [(3, .c (.p 3 0)), (6, .c (.p 6 0)), (7, .c (.p 7 0))], mem := [(3, .box ([.i .i64, .i .i64, .i .i64, .i .i64])), (6, .box ([.i .i64, .i .i64, .i .i64, .s, .b])), (7, .box ([.i .i64, .i .i64, .i .i64, .s, .b]))] }
def K165x0x25w0 (L : List Lf) (p : Bool) : Ex × St := (.normal, mg (ofSh sh165x0x25 L) [3, 6, 7, 60] [(60, .c (.b p))] [3, 6, 7] [])
def A165x0x25 (L : List Lf) : List (Bool × (Ex × St)) := bnd (F165x0x25 N (li L 1) (li L 2) (li L 11) (fun p => some p)) fun q => [(q.isSome, K165x0x25w0 L (q.getD default))]
theorem raw165x0x25 (L : List Lf) : pc Tryz.prog (T169x0 N) (h165x0s0 N).h 0 100 165 25 sh165x0x25 L [7, 3, 6, 60] [7, 6, 3] = F165x0x25 N (li L 1) (li L 2) (li L 11) (fun p => some (K165x0x25w0 L p)) := by kernel_rfl
def h165x0s1 : Sg Tryz.prog 0 165 :=
 (h165x0s0 N).cut (A165x0x25 N) progOk (T169x0_ok N) fun L x hx => (raw165x0x25 N L).trans ((bind165x0x25 N ..).trans (alt1 x hx))
def F165x0x29 (N : Nat) (w0 : Bool) (w2 w12 : Int) (k0 : Int → Option R) : Option R :=
 bif w0 then
  bif (decide (0 ≤ (IntKind.wrap .i64 (8 * w2)))) then
   bnd (IntKind.wrap .i64 (1 * 2 ^ (min (IntKind.wrap .i64 (8 * w2)).toNat 64))) fun y0 =>
   k0 (IntKind.wrap .i64 (w12 - y0))
  else
   none
 else
  k0 w12
def G165x0x29 (w0 : Bool) (w2 w12 : Int) : Option (Int) := F165x0x29 N w0 w2 w12 (fun p => some p)
theorem bind165x0x29 (w0 : Bool) (w2 w12 : Int) (k0 : Int → Option R) : F165x0x29 N w0 w2 w12 k0 = (G165x0x29 N w0 w2 w12).bind k0 := by
 unfold G165x0x29 F165x0x29
 repeat' (first | with_reducible apply cond_b | (with_reducible apply bnd_b; intro _) | rfl)
def sh165x0x29 : Sh := { tmps := [(3, .c (.p 3 0)), (6, .c (.p 6 0)), (7, .c (.p 7 0)), (60, .c (.b))], mem := [(3, .box ([.i .i64, .i .i64, .i .i64, .i .i64])), (6, .box ([.i .i64, .i .i64, .i .i64, .s, .b])), (7, .box ([.i .i64, .i .i64, .i .i64, .s, .b]))] }
def K165x0x29w0 (L : List Lf) (p : Int) : Ex × St := (.normal, mg (ofSh sh165x0x29 L) [6, 7] [] [6, 7] [(7, .box [.i .i64 (li L 10), .i .i64 (li L 11), .i .i64 p, .s (ls L 13), .b (lb L 14)])])
def A165x0x29 (L : List Lf) : List (Bool × (Ex × St)) := bnd (F165x0x29 N (lb L 0) (li L 2) (li L 12) (fun p => some p)) fun q => [(q.isSome, K165x0x29w0 L (q.getD default))]
theorem raw165x0x29 (L : List Lf) : pc Tryz.prog (T169x0 N) (h165x0s1 N).h 0 100 165 29 sh165x0x29 L [7, 6] [7, 6] = F165x0x29 N (lb L 0) (li L 2) (li L 12) (fun p => some (K165x0x29w0 L p)) := by kernel_rfl
def h165x0s2 : Sg Tryz.prog 0 165 :=
 (h165x0s1 N).cut (A165x0x29 N) progOk (T169x0_ok N) fun L x hx => (raw165x0x29 N L).trans ((bind165x0x29 N ..).trans (alt1 x hx))
def F165x0x24023 (w0 : Bool) (w2 w3 w12 : Int) (k0 : Int → Option R) : Option R :=
 bif w0 then
  k0 0
 else
  bnd (G165x0x25 N w2 w3 w12) fun y0 =>
  bif y0.isSome then
   bnd (G165x0x29 N (y0.getD default) w2 w12) fun y1 =>
   bif y1.isSome then
    k0 (y1.getD default)
   else
    none
  else
   none
def G165x0x24023 (w0 : Bool) (w2 w3 w12 : Int) : Option (Int) := F165x0x24023 N w0 w2 w3 w12 (fun p => some p)
theorem bind165x0x24023 (w0 : Bool) (w2 w3 w12 : Int) (k0 : Int → Option R) : F165x0x24023 N w0 w2 w3 w12 k0 = (G165x0x24023 N w0 w2 w3 w12).bind k0 := by
 unfold G165x0x24023 F165x0x24023
 repeat' (first | with_reducible apply cond_b | (with_reducible apply bnd_b; intro _) | rfl)
def J165x0x24023 (L : List Lf) (k0 : Int → Option R) : Option R := F165x0x24023 N (lb L 0) (li L 2) (li L 3) (li L 12) k0
def sh165x0x24023 : Sh := { tmps := [(3, .c (.p 3 0)), (6, .c (.p 6 0)), (7, .c (.p 7 0)), (46, .c (.b))], mem := [(3, .box ([.i .i64, .i .i64, .i .i64, .i .i64])), (6, .box ([.i .i64, .i .i64, .i .i64, .s, .b])), (7, .box ([.i .i64, .i .i64, .i .i64, .s, .b]))] }
def K165x0x24023w0 (L : List Lf) (p : Int) : Ex × St := (.normal, mg (ofSh sh165x0x24023 L) [6, 7] [] [6, 7] [(7, .box [.i .i64 (li L 10), .i .i64 (li L 11), .i .i64 p, .s (ls L 13), .b (lb L 14)])])
def A165x0x24023 (L : List Lf) : List (Bool × (Ex × St)) := bnd (J165x0x24023 N L (fun p => some p)) fun q => [(q.isSome, K165x0x24023w0 L (q.getD default))]
theorem raw165x0x24023 (L : List Lf) : pc Tryz.prog (T169x0 N) (h165x0s2 N).h 0 100 165 24023 sh165x0x24023 L [7, 6] [7, 6] = J165x0x24023 N L (fun p => some (K165x0x24023w0 L p)) := by kernel_rfl
def h165x0s3 : Sg Tryz.prog 0 165 :=
 (h165x0s2 N).cut (A165x0x24023 N) progOk (T169x0_ok N) fun L x hx => (raw165x0x24023 N L).trans ((bind165x0x24023 N ..).trans (alt1 x hx))
def F165x0x12041 (w0 : Bool) (w2 : LD) (w3 : Bool) (w5 w6 w15 : Int) (w16 : LB) (k0 : Ty11 → Option R) : Option R :=
 bif w3 then
  bnd (G169x0 N (strD w2)) fun y0 =>
  bif y0.isSome then
   k0 (w15, (y0.getD default).1, ((y0.getD default).1 == ([] : List UInt8)))
  else
   none
 else
  bnd (G49x0 N w2 w0) fun y1 =>
  bif y1.isSome then
   bnd (G136x0 N w5 (w6 == 1)) fun y2 =>
   bif y2.isSome then
    bnd (G165x0x24023 N ((y1.getD default) == (y2.getD default)) w5 w6 (y1.getD default)) fun y3 =>
    bif y3.isSome then
     k0 ((y3.getD default), w16, ((y1.getD default) == (y2.getD default)))
    else
     none
   else
    none
  else
   none
def G165x0x12041 (w0 : Bool) (w2 : LD) (w3 : Bool) (w5 w6 w15 : Int) (w16 : LB) : Option (Ty11) := F165x0x12041 N w0 w2 w3 w5 w6 w15 w16 (fun p => some p)
theorem bind165x0x12041 (w0 : Bool) (w2 : LD) (w3 : Bool) (w5 w6 w15 : Int) (w16 : LB) (k0 : Ty11 → Option R) : F165x0x12041 N w0 w2 w3 w5 w6 w15 w16 k0 = (G165x0x12041 N w0 w2 w3 w5 w6 w15 w16).bind k0 := by
 unfold G165x0x12041 F165x0x12041
 repeat' (first | with_reducible apply cond_b | (with_reducible apply bnd_b; intro _) | rfl)
def J165x0x12041 (L : List Lf) (k0 : Ty11 → Option R) : Option R := F165x0x12041 N (lb L 0) (ll L 2) (lb L 3) (li L 5) (li L 6) (li L 15) (ls L 16) k0
def sh165x0x12041 : Sh := { tmps := [(2, .c (.b)), (3, .c (.p 3 0)), (6, .c (.p 6 0)), (7, .c (.p 7 0)), (8, .c (.sl 5)), (75, .c (.b))], mem := [(3, .box ([.i .i64, .i .i64, .i .i64, .i .i64])), (6, .box ([.i .i64, .i .i64, .i .i64, .s, .b])), (7, .box ([.i .i64, .i .i64, .i .i64, .s, .b]))] }
def K165x0x12041w0 (L : List Lf) (p : Ty11) : Ex × St := (.normal, mg (ofSh sh165x0x12041 L) [6, 7] [] [6, 7] [(7, .box [.i .i64 (li L 13), .i .i64 (li L 14), .i .i64 p.1, .s p.2.1, .b p.2.2])])
def A165x0x12041 (L : List Lf) : List (Bool × (Ex × St)) := bnd (J165x0x12041 N L (fun p => some p)) fun q => [(q.isSome, K165x0x12041w0 L (q.getD default))]
theorem raw165x0x12041 (L : List Lf) : pc Tryz.prog (T169x0 N) (h165x0s3 N).h 0 100 165 12041 sh165x0x12041 L [7, 6] [7, 6] = J165x0x12041 N L (fun p => some (K165x0x12041w0 L p)) := by kernel_rfl
def h165x0s4 : Sg Tryz.prog 0 165 :=
 (h165x0s3 N).cut (A165x0x12041 N) progOk (T169x0_ok N) fun L x hx => (raw165x0x12041 N L).trans ((bind165x0x12041 N ..).trans (alt1 x hx))
def F165x0x36035 (w0 : Bool) (w2 : LD) (w3 : Int) (w4 : Bool) (w6 w7 w16 : Int) (w17 : LB) (w18 : Bool) (k0 : Ty11 → Option R) : Option R :=
 bif w4 then
  k0 (w16, (strD w2), w18)
 else
  bnd (G165x0x12041 N w0 w2 (w3 == 2) w6 w7 w16 w17) fun y0 =>
  bif y0.isSome then
   k0 (y0.getD default)
  else
   none
def G165x0x36035 (w0 : Bool) (w2 : LD) (w3 : Int) (w4 : Bool) (w6 w7 w16 : Int) (w17 : LB) (w18 : Bool) : Option (Ty11) := F165x0x36035 N w0 w2 w3 w4 w6 w7 w16 w17 w18 (fun p => some p)
theorem bind165x0x36035 (w0 : Bool) (w2 : LD) (w3 : Int) (w4 : Bool) (w6 w7 w16 : Int) (w17 : LB) (w18 : Bool) (k0 : Ty11 → Option R) : F165x0x36035 N w0 w2 w3 w4 w6 w7 w16 w17 w18 k0 = (G165x0x36035 N w0 w2 w3 w4 w6 w7 w16 w17 w18).bind k0 := by
 unfold G165x0x36035 F165x0x36035
 repeat' (first | with_reducible apply cond_b | (with_reducible apply bnd_b; intro _) | rfl)
def J165x0x36035 (L : List Lf) (k0 : Ty11 → Option R) : Option R := F165x0x36035 N (lb L 0) (ll L 2) (li L 3) (lb L 4) (li L 6) (li L 7) (li L 16) (ls L 17) (lb L 18) k0
def sh165x0x36035 : Sh := { tmps := [(2, .c (.b)), (3, .c (.p 3 0)), (6, .c (.p 6 0)), (7, .c (.p 7 0)), (8, .c (.sl 5)), (28, .c (.i .i64)), (70, .c (.b))], mem := [(3, .box ([.i .i64, .i .i64, .i .i64, .i .i64])), (6, .box ([.i .i64, .i .i64, .i .i64, .s, .b])), (7, .box ([.i .i64, .i .i64, .i .i64, .s, .b]))] }
def K165x0x36035w0 (L : List Lf) (p : Ty11) : Ex × St := (.normal, mg (ofSh sh165x0x36035 L) [6, 7] [] [6, 7] [(7, .box [.i .i64 (li L 14), .i .i64 (li L 15), .i .i64 p.1, .s p.2.1, .b p.2.2])])
def A165x0x36035 (L : List Lf) : List (Bool × (Ex × St)) := bnd (J165x0x36035 N L (fun p => some p)) fun q => [(q.isSome, K165x0x36035w0 L (q.getD default))]
theorem raw165x0x36035 (L : List Lf) : pc Tryz.prog (T169x0 N) (h165x0s4 N).h 0 100 165 36035 sh165x0x36035 L [7, 6] [7, 6] = J165x0x36035 N L (fun p => some (K165x0x36035w0 L p)) := by kernel_rfl
def h165x0s5 : Sg Tryz.prog 0 165 :=
 (h165x0s4 N).cut (A165x0x36035 N) progOk (T169x0_ok N) fun L x hx => (raw165x0x36035 N L).trans ((bind165x0x36035 N ..).trans (alt1 x hx))
def F165x0 (v1 v2 v3 : Int) (v5 : LD) (v6 : Bool) (k0 : Ty11 → Option R) : Option R :=
 bif (((decide (0 ≤ v3)) && (decide (v3 ≤ (IntKind.wrap .i64 (v3 + v1))))) && (decide ((IntKind.wrap .i64 (v3 + v1)) ≤ (v5.length : Int)))) then
  bnd (((v5.take (IntKind.wrap .i64 (v3 + v1)).toNat).drop v3.toNat) : List D) fun y0 =>
  bnd (G165x0x36035 N v6 y0 v2 (v2 == 3) v1 v2 0 ([] : List UInt8) false) fun y1 =>
  bif y1.isSome then
   k0 (y1.getD default)
  else
   none
 else
  none
def G165x0 (v1 v2 v3 : Int) (v5 : LD) (v6 : Bool) : Option (Ty11) := F165x0 N v1 v2 v3 v5 v6 (fun p => some p)
theorem bind165x0 (v1 v2 v3 : Int) (v5 : LD) (v6 : Bool) (k0 : Ty11 → Option R) : F165x0 N v1 v2 v3 v5 v6 k0 = (G165x0 N v1 v2 v3 v5 v6).bind k0 := by
 unfold G165x0 F165x0
 repeat' (first | with_reducible apply cond_b | (with_reducible apply bnd_b; intro _) | rfl)
def J165x0 (L : List Lf) (k0 : Ty11 → Option R) : Option R := F165x0 N (li L 1) (li L 2) (li L 3) (ll L 5) (lb L 6) k0
def sh165x0 : Sh := { tmps := [(0, .g ([.i .i64, .i .i64, .i .i64, .i .i64])), (1, .c (.sl 5)), (2, .c (.b))], mem := [] }
def K165x0w0 (L : List Lf) (p : Ty11) : Res := ([.g [.i .i64 (li L 0), .i .i64 (li L 2), .i .i64 p.1, .s p.2.1, .b p.2.2]], [])
def A165x0 (L : List Lf) : List (Bool × Res) := bnd (J165x0 N L (fun p => some p)) fun q => [(q.isSome, K165x0w0 L (q.getD default))]
theorem raw165x0 (L : List Lf) : bd Tryz.prog (T169x0 N) (h165x0s5 N).h 165 sh165x0 L = J165x0 N L (fun p => some (K165x0w0 L p)) := by kernel_rfl
theorem ok165x0 : FnOk Tryz.prog 165 sh165x0 (A165x0 N) :=
 (h165x0s5 N).fn progOk (T169x0_ok N) fun L x hx => ((raw165x0 N L).trans ((bind165x0 N ..).trans (alt1 x hx)))
def T165x0 : Oracle := ext 165 (spSh sh165x0 (A165x0 N)) (T169x0 N)
theorem T165x0_ok : OracleOk Tryz.prog (T165x0 N) := FnOk.to (ok165x0 N) (T169x0_ok N)
def rg121x0 : List (Nat × List Nat) := [(0, [0, 1]), (1, [2, 3]), (2, [2, 3, 5]), (3, [14, 13, 12, 5, 3, 2]), (4, [12, 14, 5, 3, 2, 13]), (5, [5, 7, 3, 2, 14, 13, 12]), (6, [14, 13, 12, 5, 3, 2]), (7, [5])]
def hd121x0 : Hints := [(9, [14, 13, 12, 5, 3, 2], [3, 2, 5], [5])]
def h121x0s0 (N : Nat) : Sg Tryz.prog 0 121 := .start hd121x0 rg121x0
def S121x0x9 (w1 : LD) (w2 : Int) (w5 : Bool) (w17 : LD) (w3 : Int) (w18 : Bool) (w19 : LD) (kr : Int → Bool → LD → Option R) (k0 : Bool × LD → Option R) : Option R :=
 bif (decide (w3 < w2)) then
  bif (inB w3 w1.length) then
   bnd (G165x0 N ((w1.getD w3.toNat (.i 0)).cell 1).toI ((w1.getD w3.toNat (.i 0)).cell 2).toI ((w1.getD w3.toNat (.i 0)).cell 3).toI w17 w5) fun y0 =>
   bif y0.isSome then
    bif (decide ((w19.length + 1) * 48 ≤ room) && decide ((w19.length + 1) ≤ strMax)) then
     bnd ((w19 ++ [(.a [(.i ((w1.getD w3.toNat (.i 0)).cell 0).toI), (.i ((w1.getD w3.toNat (.i 0)).cell 2).toI), (.i (y0.getD default).1), (.s (y0.getD default).2.1), (.b (y0.getD default).2.2)])]) : List D) fun y1 =>
     kr (IntKind.wrap .i64 (w3 + 1)) false y1
    else
     none
   else
    none
  else
   none
 else
  k0 (w18, w19)
def L121x0x9 (N : Nat) {R : Type} (w1 : LD) (w2 : Int) (w5 : Bool) (w17 : LD) : Nat → Int → Bool → LD → (Bool × LD → Option R) → Option R
 | 0, _, _, _, _ => none
 | m + 1, w3, w18, w19, k0 => S121x0x9 N w1 w2 w5 w17 w3 w18 w19 (fun w3 w18 w19 => L121x0x9 N w1 w2 w5 w17 m w3 w18 w19 k0) k0
def G121x0x9 (w1 : LD) (w2 : Int) (w5 : Bool) (w17 : LD) (w3 : Int) (w18 : Bool) (w19 : LD) : Option (Bool × LD) := L121x0x9 N (R := (Bool × LD)) w1 w2 w5 w17 N w3 w18 w19 (fun p => some p)
def J121x0x9 (L x : List Lf) (kr : List Lf → Option R) (k0 : Bool × LD → Option R) : Option R := S121x0x9 N (ll L 1) (li L 2) (lb L 5) (ll L 17) (li x 0) (lb x 1) (ll x 2) (fun w3 w18 w19 => kr [.i w3, .b w18, .l w19]) k0
theorem sb121x0x9 (L x : List Lf) (kr : List Lf → Option R) (k0 : Bool × LD → Option R) : J121x0x9 N L x kr k0 = (J121x0x9 N L x (fun y => some (.inl y)) (fun p => some (.inr p))).bind (sumE kr k0) := by
 unfold J121x0x9 S121x0x9
 repeat' (first | with_reducible apply cond_b | (with_reducible apply bnd_b; intro _) | rfl)
def Q121x0x9 (L : List Lf) (m : Nat) (x : List Lf) : Option (Bool × LD) := L121x0x9 N (R := (Bool × LD)) (ll L 1) (li L 2) (lb L 5) (ll L 17) m (li x 0) (lb x 1) (ll x 2) (fun p => some p)
def sh121x0x9 : Sh := { tmps := [(2, .c (.p 2 0)), (3, .c (.p 3 0)), (5, .c (.o 5)), (12, .c (.sl 237)), (13, .c (.i .i64)), (14, .c (.i .i64))], mem := [(2, .box (.b :: [.b, .i .i64, .sl 136, .i .i64, .i .i64])), (3, .box ([.i .i64, .i .i64, .i .i64, .sl 115, .sl 5])), (5, .row 185 true)] }
def K121x0x9w0 (L : List Lf) (p : Bool × LD) : Ex × St := ((.exit 0), ⟨[(5, .c (.o 5))], [(5, .row 185 true p.1 p.2)]⟩)
def A121x0x9 (L : List Lf) : List (Bool × (Ex × St)) := bnd (Q121x0x9 N L N (pk sh121x0x9 [3, 18, 19] L)) fun q => [(q.isSome, K121x0x9w0 L (q.getD default))]
theorem step121x0x9 (m : Nat) (kn : St → Option (Ex × St)) (L x : List Lf) : lpB Tryz.prog (T165x0 N) (h121x0s0 N).h 0 121 9 sh121x0x9 [3, 18, 19] [4, 5] [5] (m + 100) kn L x = J121x0x9 N L x (fun y => kn (ofSh sh121x0x9 (mx sh121x0x9 [3, 18, 19] L y))) (fun p => some (K121x0x9w0 L p)) := by kernel_rfl
theorem ql121x0x9 (L : List Lf) (m : Nat) (x : List Lf) : Q121x0x9 N L (m + 1) x = J121x0x9 N L x (Q121x0x9 N L m) some := by kernel_rfl
def h121x0s1 : Sg Tryz.prog 0 121 :=
 (h121x0s0 N).lp (A121x0x9 N) N progOk (T165x0_ok N) (fun m kn L x => (step121x0x9 N m kn L x).trans (sb121x0x9 N L x _ _)) (fun L m x => (ql121x0x9 N L m x).trans (sb121x0x9 N L x (Q121x0x9 N L m) some)) fun L x hx => alt1 x hx
def F121x0 (v1 : Bool) (v4 : LD) (v6 v7 : Int) (v13 : LD) (k0 : Bool × LD → Option R) : Option R :=
 bnd (G164x0 N v4 v6 (v7 == 3)) fun y0 =>
 bif y0.isSome then
  bnd (G121x0x9 N (y0.getD default).2 ((y0.getD default).2.length : Int) v1 v13 0 true []) fun y1 =>
  bif y1.isSome then
   k0 (y1.getD default)
  else
   none
 else
  none
def G121x0 (v1 : Bool) (v4 : LD) (v6 v7 : Int) (v13 : LD) : Option (Bool × LD) := F121x0 N v1 v4 v6 v7 v13 (fun p => some p)
theorem bind121x0 (v1 : Bool) (v4 : LD) (v6 v7 : Int) (v13 : LD) (k0 : Bool × LD → Option R) : F121x0 N v1 v4 v6 v7 v13 k0 = (G121x0 N v1 v4 v6 v7 v13).bind k0 := by
 unfold G121x0 F121x0
 repeat' (first | with_reducible apply cond_b | (with_reducible apply bnd_b; intro _) | rfl)
def J121x0 (L : List Lf) (k0 : Bool × LD → Option R) : Option R := F121x0 N (lb L 1) (ll L 4) (li L 6) (li L 7) (ll L 13) k0
def sh121x0 : Sh := { tmps := [(0, .g (.b :: [.b, .i .i64, .sl 136, .i .i64, .i .i64])), (1, .g ([.i .i64, .i .i64, .i .i64, .sl 115, .sl 5]))], mem := [] }
def A121x0 (L : List Lf) : List (Bool × Res) := bnd (J121x0 N L (fun p => some p)) fun q => [(q.isSome, ([.c (.sl 185 (q.getD default).1 (q.getD default).2)], []))]
theorem raw121x0 (L : List Lf) : bd Tryz.prog (T165x0 N) (h121x0s1 N).h 121 sh121x0 L = J121x0 N L (fun p => some ([.c (.sl 185 p.1 p.2)], [])) := by kernel_rfl
theorem ok121x0 : FnOk Tryz.prog 121 sh121x0 (A121x0 N) :=
 (h121x0s1 N).fn progOk (T165x0_ok N) fun L x hx => ((raw121x0 N L).trans ((bind121x0 N ..).trans (alt1 x hx)))
def T121x0 : Oracle := ext 121 (spSh sh121x0 (A121x0 N)) (T165x0 N)
theorem T121x0_ok : OracleOk Tryz.prog (T121x0 N) := FnOk.to (ok121x0 N) (T165x0_ok N)
def rg54x0 : List (Nat × List Nat) := [(0, [0]), (1, [1]), (2, [1, 3]), (3, [1, 4, 3]), (4, [13, 12, 11, 4, 3]), (5, [11, 13, 4, 3, 12]), (6, [4, 6, 3, 13, 12, 11]), (7, [4, 6, 3, 7, 13, 12, 11]), (8, [6, 3, 8, 7, 13, 12, 11, 4]), (9, [3, 8, 7, 6, 13, 12, 11, 4]), (10, [13, 12, 11, 4, 3]), (11, [3])]
def hd54x0 : Hints := [(12, [13, 12, 11, 4, 3], [10000000002, 3], [3]), (29, [3, 8, 7, 6, 13, 12, 11, 4, 29], [8, 6, 10000000002, 3], [])]
def h54x0s0 (N : Nat) : Sg Tryz.prog 0 54 := .start hd54x0 rg54x0
def F54x0x29 (w0 : Int) (w5 : Bool) (w7 : LD) (w8 : Int) (w14 : LD) (w16 : Bool) (w17 : Int) (w19 : LD) (w21 : Int) (k0 : LD → Option R) (k1 : Unit → Option R) : Option R :=
 bif w5 then
  bnd (G121x0 N w16 w19 w21 w8 w14) fun y0 =>
  bif y0.isSome then
   bif (decide ((w7.length + 1) * 40 ≤ room) && decide ((w7.length + 1) ≤ strMax)) then
    bnd ((w7 ++ [(.a [(.i w17), (.i w0), (.l (y0.getD default).1 (y0.getD default).2)])]) : List D) fun y1 =>
    k0 y1
   else
    none
  else
   none
 else
  k1 ()
def G54x0x29 (w0 : Int) (w5 : Bool) (w7 : LD) (w8 : Int) (w14 : LD) (w16 : Bool) (w17 : Int) (w19 : LD) (w21 : Int) : Option (Sum (LD) (Unit)) := F54x0x29 N w0 w5 w7 w8 w14 w16 w17 w19 w21 (fun p => some (.inl p)) (fun p => some (.inr p))
theorem bind54x0x29 (w0 : Int) (w5 : Bool) (w7 : LD) (w8 : Int) (w14 : LD) (w16 : Bool) (w17 : Int) (w19 : LD) (w21 : Int) (k0 : LD → Option R) (k1 : Unit → Option R) : F54x0x29 N w0 w5 w7 w8 w14 w16 w17 w19 w21 k0 k1 = (G54x0x29 N w0 w5 w7 w8 w14 w16 w17 w19 w21).bind (sumE k0 k1) := by
 unfold G54x0x29 F54x0x29
 repeat' (first | with_reducible apply cond_b | (with_reducible apply bnd_b; intro _) | rfl)
def J54x0x29 (L : List Lf) (k0 : LD → Option R) (k1 : Unit → Option R) : Option R := F54x0x29 N (li L 0) (lb L 5) (ll L 7) (li L 8) (ll L 14) (lb L 16) (li L 17) (ll L 19) (li L 21) k0 k1
def sh54x0x29 : Sh := { tmps := [(3, .c (.o 3)), (4, .c (.p 10000000002 0)), (6, .c (.p 6 0)), (7, .c (.i .i64)), (8, .c (.p 8 0)), (11, .c (.sl 96)), (12, .c (.i .i64)), (13, .c (.i .i64)), (29, .c (.b))], mem := [(3, .row 104 true), (6, .box ([.i .i64, .i .i64, .i .i64, .sl 115, .sl 5])), (8, .box (.b :: [.b, .i .i64, .sl 136, .i .i64, .i .i64])), (10000000002, .dat 182)] }
def K54x0x29w0 (L : List Lf) (p : LD) : Ex × St := (.normal, mg (ofSh sh54x0x29 L) [3, 4, 11, 12, 13] [(3, .c (.o 40))] [40, 10000000002] [(40, .row 104 true false p)])
def K54x0x29w1 (L : List Lf) (_ : Unit) : Ex × St := (.normal, mg (ofSh sh54x0x29 L) [3, 4, 11, 12, 13] [] [3, 10000000002] [])
def A54x0x29 (L : List Lf) : List (Bool × (Ex × St)) := bnd (J54x0x29 N L (fun p => some (.inl p)) (fun p => some (.inr p))) fun q => [((inlB q), K54x0x29w0 L (inlV q)), ((inrQ q).isSome, K54x0x29w1 L ())]
theorem raw54x0x29 (L : List Lf) : pc Tryz.prog (T121x0 N) (h54x0s0 N).h 0 100 54 29 sh54x0x29 L [13, 12, 11, 4, 3] [10000000002, 40, 3] = J54x0x29 N L (fun p => some (K54x0x29w0 L p)) (fun _ => some (K54x0x29w1 L ())) := by kernel_rfl
def h54x0s1 : Sg Tryz.prog 0 54 :=
 (h54x0s0 N).cut (A54x0x29 N) progOk (T121x0_ok N) fun L x hx => (raw54x0x29 N L).trans ((bind54x0x29 N ..).trans ((altS alt1) x hx))
def S54x0x12 (w1 : LD) (w2 : Int) (w3 : Int) (w4 : Bool) (w5 : LD) (w6 : D) (kr : Int → Bool → LD → D → Option R) (k0 : Bool × LD → Option R) : Option R :=
 bif (decide (w3 < w2)) then
  bif (inB w3 w1.length) then
   bnd (G120x0 N ((w1.getD w3.toNat (.i 0)).cell 0).toI ((w1.getD w3.toNat (.i 0)).cell 1).toI ((w1.getD w3.toNat (.i 0)).cell 2).toI ((w1.getD w3.toNat (.i 0)).cell 3).items ((w1.getD w3.toNat (.i 0)).cell 4).items w6) fun y0 =>
   bif y0.isSome then
    bif (inB ((w1.getD w3.toNat (.i 0)).cell 1).toI 16) then
     bnd ((y0.getD default).2.cell (0 + (((w1.getD w3.toNat (.i 0)).cell 1).toI.toNat * 6))).toB fun y1 =>
     bnd ((y0.getD default).2.cell (1 + (((w1.getD w3.toNat (.i 0)).cell 1).toI.toNat * 6))).toB fun y2 =>
     bnd ((y0.getD default).2.cell (2 + (((w1.getD w3.toNat (.i 0)).cell 1).toI.toNat * 6))).toI fun y3 =>
     bnd ((y0.getD default).2.cell (3 + (((w1.getD w3.toNat (.i 0)).cell 1).toI.toNat * 6))).isNil fun y4 =>
     bnd (((y0.getD default).2.cell (3 + (((w1.getD w3.toNat (.i 0)).cell 1).toI.toNat * 6))).items : List D) fun y5 =>
     bnd ((y0.getD default).2.cell (4 + (((w1.getD w3.toNat (.i 0)).cell 1).toI.toNat * 6))).toI fun y6 =>
     bnd ((y0.getD default).2.cell (5 + (((w1.getD w3.toNat (.i 0)).cell 1).toI.toNat * 6))).toI fun y7 =>
     bnd (G54x0x29 N (y0.getD default).1 (((w1.getD w3.toNat (.i 0)).cell 0).toI != 1) w5 ((w1.getD w3.toNat (.i 0)).cell 0).toI ((w1.getD w3.toNat (.i 0)).cell 4).items y2 y3 y5 y7) fun y8 =>
     bif (inlB y8) then
      kr (IntKind.wrap .i64 (w3 + 1)) false (inlV y8) (y0.getD default).2
     else
      bif (inrQ y8).isSome then
       kr (IntKind.wrap .i64 (w3 + 1)) w4 w5 (y0.getD default).2
      else
       none
    else
     none
   else
    none
  else
   none
 else
  k0 (w4, w5)
def L54x0x12 (N : Nat) {R : Type} (w1 : LD) (w2 : Int) : Nat → Int → Bool → LD → D → (Bool × LD → Option R) → Option R
 | 0, _, _, _, _, _ => none
 | m + 1, w3, w4, w5, w6, k0 => S54x0x12 N w1 w2 w3 w4 w5 w6 (fun w3 w4 w5 w6 => L54x0x12 N w1 w2 m w3 w4 w5 w6 k0) k0
def G54x0x12 (w1 : LD) (w2 : Int) (w3 : Int) (w4 : Bool) (w5 : LD) (w6 : D) : Option (Bool × LD) := L54x0x12 N (R := (Bool × LD)) w1 w2 N w3 w4 w5 w6 (fun p => some p)
def J54x0x12 (L x : List Lf) (kr : List Lf → Option R) (k0 : Bool × LD → Option R) : Option R := S54x0x12 N (ll L 1) (li L 2) (li x 0) (lb x 1) (ll x 2) (ld x 3) (fun w3 w4 w5 w6 => kr [.i w3, .b w4, .l w5, .d w6]) k0
theorem sb54x0x12 (L x : List Lf) (kr : List Lf → Option R) (k0 : Bool × LD → Option R) : J54x0x12 N L x kr k0 = (J54x0x12 N L x (fun y => some (.inl y)) (fun p => some (.inr p))).bind (sumE kr k0) := by
 unfold J54x0x12 S54x0x12
 repeat' (first | with_reducible apply cond_b | (with_reducible apply bnd_b; intro _) | rfl)
def Q54x0x12 (L : List Lf) (m : Nat) (x : List Lf) : Option (Bool × LD) := L54x0x12 N (R := (Bool × LD)) (ll L 1) (li L 2) m (li x 0) (lb x 1) (ll x 2) (ld x 3) (fun p => some p)
def sh54x0x12 : Sh := { tmps := [(3, .c (.o 3)), (4, .c (.p 10000000002 0)), (11, .c (.sl 96)), (12, .c (.i .i64)), (13, .c (.i .i64))], mem := [(3, .row 104 true), (10000000002, .dat 182)] }
def K54x0x12w0 (L : List Lf) (p : Bool × LD) : Ex × St := ((.exit 0), ⟨[(3, .c (.o 3))], [(3, .row 104 true p.1 p.2)]⟩)
def A54x0x12 (L : List Lf) : List (Bool × (Ex × St)) := bnd (Q54x0x12 N L N (pk sh54x0x12 [3, 4, 5, 6] L)) fun q => [(q.isSome, K54x0x12w0 L (q.getD default))]
theorem step54x0x12 (m : Nat) (kn : St → Option (Ex × St)) (L x : List Lf) : lpB Tryz.prog (T121x0 N) (h54x0s1 N).h 0 54 12 sh54x0x12 [3, 4, 5, 6] [2, 3] [3] (m + 100) kn L x = J54x0x12 N L x (fun y => kn (ofSh sh54x0x12 (mx sh54x0x12 [3, 4, 5, 6] L y))) (fun p => some (K54x0x12w0 L p)) := by kernel_rfl
theorem ql54x0x12 (L : List Lf) (m : Nat) (x : List Lf) : Q54x0x12 N L (m + 1) x = J54x0x12 N L x (Q54x0x12 N L m) some := by kernel_rfl
def h54x0s2 : Sg Tryz.prog 0 54 :=
 (h54x0s1 N).lp (A54x0x12 N) N progOk (T121x0_ok N) (fun m kn L x => (step54x0x12 N m kn L x).trans (sb54x0x12 N L x _ _)) (fun L m x => (ql54x0x12 N L m x).trans (sb54x0x12 N L x (Q54x0x12 N L m) some)) fun L x hx => alt1 x hx
def F54x0 (v1 : LD) (k0 : Bool × LD → Option R) : Option R :=
 bnd (V118x0 N) fun y0 =>
 bnd (G54x0x12 N v1 (v1.length : Int) 0 true [] y0) fun y1 =>
 bif y1.isSome then
  k0 (y1.getD default)
 else
  none
def G54x0 (v1 : LD) : Option (Bool × LD) := F54x0 N v1 (fun p => some p)
theorem bind54x0 (v1 : LD) (k0 : Bool × LD → Option R) : F54x0 N v1 k0 = (G54x0 N v1).bind k0 := by
 unfold G54x0 F54x0
 repeat' (first | with_reducible apply cond_b | (with_reducible apply bnd_b; intro _) | rfl)
def sh54x0 : Sh := { tmps := [(0, .g ([.sl 96]))], mem := [] }
def A54x0 (L : List Lf) : List (Bool × Res) := bnd (F54x0 N (ll L 1) (fun p => some p)) fun q => [(q.isSome, ([.c (.sl 104 (q.getD default).1 (q.getD default).2)], []))]
theorem raw54x0 (L : List Lf) : bd Tryz.prog (T121x0 N) (h54x0s2 N).h 54 sh54x0 L = F54x0 N (ll L 1) (fun p => some ([.c (.sl 104 p.1 p.2)], [])) := by kernel_rfl
theorem ok54x0 : FnOk Tryz.prog 54 sh54x0 (A54x0 N) :=
 (h54x0s2 N).fn progOk (T121x0_ok N) fun L x hx => ((raw54x0 N L).trans ((bind54x0 N ..).trans (alt1 x hx)))
def T54x0 : Oracle := ext 54 (spSh sh54x0 (A54x0 N)) (T121x0 N)
theorem T54x0_ok : OracleOk Tryz.prog (T54x0 N) := FnOk.to (ok54x0 N) (T121x0_ok N)
def rg55x0 : List (Nat × List Nat) := [(0, [0, 1]), (1, [2, 1]), (2, [10, 9, 8, 1]), (3, [8, 10, 1, 9]), (4, [6, 1, 10, 9, 8]), (5, [6]), (6, [10, 9, 8, 1]), (7, [])]
def hd55x0 : Hints := [(6, [10, 9, 8, 1], [], [])]
def h55x0s0 (N : Nat) : Sg Tryz.prog 0 55 := .start hd55x0 rg55x0
def S55x0x6 (N : Nat) (w0 : Int) (w2 : LD) (w3 : Int) (w4 : Int) (kr : Int → Option R) (k0 : LB → Option R) (k1 : Unit → Option R) : Option R :=
 bif (decide (w4 < w3)) then
  bif (inB w4 w2.length) then
   bnd (bif (((w2.getD w4.toNat (.i 0)).cell 0).toI == w0) then (((w2.getD w4.toNat (.i 0)).cell 1).toI == 2) else false) fun y0 =>
   bif y0 then
    k0 ((w2.getD w4.toNat (.i 0)).cell 3).toS
   else
    kr (IntKind.wrap .i64 (w4 + 1))
  else
   none
 else
  k1 ()
def L55x0x6 (N : Nat) {R : Type} (w0 : Int) (w2 : LD) (w3 : Int) : Nat → Int → (LB → Option R) → (Unit → Option R) → Option R
 | 0, _, _, _ => none
 | m + 1, w4, k0, k1 => S55x0x6 N w0 w2 w3 w4 (fun w4 => L55x0x6 N w0 w2 w3 m w4 k0 k1) k0 k1
def G55x0x6 (w0 : Int) (w2 : LD) (w3 : Int) (w4 : Int) : Option (Sum (LB) (Unit)) := L55x0x6 N (R := (Sum (LB) (Unit))) w0 w2 w3 N w4 (fun p => some (.inl p)) (fun p => some (.inr p))
def J55x0x6 (L x : List Lf) (kr : List Lf → Option R) (k0 : LB → Option R) (k1 : Unit → Option R) : Option R := S55x0x6 N (li L 0) (ll L 2) (li L 3) (li x 0) (fun w4 => kr [.i w4]) k0 k1
theorem sb55x0x6 (L x : List Lf) (kr : List Lf → Option R) (k0 : LB → Option R) (k1 : Unit → Option R) : J55x0x6 N L x kr k0 k1 = (J55x0x6 N L x (fun y => some (.inl y)) (fun p => some (.inr (.inl p))) (fun p => some (.inr (.inr p)))).bind (sumE kr (sumE k0 k1)) := by
 unfold J55x0x6 S55x0x6
 repeat' (first | with_reducible apply cond_b | (with_reducible apply bnd_b; intro _) | rfl)
def Q55x0x6 (L : List Lf) (m : Nat) (x : List Lf) : Option (Sum (LB) (Unit)) := L55x0x6 N (R := (Sum (LB) (Unit))) (li L 0) (ll L 2) (li L 3) m (li x 0) (fun p => some (.inl p)) (fun p => some (.inr p))
def sh55x0x6 : Sh := { tmps := [(1, .c (.i .i64)), (8, .c (.sl 185)), (9, .c (.i .i64)), (10, .c (.i .i64))], mem := [] }
def A55x0x6 (L : List Lf) : List (Bool × (Ex × St)) := bnd (Q55x0x6 N L N (pk sh55x0x6 [4] L)) fun q => [((inlB q), (.ret, ⟨[(4, .c (.s (inlV q)))], []⟩)), ((inrQ q).isSome, ((.exit 0), ⟨[], []⟩))]
theorem step55x0x6 (m : Nat) (kn : St → Option (Ex × St)) (L x : List Lf) : lpB Tryz.prog (T54x0 N) (h55x0s0 N).h 0 55 6 sh55x0x6 [4] [4] [] (m + 100) kn L x = J55x0x6 N L x (fun y => kn (ofSh sh55x0x6 (mx sh55x0x6 [4] L y))) (fun p => some (.ret, ⟨[(4, .c (.s p))], []⟩)) (fun _ => some ((.exit 0), ⟨[], []⟩)) := by kernel_rfl
theorem ql55x0x6 (L : List Lf) (m : Nat) (x : List Lf) : Q55x0x6 N L (m + 1) x = J55x0x6 N L x (Q55x0x6 N L m) (fun p => some (.inl p)) (fun p => some (.inr p)) := by kernel_rfl
def h55x0s1 : Sg Tryz.prog 0 55 :=
 (h55x0s0 N).lp (A55x0x6 N) N progOk (T54x0_ok N) (fun m kn L x => (step55x0x6 N m kn L x).trans (sb55x0x6 N L x _ _ _)) (fun L m x => (ql55x0x6 N L m x).trans (sb55x0x6 N L x (Q55x0x6 N L m) (fun p => some (.inl p)) (fun p => some (.inr p)))) fun L x hx => (altS alt1) x hx
def F55x0 (v3 : LD) (v4 : Int) (k0 : LB → Option R) : Option R :=
 bnd (G55x0x6 N v4 v3 (v3.length : Int) 0) fun y0 =>
 bif (inlB y0) then
  k0 (inlV y0)
 else
  bif (inrQ y0).isSome then
   k0 ([] : List UInt8)
  else
   none
def G55x0 (v3 : LD) (v4 : Int) : Option (LB) := F55x0 N v3 v4 (fun p => some p)
theorem bind55x0 (v3 : LD) (v4 : Int) (k0 : LB → Option R) : F55x0 N v3 v4 k0 = (G55x0 N v3 v4).bind k0 := by
 unfold G55x0 F55x0
 repeat' (first | with_reducible apply cond_b | (with_reducible apply bnd_b; intro _) | rfl)
def sh55x0 : Sh := { tmps := [(0, .g ([.i .i64, .i .i64, .sl 185])), (1, .c (.i .i64))], mem := [] }
def A55x0 (L : List Lf) : List (Bool × Res) := bnd (F55x0 N (ll L 3) (li L 4) (fun p => some p)) fun q => [(q.isSome, ([.c (.s (q.getD default))], []))]
theorem raw55x0 (L : List Lf) : bd Tryz.prog (T54x0 N) (h55x0s1 N).h 55 sh55x0 L = F55x0 N (ll L 3) (li L 4) (fun p => some ([.c (.s p)], [])) := by kernel_rfl
theorem ok55x0 : FnOk Tryz.prog 55 sh55x0 (A55x0 N) :=
 (h55x0s1 N).fn progOk (T54x0_ok N) fun L x hx => ((raw55x0 N L).trans ((bind55x0 N ..).trans (alt1 x hx)))
def T55x0 : Oracle := ext 55 (spSh sh55x0 (A55x0 N)) (T54x0 N)
theorem T55x0_ok : OracleOk Tryz.prog (T55x0 N) := FnOk.to (ok55x0 N) (T54x0_ok N)
def rg56x0 : List (Nat × List Nat) := [(0, [0, 1, 2]), (1, [3, 1, 2]), (2, [13, 12, 11, 1, 2]), (3, [11, 13, 1, 2, 12]), (4, [9, 1, 2, 13, 12, 11]), (5, [9]), (6, [13, 12, 11, 1, 2]), (7, [])]
def hd56x0 : Hints := [(6, [13, 12, 11, 1, 2], [], [])]
def h56x0s0 (N : Nat) : Sg Tryz.prog 0 56 := .start hd56x0 rg56x0
def S56x0x6 (N : Nat) (w0 w1 : Int) (w3 : LD) (w4 : Int) (w5 : Int) (kr : Int → Option R) (k0 : Int → Option R) (k1 : Unit → Option R) : Option R :=
 bif (decide (w5 < w4)) then
  bif (inB w5 w3.length) then
   bnd (bif (((w3.getD w5.toNat (.i 0)).cell 0).toI == w0) then (((w3.getD w5.toNat (.i 0)).cell 1).toI == w1) else false) fun y0 =>
   bnd (bif y0 then (!((w3.getD w5.toNat (.i 0)).cell 4).toB) else false) fun y1 =>
   bif y1 then
    k0 ((w3.getD w5.toNat (.i 0)).cell 2).toI
   else
    kr (IntKind.wrap .i64 (w5 + 1))
  else
   none
 else
  k1 ()
def L56x0x6 (N : Nat) {R : Type} (w0 w1 : Int) (w3 : LD) (w4 : Int) : Nat → Int → (Int → Option R) → (Unit → Option R) → Option R
 | 0, _, _, _ => none
 | m + 1, w5, k0, k1 => S56x0x6 N w0 w1 w3 w4 w5 (fun w5 => L56x0x6 N w0 w1 w3 w4 m w5 k0 k1) k0 k1
def G56x0x6 (w0 w1 : Int) (w3 : LD) (w4 : Int) (w5 : Int) : Option (Sum (Int) (Unit)) := L56x0x6 N (R := (Sum (Int) (Unit))) w0 w1 w3 w4 N w5 (fun p => some (.inl p)) (fun p => some (.inr p))
def J56x0x6 (L x : List Lf) (kr : List Lf → Option R) (k0 : Int → Option R) (k1 : Unit → Option R) : Option R := S56x0x6 N (li L 0) (li L 1) (ll L 3) (li L 4) (li x 0) (fun w5 => kr [.i w5]) k0 k1
theorem sb56x0x6 (L x : List Lf) (kr : List Lf → Option R) (k0 : Int → Option R) (k1 : Unit → Option R) : J56x0x6 N L x kr k0 k1 = (J56x0x6 N L x (fun y => some (.inl y)) (fun p => some (.inr (.inl p))) (fun p => some (.inr (.inr p)))).bind (sumE kr (sumE k0 k1)) := by
 unfold J56x0x6 S56x0x6
 repeat' (first | with_reducible apply cond_b | (with_reducible apply bnd_b; intro _) | rfl)
def Q56x0x6 (L : List Lf) (m : Nat) (x : List Lf) : Option (Sum (Int) (Unit)) := L56x0x6 N (R := (Sum (Int) (Unit))) (li L 0) (li L 1) (ll L 3) (li L 4) m (li x 0) (fun p => some (.inl p)) (fun p => some (.inr p))
def sh56x0x6 : Sh := { tmps := [(1, .c (.i .i64)), (2, .c (.i .i64)), (11, .c (.sl 185)), (12, .c (.i .i64)), (13, .c (.i .i64))], mem := [] }
def A56x0x6 (L : List Lf) : List (Bool × (Ex × St)) := bnd (Q56x0x6 N L N (pk sh56x0x6 [5] L)) fun q => [((inlB q), (.ret, ⟨[(6, .c (.i .i64 (inlV q))), (7, .c (.b true))], []⟩)), ((inrQ q).isSome, ((.exit 0), ⟨[], []⟩))]
theorem step56x0x6 (m : Nat) (kn : St → Option (Ex × St)) (L x : List Lf) : lpB Tryz.prog (T55x0 N) (h56x0s0 N).h 0 56 6 sh56x0x6 [5] [6, 7] [] (m + 100) kn L x = J56x0x6 N L x (fun y => kn (ofSh sh56x0x6 (mx sh56x0x6 [5] L y))) (fun p => some (.ret, ⟨[(6, .c (.i .i64 p)), (7, .c (.b true))], []⟩)) (fun _ => some ((.exit 0), ⟨[], []⟩)) := by kernel_rfl
theorem ql56x0x6 (L : List Lf) (m : Nat) (x : List Lf) : Q56x0x6 N L (m + 1) x = J56x0x6 N L x (Q56x0x6 N L m) (fun p => some (.inl p)) (fun p => some (.inr p)) := by kernel_rfl
def h56x0s1 : Sg Tryz.prog 0 56 :=
 (h56x0s0 N).lp (A56x0x6 N) N progOk (T55x0_ok N) (fun m kn L x => (step56x0x6 N m kn L x).trans (sb56x0x6 N L x _ _ _)) (fun L m x => (ql56x0x6 N L m x).trans (sb56x0x6 N L x (Q56x0x6 N L m) (fun p => some (.inl p)) (fun p => some (.inr p)))) fun L x hx => (altS alt1) x hx
def F56x0 (v3 : LD) (v4 v5 : Int) (k0 : Int × Bool → Option R) : Option R :=
 bnd (G56x0x6 N v4 v5 v3 (v3.length : Int) 0) fun y0 =>
 bif (inlB y0) then
  k0 ((inlV y0), true)
 else
  bif (inrQ y0).isSome then
   k0 (0, false)
  else
   none
def G56x0 (v3 : LD) (v4 v5 : Int) : Option (Int × Bool) := F56x0 N v3 v4 v5 (fun p => some p)
theorem bind56x0 (v3 : LD) (v4 v5 : Int) (k0 : Int × Bool → Option R) : F56x0 N v3 v4 v5 k0 = (G56x0 N v3 v4 v5).bind k0 := by
 unfold G56x0 F56x0
 repeat' (first | with_reducible apply cond_b | (with_reducible apply bnd_b; intro _) | rfl)
def sh56x0 : Sh := { tmps := [(0, .g ([.i .i64, .i .i64, .sl 185])), (1, .c (.i .i64)), (2, .c (.i .i64))], mem := [] }
def A56x0 (L : List Lf) : List (Bool × Res) := bnd (F56x0 N (ll L 3) (li L 4) (li L 5) (fun p => some p)) fun q => [(q.isSome, ([.c (.i .i64 (q.getD default).1), .c (.b (q.getD default).2)], []))]
theorem raw56x0 (L : List Lf) : bd Tryz.prog (T55x0 N) (h56x0s1 N).h 56 sh56x0 L = F56x0 N (ll L 3) (li L 4) (li L 5) (fun p => some ([.c (.i .i64 p.1), .c (.b p.2)], [])) := by kernel_rfl
theorem ok56x0 : FnOk Tryz.prog 56 sh56x0 (A56x0 N) :=
 (h56x0s1 N).fn progOk (T55x0_ok N) fun L x hx => ((raw56x0 N L).trans ((bind56x0 N ..).trans (alt1 x hx)))
def T56x0 : Oracle := ext 56 (spSh sh56x0 (A56x0 N)) (T55x0 N)
theorem T56x0_ok : OracleOk Tryz.prog (T56x0 N) := FnOk.to (ok56x0 N) (T55x0_ok N)
def rg57x0 : List (Nat × List Nat) := [(0, [1, 0]), (1, [3, 0]), (2, [19, 3, 0]), (21, [19, 3, 0]), (25, [19, 3, 0]), (26, [3, 0]), (27, [0, 17]), (28, [17]), (22, [3, 0]), (23, [0, 3, 15, 16]), (24, [16, 3]), (3, [3, 0]), (4, [3, 5, 0]), (5, [5, 3, 6, 0]), (6, [38, 37, 36, 3, 6, 5, 0]), (7, [38, 36, 3, 6, 37, 5, 0]), (8, [3, 7, 8, 6, 38, 37, 36, 5, 0]), (9, [8, 9, 6, 10, 38, 37, 36, 3, 5, 0]), (10, [38, 37, 36, 3, 6, 5, 0]), (11, [5, 3, 0, 6]), (12, [62, 61, 60, 3, 0, 5, 6]), (13, [62, 60, 3, 61, 0, 5, 6]), (14, [3, 11, 12, 62, 61, 60, 0, 5, 6]), (15, [14, 12, 13, 62, 61, 60, 3, 0, 5, 6]), (17, [12, 62, 61, 60, 3, 0, 5, 6]), (16, [12, 13, 62, 61, 60, 3, 0, 5, 6]), (18, [62, 61, 60, 3, 0, 5, 6]), (19, [0, 5, 6]), (20, [6]), (29, [])]
def hd57x0 : Hints := [(51050, [12, 13, 62, 61, 60, 3, 0, 5, 6, 74], [64, 9, 7, 3, 2, 1, 0], [])]
def h57x0s0 (N : Nat) : Sg Tryz.prog 4 57 := .start hd57x0 rg57x0
def F57x0x51050 (N : Nat) (w1 : Int) (w4 : Bool) (k0 : Int → R) : R :=
 bif w4 then
  k0 w1
 else
  k0 (-1)
def V57x0x51050 (w1 : Int) (w4 : Bool) : Int := F57x0x51050 N w1 w4 (fun p => p)
theorem tot57x0x51050 (w1 : Int) (w4 : Bool) (k0 : Int → R) : F57x0x51050 N w1 w4 k0 = k0 (V57x0x51050 N w1 w4) := by
 unfold V57x0x51050 F57x0x51050
 repeat' (first | rfl | apply cond_k | (apply bnd_k; intro _))
def sh57x0x51050 : Sh := { tmps := [(0, .c (.p 0 0)), (3, .c (.p 7 0)), (5, .c (.p 9 0)), (6, .c (.b)), (12, .c (.p 9 4)), (13, .c (.i .i64)), (60, .c (.bs 64 3)), (61, .c (.i .i64)), (62, .c (.i .i64)), (74, .c (.b))], mem := [(0, .box (.s :: [.i .i64, .i .i64, .o 1, .o 2, .o 3])), (1, .row 69 true), (2, .row 130 true), (3, .row 9 true), (7, .box ([.i .i64, .i .i64, .sl 185])), (9, .box (rI 7 ([]))), (64, .box ([.p 9 4, .p 9 5, .p 9 6]))] }
def K57x0x51050w0 (L : List Lf) (p : Int) : Ex × St := (.normal, mg (ofSh sh57x0x51050 L) [0, 3, 5, 6, 60, 61, 62] [] [0, 1, 2, 3, 7, 9, 64] [(9, .box (rL L 18 4 ([.i .i64 p, .i .i64 (li L 23), .i .i64 (li L 24)])))])
def A57x0x51050 (L : List Lf) : List (Bool × (Ex × St)) := bnd (F57x0x51050 N (li L 1) (lb L 4) (fun p => p)) fun q => [(true, K57x0x51050w0 L q)]
theorem raw57x0x51050 (L : List Lf) : pc Tryz.prog (T56x0 N) (h57x0s0 N).h 4 100 57 51050 sh57x0x51050 L [62, 61, 60, 3, 0, 5, 6] [64, 9, 7, 3, 2, 1, 0] = F57x0x51050 N (li L 1) (lb L 4) (fun p => some (K57x0x51050w0 L p)) := by kernel_rfl
def h57x0s1 : Sg Tryz.prog 4 57 :=
 (h57x0s0 N).cut (A57x0x51050 N) progOk (T56x0_ok N) fun L x hx => (raw57x0x51050 N L).trans ((tot57x0x51050 N ..).trans (alt0 _ _ hx))
def F57x0x51050b (N : Nat) (w1 : Int) (w4 : Bool) (k0 : Int → R) : R :=
 bif w4 then
  k0 w1
 else
  k0 (-1)
def V57x0x51050b (w1 : Int) (w4 : Bool) : Int := F57x0x51050b N w1 w4 (fun p => p)
theorem tot57x0x51050b (w1 : Int) (w4 : Bool) (k0 : Int → R) : F57x0x51050b N w1 w4 k0 = k0 (V57x0x51050b N w1 w4) := by
 unfold V57x0x51050b F57x0x51050b
 repeat' (first | rfl | apply cond_k | (apply bnd_k; intro _))
def sh57x0x51050b : Sh := { tmps := [(0, .c (.p 0 0)), (3, .c (.p 7 0)), (5, .c (.p 9 0)), (6, .c (.b)), (12, .c (.p 9 5)), (13, .c (.i .i64)), (60, .c (.bs 64 3)), (61, .c (.i .i64)), (62, .c (.i .i64)), (74, .c (.b))], mem := [(0, .box (.s :: [.i .i64, .i .i64, .o 1, .o 2, .o 3])), (1, .row 69 true), (2, .row 130 true), (3, .row 9 true), (7, .box ([.i .i64, .i .i64, .sl 185])), (9, .box (rI 7 ([]))), (64, .box ([.p 9 4, .p 9 5, .p 9 6]))] }
def K57x0x51050bw0 (L : List Lf) (p : Int) : Ex × St := (.normal, mg (ofSh sh57x0x51050b L) [0, 3, 5, 6, 60, 61, 62] [] [0, 1, 2, 3, 7, 9, 64] [(9, .box (rL L 18 5 ([.i .i64 p, .i .i64 (li L 24)])))])
def A57x0x51050b (L : List Lf) : List (Bool × (Ex × St)) := bnd (F57x0x51050b N (li L 1) (lb L 4) (fun p => p)) fun q => [(true, K57x0x51050bw0 L q)]
theorem raw57x0x51050b (L : List Lf) : pc Tryz.prog (T56x0 N) ((h57x0s1 N).no 51050).h 4 100 57 51050 sh57x0x51050b L [62, 61, 60, 3, 0, 5, 6] [64, 9, 7, 3, 2, 1, 0] = F57x0x51050b N (li L 1) (lb L 4) (fun p => some (K57x0x51050bw0 L p)) := by kernel_rfl
def h57x0s2 : Sg Tryz.prog 4 57 :=
 (h57x0s1 N).add (((h57x0s1 N).no 51050).cut (A57x0x51050b N) progOk (T56x0_ok N) fun L x hx => (raw57x0x51050b N L).trans ((tot57x0x51050b N ..).trans (alt0 _ _ hx))) 51050
def F57x0x51050bb (N : Nat) (w1 : Int) (w4 : Bool) (k0 : Int → R) : R :=
 bif w4 then
  k0 w1
 else
  k0 (-1)
def V57x0x51050bb (w1 : Int) (w4 : Bool) : Int := F57x0x51050bb N w1 w4 (fun p => p)
theorem tot57x0x51050bb (w1 : Int) (w4 : Bool) (k0 : Int → R) : F57x0x51050bb N w1 w4 k0 = k0 (V57x0x51050bb N w1 w4) := by
 unfold V57x0x51050bb F57x0x51050bb
 repeat' (first | rfl | apply cond_k | (apply bnd_k; intro _))
def sh57x0x51050bb : Sh := { tmps := [(0, .c (.p 0 0)), (3, .c (.p 7 0)), (5, .c (.p 9 0)), (6, .c (.b)), (12, .c (.p 9 6)), (13, .c (.i .i64)), (60, .c (.bs 64 3)), (61, .c (.i .i64)), (62, .c (.i .i64)), (74, .c (.b))], mem := [(0, .box (.s :: [.i .i64, .i .i64, .o 1, .o 2, .o 3])), (1, .row 69 true), (2, .row 130 true), (3, .row 9 true), (7, .box ([.i .i64, .i .i64, .sl 185])), (9, .box (rI 7 ([]))), (64, .box ([.p 9 4, .p 9 5, .p 9 6]))] }
def K57x0x51050bbw0 (L : List Lf) (p : Int) : Ex × St := (.normal, mg (ofSh sh57x0x51050bb L) [0, 3, 5, 6, 60, 61, 62] [] [0, 1, 2, 3, 7, 9, 64] [(9, .box (rL L 18 6 ([.i .i64 p])))])
def A57x0x51050bb (L : List Lf) : List (Bool × (Ex × St)) := bnd (F57x0x51050bb N (li L 1) (lb L 4) (fun p => p)) fun q => [(true, K57x0x51050bbw0 L q)]
theorem raw57x0x51050bb (L : List Lf) : pc Tryz.prog (T56x0 N) ((h57x0s2 N).no 51050).h 4 100 57 51050 sh57x0x51050bb L [62, 61, 60, 3, 0, 5, 6] [64, 9, 7, 3, 2, 1, 0] = F57x0x51050bb N (li L 1) (lb L 4) (fun p => some (K57x0x51050bbw0 L p)) := by kernel_rfl
def h57x0s3 : Sg Tryz.prog 4 57 :=
 (h57x0s2 N).add (((h57x0s2 N).no 51050).cut (A57x0x51050bb N) progOk (T56x0_ok N) fun L x hx => (raw57x0x51050bb N L).trans ((tot57x0x51050bb N ..).trans (alt0 _ _ hx))) 51050
def F57x0 (v0 v1 : Int) (v3 : LD) (v6 : Int) (v8 v10 v12 : LD) (k0 : Bool × LD → Option R) (k1 : Bool × LD → Option R) (k2 : Bool × LD → Option R) (k3 : Unit → Option R) : Option R :=
 bif (v0 == 20) then
  bnd (G56x0 N v3 0 1) fun y0 =>
  bif y0.isSome then
   bnd (bif (decide (v1 ≥ 0)) then (y0.getD default).2 else false) fun y1 =>
   bnd (G56x0 N v3 1 1) fun y2 =>
   bif y2.isSome then
    bnd (G56x0 N v3 2 1) fun y3 =>
    bif y3.isSome then
     bnd (bif (bif y1 then (y2.getD default).2 else false) then (y3.getD default).2 else false) fun y4 =>
     bnd (G56x0 N v3 3 0) fun y5 =>
     bif y5.isSome then
      bnd (V57x0x51050 N (y5.getD default).1 (y5.getD default).2) fun y6 =>
      bnd (G56x0 N v3 4 0) fun y7 =>
      bif y7.isSome then
       bnd (V57x0x51050b N (y7.getD default).1 (y7.getD default).2) fun y8 =>
       bnd (G56x0 N v3 5 0) fun y9 =>
       bif y9.isSome then
        bnd (V57x0x51050bb N (y9.getD default).1 (y9.getD default).2) fun y10 =>
        bif (decide ((v8.length + 1) * 56 ≤ room) && decide ((v8.length + 1) ≤ strMax)) then
         bnd ((v8 ++ [(.a [(.i (IntKind.wrap .i64 (v1 - v6))), (.i (y0.getD default).1), (.i (y2.getD default).1), (.i (y3.getD default).1), (.i y6), (.i y8), (.i y10)])]) : List D) fun y11 =>
         k0 (y4, y11)
        else
         none
       else
        none
      else
       none
     else
      none
    else
     none
   else
    none
  else
   none
 else
  bif (v0 == 19) then
   bnd (G56x0 N v3 1 0) fun y12 =>
   bif y12.isSome then
    bnd (G55x0 N v3 2) fun y13 =>
    bif y13.isSome then
     bif (decide ((v10.length + 1) * 32 ≤ room) && decide ((v10.length + 1) ≤ strMax)) then
      bnd ((v10 ++ [(.a [(.i (IntKind.wrap .i64 (v1 - v6))), (.i (IntKind.wrap .i64 ((y12.getD default).1 - v6))), (.s (y13.getD default))])]) : List D) fun y14 =>
      bnd (bif (y12.getD default).2 then (decide (v1 ≥ 0)) else false) fun y15 =>
      k1 (y15, y14)
     else
      none
    else
     none
   else
    none
  else
   bif (v0 == 30) then
    bnd (G55x0 N v3 1) fun y16 =>
    bif y16.isSome then
     bif (decide ((v12.length + 1) * 16 ≤ room) && decide ((v12.length + 1) ≤ strMax)) then
      k2 ((!((y16.getD default) == ([] : List UInt8))), (v12 ++ [(.s (y16.getD default))]))
     else
      none
    else
     none
   else
    k3 ()
def G57x0 (v0 v1 : Int) (v3 : LD) (v6 : Int) (v8 v10 v12 : LD) : Option (Sum (Bool × LD) (Sum (Bool × LD) (Sum (Bool × LD) (Unit)))) := F57x0 N v0 v1 v3 v6 v8 v10 v12 (fun p => some (.inl p)) (fun p => some (.inr (.inl p))) (fun p => some (.inr (.inr (.inl p)))) (fun p => some (.inr (.inr (.inr p))))
theorem bind57x0 (v0 v1 : Int) (v3 : LD) (v6 : Int) (v8 v10 v12 : LD) (k0 : Bool × LD → Option R) (k1 : Bool × LD → Option R) (k2 : Bool × LD → Option R) (k3 : Unit → Option R) : F57x0 N v0 v1 v3 v6 v8 v10 v12 k0 k1 k2 k3 = (G57x0 N v0 v1 v3 v6 v8 v10 v12).bind (sumE k0 (sumE k1 (sumE k2 k3))) := by
 unfold G57x0 F57x0
 repeat' (first | with_reducible apply cond_b | (with_reducible apply bnd_b; intro _) | rfl)
def J57x0 (L : List Lf) (k0 : Bool × LD → Option R) (k1 : Bool × LD → Option R) (k2 : Bool × LD → Option R) (k3 : Unit → Option R) : Option R := F57x0 N (li L 0) (li L 1) (ll L 3) (li L 6) (ll L 8) (ll L 10) (ll L 12) k0 k1 k2 k3
def sh57x0 : Sh := { tmps := [(0, .c (.p 0 0)), (1, .g ([.i .i64, .i .i64, .sl 185]))], mem := [(0, .box (.s :: [.i .i64, .i .i64, .o 1, .o 2, .o 3])), (1, .row 69 true), (2, .row 130 true), (3, .row 9 true)] }
def K57x0w0 (L : List Lf) (p : Bool × LD) : Res := ([.c (.b p.1)], mgA (ofSh sh57x0 L).mem [(0, .box [.s (ls L 4), .i .i64 (li L 5), .i .i64 (li L 6), .o 92, .o 2, .o 3]), (92, .row 69 true false p.2)] [0, 2, 3, 92])
def K57x0w1 (L : List Lf) (p : Bool × LD) : Res := ([.c (.b p.1)], mgA (ofSh sh57x0 L).mem [(0, .box [.s (ls L 4), .i .i64 (li L 5), .i .i64 (li L 6), .o 1, .o 125, .o 3]), (125, .row 130 true false p.2)] [0, 1, 3, 125])
def K57x0w2 (L : List Lf) (p : Bool × LD) : Res := ([.c (.b p.1)], mgA (ofSh sh57x0 L).mem [(0, .box [.s (ls L 4), .i .i64 (li L 5), .i .i64 (li L 6), .o 1, .o 2, .o 145]), (145, .row 9 true false p.2)] [0, 1, 2, 145])
def A57x0 (L : List Lf) : List (Bool × Res) := bnd (J57x0 N L (fun p => some (.inl p)) (fun p => some (.inr (.inl p))) (fun p => some (.inr (.inr (.inl p)))) (fun p => some (.inr (.inr (.inr p))))) fun q => [((inlB q), K57x0w0 L (inlV q)), ((inlB (inrQ q)), K57x0w1 L (inlV (inrQ q))), ((inlB (inrQ (inrQ q))), K57x0w2 L (inlV (inrQ (inrQ q)))), ((inrQ (inrQ (inrQ q))).isSome, ([.c (.b true)], mgA (ofSh sh57x0 L).mem [] [0, 1, 2, 3]))]
theorem raw57x0 (L : List Lf) : bd Tryz.prog (T56x0 N) (h57x0s3 N).h 57 sh57x0 L = J57x0 N L (fun p => some (K57x0w0 L p)) (fun p => some (K57x0w1 L p)) (fun p => some (K57x0w2 L p)) (fun _ => some ([.c (.b true)], mgA (ofSh sh57x0 L).mem [] [0, 1, 2, 3])) := by kernel_rfl
theorem ok57x0 : FnOk Tryz.prog 57 sh57x0 (A57x0 N) :=
 (h57x0s3 N).fn progOk (T56x0_ok N) fun L x hx => ((raw57x0 N L).trans ((bind57x0 N ..).trans ((altS (altS (altS alt1))) x hx)))
def T57x0 : Oracle := ext 57 (spSh sh57x0 (A57x0 N)) (T56x0 N)
theorem T57x0_ok : OracleOk Tryz.prog (T57x0 N) := FnOk.to (ok57x0 N) (T56x0_ok N)
def rg166x0 : List (Nat × List Nat) := [(0, [0]), (1, [0])]
def hd166x0 : Hints := []
def h166x0s0 (N : Nat) : Sg Tryz.prog 0 166 := .start hd166x0 rg166x0
def F166x0 (N : Nat) (v0 : Int) (k0 : Bool → R) : R :=
 k0 (bif (decide (v0 ≥ 48)) then (decide (v0 ≤ 57)) else false)
def V166x0 (v0 : Int) : Bool := F166x0 N v0 (fun p => p)
theorem tot166x0 (v0 : Int) (k0 : Bool → R) : F166x0 N v0 k0 = k0 (V166x0 N v0) := by
 unfold V166x0 F166x0
 repeat' (first | rfl | apply cond_k | (apply bnd_k; intro _))
def sh166x0 : Sh := { tmps := [(0, .c (.i .u8))], mem := [] }
def A166x0 (L : List Lf) : List (Bool × Res) := bnd (F166x0 N (li L 0) (fun p => p)) fun q => [(true, ([.c (.b q)], []))]
theorem raw166x0 (L : List Lf) : bd Tryz.prog (T57x0 N) (h166x0s0 N).h 166 sh166x0 L = F166x0 N (li L 0) (fun p => some ([.c (.b p)], [])) := by kernel_rfl
theorem ok166x0 : FnOk Tryz.prog 166 sh166x0 (A166x0 N) :=
 (h166x0s0 N).fn progOk (T57x0_ok N) fun L x hx => ((raw166x0 N L).trans ((tot166x0 N ..).trans (alt0 _ _ hx)))
def T166x0 : Oracle := ext 166 (spSh sh166x0 (A166x0 N)) (T57x0 N)
theorem T166x0_ok : OracleOk Tryz.prog (T166x0 N) := FnOk.to (ok166x0 N) (T57x0_ok N)
def rg122x0 : List (Nat × List Nat) := [(0, [0]), (1, [0]), (2, [8, 7, 0]), (3, [8, 0, 7]), (4, [0, 3, 8, 7]), (5, [4, 8, 7, 0]), (6, [5, 4, 8, 7, 0]), (7, []), (8, [8, 7, 0]), (9, [0])]
def hd122x0 : Hints := [(6, [8, 7, 0], [], []), (19, [5, 4, 8, 7, 0], [], [])]
def h122x0s0 (N : Nat) : Sg Tryz.prog 0 122 := .start hd122x0 rg122x0
def F122x0x19 (w1 : Int) (w2 : Bool) (k0 : Bool → R) : R :=
 bif (!w2) then
  bnd (V166x0 N w1) fun y0 =>
  bnd (bif (bif (!y0) then (w1 != 45) else false) then (w1 != 95) else false) fun y1 =>
  k0 (bif y1 then (w1 != 46) else false)
 else
  k0 false
def V122x0x19 (w1 : Int) (w2 : Bool) : Bool := F122x0x19 N w1 w2 (fun p => p)
theorem tot122x0x19 (w1 : Int) (w2 : Bool) (k0 : Bool → R) : F122x0x19 N w1 w2 k0 = k0 (V122x0x19 N w1 w2) := by
 unfold V122x0x19 F122x0x19
 repeat' (first | rfl | apply cond_k | (apply bnd_k; intro _))
def sh122x0x19 : Sh := { tmps := [(0, .c (.s)), (4, .c (.i .u8)), (5, .c (.b)), (7, .c (.i .i64)), (8, .c (.i .i64))], mem := [] }
def K122x0x19w0 (L : List Lf) (p : Bool) : Ex × St := (.normal, mg (ofSh sh122x0x19 L) [0, 7, 8, 46] [(46, .c (.b p))] [] [])
def A122x0x19 (L : List Lf) : List (Bool × (Ex × St)) := bnd (F122x0x19 N (li L 1) (lb L 2) (fun p => p)) fun q => [(true, K122x0x19w0 L q)]
theorem raw122x0x19 (L : List Lf) : pc Tryz.prog (T166x0 N) (h122x0s0 N).h 0 100 122 19 sh122x0x19 L [8, 7, 0, 46] [] = F122x0x19 N (li L 1) (lb L 2) (fun p => some (K122x0x19w0 L p)) := by kernel_rfl
def h122x0s1 : Sg Tryz.prog 0 122 :=
 (h122x0s0 N).cut (A122x0x19 N) progOk (T166x0_ok N) fun L x hx => (raw122x0x19 N L).trans ((tot122x0x19 N ..).trans (alt0 _ _ hx))
def S122x0x6 (w0 : LB) (w1 : Int) (w2 : Int) (kr : Int → Option R) (k0 : Unit → Option R) (k1 : Unit → Option R) : Option R :=
 bif (decide (w2 < w1)) then
  bif (inB w2 w0.length) then
   bnd (bif (decide (((w0.getD w2.toNat 0).toNat : Int) ≥ 97)) then (decide (((w0.getD w2.toNat 0).toNat : Int) ≤ 122)) else false) fun y0 =>
   bnd (bif y0 then true else (bif (decide (((w0.getD w2.toNat 0).toNat : Int) ≥ 65)) then (decide (((w0.getD w2.toNat 0).toNat : Int) ≤ 90)) else false)) fun y1 =>
   bnd (V122x0x19 N ((w0.getD w2.toNat 0).toNat : Int) y1) fun y2 =>
   bif y2 then
    k0 ()
   else
    kr (IntKind.wrap .i64 (w2 + 1))
  else
   none
 else
  k1 ()
def L122x0x6 (N : Nat) {R : Type} (w0 : LB) (w1 : Int) : Nat → Int → (Unit → Option R) → (Unit → Option R) → Option R
 | 0, _, _, _ => none
 | m + 1, w2, k0, k1 => S122x0x6 N w0 w1 w2 (fun w2 => L122x0x6 N w0 w1 m w2 k0 k1) k0 k1
def G122x0x6 (w0 : LB) (w1 : Int) (w2 : Int) : Option (Sum (Unit) (Unit)) := L122x0x6 N (R := (Sum (Unit) (Unit))) w0 w1 N w2 (fun p => some (.inl p)) (fun p => some (.inr p))
def J122x0x6 (L x : List Lf) (kr : List Lf → Option R) (k0 : Unit → Option R) (k1 : Unit → Option R) : Option R := S122x0x6 N (ls L 0) (li L 1) (li x 0) (fun w2 => kr [.i w2]) k0 k1
theorem sb122x0x6 (L x : List Lf) (kr : List Lf → Option R) (k0 : Unit → Option R) (k1 : Unit → Option R) : J122x0x6 N L x kr k0 k1 = (J122x0x6 N L x (fun y => some (.inl y)) (fun p => some (.inr (.inl p))) (fun p => some (.inr (.inr p)))).bind (sumE kr (sumE k0 k1)) := by
 unfold J122x0x6 S122x0x6
 repeat' (first | with_reducible apply cond_b | (with_reducible apply bnd_b; intro _) | rfl)
def Q122x0x6 (L : List Lf) (m : Nat) (x : List Lf) : Option (Sum (Unit) (Unit)) := L122x0x6 N (R := (Sum (Unit) (Unit))) (ls L 0) (li L 1) m (li x 0) (fun p => some (.inl p)) (fun p => some (.inr p))
def sh122x0x6 : Sh := { tmps := [(0, .c (.s)), (7, .c (.i .i64)), (8, .c (.i .i64))], mem := [] }
def A122x0x6 (L : List Lf) : List (Bool × (Ex × St)) := bnd (Q122x0x6 N L N (pk sh122x0x6 [2] L)) fun q => [((inlB q), (.ret, ⟨[(2, .c (.b false))], []⟩)), ((inrQ q).isSome, ((.exit 0), ⟨[(0, .c (.s (ls L 0)))], []⟩))]
theorem step122x0x6 (m : Nat) (kn : St → Option (Ex × St)) (L x : List Lf) : lpB Tryz.prog (T166x0 N) (h122x0s1 N).h 0 122 6 sh122x0x6 [2] [2, 0] [] (m + 100) kn L x = J122x0x6 N L x (fun y => kn (ofSh sh122x0x6 (mx sh122x0x6 [2] L y))) (fun _ => some (.ret, ⟨[(2, .c (.b false))], []⟩)) (fun _ => some ((.exit 0), ⟨[(0, .c (.s (ls L 0)))], []⟩)) := by kernel_rfl
theorem ql122x0x6 (L : List Lf) (m : Nat) (x : List Lf) : Q122x0x6 N L (m + 1) x = J122x0x6 N L x (Q122x0x6 N L m) (fun p => some (.inl p)) (fun p => some (.inr p)) := by kernel_rfl
def h122x0s2 : Sg Tryz.prog 0 122 :=
 (h122x0s1 N).lp (A122x0x6 N) N progOk (T166x0_ok N) (fun m kn L x => (step122x0x6 N m kn L x).trans (sb122x0x6 N L x _ _ _)) (fun L m x => (ql122x0x6 N L m x).trans (sb122x0x6 N L x (Q122x0x6 N L m) (fun p => some (.inl p)) (fun p => some (.inr p)))) fun L x hx => (altS alt1) x hx
def F122x0 (v0 : LB) (k0 : Bool → Option R) : Option R :=
 bnd (G122x0x6 N v0 (v0.length : Int) 0) fun y0 =>
 bif (inlB y0) then
  k0 false
 else
  bif (inrQ y0).isSome then
   bnd (bif (decide ((v0.length : Int) ≥ 1)) then (decide ((v0.length : Int) ≤ 60)) else false) fun y1 =>
   k0 y1
  else
   none
def G122x0 (v0 : LB) : Option (Bool) := F122x0 N v0 (fun p => some p)
theorem bind122x0 (v0 : LB) (k0 : Bool → Option R) : F122x0 N v0 k0 = (G122x0 N v0).bind k0 := by
 unfold G122x0 F122x0
 repeat' (first | with_reducible apply cond_b | (with_reducible apply bnd_b; intro _) | rfl)
def sh122x0 : Sh := { tmps := [(0, .c (.s))], mem := [] }
def A122x0 (L : List Lf) : List (Bool × Res) := bnd (F122x0 N (ls L 0) (fun p => some p)) fun q => [(q.isSome, ([.c (.b (q.getD default))], []))]
theorem raw122x0 (L : List Lf) : bd Tryz.prog (T166x0 N) (h122x0s2 N).h 122 sh122x0 L = F122x0 N (ls L 0) (fun p => some ([.c (.b p)], [])) := by kernel_rfl
theorem ok122x0 : FnOk Tryz.prog 122 sh122x0 (A122x0 N) :=
 (h122x0s2 N).fn progOk (T166x0_ok N) fun L x hx => ((raw122x0 N L).trans ((bind122x0 N ..).trans (alt1 x hx)))
def T122x0 : Oracle := ext 122 (spSh sh122x0 (A122x0 N)) (T166x0 N)
theorem T122x0_ok : OracleOk Tryz.prog (T122x0 N) := FnOk.to (ok122x0 N) (T166x0_ok N)
def rg123x0 : List (Nat × List Nat) := [(0, [0]), (1, [1]), (2, [3, 1])]
def hd123x0 : Hints := [(4, [1], [1], []), (7, [3, 1], [1], [])]
def h123x0s0 (N : Nat) : Sg Tryz.prog 0 123 := .start hd123x0 rg123x0
def F123x0x4 (w1 w2 w3 : Int) (k0 : Bool → R) : R :=
 bnd (V115x0 N w1 (-100000000) 100000000) fun y0 =>
 bif y0 then
  bnd (V115x0 N w2 (-100000000) 100000000) fun y1 =>
  bif y1 then
   bnd (V115x0 N w3 (-100000) 100000) fun y2 =>
   k0 y2
  else
   k0 false
 else
  k0 false
def V123x0x4 (w1 w2 w3 : Int) : Bool := F123x0x4 N w1 w2 w3 (fun p => p)
theorem tot123x0x4 (w1 w2 w3 : Int) (k0 : Bool → R) : F123x0x4 N w1 w2 w3 k0 = k0 (V123x0x4 N w1 w2 w3) := by
 unfold V123x0x4 F123x0x4
 repeat' (first | rfl | apply cond_k | (apply bnd_k; intro _))
def sh123x0x4 : Sh := { tmps := [(1, .c (.p 1 0))], mem := [(1, .box (rI 7 ([])))] }
def K123x0x4w0 (L : List Lf) (p : Bool) : Ex × St := (.normal, mg (ofSh sh123x0x4 L) [1, 3] [(3, .c (.b p))] [1] [])
def A123x0x4 (L : List Lf) : List (Bool × (Ex × St)) := bnd (F123x0x4 N (li L 1) (li L 2) (li L 3) (fun p => p)) fun q => [(true, K123x0x4w0 L q)]
theorem raw123x0x4 (L : List Lf) : pc Tryz.prog (T122x0 N) (h123x0s0 N).h 0 100 123 4 sh123x0x4 L [3, 1] [1] = F123x0x4 N (li L 1) (li L 2) (li L 3) (fun p => some (K123x0x4w0 L p)) := by kernel_rfl
def h123x0s1 : Sg Tryz.prog 0 123 :=
 (h123x0s0 N).cut (A123x0x4 N) progOk (T122x0_ok N) fun L x hx => (raw123x0x4 N L).trans ((tot123x0x4 N ..).trans (alt0 _ _ hx))
def F123x0x7 (w0 : Bool) (w5 w6 w7 : Int) (k0 : Bool → R) : R :=
 bif w0 then
  bnd (V115x0 N w5 (-1) 300) fun y0 =>
  bif y0 then
   bnd (V115x0 N w6 (-1) 3000) fun y1 =>
   bif y1 then
    bnd (V115x0 N w7 (-1) 300) fun y2 =>
    k0 y2
   else
    k0 false
  else
   k0 false
 else
  k0 false
def V123x0x7 (w0 : Bool) (w5 w6 w7 : Int) : Bool := F123x0x7 N w0 w5 w6 w7 (fun p => p)
theorem tot123x0x7 (w0 : Bool) (w5 w6 w7 : Int) (k0 : Bool → R) : F123x0x7 N w0 w5 w6 w7 k0 = k0 (V123x0x7 N w0 w5 w6 w7) := by
 unfold V123x0x7 F123x0x7
 repeat' (first | rfl | apply cond_k | (apply bnd_k; intro _))
def J123x0x7 (L : List Lf) (k0 : Bool → R) : R := F123x0x7 N (lb L 0) (li L 5) (li L 6) (li L 7) k0
def sh123x0x7 : Sh := { tmps := [(1, .c (.p 1 0)), (3, .c (.b))], mem := [(1, .box (rI 7 ([])))] }
def A123x0x7 (L : List Lf) : List (Bool × (Ex × St)) := bnd (J123x0x7 N L (fun p => p)) fun q => [(true, (.normal, ⟨[(2, .c (.b q))], []⟩))]
theorem raw123x0x7 (L : List Lf) : pc Tryz.prog (T122x0 N) (h123x0s1 N).h 0 100 123 7 sh123x0x7 L [2] [] = J123x0x7 N L (fun p => some (.normal, ⟨[(2, .c (.b p))], []⟩)) := by kernel_rfl
def h123x0s2 : Sg Tryz.prog 0 123 :=
 (h123x0s1 N).cut (A123x0x7 N) progOk (T122x0_ok N) fun L x hx => (raw123x0x7 N L).trans ((tot123x0x7 N ..).trans (alt0 _ _ hx))
def F123x0 (v1 v2 v3 v4 v5 v6 : Int) (k0 : Bool → R) : R :=
 bnd (V123x0x4 N v1 v2 v3) fun y0 =>
 bnd (V123x0x7 N y0 v4 v5 v6) fun y1 =>
 k0 y1
def V123x0 (v1 v2 v3 v4 v5 v6 : Int) : Bool := F123x0 N v1 v2 v3 v4 v5 v6 (fun p => p)
theorem tot123x0 (v1 v2 v3 v4 v5 v6 : Int) (k0 : Bool → R) : F123x0 N v1 v2 v3 v4 v5 v6 k0 = k0 (V123x0 N v1 v2 v3 v4 v5 v6) := by
 unfold V123x0 F123x0
 repeat' (first | rfl | apply cond_k | (apply bnd_k; intro _))
def J123x0 (L : List Lf) (k0 : Bool → R) : R := F123x0 N (li L 1) (li L 2) (li L 3) (li L 4) (li L 5) (li L 6) k0
def sh123x0 : Sh := { tmps := [(0, .g (rI 7 ([])))], mem := [] }
def A123x0 (L : List Lf) : List (Bool × Res) := bnd (J123x0 N L (fun p => p)) fun q => [(true, ([.c (.b q)], []))]
theorem raw123x0 (L : List Lf) : bd Tryz.prog (T122x0 N) (h123x0s2 N).h 123 sh123x0 L = J123x0 N L (fun p => some ([.c (.b p)], [])) := by kernel_rfl
theorem ok123x0 : FnOk Tryz.prog 123 sh123x0 (A123x0 N) :=
 (h123x0s2 N).fn progOk (T122x0_ok N) fun L x hx => ((raw123x0 N L).trans ((tot123x0 N ..).trans (alt0 _ _ hx)))
def T123x0 : Oracle := ext 123 (spSh sh123x0 (A123x0 N)) (T122x0 N)
theorem T123x0_ok : OracleOk Tryz.prog (T123x0 N) := FnOk.to (ok123x0 N) (T122x0_ok N)
def rg37x0 : List (Nat × List Nat) := [(0, [0]), (1, [1]), (2, [3, 1]), (3, [1, 3]), (4, [])]
def hd37x0 : Hints := []
def h37x0s0 (N : Nat) : Sg Tryz.prog 0 37 := .start hd37x0 rg37x0
def F37x0 (N : Nat) (v4 : LD) (k0 : Int → Option R) : Option R :=
 bif (decide ((v4.length : Int) > 0)) then
  bif (inB (IntKind.wrap .i64 ((v4.length : Int) - 1)) v4.length) then
   bnd ((v4.getD (IntKind.wrap .i64 ((v4.length : Int) - 1)).toNat (.i 0)) : D) fun y0 =>
   k0 (y0.cell 0).toI
  else
   none
 else
  k0 0
def G37x0 (v4 : LD) : Option (Int) := F37x0 N v4 (fun p => some p)
theorem bind37x0 (v4 : LD) (k0 : Int → Option R) : F37x0 N v4 k0 = (G37x0 N v4).bind k0 := by
 unfold G37x0 F37x0
 repeat' (first | with_reducible apply cond_b | (with_reducible apply bnd_b; intro _) | rfl)
def sh37x0 : Sh := { tmps := [(0, .g (.s :: [.i .i64, .i .i64, .sl 69, .sl 130, .sl 9]))], mem := [] }
def A37x0 (L : List Lf) : List (Bool × Res) := bnd (F37x0 N (ll L 4) (fun p => some p)) fun q => [(q.isSome, ([.c (.i .i64 (q.getD default))], []))]
theorem raw37x0 (L : List Lf) : bd Tryz.prog (T123x0 N) (h37x0s0 N).h 37 sh37x0 L = F37x0 N (ll L 4) (fun p => some ([.c (.i .i64 p)], [])) := by kernel_rfl
theorem ok37x0 : FnOk Tryz.prog 37 sh37x0 (A37x0 N) :=
 (h37x0s0 N).fn progOk (T123x0_ok N) fun L x hx => ((raw37x0 N L).trans ((bind37x0 N ..).trans (alt1 x hx)))
def T37x0 : Oracle := ext 37 (spSh sh37x0 (A37x0 N)) (T123x0 N)
theorem T37x0_ok : OracleOk Tryz.prog (T37x0 N) := FnOk.to (ok37x0 N) (T123x0_ok N)
def rg124x0 : List (Nat × List Nat) := [(0, [0]), (1, [0]), (2, [6, 5, 0]), (3, [6, 0, 5]), (4, [0, 3, 6, 5]), (5, []), (6, [6, 5, 0]), (7, [0])]
def hd124x0 : Hints := [(6, [6, 5, 0], [], [])]
def h124x0s0 (N : Nat) : Sg Tryz.prog 0 124 := .start hd124x0 rg124x0
def S124x0x6 (w0 : LB) (w1 : Int) (w2 : Int) (kr : Int → Option R) (k0 : Unit → Option R) (k1 : Unit → Option R) : Option R :=
 bif (decide (w2 < w1)) then
  bif (inB w2 w0.length) then
   bnd (V115x0 N (IntKind.wrap .i64 ((w0.getD w2.toNat 0).toNat : Int)) 32 126) fun y0 =>
   bif (!y0) then
    k0 ()
   else
    kr (IntKind.wrap .i64 (w2 + 1))
  else
   none
 else
  k1 ()
def L124x0x6 (N : Nat) {R : Type} (w0 : LB) (w1 : Int) : Nat → Int → (Unit → Option R) → (Unit → Option R) → Option R
 | 0, _, _, _ => none
 | m + 1, w2, k0, k1 => S124x0x6 N w0 w1 w2 (fun w2 => L124x0x6 N w0 w1 m w2 k0 k1) k0 k1
def G124x0x6 (w0 : LB) (w1 : Int) (w2 : Int) : Option (Sum (Unit) (Unit)) := L124x0x6 N (R := (Sum (Unit) (Unit))) w0 w1 N w2 (fun p => some (.inl p)) (fun p => some (.inr p))
def J124x0x6 (L x : List Lf) (kr : List Lf → Option R) (k0 : Unit → Option R) (k1 : Unit → Option R) : Option R := S124x0x6 N (ls L 0) (li L 1) (li x 0) (fun w2 => kr [.i w2]) k0 k1
theorem sb124x0x6 (L x : List Lf) (kr : List Lf → Option R) (k0 : Unit → Option R) (k1 : Unit → Option R) : J124x0x6 N L x kr k0 k1 = (J124x0x6 N L x (fun y => some (.inl y)) (fun p => some (.inr (.inl p))) (fun p => some (.inr (.inr p)))).bind (sumE kr (sumE k0 k1)) := by
 unfold J124x0x6 S124x0x6
 repeat' (first | with_reducible apply cond_b | (with_reducible apply bnd_b; intro _) | rfl)
def Q124x0x6 (L : List Lf) (m : Nat) (x : List Lf) : Option (Sum (Unit) (Unit)) := L124x0x6 N (R := (Sum (Unit) (Unit))) (ls L 0) (li L 1) m (li x 0) (fun p => some (.inl p)) (fun p => some (.inr p))
def sh124x0x6 : Sh := { tmps := [(0, .c (.s)), (5, .c (.i .i64)), (6, .c (.i .i64))], mem := [] }
def A124x0x6 (L : List Lf) : List (Bool × (Ex × St)) := bnd (Q124x0x6 N L N (pk sh124x0x6 [2] L)) fun q => [((inlB q), (.ret, ⟨[(2, .c (.b false))], []⟩)), ((inrQ q).isSome, ((.exit 0), ⟨[(0, .c (.s (ls L 0)))], []⟩))]
theorem step124x0x6 (m : Nat) (kn : St → Option (Ex × St)) (L x : List Lf) : lpB Tryz.prog (T37x0 N) (h124x0s0 N).h 0 124 6 sh124x0x6 [2] [2, 0] [] (m + 100) kn L x = J124x0x6 N L x (fun y => kn (ofSh sh124x0x6 (mx sh124x0x6 [2] L y))) (fun _ => some (.ret, ⟨[(2, .c (.b false))], []⟩)) (fun _ => some ((.exit 0), ⟨[(0, .c (.s (ls L 0)))], []⟩)) := by kernel_rfl
theorem ql124x0x6 (L : List Lf) (m : Nat) (x : List Lf) : Q124x0x6 N L (m + 1) x = J124x0x6 N L x (Q124x0x6 N L m) (fun p => some (.inl p)) (fun p => some (.inr p)) := by kernel_rfl
def h124x0s1 : Sg Tryz.prog 0 124 :=
 (h124x0s0 N).lp (A124x0x6 N) N progOk (T37x0_ok N) (fun m kn L x => (step124x0x6 N m kn L x).trans (sb124x0x6 N L x _ _ _)) (fun L m x => (ql124x0x6 N L m x).trans (sb124x0x6 N L x (Q124x0x6 N L m) (fun p => some (.inl p)) (fun p => some (.inr p)))) fun L x hx => (altS alt1) x hx
def F124x0 (v0 : LB) (k0 : Bool → Option R) : Option R :=
 bnd (G124x0x6 N v0 (v0.length : Int) 0) fun y0 =>
 bif (inlB y0) then
  k0 false
 else
  bif (inrQ y0).isSome then
   k0 (decide ((v0.length : Int) ≤ 60))
  else
   none
def G124x0 (v0 : LB) : Option (Bool) := F124x0 N v0 (fun p => some p)
theorem bind124x0 (v0 : LB) (k0 : Bool → Option R) : F124x0 N v0 k0 = (G124x0 N v0).bind k0 := by
 unfold G124x0 F124x0
 repeat' (first | with_reducible apply cond_b | (with_reducible apply bnd_b; intro _) | rfl)
def sh124x0 : Sh := { tmps := [(0, .c (.s))], mem := [] }
def A124x0 (L : List Lf) : List (Bool × Res) := bnd (F124x0 N (ls L 0) (fun p => some p)) fun q => [(q.isSome, ([.c (.b (q.getD default))], []))]
theorem raw124x0 (L : List Lf) : bd Tryz.prog (T37x0 N) (h124x0s1 N).h 124 sh124x0 L = F124x0 N (ls L 0) (fun p => some ([.c (.b p)], [])) := by kernel_rfl
theorem ok124x0 : FnOk Tryz.prog 124 sh124x0 (A124x0 N) :=
 (h124x0s1 N).fn progOk (T37x0_ok N) fun L x hx => ((raw124x0 N L).trans ((bind124x0 N ..).trans (alt1 x hx)))
def T124x0 : Oracle := ext 124 (spSh sh124x0 (A124x0 N)) (T37x0 N)
theorem T124x0_ok : OracleOk Tryz.prog (T124x0 N) := FnOk.to (ok124x0 N) (T37x0_ok N)
def rg58x0 : List (Nat × List Nat) := [(0, [0]), (1, [1]), (3, [1]), (5, [1]), (7, [1]), (8, []), (6, []), (4, []), (2, []), (9, [1]), (10, [45, 44, 43, 1]), (11, [45, 43, 1, 44]), (12, [3, 4, 1, 45, 44, 43]), (13, [3, 4, 1, 45, 44, 43]), (15, [4, 1, 45, 44, 43]), (16, []), (14, []), (17, [45, 44, 43, 1]), (18, [1]), (19, [1, 5]), (20, [95, 94, 93, 5, 1]), (21, [95, 93, 5, 1, 94]), (22, [7, 5, 6, 1, 95, 94, 93]), (24, [6, 7, 1, 95, 94, 93, 5]), (26, [7, 95, 94, 93, 5, 1]), (27, []), (25, []), (23, []), (28, [95, 94, 93, 5, 1]), (29, [1]), (30, [141, 140, 139, 1]), (31, [141, 139, 1, 140]), (32, [9, 8, 1, 141, 140, 139]), (34, [8, 9, 1, 141, 140, 139]), (35, []), (33, []), (36, [141, 140, 139, 1]), (37, [])]
def hd58x0 : Hints := [(30, [45, 44, 43, 1], [1], []), (40, [3, 4, 1, 45, 44, 43], [4, 1], []), (39002, [4, 1, 45, 44, 43, 50, 3], [4, 1], []), (46, [4, 1, 45, 44, 43], [4, 1], []), (60, [95, 94, 93, 5, 1], [1], []), (73, [6, 7, 1, 95, 94, 93, 5], [7, 1], []), (90, [141, 140, 139, 1], [1], [])]
def h58x0s0 (N : Nat) : Sg Tryz.prog 0 58 := .start hd58x0 rg58x0
def F58x0x40 (N : Nat) (w0 : Int) (w9 : LD) (w14 : Int) (k0 : Bool → Option R) : Option R :=
 bif (decide (w0 > 0)) then
  bif (inB (IntKind.wrap .i64 (w0 - 1)) w9.length) then
   bnd ((w9.getD (IntKind.wrap .i64 (w0 - 1)).toNat (.i 0)).cell 0).toI fun y0 =>
   k0 (decide (w14 ≤ y0))
  else
   none
 else
  k0 false
def G58x0x40 (w0 : Int) (w9 : LD) (w14 : Int) : Option (Bool) := F58x0x40 N w0 w9 w14 (fun p => some p)
theorem bind58x0x40 (w0 : Int) (w9 : LD) (w14 : Int) (k0 : Bool → Option R) : F58x0x40 N w0 w9 w14 k0 = (G58x0x40 N w0 w9 w14).bind k0 := by
 unfold G58x0x40 F58x0x40
 repeat' (first | with_reducible apply cond_b | (with_reducible apply bnd_b; intro _) | rfl)
def sh58x0x40 : Sh := { tmps := [(1, .c (.p 1 0)), (3, .c (.i .i64)), (4, .c (.p 4 0)), (43, .c (.sl 69)), (44, .c (.i .i64)), (45, .c (.i .i64))], mem := [(1, .box (.s :: [.i .i64, .i .i64, .sl 69, .sl 130, .sl 9])), (4, .box (rI 7 ([])))] }
def K58x0x40w0 (L : List Lf) (p : Bool) : Ex × St := (.normal, mg (ofSh sh58x0x40 L) [1, 4, 43, 44, 45, 50] [(50, .c (.b p))] [1, 4] [])
def A58x0x40 (L : List Lf) : List (Bool × (Ex × St)) := bnd (F58x0x40 N (li L 0) (ll L 9) (li L 14) (fun p => some p)) fun q => [(q.isSome, K58x0x40w0 L (q.getD default))]
theorem raw58x0x40 (L : List Lf) : pc Tryz.prog (T124x0 N) (h58x0s0 N).h 0 100 58 40 sh58x0x40 L [4, 1, 45, 44, 43, 50] [4, 1] = F58x0x40 N (li L 0) (ll L 9) (li L 14) (fun p => some (K58x0x40w0 L p)) := by kernel_rfl
def h58x0s1 : Sg Tryz.prog 0 58 :=
 (h58x0s0 N).cut (A58x0x40 N) progOk (T124x0_ok N) fun L x hx => (raw58x0x40 N L).trans ((bind58x0x40 N ..).trans (alt1 x hx))
def F58x0x39002 (w0 : Int) (w5 : Bool) (w10 : LD) (w15 : Int) (k0 : Bool → Option R) : Option R :=
 bif w5 then
  k0 true
 else
  bnd (G58x0x40 N w0 w10 w15) fun y0 =>
  bif y0.isSome then
   k0 (y0.getD default)
  else
   none
def G58x0x39002 (w0 : Int) (w5 : Bool) (w10 : LD) (w15 : Int) : Option (Bool) := F58x0x39002 N w0 w5 w10 w15 (fun p => some p)
theorem bind58x0x39002 (w0 : Int) (w5 : Bool) (w10 : LD) (w15 : Int) (k0 : Bool → Option R) : F58x0x39002 N w0 w5 w10 w15 k0 = (G58x0x39002 N w0 w5 w10 w15).bind k0 := by
 unfold G58x0x39002 F58x0x39002
 repeat' (first | with_reducible apply cond_b | (with_reducible apply bnd_b; intro _) | rfl)
def J58x0x39002 (L : List Lf) (k0 : Bool → Option R) : Option R := F58x0x39002 N (li L 0) (lb L 5) (ll L 10) (li L 15) k0
def sh58x0x39002 : Sh := { tmps := [(1, .c (.p 1 0)), (3, .c (.i .i64)), (4, .c (.p 4 0)), (43, .c (.sl 69)), (44, .c (.i .i64)), (45, .c (.i .i64)), (50, .c (.b))], mem := [(1, .box (.s :: [.i .i64, .i .i64, .sl 69, .sl 130, .sl 9])), (4, .box (rI 7 ([])))] }
def K58x0x39002w0 (L : List Lf) (p : Bool) : Ex × St := (.normal, mg (ofSh sh58x0x39002 L) [1, 4, 43, 44, 45, 50] [(50, .c (.b p))] [1, 4] [])
def A58x0x39002 (L : List Lf) : List (Bool × (Ex × St)) := bnd (J58x0x39002 N L (fun p => some p)) fun q => [(q.isSome, K58x0x39002w0 L (q.getD default))]
theorem raw58x0x39002 (L : List Lf) : pc Tryz.prog (T124x0 N) (h58x0s1 N).h 0 100 58 39002 sh58x0x39002 L [4, 1, 45, 44, 43, 50] [4, 1] = J58x0x39002 N L (fun p => some (K58x0x39002w0 L p)) := by kernel_rfl
def h58x0s2 : Sg Tryz.prog 0 58 :=
 (h58x0s1 N).cut (A58x0x39002 N) progOk (T124x0_ok N) fun L x hx => (raw58x0x39002 N L).trans ((bind58x0x39002 N ..).trans (alt1 x hx))
def F58x0x46 (w6 w13 w14 w15 w16 w17 w18 w19 : Int) (k0 : Bool → R) : R :=
 bnd (bif (decide (w13 > 1000000)) then true else (decide ((IntKind.wrap .i64 (w6 + w13)) > 86399999999))) fun y0 =>
 bif y0 then
  k0 true
 else
  bnd (V123x0 N w14 w15 w16 w17 w18 w19) fun y1 =>
  k0 (!y1)
def V58x0x46 (w6 w13 w14 w15 w16 w17 w18 w19 : Int) : Bool := F58x0x46 N w6 w13 w14 w15 w16 w17 w18 w19 (fun p => p)
theorem tot58x0x46 (w6 w13 w14 w15 w16 w17 w18 w19 : Int) (k0 : Bool → R) : F58x0x46 N w6 w13 w14 w15 w16 w17 w18 w19 k0 = k0 (V58x0x46 N w6 w13 w14 w15 w16 w17 w18 w19) := by
 unfold V58x0x46 F58x0x46
 repeat' (first | rfl | apply cond_k | (apply bnd_k; intro _))
def J58x0x46 (L : List Lf) (k0 : Bool → R) : R := F58x0x46 N (li L 6) (li L 13) (li L 14) (li L 15) (li L 16) (li L 17) (li L 18) (li L 19) k0
def sh58x0x46 : Sh := { tmps := [(1, .c (.p 1 0)), (4, .c (.p 4 0)), (43, .c (.sl 69)), (44, .c (.i .i64)), (45, .c (.i .i64))], mem := [(1, .box (.s :: [.i .i64, .i .i64, .sl 69, .sl 130, .sl 9])), (4, .box (rI 7 ([])))] }
def K58x0x46w0 (L : List Lf) (p : Bool) : Ex × St := (.normal, mg (ofSh sh58x0x46 L) [1, 43, 44, 45, 72] [(72, .c (.b p))] [1] [])
def A58x0x46 (L : List Lf) : List (Bool × (Ex × St)) := bnd (J58x0x46 N L (fun p => p)) fun q => [(true, K58x0x46w0 L q)]
theorem raw58x0x46 (L : List Lf) : pc Tryz.prog (T124x0 N) (h58x0s2 N).h 0 100 58 46 sh58x0x46 L [45, 44, 43, 1, 72] [1] = J58x0x46 N L (fun p => some (K58x0x46w0 L p)) := by kernel_rfl
def h58x0s3 : Sg Tryz.prog 0 58 :=
 (h58x0s2 N).cut (A58x0x46 N) progOk (T124x0_ok N) fun L x hx => (raw58x0x46 N L).trans ((tot58x0x46 N ..).trans (alt0 _ _ hx))
def S58x0x30 (w1 : LD) (w2 w6 : Int) (w8 : LD) (w3 : Int) (kr : Int → Option R) (k0 : Int → Option R) (k1 : Unit → Option R) : Option R :=
 bif (decide (w3 < w2)) then
  bif (inB w3 w1.length) then
   bnd (bif (w3 == 0) then (((w1.getD w3.toNat (.i 0)).cell 0).toI != 0) else false) fun y0 =>
   bnd (G58x0x39002 N w3 y0 w8 ((w1.getD w3.toNat (.i 0)).cell 0).toI) fun y1 =>
   bif y1.isSome then
    bif (y1.getD default) then
     k0 10
    else
     bnd (V58x0x46 N w6 ((w1.getD w3.toNat (.i 0)).cell 0).toI ((w1.getD w3.toNat (.i 0)).cell 1).toI ((w1.getD w3.toNat (.i 0)).cell 2).toI ((w1.getD w3.toNat (.i 0)).cell 3).toI ((w1.getD w3.toNat (.i 0)).cell 4).toI ((w1.getD w3.toNat (.i 0)).cell 5).toI ((w1.getD w3.toNat (.i 0)).cell 6).toI) fun y2 =>
     bif y2 then
      k0 9
     else
      kr (IntKind.wrap .i64 (w3 + 1))
   else
    none
  else
   none
 else
  k1 ()
def L58x0x30 (N : Nat) {R : Type} (w1 : LD) (w2 w6 : Int) (w8 : LD) : Nat → Int → (Int → Option R) → (Unit → Option R) → Option R
 | 0, _, _, _ => none
 | m + 1, w3, k0, k1 => S58x0x30 N w1 w2 w6 w8 w3 (fun w3 => L58x0x30 N w1 w2 w6 w8 m w3 k0 k1) k0 k1
def G58x0x30 (w1 : LD) (w2 w6 : Int) (w8 : LD) (w3 : Int) : Option (Sum (Int) (Unit)) := L58x0x30 N (R := (Sum (Int) (Unit))) w1 w2 w6 w8 N w3 (fun p => some (.inl p)) (fun p => some (.inr p))
def J58x0x30 (L x : List Lf) (kr : List Lf → Option R) (k0 : Int → Option R) (k1 : Unit → Option R) : Option R := S58x0x30 N (ll L 1) (li L 2) (li L 6) (ll L 8) (li x 0) (fun w3 => kr [.i w3]) k0 k1
theorem sb58x0x30 (L x : List Lf) (kr : List Lf → Option R) (k0 : Int → Option R) (k1 : Unit → Option R) : J58x0x30 N L x kr k0 k1 = (J58x0x30 N L x (fun y => some (.inl y)) (fun p => some (.inr (.inl p))) (fun p => some (.inr (.inr p)))).bind (sumE kr (sumE k0 k1)) := by
 unfold J58x0x30 S58x0x30
 repeat' (first | with_reducible apply cond_b | (with_reducible apply bnd_b; intro _) | rfl)
def Q58x0x30 (L : List Lf) (m : Nat) (x : List Lf) : Option (Sum (Int) (Unit)) := L58x0x30 N (R := (Sum (Int) (Unit))) (ll L 1) (li L 2) (li L 6) (ll L 8) m (li x 0) (fun p => some (.inl p)) (fun p => some (.inr p))
def sh58x0x30 : Sh := { tmps := [(1, .c (.p 1 0)), (43, .c (.sl 69)), (44, .c (.i .i64)), (45, .c (.i .i64))], mem := [(1, .box (.s :: [.i .i64, .i .i64, .sl 69, .sl 130, .sl 9]))] }
def K58x0x30w0 (L : List Lf) (p : Int) : Ex × St := (.ret, mg (ofSh sh58x0x30 L) [2] [(2, .c (.i .i64 p))] [1] [])
def A58x0x30 (L : List Lf) : List (Bool × (Ex × St)) := bnd (Q58x0x30 N L N (pk sh58x0x30 [3] L)) fun q => [((inlB q), K58x0x30w0 L (inlV q)), ((inrQ q).isSome, ((.exit 1), mg (ofSh sh58x0x30 L) [1] [] [1] []))]
theorem step58x0x30 (m : Nat) (kn : St → Option (Ex × St)) (L x : List Lf) : lpB Tryz.prog (T124x0 N) (h58x0s3 N).h 0 58 30 sh58x0x30 [3] [2, 1] [1] (m + 100) kn L x = J58x0x30 N L x (fun y => kn (ofSh sh58x0x30 (mx sh58x0x30 [3] L y))) (fun p => some (K58x0x30w0 L p)) (fun _ => some ((.exit 1), mg (ofSh sh58x0x30 L) [1] [] [1] [])) := by kernel_rfl
theorem ql58x0x30 (L : List Lf) (m : Nat) (x : List Lf) : Q58x0x30 N L (m + 1) x = J58x0x30 N L x (Q58x0x30 N L m) (fun p => some (.inl p)) (fun p => some (.inr p)) := by kernel_rfl
def h58x0s4 : Sg Tryz.prog 0 58 :=
 (h58x0s3 N).lp (A58x0x30 N) N progOk (T124x0_ok N) (fun m kn L x => (step58x0x30 N m kn L x).trans (sb58x0x30 N L x _ _ _)) (fun L m x => (ql58x0x30 N L m x).trans (sb58x0x30 N L x (Q58x0x30 N L m) (fun p => some (.inl p)) (fun p => some (.inr p)))) fun L x hx => (altS alt1) x hx
def F58x0x73 (N : Nat) (w1 : Int) (w12 : LD) (w15 : Int) (k0 : Bool → Option R) : Option R :=
 bif (decide (w1 > 0)) then
  bif (inB (IntKind.wrap .i64 (w1 - 1)) w12.length) then
   bnd ((w12.getD (IntKind.wrap .i64 (w1 - 1)).toNat (.i 0)).cell 1).toI fun y0 =>
   k0 (decide (w15 < y0))
  else
   none
 else
  k0 false
def G58x0x73 (w1 : Int) (w12 : LD) (w15 : Int) : Option (Bool) := F58x0x73 N w1 w12 w15 (fun p => some p)
theorem bind58x0x73 (w1 : Int) (w12 : LD) (w15 : Int) (k0 : Bool → Option R) : F58x0x73 N w1 w12 w15 k0 = (G58x0x73 N w1 w12 w15).bind k0 := by
 unfold G58x0x73 F58x0x73
 repeat' (first | with_reducible apply cond_b | (with_reducible apply bnd_b; intro _) | rfl)
def sh58x0x73 : Sh := { tmps := [(1, .c (.p 1 0)), (5, .c (.i .i64)), (6, .c (.i .i64)), (7, .c (.p 7 0)), (93, .c (.sl 130)), (94, .c (.i .i64)), (95, .c (.i .i64))], mem := [(1, .box (.s :: [.i .i64, .i .i64, .sl 69, .sl 130, .sl 9])), (7, .box ([.i .i64, .i .i64, .s]))] }
def K58x0x73w0 (L : List Lf) (p : Bool) : Ex × St := (.normal, mg (ofSh sh58x0x73 L) [1, 5, 7, 93, 94, 95, 117] [(117, .c (.b p))] [1, 7] [])
def A58x0x73 (L : List Lf) : List (Bool × (Ex × St)) := bnd (F58x0x73 N (li L 1) (ll L 12) (li L 15) (fun p => some p)) fun q => [(q.isSome, K58x0x73w0 L (q.getD default))]
theorem raw58x0x73 (L : List Lf) : pc Tryz.prog (T124x0 N) (h58x0s4 N).h 0 100 58 73 sh58x0x73 L [7, 95, 94, 93, 5, 1, 117] [7, 1] = F58x0x73 N (li L 1) (ll L 12) (li L 15) (fun p => some (K58x0x73w0 L p)) := by kernel_rfl
def h58x0s5 : Sg Tryz.prog 0 58 :=
 (h58x0s4 N).cut (A58x0x73 N) progOk (T124x0_ok N) fun L x hx => (raw58x0x73 N L).trans ((bind58x0x73 N ..).trans (alt1 x hx))
def S58x0x60 (w0 : Int) (w2 : LD) (w3 : Int) (w11 : LD) (w4 : Int) (kr : Int → Option R) (k0 : Int → Option R) (k1 : Unit → Option R) : Option R :=
 bif (decide (w4 < w3)) then
  bif (inB w4 w2.length) then
   bnd (bif (decide (((w2.getD w4.toNat (.i 0)).cell 0).toI < 0)) then true else (decide (((w2.getD w4.toNat (.i 0)).cell 0).toI ≥ ((w2.getD w4.toNat (.i 0)).cell 1).toI))) fun y0 =>
   bnd (bif y0 then true else (decide (((w2.getD w4.toNat (.i 0)).cell 1).toI > w0))) fun y1 =>
   bif y1 then
    k0 9
   else
    bnd (G58x0x73 N w4 w11 ((w2.getD w4.toNat (.i 0)).cell 0).toI) fun y2 =>
    bif y2.isSome then
     bif (y2.getD default) then
      k0 10
     else
      bnd (G124x0 N ((w2.getD w4.toNat (.i 0)).cell 2).toS) fun y3 =>
      bif y3.isSome then
       bif (!(y3.getD default)) then
        k0 8
       else
        kr (IntKind.wrap .i64 (w4 + 1))
      else
       none
    else
     none
  else
   none
 else
  k1 ()
def L58x0x60 (N : Nat) {R : Type} (w0 : Int) (w2 : LD) (w3 : Int) (w11 : LD) : Nat → Int → (Int → Option R) → (Unit → Option R) → Option R
 | 0, _, _, _ => none
 | m + 1, w4, k0, k1 => S58x0x60 N w0 w2 w3 w11 w4 (fun w4 => L58x0x60 N w0 w2 w3 w11 m w4 k0 k1) k0 k1
def G58x0x60 (w0 : Int) (w2 : LD) (w3 : Int) (w11 : LD) (w4 : Int) : Option (Sum (Int) (Unit)) := L58x0x60 N (R := (Sum (Int) (Unit))) w0 w2 w3 w11 N w4 (fun p => some (.inl p)) (fun p => some (.inr p))
def J58x0x60 (L x : List Lf) (kr : List Lf → Option R) (k0 : Int → Option R) (k1 : Unit → Option R) : Option R := S58x0x60 N (li L 0) (ll L 2) (li L 3) (ll L 11) (li x 0) (fun w4 => kr [.i w4]) k0 k1
theorem sb58x0x60 (L x : List Lf) (kr : List Lf → Option R) (k0 : Int → Option R) (k1 : Unit → Option R) : J58x0x60 N L x kr k0 k1 = (J58x0x60 N L x (fun y => some (.inl y)) (fun p => some (.inr (.inl p))) (fun p => some (.inr (.inr p)))).bind (sumE kr (sumE k0 k1)) := by
 unfold J58x0x60 S58x0x60
 repeat' (first | with_reducible apply cond_b | (with_reducible apply bnd_b; intro _) | rfl)
def Q58x0x60 (L : List Lf) (m : Nat) (x : List Lf) : Option (Sum (Int) (Unit)) := L58x0x60 N (R := (Sum (Int) (Unit))) (li L 0) (ll L 2) (li L 3) (ll L 11) m (li x 0) (fun p => some (.inl p)) (fun p => some (.inr p))
def sh58x0x60 : Sh := { tmps := [(1, .c (.p 1 0)), (5, .c (.i .i64)), (93, .c (.sl 130)), (94, .c (.i .i64)), (95, .c (.i .i64))], mem := [(1, .box (.s :: [.i .i64, .i .i64, .sl 69, .sl 130, .sl 9]))] }
def K58x0x60w0 (L : List Lf) (p : Int) : Ex × St := (.ret, mg (ofSh sh58x0x60 L) [2] [(2, .c (.i .i64 p))] [1] [])
def A58x0x60 (L : List Lf) : List (Bool × (Ex × St)) := bnd (Q58x0x60 N L N (pk sh58x0x60 [4] L)) fun q => [((inlB q), K58x0x60w0 L (inlV q)), ((inrQ q).isSome, ((.exit 4), mg (ofSh sh58x0x60 L) [1] [] [1] []))]
theorem step58x0x60 (m : Nat) (kn : St → Option (Ex × St)) (L x : List Lf) : lpB Tryz.prog (T124x0 N) (h58x0s5 N).h 0 58 60 sh58x0x60 [4] [2, 1] [1] (m + 100) kn L x = J58x0x60 N L x (fun y => kn (ofSh sh58x0x60 (mx sh58x0x60 [4] L y))) (fun p => some (K58x0x60w0 L p)) (fun _ => some ((.exit 4), mg (ofSh sh58x0x60 L) [1] [] [1] [])) := by kernel_rfl
theorem ql58x0x60 (L : List Lf) (m : Nat) (x : List Lf) : Q58x0x60 N L (m + 1) x = J58x0x60 N L x (Q58x0x60 N L m) (fun p => some (.inl p)) (fun p => some (.inr p)) := by kernel_rfl
def h58x0s6 : Sg Tryz.prog 0 58 :=
 (h58x0s5 N).lp (A58x0x60 N) N progOk (T124x0_ok N) (fun m kn L x => (step58x0x60 N m kn L x).trans (sb58x0x60 N L x _ _ _)) (fun L m x => (ql58x0x60 N L m x).trans (sb58x0x60 N L x (Q58x0x60 N L m) (fun p => some (.inl p)) (fun p => some (.inr p)))) fun L x hx => (altS alt1) x hx
def S58x0x90 (w1 : LD) (w2 : Int) (w12 : LD) (w3 : Int) (kr : Int → Option R) (k0 : Int → Option R) (k1 : Unit → Option R) : Option R :=
 bif (decide (w3 < w2)) then
  bif (inB w3 w1.length) then
   bnd (G122x0 N (w1.getD w3.toNat (.i 0)).toS) fun y0 =>
   bif y0.isSome then
    bif (!(y0.getD default)) then
     k0 8
    else
     bif (bif (inB (IntKind.wrap .i64 (w3 - 1)) w12.length) then true else (!((decide (w3 > 0)) == true))) then
      bnd (bif (decide (w3 > 0)) then ((Op.bytesLess (w1.getD w3.toNat (.i 0)).toS (w12.getD (IntKind.wrap .i64 (w3 - 1)).toNat (.i 0)).toS) || ((w1.getD w3.toNat (.i 0)).toS == (w12.getD (IntKind.wrap .i64 (w3 - 1)).toNat (.i 0)).toS)) else false) fun y1 =>
      bif y1 then
       k0 10
      else
       kr (IntKind.wrap .i64 (w3 + 1))
     else
      none
   else
    none
  else
   none
 else
  k1 ()
def L58x0x90 (N : Nat) {R : Type} (w1 : LD) (w2 : Int) (w12 : LD) : Nat → Int → (Int → Option R) → (Unit → Option R) → Option R
 | 0, _, _, _ => none
 | m + 1, w3, k0, k1 => S58x0x90 N w1 w2 w12 w3 (fun w3 => L58x0x90 N w1 w2 w12 m w3 k0 k1) k0 k1
def G58x0x90 (w1 : LD) (w2 : Int) (w12 : LD) (w3 : Int) : Option (Sum (Int) (Unit)) := L58x0x90 N (R := (Sum (Int) (Unit))) w1 w2 w12 N w3 (fun p => some (.inl p)) (fun p => some (.inr p))
def J58x0x90 (L x : List Lf) (kr : List Lf → Option R) (k0 : Int → Option R) (k1 : Unit → Option R) : Option R := S58x0x90 N (ll L 1) (li L 2) (ll L 12) (li x 0) (fun w3 => kr [.i w3]) k0 k1
theorem sb58x0x90 (L x : List Lf) (kr : List Lf → Option R) (k0 : Int → Option R) (k1 : Unit → Option R) : J58x0x90 N L x kr k0 k1 = (J58x0x90 N L x (fun y => some (.inl y)) (fun p => some (.inr (.inl p))) (fun p => some (.inr (.inr p)))).bind (sumE kr (sumE k0 k1)) := by
 unfold J58x0x90 S58x0x90
 repeat' (first | with_reducible apply cond_b | (with_reducible apply bnd_b; intro _) | rfl)
def Q58x0x90 (L : List Lf) (m : Nat) (x : List Lf) : Option (Sum (Int) (Unit)) := L58x0x90 N (R := (Sum (Int) (Unit))) (ll L 1) (li L 2) (ll L 12) m (li x 0) (fun p => some (.inl p)) (fun p => some (.inr p))
def sh58x0x90 : Sh := { tmps := [(1, .c (.p 1 0)), (139, .c (.sl 9)), (140, .c (.i .i64)), (141, .c (.i .i64))], mem := [(1, .box (.s :: [.i .i64, .i .i64, .sl 69, .sl 130, .sl 9]))] }
def A58x0x90 (L : List Lf) : List (Bool × (Ex × St)) := bnd (Q58x0x90 N L N (pk sh58x0x90 [3] L)) fun q => [((inlB q), (.ret, ⟨[(2, .c (.i .i64 (inlV q)))], []⟩)), ((inrQ q).isSome, ((.exit 7), ⟨[], []⟩))]
theorem step58x0x90 (m : Nat) (kn : St → Option (Ex × St)) (L x : List Lf) : lpB Tryz.prog (T124x0 N) (h58x0s6 N).h 0 58 90 sh58x0x90 [3] [2] [] (m + 100) kn L x = J58x0x90 N L x (fun y => kn (ofSh sh58x0x90 (mx sh58x0x90 [3] L y))) (fun p => some (.ret, ⟨[(2, .c (.i .i64 p))], []⟩)) (fun _ => some ((.exit 7), ⟨[], []⟩)) := by kernel_rfl
theorem ql58x0x90 (L : List Lf) (m : Nat) (x : List Lf) : Q58x0x90 N L (m + 1) x = J58x0x90 N L x (Q58x0x90 N L m) (fun p => some (.inl p)) (fun p => some (.inr p)) := by kernel_rfl
def h58x0s7 : Sg Tryz.prog 0 58 :=
 (h58x0s6 N).lp (A58x0x90 N) N progOk (T124x0_ok N) (fun m kn L x => (step58x0x90 N m kn L x).trans (sb58x0x90 N L x _ _ _)) (fun L m x => (ql58x0x90 N L m x).trans (sb58x0x90 N L x (Q58x0x90 N L m) (fun p => some (.inl p)) (fun p => some (.inr p)))) fun L x hx => (altS alt1) x hx
def F58x0 (v0 : LB) (v1 v2 : Int) (v4 v6 v8 : LD) (k0 : Int → Option R) : Option R :=
 bnd (G122x0 N v0) fun y0 =>
 bif y0.isSome then
  bif (!(y0.getD default)) then
   k0 8
  else
   bnd (V115x0 N v1 1 5) fun y1 =>
   bif (!y1) then
    k0 7
   else
    bnd (V115x0 N v2 0 86399999999) fun y2 =>
    bif (!y2) then
     k0 9
    else
     bnd (bif (decide ((v4.length : Int) > 20000)) then true else (decide ((v6.length : Int) > 200))) fun y3 =>
     bnd (bif y3 then true else (decide ((v8.length : Int) > 20))) fun y4 =>
     bif y4 then
      k0 3
     else
      bnd (G58x0x30 N v4 (v4.length : Int) v2 v4 0) fun y5 =>
      bif (inlB y5) then
       k0 (inlV y5)
      else
       bif (inrQ y5).isSome then
        bnd (G37x0 N v4) fun y6 =>
        bif y6.isSome then
         bnd (G58x0x60 N (y6.getD default) v6 (v6.length : Int) v6 0) fun y7 =>
         bif (inlB y7) then
          k0 (inlV y7)
         else
          bif (inrQ y7).isSome then
           bnd (G58x0x90 N v8 (v8.length : Int) v8 0) fun y8 =>
           bif (inlB y8) then
            k0 (inlV y8)
           else
            bif (inrQ y8).isSome then
             k0 0
            else
             none
          else
           none
        else
         none
       else
        none
 else
  none
def G58x0 (v0 : LB) (v1 v2 : Int) (v4 v6 v8 : LD) : Option (Int) := F58x0 N v0 v1 v2 v4 v6 v8 (fun p => some p)
theorem bind58x0 (v0 : LB) (v1 v2 : Int) (v4 v6 v8 : LD) (k0 : Int → Option R) : F58x0 N v0 v1 v2 v4 v6 v8 k0 = (G58x0 N v0 v1 v2 v4 v6 v8).bind k0 := by
 unfold G58x0 F58x0
 repeat' (first | with_reducible apply cond_b | (with_reducible apply bnd_b; intro _) | rfl)
def J58x0 (L : List Lf) (k0 : Int → Option R) : Option R := F58x0 N (ls L 0) (li L 1) (li L 2) (ll L 4) (ll L 6) (ll L 8) k0
def sh58x0 : Sh := { tmps := [(0, .g (.s :: [.i .i64, .i .i64, .sl 69, .sl 130, .sl 9]))], mem := [] }
def A58x0 (L : List Lf) : List (Bool × Res) := bnd (J58x0 N L (fun p => some p)) fun q => [(q.isSome, ([.c (.i .i64 (q.getD default))], []))]
theorem raw58x0 (L : List Lf) : bd Tryz.prog (T124x0 N) (h58x0s7 N).h 58 sh58x0 L = J58x0 N L (fun p => some ([.c (.i .i64 p)], [])) := by kernel_rfl
theorem ok58x0 : FnOk Tryz.prog 58 sh58x0 (A58x0 N) :=
 (h58x0s7 N).fn progOk (T124x0_ok N) fun L x hx => ((raw58x0 N L).trans ((bind58x0 N ..).trans (alt1 x hx)))
def T58x0 : Oracle := ext 58 (spSh sh58x0 (A58x0 N)) (T124x0 N)
theorem T58x0_ok : OracleOk Tryz.prog (T58x0 N) := FnOk.to (ok58x0 N) (T124x0_ok N)
def rg21x0 : List (Nat × List Nat) := [(0, [0]), (1, [1, 2]), (2, [4, 2, 1]), (3, [4, 2]), (4, [1, 2]), (5, [5, 2]), (6, [5, 6, 2]), (7, [5, 6, 2, 7]), (8, [23, 22, 21, 6, 2, 5, 7]), (9, [21, 23, 6, 2, 5, 22, 7]), (10, [9, 6, 2, 5, 23, 22, 21, 7]), (11, [9, 6, 2, 5]), (12, [9, 6, 2, 5]), (13, [23, 22, 21, 6, 2, 5, 7]), (14, [7, 6, 2, 5]), (15, [2]), (16, [5, 6, 2]), (17, [58, 57, 56, 6, 2]), (18, [56, 58, 6, 2, 57]), (19, [11, 6, 2, 58, 57, 56]), (20, [2]), (21, [58, 57, 56, 6, 2]), (22, [6, 2]), (23, [12, 2, 6]), (24, [12, 2]), (25, [6, 2])]
def hd21x0 : Hints := [(24, [23, 22, 21, 6, 2, 5, 7], [6, 2, 50006005, 50006004, 50006003], [50006005, 50006004, 50006003]), (51, [58, 57, 56, 6, 2], [50006005, 50006004, 50006003, 6, 2], [50006005, 50006004, 50006003]), (58, [11, 6, 2, 58, 57, 56], [11, 50006005, 50006004, 50006003, 6, 2], [])]
def h21x0s0 (N : Nat) : Sg Tryz.prog 0 21 := .start hd21x0 rg21x0
def S21x0x24 (w2 : Bool) (w4 : LD) (w5 : Int) (w16 : LB) (w17 w18 : Int) (w6 : Int) (kr : Int → Option R) (k0 : Ty9 → Option R) : Option R :=
 bif (decide (w6 < w5)) then
  bif (inB w6 w4.length) then
   bif (((w4.getD w6.toNat (.i 0)).cell 0).toI == 0) then
    bnd (G55x0 N ((w4.getD w6.toNat (.i 0)).cell 2).items 1) fun y0 =>
    bif y0.isSome then
     bnd (G56x0 N ((w4.getD w6.toNat (.i 0)).cell 2).items 2 0) fun y1 =>
     bif y1.isSome then
      k0 ((y1.getD default).2, (y0.getD default), (y1.getD default).1, ((w4.getD w6.toNat (.i 0)).cell 1).toI)
     else
      none
    else
     none
   else
    kr (IntKind.wrap .i64 (w6 + 1))
  else
   none
 else
  k0 (w2, w16, w17, w18)
def L21x0x24 (N : Nat) {R : Type} (w2 : Bool) (w4 : LD) (w5 : Int) (w16 : LB) (w17 w18 : Int) : Nat → Int → (Ty9 → Option R) → Option R
 | 0, _, _ => none
 | m + 1, w6, k0 => S21x0x24 N w2 w4 w5 w16 w17 w18 w6 (fun w6 => L21x0x24 N w2 w4 w5 w16 w17 w18 m w6 k0) k0
def G21x0x24 (w2 : Bool) (w4 : LD) (w5 : Int) (w16 : LB) (w17 w18 : Int) (w6 : Int) : Option (Ty9) := L21x0x24 N (R := (Ty9)) w2 w4 w5 w16 w17 w18 N w6 (fun p => some p)
def J21x0x24 (L x : List Lf) (kr : List Lf → Option R) (k0 : Ty9 → Option R) : Option R := S21x0x24 N (lb L 2) (ll L 4) (li L 5) (ls L 16) (li L 17) (li L 18) (li x 0) (fun w6 => kr [.i w6]) k0
theorem sb21x0x24 (L x : List Lf) (kr : List Lf → Option R) (k0 : Ty9 → Option R) : J21x0x24 N L x kr k0 = (J21x0x24 N L x (fun y => some (.inl y)) (fun p => some (.inr p))).bind (sumE kr k0) := by
 unfold J21x0x24 S21x0x24
 repeat' (first | with_reducible apply cond_b | (with_reducible apply bnd_b; intro _) | rfl)
def Q21x0x24 (L : List Lf) (m : Nat) (x : List Lf) : Option (Ty9) := L21x0x24 N (R := (Ty9)) (lb L 2) (ll L 4) (li L 5) (ls L 16) (li L 17) (li L 18) m (li x 0) (fun p => some p)
def sh21x0x24 : Sh := { tmps := [(2, .c (.p 2 0)), (5, .c (.sl 104)), (6, .c (.p 6 0)), (7, .c (.b)), (21, .c (.sl 104)), (22, .c (.i .i64)), (23, .c (.i .i64))], mem := [(2, .box (.s :: [.i .i64, .i .i64, .sl 69, .sl 130, .sl 9])), (6, .box (.s :: [.i .i64, .i .i64, .o 50006003, .o 50006004, .o 50006005])), (50006003, .row 69 true), (50006004, .row 130 true), (50006005, .row 9 true)] }
def K21x0x24w0 (L : List Lf) (p : Ty9) : Ex × St := ((.exit 0), mg (ofSh sh21x0x24 L) [2, 5, 6, 7] [(7, .c (.b p.1))] [2, 6, 50006003, 50006004, 50006005] [(6, .box [.s p.2.1, .i .i64 p.2.2.1, .i .i64 p.2.2.2, .o 50006003, .o 50006004, .o 50006005])])
def A21x0x24 (L : List Lf) : List (Bool × (Ex × St)) := bnd (Q21x0x24 N L N (pk sh21x0x24 [6] L)) fun q => [(q.isSome, K21x0x24w0 L (q.getD default))]
theorem step21x0x24 (m : Nat) (kn : St → Option (Ex × St)) (L x : List Lf) : lpB Tryz.prog (T58x0 N) (h21x0s0 N).h 0 21 24 sh21x0x24 [6] [2, 3, 7, 6, 5] [50006005, 50006004, 50006003, 6, 2] (m + 100) kn L x = J21x0x24 N L x (fun y => kn (ofSh sh21x0x24 (mx sh21x0x24 [6] L y))) (fun p => some (K21x0x24w0 L p)) := by kernel_rfl
theorem ql21x0x24 (L : List Lf) (m : Nat) (x : List Lf) : Q21x0x24 N L (m + 1) x = J21x0x24 N L x (Q21x0x24 N L m) some := by kernel_rfl
def h21x0s1 : Sg Tryz.prog 0 21 :=
 (h21x0s0 N).lp (A21x0x24 N) N progOk (T58x0_ok N) (fun m kn L x => (step21x0x24 N m kn L x).trans (sb21x0x24 N L x _ _)) (fun L m x => (ql21x0x24 N L m x).trans (sb21x0x24 N L x (Q21x0x24 N L m) some)) fun L x hx => alt1 x hx
def F21x0x58 (w15 w16 w17 : Int) (w19 w21 w23 w25 : LD) (k0 : Bool × LD → Option R) (k1 : Bool × LD → Option R) (k2 : Bool × LD → Option R) (k3 : Unit → Option R) : Option R :=
 bnd (G57x0 N w16 w17 w19 w15 w21 w23 w25) fun y0 =>
 bif (inlB y0) then
  k0 ((!(inlV y0).1), (inlV y0).2)
 else
  bif (inlB (inrQ y0)) then
   k1 ((!(inlV (inrQ y0)).1), (inlV (inrQ y0)).2)
  else
   bif (inlB (inrQ (inrQ y0))) then
    k2 ((!(inlV (inrQ (inrQ y0))).1), (inlV (inrQ (inrQ y0))).2)
   else
    bif (inrQ (inrQ (inrQ y0))).isSome then
     k3 ()
    else
     none
def G21x0x58 (w15 w16 w17 : Int) (w19 w21 w23 w25 : LD) : Option (Sum (Bool × LD) (Sum (Bool × LD) (Sum (Bool × LD) (Unit)))) := F21x0x58 N w15 w16 w17 w19 w21 w23 w25 (fun p => some (.inl p)) (fun p => some (.inr (.inl p))) (fun p => some (.inr (.inr (.inl p)))) (fun p => some (.inr (.inr (.inr p))))
theorem bind21x0x58 (w15 w16 w17 : Int) (w19 w21 w23 w25 : LD) (k0 : Bool × LD → Option R) (k1 : Bool × LD → Option R) (k2 : Bool × LD → Option R) (k3 : Unit → Option R) : F21x0x58 N w15 w16 w17 w19 w21 w23 w25 k0 k1 k2 k3 = (G21x0x58 N w15 w16 w17 w19 w21 w23 w25).bind (sumE k0 (sumE k1 (sumE k2 k3))) := by
 unfold G21x0x58 F21x0x58
 repeat' (first | with_reducible apply cond_b | (with_reducible apply bnd_b; intro _) | rfl)
def J21x0x58 (L : List Lf) (k0 : Bool × LD → Option R) (k1 : Bool × LD → Option R) (k2 : Bool × LD → Option R) (k3 : Unit → Option R) : Option R := F21x0x58 N (li L 15) (li L 16) (li L 17) (ll L 19) (ll L 21) (ll L 23) (ll L 25) k0 k1 k2 k3
def sh21x0x58 : Sh := { tmps := [(2, .c (.p 2 0)), (6, .c (.p 6 0)), (11, .c (.p 11 0)), (56, .c (.sl 104)), (57, .c (.i .i64)), (58, .c (.i .i64))], mem := [(2, .box (.s :: [.i .i64, .i .i64, .sl 69, .sl 130, .sl 9])), (6, .box (.s :: [.i .i64, .i .i64, .o 50006003, .o 50006004, .o 50006005])), (11, .box ([.i .i64, .i .i64, .sl 185])), (50006003, .row 69 true), (50006004, .row 130 true), (50006005, .row 9 true)] }
def K21x0x58w0 (L : List Lf) (p : Bool × LD) : Ex × St := (.normal, mg (ofSh sh21x0x58 L) [2, 6, 56, 57, 58, 64] [(64, .c (.b p.1))] [2, 6, 50006004, 50006005, 64000000092] [(6, .box [.s (ls L 13), .i .i64 (li L 14), .i .i64 (li L 15), .o 64000000092, .o 50006004, .o 50006005]), (64000000092, .row 69 true false p.2)])
def K21x0x58w1 (L : List Lf) (p : Bool × LD) : Ex × St := (.normal, mg (ofSh sh21x0x58 L) [2, 6, 56, 57, 58, 64] [(64, .c (.b p.1))] [2, 6, 50006003, 50006005, 64000000125] [(6, .box [.s (ls L 13), .i .i64 (li L 14), .i .i64 (li L 15), .o 50006003, .o 64000000125, .o 50006005]), (64000000125, .row 130 true false p.2)])
def K21x0x58w2 (L : List Lf) (p : Bool × LD) : Ex × St := (.normal, mg (ofSh sh21x0x58 L) [2, 6, 56, 57, 58, 64] [(64, .c (.b p.1))] [2, 6, 50006003, 50006004, 64000000145] [(6, .box [.s (ls L 13), .i .i64 (li L 14), .i .i64 (li L 15), .o 50006003, .o 50006004, .o 64000000145]), (64000000145, .row 9 true false p.2)])
def K21x0x58w3 (L : List Lf) (_ : Unit) : Ex × St := (.normal, mg (ofSh sh21x0x58 L) [2, 6, 56, 57, 58, 64] [(64, .c (.b false))] [2, 6, 50006003, 50006004, 50006005] [])
def A21x0x58 (L : List Lf) : List (Bool × (Ex × St)) := bnd (J21x0x58 N L (fun p => some (.inl p)) (fun p => some (.inr (.inl p))) (fun p => some (.inr (.inr (.inl p)))) (fun p => some (.inr (.inr (.inr p))))) fun q => [((inlB q), K21x0x58w0 L (inlV q)), ((inlB (inrQ q)), K21x0x58w1 L (inlV (inrQ q))), ((inlB (inrQ (inrQ q))), K21x0x58w2 L (inlV (inrQ (inrQ q)))), ((inrQ (inrQ (inrQ q))).isSome, K21x0x58w3 L ())]
theorem raw21x0x58 (L : List Lf) : pc Tryz.prog (T58x0 N) (h21x0s1 N).h 0 100 21 58 sh21x0x58 L [2, 58, 57, 56, 6, 64] [50006005, 50006004, 64000000092, 6, 2, 64000000125, 50006003, 64000000145] = J21x0x58 N L (fun p => some (K21x0x58w0 L p)) (fun p => some (K21x0x58w1 L p)) (fun p => some (K21x0x58w2 L p)) (fun _ => some (K21x0x58w3 L ())) := by kernel_rfl
def h21x0s2 : Sg Tryz.prog 0 21 :=
 (h21x0s1 N).cut (A21x0x58 N) progOk (T58x0_ok N) fun L x hx => (raw21x0x58 N L).trans ((bind21x0x58 N ..).trans ((altS (altS (altS alt1))) x hx))
def S21x0x51 (w1 : LD) (w2 w15 : Int) (w3 : Int) (w16 : Bool) (w17 : LD) (w18 : Bool) (w19 : LD) (w20 : Bool) (w21 : LD) (kr : Int → Bool → LD → Bool → LD → Bool → LD → Option R) (k0 : Ty5 → Option R) (k1 : Ty5 → Option R) (k2 : Ty5 → Option R) (k3 : Ty4 → Option R) : Option R :=
 bif (decide (w3 < w2)) then
  bif (inB w3 w1.length) then
   bnd (G21x0x58 N w15 ((w1.getD w3.toNat (.i 0)).cell 0).toI ((w1.getD w3.toNat (.i 0)).cell 1).toI ((w1.getD w3.toNat (.i 0)).cell 2).items w17 w19 w21) fun y0 =>
   bif (inlB y0) then
    bif (inlV y0).1 then
     k0 (([] : List UInt8), w18, w19, w20, w21)
    else
     kr (IntKind.wrap .i64 (w3 + 1)) false (inlV y0).2 w18 w19 w20 w21
   else
    bif (inlB (inrQ y0)) then
     bif (inlV (inrQ y0)).1 then
      k1 (([] : List UInt8), w16, w17, w20, w21)
     else
      kr (IntKind.wrap .i64 (w3 + 1)) w16 w17 false (inlV (inrQ y0)).2 w20 w21
    else
     bif (inlB (inrQ (inrQ y0))) then
      bif (inlV (inrQ (inrQ y0))).1 then
       k2 (([] : List UInt8), w16, w17, w18, w19)
      else
       kr (IntKind.wrap .i64 (w3 + 1)) w16 w17 w18 w19 false (inlV (inrQ (inrQ y0))).2
     else
      bif (inrQ (inrQ (inrQ y0))).isSome then
       kr (IntKind.wrap .i64 (w3 + 1)) w16 w17 w18 w19 w20 w21
      else
       none
  else
   none
 else
  k3 (w16, w17, w18, w19, w20, w21)
def L21x0x51 (N : Nat) {R : Type} (w1 : LD) (w2 w15 : Int) : Nat → Int → Bool → LD → Bool → LD → Bool → LD → (Ty5 → Option R) → (Ty5 → Option R) → (Ty5 → Option R) → (Ty4 → Option R) → Option R
 | 0, _, _, _, _, _, _, _, _, _, _, _ => none
 | m + 1, w3, w16, w17, w18, w19, w20, w21, k0, k1, k2, k3 => S21x0x51 N w1 w2 w15 w3 w16 w17 w18 w19 w20 w21 (fun w3 w16 w17 w18 w19 w20 w21 => L21x0x51 N w1 w2 w15 m w3 w16 w17 w18 w19 w20 w21 k0 k1 k2 k3) k0 k1 k2 k3
def G21x0x51 (w1 : LD) (w2 w15 : Int) (w3 : Int) (w16 : Bool) (w17 : LD) (w18 : Bool) (w19 : LD) (w20 : Bool) (w21 : LD) : Option (Sum (Ty5) (Sum (Ty5) (Sum (Ty5) (Ty4)))) := L21x0x51 N (R := (Sum (Ty5) (Sum (Ty5) (Sum (Ty5) (Ty4))))) w1 w2 w15 N w3 w16 w17 w18 w19 w20 w21 (fun p => some (.inl p)) (fun p => some (.inr (.inl p))) (fun p => some (.inr (.inr (.inl p)))) (fun p => some (.inr (.inr (.inr p))))
def J21x0x51 (L x : List Lf) (kr : List Lf → Option R) (k0 : Ty5 → Option R) (k1 : Ty5 → Option R) (k2 : Ty5 → Option R) (k3 : Ty4 → Option R) : Option R := S21x0x51 N (ll L 1) (li L 2) (li L 15) (li x 0) (lb x 1) (ll x 2) (lb x 3) (ll x 4) (lb x 5) (ll x 6) (fun w3 w16 w17 w18 w19 w20 w21 => kr [.i w3, .b w16, .l w17, .b w18, .l w19, .b w20, .l w21]) k0 k1 k2 k3
theorem sb21x0x51 (L x : List Lf) (kr : List Lf → Option R) (k0 : Ty5 → Option R) (k1 : Ty5 → Option R) (k2 : Ty5 → Option R) (k3 : Ty4 → Option R) : J21x0x51 N L x kr k0 k1 k2 k3 = (J21x0x51 N L x (fun y => some (.inl y)) (fun p => some (.inr (.inl p))) (fun p => some (.inr (.inr (.inl p)))) (fun p => some (.inr (.inr (.inr (.inl p))))) (fun p => some (.inr (.inr (.inr (.inr p)))))).bind (sumE kr (sumE k0 (sumE k1 (sumE k2 k3)))) := by
 unfold J21x0x51 S21x0x51
 repeat' (first | with_reducible apply cond_b | (with_reducible apply bnd_b; intro _) | rfl)
def Q21x0x51 (L : List Lf) (m : Nat) (x : List Lf) : Option (Sum (Ty5) (Sum (Ty5) (Sum (Ty5) (Ty4)))) := L21x0x51 N (R := (Sum (Ty5) (Sum (Ty5) (Sum (Ty5) (Ty4))))) (ll L 1) (li L 2) (li L 15) m (li x 0) (lb x 1) (ll x 2) (lb x 3) (ll x 4) (lb x 5) (ll x 6) (fun p => some (.inl p)) (fun p => some (.inr (.inl p))) (fun p => some (.inr (.inr (.inl p)))) (fun p => some (.inr (.inr (.inr p))))
def sh21x0x51 : Sh := { tmps := [(2, .c (.p 2 0)), (6, .c (.p 6 0)), (56, .c (.sl 104)), (57, .c (.i .i64)), (58, .c (.i .i64))], mem := [(2, .box (.s :: [.i .i64, .i .i64, .sl 69, .sl 130, .sl 9])), (6, .box (.s :: [.i .i64, .i .i64, .o 50006003, .o 50006004, .o 50006005])), (50006003, .row 69 true), (50006004, .row 130 true), (50006005, .row 9 true)] }
def K21x0x51w0 (L : List Lf) (p : Ty5) : Ex × St := (.ret, ⟨[(2, .c (.p 2 0)), (3, .c (.i .i64 2))], [(2, .box [.s p.1, .i .i64 0, .i .i64 0, .sl 69 true [], .sl 130 true [], .sl 9 true []]), (6, .box [.s (ls L 13), .i .i64 (li L 14), .i .i64 (li L 15), .o 64000000092, .o 50006004, .o 50006005]), (50006004, .row 130 true p.2.1 p.2.2.1), (50006005, .row 9 true p.2.2.2.1 p.2.2.2.2)]⟩)
def K21x0x51w1 (L : List Lf) (p : Ty5) : Ex × St := (.ret, ⟨[(2, .c (.p 2 0)), (3, .c (.i .i64 2))], [(2, .box [.s p.1, .i .i64 0, .i .i64 0, .sl 69 true [], .sl 130 true [], .sl 9 true []]), (6, .box [.s (ls L 13), .i .i64 (li L 14), .i .i64 (li L 15), .o 50006003, .o 64000000125, .o 50006005]), (50006003, .row 69 true p.2.1 p.2.2.1), (50006005, .row 9 true p.2.2.2.1 p.2.2.2.2)]⟩)
def K21x0x51w2 (L : List Lf) (p : Ty5) : Ex × St := (.ret, ⟨[(2, .c (.p 2 0)), (3, .c (.i .i64 2))], [(2, .box [.s p.1, .i .i64 0, .i .i64 0, .sl 69 true [], .sl 130 true [], .sl 9 true []]), (6, .box [.s (ls L 13), .i .i64 (li L 14), .i .i64 (li L 15), .o 50006003, .o 50006004, .o 64000000145]), (50006003, .row 69 true p.2.1 p.2.2.1), (50006004, .row 130 true p.2.2.2.1 p.2.2.2.2)]⟩)
def K21x0x51w3 (L : List Lf) (p : Ty4) : Ex × St := let p1 := p.2; let p2 := p1.2; let p3 := p2.2; let p4 := p3.2; let p5 := p4.2; ((.exit 2), mg (ofSh sh21x0x51 L) [2, 6] [] [2, 6, 50006003, 50006004, 50006005] [(50006003, .row 69 true p.1 p1.1), (50006004, .row 130 true p2.1 p3.1), (50006005, .row 9 true p4.1 p5)])
def A21x0x51 (L : List Lf) : List (Bool × (Ex × St)) := bnd (Q21x0x51 N L N (pk sh21x0x51 [3, 16, 17, 18, 19, 20, 21] L)) fun q => [((inlB q), K21x0x51w0 L (inlV q)), ((inlB (inrQ q)), K21x0x51w1 L (inlV (inrQ q))), ((inlB (inrQ (inrQ q))), K21x0x51w2 L (inlV (inrQ (inrQ q)))), ((inrQ (inrQ (inrQ q))).isSome, K21x0x51w3 L ((inrQ (inrQ (inrQ q))).getD default))]
theorem step21x0x51 (m : Nat) (kn : St → Option (Ex × St)) (L x : List Lf) : lpB Tryz.prog (T58x0 N) (h21x0s2 N).h 0 21 51 sh21x0x51 [3, 16, 17, 18, 19, 20, 21] [2, 3, 6] [2, 50006005, 50006004, 50006003, 6] (m + 100) kn L x = J21x0x51 N L x (fun y => kn (ofSh sh21x0x51 (mx sh21x0x51 [3, 16, 17, 18, 19, 20, 21] L y))) (fun p => some (K21x0x51w0 L p)) (fun p => some (K21x0x51w1 L p)) (fun p => some (K21x0x51w2 L p)) (fun p => some (K21x0x51w3 L p)) := by kernel_rfl
theorem ql21x0x51 (L : List Lf) (m : Nat) (x : List Lf) : Q21x0x51 N L (m + 1) x = J21x0x51 N L x (Q21x0x51 N L m) (fun p => some (.inl p)) (fun p => some (.inr (.inl p))) (fun p => some (.inr (.inr (.inl p)))) (fun p => some (.inr (.inr (.inr p)))) := by kernel_rfl
def h21x0s3 : Sg Tryz.prog 0 21 :=
 (h21x0s2 N).lp (A21x0x51 N) N progOk (T58x0_ok N) (fun m kn L x => (step21x0x51 N m kn L x).trans (sb21x0x51 N L x _ _ _ _ _)) (fun L m x => (ql21x0x51 N L m x).trans (sb21x0x51 N L x (Q21x0x51 N L m) (fun p => some (.inl p)) (fun p => some (.inr (.inl p))) (fun p => some (.inr (.inr (.inl p)))) (fun p => some (.inr (.inr (.inr p)))))) fun L x hx => (altS (altS (altS alt1))) x hx
def F21x0 (v1 : LD) (k0 : Ty0 → Option R) : Option R :=
 bnd (G53x0 N v1) fun y0 =>
 bif y0.isSome then
  bif ((y0.getD default) != 0) then
   k0 (([] : List UInt8), 0, 0, true, [], true, [], true, [], (y0.getD default))
  else
   bnd (G54x0 N v1) fun y1 =>
   bif y1.isSome then
    bnd (G21x0x24 N false (y1.getD default).2 ((y1.getD default).2.length : Int) ([] : List UInt8) 0 0 0) fun y2 =>
    bif y2.isSome then
     bnd (bif (!(y2.getD default).1) then true else ((y2.getD default).2.1 == ([] : List UInt8))) fun y3 =>
     bnd (bif y3 then true else (decide ((y2.getD default).2.2.2 < 0))) fun y4 =>
     bif y4 then
      k0 (([] : List UInt8), 0, 0, true, [], true, [], true, [], 4)
     else
      bnd (G21x0x51 N (y1.getD default).2 ((y1.getD default).2.length : Int) (y2.getD default).2.2.2 0 true [] true [] true []) fun y5 =>
      bif (inlB y5) then
       k0 ((inlV y5).1, 0, 0, true, [], true, [], true, [], 2)
      else
       bif (inlB (inrQ y5)) then
        k0 ((inlV (inrQ y5)).1, 0, 0, true, [], true, [], true, [], 2)
       else
        bif (inlB (inrQ (inrQ y5))) then
         k0 ((inlV (inrQ (inrQ y5))).1, 0, 0, true, [], true, [], true, [], 2)
        else
         bif (inrQ (inrQ (inrQ y5))).isSome then
          bnd (G58x0 N (y2.getD default).2.1 (y2.getD default).2.2.1 (y2.getD default).2.2.2 ((inrQ (inrQ (inrQ y5))).getD default).2.1 ((inrQ (inrQ (inrQ y5))).getD default).2.2.2.1 ((inrQ (inrQ (inrQ y5))).getD default).2.2.2.2.2) fun y6 =>
          bif y6.isSome then
           bif ((y6.getD default) != 0) then
            k0 (([] : List UInt8), 0, 0, true, [], true, [], true, [], (y6.getD default))
           else
            k0 ((y2.getD default).2.1, (y2.getD default).2.2.1, (y2.getD default).2.2.2, ((inrQ (inrQ (inrQ y5))).getD default).1, ((inrQ (inrQ (inrQ y5))).getD default).2.1, ((inrQ (inrQ (inrQ y5))).getD default).2.2.1, ((inrQ (inrQ (inrQ y5))).getD default).2.2.2.1, ((inrQ (inrQ (inrQ y5))).getD default).2.2.2.2.1, ((inrQ (inrQ (inrQ y5))).getD default).2.2.2.2.2, 0)
          else
           none
         else
          none
    else
     none
   else
    none
 else
  none
def G21x0 (v1 : LD) : Option (Ty0) := F21x0 N v1 (fun p => some p)
theorem bind21x0 (v1 : LD) (k0 : Ty0 → Option R) : F21x0 N v1 k0 = (G21x0 N v1).bind k0 := by
 unfold G21x0 F21x0
 repeat' (first | with_reducible apply cond_b | (with_reducible apply bnd_b; intro _) | rfl)
def sh21x0 : Sh := { tmps := [(0, .g ([.sl 96]))], mem := [] }
def K21x0w0 (L : List Lf) (p : Ty0) : Res := let p1 := p.2; let p2 := p1.2; let p3 := p2.2; let p4 := p3.2; let p5 := p4.2; let p6 := p5.2; let p7 := p6.2; let p8 := p7.2; let p9 := p8.2; ([.g [.s p.1, .i .i64 p1.1, .i .i64 p2.1, .sl 69 p3.1 p4.1, .sl 130 p5.1 p6.1, .sl 9 p7.1 p8.1], .c (.i .i64 p9)], [])
def A21x0 (L : List Lf) : List (Bool × Res) := bnd (F21x0 N (ll L 1) (fun p => some p)) fun q => [(q.isSome, K21x0w0 L (q.getD default))]
theorem raw21x0 (L : List Lf) : bd Tryz.prog (T58x0 N) (h21x0s3 N).h 21 sh21x0 L = F21x0 N (ll L 1) (fun p => some (K21x0w0 L p)) := by kernel_rfl
theorem ok21x0 : FnOk Tryz.prog 21 sh21x0 (A21x0 N) :=
 (h21x0s3 N).fn progOk (T58x0_ok N) fun L x hx => ((raw21x0 N L).trans ((bind21x0 N ..).trans (alt1 x hx)))
def T21x0 : Oracle := ext 21 (spSh sh21x0 (A21x0 N)) (T58x0 N)
theorem T21x0_ok : OracleOk Tryz.prog (T21x0 N) := FnOk.to (ok21x0 N) (T58x0_ok N)
def rg6x0 : List (Nat × List Nat) := [(0, [0]), (1, [0]), (2, []), (3, [0]), (4, [0, 4]), (5, [0, 4]), (6, []), (7, [0, 4]), (8, [0, 5, 4]), (9, [5, 0, 4]), (10, []), (11, [0, 5, 4]), (12, [8, 6, 4, 0, 5]), (13, [8]), (14, [6, 4, 0, 5]), (15, [8, 4, 9, 0, 5]), (16, [8]), (17, [4, 9, 0, 5]), (18, [4])]
def hd6x0 : Hints := [(12, [0, 4], [4], [4])]
def h6x0s0 (N : Nat) : Sg Tryz.prog 0 6 := .start hd6x0 rg6x0
def S6x0x12 (w0 : Bool) (w1 : LD) (w2 : Bool) (w3 : LD) (kr : LD → Bool → LD → Option R) (k0 : Int × Bool × LD → Option R) (k1 : Bool × LD → Option R) : Option R :=
 bif (decide ((w1.length : Int) > 0)) then
  bif (decide ((w1.length : Int) < 4)) then
   k0 (6, w2, w3)
  else
   bif (inB 0 w1.length) then
    bnd (IntKind.wrap .i64 ((IntKind.wrap .i64 (w1.getD 0 (.i 0)).toI) * 2 ^ 24)) fun y0 =>
    bif (inB 1 w1.length) then
     bnd (IntKind.wrap .i64 ((IntKind.wrap .i64 (w1.getD 1 (.i 0)).toI) * 2 ^ 16)) fun y1 =>
     bif (inB 2 w1.length) then
      bnd (IntKind.wrap .i64 ((IntKind.wrap .i64 (w1.getD 2 (.i 0)).toI) * 2 ^ 8)) fun y2 =>
      bnd ((bitsV .or .i64 ((bitsV .or .i64 y0 y1).getD 0) y2).getD 0) fun y3 =>
      bif (inB 3 w1.length) then
       bnd ((bitsV .or .i64 y3 (IntKind.wrap .i64 (w1.getD 3 (.i 0)).toI)).getD 0) fun y4 =>
       bif ((decide (4 ≤ (w1.length : Int))) && (decide ((w1.length : Int) ≤ (w1.length : Int)))) then
        bnd (decide (y4 > (((w1.take (w1.length : Int).toNat).drop 4).length : Int))) fun y5 =>
        bif y5 then
         k0 (6, w2, w3)
        else
         bif ((decide (0 ≤ y4)) && (decide (y4 ≤ (((w1.take (w1.length : Int).toNat).drop 4).length : Int)))) then
          bnd (((((w1.take (w1.length : Int).toNat).drop 4).take y4.toNat).drop 0) : List D) fun y6 =>
          bnd (G20x0 N w0 y6) fun y7 =>
          bif y7.isSome then
           bif ((y7.getD default).2.2.2 != 0) then
            k0 ((y7.getD default).2.2.2, w2, w3)
           else
            bnd (G21x0 N (y7.getD default).2.1) fun y8 =>
            bif y8.isSome then
             bif ((y8.getD default).2.2.2.2.2.2.2.2.2 != 0) then
              k0 ((y8.getD default).2.2.2.2.2.2.2.2.2, w2, w3)
             else
              bif (decide ((w3.length + 1) * 104 ≤ room) && decide ((w3.length + 1) ≤ strMax)) then
               bnd ((w3 ++ [(.a [(.s (y8.getD default).1), (.i (y8.getD default).2.1), (.i (y8.getD default).2.2.1), (.l (y8.getD default).2.2.2.1 (y8.getD default).2.2.2.2.1), (.l (y8.getD default).2.2.2.2.2.1 (y8.getD default).2.2.2.2.2.2.1), (.l (y8.getD default).2.2.2.2.2.2.2.1 (y8.getD default).2.2.2.2.2.2.2.2.1)])]) : List D) fun y9 =>
               bif (((decide (0 ≤ y4)) && (decide (y4 ≤ (((w1.take (w1.length : Int).toNat).drop 4).length : Int)))) && (decide ((((w1.take (w1.length : Int).toNat).drop 4).length : Int) ≤ (((w1.take (w1.length : Int).toNat).drop 4).length : Int)))) then
                bnd (((((w1.take (w1.length : Int).toNat).drop 4).take (((w1.take (w1.length : Int).toNat).drop 4).length : Int).toNat).drop y4.toNat) : List D) fun y10 =>
                kr y10 false y9
               else
                none
              else
               none
            else
             none
          else
           none
         else
          none
       else
        none
      else
       none
     else
      none
    else
     none
   else
    none
 else
  k1 (w2, w3)
def L6x0x12 (N : Nat) {R : Type} (w0 : Bool) : Nat → LD → Bool → LD → (Int × Bool × LD → Option R) → (Bool × LD → Option R) → Option R
 | 0, _, _, _, _, _ => none
 | m + 1, w1, w2, w3, k0, k1 => S6x0x12 N w0 w1 w2 w3 (fun w1 w2 w3 => L6x0x12 N w0 m w1 w2 w3 k0 k1) k0 k1
def G6x0x12 (w0 : Bool) (w1 : LD) (w2 : Bool) (w3 : LD) : Option (Sum (Int × Bool × LD) (Bool × LD)) := L6x0x12 N (R := (Sum (Int × Bool × LD) (Bool × LD))) w0 N w1 w2 w3 (fun p => some (.inl p)) (fun p => some (.inr p))
def J6x0x12 (L x : List Lf) (kr : List Lf → Option R) (k0 : Int × Bool × LD → Option R) (k1 : Bool × LD → Option R) : Option R := S6x0x12 N (lb L 0) (ll x 0) (lb x 1) (ll x 2) (fun w1 w2 w3 => kr [.l w1, .b w2, .l w3]) k0 k1
theorem sb6x0x12 (L x : List Lf) (kr : List Lf → Option R) (k0 : Int × Bool × LD → Option R) (k1 : Bool × LD → Option R) : J6x0x12 N L x kr k0 k1 = (J6x0x12 N L x (fun y => some (.inl y)) (fun p => some (.inr (.inl p))) (fun p => some (.inr (.inr p)))).bind (sumE kr (sumE k0 k1)) := by
 unfold J6x0x12 S6x0x12
 repeat' (first | with_reducible apply cond_b | (with_reducible apply bnd_b; intro _) | rfl)
def Q6x0x12 (L : List Lf) (m : Nat) (x : List Lf) : Option (Sum (Int × Bool × LD) (Bool × LD)) := L6x0x12 N (R := (Sum (Int × Bool × LD) (Bool × LD))) (lb L 0) m (ll x 0) (lb x 1) (ll x 2) (fun p => some (.inl p)) (fun p => some (.inr p))
def sh6x0x12 : Sh := { tmps := [(0, .c (.sl 5)), (4, .c (.o 4))], mem := [(4, .row 60 true)] }
def K6x0x12w0 (L : List Lf) (p : Int × Bool × LD) : Ex × St := (.ret, ⟨[(2, .c (.sl 60 true [])), (3, .c (.i .i64 p.1))], [(4, .row 60 true p.2.1 p.2.2)]⟩)
def A6x0x12 (L : List Lf) : List (Bool × (Ex × St)) := bnd (Q6x0x12 N L N (pk sh6x0x12 [1, 2, 3] L)) fun q => [((inlB q), K6x0x12w0 L (inlV q)), ((inrQ q).isSome, ((.exit 0), ⟨[(4, .c (.o 4))], [(4, .row 60 true ((inrQ q).getD default).1 ((inrQ q).getD default).2)]⟩))]
theorem step6x0x12 (m : Nat) (kn : St → Option (Ex × St)) (L x : List Lf) : lpB Tryz.prog (T21x0 N) (h6x0s0 N).h 0 6 12 sh6x0x12 [1, 2, 3] [2, 3, 4] [4] (m + 100) kn L x = J6x0x12 N L x (fun y => kn (ofSh sh6x0x12 (mx sh6x0x12 [1, 2, 3] L y))) (fun p => some (K6x0x12w0 L p)) (fun p => some ((.exit 0), ⟨[(4, .c (.o 4))], [(4, .row 60 true p.1 p.2)]⟩)) := by kernel_rfl
theorem ql6x0x12 (L : List Lf) (m : Nat) (x : List Lf) : Q6x0x12 N L (m + 1) x = J6x0x12 N L x (Q6x0x12 N L m) (fun p => some (.inl p)) (fun p => some (.inr p)) := by kernel_rfl
def h6x0s1 : Sg Tryz.prog 0 6 :=
 (h6x0s0 N).lp (A6x0x12 N) N progOk (T21x0_ok N) (fun m kn L x => (step6x0x12 N m kn L x).trans (sb6x0x12 N L x _ _ _)) (fun L m x => (ql6x0x12 N L m x).trans (sb6x0x12 N L x (Q6x0x12 N L m) (fun p => some (.inl p)) (fun p => some (.inr p)))) fun L x hx => (altS alt1) x hx
def F6x0 (v0 : Bool) (v1 : LD) (k0 : Bool × LD × Int → Option R) : Option R :=
 bif (decide ((v1.length : Int) > 100000000)) then
  k0 (true, [], 3)
 else
  bnd (G6x0x12 N v0 v1 true []) fun y0 =>
  bif (inlB y0) then
   k0 (true, [], (inlV y0).1)
  else
   bif (inrQ y0).isSome then
    k0 (((inrQ y0).getD default).1, ((inrQ y0).getD default).2, 0)
   else
    none
def G6x0 (v0 : Bool) (v1 : LD) : Option (Bool × LD × Int) := F6x0 N v0 v1 (fun p => some p)
theorem bind6x0 (v0 : Bool) (v1 : LD) (k0 : Bool × LD × Int → Option R) : F6x0 N v0 v1 k0 = (G6x0 N v0 v1).bind k0 := by
 unfold G6x0 F6x0
 repeat' (first | with_reducible apply cond_b | (with_reducible apply bnd_b; intro _) | rfl)
def sh6x0 : Sh := { tmps := [(0, .c (.sl 5))], mem := [] }
def A6x0 (L : List Lf) : List (Bool × Res) := bnd (F6x0 N (lb L 0) (ll L 1) (fun p => some p)) fun q => [(q.isSome, ([.c (.sl 60 (q.getD default).1 (q.getD default).2.1), .c (.i .i64 (q.getD default).2.2)], []))]
theorem raw6x0 (L : List Lf) : bd Tryz.prog (T21x0 N) (h6x0s1 N).h 6 sh6x0 L = F6x0 N (lb L 0) (ll L 1) (fun p => some ([.c (.sl 60 p.1 p.2.1), .c (.i .i64 p.2.2)], [])) := by kernel_rfl
theorem ok6x0 : FnOk Tryz.prog 6 sh6x0 (A6x0 N) :=
 (h6x0s1 N).fn progOk (T21x0_ok N) fun L x hx => ((raw6x0 N L).trans ((bind6x0 N ..).trans (alt1 x hx)))
def T6x0 : Oracle := ext 6 (spSh sh6x0 (A6x0 N)) (T21x0 N)
theorem T6x0_ok : OracleOk Tryz.prog (T6x0 N) := FnOk.to (ok6x0 N) (T21x0_ok N)
def rg59x0 : List (Nat × List Nat) := [(0, [0, 1]), (1, [0, 1]), (2, [0, 1, 5]), (3, [10, 9, 1, 0, 5]), (4, [10, 1, 0, 5, 9]), (5, [6, 1, 0, 5, 10, 9]), (6, [1, 0, 6, 5, 10, 9, 7]), (7, [0, 6, 5, 10, 9, 1]), (8, [5, 0, 7, 10, 9, 1]), (9, [10, 9, 1, 0, 5]), (10, [5])]
def hd59x0 : Hints := [(9, [10, 9, 1, 0, 5], [], []), (23, [0, 6, 5, 10, 9, 1, 7, 15], [], [])]
def h59x0s0 (N : Nat) : Sg Tryz.prog 0 59 := .start hd59x0 rg59x0
def F59x0x23 (N : Nat) (w1 : LD) (w4 w5 : Int) (w8 : Bool) (k0 : Int → R) : R :=
 bif w8 then
  bnd (IntKind.wrap .i64 ((IntKind.wrap .i64 ((w1.length : Int) - 1)) - w4)) fun y0 =>
  k0 y0
 else
  k0 w5
def V59x0x23 (w1 : LD) (w4 w5 : Int) (w8 : Bool) : Int := F59x0x23 N w1 w4 w5 w8 (fun p => p)
theorem tot59x0x23 (w1 : LD) (w4 w5 : Int) (w8 : Bool) (k0 : Int → R) : F59x0x23 N w1 w4 w5 w8 k0 = k0 (V59x0x23 N w1 w4 w5 w8) := by
 unfold V59x0x23 F59x0x23
 repeat' (first | rfl | apply cond_k | (apply bnd_k; intro _))
def J59x0x23 (L : List Lf) (k0 : Int → R) : R := F59x0x23 N (ll L 1) (li L 4) (li L 5) (lb L 8) k0
def sh59x0x23 : Sh := { tmps := [(0, .c (.sl 5)), (1, .c (.b)), (5, .c (.i .i64)), (6, .c (.i .i64)), (7, .c (.i .i64)), (9, .c (.i .i64)), (10, .c (.i .i64)), (15, .c (.b))], mem := [] }
def K59x0x23w0 (L : List Lf) (p : Int) : Ex × St := (.normal, mg (ofSh sh59x0x23 L) [0, 1, 5, 7, 9, 10] [(7, .c (.i .i64 p))] [] [])
def A59x0x23 (L : List Lf) : List (Bool × (Ex × St)) := bnd (J59x0x23 N L (fun p => p)) fun q => [(true, K59x0x23w0 L q)]
theorem raw59x0x23 (L : List Lf) : pc Tryz.prog (T6x0 N) (h59x0s0 N).h 0 100 59 23 sh59x0x23 L [5, 0, 7, 10, 9, 1] [] = J59x0x23 N L (fun p => some (K59x0x23w0 L p)) := by kernel_rfl
def h59x0s1 : Sg Tryz.prog 0 59 :=
 (h59x0s0 N).cut (A59x0x23 N) progOk (T6x0_ok N) fun L x hx => (raw59x0x23 N L).trans ((tot59x0x23 N ..).trans (alt0 _ _ hx))
def S59x0x9 (w1 : LD) (w2 : Bool) (w4 : Int) (w3 w5 : Int) (kr : Int → Int → Option R) (k0 : Int → Option R) : Option R :=
 bif (decide (w5 < w4)) then
  bnd (V59x0x23 N w1 w5 w5 (!w2)) fun y0 =>
  bif (inB y0 w1.length) then
   bnd (IntKind.wrap .i64 ((IntKind.wrap .i64 (256 * w3)) + (IntKind.wrap .i64 (w1.getD y0.toNat (.i 0)).toI))) fun y1 =>
   kr y1 (IntKind.wrap .i64 (w5 + 1))
  else
   none
 else
  k0 w3
def L59x0x9 (N : Nat) {R : Type} (w1 : LD) (w2 : Bool) (w4 : Int) : Nat → Int → Int → (Int → Option R) → Option R
 | 0, _, _, _ => none
 | m + 1, w3, w5, k0 => S59x0x9 N w1 w2 w4 w3 w5 (fun w3 w5 => L59x0x9 N w1 w2 w4 m w3 w5 k0) k0
def G59x0x9 (w1 : LD) (w2 : Bool) (w4 : Int) (w3 w5 : Int) : Option (Int) := L59x0x9 N (R := (Int)) w1 w2 w4 N w3 w5 (fun p => some p)
def J59x0x9 (L x : List Lf) (kr : List Lf → Option R) (k0 : Int → Option R) : Option R := S59x0x9 N (ll L 1) (lb L 2) (li L 4) (li x 0) (li x 1) (fun w3 w5 => kr [.i w3, .i w5]) k0
theorem sb59x0x9 (L x : List Lf) (kr : List Lf → Option R) (k0 : Int → Option R) : J59x0x9 N L x kr k0 = (J59x0x9 N L x (fun y => some (.inl y)) (fun p => some (.inr p))).bind (sumE kr k0) := by
 unfold J59x0x9 S59x0x9
 repeat' (first | with_reducible apply cond_b | (with_reducible apply bnd_b; intro _) | rfl)
def Q59x0x9 (L : List Lf) (m : Nat) (x : List Lf) : Option (Int) := L59x0x9 N (R := (Int)) (ll L 1) (lb L 2) (li L 4) m (li x 0) (li x 1) (fun p => some p)
def sh59x0x9 : Sh := { tmps := [(0, .c (.sl 5)), (1, .c (.b)), (5, .c (.i .i64)), (9, .c (.i .i64)), (10, .c (.i .i64))], mem := [] }
def A59x0x9 (L : List Lf) : List (Bool × (Ex × St)) := bnd (Q59x0x9 N L N (pk sh59x0x9 [3, 5] L)) fun q => [(q.isSome, ((.exit 0), ⟨[(5, .c (.i .i64 (q.getD default)))], []⟩))]
theorem step59x0x9 (m : Nat) (kn : St → Option (Ex × St)) (L x : List Lf) : lpB Tryz.prog (T6x0 N) (h59x0s1 N).h 0 59 9 sh59x0x9 [3, 5] [4, 5] [] (m + 100) kn L x = J59x0x9 N L x (fun y => kn (ofSh sh59x0x9 (mx sh59x0x9 [3, 5] L y))) (fun p => some ((.exit 0), ⟨[(5, .c (.i .i64 p))], []⟩)) := by kernel_rfl
theorem ql59x0x9 (L : List Lf) (m : Nat) (x : List Lf) : Q59x0x9 N L (m + 1) x = J59x0x9 N L x (Q59x0x9 N L m) some := by kernel_rfl
def h59x0s2 : Sg Tryz.prog 0 59 :=
 (h59x0s1 N).lp (A59x0x9 N) N progOk (T6x0_ok N) (fun m kn L x => (step59x0x9 N m kn L x).trans (sb59x0x9 N L x _ _)) (fun L m x => (ql59x0x9 N L m x).trans (sb59x0x9 N L x (Q59x0x9 N L m) some)) fun L x hx => alt1 x hx
def F59x0 (v1 : LD) (v2 : Bool) (k0 : Int → Option R) : Option R :=
 bnd (G59x0x9 N v1 v2 (v1.length : Int) 0 0) fun y0 =>
 bif y0.isSome then
  k0 (y0.getD default)
 else
  none
def G59x0 (v1 : LD) (v2 : Bool) : Option (Int) := F59x0 N v1 v2 (fun p => some p)
theorem bind59x0 (v1 : LD) (v2 : Bool) (k0 : Int → Option R) : F59x0 N v1 v2 k0 = (G59x0 N v1 v2).bind k0 := by
 unfold G59x0 F59x0
 repeat' (first | with_reducible apply cond_b | (with_reducible apply bnd_b; intro _) | rfl)
def sh59x0 : Sh := { tmps := [(0, .c (.sl 5)), (1, .c (.b))], mem := [] }
def A59x0 (L : List Lf) : List (Bool × Res) := bnd (F59x0 N (ll L 1) (lb L 2) (fun p => some p)) fun q => [(q.isSome, ([.c (.i .i64 (q.getD default))], []))]
theorem raw59x0 (L : List Lf) : bd Tryz.prog (T6x0 N) (h59x0s2 N).h 59 sh59x0 L = F59x0 N (ll L 1) (lb L 2) (fun p => some ([.c (.i .i64 p)], [])) := by kernel_rfl
theorem ok59x0 : FnOk Tryz.prog 59 sh59x0 (A59x0 N) :=
 (h59x0s2 N).fn progOk (T6x0_ok N) fun L x hx => ((raw59x0 N L).trans ((bind59x0 N ..).trans (alt1 x hx)))
def T59x0 : Oracle := ext 59 (spSh sh59x0 (A59x0 N)) (T6x0 N)
theorem T59x0_ok : OracleOk Tryz.prog (T59x0 N) := FnOk.to (ok59x0 N) (T6x0_ok N)
def rg60x0 : List (Nat × List Nat) := [(0, [0]), (1, [0]), (2, [0, 3]), (3, [8, 7, 6, 3]), (4, [6, 8, 3, 7]), (5, [3, 5, 8, 7, 6]), (6, [8, 7, 6, 3]), (7, [3])]
def hd60x0 : Hints := [(9, [8, 7, 6, 3], [], [])]
def h60x0s0 (N : Nat) : Sg Tryz.prog 0 60 := .start hd60x0 rg60x0
def S60x0x9 (N : Nat) (w2 : LD) (w3 : Int) (w0 w4 : Int) (kr : Int → Int → Option R) (k0 : Int → Option R) : Option R :=
 bif (decide (w4 < w3)) then
  bif (inB w4 w2.length) then
   bnd (IntKind.wrap .i64 ((IntKind.wrap .i64 (31 * w0)) + (IntKind.wrap .i64 (w2.getD w4.toNat (.i 0)).toI))) fun y0 =>
   kr (y0.tmod 4294967296) (IntKind.wrap .i64 (w4 + 1))
  else
   none
 else
  k0 w0
def L60x0x9 (N : Nat) {R : Type} (w2 : LD) (w3 : Int) : Nat → Int → Int → (Int → Option R) → Option R
 | 0, _, _, _ => none
 | m + 1, w0, w4, k0 => S60x0x9 N w2 w3 w0 w4 (fun w0 w4 => L60x0x9 N w2 w3 m w0 w4 k0) k0
def G60x0x9 (w2 : LD) (w3 : Int) (w0 w4 : Int) : Option (Int) := L60x0x9 N (R := (Int)) w2 w3 N w0 w4 (fun p => some p)
def J60x0x9 (L x : List Lf) (kr : List Lf → Option R) (k0 : Int → Option R) : Option R := S60x0x9 N (ll L 2) (li L 3) (li x 0) (li x 1) (fun w0 w4 => kr [.i w0, .i w4]) k0
theorem sb60x0x9 (L x : List Lf) (kr : List Lf → Option R) (k0 : Int → Option R) : J60x0x9 N L x kr k0 = (J60x0x9 N L x (fun y => some (.inl y)) (fun p => some (.inr p))).bind (sumE kr k0) := by
 unfold J60x0x9 S60x0x9
 repeat' (first | with_reducible apply cond_b | (with_reducible apply bnd_b; intro _) | rfl)
def Q60x0x9 (L : List Lf) (m : Nat) (x : List Lf) : Option (Int) := L60x0x9 N (R := (Int)) (ll L 2) (li L 3) m (li x 0) (li x 1) (fun p => some p)
def sh60x0x9 : Sh := { tmps := [(3, .c (.i .i64)), (6, .c (.sl 5)), (7, .c (.i .i64)), (8, .c (.i .i64))], mem := [] }
def A60x0x9 (L : List Lf) : List (Bool × (Ex × St)) := bnd (Q60x0x9 N L N (pk sh60x0x9 [0, 4] L)) fun q => [(q.isSome, ((.exit 0), ⟨[(3, .c (.i .i64 (q.getD default)))], []⟩))]
theorem step60x0x9 (m : Nat) (kn : St → Option (Ex × St)) (L x : List Lf) : lpB Tryz.prog (T59x0 N) (h60x0s0 N).h 0 60 9 sh60x0x9 [0, 4] [2, 3] [] (m + 100) kn L x = J60x0x9 N L x (fun y => kn (ofSh sh60x0x9 (mx sh60x0x9 [0, 4] L y))) (fun p => some ((.exit 0), ⟨[(3, .c (.i .i64 p))], []⟩)) := by kernel_rfl
theorem ql60x0x9 (L : List Lf) (m : Nat) (x : List Lf) : Q60x0x9 N L (m + 1) x = J60x0x9 N L x (Q60x0x9 N L m) some := by kernel_rfl
def h60x0s1 : Sg Tryz.prog 0 60 :=
 (h60x0s0 N).lp (A60x0x9 N) N progOk (T59x0_ok N) (fun m kn L x => (step60x0x9 N m kn L x).trans (sb60x0x9 N L x _ _)) (fun L m x => (ql60x0x9 N L m x).trans (sb60x0x9 N L x (Q60x0x9 N L m) some)) fun L x hx => alt1 x hx
def F60x0 (v1 : LD) (k0 : Int → Option R) : Option R :=
 bnd (G60x0x9 N v1 (v1.length : Int) 1 0) fun y0 =>
 bif y0.isSome then
  k0 (y0.getD default)
 else
  none
def G60x0 (v1 : LD) : Option (Int) := F60x0 N v1 (fun p => some p)
theorem bind60x0 (v1 : LD) (k0 : Int → Option R) : F60x0 N v1 k0 = (G60x0 N v1).bind k0 := by
 unfold G60x0 F60x0
 repeat' (first | with_reducible apply cond_b | (with_reducible apply bnd_b; intro _) | rfl)
def sh60x0 : Sh := { tmps := [(0, .c (.sl 5))], mem := [] }
def A60x0 (L : List Lf) : List (Bool × Res) := bnd (F60x0 N (ll L 1) (fun p => some p)) fun q => [(q.isSome, ([.c (.i .i64 (q.getD default))], []))]
theorem raw60x0 (L : List Lf) : bd Tryz.prog (T59x0 N) (h60x0s1 N).h 60 sh60x0 L = F60x0 N (ll L 1) (fun p => some ([.c (.i .i64 p)], [])) := by kernel_rfl
theorem ok60x0 : FnOk Tryz.prog 60 sh60x0 (A60x0 N) :=
 (h60x0s1 N).fn progOk (T59x0_ok N) fun L x hx => ((raw60x0 N L).trans ((bind60x0 N ..).trans (alt1 x hx)))
def T60x0 : Oracle := ext 60 (spSh sh60x0 (A60x0 N)) (T59x0 N)
theorem T60x0_ok : OracleOk Tryz.prog (T60x0 N) := FnOk.to (ok60x0 N) (T59x0_ok N)
def rg125x0 : List (Nat × List Nat) := [(0, [1, 0]), (1, [1, 0, 4]), (2, [0, 7, 4]), (3, [7, 4]), (4, [0, 7, 4]), (5, [0, 8, 7, 4]), (6, [0, 7, 4, 8]), (7, [0, 9, 7, 4, 8]), (8, [7, 4]), (9, [9, 8, 0, 7, 4]), (10, [46, 45, 8, 0, 7, 9, 4]), (11, [46, 8, 0, 45, 7, 9, 4]), (12, [8, 0, 10, 46, 45, 7, 9, 4]), (13, [46, 45, 8, 0, 7, 9, 4]), (14, [8, 7, 9, 4]), (15, [7, 9, 4])]
def hd125x0 : Hints := [(30, [46, 45, 8, 0, 7, 9, 4], [8, 7, 4, 50008002], [50008002])]
def h125x0s0 (N : Nat) : Sg Tryz.prog 0 125 := .start hd125x0 rg125x0
def S125x0x30 (N : Nat) (w1 : LD) (w3 : Int) (w4 : Int) (w21 : Bool) (w22 : LD) (kr : Int → Bool → LD → Option R) (k0 : Bool × LD → Option R) : Option R :=
 bif (decide (w4 < w3)) then
  bif (inB (IntKind.wrap .i64 (5 + (IntKind.wrap .i64 (3 * w4)))) w1.length) then
   bnd ((w1.getD (IntKind.wrap .i64 (5 + (IntKind.wrap .i64 (3 * w4)))).toNat (.i 0)) : D) fun y0 =>
   bif (inB (IntKind.wrap .i64 (6 + (IntKind.wrap .i64 (3 * w4)))) w1.length) then
    bnd ((w1.getD (IntKind.wrap .i64 (6 + (IntKind.wrap .i64 (3 * w4)))).toNat (.i 0)) : D) fun y1 =>
    bif (inB (IntKind.wrap .i64 (7 + (IntKind.wrap .i64 (3 * w4)))) w1.length) then
     bnd ((w1.getD (IntKind.wrap .i64 (7 + (IntKind.wrap .i64 (3 * w4)))).toNat (.i 0)) : D) fun y2 =>
     bif (decide ((w22.length + 1) * 24 ≤ room) && decide ((w22.length + 1) ≤ strMax)) then
      bnd ((w22 ++ [(.a [(.i (IntKind.wrap .i64 y0.toI)), (.i (IntKind.wrap .i64 y1.toI)), (.i (IntKind.wrap .i64 y2.toI))])]) : List D) fun y3 =>
      kr (IntKind.wrap .i64 (w4 + 1)) false y3
     else
      none
    else
     none
   else
    none
  else
   none
 else
  k0 (w21, w22)
def L125x0x30 (N : Nat) {R : Type} (w1 : LD) (w3 : Int) : Nat → Int → Bool → LD → (Bool × LD → Option R) → Option R
 | 0, _, _, _, _ => none
 | m + 1, w4, w21, w22, k0 => S125x0x30 N w1 w3 w4 w21 w22 (fun w4 w21 w22 => L125x0x30 N w1 w3 m w4 w21 w22 k0) k0
def G125x0x30 (w1 : LD) (w3 : Int) (w4 : Int) (w21 : Bool) (w22 : LD) : Option (Bool × LD) := L125x0x30 N (R := (Bool × LD)) w1 w3 N w4 w21 w22 (fun p => some p)
def J125x0x30 (L x : List Lf) (kr : List Lf → Option R) (k0 : Bool × LD → Option R) : Option R := S125x0x30 N (ll L 1) (li L 3) (li x 0) (lb x 1) (ll x 2) (fun w4 w21 w22 => kr [.i w4, .b w21, .l w22]) k0
theorem sb125x0x30 (L x : List Lf) (kr : List Lf → Option R) (k0 : Bool × LD → Option R) : J125x0x30 N L x kr k0 = (J125x0x30 N L x (fun y => some (.inl y)) (fun p => some (.inr p))).bind (sumE kr k0) := by
 unfold J125x0x30 S125x0x30
 repeat' (first | with_reducible apply cond_b | (with_reducible apply bnd_b; intro _) | rfl)
def Q125x0x30 (L : List Lf) (m : Nat) (x : List Lf) : Option (Bool × LD) := L125x0x30 N (R := (Bool × LD)) (ll L 1) (li L 3) m (li x 0) (lb x 1) (ll x 2) (fun p => some p)
def sh125x0x30 : Sh := { tmps := [(0, .c (.sl 5)), (4, .c (.p 4 0)), (7, .c (.p 7 0)), (8, .c (.p 8 0)), (9, .c (.i .i64)), (45, .c (.i .i64)), (46, .c (.i .i64))], mem := [(4, .box ([.i .i64, .i .i64, .i .i64, .sl 115, .sl 5])), (7, .box ([.i .i64, .i .i64, .i .i64, .sl 115, .sl 5])), (8, .box ([.b, .i .i64, .o 50008002])), (50008002, .row 136 true)] }
def K125x0x30w0 (L : List Lf) (p : Bool × LD) : Ex × St := ((.exit 0), mg (ofSh sh125x0x30 L) [4, 7, 8, 9] [] [4, 7, 8, 50008002] [(50008002, .row 136 true p.1 p.2)])
def A125x0x30 (L : List Lf) : List (Bool × (Ex × St)) := bnd (Q125x0x30 N L N (pk sh125x0x30 [4, 21, 22] L)) fun q => [(q.isSome, K125x0x30w0 L (q.getD default))]
theorem step125x0x30 (m : Nat) (kn : St → Option (Ex × St)) (L x : List Lf) : lpB Tryz.prog (T60x0 N) (h125x0s0 N).h 0 125 30 sh125x0x30 [4, 21, 22] [4, 5, 6, 8, 7, 9] [50008002, 8, 7, 4] (m + 100) kn L x = J125x0x30 N L x (fun y => kn (ofSh sh125x0x30 (mx sh125x0x30 [4, 21, 22] L y))) (fun p => some (K125x0x30w0 L p)) := by kernel_rfl
theorem ql125x0x30 (L : List Lf) (m : Nat) (x : List Lf) : Q125x0x30 N L (m + 1) x = J125x0x30 N L x (Q125x0x30 N L m) some := by kernel_rfl
def h125x0s1 : Sg Tryz.prog 0 125 :=
 (h125x0s0 N).lp (A125x0x30 N) N progOk (T60x0_ok N) (fun m kn L x => (step125x0x30 N m kn L x).trans (sb125x0x30 N L x _ _)) (fun L m x => (ql125x0x30 N L m x).trans (sb125x0x30 N L x (Q125x0x30 N L m) some)) fun L x hx => alt1 x hx
def F125x0 (v1 : LD) (k0 : Bool × LD × Int × Bool → Option R) : Option R :=
 bif (bif (inB 1 v1.length) then true else (!((decide ((v1.length : Int) < 5)) == false))) then
  bnd (bif (decide ((v1.length : Int) < 5)) then true else (decide ((v1.getD 1 (.i 0)).toI > 1))) fun y0 =>
  bif y0 then
   k0 (true, [], 0, false)
  else
   bif (inB 1 v1.length) then
    bif (decide (4 ≤ (v1.length : Int))) then
     bnd (G59x0 N ((v1.take 4).drop 2) ((v1.getD 1 (.i 0)).toI == 1)) fun y1 =>
     bif y1.isSome then
      bif (inB 4 v1.length) then
       bnd (IntKind.wrap .i64 (3 * (IntKind.wrap .i64 (v1.getD 4 (.i 0)).toI))) fun y2 =>
       bnd (decide ((v1.length : Int) < (IntKind.wrap .i64 (5 + y2)))) fun y3 =>
       bif y3 then
        k0 (true, [], 0, false)
       else
        bnd (G125x0x30 N v1 (IntKind.wrap .i64 (v1.getD 4 (.i 0)).toI) 0 true []) fun y4 =>
        bif y4.isSome then
         bnd (IntKind.wrap .i64 (3 * (IntKind.wrap .i64 (v1.getD 4 (.i 0)).toI))) fun y2 =>
         k0 (false, [(.a [(.b ((v1.getD 1 (.i 0)).toI == 1)), (.i (y1.getD default)), (.l (y4.getD default).1 (y4.getD default).2)])], (IntKind.wrap .i64 (5 + y2)), true)
        else
         none
      else
       none
     else
      none
    else
     none
   else
    none
 else
  none
def G125x0 (v1 : LD) : Option (Bool × LD × Int × Bool) := F125x0 N v1 (fun p => some p)
theorem bind125x0 (v1 : LD) (k0 : Bool × LD × Int × Bool → Option R) : F125x0 N v1 k0 = (G125x0 N v1).bind k0 := by
 unfold G125x0 F125x0
 repeat' (first | with_reducible apply cond_b | (with_reducible apply bnd_b; intro _) | rfl)
def sh125x0 : Sh := { tmps := [(0, .c (.sl 5)), (1, .c (.i .i64))], mem := [] }
def K125x0w0 (L : List Lf) (p : Bool × LD × Int × Bool) : Res := ([.g [.i .i64 1, .i .i64 (li L 2), .i .i64 0, .sl 115 p.1 p.2.1, .sl 5 true []], .c (.i .i64 p.2.2.1), .c (.b p.2.2.2)], [])
def A125x0 (L : List Lf) : List (Bool × Res) := bnd (F125x0 N (ll L 1) (fun p => some p)) fun q => [(q.isSome, K125x0w0 L (q.getD default))]
theorem raw125x0 (L : List Lf) : bd Tryz.prog (T60x0 N) (h125x0s1 N).h 125 sh125x0 L = F125x0 N (ll L 1) (fun p => some (K125x0w0 L p)) := by kernel_rfl
theorem ok125x0 : FnOk Tryz.prog 125 sh125x0 (A125x0 N) :=
 (h125x0s1 N).fn progOk (T60x0_ok N) fun L x hx => ((raw125x0 N L).trans ((bind125x0 N ..).trans (alt1 x hx)))
def T125x0 : Oracle := ext 125 (spSh sh125x0 (A125x0 N)) (T60x0 N)
theorem T125x0_ok : OracleOk Tryz.prog (T125x0 N) := FnOk.to (ok125x0 N) (T60x0_ok N)
def rg167x0 : List (Nat × List Nat) := [(0, [0]), (1, [1])]
def hd167x0 : Hints := []
def h167x0s0 (N : Nat) : Sg Tryz.prog 0 167 := .start hd167x0 rg167x0
def F167x0 (N : Nat) (v0 v1 v2 : Int) (k0 : Bool → R) : R :=
 bnd (bif (bif (v0 == 253) then (v2 == 0) else false) then (v1 == 4) else false) fun y0 =>
 k0 y0
def V167x0 (v0 v1 v2 : Int) : Bool := F167x0 N v0 v1 v2 (fun p => p)
theorem tot167x0 (v0 v1 v2 : Int) (k0 : Bool → R) : F167x0 N v0 v1 v2 k0 = k0 (V167x0 N v0 v1 v2) := by
 unfold V167x0 F167x0
 repeat' (first | rfl | apply cond_k | (apply bnd_k; intro _))
def sh167x0 : Sh := { tmps := [(0, .g ([.i .i64, .i .i64, .i .i64]))], mem := [] }
def A167x0 (L : List Lf) : List (Bool × Res) := bnd (F167x0 N (li L 0) (li L 1) (li L 2) (fun p => p)) fun q => [(true, ([.c (.b q)], []))]
theorem raw167x0 (L : List Lf) : bd Tryz.prog (T125x0 N) (h167x0s0 N).h 167 sh167x0 L = F167x0 N (li L 0) (li L 1) (li L 2) (fun p => some ([.c (.b p)], [])) := by kernel_rfl
theorem ok167x0 : FnOk Tryz.prog 167 sh167x0 (A167x0 N) :=
 (h167x0s0 N).fn progOk (T125x0_ok N) fun L x hx => ((raw167x0 N L).trans ((tot167x0 N ..).trans (alt0 _ _ hx)))
def T167x0 : Oracle := ext 167 (spSh sh167x0 (A167x0 N)) (T125x0 N)
theorem T167x0_ok : OracleOk Tryz.prog (T167x0 N) := FnOk.to (ok167x0 N) (T125x0_ok N)
def rg126x0 : List (Nat × List Nat) := [(0, [0]), (1, [1]), (2, [1, 4]), (3, [10, 9, 8, 4]), (4, [8, 10, 4, 9]), (5, [6, 4, 10, 9, 8]), (6, [4]), (7, [4, 6, 10, 9, 8]), (8, [10, 9, 8, 4]), (9, [])]
def hd126x0 : Hints := [(9, [10, 9, 8, 4], [], [])]
def h126x0s0 (N : Nat) : Sg Tryz.prog 0 126 := .start hd126x0 rg126x0
def S126x0x9 (w2 : LD) (w3 : Int) (w0 w4 : Int) (kr : Int → Int → Option R) (k0 : Int → Option R) (k1 : Unit → Option R) : Option R :=
 bif (decide (w4 < w3)) then
  bif (inB w4 w2.length) then
   bnd (V167x0 N ((w2.getD w4.toNat (.i 0)).cell 0).toI ((w2.getD w4.toNat (.i 0)).cell 1).toI ((w2.getD w4.toNat (.i 0)).cell 2).toI) fun y0 =>
   bif y0 then
    k0 w0
   else
    bnd (IntKind.wrap .i64 (w0 + ((w2.getD w4.toNat (.i 0)).cell 1).toI)) fun y1 =>
    kr y1 (IntKind.wrap .i64 (w4 + 1))
  else
   none
 else
  k1 ()
def L126x0x9 (N : Nat) {R : Type} (w2 : LD) (w3 : Int) : Nat → Int → Int → (Int → Option R) → (Unit → Option R) → Option R
 | 0, _, _, _, _ => none
 | m + 1, w0, w4, k0, k1 => S126x0x9 N w2 w3 w0 w4 (fun w0 w4 => L126x0x9 N w2 w3 m w0 w4 k0 k1) k0 k1
def G126x0x9 (w2 : LD) (w3 : Int) (w0 w4 : Int) : Option (Sum (Int) (Unit)) := L126x0x9 N (R := (Sum (Int) (Unit))) w2 w3 N w0 w4 (fun p => some (.inl p)) (fun p => some (.inr p))
def J126x0x9 (L x : List Lf) (kr : List Lf → Option R) (k0 : Int → Option R) (k1 : Unit → Option R) : Option R := S126x0x9 N (ll L 2) (li L 3) (li x 0) (li x 1) (fun w0 w4 => kr [.i w0, .i w4]) k0 k1
theorem sb126x0x9 (L x : List Lf) (kr : List Lf → Option R) (k0 : Int → Option R) (k1 : Unit → Option R) : J126x0x9 N L x kr k0 k1 = (J126x0x9 N L x (fun y => some (.inl y)) (fun p => some (.inr (.inl p))) (fun p => some (.inr (.inr p)))).bind (sumE kr (sumE k0 k1)) := by
 unfold J126x0x9 S126x0x9
 repeat' (first | with_reducible apply cond_b | (with_reducible apply bnd_b; intro _) | rfl)
def Q126x0x9 (L : List Lf) (m : Nat) (x : List Lf) : Option (Sum (Int) (Unit)) := L126x0x9 N (R := (Sum (Int) (Unit))) (ll L 2) (li L 3) m (li x 0) (li x 1) (fun p => some (.inl p)) (fun p => some (.inr p))
def sh126x0x9 : Sh := { tmps := [(4, .c (.i .i64)), (8, .c (.sl 136)), (9, .c (.i .i64)), (10, .c (.i .i64))], mem := [] }
def A126x0x9 (L : List Lf) : List (Bool × (Ex × St)) := bnd (Q126x0x9 N L N (pk sh126x0x9 [0, 4] L)) fun q => [((inlB q), (.ret, ⟨[(2, .c (.i .i64 (inlV q))), (3, .c (.b true))], []⟩)), ((inrQ q).isSome, ((.exit 0), ⟨[], []⟩))]
theorem step126x0x9 (m : Nat) (kn : St → Option (Ex × St)) (L x : List Lf) : lpB Tryz.prog (T167x0 N) (h126x0s0 N).h 0 126 9 sh126x0x9 [0, 4] [2, 3] [] (m + 100) kn L x = J126x0x9 N L x (fun y => kn (ofSh sh126x0x9 (mx sh126x0x9 [0, 4] L y))) (fun p => some (.ret, ⟨[(2, .c (.i .i64 p)), (3, .c (.b true))], []⟩)) (fun _ => some ((.exit 0), ⟨[], []⟩)) := by kernel_rfl
theorem ql126x0x9 (L : List Lf) (m : Nat) (x : List Lf) : Q126x0x9 N L (m + 1) x = J126x0x9 N L x (Q126x0x9 N L m) (fun p => some (.inl p)) (fun p => some (.inr p)) := by kernel_rfl
def h126x0s1 : Sg Tryz.prog 0 126 :=
 (h126x0s0 N).lp (A126x0x9 N) N progOk (T167x0_ok N) (fun m kn L x => (step126x0x9 N m kn L x).trans (sb126x0x9 N L x _ _ _)) (fun L m x => (ql126x0x9 N L m x).trans (sb126x0x9 N L x (Q126x0x9 N L m) (fun p => some (.inl p)) (fun p => some (.inr p)))) fun L x hx => (altS alt1) x hx
def F126x0 (v3 : LD) (k0 : Int × Bool → Option R) : Option R :=
 bnd (G126x0x9 N v3 (v3.length : Int) 0 0) fun y0 =>
 bif (inlB y0) then
  k0 ((inlV y0), true)
 else
  bif (inrQ y0).isSome then
   k0 (0, false)
  else
   none
def G126x0 (v3 : LD) : Option (Int × Bool) := F126x0 N v3 (fun p => some p)
theorem bind126x0 (v3 : LD) (k0 : Int × Bool → Option R) : F126x0 N v3 k0 = (G126x0 N v3).bind k0 := by
 unfold G126x0 F126x0
 repeat' (first | with_reducible apply cond_b | (with_reducible apply bnd_b; intro _) | rfl)
def sh126x0 : Sh := { tmps := [(0, .g ([.b, .i .i64, .sl 136]))], mem := [] }
def A126x0 (L : List Lf) : List (Bool × Res) := bnd (F126x0 N (ll L 3) (fun p => some p)) fun q => [(q.isSome, ([.c (.i .i64 (q.getD default).1), .c (.b (q.getD default).2)], []))]
theorem raw126x0 (L : List Lf) : bd Tryz.prog (T167x0 N) (h126x0s1 N).h 126 sh126x0 L = F126x0 N (ll L 3) (fun p => some ([.c (.i .i64 p.1), .c (.b p.2)], [])) := by kernel_rfl
theorem ok126x0 : FnOk Tryz.prog 126 sh126x0 (A126x0 N) :=
 (h126x0s1 N).fn progOk (T167x0_ok N) fun L x hx => ((raw126x0 N L).trans ((bind126x0 N ..).trans (alt1 x hx)))
def T126x0 : Oracle := ext 126 (spSh sh126x0 (A126x0 N)) (T167x0 N)
theorem T126x0_ok : OracleOk Tryz.prog (T126x0 N) := FnOk.to (ok126x0 N) (T167x0_ok N)
def rg128x0 : List (Nat × List Nat) := [(0, [0, 1]), (1, [1, 2]), (2, [1, 2, 5]), (3, [2, 6, 5]), (4, [13, 12, 11, 6, 5]), (5, [11, 13, 6, 12, 5]), (6, [6, 8, 13, 12, 11, 5]), (7, [13, 12, 11, 5]), (8, [5, 8, 13, 12, 11, 6]), (9, [13, 12, 11, 6, 5]), (10, [5])]
def hd128x0 : Hints := [(12, [13, 12, 11, 6, 5], [5], [5]), (19, [6, 8, 13, 12, 11, 5], [8, 5], [])]
def h128x0s0 (N : Nat) : Sg Tryz.prog 0 128 := .start hd128x0 rg128x0
def F128x0x19 (w0 : Bool) (w7 w8 w9 : Int) (k0 : Bool → R) : R :=
 bif w0 then
  bnd (V167x0 N w7 w8 w9) fun y0 =>
  k0 y0
 else
  k0 false
def V128x0x19 (w0 : Bool) (w7 w8 w9 : Int) : Bool := F128x0x19 N w0 w7 w8 w9 (fun p => p)
theorem tot128x0x19 (w0 : Bool) (w7 w8 w9 : Int) (k0 : Bool → R) : F128x0x19 N w0 w7 w8 w9 k0 = k0 (V128x0x19 N w0 w7 w8 w9) := by
 unfold V128x0x19 F128x0x19
 repeat' (first | rfl | apply cond_k | (apply bnd_k; intro _))
def J128x0x19 (L : List Lf) (k0 : Bool → R) : R := F128x0x19 N (lb L 0) (li L 7) (li L 8) (li L 9) k0
def sh128x0x19 : Sh := { tmps := [(5, .c (.o 5)), (6, .c (.b)), (8, .c (.p 8 0)), (11, .c (.sl 136)), (12, .c (.i .i64)), (13, .c (.i .i64))], mem := [(5, .row 136 true), (8, .box ([.i .i64, .i .i64, .i .i64]))] }
def K128x0x19w0 (L : List Lf) (p : Bool) : Ex × St := (.normal, mg (ofSh sh128x0x19 L) [5, 6, 8, 11, 12, 13, 21] [(21, .c (.b p))] [5, 8] [])
def A128x0x19 (L : List Lf) : List (Bool × (Ex × St)) := bnd (J128x0x19 N L (fun p => p)) fun q => [(true, K128x0x19w0 L q)]
theorem raw128x0x19 (L : List Lf) : pc Tryz.prog (T126x0 N) (h128x0s0 N).h 0 100 128 19 sh128x0x19 L [13, 12, 11, 5, 8, 6, 21] [8, 5] = J128x0x19 N L (fun p => some (K128x0x19w0 L p)) := by kernel_rfl
def h128x0s1 : Sg Tryz.prog 0 128 :=
 (h128x0s0 N).cut (A128x0x19 N) progOk (T126x0_ok N) fun L x hx => (raw128x0x19 N L).trans ((tot128x0x19 N ..).trans (alt0 _ _ hx))
def S128x0x12 (w2 : LD) (w3 : Int) (w0 : Bool) (w4 : Int) (w5 : Bool) (w6 : LD) (kr : Bool → Int → Bool → LD → Option R) (k0 : Bool × LD → Option R) : Option R :=
 bif (decide (w4 < w3)) then
  bif (inB w4 w2.length) then
   bnd (V128x0x19 N w0 ((w2.getD w4.toNat (.i 0)).cell 0).toI ((w2.getD w4.toNat (.i 0)).cell 1).toI ((w2.getD w4.toNat (.i 0)).cell 2).toI) fun y0 =>
   bif y0 then
    kr false (IntKind.wrap .i64 (w4 + 1)) w5 w6
   else
    bif (decide ((w6.length + 1) * 24 ≤ room) && decide ((w6.length + 1) ≤ strMax)) then
     bnd ((w6 ++ [(.a [(.i ((w2.getD w4.toNat (.i 0)).cell 0).toI), (.i ((w2.getD w4.toNat (.i 0)).cell 1).toI), (.i ((w2.getD w4.toNat (.i 0)).cell 2).toI)])]) : List D) fun y1 =>
     kr w0 (IntKind.wrap .i64 (w4 + 1)) false y1
    else
     none
  else
   none
 else
  k0 (w5, w6)
def L128x0x12 (N : Nat) {R : Type} (w2 : LD) (w3 : Int) : Nat → Bool → Int → Bool → LD → (Bool × LD → Option R) → Option R
 | 0, _, _, _, _, _ => none
 | m + 1, w0, w4, w5, w6, k0 => S128x0x12 N w2 w3 w0 w4 w5 w6 (fun w0 w4 w5 w6 => L128x0x12 N w2 w3 m w0 w4 w5 w6 k0) k0
def G128x0x12 (w2 : LD) (w3 : Int) (w0 : Bool) (w4 : Int) (w5 : Bool) (w6 : LD) : Option (Bool × LD) := L128x0x12 N (R := (Bool × LD)) w2 w3 N w0 w4 w5 w6 (fun p => some p)
def J128x0x12 (L x : List Lf) (kr : List Lf → Option R) (k0 : Bool × LD → Option R) : Option R := S128x0x12 N (ll L 2) (li L 3) (lb x 0) (li x 1) (lb x 2) (ll x 3) (fun w0 w4 w5 w6 => kr [.b w0, .i w4, .b w5, .l w6]) k0
theorem sb128x0x12 (L x : List Lf) (kr : List Lf → Option R) (k0 : Bool × LD → Option R) : J128x0x12 N L x kr k0 = (J128x0x12 N L x (fun y => some (.inl y)) (fun p => some (.inr p))).bind (sumE kr k0) := by
 unfold J128x0x12 S128x0x12
 repeat' (first | with_reducible apply cond_b | (with_reducible apply bnd_b; intro _) | rfl)
def Q128x0x12 (L : List Lf) (m : Nat) (x : List Lf) : Option (Bool × LD) := L128x0x12 N (R := (Bool × LD)) (ll L 2) (li L 3) m (lb x 0) (li x 1) (lb x 2) (ll x 3) (fun p => some p)
def sh128x0x12 : Sh := { tmps := [(5, .c (.o 5)), (6, .c (.b)), (11, .c (.sl 136)), (12, .c (.i .i64)), (13, .c (.i .i64))], mem := [(5, .row 136 true)] }
def K128x0x12w0 (L : List Lf) (p : Bool × LD) : Ex × St := ((.exit 0), ⟨[(5, .c (.o 5))], [(5, .row 136 true p.1 p.2)]⟩)
def A128x0x12 (L : List Lf) : List (Bool × (Ex × St)) := bnd (Q128x0x12 N L N (pk sh128x0x12 [0, 4, 5, 6] L)) fun q => [(q.isSome, K128x0x12w0 L (q.getD default))]
theorem step128x0x12 (m : Nat) (kn : St → Option (Ex × St)) (L x : List Lf) : lpB Tryz.prog (T126x0 N) (h128x0s1 N).h 0 128 12 sh128x0x12 [0, 4, 5, 6] [4, 5] [5] (m + 100) kn L x = J128x0x12 N L x (fun y => kn (ofSh sh128x0x12 (mx sh128x0x12 [0, 4, 5, 6] L y))) (fun p => some (K128x0x12w0 L p)) := by kernel_rfl
theorem ql128x0x12 (L : List Lf) (m : Nat) (x : List Lf) : Q128x0x12 N L (m + 1) x = J128x0x12 N L x (Q128x0x12 N L m) some := by kernel_rfl
def h128x0s2 : Sg Tryz.prog 0 128 :=
 (h128x0s1 N).lp (A128x0x12 N) N progOk (T126x0_ok N) (fun m kn L x => (step128x0x12 N m kn L x).trans (sb128x0x12 N L x _ _)) (fun L m x => (ql128x0x12 N L m x).trans (sb128x0x12 N L x (Q128x0x12 N L m) some)) fun L x hx => alt1 x hx
def F128x0 (v3 : LD) (v4 : Bool) (k0 : Bool × LD → Option R) : Option R :=
 bnd (G128x0x12 N v3 (v3.length : Int) v4 0 true []) fun y0 =>
 bif y0.isSome then
  k0 (y0.getD default)
 else
  none
def G128x0 (v3 : LD) (v4 : Bool) : Option (Bool × LD) := F128x0 N v3 v4 (fun p => some p)
theorem bind128x0 (v3 : LD) (v4 : Bool) (k0 : Bool × LD → Option R) : F128x0 N v3 v4 k0 = (G128x0 N v3 v4).bind k0 := by
 unfold G128x0 F128x0
 repeat' (first | with_reducible apply cond_b | (with_reducible apply bnd_b; intro _) | rfl)
def sh128x0 : Sh := { tmps := [(0, .g ([.b, .i .i64, .sl 136])), (1, .c (.b))], mem := [] }
def A128x0 (L : List Lf) : List (Bool × Res) := bnd (F128x0 N (ll L 3) (lb L 4) (fun p => some p)) fun q => [(q.isSome, ([.c (.sl 136 (q.getD default).1 (q.getD default).2)], []))]
theorem raw128x0 (L : List Lf) : bd Tryz.prog (T126x0 N) (h128x0s2 N).h 128 sh128x0 L = F128x0 N (ll L 3) (lb L 4) (fun p => some ([.c (.sl 136 p.1 p.2)], [])) := by kernel_rfl
theorem ok128x0 : FnOk Tryz.prog 128 sh128x0 (A128x0 N) :=
 (h128x0s2 N).fn progOk (T126x0_ok N) fun L x hx => ((raw128x0 N L).trans ((bind128x0 N ..).trans (alt1 x hx)))
def T128x0 : Oracle := ext 128 (spSh sh128x0 (A128x0 N)) (T126x0 N)
theorem T128x0_ok : OracleOk Tryz.prog (T128x0 N) := FnOk.to (ok128x0 N) (T126x0_ok N)
def rg127x0 : List (Nat × List Nat) := [(0, [0]), (1, [0]), (2, [0, 3]), (3, [8, 7, 6, 3]), (4, [6, 8, 3, 7]), (5, [3, 5, 8, 7, 6]), (6, [8, 7, 6, 3]), (7, [3])]
def hd127x0 : Hints := [(9, [8, 7, 6, 3], [], [])]
def h127x0s0 (N : Nat) : Sg Tryz.prog 0 127 := .start hd127x0 rg127x0
def S127x0x9 (N : Nat) (w2 : LD) (w3 : Int) (w0 w4 : Int) (kr : Int → Int → Option R) (k0 : Int → Option R) : Option R :=
 bif (decide (w4 < w3)) then
  bif (inB w4 w2.length) then
   bnd (IntKind.wrap .i64 (w0 + ((w2.getD w4.toNat (.i 0)).cell 1).toI)) fun y0 =>
   kr y0 (IntKind.wrap .i64 (w4 + 1))
  else
   none
 else
  k0 w0
def L127x0x9 (N : Nat) {R : Type} (w2 : LD) (w3 : Int) : Nat → Int → Int → (Int → Option R) → Option R
 | 0, _, _, _ => none
 | m + 1, w0, w4, k0 => S127x0x9 N w2 w3 w0 w4 (fun w0 w4 => L127x0x9 N w2 w3 m w0 w4 k0) k0
def G127x0x9 (w2 : LD) (w3 : Int) (w0 w4 : Int) : Option (Int) := L127x0x9 N (R := (Int)) w2 w3 N w0 w4 (fun p => some p)
def J127x0x9 (L x : List Lf) (kr : List Lf → Option R) (k0 : Int → Option R) : Option R := S127x0x9 N (ll L 2) (li L 3) (li x 0) (li x 1) (fun w0 w4 => kr [.i w0, .i w4]) k0
theorem sb127x0x9 (L x : List Lf) (kr : List Lf → Option R) (k0 : Int → Option R) : J127x0x9 N L x kr k0 = (J127x0x9 N L x (fun y => some (.inl y)) (fun p => some (.inr p))).bind (sumE kr k0) := by
 unfold J127x0x9 S127x0x9
 repeat' (first | with_reducible apply cond_b | (with_reducible apply bnd_b; intro _) | rfl)
def Q127x0x9 (L : List Lf) (m : Nat) (x : List Lf) : Option (Int) := L127x0x9 N (R := (Int)) (ll L 2) (li L 3) m (li x 0) (li x 1) (fun p => some p)
def sh127x0x9 : Sh := { tmps := [(3, .c (.i .i64)), (6, .c (.sl 136)), (7, .c (.i .i64)), (8, .c (.i .i64))], mem := [] }
def A127x0x9 (L : List Lf) : List (Bool × (Ex × St)) := bnd (Q127x0x9 N L N (pk sh127x0x9 [0, 4] L)) fun q => [(q.isSome, ((.exit 0), ⟨[(3, .c (.i .i64 (q.getD default)))], []⟩))]
theorem step127x0x9 (m : Nat) (kn : St → Option (Ex × St)) (L x : List Lf) : lpB Tryz.prog (T128x0 N) (h127x0s0 N).h 0 127 9 sh127x0x9 [0, 4] [2, 3] [] (m + 100) kn L x = J127x0x9 N L x (fun y => kn (ofSh sh127x0x9 (mx sh127x0x9 [0, 4] L y))) (fun p => some ((.exit 0), ⟨[(3, .c (.i .i64 p))], []⟩)) := by kernel_rfl
theorem ql127x0x9 (L : List Lf) (m : Nat) (x : List Lf) : Q127x0x9 N L (m + 1) x = J127x0x9 N L x (Q127x0x9 N L m) some := by kernel_rfl
def h127x0s1 : Sg Tryz.prog 0 127 :=
 (h127x0s0 N).lp (A127x0x9 N) N progOk (T128x0_ok N) (fun m kn L x => (step127x0x9 N m kn L x).trans (sb127x0x9 N L x _ _)) (fun L m x => (ql127x0x9 N L m x).trans (sb127x0x9 N L x (Q127x0x9 N L m) some)) fun L x hx => alt1 x hx
def F127x0 (v1 : LD) (k0 : Int → Option R) : Option R :=
 bnd (G127x0x9 N v1 (v1.length : Int) 0 0) fun y0 =>
 bif y0.isSome then
  k0 (y0.getD default)
 else
  none
def G127x0 (v1 : LD) : Option (Int) := F127x0 N v1 (fun p => some p)
theorem bind127x0 (v1 : LD) (k0 : Int → Option R) : F127x0 N v1 k0 = (G127x0 N v1).bind k0 := by
 unfold G127x0 F127x0
 repeat' (first | with_reducible apply cond_b | (with_reducible apply bnd_b; intro _) | rfl)
def sh127x0 : Sh := { tmps := [(0, .c (.sl 136))], mem := [] }
def A127x0 (L : List Lf) : List (Bool × Res) := bnd (F127x0 N (ll L 1) (fun p => some p)) fun q => [(q.isSome, ([.c (.i .i64 (q.getD default))], []))]
theorem raw127x0 (L : List Lf) : bd Tryz.prog (T128x0 N) (h127x0s1 N).h 127 sh127x0 L = F127x0 N (ll L 1) (fun p => some ([.c (.i .i64 p)], [])) := by kernel_rfl
theorem ok127x0 : FnOk Tryz.prog 127 sh127x0 (A127x0 N) :=
 (h127x0s1 N).fn progOk (T128x0_ok N) fun L x hx => ((raw127x0 N L).trans ((bind127x0 N ..).trans (alt1 x hx)))
def T127x0 : Oracle := ext 127 (spSh sh127x0 (A127x0 N)) (T128x0 N)
theorem T127x0_ok : OracleOk Tryz.prog (T127x0 N) := FnOk.to (ok127x0 N) (T128x0_ok N)
def rg61x0 : List (Nat × List Nat) := [(0, [1, 0]), (1, [1, 4, 0]), (2, [4]), (3, [1, 0, 4]), (4, [7, 0, 4, 1]), (6, [7, 8, 0, 4, 1]), (8, [7, 8, 4, 1, 0]), (10, [7, 1, 4, 8, 0]), (5, [7, 8, 0, 4, 1]), (11, [1, 7, 4]), (9, [8, 4]), (7, [7, 8, 0, 4, 1]), (12, [0, 8, 4, 1]), (13, [8, 4]), (14, [0, 8, 4, 1]), (15, [9, 8, 4, 1]), (16, [8, 11, 4, 9, 1]), (17, [8, 4]), (18, [9, 8, 1, 4]), (19, [1, 12, 8, 4]), (20, [8, 4]), (21, [1, 12, 8, 4]), (22, [8, 12, 4])]
def hd61x0 : Hints := [(24023, [7, 8, 0, 4, 1, 24], [9, 5, 0], [])]
def h61x0s0 (N : Nat) : Sg Tryz.prog 1 61 := .start hd61x0 rg61x0
def F61x0x24023 (w1 : LD) (w2 : Int) (w3 : Bool) (k0 : Int × Int × Int → Option R) (k1 : Unit → Option R) (k2 : Int × Bool × Int × Bool × LD → Option R) : Option R :=
 bif w3 then
  k0 (3, (IntKind.wrap .i64 ((IntKind.wrap .i64 (w2 - 128)).tdiv 32)), (w2.tmod 32))
 else
  bnd (bif (decide (w2 ≥ 80)) then true else (bif (decide (w2 ≥ 16)) then (decide (w2 < 64)) else false)) fun y0 =>
  bif y0 then
   k1 ()
  else
   bif (decide (w2 ≥ 64)) then
    bnd (G125x0 N w1) fun y1 =>
    bif y1.isSome then
     k2 ((y1.getD default).2.2.1, (y1.getD default).2.2.2, (IntKind.wrap .i64 (w2 - 64)), (y1.getD default).1, (y1.getD default).2.1)
    else
     none
   else
    k0 (2, w2, 0)
def G61x0x24023 (w1 : LD) (w2 : Int) (w3 : Bool) : Option (Sum (Int × Int × Int) (Sum (Unit) (Int × Bool × Int × Bool × LD))) := F61x0x24023 N w1 w2 w3 (fun p => some (.inl p)) (fun p => some (.inr (.inl p))) (fun p => some (.inr (.inr p)))
theorem bind61x0x24023 (w1 : LD) (w2 : Int) (w3 : Bool) (k0 : Int × Int × Int → Option R) (k1 : Unit → Option R) (k2 : Int × Bool × Int × Bool × LD → Option R) : F61x0x24023 N w1 w2 w3 k0 k1 k2 = (G61x0x24023 N w1 w2 w3).bind (sumE k0 (sumE k1 k2)) := by
 unfold G61x0x24023 F61x0x24023
 repeat' (first | with_reducible apply cond_b | (with_reducible apply bnd_b; intro _) | rfl)
def sh61x0x24023 : Sh := { tmps := [(0, .c (.p 0 0)), (1, .c (.sl 5)), (4, .c (.p 5 0)), (7, .c (.i .i64)), (8, .c (.p 9 0)), (24, .c (.b))], mem := [(0, .dat 118), (5, .box ([.i .i64, .i .i64, .i .i64, .sl 115, .sl 5])), (9, .box ([.i .i64, .i .i64, .i .i64, .sl 115, .sl 5]))] }
def K61x0x24023w0 (L : List Lf) (p : Int × Int × Int) : Ex × St := (.normal, mg (ofSh sh61x0x24023 L) [0, 1, 4, 8] [] [0, 5, 9] [(9, .box [.i .i64 p.1, .i .i64 p.2.1, .i .i64 p.2.2, .sl 115 true [], .sl 5 true []])])
def K61x0x24023w1 (L : List Lf) (_ : Unit) : Ex × St := (.ret, mg (ofSh sh61x0x24023 L) [4, 5, 6, 8] [(5, .c (.i .i64 0)), (6, .c (.b false))] [0, 5, 9] [(5, .box [.i .i64 (li L 12), .i .i64 (li L 13), .i .i64 (li L 14), .sl 115 (lb L 15) (ll L 16), .sl 5 (lb L 17) (ll L 18)])])
def K61x0x24023w2 (L : List Lf) (p : Int × Bool × Int × Bool × LD) : Ex × St := (.ret, mg (ofSh sh61x0x24023 L) [1, 4, 5, 6] [(5, .c (.i .i64 p.1)), (6, .c (.b p.2.1))] [0, 5, 9] [(5, .box [.i .i64 1, .i .i64 p.2.2.1, .i .i64 0, .sl 115 p.2.2.2.1 p.2.2.2.2, .sl 5 true []])])
def A61x0x24023 (L : List Lf) : List (Bool × (Ex × St)) := bnd (F61x0x24023 N (ll L 1) (li L 2) (lb L 3) (fun p => some (.inl p)) (fun p => some (.inr (.inl p))) (fun p => some (.inr (.inr p)))) fun q => [((inlB q), K61x0x24023w0 L (inlV q)), ((inlB (inrQ q)), K61x0x24023w1 L ()), ((inrQ (inrQ q)).isSome, K61x0x24023w2 L ((inrQ (inrQ q)).getD default))]
theorem raw61x0x24023 (L : List Lf) : pc Tryz.prog (T127x0 N) (h61x0s0 N).h 1 100 61 24023 sh61x0x24023 L [0, 8, 4, 1, 5, 6] [9, 5, 0] = F61x0x24023 N (ll L 1) (li L 2) (lb L 3) (fun p => some (K61x0x24023w0 L p)) (fun _ => some (K61x0x24023w1 L ())) (fun p => some (K61x0x24023w2 L p)) := by kernel_rfl
def h61x0s1 : Sg Tryz.prog 1 61 :=
 (h61x0s0 N).cut (A61x0x24023 N) progOk (T127x0_ok N) fun L x hx => (raw61x0x24023 N L).trans ((bind61x0x24023 N ..).trans ((altS (altS alt1)) x hx))
def F61x0 (v1 : LD) (v2 : D) (k0 : Ty3 → Option R) : Option R :=
 bif ((v1.length : Int) == 0) then
  k0 (0, 0, 0, true, [], true, [], 0, false)
 else
  bif (inB 0 v1.length) then
   bnd (G61x0x24023 N v1 (IntKind.wrap .i64 (v1.getD 0 (.i 0)).toI) (decide ((IntKind.wrap .i64 (v1.getD 0 (.i 0)).toI) ≥ 128))) fun y0 =>
   bif (inlB y0) then
    bif (inB (inlV y0).2.1 16) then
     bif (!(v2.cell (0 + ((inlV y0).2.1.toNat * 1))).toB) then
      k0 ((inlV y0).1, (inlV y0).2.1, (inlV y0).2.2, true, [], true, [], 0, false)
     else
      bif (inB (inlV y0).2.1 16) then
       bnd (G126x0 N (v2.cell (18 + ((inlV y0).2.1.toNat * 3))).items) fun y1 =>
       bif y1.isSome then
        bnd (bif ((inlV y0).1 == 3) then (!(y1.getD default).2) else false) fun y2 =>
        bif y2 then
         k0 ((inlV y0).1, (inlV y0).2.1, (inlV y0).2.2, true, [], true, [], 0, false)
        else
         bnd (G128x0 N (v2.cell (18 + ((inlV y0).2.1.toNat * 3))).items ((inlV y0).1 == 3)) fun y3 =>
         bif y3.isSome then
          bnd (G127x0 N (y3.getD default).2) fun y4 =>
          bif y4.isSome then
           bnd (decide ((v1.length : Int) < (IntKind.wrap .i64 (1 + (y4.getD default))))) fun y5 =>
           bif y5 then
            k0 ((inlV y0).1, (inlV y0).2.1, (inlV y0).2.2, true, [], true, [], 0, false)
           else
            bif ((decide (1 ≤ (IntKind.wrap .i64 (1 + (y4.getD default))))) && (decide ((IntKind.wrap .i64 (1 + (y4.getD default))) ≤ (v1.length : Int)))) then
             bnd (((v1.take (IntKind.wrap .i64 (1 + (y4.getD default))).toNat).drop 1) : List D) fun y6 =>
             bif (decide ((0 + y6.length) * 1 ≤ room) && decide ((0 + y6.length) ≤ strMax)) then
              k0 ((inlV y0).1, (inlV y0).2.1, (inlV y0).2.2, true, [], (y6.isEmpty && false), y6, (IntKind.wrap .i64 (1 + (y4.getD default))), true)
             else
              none
            else
             none
          else
           none
         else
          none
       else
        none
      else
       none
    else
     none
   else
    bif (inlB (inrQ y0)) then
     k0 (0, 0, 0, true, [], true, [], 0, false)
    else
     bif (inrQ (inrQ y0)).isSome then
      k0 (1, ((inrQ (inrQ y0)).getD default).2.2.1, 0, ((inrQ (inrQ y0)).getD default).2.2.2.1, ((inrQ (inrQ y0)).getD default).2.2.2.2, true, [], ((inrQ (inrQ y0)).getD default).1, ((inrQ (inrQ y0)).getD default).2.1)
     else
      none
  else
   none
def G61x0 (v1 : LD) (v2 : D) : Option (Ty3) := F61x0 N v1 v2 (fun p => some p)
theorem bind61x0 (v1 : LD) (v2 : D) (k0 : Ty3 → Option R) : F61x0 N v1 v2 k0 = (G61x0 N v1 v2).bind k0 := by
 unfold G61x0 F61x0
 repeat' (first | with_reducible apply cond_b | (with_reducible apply bnd_b; intro _) | rfl)
def sh61x0 : Sh := { tmps := [(0, .c (.p 0 0)), (1, .c (.sl 5))], mem := [(0, .dat 118)] }
def K61x0w0 (L : List Lf) (p : Ty3) : Res := let p1 := p.2; let p2 := p1.2; let p3 := p2.2; let p4 := p3.2; let p5 := p4.2; let p6 := p5.2; let p7 := p6.2; let p8 := p7.2; ([.g [.i .i64 p.1, .i .i64 p1.1, .i .i64 p2.1, .sl 115 p3.1 p4.1, .sl 5 p5.1 p6.1], .c (.i .i64 p7.1), .c (.b p8)], [(0, .dat 118 (ld L 2))])
def A61x0 (L : List Lf) : List (Bool × Res) := bnd (F61x0 N (ll L 1) (ld L 2) (fun p => some p)) fun q => [(q.isSome, K61x0w0 L (q.getD default))]
theorem raw61x0 (L : List Lf) : bd Tryz.prog (T127x0 N) (h61x0s1 N).h 61 sh61x0 L = F61x0 N (ll L 1) (ld L 2) (fun p => some (K61x0w0 L p)) := by kernel_rfl
theorem ok61x0 : FnOk Tryz.prog 61 sh61x0 (A61x0 N) :=
 (h61x0s1 N).fn progOk (T127x0_ok N) fun L x hx => ((raw61x0 N L).trans ((bind61x0 N ..).trans (alt1 x hx)))
def T61x0 : Oracle := ext 61 (spSh sh61x0 (A61x0 N)) (T127x0 N)
theorem T61x0_ok : OracleOk Tryz.prog (T61x0 N) := FnOk.to (ok61x0 N) (T127x0_ok N)
def rg62x0 : List (Nat × List Nat) := [(0, [1, 0]), (1, [3, 0]), (2, [10, 0, 3]), (5, [10, 0, 3]), (6, [0, 3]), (7, [0]), (3, [0, 3]), (4, []), (8, [0, 3]), (9, [5, 3, 0]), (10, [7, 3, 6, 5, 0]), (11, []), (12, [3, 6, 5, 0]), (13, [8, 0]), (14, []), (15, [0, 8]), (16, [8])]
def hd62x0 : Hints := []
def h62x0s0 (N : Nat) : Sg Tryz.prog 1 62 := .start hd62x0 rg62x0
def F62x0 (v0 v1 v2 : Int) (v4 v6 : LD) (v7 : D) (k0 : Int × D → Option R) : Option R :=
 bif (v0 == 1) then
  bif (inB 0 v4.length) then
   bif (inB v1 16) then
    bif (inB v1 16) then
     bnd (((((v7.put (0 + (v1.toNat * 1)) (.b true)).put (16 + (v1.toNat * 3)) (.b ((v4.getD 0 (.i 0)).cell 0).toB)).put (17 + (v1.toNat * 3)) (.i ((v4.getD 0 (.i 0)).cell 1).toI)).put (18 + (v1.toNat * 3)) (.l ((v4.getD 0 (.i 0)).cell 2).isNil ((v4.getD 0 (.i 0)).cell 2).items)) : D) fun y0 =>
     k0 ((-1), y0)
    else
     none
   else
    none
  else
   none
 else
  bif (v0 == 3) then
   bnd (IntKind.wrap .i64 ((IntKind.wrap .i64 (v2 - ((v7.cell 64).toI.tmod 32))) + 32)) fun y1 =>
   bnd ((v7.put 64 (.i (IntKind.wrap .i64 ((v7.cell 64).toI + (y1.tmod 32))))) : D) fun y2 =>
   k0 ((y2.cell 64).toI, y2)
  else
   bif (inB v1 16) then
    bnd (G126x0 N (v7.cell (18 + (v1.toNat * 3))).items) fun y3 =>
    bif y3.isSome then
     bif (!(y3.getD default).2) then
      k0 ((-1), v7)
     else
      bif (((decide (0 ≤ (y3.getD default).1)) && (decide ((y3.getD default).1 ≤ (IntKind.wrap .i64 ((y3.getD default).1 + 4))))) && (decide ((IntKind.wrap .i64 ((y3.getD default).1 + 4)) ≤ (v6.length : Int)))) then
       bnd (((v6.take (IntKind.wrap .i64 ((y3.getD default).1 + 4)).toNat).drop (y3.getD default).1.toNat) : List D) fun y4 =>
       bnd (G59x0 N y4 (v7.cell (16 + (v1.toNat * 3))).toB) fun y5 =>
       bif y5.isSome then
        bif ((y5.getD default) == 4294967295) then
         k0 ((-1), v7)
        else
         k0 ((y5.getD default), (v7.put 64 (.i (y5.getD default))))
       else
        none
      else
       none
    else
     none
   else
    none
def G62x0 (v0 v1 v2 : Int) (v4 v6 : LD) (v7 : D) : Option (Int × D) := F62x0 N v0 v1 v2 v4 v6 v7 (fun p => some p)
theorem bind62x0 (v0 v1 v2 : Int) (v4 v6 : LD) (v7 : D) (k0 : Int × D → Option R) : F62x0 N v0 v1 v2 v4 v6 v7 k0 = (G62x0 N v0 v1 v2 v4 v6 v7).bind k0 := by
 unfold G62x0 F62x0
 repeat' (first | with_reducible apply cond_b | (with_reducible apply bnd_b; intro _) | rfl)
def J62x0 (L : List Lf) (k0 : Int × D → Option R) : Option R := F62x0 N (li L 0) (li L 1) (li L 2) (ll L 4) (ll L 6) (ld L 7) k0
def sh62x0 : Sh := { tmps := [(0, .c (.p 0 0)), (1, .g ([.i .i64, .i .i64, .i .i64, .sl 115, .sl 5]))], mem := [(0, .dat 118)] }
def A62x0 (L : List Lf) : List (Bool × Res) := bnd (J62x0 N L (fun p => some p)) fun q => [(q.isSome, ([.c (.i .i64 (q.getD default).1)], [(0, .dat 118 (q.getD default).2)]))]
theorem raw62x0 (L : List Lf) : bd Tryz.prog (T61x0 N) (h62x0s0 N).h 62 sh62x0 L = J62x0 N L (fun p => some ([.c (.i .i64 p.1)], [(0, .dat 118 p.2)])) := by kernel_rfl
theorem ok62x0 : FnOk Tryz.prog 62 sh62x0 (A62x0 N) :=
 (h62x0s0 N).fn progOk (T61x0_ok N) fun L x hx => ((raw62x0 N L).trans ((bind62x0 N ..).trans (alt1 x hx)))
def T62x0 : Oracle := ext 62 (spSh sh62x0 (A62x0 N)) (T61x0 N)
theorem T62x0_ok : OracleOk Tryz.prog (T62x0 N) := FnOk.to (ok62x0 N) (T61x0_ok N)
def rg132x0 : List (Nat × List Nat) := [(0, [0, 1, 2]), (1, [0, 1, 2])]
def hd132x0 : Hints := []
def h132x0s0 (N : Nat) : Sg Tryz.prog 0 132 := .start hd132x0 rg132x0
def F132x0 (N : Nat) (v0 v1 v2 : Int) (k0 : Bool → R) : R :=
 k0 (bif (decide (v0 < v1)) then true else (decide (v0 > v2)))
def V132x0 (v0 v1 v2 : Int) : Bool := F132x0 N v0 v1 v2 (fun p => p)
theorem tot132x0 (v0 v1 v2 : Int) (k0 : Bool → R) : F132x0 N v0 v1 v2 k0 = k0 (V132x0 N v0 v1 v2) := by
 unfold V132x0 F132x0
 repeat' (first | rfl | apply cond_k | (apply bnd_k; intro _))
def sh132x0 : Sh := { tmps := [(0, .c (.i .i64)), (1, .c (.i .i64)), (2, .c (.i .i64))], mem := [] }
def A132x0 (L : List Lf) : List (Bool × Res) := bnd (F132x0 N (li L 0) (li L 1) (li L 2) (fun p => p)) fun q => [(true, ([.c (.b q)], []))]
theorem raw132x0 (L : List Lf) : bd Tryz.prog (T62x0 N) (h132x0s0 N).h 132 sh132x0 L = F132x0 N (li L 0) (li L 1) (li L 2) (fun p => some ([.c (.b p)], [])) := by kernel_rfl
theorem ok132x0 : FnOk Tryz.prog 132 sh132x0 (A132x0 N) :=
 (h132x0s0 N).fn progOk (T62x0_ok N) fun L x hx => ((raw132x0 N L).trans ((tot132x0 N ..).trans (alt0 _ _ hx)))
def T132x0 : Oracle := ext 132 (spSh sh132x0 (A132x0 N)) (T62x0 N)
theorem T132x0_ok : OracleOk Tryz.prog (T132x0 N) := FnOk.to (ok132x0 N) (T62x0_ok N)
def rg168x0 : List (Nat × List Nat) := [(0, [0]), (1, [1]), (2, []), (3, [1]), (4, []), (5, [1]), (6, [17, 16, 15, 1]), (7, [17, 15, 1, 16]), (8, [4, 1, 3, 17, 16, 15]), (10, [4, 1, 3, 17, 16, 15]), (12, [4, 1, 3, 17, 16, 15]), (13, []), (11, []), (9, []), (14, [1, 3, 4, 17, 16, 15]), (15, [59, 58, 57, 4, 17, 16, 15, 1]), (16, [57, 59, 4, 58, 17, 16, 15, 1]), (17, [6, 4, 59, 58, 57, 17, 16, 15, 1]), (18, []), (19, [59, 58, 57, 4, 17, 16, 15, 1]), (20, [17, 16, 15, 1]), (21, [])]
def hd168x0 : Hints := [(18, [17, 16, 15, 1], [1], []), (25, [4, 1, 3, 17, 16, 15], [4, 1], []), (45, [59, 58, 57, 4, 17, 16, 15, 1], [4, 1], [])]
def h168x0s0 (N : Nat) : Sg Tryz.prog 0 168 := .start hd168x0 rg168x0
def F168x0x25 (w9 w10 : Int) (k0 : Bool → R) : R :=
 bnd (V132x0 N w9 0 255) fun y0 =>
 bif y0 then
  k0 true
 else
  bnd (V132x0 N w10 1 255) fun y1 =>
  k0 y1
def V168x0x25 (w9 w10 : Int) : Bool := F168x0x25 N w9 w10 (fun p => p)
theorem tot168x0x25 (w9 w10 : Int) (k0 : Bool → R) : F168x0x25 N w9 w10 k0 = k0 (V168x0x25 N w9 w10) := by
 unfold V168x0x25 F168x0x25
 repeat' (first | rfl | apply cond_k | (apply bnd_k; intro _))
def sh168x0x25 : Sh := { tmps := [(1, .c (.p 1 0)), (3, .c (.i .i64)), (4, .c (.p 4 0)), (15, .c (.sl 136)), (16, .c (.i .i64)), (17, .c (.i .i64))], mem := [(1, .box ([.b, .i .i64, .sl 136])), (4, .box ([.i .i64, .i .i64, .i .i64]))] }
def K168x0x25w0 (L : List Lf) (p : Bool) : Ex × St := (.normal, mg (ofSh sh168x0x25 L) [1, 3, 4, 15, 16, 17, 22] [(22, .c (.b p))] [1, 4] [])
def A168x0x25 (L : List Lf) : List (Bool × (Ex × St)) := bnd (F168x0x25 N (li L 9) (li L 10) (fun p => p)) fun q => [(true, K168x0x25w0 L q)]
theorem raw168x0x25 (L : List Lf) : pc Tryz.prog (T132x0 N) (h168x0s0 N).h 0 100 168 25 sh168x0x25 L [4, 1, 3, 17, 16, 15, 22] [4, 1] = F168x0x25 N (li L 9) (li L 10) (fun p => some (K168x0x25w0 L p)) := by kernel_rfl
def h168x0s1 : Sg Tryz.prog 0 168 :=
 (h168x0s0 N).cut (A168x0x25 N) progOk (T132x0_ok N) fun L x hx => (raw168x0x25 N L).trans ((tot168x0x25 N ..).trans (alt0 _ _ hx))
def S168x0x45 (N : Nat) (w5 : LD) (w6 w12 : Int) (w7 : Int) (kr : Int → Option R) (k0 : Unit → Option R) (k1 : Unit → Option R) : Option R :=
 bif (decide (w7 < w6)) then
  bif (inB w7 w5.length) then
   bif (((w5.getD w7.toNat (.i 0)).cell 0).toI == w12) then
    k0 ()
   else
    kr (IntKind.wrap .i64 (w7 + 1))
  else
   none
 else
  k1 ()
def L168x0x45 (N : Nat) {R : Type} (w5 : LD) (w6 w12 : Int) : Nat → Int → (Unit → Option R) → (Unit → Option R) → Option R
 | 0, _, _, _ => none
 | m + 1, w7, k0, k1 => S168x0x45 N w5 w6 w12 w7 (fun w7 => L168x0x45 N w5 w6 w12 m w7 k0 k1) k0 k1
def G168x0x45 (w5 : LD) (w6 w12 : Int) (w7 : Int) : Option (Sum (Unit) (Unit)) := L168x0x45 N (R := (Sum (Unit) (Unit))) w5 w6 w12 N w7 (fun p => some (.inl p)) (fun p => some (.inr p))
def J168x0x45 (L x : List Lf) (kr : List Lf → Option R) (k0 : Unit → Option R) (k1 : Unit → Option R) : Option R := S168x0x45 N (ll L 5) (li L 6) (li L 12) (li x 0) (fun w7 => kr [.i w7]) k0 k1
theorem sb168x0x45 (L x : List Lf) (kr : List Lf → Option R) (k0 : Unit → Option R) (k1 : Unit → Option R) : J168x0x45 N L x kr k0 k1 = (J168x0x45 N L x (fun y => some (.inl y)) (fun p => some (.inr (.inl p))) (fun p => some (.inr (.inr p)))).bind (sumE kr (sumE k0 k1)) := by
 unfold J168x0x45 S168x0x45
 repeat' (first | with_reducible apply cond_b | (with_reducible apply bnd_b; intro _) | rfl)
def Q168x0x45 (L : List Lf) (m : Nat) (x : List Lf) : Option (Sum (Unit) (Unit)) := L168x0x45 N (R := (Sum (Unit) (Unit))) (ll L 5) (li L 6) (li L 12) m (li x 0) (fun p => some (.inl p)) (fun p => some (.inr p))
def sh168x0x45 : Sh := { tmps := [(1, .c (.p 1 0)), (4, .c (.p 4 0)), (15, .c (.sl 136)), (16, .c (.i .i64)), (17, .c (.i .i64)), (57, .c (.sl 136)), (58, .c (.i .i64)), (59, .c (.i .i64))], mem := [(1, .box ([.b, .i .i64, .sl 136])), (4, .box ([.i .i64, .i .i64, .i .i64]))] }
def K168x0x45w0 (L : List Lf) (_ : Unit) : Ex × St := (.ret, mg (ofSh sh168x0x45 L) [2] [(2, .c (.i .i64 5))] [1] [])
def K168x0x45w1 (L : List Lf) (_ : Unit) : Ex × St := ((.exit 3), mg (ofSh sh168x0x45 L) [1, 15, 16, 17] [] [1] [])
def A168x0x45 (L : List Lf) : List (Bool × (Ex × St)) := bnd (Q168x0x45 N L N (pk sh168x0x45 [7] L)) fun q => [((inlB q), K168x0x45w0 L ()), ((inrQ q).isSome, K168x0x45w1 L ())]
theorem step168x0x45 (m : Nat) (kn : St → Option (Ex × St)) (L x : List Lf) : lpB Tryz.prog (T132x0 N) (h168x0s1 N).h 0 168 45 sh168x0x45 [7] [2, 17, 16, 15, 1] [1] (m + 100) kn L x = J168x0x45 N L x (fun y => kn (ofSh sh168x0x45 (mx sh168x0x45 [7] L y))) (fun _ => some (K168x0x45w0 L ())) (fun _ => some (K168x0x45w1 L ())) := by kernel_rfl
theorem ql168x0x45 (L : List Lf) (m : Nat) (x : List Lf) : Q168x0x45 N L (m + 1) x = J168x0x45 N L x (Q168x0x45 N L m) (fun p => some (.inl p)) (fun p => some (.inr p)) := by kernel_rfl
def h168x0s2 : Sg Tryz.prog 0 168 :=
 (h168x0s1 N).lp (A168x0x45 N) N progOk (T132x0_ok N) (fun m kn L x => (step168x0x45 N m kn L x).trans (sb168x0x45 N L x _ _ _)) (fun L m x => (ql168x0x45 N L m x).trans (sb168x0x45 N L x (Q168x0x45 N L m) (fun p => some (.inl p)) (fun p => some (.inr p)))) fun L x hx => (altS alt1) x hx
def S168x0x18 (w1 : LD) (w2 : Int) (w7 : LD) (w3 : Int) (kr : Int → Option R) (k0 : Int → Option R) (k1 : Unit → Option R) : Option R :=
 bif (decide (w3 < w2)) then
  bif (inB w3 w1.length) then
   bnd (V168x0x25 N ((w1.getD w3.toNat (.i 0)).cell 0).toI ((w1.getD w3.toNat (.i 0)).cell 1).toI) fun y0 =>
   bif y0 then
    k0 9
   else
    bnd (V132x0 N ((w1.getD w3.toNat (.i 0)).cell 2).toI 0 3) fun y1 =>
    bif y1 then
     k0 7
    else
     bnd (bif (decide (((w1.getD w3.toNat (.i 0)).cell 2).toI ≤ 1)) then (((w1.getD w3.toNat (.i 0)).cell 1).toI != 1) else false) fun y2 =>
     bnd (bif y2 then (((w1.getD w3.toNat (.i 0)).cell 1).toI != 2) else false) fun y3 =>
     bnd (bif y3 then (((w1.getD w3.toNat (.i 0)).cell 1).toI != 4) else false) fun y4 =>
     bif y4 then
      k0 2
     else
      bif ((decide (0 ≤ w3)) && (decide (w3 ≤ (w7.length : Int)))) then
       bnd (G168x0x45 N ((w7.take w3.toNat).drop 0) (((w7.take w3.toNat).drop 0).length : Int) ((w1.getD w3.toNat (.i 0)).cell 0).toI 0) fun y5 =>
       bif (inlB y5) then
        k0 5
       else
        bif (inrQ y5).isSome then
         kr (IntKind.wrap .i64 (w3 + 1))
        else
         none
      else
       none
  else
   none
 else
  k1 ()
def L168x0x18 (N : Nat) {R : Type} (w1 : LD) (w2 : Int) (w7 : LD) : Nat → Int → (Int → Option R) → (Unit → Option R) → Option R
 | 0, _, _, _ => none
 | m + 1, w3, k0, k1 => S168x0x18 N w1 w2 w7 w3 (fun w3 => L168x0x18 N w1 w2 w7 m w3 k0 k1) k0 k1
def G168x0x18 (w1 : LD) (w2 : Int) (w7 : LD) (w3 : Int) : Option (Sum (Int) (Unit)) := L168x0x18 N (R := (Sum (Int) (Unit))) w1 w2 w7 N w3 (fun p => some (.inl p)) (fun p => some (.inr p))
def J168x0x18 (L x : List Lf) (kr : List Lf → Option R) (k0 : Int → Option R) (k1 : Unit → Option R) : Option R := S168x0x18 N (ll L 1) (li L 2) (ll L 7) (li x 0) (fun w3 => kr [.i w3]) k0 k1
end
end Go.Proofs.YtngnemeafkmaoaaGreat
