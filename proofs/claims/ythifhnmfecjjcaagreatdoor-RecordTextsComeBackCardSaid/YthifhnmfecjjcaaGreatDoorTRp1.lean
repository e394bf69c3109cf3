/- Functions of the program as plain Lean definitions, each with the proof that the program computes it. No condition. Printed by a program of the prover, part 1. -/
import Derived.Test.YthifhnmfecjjcaaGreatDoorHk1
import Derived.Test.YthifhnmfecjjcaaGreatDoorChecked
import Derived.KernelRfl
set_option linter.all false
set_option maxRecDepth 100000
namespace Go.Proofs.YthifhnmfecjjcaaGreatDoor
open Go Go.AM
noncomputable section
variable (N : Nat) {R : Type}
abbrev LD : Type := List D
abbrev LB : Type := List UInt8
abbrev Ty0 : Type := Int × Int × Int × Bool × LD × Bool × LD × Bool
abbrev Ty1 : Type := LB × LB × Bool
def sh30x0 : Sh := splitSh
def A30x0 (N : Nat) (L : List Lf) : List (Bool × Res) := splitA L
theorem ok30x0 : FnOk Tryz.prog 30 sh30x0 (A30x0 N) := split_fn
def T30x0 : Oracle := ext 30 (spSh sh30x0 (A30x0 N)) noOracle
theorem T30x0_ok : OracleOk Tryz.prog (T30x0 N) := FnOk.to (ok30x0 N) noOracle_ok
def sh59x0 : Sh := atoiSh
def A59x0 (N : Nat) (L : List Lf) : List (Bool × Res) := atoiA L
theorem ok59x0 : FnOk Tryz.prog 59 sh59x0 (A59x0 N) := atoi_fn
def T59x0 : Oracle := ext 59 (spSh sh59x0 (A59x0 N)) (T30x0 N)
theorem T59x0_ok : OracleOk Tryz.prog (T59x0 N) := FnOk.to (ok59x0 N) (T30x0_ok N)
def sh21x0 : Sh := itoaSh
def A21x0 (N : Nat) (L : List Lf) : List (Bool × Res) := itoaA L
theorem ok21x0 : FnOk Tryz.prog 21 sh21x0 (A21x0 N) := itoa_fn
def T21x0 : Oracle := ext 21 (spSh sh21x0 (A21x0 N)) (T59x0 N)
theorem T21x0_ok : OracleOk Tryz.prog (T21x0 N) := FnOk.to (ok21x0 N) (T59x0_ok N)
def rg34x0 : List (Nat × List Nat) := [(0, []), (1, [])]
def hd34x0 : Hints := []
def h34x0s0 (N : Nat) : Sg Tryz.prog 0 34 := .start hd34x0 rg34x0
def F34x0 (N : Nat) (k0 : D → R) : R :=
 k0 (.a [(.b false), (.b false), (.i 0), (.l true []), (.i 0), (.i 0), (.b false), (.b false), (.i 0), (.l true []), (.i 0), (.i 0), (.b false), (.b false), (.i 0), (.l true []), (.i 0), (.i 0), (.b false), (.b false), (.i 0), (.l true []), (.i 0), (.i 0), (.b false), (.b false), (.i 0), (.l true []), (.i 0), (.i 0), (.b false), (.b false), (.i 0), (.l true []), (.i 0), (.i 0), (.b false), (.b false), (.i 0), (.l true []), (.i 0), (.i 0), (.b false), (.b false), (.i 0), (.l true []), (.i 0), (.i 0), (.b false), (.b false), (.i 0), (.l true []), (.i 0), (.i 0), (.b false), (.b false), (.i 0), (.l true []), (.i 0), (.i 0), (.b false), (.b false), (.i 0), (.l true []), (.i 0), (.i 0), (.b false), (.b false), (.i 0), (.l true []), (.i 0), (.i 0), (.b false), (.b false), (.i 0), (.l true []), (.i 0), (.i 0), (.b false), (.b false), (.i 0), (.l true []), (.i 0), (.i 0), (.b false), (.b false), (.i 0), (.l true []), (.i 0), (.i 0), (.b false), (.b false), (.i 0), (.l true []), (.i 0), (.i 0), (.i (-1))])
def V34x0 : D := F34x0 N (fun p => p)
theorem tot34x0 (k0 : D → R) : F34x0 N k0 = k0 (V34x0 N) := by
 unfold V34x0 F34x0
 repeat' (first | rfl | apply cond_k | (apply bnd_k; intro _))
def sh34x0 : Sh := { tmps := [], mem := [] }
def A34x0 (L : List Lf) : List (Bool × Res) := bnd (F34x0 N (fun p => p)) fun q => [(true, ([.c (.p 2 0)], [(2, .dat 121 q)]))]
theorem raw34x0 (L : List Lf) : bd Tryz.prog (T21x0 N) (h34x0s0 N).h 34 sh34x0 L = F34x0 N (fun p => some ([.c (.p 2 0)], [(2, .dat 121 p)])) := by kernel_rfl
theorem ok34x0 : FnOk Tryz.prog 34 sh34x0 (A34x0 N) :=
 (h34x0s0 N).fn progOk (T21x0_ok N) fun L x hx => ((raw34x0 N L).trans ((tot34x0 N ..).trans (alt0 _ _ hx)))
def T34x0 : Oracle := ext 34 (spSh sh34x0 (A34x0 N)) (T21x0 N)
theorem T34x0_ok : OracleOk Tryz.prog (T34x0 N) := FnOk.to (ok34x0 N) (T21x0_ok N)
def rg61x0 : List (Nat × List Nat) := [(0, [0, 1, 2]), (1, [0, 1, 2])]
def hd61x0 : Hints := []
def h61x0s0 (N : Nat) : Sg Tryz.prog 0 61 := .start hd61x0 rg61x0
def F61x0 (N : Nat) (v0 v1 v2 : Int) (k0 : Bool → R) : R :=
 k0 (bif (decide (v0 ≥ v1)) then (decide (v0 ≤ v2)) else false)
def V61x0 (v0 v1 v2 : Int) : Bool := F61x0 N v0 v1 v2 (fun p => p)
theorem tot61x0 (v0 v1 v2 : Int) (k0 : Bool → R) : F61x0 N v0 v1 v2 k0 = k0 (V61x0 N v0 v1 v2) := by
 unfold V61x0 F61x0
 repeat' (first | rfl | apply cond_k | (apply bnd_k; intro _))
def sh61x0 : Sh := { tmps := [(0, .c (.i .i64)), (1, .c (.i .i64)), (2, .c (.i .i64))], mem := [] }
def A61x0 (L : List Lf) : List (Bool × Res) := bnd (F61x0 N (li L 0) (li L 1) (li L 2) (fun p => p)) fun q => [(true, ([.c (.b q)], []))]
theorem raw61x0 (L : List Lf) : bd Tryz.prog (T34x0 N) (h61x0s0 N).h 61 sh61x0 L = F61x0 N (li L 0) (li L 1) (li L 2) (fun p => some ([.c (.b p)], [])) := by kernel_rfl
theorem ok61x0 : FnOk Tryz.prog 61 sh61x0 (A61x0 N) :=
 (h61x0s0 N).fn progOk (T34x0_ok N) fun L x hx => ((raw61x0 N L).trans ((tot61x0 N ..).trans (alt0 _ _ hx)))
def T61x0 : Oracle := ext 61 (spSh sh61x0 (A61x0 N)) (T34x0 N)
theorem T61x0_ok : OracleOk Tryz.prog (T61x0 N) := FnOk.to (ok61x0 N) (T34x0_ok N)
def rg89x0 : List (Nat × List Nat) := [(0, [0, 1]), (1, [2, 1])]
def hd89x0 : Hints := []
def h89x0s0 (N : Nat) : Sg Tryz.prog 1 89 := .start hd89x0 rg89x0
def F89x0 (N : Nat) (v0 v3 : Int) (k0 : Bool → R) : R :=
 k0 (v0 == v3)
def V89x0 (v0 v3 : Int) : Bool := F89x0 N v0 v3 (fun p => p)
theorem tot89x0 (v0 v3 : Int) (k0 : Bool → R) : F89x0 N v0 v3 k0 = k0 (V89x0 N v0 v3) := by
 unfold V89x0 F89x0
 repeat' (first | rfl | apply cond_k | (apply bnd_k; intro _))
def sh89x0 : Sh := { tmps := [(0, .g ([.i .i64, .i .i64, .i .i64])), (1, .c (.p 0 0))], mem := [(0, .box ([.i .i64, .i .i64, .i .i64]))] }
def A89x0 (L : List Lf) : List (Bool × Res) := bnd (F89x0 N (li L 0) (li L 3) (fun p => p)) fun q => [(true, ([.c (.b q)], mgA (ofSh sh89x0 L).mem [] [0]))]
theorem raw89x0 (L : List Lf) : bd Tryz.prog (T61x0 N) (h89x0s0 N).h 89 sh89x0 L = F89x0 N (li L 0) (li L 3) (fun p => some ([.c (.b p)], mgA (ofSh sh89x0 L).mem [] [0])) := by kernel_rfl
theorem ok89x0 : FnOk Tryz.prog 89 sh89x0 (A89x0 N) :=
 (h89x0s0 N).fn progOk (T61x0_ok N) fun L x hx => ((raw89x0 N L).trans ((tot89x0 N ..).trans (alt0 _ _ hx)))
def T89x0 : Oracle := ext 89 (spSh sh89x0 (A89x0 N)) (T61x0 N)
theorem T89x0_ok : OracleOk Tryz.prog (T89x0 N) := FnOk.to (ok89x0 N) (T61x0_ok N)
def rg107x0 : List (Nat × List Nat) := [(0, [0, 1]), (1, [0, 1]), (2, [8, 7, 1, 0]), (3, [8, 1, 0, 7]), (4, [1, 0, 5, 8, 7]), (5, [5]), (6, [8, 7, 1, 0]), (7, [])]
def hd107x0 : Hints := [(6, [0, 1, 7, 8], [0], [])]
def h107x0s0 (N : Nat) : Sg Tryz.prog 1 107 := .start hd107x0 rg107x0
def S107x0x6 (w1 : LD) (w2 w4 : Int) (w3 : Int) (kr : Int → Option R) (k0 : Int → Option R) (k1 : Unit → Option R) : Option R :=
 bif (decide (w3 < w2)) then
  bif (inB w3 w1.length) then
   bnd (V89x0 N ((w1.getD w3.toNat (.i 0)).cell 0).toI w4) fun y0 =>
   bif y0 then
    k0 w3
   else
    kr (IntKind.wrap .i64 (w3 + 1))
  else
   none
 else
  k1 ()
def L107x0x6 (N : Nat) {R : Type} (w1 : LD) (w2 w4 : Int) : Nat → Int → (Int → Option R) → (Unit → Option R) → Option R
 | 0, _, _, _ => none
 | m + 1, w3, k0, k1 => S107x0x6 N w1 w2 w4 w3 (fun w3 => L107x0x6 N w1 w2 w4 m w3 k0 k1) k0 k1
def G107x0x6 (w1 : LD) (w2 w4 : Int) (w3 : Int) : Option (Sum (Int) (Unit)) := L107x0x6 N (R := (Sum (Int) (Unit))) w1 w2 w4 N w3 (fun p => some (.inl p)) (fun p => some (.inr p))
def J107x0x6 (L x : List Lf) (kr : List Lf → Option R) (k0 : Int → Option R) (k1 : Unit → Option R) : Option R := S107x0x6 N (ll L 1) (li L 2) (li L 4) (li x 0) (fun w3 => kr [.i w3]) k0 k1
theorem sb107x0x6 (L x : List Lf) (kr : List Lf → Option R) (k0 : Int → Option R) (k1 : Unit → Option R) : J107x0x6 N L x kr k0 k1 = (J107x0x6 N L x (fun y => some (.inl y)) (fun p => some (.inr (.inl p))) (fun p => some (.inr (.inr p)))).bind (sumE kr (sumE k0 k1)) := by
 unfold J107x0x6 S107x0x6
 repeat' (first | with_reducible apply cond_b | (with_reducible apply bnd_b; intro _) | rfl)
def Q107x0x6 (L : List Lf) (m : Nat) (x : List Lf) : Option (Sum (Int) (Unit)) := L107x0x6 N (R := (Sum (Int) (Unit))) (ll L 1) (li L 2) (li L 4) m (li x 0) (fun p => some (.inl p)) (fun p => some (.inr p))
def sh107x0x6 : Sh := { tmps := [(0, .c (.sl 71)), (1, .c (.f 89 [(0, 0)])), (7, .c (.i .i64)), (8, .c (.i .i64))], mem := [(0, .box ([.i .i64, .i .i64, .i .i64]))] }
def K107x0x6w0 (L : List Lf) (p : Int) : Ex × St := (.ret, mg (ofSh sh107x0x6 L) [4] [(4, .c (.i .i64 p))] [0] [])
def A107x0x6 (L : List Lf) : List (Bool × (Ex × St)) := bnd (Q107x0x6 N L N (pk sh107x0x6 [3] L)) fun q => [((inlB q), K107x0x6w0 L (inlV q)), ((inrQ q).isSome, ((.exit 0), mg (ofSh sh107x0x6 L) [] [] [0] []))]
theorem step107x0x6 (m : Nat) (kn : St → Option (Ex × St)) (L x : List Lf) : lpB Tryz.prog (T89x0 N) (h107x0s0 N).h 1 107 6 sh107x0x6 [3] [4] [0] (m + 100) kn L x = J107x0x6 N L x (fun y => kn (ofSh sh107x0x6 (mx sh107x0x6 [3] L y))) (fun p => some (K107x0x6w0 L p)) (fun _ => some ((.exit 0), mg (ofSh sh107x0x6 L) [] [] [0] [])) := by kernel_rfl
theorem ql107x0x6 (L : List Lf) (m : Nat) (x : List Lf) : Q107x0x6 N L (m + 1) x = J107x0x6 N L x (Q107x0x6 N L m) (fun p => some (.inl p)) (fun p => some (.inr p)) := by kernel_rfl
def h107x0s1 : Sg Tryz.prog 1 107 :=
 (h107x0s0 N).lp (A107x0x6 N) N progOk (T89x0_ok N) (fun m kn L x => (step107x0x6 N m kn L x).trans (sb107x0x6 N L x _ _ _)) (fun L m x => (ql107x0x6 N L m x).trans (sb107x0x6 N L x (Q107x0x6 N L m) (fun p => some (.inl p)) (fun p => some (.inr p)))) fun L x hx => (altS alt1) x hx
def F107x0 (v1 : LD) (v2 : Int) (k0 : Int → Option R) : Option R :=
 bnd (G107x0x6 N v1 (v1.length : Int) v2 0) fun y0 =>
 bif (inlB y0) then
  k0 (inlV y0)
 else
  bif (inrQ y0).isSome then
   k0 (-1)
  else
   none
def G107x0 (v1 : LD) (v2 : Int) : Option (Int) := F107x0 N v1 v2 (fun p => some p)
theorem bind107x0 (v1 : LD) (v2 : Int) (k0 : Int → Option R) : F107x0 N v1 v2 k0 = (G107x0 N v1 v2).bind k0 := by
 unfold G107x0 F107x0
 repeat' (first | with_reducible apply cond_b | (with_reducible apply bnd_b; intro _) | rfl)
def sh107x0 : Sh := { tmps := [(0, .c (.sl 71)), (1, .c (.f 89 [(0, 0)]))], mem := [(0, .box ([.i .i64, .i .i64, .i .i64]))] }
def A107x0 (L : List Lf) : List (Bool × Res) := bnd (F107x0 N (ll L 1) (li L 2) (fun p => some p)) fun q => [(q.isSome, ([.c (.i .i64 (q.getD default))], mgA (ofSh sh107x0 L).mem [] [0]))]
theorem raw107x0 (L : List Lf) : bd Tryz.prog (T89x0 N) (h107x0s1 N).h 107 sh107x0 L = F107x0 N (ll L 1) (li L 2) (fun p => some ([.c (.i .i64 p)], mgA (ofSh sh107x0 L).mem [] [0])) := by kernel_rfl
theorem ok107x0 : FnOk Tryz.prog 107 sh107x0 (A107x0 N) :=
 (h107x0s1 N).fn progOk (T89x0_ok N) fun L x hx => ((raw107x0 N L).trans ((bind107x0 N ..).trans (alt1 x hx)))
def T107x0 : Oracle := ext 107 (spSh sh107x0 (A107x0 N)) (T89x0 N)
theorem T107x0_ok : OracleOk Tryz.prog (T107x0 N) := FnOk.to (ok107x0 N) (T89x0_ok N)
def rg88x0 : List (Nat × List Nat) := [(0, [0, 1]), (1, [0, 1])]
def hd88x0 : Hints := []
def h88x0s0 (N : Nat) : Sg Tryz.prog 1 88 := .start hd88x0 rg88x0
def F88x0 (v1 : LD) (v2 : Int) (k0 : Bool → Option R) : Option R :=
 bnd (G107x0 N v1 v2) fun y0 =>
 bif y0.isSome then
  k0 (decide ((y0.getD default) ≥ 0))
 else
  none
def G88x0 (v1 : LD) (v2 : Int) : Option (Bool) := F88x0 N v1 v2 (fun p => some p)
theorem bind88x0 (v1 : LD) (v2 : Int) (k0 : Bool → Option R) : F88x0 N v1 v2 k0 = (G88x0 N v1 v2).bind k0 := by
 unfold G88x0 F88x0
 repeat' (first | with_reducible apply cond_b | (with_reducible apply bnd_b; intro _) | rfl)
def sh88x0 : Sh := { tmps := [(0, .c (.sl 71)), (1, .c (.f 89 [(0, 0)]))], mem := [(0, .box ([.i .i64, .i .i64, .i .i64]))] }
def A88x0 (L : List Lf) : List (Bool × Res) := bnd (F88x0 N (ll L 1) (li L 2) (fun p => some p)) fun q => [(q.isSome, ([.c (.b (q.getD default))], mgA (ofSh sh88x0 L).mem [] [0]))]
theorem raw88x0 (L : List Lf) : bd Tryz.prog (T107x0 N) (h88x0s0 N).h 88 sh88x0 L = F88x0 N (ll L 1) (li L 2) (fun p => some ([.c (.b p)], mgA (ofSh sh88x0 L).mem [] [0])) := by kernel_rfl
theorem ok88x0 : FnOk Tryz.prog 88 sh88x0 (A88x0 N) :=
 (h88x0s0 N).fn progOk (T107x0_ok N) fun L x hx => ((raw88x0 N L).trans ((bind88x0 N ..).trans (alt1 x hx)))
def T88x0 : Oracle := ext 88 (spSh sh88x0 (A88x0 N)) (T107x0 N)
theorem T88x0_ok : OracleOk Tryz.prog (T88x0 N) := FnOk.to (ok88x0 N) (T107x0_ok N)
def rg62x0 : List (Nat × List Nat) := [(0, [0]), (1, [1]), (3, [1]), (4, []), (2, []), (5, [1]), (6, [19, 18, 17, 1]), (7, [19, 17, 1, 18]), (8, [4, 1, 3, 19, 18, 17]), (9, [4, 5, 1, 3, 19, 18, 17]), (11, [4, 5, 1, 3, 19, 18, 17]), (13, [5, 4, 1, 3, 19, 18, 17]), (15, [1, 3, 4, 19, 18, 17]), (16, []), (14, []), (12, []), (10, []), (17, [19, 18, 17, 1]), (18, [])]
def hd62x0 : Hints := [(18, [1, 17, 18, 19], [1], []), (28, [1, 3, 4, 5, 17, 18, 19], [1, 4], [])]
def h62x0s0 (N : Nat) : Sg Tryz.prog 0 62 := .start hd62x0 rg62x0
def F62x0x28 (w10 w11 : Int) (k0 : Bool → R) : R :=
 bnd (V61x0 N w10 0 255) fun y0 =>
 bif (!y0) then
  k0 true
 else
  bnd (V61x0 N w11 1 255) fun y1 =>
  k0 (!y1)
def V62x0x28 (w10 w11 : Int) : Bool := F62x0x28 N w10 w11 (fun p => p)
theorem tot62x0x28 (w10 w11 : Int) (k0 : Bool → R) : F62x0x28 N w10 w11 k0 = k0 (V62x0x28 N w10 w11) := by
 unfold V62x0x28 F62x0x28
 repeat' (first | rfl | apply cond_k | (apply bnd_k; intro _))
def sh62x0x28 : Sh := { tmps := [(1, .c (.p 1 0)), (3, .c (.i .i64)), (4, .c (.p 4 0)), (5, .c (.b)), (17, .c (.sl 71)), (18, .c (.i .i64)), (19, .c (.i .i64))], mem := [(1, .box ([.b, .i .i64, .sl 71])), (4, .box ([.i .i64, .i .i64, .i .i64]))] }
def K62x0x28w0 (L : List Lf) (p : Bool) : Ex × St := (.normal, mg (ofSh sh62x0x28 L) [4, 5, 1, 3, 19, 18, 17, 32] [(32, .c (.b p))] [4, 1] [])
def A62x0x28 (L : List Lf) : List (Bool × (Ex × St)) := bnd (F62x0x28 N (li L 10) (li L 11) (fun p => p)) fun q => [(true, K62x0x28w0 L q)]
theorem raw62x0x28 (L : List Lf) : pc Tryz.prog (T88x0 N) (h62x0s0 N).h 0 100 62 28 sh62x0x28 L [4, 5, 1, 3, 19, 18, 17, 32] [4, 1] = F62x0x28 N (li L 10) (li L 11) (fun p => some (K62x0x28w0 L p)) := by kernel_rfl
def h62x0s1 : Sg Tryz.prog 0 62 :=
 (h62x0s0 N).cut (A62x0x28 N) progOk (T88x0_ok N) fun L x hx => (raw62x0x28 N L).trans ((tot62x0x28 N ..).trans (alt0 _ _ hx))
def S62x0x18 (w1 : LD) (w2 : Int) (w7 : LD) (w3 : Int) (kr : Int → Option R) (k0 : Int → Option R) (k1 : Unit → Option R) : Option R :=
 bif (decide (w3 < w2)) then
  bif (inB w3 w1.length) then
   bnd (bif (((w1.getD w3.toNat (.i 0)).cell 2).toI == 0) then true else (((w1.getD w3.toNat (.i 0)).cell 2).toI == 1)) fun y0 =>
   bnd (V62x0x28 N ((w1.getD w3.toNat (.i 0)).cell 0).toI ((w1.getD w3.toNat (.i 0)).cell 1).toI) fun y1 =>
   bif y1 then
    k0 9
   else
    bnd (V61x0 N ((w1.getD w3.toNat (.i 0)).cell 2).toI 0 3) fun y2 =>
    bif (!y2) then
     k0 7
    else
     bnd (bif y0 then (((w1.getD w3.toNat (.i 0)).cell 1).toI != 1) else false) fun y3 =>
     bnd (bif y3 then (((w1.getD w3.toNat (.i 0)).cell 1).toI != 2) else false) fun y4 =>
     bnd (bif y4 then (((w1.getD w3.toNat (.i 0)).cell 1).toI != 4) else false) fun y5 =>
     bif y5 then
      k0 2
     else
      bif ((decide (0 ≤ w3)) && (decide (w3 ≤ (w7.length : Int)))) then
       bnd (G88x0 N ((w7.take w3.toNat).drop 0) ((w1.getD w3.toNat (.i 0)).cell 0).toI) fun y6 =>
       bif y6.isSome then
        bif (y6.getD default) then
         k0 5
        else
         kr (IntKind.wrap .i64 (w3 + 1))
       else
        none
      else
       none
  else
   none
 else
  k1 ()
def L62x0x18 (N : Nat) {R : Type} (w1 : LD) (w2 : Int) (w7 : LD) : Nat → Int → (Int → Option R) → (Unit → Option R) → Option R
 | 0, _, _, _ => none
 | m + 1, w3, k0, k1 => S62x0x18 N w1 w2 w7 w3 (fun w3 => L62x0x18 N w1 w2 w7 m w3 k0 k1) k0 k1
def G62x0x18 (w1 : LD) (w2 : Int) (w7 : LD) (w3 : Int) : Option (Sum (Int) (Unit)) := L62x0x18 N (R := (Sum (Int) (Unit))) w1 w2 w7 N w3 (fun p => some (.inl p)) (fun p => some (.inr p))
def J62x0x18 (L x : List Lf) (kr : List Lf → Option R) (k0 : Int → Option R) (k1 : Unit → Option R) : Option R := S62x0x18 N (ll L 1) (li L 2) (ll L 7) (li x 0) (fun w3 => kr [.i w3]) k0 k1
theorem sb62x0x18 (L x : List Lf) (kr : List Lf → Option R) (k0 : Int → Option R) (k1 : Unit → Option R) : J62x0x18 N L x kr k0 k1 = (J62x0x18 N L x (fun y => some (.inl y)) (fun p => some (.inr (.inl p))) (fun p => some (.inr (.inr p)))).bind (sumE kr (sumE k0 k1)) := by
 unfold J62x0x18 S62x0x18
 repeat' (first | with_reducible apply cond_b | (with_reducible apply bnd_b; intro _) | rfl)
def Q62x0x18 (L : List Lf) (m : Nat) (x : List Lf) : Option (Sum (Int) (Unit)) := L62x0x18 N (R := (Sum (Int) (Unit))) (ll L 1) (li L 2) (ll L 7) m (li x 0) (fun p => some (.inl p)) (fun p => some (.inr p))
def sh62x0x18 : Sh := { tmps := [(1, .c (.p 1 0)), (17, .c (.sl 71)), (18, .c (.i .i64)), (19, .c (.i .i64))], mem := [(1, .box ([.b, .i .i64, .sl 71]))] }
def A62x0x18 (L : List Lf) : List (Bool × (Ex × St)) := bnd (Q62x0x18 N L N (pk sh62x0x18 [3] L)) fun q => [((inlB q), (.ret, ⟨[(2, .c (.i .i64 (inlV q)))], []⟩)), ((inrQ q).isSome, ((.exit 1), ⟨[], []⟩))]
theorem step62x0x18 (m : Nat) (kn : St → Option (Ex × St)) (L x : List Lf) : lpB Tryz.prog (T88x0 N) (h62x0s1 N).h 0 62 18 sh62x0x18 [3] [2] [] (m + 100) kn L x = J62x0x18 N L x (fun y => kn (ofSh sh62x0x18 (mx sh62x0x18 [3] L y))) (fun p => some (.ret, ⟨[(2, .c (.i .i64 p))], []⟩)) (fun _ => some ((.exit 1), ⟨[], []⟩)) := by kernel_rfl
theorem ql62x0x18 (L : List Lf) (m : Nat) (x : List Lf) : Q62x0x18 N L (m + 1) x = J62x0x18 N L x (Q62x0x18 N L m) (fun p => some (.inl p)) (fun p => some (.inr p)) := by kernel_rfl
def h62x0s2 : Sg Tryz.prog 0 62 :=
 (h62x0s1 N).lp (A62x0x18 N) N progOk (T88x0_ok N) (fun m kn L x => (step62x0x18 N m kn L x).trans (sb62x0x18 N L x _ _ _)) (fun L m x => (ql62x0x18 N L m x).trans (sb62x0x18 N L x (Q62x0x18 N L m) (fun p => some (.inl p)) (fun p => some (.inr p)))) fun L x hx => (altS alt1) x hx
def F62x0 (v1 : Int) (v3 : LD) (k0 : Int → Option R) : Option R :=
 bnd (V61x0 N v1 0 65535) fun y0 =>
 bif (!y0) then
  k0 9
 else
  bif (decide ((v3.length : Int) > 30)) then
   k0 3
  else
   bnd (G62x0x18 N v3 (v3.length : Int) v3 0) fun y1 =>
   bif (inlB y1) then
    k0 (inlV y1)
   else
    bif (inrQ y1).isSome then
     k0 0
    else
     none
def G62x0 (v1 : Int) (v3 : LD) : Option (Int) := F62x0 N v1 v3 (fun p => some p)
theorem bind62x0 (v1 : Int) (v3 : LD) (k0 : Int → Option R) : F62x0 N v1 v3 k0 = (G62x0 N v1 v3).bind k0 := by
 unfold G62x0 F62x0
 repeat' (first | with_reducible apply cond_b | (with_reducible apply bnd_b; intro _) | rfl)
def sh62x0 : Sh := { tmps := [(0, .g ([.b, .i .i64, .sl 71]))], mem := [] }
def A62x0 (L : List Lf) : List (Bool × Res) := bnd (F62x0 N (li L 1) (ll L 3) (fun p => some p)) fun q => [(q.isSome, ([.c (.i .i64 (q.getD default))], []))]
theorem raw62x0 (L : List Lf) : bd Tryz.prog (T88x0 N) (h62x0s2 N).h 62 sh62x0 L = F62x0 N (li L 1) (ll L 3) (fun p => some ([.c (.i .i64 p)], [])) := by kernel_rfl
theorem ok62x0 : FnOk Tryz.prog 62 sh62x0 (A62x0 N) :=
 (h62x0s2 N).fn progOk (T88x0_ok N) fun L x hx => ((raw62x0 N L).trans ((bind62x0 N ..).trans (alt1 x hx)))
def T62x0 : Oracle := ext 62 (spSh sh62x0 (A62x0 N)) (T88x0 N)
theorem T62x0_ok : OracleOk Tryz.prog (T62x0 N) := FnOk.to (ok62x0 N) (T88x0_ok N)
def rg35x0 : List (Nat × List Nat) := [(0, [1, 0]), (1, [3, 0]), (2, [6, 5, 3, 0]), (3, [6, 5, 3, 0, 9, 7, 8]), (4, [5, 3, 0, 6, 9]), (5, [5, 3, 7, 8, 0, 6, 9]), (6, [3, 7, 8, 5, 0, 6]), (7, [3, 7, 8, 9, 5, 0, 6]), (9, [3, 7, 8, 9, 5, 0, 6]), (11, [3, 9, 5, 0, 6]), (13, [5, 3, 0, 6]), (14, [3]), (12, []), (10, []), (8, []), (15, [0, 3, 6]), (16, [10, 6, 0, 3]), (17, []), (18, [10, 6, 3]), (19, [6, 11, 3]), (20, [11, 3]), (21, [3, 11]), (22, []), (23, [])]
def hd35x0 : Hints := [(14, [0, 3, 5, 6, 7, 8, 9, 18], [0, 4], []), (20, [0, 3, 5, 6, 7, 8, 9, 19], [0, 4], []), (28, [0, 3, 5, 6, 7, 8, 9], [0, 4], []), (62, [3, 11, 87], [0, 4], [])]
def h35x0s0 (N : Nat) : Sg Tryz.prog 1 35 := .start hd35x0 rg35x0
def F35x0x14 (N : Nat) (w2 w3 : Int) (w5 : Bool) (k0 : Int × Int → R) : R :=
 bif w5 then
  k0 (3, 31)
 else
  k0 (w2, w3)
def V35x0x14 (w2 w3 : Int) (w5 : Bool) : Int × Int := F35x0x14 N w2 w3 w5 (fun p => p)
theorem tot35x0x14 (w2 w3 : Int) (w5 : Bool) (k0 : Int × Int → R) : F35x0x14 N w2 w3 w5 k0 = k0 (V35x0x14 N w2 w3 w5) := by
 unfold V35x0x14 F35x0x14
 repeat' (first | rfl | apply cond_k | (apply bnd_k; intro _))
def sh35x0x14 : Sh := { tmps := [(0, .c (.p 0 0)), (3, .c (.p 4 0)), (5, .c (.b)), (6, .c (.b)), (7, .c (.i .i64)), (8, .c (.i .i64)), (9, .c (.i .i64)), (18, .c (.b))], mem := [(0, .dat 121), (4, .box ([.i .i64, .i .i64, .i .i64, .sl 64, .sl 5]))] }
def K35x0x14w0 (L : List Lf) (p : Int × Int) : Ex × St := (.normal, mg (ofSh sh35x0x14 L) [5, 3, 7, 8, 0, 6, 9] [(7, .c (.i .i64 p.1)), (8, .c (.i .i64 p.2))] [4, 0] [])
def A35x0x14 (L : List Lf) : List (Bool × (Ex × St)) := bnd (F35x0x14 N (li L 2) (li L 3) (lb L 5) (fun p => p)) fun q => [(true, K35x0x14w0 L q)]
theorem raw35x0x14 (L : List Lf) : pc Tryz.prog (T62x0 N) (h35x0s0 N).h 1 100 35 14 sh35x0x14 L [5, 3, 7, 8, 0, 6, 9] [4, 0] = F35x0x14 N (li L 2) (li L 3) (lb L 5) (fun p => some (K35x0x14w0 L p)) := by kernel_rfl
def h35x0s1 : Sg Tryz.prog 1 35 :=
 (h35x0s0 N).cut (A35x0x14 N) progOk (T62x0_ok N) fun L x hx => (raw35x0x14 N L).trans ((tot35x0x14 N ..).trans (alt0 _ _ hx))
def F35x0x20 (N : Nat) (w4 : Int) (w5 : Bool) (k0 : Int → R) : R :=
 bif w5 then
  k0 1
 else
  k0 w4
def V35x0x20 (w4 : Int) (w5 : Bool) : Int := F35x0x20 N w4 w5 (fun p => p)
theorem tot35x0x20 (w4 : Int) (w5 : Bool) (k0 : Int → R) : F35x0x20 N w4 w5 k0 = k0 (V35x0x20 N w4 w5) := by
 unfold V35x0x20 F35x0x20
 repeat' (first | rfl | apply cond_k | (apply bnd_k; intro _))
def sh35x0x20 : Sh := { tmps := [(0, .c (.p 0 0)), (3, .c (.p 4 0)), (5, .c (.b)), (6, .c (.b)), (7, .c (.i .i64)), (8, .c (.i .i64)), (9, .c (.i .i64)), (19, .c (.b))], mem := [(0, .dat 121), (4, .box ([.i .i64, .i .i64, .i .i64, .sl 64, .sl 5]))] }
def K35x0x20w0 (L : List Lf) (p : Int) : Ex × St := (.normal, mg (ofSh sh35x0x20 L) [3, 7, 8, 9, 5, 0, 6] [(9, .c (.i .i64 p))] [4, 0] [])
def A35x0x20 (L : List Lf) : List (Bool × (Ex × St)) := bnd (F35x0x20 N (li L 4) (lb L 5) (fun p => p)) fun q => [(true, K35x0x20w0 L q)]
theorem raw35x0x20 (L : List Lf) : pc Tryz.prog (T62x0 N) (h35x0s1 N).h 1 100 35 20 sh35x0x20 L [3, 7, 8, 9, 5, 0, 6] [4, 0] = F35x0x20 N (li L 4) (lb L 5) (fun p => some (K35x0x20w0 L p)) := by kernel_rfl
def h35x0s2 : Sg Tryz.prog 1 35 :=
 (h35x0s1 N).cut (A35x0x20 N) progOk (T62x0_ok N) fun L x hx => (raw35x0x20 N L).trans ((tot35x0x20 N ..).trans (alt0 _ _ hx))
def F35x0x28 (w2 w3 w7 w8 : Int) (k0 : Bool → R) : R :=
 bnd (V61x0 N w7 0 w2) fun y0 =>
 bif (!y0) then
  k0 true
 else
  bnd (V61x0 N w8 0 w3) fun y1 =>
  k0 (!y1)
def V35x0x28 (w2 w3 w7 w8 : Int) : Bool := F35x0x28 N w2 w3 w7 w8 (fun p => p)
theorem tot35x0x28 (w2 w3 w7 w8 : Int) (k0 : Bool → R) : F35x0x28 N w2 w3 w7 w8 k0 = k0 (V35x0x28 N w2 w3 w7 w8) := by
 unfold V35x0x28 F35x0x28
 repeat' (first | rfl | apply cond_k | (apply bnd_k; intro _))
def J35x0x28 (L : List Lf) (k0 : Bool → R) : R := F35x0x28 N (li L 2) (li L 3) (li L 7) (li L 8) k0
def sh35x0x28 : Sh := { tmps := [(0, .c (.p 0 0)), (3, .c (.p 4 0)), (5, .c (.b)), (6, .c (.b)), (7, .c (.i .i64)), (8, .c (.i .i64)), (9, .c (.i .i64))], mem := [(0, .dat 121), (4, .box ([.i .i64, .i .i64, .i .i64, .sl 64, .sl 5]))] }
def K35x0x28w0 (L : List Lf) (p : Bool) : Ex × St := (.normal, mg (ofSh sh35x0x28 L) [3, 9, 5, 0, 6, 25] [(25, .c (.b p))] [4, 0] [])
def A35x0x28 (L : List Lf) : List (Bool × (Ex × St)) := bnd (J35x0x28 N L (fun p => p)) fun q => [(true, K35x0x28w0 L q)]
theorem raw35x0x28 (L : List Lf) : pc Tryz.prog (T62x0 N) (h35x0s2 N).h 1 100 35 28 sh35x0x28 L [3, 9, 5, 0, 6, 25] [4, 0] = J35x0x28 N L (fun p => some (K35x0x28w0 L p)) := by kernel_rfl
def h35x0s3 : Sg Tryz.prog 1 35 :=
 (h35x0s2 N).cut (A35x0x28 N) progOk (T62x0_ok N) fun L x hx => (raw35x0x28 N L).trans ((tot35x0x28 N ..).trans (alt0 _ _ hx))
def F35x0x62 (N : Nat) (w0 : Int) (w1 : Bool) (k0 : Int → R) : R :=
 bif w1 then
  k0 (IntKind.wrap .i64 (w0 - 4))
 else
  k0 w0
def V35x0x62 (w0 : Int) (w1 : Bool) : Int := F35x0x62 N w0 w1 (fun p => p)
theorem tot35x0x62 (w0 : Int) (w1 : Bool) (k0 : Int → R) : F35x0x62 N w0 w1 k0 = k0 (V35x0x62 N w0 w1) := by
 unfold V35x0x62 F35x0x62
 repeat' (first | rfl | apply cond_k | (apply bnd_k; intro _))
def sh35x0x62 : Sh := { tmps := [(3, .c (.p 4 0)), (11, .c (.i .i64)), (87, .c (.b))], mem := [(0, .dat 121), (4, .box ([.i .i64, .i .i64, .i .i64, .sl 64, .sl 5]))] }
def K35x0x62w0 (L : List Lf) (p : Int) : Ex × St := (.normal, mg (ofSh sh35x0x62 L) [3, 11] [(11, .c (.i .i64 p))] [0, 4] [])
def A35x0x62 (L : List Lf) : List (Bool × (Ex × St)) := bnd (F35x0x62 N (li L 0) (lb L 1) (fun p => p)) fun q => [(true, K35x0x62w0 L q)]
theorem raw35x0x62 (L : List Lf) : pc Tryz.prog (T62x0 N) (h35x0s3 N).h 1 100 35 62 sh35x0x62 L [3, 11] [0, 4] = F35x0x62 N (li L 0) (lb L 1) (fun p => some (K35x0x62w0 L p)) := by kernel_rfl
def h35x0s4 : Sg Tryz.prog 1 35 :=
 (h35x0s3 N).cut (A35x0x62 N) progOk (T62x0_ok N) fun L x hx => (raw35x0x62 N L).trans ((tot35x0x62 N ..).trans (alt0 _ _ hx))
def F35x0 (v0 v1 v2 : Int) (v4 v6 : LD) (v7 : D) (k0 : Int → Option R) : Option R :=
 bnd (V35x0x14 N 15 0 (v0 == 3)) fun y0 =>
 bnd (V35x0x20 N 0 (v0 == 1)) fun y1 =>
 bnd (V61x0 N v0 1 3) fun y2 =>
 bif (!y2) then
  k0 7
 else
  bnd (V35x0x28 N y0.1 y0.2 v1 v2) fun y3 =>
  bif y3 then
   k0 9
  else
   bnd (bif ((v4.length : Int) != y1) then true else (bif (v0 == 1) then (decide ((v6.length : Int) > 0)) else false)) fun y4 =>
   bif y4 then
    k0 2
   else
    bif (v0 == 1) then
     bif (inB 0 v4.length) then
      bnd (G62x0 N ((v4.getD 0 (.i 0)).cell 1).toI ((v4.getD 0 (.i 0)).cell 2).items) fun y5 =>
      bif y5.isSome then
       k0 (y5.getD default)
      else
       none
     else
      none
    else
     bif (inB v1 16) then
      bnd (bif (!(v7.cell (0 + (v1.toNat * 6))).toB) then true else (bif (v0 == 3) then (bif (decide ((v7.cell (5 + (v1.toNat * 6))).toI < 0)) then true else (decide ((v7.cell 96).toI < 0))) else false)) fun y6 =>
      bif y6 then
       k0 11
      else
       bnd (V35x0x62 N (v7.cell (4 + (v1.toNat * 6))).toI (v0 == 3)) fun y7 =>
       bif ((v6.length : Int) != y7) then
        k0 2
       else
        k0 0
     else
      none
def G35x0 (v0 v1 v2 : Int) (v4 v6 : LD) (v7 : D) : Option (Int) := F35x0 N v0 v1 v2 v4 v6 v7 (fun p => some p)
theorem bind35x0 (v0 v1 v2 : Int) (v4 v6 : LD) (v7 : D) (k0 : Int → Option R) : F35x0 N v0 v1 v2 v4 v6 v7 k0 = (G35x0 N v0 v1 v2 v4 v6 v7).bind k0 := by
 unfold G35x0 F35x0
 repeat' (first | with_reducible apply cond_b | (with_reducible apply bnd_b; intro _) | rfl)
def J35x0 (L : List Lf) (k0 : Int → Option R) : Option R := F35x0 N (li L 0) (li L 1) (li L 2) (ll L 4) (ll L 6) (ld L 7) k0
def sh35x0 : Sh := { tmps := [(0, .c (.p 0 0)), (1, .g ([.i .i64, .i .i64, .i .i64, .sl 64, .sl 5]))], mem := [(0, .dat 121)] }
def A35x0 (L : List Lf) : List (Bool × Res) := bnd (J35x0 N L (fun p => some p)) fun q => [(q.isSome, ([.c (.i .i64 (q.getD default))], [(0, .dat 121 (ld L 7))]))]
theorem raw35x0 (L : List Lf) : bd Tryz.prog (T62x0 N) (h35x0s4 N).h 35 sh35x0 L = J35x0 N L (fun p => some ([.c (.i .i64 p)], [(0, .dat 121 (ld L 7))])) := by kernel_rfl
theorem ok35x0 : FnOk Tryz.prog 35 sh35x0 (A35x0 N) :=
 (h35x0s4 N).fn progOk (T62x0_ok N) fun L x hx => ((raw35x0 N L).trans ((bind35x0 N ..).trans (alt1 x hx)))
def T35x0 : Oracle := ext 35 (spSh sh35x0 (A35x0 N)) (T62x0 N)
theorem T35x0_ok : OracleOk Tryz.prog (T35x0 N) := FnOk.to (ok35x0 N) (T62x0_ok N)
def rg63x0 : List (Nat × List Nat) := [(0, [0]), (1, [1, 2]), (2, [1, 3, 2]), (3, [11, 10, 9, 3, 2]), (4, [9, 11, 3, 10, 2]), (5, [5, 3, 11, 10, 9, 2]), (6, [3, 5, 11, 10, 9, 2]), (7, [3, 5, 11, 10, 9, 2]), (8, [11, 10, 9, 3, 2]), (9, [3, 2])]
def hd63x0 : Hints := [(9, [2, 3, 9, 10, 11], [2, 3], []), (20, [2, 3, 5, 9, 10, 11, 32], [2, 3, 5], [])]
def h63x0s0 (N : Nat) : Sg Tryz.prog 0 63 := .start hd63x0 rg63x0
def F63x0x20 (N : Nat) (w4 : Bool) (w17 w18 : Int) (k0 : Int → R) : R :=
 bif w4 then
  k0 w17
 else
  k0 w18
def V63x0x20 (w4 : Bool) (w17 w18 : Int) : Int := F63x0x20 N w4 w17 w18 (fun p => p)
theorem tot63x0x20 (w4 : Bool) (w17 w18 : Int) (k0 : Int → R) : F63x0x20 N w4 w17 w18 k0 = k0 (V63x0x20 N w4 w17 w18) := by
 unfold V63x0x20 F63x0x20
 repeat' (first | rfl | apply cond_k | (apply bnd_k; intro _))
def sh63x0x20 : Sh := { tmps := [(2, .c (.p 2 0)), (3, .c (.p 3 0)), (5, .c (.p 5 0)), (9, .c (.sl 71)), (10, .c (.i .i64)), (11, .c (.i .i64)), (32, .c (.b))], mem := [(2, .box (.b :: [.b, .i .i64, .sl 71, .i .i64, .i .i64])), (3, .box (.b :: [.b, .i .i64, .sl 71, .i .i64, .i .i64])), (5, .box ([.i .i64, .i .i64, .i .i64]))] }
def K63x0x20w0 (L : List Lf) (p : Int) : Ex × St := (.normal, mg (ofSh sh63x0x20 L) [3, 5, 11, 10, 9, 2] [] [5, 3, 2] [(3, .box [.b (lb L 12), .b (lb L 13), .i .i64 (li L 14), .sl 71 (lb L 15) (ll L 16), .i .i64 (li L 17), .i .i64 p])])
def A63x0x20 (L : List Lf) : List (Bool × (Ex × St)) := bnd (F63x0x20 N (lb L 4) (li L 17) (li L 18) (fun p => p)) fun q => [(true, K63x0x20w0 L q)]
theorem raw63x0x20 (L : List Lf) : pc Tryz.prog (T35x0 N) (h63x0s0 N).h 0 100 63 20 sh63x0x20 L [3, 5, 11, 10, 9, 2] [5, 3, 2] = F63x0x20 N (lb L 4) (li L 17) (li L 18) (fun p => some (K63x0x20w0 L p)) := by kernel_rfl
def h63x0s1 : Sg Tryz.prog 0 63 :=
 (h63x0s0 N).cut (A63x0x20 N) progOk (T35x0_ok N) fun L x hx => (raw63x0x20 N L).trans ((tot63x0x20 N ..).trans (alt0 _ _ hx))
def S63x0x9 (w1 : LD) (w2 : Int) (w3 w16 w17 : Int) (kr : Int → Int → Int → Option R) (k0 : Int × Int → Option R) : Option R :=
 bif (decide (w3 < w2)) then
  bif (inB w3 w1.length) then
   bnd (bif (((w1.getD w3.toNat (.i 0)).cell 0).toI == 253) then (((w1.getD w3.toNat (.i 0)).cell 2).toI == 0) else false) fun y0 =>
   bnd (bif y0 then (((w1.getD w3.toNat (.i 0)).cell 1).toI == 4) else false) fun y1 =>
   bnd (V63x0x20 N (bif y1 then (decide (w17 < 0)) else false) w16 w17) fun y2 =>
   bnd (IntKind.wrap .i64 (w16 + ((w1.getD w3.toNat (.i 0)).cell 1).toI)) fun y3 =>
   kr (IntKind.wrap .i64 (w3 + 1)) y3 y2
  else
   none
 else
  k0 (w16, w17)
def L63x0x9 (N : Nat) {R : Type} (w1 : LD) (w2 : Int) : Nat → Int → Int → Int → (Int × Int → Option R) → Option R
 | 0, _, _, _, _ => none
 | m + 1, w3, w16, w17, k0 => S63x0x9 N w1 w2 w3 w16 w17 (fun w3 w16 w17 => L63x0x9 N w1 w2 m w3 w16 w17 k0) k0
def G63x0x9 (w1 : LD) (w2 : Int) (w3 w16 w17 : Int) : Option (Int × Int) := L63x0x9 N (R := (Int × Int)) w1 w2 N w3 w16 w17 (fun p => some p)
def J63x0x9 (L x : List Lf) (kr : List Lf → Option R) (k0 : Int × Int → Option R) : Option R := S63x0x9 N (ll L 1) (li L 2) (li x 0) (li x 1) (li x 2) (fun w3 w16 w17 => kr [.i w3, .i w16, .i w17]) k0
theorem sb63x0x9 (L x : List Lf) (kr : List Lf → Option R) (k0 : Int × Int → Option R) : J63x0x9 N L x kr k0 = (J63x0x9 N L x (fun y => some (.inl y)) (fun p => some (.inr p))).bind (sumE kr k0) := by
 unfold J63x0x9 S63x0x9
 repeat' (first | with_reducible apply cond_b | (with_reducible apply bnd_b; intro _) | rfl)
def Q63x0x9 (L : List Lf) (m : Nat) (x : List Lf) : Option (Int × Int) := L63x0x9 N (R := (Int × Int)) (ll L 1) (li L 2) m (li x 0) (li x 1) (li x 2) (fun p => some p)
def sh63x0x9 : Sh := { tmps := [(2, .c (.p 2 0)), (3, .c (.p 3 0)), (9, .c (.sl 71)), (10, .c (.i .i64)), (11, .c (.i .i64))], mem := [(2, .box (.b :: [.b, .i .i64, .sl 71, .i .i64, .i .i64])), (3, .box (.b :: [.b, .i .i64, .sl 71, .i .i64, .i .i64]))] }
def K63x0x9w0 (L : List Lf) (p : Int × Int) : Ex × St := ((.exit 0), mg (ofSh sh63x0x9 L) [2, 3] [] [3, 2] [(3, .box [.b (lb L 11), .b (lb L 12), .i .i64 (li L 13), .sl 71 (lb L 14) (ll L 15), .i .i64 p.1, .i .i64 p.2])])
def A63x0x9 (L : List Lf) : List (Bool × (Ex × St)) := bnd (Q63x0x9 N L N (pk sh63x0x9 [3, 16, 17] L)) fun q => [(q.isSome, K63x0x9w0 L (q.getD default))]
theorem step63x0x9 (m : Nat) (kn : St → Option (Ex × St)) (L x : List Lf) : lpB Tryz.prog (T35x0 N) (h63x0s1 N).h 0 63 9 sh63x0x9 [3, 16, 17] [2, 3] [3, 2] (m + 100) kn L x = J63x0x9 N L x (fun y => kn (ofSh sh63x0x9 (mx sh63x0x9 [3, 16, 17] L y))) (fun p => some (K63x0x9w0 L p)) := by kernel_rfl
theorem ql63x0x9 (L : List Lf) (m : Nat) (x : List Lf) : Q63x0x9 N L (m + 1) x = J63x0x9 N L x (Q63x0x9 N L m) some := by kernel_rfl
def h63x0s2 : Sg Tryz.prog 0 63 :=
 (h63x0s1 N).lp (A63x0x9 N) N progOk (T35x0_ok N) (fun m kn L x => (step63x0x9 N m kn L x).trans (sb63x0x9 N L x _ _)) (fun L m x => (ql63x0x9 N L m x).trans (sb63x0x9 N L x (Q63x0x9 N L m) some)) fun L x hx => alt1 x hx
def F63x0 (v3 : LD) (k0 : Int × Int → Option R) : Option R :=
 bnd (G63x0x9 N v3 (v3.length : Int) 0 0 (-1)) fun y0 =>
 bif y0.isSome then
  k0 (y0.getD default)
 else
  none
def G63x0 (v3 : LD) : Option (Int × Int) := F63x0 N v3 (fun p => some p)
theorem bind63x0 (v3 : LD) (k0 : Int × Int → Option R) : F63x0 N v3 k0 = (G63x0 N v3).bind k0 := by
 unfold G63x0 F63x0
 repeat' (first | with_reducible apply cond_b | (with_reducible apply bnd_b; intro _) | rfl)
def sh63x0 : Sh := { tmps := [(0, .g ([.b, .i .i64, .sl 71]))], mem := [] }
def K63x0w0 (L : List Lf) (p : Int × Int) : Res := ([.g [.b true, .b (lb L 0), .i .i64 (li L 1), .sl 71 (lb L 2) (ll L 3), .i .i64 p.1, .i .i64 p.2]], [])
def A63x0 (L : List Lf) : List (Bool × Res) := bnd (F63x0 N (ll L 3) (fun p => some p)) fun q => [(q.isSome, K63x0w0 L (q.getD default))]
theorem raw63x0 (L : List Lf) : bd Tryz.prog (T35x0 N) (h63x0s2 N).h 63 sh63x0 L = F63x0 N (ll L 3) (fun p => some (K63x0w0 L p)) := by kernel_rfl
theorem ok63x0 : FnOk Tryz.prog 63 sh63x0 (A63x0 N) :=
 (h63x0s2 N).fn progOk (T35x0_ok N) fun L x hx => ((raw63x0 N L).trans ((bind63x0 N ..).trans (alt1 x hx)))
def T63x0 : Oracle := ext 63 (spSh sh63x0 (A63x0 N)) (T35x0 N)
theorem T63x0_ok : OracleOk Tryz.prog (T63x0 N) := FnOk.to (ok63x0 N) (T35x0_ok N)
def rg64x0 : List (Nat × List Nat) := [(0, [0, 1]), (1, [0, 1]), (2, [0, 1, 5]), (3, [10, 9, 0, 1, 5]), (4, [10, 0, 1, 5, 9]), (5, [0, 6, 1, 5, 10, 9]), (6, [1, 6, 5, 0, 10, 9, 7]), (7, [6, 5, 0, 10, 9, 1]), (8, [5, 0, 7, 10, 9, 1]), (9, [10, 9, 0, 1, 5]), (10, [5])]
def hd64x0 : Hints := [(9, [0, 1, 5, 9, 10], [], []), (23, [0, 1, 5, 6, 7, 9, 10, 18], [], [])]
def h64x0s0 (N : Nat) : Sg Tryz.prog 0 64 := .start hd64x0 rg64x0
def F64x0x23 (N : Nat) (w4 w5 : Int) (w8 : Bool) (k0 : Int → R) : R :=
 bif w8 then
  k0 w4
 else
  k0 w5
def V64x0x23 (w4 w5 : Int) (w8 : Bool) : Int := F64x0x23 N w4 w5 w8 (fun p => p)
theorem tot64x0x23 (w4 w5 : Int) (w8 : Bool) (k0 : Int → R) : F64x0x23 N w4 w5 w8 k0 = k0 (V64x0x23 N w4 w5 w8) := by
 unfold V64x0x23 F64x0x23
 repeat' (first | rfl | apply cond_k | (apply bnd_k; intro _))
def sh64x0x23 : Sh := { tmps := [(0, .c (.sl 5)), (1, .c (.b)), (5, .c (.i .i64)), (6, .c (.i .i64)), (7, .c (.i .i64)), (9, .c (.i .i64)), (10, .c (.i .i64)), (18, .c (.b))], mem := [] }
def K64x0x23w0 (L : List Lf) (p : Int) : Ex × St := (.normal, mg (ofSh sh64x0x23 L) [5, 0, 7, 10, 9, 1] [(7, .c (.i .i64 p))] [] [])
def A64x0x23 (L : List Lf) : List (Bool × (Ex × St)) := bnd (F64x0x23 N (li L 4) (li L 5) (lb L 8) (fun p => p)) fun q => [(true, K64x0x23w0 L q)]
theorem raw64x0x23 (L : List Lf) : pc Tryz.prog (T63x0 N) (h64x0s0 N).h 0 100 64 23 sh64x0x23 L [5, 0, 7, 10, 9, 1] [] = F64x0x23 N (li L 4) (li L 5) (lb L 8) (fun p => some (K64x0x23w0 L p)) := by kernel_rfl
def h64x0s1 : Sg Tryz.prog 0 64 :=
 (h64x0s0 N).cut (A64x0x23 N) progOk (T63x0_ok N) fun L x hx => (raw64x0x23 N L).trans ((tot64x0x23 N ..).trans (alt0 _ _ hx))
def S64x0x9 (w1 : LD) (w2 : Bool) (w4 : Int) (w3 w5 : Int) (kr : Int → Int → Option R) (k0 : Int → Option R) : Option R :=
 bif (decide (w5 < w4)) then
  bnd (IntKind.wrap .i64 ((IntKind.wrap .i64 ((w1.length : Int) - 1)) - w5)) fun y0 =>
  bnd (V64x0x23 N w5 y0 w2) fun y1 =>
  bif (inB y1 w1.length) then
   bnd ((bitsV .or .i64 (IntKind.wrap .i64 (w3 * 2 ^ 8)) (IntKind.wrap .i64 (w1.getD y1.toNat (.i 0)).toI)).getD 0) fun y2 =>
   kr y2 (IntKind.wrap .i64 (w5 + 1))
  else
   none
 else
  k0 w3
def L64x0x9 (N : Nat) {R : Type} (w1 : LD) (w2 : Bool) (w4 : Int) : Nat → Int → Int → (Int → Option R) → Option R
 | 0, _, _, _ => none
 | m + 1, w3, w5, k0 => S64x0x9 N w1 w2 w4 w3 w5 (fun w3 w5 => L64x0x9 N w1 w2 w4 m w3 w5 k0) k0
def G64x0x9 (w1 : LD) (w2 : Bool) (w4 : Int) (w3 w5 : Int) : Option (Int) := L64x0x9 N (R := (Int)) w1 w2 w4 N w3 w5 (fun p => some p)
def J64x0x9 (L x : List Lf) (kr : List Lf → Option R) (k0 : Int → Option R) : Option R := S64x0x9 N (ll L 1) (lb L 2) (li L 4) (li x 0) (li x 1) (fun w3 w5 => kr [.i w3, .i w5]) k0
theorem sb64x0x9 (L x : List Lf) (kr : List Lf → Option R) (k0 : Int → Option R) : J64x0x9 N L x kr k0 = (J64x0x9 N L x (fun y => some (.inl y)) (fun p => some (.inr p))).bind (sumE kr k0) := by
 unfold J64x0x9 S64x0x9
 repeat' (first | with_reducible apply cond_b | (with_reducible apply bnd_b; intro _) | rfl)
def Q64x0x9 (L : List Lf) (m : Nat) (x : List Lf) : Option (Int) := L64x0x9 N (R := (Int)) (ll L 1) (lb L 2) (li L 4) m (li x 0) (li x 1) (fun p => some p)
def sh64x0x9 : Sh := { tmps := [(0, .c (.sl 5)), (1, .c (.b)), (5, .c (.i .i64)), (9, .c (.i .i64)), (10, .c (.i .i64))], mem := [] }
def A64x0x9 (L : List Lf) : List (Bool × (Ex × St)) := bnd (Q64x0x9 N L N (pk sh64x0x9 [3, 5] L)) fun q => [(q.isSome, ((.exit 0), ⟨[(5, .c (.i .i64 (q.getD default)))], []⟩))]
theorem step64x0x9 (m : Nat) (kn : St → Option (Ex × St)) (L x : List Lf) : lpB Tryz.prog (T63x0 N) (h64x0s1 N).h 0 64 9 sh64x0x9 [3, 5] [4, 5] [] (m + 100) kn L x = J64x0x9 N L x (fun y => kn (ofSh sh64x0x9 (mx sh64x0x9 [3, 5] L y))) (fun p => some ((.exit 0), ⟨[(5, .c (.i .i64 p))], []⟩)) := by kernel_rfl
theorem ql64x0x9 (L : List Lf) (m : Nat) (x : List Lf) : Q64x0x9 N L (m + 1) x = J64x0x9 N L x (Q64x0x9 N L m) some := by kernel_rfl
def h64x0s2 : Sg Tryz.prog 0 64 :=
 (h64x0s1 N).lp (A64x0x9 N) N progOk (T63x0_ok N) (fun m kn L x => (step64x0x9 N m kn L x).trans (sb64x0x9 N L x _ _)) (fun L m x => (ql64x0x9 N L m x).trans (sb64x0x9 N L x (Q64x0x9 N L m) some)) fun L x hx => alt1 x hx
def F64x0 (v1 : LD) (v2 : Bool) (k0 : Int → Option R) : Option R :=
 bnd (G64x0x9 N v1 v2 (v1.length : Int) 0 0) fun y0 =>
 bif y0.isSome then
  k0 (y0.getD default)
 else
  none
def G64x0 (v1 : LD) (v2 : Bool) : Option (Int) := F64x0 N v1 v2 (fun p => some p)
theorem bind64x0 (v1 : LD) (v2 : Bool) (k0 : Int → Option R) : F64x0 N v1 v2 k0 = (G64x0 N v1 v2).bind k0 := by
 unfold G64x0 F64x0
 repeat' (first | with_reducible apply cond_b | (with_reducible apply bnd_b; intro _) | rfl)
def sh64x0 : Sh := { tmps := [(0, .c (.sl 5)), (1, .c (.b))], mem := [] }
def A64x0 (L : List Lf) : List (Bool × Res) := bnd (F64x0 N (ll L 1) (lb L 2) (fun p => some p)) fun q => [(q.isSome, ([.c (.i .i64 (q.getD default))], []))]
theorem raw64x0 (L : List Lf) : bd Tryz.prog (T63x0 N) (h64x0s2 N).h 64 sh64x0 L = F64x0 N (ll L 1) (lb L 2) (fun p => some ([.c (.i .i64 p)], [])) := by kernel_rfl
theorem ok64x0 : FnOk Tryz.prog 64 sh64x0 (A64x0 N) :=
 (h64x0s2 N).fn progOk (T63x0_ok N) fun L x hx => ((raw64x0 N L).trans ((bind64x0 N ..).trans (alt1 x hx)))
def T64x0 : Oracle := ext 64 (spSh sh64x0 (A64x0 N)) (T63x0 N)
theorem T64x0_ok : OracleOk Tryz.prog (T64x0 N) := FnOk.to (ok64x0 N) (T63x0_ok N)
def rg65x0 : List (Nat × List Nat) := [(0, [1, 0]), (1, [1, 0]), (2, [0]), (3, [0])]
def hd65x0 : Hints := []
def h65x0s0 (N : Nat) : Sg Tryz.prog 0 65 := .start hd65x0 rg65x0
def F65x0 (N : Nat) (v0 : Int) (v1 : Bool) (k0 : Int → Option R) : Option R :=
 bif v1 then
  bif (decide (0 ≤ (IntKind.wrap .i64 ((IntKind.wrap .i64 (8 * v0)) - 1)))) then
   bnd (IntKind.wrap .i64 (1 * 2 ^ (min (IntKind.wrap .i64 ((IntKind.wrap .i64 (8 * v0)) - 1)).toNat 64))) fun y0 =>
   k0 (IntKind.wrap .i64 (y0 - 1))
  else
   none
 else
  bif (decide (0 ≤ (IntKind.wrap .i64 (8 * v0)))) then
   bnd (IntKind.wrap .i64 (1 * 2 ^ (min (IntKind.wrap .i64 (8 * v0)).toNat 64))) fun y1 =>
   k0 (IntKind.wrap .i64 (y1 - 1))
  else
   none
def G65x0 (v0 : Int) (v1 : Bool) : Option (Int) := F65x0 N v0 v1 (fun p => some p)
theorem bind65x0 (v0 : Int) (v1 : Bool) (k0 : Int → Option R) : F65x0 N v0 v1 k0 = (G65x0 N v0 v1).bind k0 := by
 unfold G65x0 F65x0
 repeat' (first | with_reducible apply cond_b | (with_reducible apply bnd_b; intro _) | rfl)
def sh65x0 : Sh := { tmps := [(0, .c (.i .i64)), (1, .c (.b))], mem := [] }
def A65x0 (L : List Lf) : List (Bool × Res) := bnd (F65x0 N (li L 0) (lb L 1) (fun p => some p)) fun q => [(q.isSome, ([.c (.i .i64 (q.getD default))], []))]
theorem raw65x0 (L : List Lf) : bd Tryz.prog (T64x0 N) (h65x0s0 N).h 65 sh65x0 L = F65x0 N (li L 0) (lb L 1) (fun p => some ([.c (.i .i64 p)], [])) := by kernel_rfl
theorem ok65x0 : FnOk Tryz.prog 65 sh65x0 (A65x0 N) :=
 (h65x0s0 N).fn progOk (T64x0_ok N) fun L x hx => ((raw65x0 N L).trans ((bind65x0 N ..).trans (alt1 x hx)))
def T65x0 : Oracle := ext 65 (spSh sh65x0 (A65x0 N)) (T64x0 N)
theorem T65x0_ok : OracleOk Tryz.prog (T65x0 N) := FnOk.to (ok65x0 N) (T64x0_ok N)
def rg36x0 : List (Nat × List Nat) := [(0, [1, 0]), (1, [0, 3]), (2, [0, 3, 5]), (3, [3, 0, 5, 6]), (5, [3, 0, 6, 5]), (7, [6, 3, 0, 5]), (8, [3, 6, 0, 5]), (9, [7, 0, 5]), (10, [7, 0]), (6, [0, 3]), (4, [0, 3, 5]), (11, [5, 0]), (12, [0, 5]), (13, [5])]
def hd36x0 : Hints := [(32, [0, 5, 7, 67], [0], []), (26, [0, 3, 5, 6, 49], [0, 4, 7], []), (21020, [0, 3, 5, 6, 30], [0, 4, 7], []), (15014, [0, 3, 5, 6, 15], [0, 4, 7], []), (38, [0, 5, 70], [0], [])]
def h36x0s0 (N : Nat) : Sg Tryz.prog 1 36 := .start hd36x0 rg36x0
def F36x0x32 (N : Nat) (w0 w1 : Int) (w2 : Bool) (k0 : Int → R) : R :=
 bif w2 then
  k0 w1
 else
  k0 w0
def V36x0x32 (w0 w1 : Int) (w2 : Bool) : Int := F36x0x32 N w0 w1 w2 (fun p => p)
theorem tot36x0x32 (w0 w1 : Int) (w2 : Bool) (k0 : Int → R) : F36x0x32 N w0 w1 w2 k0 = k0 (V36x0x32 N w0 w1 w2) := by
 unfold V36x0x32 F36x0x32
 repeat' (first | rfl | apply cond_k | (apply bnd_k; intro _))
def sh36x0x32 : Sh := { tmps := [(0, .c (.p 0 0)), (5, .c (.i .i64)), (7, .c (.i .i64)), (67, .c (.b))], mem := [(0, .dat 121)] }
def K36x0x32w0 (L : List Lf) (p : Int) : Ex × St := (.normal, mg (ofSh sh36x0x32 L) [5, 0] [(5, .c (.i .i64 p))] [0] [])
def A36x0x32 (L : List Lf) : List (Bool × (Ex × St)) := bnd (F36x0x32 N (li L 0) (li L 1) (lb L 2) (fun p => p)) fun q => [(true, K36x0x32w0 L q)]
theorem raw36x0x32 (L : List Lf) : pc Tryz.prog (T65x0 N) (h36x0s0 N).h 1 100 36 32 sh36x0x32 L [5, 0] [0] = F36x0x32 N (li L 0) (li L 1) (lb L 2) (fun p => some (K36x0x32w0 L p)) := by kernel_rfl
def h36x0s1 : Sg Tryz.prog 1 36 :=
 (h36x0s0 N).cut (A36x0x32 N) progOk (T65x0_ok N) fun L x hx => (raw36x0x32 N L).trans ((tot36x0x32 N ..).trans (alt0 _ _ hx))
def F36x0x26 (w0 : Int) (w1 : Bool) (w9 : LD) (w11 : Bool) (w16 : Int) (k0 : Int → Option R) : Option R :=
 bif w1 then
  bif (((decide (0 ≤ w16)) && (decide (w16 ≤ (IntKind.wrap .i64 (w16 + 4))))) && (decide ((IntKind.wrap .i64 (w16 + 4)) ≤ (w9.length : Int)))) then
   bnd (((w9.take (IntKind.wrap .i64 (w16 + 4)).toNat).drop w16.toNat) : List D) fun y0 =>
   bnd (G64x0 N y0 w11) fun y1 =>
   bif y1.isSome then
    bnd (G65x0 N 4 false) fun y2 =>
    bif y2.isSome then
     bnd (V36x0x32 N w0 (y1.getD default) ((y1.getD default) != (y2.getD default))) fun y3 =>
     k0 y3
    else
     none
   else
    none
  else
   none
 else
  k0 w0
def G36x0x26 (w0 : Int) (w1 : Bool) (w9 : LD) (w11 : Bool) (w16 : Int) : Option (Int) := F36x0x26 N w0 w1 w9 w11 w16 (fun p => some p)
theorem bind36x0x26 (w0 : Int) (w1 : Bool) (w9 : LD) (w11 : Bool) (w16 : Int) (k0 : Int → Option R) : F36x0x26 N w0 w1 w9 w11 w16 k0 = (G36x0x26 N w0 w1 w9 w11 w16).bind k0 := by
 unfold G36x0x26 F36x0x26
 repeat' (first | with_reducible apply cond_b | (with_reducible apply bnd_b; intro _) | rfl)
def J36x0x26 (L : List Lf) (k0 : Int → Option R) : Option R := F36x0x26 N (li L 0) (lb L 1) (ll L 9) (lb L 11) (li L 16) k0
def sh36x0x26 : Sh := { tmps := [(0, .c (.p 0 0)), (3, .c (.p 4 0)), (5, .c (.i .i64)), (6, .c (.p 7 0)), (49, .c (.b))], mem := [(0, .dat 121), (4, .box ([.i .i64, .i .i64, .i .i64, .sl 64, .sl 5])), (7, .box (.b :: [.b, .i .i64, .sl 71, .i .i64, .i .i64]))] }
def K36x0x26w0 (L : List Lf) (p : Int) : Ex × St := (.normal, mg (ofSh sh36x0x26 L) [5, 0] [(5, .c (.i .i64 p))] [0] [])
def A36x0x26 (L : List Lf) : List (Bool × (Ex × St)) := bnd (J36x0x26 N L (fun p => some p)) fun q => [(q.isSome, K36x0x26w0 L (q.getD default))]
theorem raw36x0x26 (L : List Lf) : pc Tryz.prog (T65x0 N) (h36x0s1 N).h 1 100 36 26 sh36x0x26 L [5, 0] [0] = J36x0x26 N L (fun p => some (K36x0x26w0 L p)) := by kernel_rfl
def h36x0s2 : Sg Tryz.prog 1 36 :=
 (h36x0s1 N).cut (A36x0x26 N) progOk (T65x0_ok N) fun L x hx => (raw36x0x26 N L).trans ((bind36x0x26 N ..).trans (alt1 x hx))
def F36x0x21020 (w0 : Int) (w1 : Bool) (w2 : D) (w5 : Int) (w9 : LD) (w11 : Bool) (w16 : Int) (k0 : Int → Option R) : Option R :=
 bif w1 then
  bnd (IntKind.wrap .i64 ((IntKind.wrap .i64 (w5 - ((w2.cell 96).toI.tmod 32))) + 32)) fun y0 =>
  k0 (IntKind.wrap .i64 ((w2.cell 96).toI + (y0.tmod 32)))
 else
  bnd (G36x0x26 N w0 (decide (w16 ≥ 0)) w9 w11 w16) fun y1 =>
  bif y1.isSome then
   k0 (y1.getD default)
  else
   none
def G36x0x21020 (w0 : Int) (w1 : Bool) (w2 : D) (w5 : Int) (w9 : LD) (w11 : Bool) (w16 : Int) : Option (Int) := F36x0x21020 N w0 w1 w2 w5 w9 w11 w16 (fun p => some p)
theorem bind36x0x21020 (w0 : Int) (w1 : Bool) (w2 : D) (w5 : Int) (w9 : LD) (w11 : Bool) (w16 : Int) (k0 : Int → Option R) : F36x0x21020 N w0 w1 w2 w5 w9 w11 w16 k0 = (G36x0x21020 N w0 w1 w2 w5 w9 w11 w16).bind k0 := by
 unfold G36x0x21020 F36x0x21020
 repeat' (first | with_reducible apply cond_b | (with_reducible apply bnd_b; intro _) | rfl)
def J36x0x21020 (L : List Lf) (k0 : Int → Option R) : Option R := F36x0x21020 N (li L 0) (lb L 1) (ld L 2) (li L 5) (ll L 9) (lb L 11) (li L 16) k0
def sh36x0x21020 : Sh := { tmps := [(0, .c (.p 0 0)), (3, .c (.p 4 0)), (5, .c (.i .i64)), (6, .c (.p 7 0)), (30, .c (.b))], mem := [(0, .dat 121), (4, .box ([.i .i64, .i .i64, .i .i64, .sl 64, .sl 5])), (7, .box (.b :: [.b, .i .i64, .sl 71, .i .i64, .i .i64]))] }
def K36x0x21020w0 (L : List Lf) (p : Int) : Ex × St := (.normal, mg (ofSh sh36x0x21020 L) [5, 0] [(5, .c (.i .i64 p))] [0] [])
def A36x0x21020 (L : List Lf) : List (Bool × (Ex × St)) := bnd (J36x0x21020 N L (fun p => some p)) fun q => [(q.isSome, K36x0x21020w0 L (q.getD default))]
theorem raw36x0x21020 (L : List Lf) : pc Tryz.prog (T65x0 N) (h36x0s2 N).h 1 100 36 21020 sh36x0x21020 L [5, 0] [0] = J36x0x21020 N L (fun p => some (K36x0x21020w0 L p)) := by kernel_rfl
def h36x0s3 : Sg Tryz.prog 1 36 :=
 (h36x0s2 N).cut (A36x0x21020 N) progOk (T65x0_ok N) fun L x hx => (raw36x0x21020 N L).trans ((bind36x0x21020 N ..).trans (alt1 x hx))
def F36x0x15014 (w0 : Int) (w1 : Bool) (w2 : D) (w3 w4 w5 : Int) (w7 w9 : LD) (w11 : Bool) (w16 : Int) (k0 : Int × D → Option R) : Option R :=
 bif w1 then
  bif (inB 0 w7.length) then
   bnd (G63x0 N ((w7.getD 0 (.i 0)).cell 2).items) fun y0 =>
   bif y0.isSome then
    bif (inB w4 16) then
     bnd (((((((w2.put (0 + (w4.toNat * 6)) (.b true)).put (1 + (w4.toNat * 6)) (.b ((w7.getD 0 (.i 0)).cell 0).toB)).put (2 + (w4.toNat * 6)) (.i ((w7.getD 0 (.i 0)).cell 1).toI)).put (3 + (w4.toNat * 6)) (.l ((w7.getD 0 (.i 0)).cell 2).isNil ((w7.getD 0 (.i 0)).cell 2).items)).put (4 + (w4.toNat * 6)) (.i (y0.getD default).1)).put (5 + (w4.toNat * 6)) (.i (y0.getD default).2)) : D) fun y1 =>
     k0 (w0, y1)
    else
     none
   else
    none
  else
   none
 else
  bnd (G36x0x21020 N w0 (w3 == 3) w2 w5 w9 w11 w16) fun y2 =>
  bif y2.isSome then
   k0 ((y2.getD default), w2)
  else
   none
def G36x0x15014 (w0 : Int) (w1 : Bool) (w2 : D) (w3 w4 w5 : Int) (w7 w9 : LD) (w11 : Bool) (w16 : Int) : Option (Int × D) := F36x0x15014 N w0 w1 w2 w3 w4 w5 w7 w9 w11 w16 (fun p => some p)
theorem bind36x0x15014 (w0 : Int) (w1 : Bool) (w2 : D) (w3 w4 w5 : Int) (w7 w9 : LD) (w11 : Bool) (w16 : Int) (k0 : Int × D → Option R) : F36x0x15014 N w0 w1 w2 w3 w4 w5 w7 w9 w11 w16 k0 = (G36x0x15014 N w0 w1 w2 w3 w4 w5 w7 w9 w11 w16).bind k0 := by
 unfold G36x0x15014 F36x0x15014
 repeat' (first | with_reducible apply cond_b | (with_reducible apply bnd_b; intro _) | rfl)
def J36x0x15014 (L : List Lf) (k0 : Int × D → Option R) : Option R := F36x0x15014 N (li L 0) (lb L 1) (ld L 2) (li L 3) (li L 4) (li L 5) (ll L 7) (ll L 9) (lb L 11) (li L 16) k0
def sh36x0x15014 : Sh := { tmps := [(0, .c (.p 0 0)), (3, .c (.p 4 0)), (5, .c (.i .i64)), (6, .c (.p 7 0)), (15, .c (.b))], mem := [(0, .dat 121), (4, .box ([.i .i64, .i .i64, .i .i64, .sl 64, .sl 5])), (7, .box (.b :: [.b, .i .i64, .sl 71, .i .i64, .i .i64]))] }
def K36x0x15014w0 (L : List Lf) (p : Int × D) : Ex × St := (.normal, ⟨[(5, .c (.i .i64 p.1)), (0, .c (.p 0 0))], [(0, .dat 121 p.2)]⟩)
def A36x0x15014 (L : List Lf) : List (Bool × (Ex × St)) := bnd (J36x0x15014 N L (fun p => some p)) fun q => [(q.isSome, K36x0x15014w0 L (q.getD default))]
theorem raw36x0x15014 (L : List Lf) : pc Tryz.prog (T65x0 N) (h36x0s3 N).h 1 100 36 15014 sh36x0x15014 L [5, 0] [0] = J36x0x15014 N L (fun p => some (K36x0x15014w0 L p)) := by kernel_rfl
def h36x0s4 : Sg Tryz.prog 1 36 :=
 (h36x0s3 N).cut (A36x0x15014 N) progOk (T65x0_ok N) fun L x hx => (raw36x0x15014 N L).trans ((bind36x0x15014 N ..).trans (alt1 x hx))
def F36x0x38 (N : Nat) (w0 : Int) (w1 : Bool) (w2 : D) (k0 : D → R) : R :=
 bif w1 then
  k0 (w2.put 96 (.i w0))
 else
  k0 w2
def V36x0x38 (w0 : Int) (w1 : Bool) (w2 : D) : D := F36x0x38 N w0 w1 w2 (fun p => p)
theorem tot36x0x38 (w0 : Int) (w1 : Bool) (w2 : D) (k0 : D → R) : F36x0x38 N w0 w1 w2 k0 = k0 (V36x0x38 N w0 w1 w2) := by
 unfold V36x0x38 F36x0x38
 repeat' (first | rfl | apply cond_k | (apply bnd_k; intro _))
def sh36x0x38 : Sh := { tmps := [(0, .c (.p 0 0)), (5, .c (.i .i64)), (70, .c (.b))], mem := [(0, .dat 121)] }
def A36x0x38 (L : List Lf) : List (Bool × (Ex × St)) := bnd (F36x0x38 N (li L 0) (lb L 1) (ld L 2) (fun p => p)) fun q => [(true, (.normal, ⟨[(5, .c (.i .i64 (li L 0)))], [(0, .dat 121 q)]⟩))]
theorem raw36x0x38 (L : List Lf) : pc Tryz.prog (T65x0 N) (h36x0s4 N).h 1 100 36 38 sh36x0x38 L [5] [0] = F36x0x38 N (li L 0) (lb L 1) (ld L 2) (fun p => some (.normal, ⟨[(5, .c (.i .i64 (li L 0)))], [(0, .dat 121 p)]⟩)) := by kernel_rfl
def h36x0s5 : Sg Tryz.prog 1 36 :=
 (h36x0s4 N).cut (A36x0x38 N) progOk (T65x0_ok N) fun L x hx => (raw36x0x38 N L).trans ((tot36x0x38 N ..).trans (alt0 _ _ hx))
def F36x0 (v0 v1 v2 : Int) (v4 v6 : LD) (v7 : D) (k0 : Int × D → Option R) : Option R :=
 bif (inB v1 16) then
  bnd (G36x0x15014 N (-1) (v0 == 1) v7 v0 v1 v2 v4 v6 (v7.cell (1 + (v1.toNat * 6))).toB (v7.cell (5 + (v1.toNat * 6))).toI) fun y0 =>
  bif y0.isSome then
   bnd (V36x0x38 N (y0.getD default).1 (decide ((y0.getD default).1 ≥ 0)) (y0.getD default).2) fun y1 =>
   k0 ((y0.getD default).1, y1)
  else
   none
 else
  none
def G36x0 (v0 v1 v2 : Int) (v4 v6 : LD) (v7 : D) : Option (Int × D) := F36x0 N v0 v1 v2 v4 v6 v7 (fun p => some p)
theorem bind36x0 (v0 v1 v2 : Int) (v4 v6 : LD) (v7 : D) (k0 : Int × D → Option R) : F36x0 N v0 v1 v2 v4 v6 v7 k0 = (G36x0 N v0 v1 v2 v4 v6 v7).bind k0 := by
 unfold G36x0 F36x0
 repeat' (first | with_reducible apply cond_b | (with_reducible apply bnd_b; intro _) | rfl)
def J36x0 (L : List Lf) (k0 : Int × D → Option R) : Option R := F36x0 N (li L 0) (li L 1) (li L 2) (ll L 4) (ll L 6) (ld L 7) k0
def sh36x0 : Sh := { tmps := [(0, .c (.p 0 0)), (1, .g ([.i .i64, .i .i64, .i .i64, .sl 64, .sl 5]))], mem := [(0, .dat 121)] }
def A36x0 (L : List Lf) : List (Bool × Res) := bnd (J36x0 N L (fun p => some p)) fun q => [(q.isSome, ([.c (.i .i64 (q.getD default).1)], [(0, .dat 121 (q.getD default).2)]))]
theorem raw36x0 (L : List Lf) : bd Tryz.prog (T65x0 N) (h36x0s5 N).h 36 sh36x0 L = J36x0 N L (fun p => some ([.c (.i .i64 p.1)], [(0, .dat 121 p.2)])) := by kernel_rfl
theorem ok36x0 : FnOk Tryz.prog 36 sh36x0 (A36x0 N) :=
 (h36x0s5 N).fn progOk (T65x0_ok N) fun L x hx => ((raw36x0 N L).trans ((bind36x0 N ..).trans (alt1 x hx)))
def T36x0 : Oracle := ext 36 (spSh sh36x0 (A36x0 N)) (T65x0 N)
theorem T36x0_ok : OracleOk Tryz.prog (T36x0 N) := FnOk.to (ok36x0 N) (T65x0_ok N)
def rg13x0 : List (Nat × List Nat) := [(0, [0]), (1, [1]), (2, []), (3, [1]), (4, [1, 3]), (5, [15, 14, 13, 3]), (6, [13, 15, 3, 14]), (7, [3, 5, 15, 14, 13]), (8, [6, 3, 5, 15, 14, 13]), (9, [6]), (10, [3, 5, 15, 14, 13]), (11, [15, 14, 13, 3]), (12, [])]
def hd13x0 : Hints := [(15, [3, 13, 14, 15], [12000000002], [])]
def h13x0s0 (N : Nat) : Sg Tryz.prog 0 13 := .start hd13x0 rg13x0
def S13x0x15 (w1 : LD) (w2 : Int) (w3 : Int) (w4 : D) (kr : Int → D → Option R) (k0 : Int → Option R) (k1 : Unit → Option R) : Option R :=
 bif (decide (w3 < w2)) then
  bif (inB w3 w1.length) then
   bnd (G35x0 N ((w1.getD w3.toNat (.i 0)).cell 0).toI ((w1.getD w3.toNat (.i 0)).cell 1).toI ((w1.getD w3.toNat (.i 0)).cell 2).toI ((w1.getD w3.toNat (.i 0)).cell 3).items ((w1.getD w3.toNat (.i 0)).cell 4).items w4) fun y0 =>
   bif y0.isSome then
    bif ((y0.getD default) != 0) then
     k0 (y0.getD default)
    else
     bnd (G36x0 N ((w1.getD w3.toNat (.i 0)).cell 0).toI ((w1.getD w3.toNat (.i 0)).cell 1).toI ((w1.getD w3.toNat (.i 0)).cell 2).toI ((w1.getD w3.toNat (.i 0)).cell 3).items ((w1.getD w3.toNat (.i 0)).cell 4).items w4) fun y1 =>
     bif y1.isSome then
      kr (IntKind.wrap .i64 (w3 + 1)) (y1.getD default).2
     else
      none
   else
    none
  else
   none
 else
  k1 ()
def L13x0x15 (N : Nat) {R : Type} (w1 : LD) (w2 : Int) : Nat → Int → D → (Int → Option R) → (Unit → Option R) → Option R
 | 0, _, _, _, _ => none
 | m + 1, w3, w4, k0, k1 => S13x0x15 N w1 w2 w3 w4 (fun w3 w4 => L13x0x15 N w1 w2 m w3 w4 k0 k1) k0 k1
def G13x0x15 (w1 : LD) (w2 : Int) (w3 : Int) (w4 : D) : Option (Sum (Int) (Unit)) := L13x0x15 N (R := (Sum (Int) (Unit))) w1 w2 N w3 w4 (fun p => some (.inl p)) (fun p => some (.inr p))
def J13x0x15 (L x : List Lf) (kr : List Lf → Option R) (k0 : Int → Option R) (k1 : Unit → Option R) : Option R := S13x0x15 N (ll L 1) (li L 2) (li x 0) (ld x 1) (fun w3 w4 => kr [.i w3, .d w4]) k0 k1
theorem sb13x0x15 (L x : List Lf) (kr : List Lf → Option R) (k0 : Int → Option R) (k1 : Unit → Option R) : J13x0x15 N L x kr k0 k1 = (J13x0x15 N L x (fun y => some (.inl y)) (fun p => some (.inr (.inl p))) (fun p => some (.inr (.inr p)))).bind (sumE kr (sumE k0 k1)) := by
 unfold J13x0x15 S13x0x15
 repeat' (first | with_reducible apply cond_b | (with_reducible apply bnd_b; intro _) | rfl)
def Q13x0x15 (L : List Lf) (m : Nat) (x : List Lf) : Option (Sum (Int) (Unit)) := L13x0x15 N (R := (Sum (Int) (Unit))) (ll L 1) (li L 2) m (li x 0) (ld x 1) (fun p => some (.inl p)) (fun p => some (.inr p))
def sh13x0x15 : Sh := { tmps := [(3, .c (.p 12000000002 0)), (13, .c (.sl 39)), (14, .c (.i .i64)), (15, .c (.i .i64))], mem := [(12000000002, .dat 121)] }
def A13x0x15 (L : List Lf) : List (Bool × (Ex × St)) := bnd (Q13x0x15 N L N (pk sh13x0x15 [3, 4] L)) fun q => [((inlB q), (.ret, ⟨[(2, .c (.i .i64 (inlV q)))], []⟩)), ((inrQ q).isSome, ((.exit 0), ⟨[], []⟩))]
theorem step13x0x15 (m : Nat) (kn : St → Option (Ex × St)) (L x : List Lf) : lpB Tryz.prog (T36x0 N) (h13x0s0 N).h 0 13 15 sh13x0x15 [3, 4] [2] [] (m + 100) kn L x = J13x0x15 N L x (fun y => kn (ofSh sh13x0x15 (mx sh13x0x15 [3, 4] L y))) (fun p => some (.ret, ⟨[(2, .c (.i .i64 p))], []⟩)) (fun _ => some ((.exit 0), ⟨[], []⟩)) := by kernel_rfl
theorem ql13x0x15 (L : List Lf) (m : Nat) (x : List Lf) : Q13x0x15 N L (m + 1) x = J13x0x15 N L x (Q13x0x15 N L m) (fun p => some (.inl p)) (fun p => some (.inr p)) := by kernel_rfl
def h13x0s1 : Sg Tryz.prog 0 13 :=
 (h13x0s0 N).lp (A13x0x15 N) N progOk (T36x0_ok N) (fun m kn L x => (step13x0x15 N m kn L x).trans (sb13x0x15 N L x _ _ _)) (fun L m x => (ql13x0x15 N L m x).trans (sb13x0x15 N L x (Q13x0x15 N L m) (fun p => some (.inl p)) (fun p => some (.inr p)))) fun L x hx => (altS alt1) x hx
def F13x0 (v1 : LD) (k0 : Int → Option R) : Option R :=
 bif (decide ((v1.length : Int) > 50000)) then
  k0 3
 else
  bnd (V34x0 N) fun y0 =>
  bnd (G13x0x15 N v1 (v1.length : Int) 0 y0) fun y1 =>
  bif (inlB y1) then
   k0 (inlV y1)
  else
   bif (inrQ y1).isSome then
    k0 0
   else
    none
def G13x0 (v1 : LD) : Option (Int) := F13x0 N v1 (fun p => some p)
theorem bind13x0 (v1 : LD) (k0 : Int → Option R) : F13x0 N v1 k0 = (G13x0 N v1).bind k0 := by
 unfold G13x0 F13x0
 repeat' (first | with_reducible apply cond_b | (with_reducible apply bnd_b; intro _) | rfl)
def sh13x0 : Sh := { tmps := [(0, .g ([.sl 39]))], mem := [] }
def A13x0 (L : List Lf) : List (Bool × Res) := bnd (F13x0 N (ll L 1) (fun p => some p)) fun q => [(q.isSome, ([.c (.i .i64 (q.getD default))], []))]
theorem raw13x0 (L : List Lf) : bd Tryz.prog (T36x0 N) (h13x0s1 N).h 13 sh13x0 L = F13x0 N (ll L 1) (fun p => some ([.c (.i .i64 p)], [])) := by kernel_rfl
theorem ok13x0 : FnOk Tryz.prog 13 sh13x0 (A13x0 N) :=
 (h13x0s1 N).fn progOk (T36x0_ok N) fun L x hx => ((raw13x0 N L).trans ((bind13x0 N ..).trans (alt1 x hx)))
def T13x0 : Oracle := ext 13 (spSh sh13x0 (A13x0 N)) (T36x0 N)
theorem T13x0_ok : OracleOk Tryz.prog (T13x0 N) := FnOk.to (ok13x0 N) (T36x0_ok N)
def rg22x0 : List (Nat × List Nat) := [(0, []), (1, [])]
def hd22x0 : Hints := []
def h22x0s0 (N : Nat) : Sg Tryz.prog 0 22 := .start hd22x0 rg22x0
def F22x0 (N : Nat) (k0 : LD → R) : R :=
 k0 [(.s ([108, 105, 116, 116, 108, 101] : List UInt8)), (.s ([98, 105, 103] : List UInt8))]
def V22x0 : LD := F22x0 N (fun p => p)
theorem tot22x0 (k0 : LD → R) : F22x0 N k0 = k0 (V22x0 N) := by
 unfold V22x0 F22x0
 repeat' (first | rfl | apply cond_k | (apply bnd_k; intro _))
def sh22x0 : Sh := { tmps := [], mem := [] }
def A22x0 (L : List Lf) : List (Bool × Res) := bnd (F22x0 N (fun p => p)) fun q => [(true, ([.c (.sl 9 false q)], []))]
theorem raw22x0 (L : List Lf) : bd Tryz.prog (T13x0 N) (h22x0s0 N).h 22 sh22x0 L = F22x0 N (fun p => some ([.c (.sl 9 false p)], [])) := by kernel_rfl
theorem ok22x0 : FnOk Tryz.prog 22 sh22x0 (A22x0 N) :=
 (h22x0s0 N).fn progOk (T13x0_ok N) fun L x hx => ((raw22x0 N L).trans ((tot22x0 N ..).trans (alt0 _ _ hx)))
def T22x0 : Oracle := ext 22 (spSh sh22x0 (A22x0 N)) (T13x0 N)
theorem T22x0_ok : OracleOk Tryz.prog (T22x0 N) := FnOk.to (ok22x0 N) (T13x0_ok N)
def sh55x0 : Sh := copyCkSh
def A55x0 (N : Nat) (L : List Lf) : List (Bool × Res) := copyCkA L
theorem ok55x0 : FnOk Tryz.prog 55 sh55x0 (A55x0 N) := copyCk_fn
def T55x0 : Oracle := ext 55 (spSh sh55x0 (A55x0 N)) (T22x0 N)
theorem T55x0_ok : OracleOk Tryz.prog (T55x0 N) := FnOk.to (ok55x0 N) (T22x0_ok N)
def rg23x0 : List (Nat × List Nat) := [(0, [0, 1]), (1, [0, 1]), (2, [0, 1]), (3, [1])]
def hd23x0 : Hints := []
def h23x0s0 (N : Nat) : Sg Tryz.prog 2 23 := .start hd23x0 rg23x0
def F23x0 (N : Nat) (v0 : LB) (v1 : Bool) (v2 : LD) (k0 : Int × Bool × LD → Option R) : Option R :=
 bif (decide ((v2.length + v0.length) * 1 ≤ room) && decide ((v2.length + v0.length) ≤ strMax)) then
  k0 ((v0.length : Int), (v0.isEmpty && v1), (v2 ++ (bytesD v0)))
 else
  none
def G23x0 (v0 : LB) (v1 : Bool) (v2 : LD) : Option (Int × Bool × LD) := F23x0 N v0 v1 v2 (fun p => some p)
theorem bind23x0 (v0 : LB) (v1 : Bool) (v2 : LD) (k0 : Int × Bool × LD → Option R) : F23x0 N v0 v1 v2 k0 = (G23x0 N v0 v1 v2).bind k0 := by
 unfold G23x0 F23x0
 repeat' (first | with_reducible apply cond_b | (with_reducible apply bnd_b; intro _) | rfl)
def sh23x0 : Sh := { tmps := [(0, .c (.p 0 0)), (1, .c (.s))], mem := [(0, .box ([.ba 0 60, .o 1])), (1, .row 5 true)] }
def K23x0w0 (L : List Lf) (p : Int × Bool × LD) : Res := ([.c (.i .i64 p.1), .c (.v .nilIface)], [(0, .box [.ba 0 60, .o 16]), (16, .row 5 true p.2.1 p.2.2)])
def A23x0 (L : List Lf) : List (Bool × Res) := bnd (F23x0 N (ls L 0) (lb L 1) (ll L 2) (fun p => some p)) fun q => [(q.isSome, K23x0w0 L (q.getD default))]
theorem raw23x0 (L : List Lf) : bd Tryz.prog (T55x0 N) (h23x0s0 N).h 23 sh23x0 L = F23x0 N (ls L 0) (lb L 1) (ll L 2) (fun p => some (K23x0w0 L p)) := by kernel_rfl
theorem ok23x0 : FnOk Tryz.prog 23 sh23x0 (A23x0 N) :=
 (h23x0s0 N).fn progOk (T55x0_ok N) fun L x hx => ((raw23x0 N L).trans ((bind23x0 N ..).trans (alt1 x hx)))
def T23x0 : Oracle := ext 23 (spSh sh23x0 (A23x0 N)) (T55x0 N)
theorem T23x0_ok : OracleOk Tryz.prog (T23x0 N) := FnOk.to (ok23x0 N) (T55x0_ok N)
def rg24x0 : List (Nat × List Nat) := [(0, [0]), (1, [0]), (2, []), (3, [0]), (4, [0, 3]), (5, [11, 10, 9, 3]), (6, [9, 11, 3, 10]), (7, [3, 5, 11, 10, 9]), (8, [11, 10, 9, 3]), (9, [3])]
def hd24x0 : Hints := [(15, [3, 9, 10, 11], [3], [3])]
def h24x0s0 (N : Nat) : Sg Tryz.prog 0 24 := .start hd24x0 rg24x0
def S24x0x15 (N : Nat) (w1 : LD) (w2 : Int) (w3 : Int) (w4 : Bool) (w5 : LD) (kr : Int → Bool → LD → Option R) (k0 : Bool × LD → Option R) : Option R :=
 bif (decide (w3 < w2)) then
  bif (inB w3 w1.length) then
   bif (inB (IntKind.wrap .u8 ((w1.getD w3.toNat (.i 0)).toI.tdiv 16)) 16) then
    bnd ((([48, 49, 50, 51, 52, 53, 54, 55, 56, 57, 97, 98, 99, 100, 101, 102] : List UInt8).getD (IntKind.wrap .u8 ((w1.getD w3.toNat (.i 0)).toI.tdiv 16)).toNat 0).toNat : Int) fun y0 =>
    bif (inB ((w1.getD w3.toNat (.i 0)).toI.tmod 16) 16) then
     bnd ((([48, 49, 50, 51, 52, 53, 54, 55, 56, 57, 97, 98, 99, 100, 101, 102] : List UInt8).getD ((w1.getD w3.toNat (.i 0)).toI.tmod 16).toNat 0).toNat : Int) fun y1 =>
     bif (decide ((w5.length + 2) * 1 ≤ room) && decide ((w5.length + 2) ≤ strMax)) then
      kr (IntKind.wrap .i64 (w3 + 1)) false (w5 ++ [(.i y0), (.i y1)])
     else
      none
    else
     none
   else
    none
  else
   none
 else
  k0 (w4, w5)
def L24x0x15 (N : Nat) {R : Type} (w1 : LD) (w2 : Int) : Nat → Int → Bool → LD → (Bool × LD → Option R) → Option R
 | 0, _, _, _, _ => none
 | m + 1, w3, w4, w5, k0 => S24x0x15 N w1 w2 w3 w4 w5 (fun w3 w4 w5 => L24x0x15 N w1 w2 m w3 w4 w5 k0) k0
def G24x0x15 (w1 : LD) (w2 : Int) (w3 : Int) (w4 : Bool) (w5 : LD) : Option (Bool × LD) := L24x0x15 N (R := (Bool × LD)) w1 w2 N w3 w4 w5 (fun p => some p)
def J24x0x15 (L x : List Lf) (kr : List Lf → Option R) (k0 : Bool × LD → Option R) : Option R := S24x0x15 N (ll L 1) (li L 2) (li x 0) (lb x 1) (ll x 2) (fun w3 w4 w5 => kr [.i w3, .b w4, .l w5]) k0
theorem sb24x0x15 (L x : List Lf) (kr : List Lf → Option R) (k0 : Bool × LD → Option R) : J24x0x15 N L x kr k0 = (J24x0x15 N L x (fun y => some (.inl y)) (fun p => some (.inr p))).bind (sumE kr k0) := by
 unfold J24x0x15 S24x0x15
 repeat' (first | with_reducible apply cond_b | (with_reducible apply bnd_b; intro _) | rfl)
def Q24x0x15 (L : List Lf) (m : Nat) (x : List Lf) : Option (Bool × LD) := L24x0x15 N (R := (Bool × LD)) (ll L 1) (li L 2) m (li x 0) (lb x 1) (ll x 2) (fun p => some p)
def sh24x0x15 : Sh := { tmps := [(3, .c (.o 3)), (9, .c (.sl 5)), (10, .c (.i .i64)), (11, .c (.i .i64))], mem := [(3, .row 5 true)] }
def A24x0x15 (L : List Lf) : List (Bool × (Ex × St)) := bnd (Q24x0x15 N L N (pk sh24x0x15 [3, 4, 5] L)) fun q => [(q.isSome, ((.exit 0), ⟨[(3, .c (.o 3))], [(3, .row 5 true (q.getD default).1 (q.getD default).2)]⟩))]
theorem step24x0x15 (m : Nat) (kn : St → Option (Ex × St)) (L x : List Lf) : lpB Tryz.prog (T23x0 N) (h24x0s0 N).h 0 24 15 sh24x0x15 [3, 4, 5] [2, 3] [3] (m + 100) kn L x = J24x0x15 N L x (fun y => kn (ofSh sh24x0x15 (mx sh24x0x15 [3, 4, 5] L y))) (fun p => some ((.exit 0), ⟨[(3, .c (.o 3))], [(3, .row 5 true p.1 p.2)]⟩)) := by kernel_rfl
theorem ql24x0x15 (L : List Lf) (m : Nat) (x : List Lf) : Q24x0x15 N L (m + 1) x = J24x0x15 N L x (Q24x0x15 N L m) some := by kernel_rfl
def h24x0s1 : Sg Tryz.prog 0 24 :=
 (h24x0s0 N).lp (A24x0x15 N) N progOk (T23x0_ok N) (fun m kn L x => (step24x0x15 N m kn L x).trans (sb24x0x15 N L x _ _)) (fun L m x => (ql24x0x15 N L m x).trans (sb24x0x15 N L x (Q24x0x15 N L m) some)) fun L x hx => alt1 x hx
def F24x0 (v1 : LD) (k0 : LB → Option R) : Option R :=
 bif ((v1.length : Int) == 0) then
  k0 ([45] : List UInt8)
 else
  bnd (G24x0x15 N v1 (v1.length : Int) 0 true []) fun y0 =>
  bif y0.isSome then
   k0 (strD (y0.getD default).2)
  else
   none
def G24x0 (v1 : LD) : Option (LB) := F24x0 N v1 (fun p => some p)
theorem bind24x0 (v1 : LD) (k0 : LB → Option R) : F24x0 N v1 k0 = (G24x0 N v1).bind k0 := by
 unfold G24x0 F24x0
 repeat' (first | with_reducible apply cond_b | (with_reducible apply bnd_b; intro _) | rfl)
def sh24x0 : Sh := { tmps := [(0, .c (.sl 5))], mem := [] }
def A24x0 (L : List Lf) : List (Bool × Res) := bnd (F24x0 N (ll L 1) (fun p => some p)) fun q => [(q.isSome, ([.c (.s (q.getD default))], []))]
theorem raw24x0 (L : List Lf) : bd Tryz.prog (T23x0 N) (h24x0s1 N).h 24 sh24x0 L = F24x0 N (ll L 1) (fun p => some ([.c (.s p)], [])) := by kernel_rfl
theorem ok24x0 : FnOk Tryz.prog 24 sh24x0 (A24x0 N) :=
 (h24x0s1 N).fn progOk (T23x0_ok N) fun L x hx => ((raw24x0 N L).trans ((bind24x0 N ..).trans (alt1 x hx)))
def T24x0 : Oracle := ext 24 (spSh sh24x0 (A24x0 N)) (T23x0 N)
theorem T24x0_ok : OracleOk Tryz.prog (T24x0 N) := FnOk.to (ok24x0 N) (T23x0_ok N)
def rg25x0 : List (Nat × List Nat) := [(0, [0, 1]), (1, [0, 1]), (2, [0, 1]), (3, [])]
def hd25x0 : Hints := []
def h25x0s0 (N : Nat) : Sg Tryz.prog 2 25 := .start hd25x0 rg25x0
def F25x0 (N : Nat) (v0 : Int) (v2 : LD) (k0 : LD → Option R) : Option R :=
 bif (decide ((v2.length + 1) * 1 ≤ room) && decide ((v2.length + 1) ≤ strMax)) then
  k0 (v2 ++ [(.i v0)])
 else
  none
def G25x0 (v0 : Int) (v2 : LD) : Option (LD) := F25x0 N v0 v2 (fun p => some p)
theorem bind25x0 (v0 : Int) (v2 : LD) (k0 : LD → Option R) : F25x0 N v0 v2 k0 = (G25x0 N v0 v2).bind k0 := by
 unfold G25x0 F25x0
 repeat' (first | with_reducible apply cond_b | (with_reducible apply bnd_b; intro _) | rfl)
def sh25x0 : Sh := { tmps := [(0, .c (.p 0 0)), (1, .c (.i .u8))], mem := [(0, .box ([.ba 0 60, .o 1])), (1, .row 5 true)] }
def K25x0w0 (L : List Lf) (p : LD) : Res := ([.c (.v .nilIface)], [(0, .box [.ba 0 60, .o 16]), (16, .row 5 true false p)])
def A25x0 (L : List Lf) : List (Bool × Res) := bnd (F25x0 N (li L 0) (ll L 2) (fun p => some p)) fun q => [(q.isSome, K25x0w0 L (q.getD default))]
theorem raw25x0 (L : List Lf) : bd Tryz.prog (T24x0 N) (h25x0s0 N).h 25 sh25x0 L = F25x0 N (li L 0) (ll L 2) (fun p => some (K25x0w0 L p)) := by kernel_rfl
theorem ok25x0 : FnOk Tryz.prog 25 sh25x0 (A25x0 N) :=
 (h25x0s0 N).fn progOk (T24x0_ok N) fun L x hx => ((raw25x0 N L).trans ((bind25x0 N ..).trans (alt1 x hx)))
def T25x0 : Oracle := ext 25 (spSh sh25x0 (A25x0 N)) (T24x0 N)
theorem T25x0_ok : OracleOk Tryz.prog (T25x0 N) := FnOk.to (ok25x0 N) (T24x0_ok N)
def rg26x0 : List (Nat × List Nat) := [(0, [0]), (1, [0])]
def hd26x0 : Hints := []
def h26x0s0 (N : Nat) : Sg Tryz.prog 2 26 := .start hd26x0 rg26x0
def F26x0 (N : Nat) (v1 : LD) (k0 : Int → R) : R :=
 k0 (v1.length : Int)
def V26x0 (v1 : LD) : Int := F26x0 N v1 (fun p => p)
theorem tot26x0 (v1 : LD) (k0 : Int → R) : F26x0 N v1 k0 = k0 (V26x0 N v1) := by
 unfold V26x0 F26x0
 repeat' (first | rfl | apply cond_k | (apply bnd_k; intro _))
def sh26x0 : Sh := { tmps := [(0, .c (.p 0 0))], mem := [(0, .box ([.ba 0 60, .o 1])), (1, .row 5 true)] }
def A26x0 (L : List Lf) : List (Bool × Res) := bnd (F26x0 N (ll L 1) (fun p => p)) fun q => [(true, ([.c (.i .i64 q)], mgA (ofSh sh26x0 L).mem [] [0, 1]))]
theorem raw26x0 (L : List Lf) : bd Tryz.prog (T25x0 N) (h26x0s0 N).h 26 sh26x0 L = F26x0 N (ll L 1) (fun p => some ([.c (.i .i64 p)], mgA (ofSh sh26x0 L).mem [] [0, 1])) := by kernel_rfl
theorem ok26x0 : FnOk Tryz.prog 26 sh26x0 (A26x0 N) :=
 (h26x0s0 N).fn progOk (T25x0_ok N) fun L x hx => ((raw26x0 N L).trans ((tot26x0 N ..).trans (alt0 _ _ hx)))
def T26x0 : Oracle := ext 26 (spSh sh26x0 (A26x0 N)) (T25x0 N)
theorem T26x0_ok : OracleOk Tryz.prog (T26x0 N) := FnOk.to (ok26x0 N) (T25x0_ok N)
def sh27x0 : Sh := bstrSh
def A27x0 (N : Nat) (L : List Lf) : List (Bool × Res) := bstrA L
theorem ok27x0 : FnOk Tryz.prog 27 sh27x0 (A27x0 N) := bstr_fn
def T27x0 : Oracle := ext 27 (spSh sh27x0 (A27x0 N)) (T26x0 N)
theorem T27x0_ok : OracleOk Tryz.prog (T27x0 N) := FnOk.to (ok27x0 N) (T26x0_ok N)
def rg9x0 : List (Nat × List Nat) := [(0, [0]), (1, [1]), (2, [4, 1]), (3, [4]), (4, [1]), (5, [1, 5]), (6, [1, 6, 5]), (7, [21, 20, 19, 6, 5]), (8, [19, 21, 6, 5, 20]), (9, [8, 6, 5, 21, 20, 19]), (11, [26, 8, 6, 5, 21, 20, 19]), (22, [26, 6, 8, 5, 21, 20, 19]), (10, [6, 8, 5, 21, 20, 19]), (23, [6, 8, 5, 21, 20, 19]), (12, [8, 6, 5, 21, 20, 19]), (13, [9, 6, 8, 5, 21, 20, 19]), (14, [9, 6, 8, 5, 21, 20, 19, 10]), (15, [6, 8, 9, 5, 21, 20, 19]), (16, [6, 8, 9, 10, 5, 21, 20, 19]), (17, [9, 6, 5, 21, 20, 19]), (18, [76, 75, 74, 6, 5, 21, 20, 19]), (19, [74, 76, 6, 5, 75, 21, 20, 19]), (20, [6, 12, 5, 76, 75, 74, 21, 20, 19]), (21, [76, 75, 74, 6, 5, 21, 20, 19]), (24, [5, 21, 20, 19, 6]), (25, [21, 20, 19, 6, 5]), (26, [5]), (27, []), (28, [5])]
def hd9x0 : Hints := [(21, [5, 6, 19, 20, 21], [5, 50005001], [50005001]), (47, [5, 6, 8, 9, 10, 19, 20, 21, 54], [5, 8, 9, 50005001], []), (54, [5, 6, 19, 20, 21, 74, 75, 76], [5, 50005001, 73000000016], [50005001]), (30071, [5, 6, 8, 19, 20, 21, 99], [5, 8, 50005001], []), (66038, [5, 6, 8, 19, 20, 21, 26, 44], [5, 8, 50005001], [])]
def h9x0s0 (N : Nat) : Sg Tryz.prog 0 9 := .start hd9x0 rg9x0
def F9x0x47 (w0 : LB) (w5 : Bool) (k0 : LB → Option R) : Option R :=
 bif w5 then
  bnd (V22x0 N) fun y0 =>
  bif (inB 1 y0.length) then
   k0 (y0.getD 1 (.i 0)).toS
  else
   none
 else
  k0 w0
def G9x0x47 (w0 : LB) (w5 : Bool) : Option (LB) := F9x0x47 N w0 w5 (fun p => some p)
theorem bind9x0x47 (w0 : LB) (w5 : Bool) (k0 : LB → Option R) : F9x0x47 N w0 w5 k0 = (G9x0x47 N w0 w5).bind k0 := by
 unfold G9x0x47 F9x0x47
 repeat' (first | with_reducible apply cond_b | (with_reducible apply bnd_b; intro _) | rfl)
def sh9x0x47 : Sh := { tmps := [(5, .c (.p 5 0)), (6, .c (.f 21 [])), (8, .c (.p 8 0)), (9, .c (.p 9 0)), (10, .c (.s)), (19, .c (.sl 39)), (20, .c (.i .i64)), (21, .c (.i .i64)), (54, .c (.b))], mem := [(5, .box ([.ba 5 60, .o 50005001])), (8, .box ([.i .i64, .i .i64, .i .i64, .sl 64, .sl 5])), (9, .box ([.b, .i .i64, .sl 71])), (50005001, .row 5 true)] }
def K9x0x47w0 (L : List Lf) (p : LB) : Ex × St := (.normal, mg (ofSh sh9x0x47 L) [6, 8, 9, 10, 5, 21, 20, 19] [(10, .c (.s p))] [9, 8, 50005001, 5] [])
def A9x0x47 (L : List Lf) : List (Bool × (Ex × St)) := bnd (F9x0x47 N (ls L 0) (lb L 5) (fun p => some p)) fun q => [(q.isSome, K9x0x47w0 L (q.getD default))]
theorem raw9x0x47 (L : List Lf) : pc Tryz.prog (T27x0 N) (h9x0s0 N).h 0 100 9 47 sh9x0x47 L [6, 8, 9, 10, 5, 21, 20, 19] [9, 8, 50005001, 5] = F9x0x47 N (ls L 0) (lb L 5) (fun p => some (K9x0x47w0 L p)) := by kernel_rfl
def h9x0s1 : Sg Tryz.prog 0 9 :=
 (h9x0s0 N).cut (A9x0x47 N) progOk (T27x0_ok N) fun L x hx => (raw9x0x47 N L).trans ((bind9x0x47 N ..).trans (alt1 x hx))
def S9x0x54 (w5 : LD) (w6 : Int) (w7 : Int) (w8 : Bool) (w9 : LD) (kr : Int → Bool → LD → Option R) (k0 : Bool × LD → Option R) : Option R :=
 bif (decide (w7 < w6)) then
  bif (inB w7 w5.length) then
   bif (i64B ((w5.getD w7.toNat (.i 0)).cell 0).toI) then
    bif (decide (([32] : List UInt8).length + (Lib.itoa ((w5.getD w7.toNat (.i 0)).cell 0).toI).length ≤ strMax)) then
     bnd (([32] : List UInt8) ++ (Lib.itoa ((w5.getD w7.toNat (.i 0)).cell 0).toI)) fun y0 =>
     bif (decide (y0.length + ([58] : List UInt8).length ≤ strMax)) then
      bif (i64B ((w5.getD w7.toNat (.i 0)).cell 1).toI) then
       bif (decide ((y0 ++ ([58] : List UInt8)).length + (Lib.itoa ((w5.getD w7.toNat (.i 0)).cell 1).toI).length ≤ strMax)) then
        bnd ((y0 ++ ([58] : List UInt8)) ++ (Lib.itoa ((w5.getD w7.toNat (.i 0)).cell 1).toI)) fun y1 =>
        bif (decide (y1.length + ([58] : List UInt8).length ≤ strMax)) then
         bif (i64B ((w5.getD w7.toNat (.i 0)).cell 2).toI) then
          bif (decide ((y1 ++ ([58] : List UInt8)).length + (Lib.itoa ((w5.getD w7.toNat (.i 0)).cell 2).toI).length ≤ strMax)) then
           bnd ((y1 ++ ([58] : List UInt8)) ++ (Lib.itoa ((w5.getD w7.toNat (.i 0)).cell 2).toI)) fun y2 =>
           bnd (G23x0 N y2 w8 w9) fun y3 =>
           bif y3.isSome then
            kr (IntKind.wrap .i64 (w7 + 1)) (y3.getD default).2.1 (y3.getD default).2.2
           else
            none
          else
           none
         else
          none
        else
         none
       else
        none
      else
       none
     else
      none
    else
     none
   else
    none
  else
   none
 else
  k0 (w8, w9)
def L9x0x54 (N : Nat) {R : Type} (w5 : LD) (w6 : Int) : Nat → Int → Bool → LD → (Bool × LD → Option R) → Option R
 | 0, _, _, _, _ => none
 | m + 1, w7, w8, w9, k0 => S9x0x54 N w5 w6 w7 w8 w9 (fun w7 w8 w9 => L9x0x54 N w5 w6 m w7 w8 w9 k0) k0
def G9x0x54 (w5 : LD) (w6 : Int) (w7 : Int) (w8 : Bool) (w9 : LD) : Option (Bool × LD) := L9x0x54 N (R := (Bool × LD)) w5 w6 N w7 w8 w9 (fun p => some p)
def J9x0x54 (L x : List Lf) (kr : List Lf → Option R) (k0 : Bool × LD → Option R) : Option R := S9x0x54 N (ll L 5) (li L 6) (li x 0) (lb x 1) (ll x 2) (fun w7 w8 w9 => kr [.i w7, .b w8, .l w9]) k0
theorem sb9x0x54 (L x : List Lf) (kr : List Lf → Option R) (k0 : Bool × LD → Option R) : J9x0x54 N L x kr k0 = (J9x0x54 N L x (fun y => some (.inl y)) (fun p => some (.inr p))).bind (sumE kr k0) := by
 unfold J9x0x54 S9x0x54
 repeat' (first | with_reducible apply cond_b | (with_reducible apply bnd_b; intro _) | rfl)
def Q9x0x54 (L : List Lf) (m : Nat) (x : List Lf) : Option (Bool × LD) := L9x0x54 N (R := (Bool × LD)) (ll L 5) (li L 6) m (li x 0) (lb x 1) (ll x 2) (fun p => some p)
def sh9x0x54 : Sh := { tmps := [(5, .c (.p 5 0)), (6, .c (.f 21 [])), (19, .c (.sl 39)), (20, .c (.i .i64)), (21, .c (.i .i64)), (74, .c (.sl 71)), (75, .c (.i .i64)), (76, .c (.i .i64))], mem := [(5, .box ([.ba 5 60, .o 50005001])), (50005001, .row 5 true)] }
def K9x0x54w0 (L : List Lf) (p : Bool × LD) : Ex × St := ((.exit 3), mg (ofSh sh9x0x54 L) [5, 21, 20, 19, 6] [] [50005001, 5] [(50005001, .row 5 true p.1 p.2)])
def A9x0x54 (L : List Lf) : List (Bool × (Ex × St)) := bnd (Q9x0x54 N L N (pk sh9x0x54 [7, 8, 9] L)) fun q => [(q.isSome, K9x0x54w0 L (q.getD default))]
theorem step9x0x54 (m : Nat) (kn : St → Option (Ex × St)) (L x : List Lf) : lpB Tryz.prog (T27x0 N) (h9x0s1 N).h 0 9 54 sh9x0x54 [7, 8, 9] [2, 3, 5, 21, 20, 19, 6] [50005001, 5] (m + 100) kn L x = J9x0x54 N L x (fun y => kn (ofSh sh9x0x54 (mx sh9x0x54 [7, 8, 9] L y))) (fun p => some (K9x0x54w0 L p)) := by kernel_rfl
theorem ql9x0x54 (L : List Lf) (m : Nat) (x : List Lf) : Q9x0x54 N L (m + 1) x = J9x0x54 N L x (Q9x0x54 N L m) some := by kernel_rfl
def h9x0s2 : Sg Tryz.prog 0 9 :=
 (h9x0s1 N).lp (A9x0x54 N) N progOk (T27x0_ok N) (fun m kn L x => (step9x0x54 N m kn L x).trans (sb9x0x54 N L x _ _)) (fun L m x => (ql9x0x54 N L m x).trans (sb9x0x54 N L x (Q9x0x54 N L m) some)) fun L x hx => alt1 x hx
def F9x0x30071 (w4 : Bool) (w6 w7 : Int) (w11 : LD) (w12 : Bool) (w13 : LD) (k0 : Bool × LD → Option R) (k1 : Bool × LD → Option R) : Option R :=
 bif w4 then
  bif (i64B w6) then
   bif (decide (([100, 97, 116, 97, 32] : List UInt8).length + (Lib.itoa w6).length ≤ strMax)) then
    bif (decide ((([100, 97, 116, 97, 32] : List UInt8) ++ (Lib.itoa w6)).length + ([32] : List UInt8).length ≤ strMax)) then
     bnd ((([100, 97, 116, 97, 32] : List UInt8) ++ (Lib.itoa w6)) ++ ([32] : List UInt8)) fun y0 =>
     bnd (G24x0 N w11) fun y1 =>
     bif y1.isSome then
      bif (decide (y0.length + (y1.getD default).length ≤ strMax)) then
       bnd (G23x0 N (y0 ++ (y1.getD default)) w12 w13) fun y2 =>
       bif y2.isSome then
        k0 ((y2.getD default).2.1, (y2.getD default).2.2)
       else
        none
      else
       none
     else
      none
    else
     none
   else
    none
  else
   none
 else
  bif (i64B w6) then
   bif (decide (([115, 104, 111, 114, 116, 32] : List UInt8).length + (Lib.itoa w6).length ≤ strMax)) then
    bnd (([115, 104, 111, 114, 116, 32] : List UInt8) ++ (Lib.itoa w6)) fun y3 =>
    bif (decide (y3.length + ([32] : List UInt8).length ≤ strMax)) then
     bif (i64B w7) then
      bif (decide ((y3 ++ ([32] : List UInt8)).length + (Lib.itoa w7).length ≤ strMax)) then
       bif (decide (((y3 ++ ([32] : List UInt8)) ++ (Lib.itoa w7)).length + ([32] : List UInt8).length ≤ strMax)) then
        bnd (((y3 ++ ([32] : List UInt8)) ++ (Lib.itoa w7)) ++ ([32] : List UInt8)) fun y4 =>
        bnd (G24x0 N w11) fun y1 =>
        bif y1.isSome then
         bif (decide (y4.length + (y1.getD default).length ≤ strMax)) then
          bnd (G23x0 N (y4 ++ (y1.getD default)) w12 w13) fun y5 =>
          bif y5.isSome then
           k1 ((y5.getD default).2.1, (y5.getD default).2.2)
          else
           none
         else
          none
        else
         none
       else
        none
      else
       none
     else
      none
    else
     none
   else
    none
  else
   none
def G9x0x30071 (w4 : Bool) (w6 w7 : Int) (w11 : LD) (w12 : Bool) (w13 : LD) : Option (Sum (Bool × LD) (Bool × LD)) := F9x0x30071 N w4 w6 w7 w11 w12 w13 (fun p => some (.inl p)) (fun p => some (.inr p))
theorem bind9x0x30071 (w4 : Bool) (w6 w7 : Int) (w11 : LD) (w12 : Bool) (w13 : LD) (k0 : Bool × LD → Option R) (k1 : Bool × LD → Option R) : F9x0x30071 N w4 w6 w7 w11 w12 w13 k0 k1 = (G9x0x30071 N w4 w6 w7 w11 w12 w13).bind (sumE k0 k1) := by
 unfold G9x0x30071 F9x0x30071
 repeat' (first | with_reducible apply cond_b | (with_reducible apply bnd_b; intro _) | rfl)
def J9x0x30071 (L : List Lf) (k0 : Bool × LD → Option R) (k1 : Bool × LD → Option R) : Option R := F9x0x30071 N (lb L 4) (li L 6) (li L 7) (ll L 11) (lb L 12) (ll L 13) k0 k1
def sh9x0x30071 : Sh := { tmps := [(5, .c (.p 5 0)), (6, .c (.f 21 [])), (8, .c (.p 8 0)), (19, .c (.sl 39)), (20, .c (.i .i64)), (21, .c (.i .i64)), (99, .c (.b))], mem := [(5, .box ([.ba 5 60, .o 50005001])), (8, .box ([.i .i64, .i .i64, .i .i64, .sl 64, .sl 5])), (50005001, .row 5 true)] }
def K9x0x30071w0 (L : List Lf) (p : Bool × LD) : Ex × St := (.normal, mg (ofSh sh9x0x30071 L) [5, 21, 20, 19, 6] [] [112000000016, 5] [(112000000016, .row 5 true p.1 p.2), (5, .box [.ba 5 60, .o 112000000016])])
def K9x0x30071w1 (L : List Lf) (p : Bool × LD) : Ex × St := (.normal, mg (ofSh sh9x0x30071 L) [5, 21, 20, 19, 6] [] [5, 44000000016] [(5, .box [.ba 5 60, .o 44000000016]), (44000000016, .row 5 true p.1 p.2)])
def A9x0x30071 (L : List Lf) : List (Bool × (Ex × St)) := bnd (J9x0x30071 N L (fun p => some (.inl p)) (fun p => some (.inr p))) fun q => [((inlB q), K9x0x30071w0 L (inlV q)), ((inrQ q).isSome, K9x0x30071w1 L ((inrQ q).getD default))]
theorem raw9x0x30071 (L : List Lf) : pc Tryz.prog (T27x0 N) (h9x0s2 N).h 0 100 9 30071 sh9x0x30071 L [5, 21, 20, 19, 6] [112000000016, 5, 44000000016] = J9x0x30071 N L (fun p => some (K9x0x30071w0 L p)) (fun p => some (K9x0x30071w1 L p)) := by kernel_rfl
def h9x0s3 : Sg Tryz.prog 0 9 :=
 (h9x0s2 N).cut (A9x0x30071 N) progOk (T27x0_ok N) fun L x hx => (raw9x0x30071 N L).trans ((bind9x0x30071 N ..).trans ((altS alt1) x hx))
def F9x0x66038 (w4 : Int) (w5 : Bool) (w7 w8 : Int) (w10 w12 : LD) (w13 : Bool) (w14 : LD) (k0 : Bool × LD → Option R) (k1 : Bool × LD → Option R) (k2 : Bool × LD → Option R) : Option R :=
 bif w5 then
  bif (inB 0 w10.length) then
   bnd (V22x0 N) fun y0 =>
   bif (inB 0 y0.length) then
    bnd (G9x0x47 N (y0.getD 0 (.i 0)).toS ((w10.getD 0 (.i 0)).cell 0).toB) fun y1 =>
    bif y1.isSome then
     bif (i64B w7) then
      bif (decide (([100, 101, 102, 105, 110, 101, 32] : List UInt8).length + (Lib.itoa w7).length ≤ strMax)) then
       bnd (([100, 101, 102, 105, 110, 101, 32] : List UInt8) ++ (Lib.itoa w7)) fun y2 =>
       bif (decide (y2.length + ([32] : List UInt8).length ≤ strMax)) then
        bif (i64B ((w10.getD 0 (.i 0)).cell 1).toI) then
         bif (decide ((y2 ++ ([32] : List UInt8)).length + (Lib.itoa ((w10.getD 0 (.i 0)).cell 1).toI).length ≤ strMax)) then
          bnd ((y2 ++ ([32] : List UInt8)) ++ (Lib.itoa ((w10.getD 0 (.i 0)).cell 1).toI)) fun y3 =>
          bif (decide (y3.length + ([32] : List UInt8).length ≤ strMax)) then
           bif (decide ((y3 ++ ([32] : List UInt8)).length + (y1.getD default).length ≤ strMax)) then
            bnd ((y3 ++ ([32] : List UInt8)) ++ (y1.getD default)) fun y4 =>
            bnd (G23x0 N y4 w13 w14) fun y5 =>
            bif y5.isSome then
             bnd (G9x0x54 N ((w10.getD 0 (.i 0)).cell 2).items (((w10.getD 0 (.i 0)).cell 2).items.length : Int) 0 (y5.getD default).2.1 (y5.getD default).2.2) fun y6 =>
             bif y6.isSome then
              k0 (y6.getD default)
             else
              none
            else
             none
           else
            none
          else
           none
         else
          none
        else
         none
       else
        none
      else
       none
     else
      none
    else
     none
   else
    none
  else
   none
 else
  bnd (G9x0x30071 N (w4 == 2) w7 w8 w12 w13 w14) fun y7 =>
  bif (inlB y7) then
   k1 (inlV y7)
  else
   bif (inrQ y7).isSome then
    k2 ((inrQ y7).getD default)
   else
    none
def G9x0x66038 (w4 : Int) (w5 : Bool) (w7 w8 : Int) (w10 w12 : LD) (w13 : Bool) (w14 : LD) : Option (Sum (Bool × LD) (Sum (Bool × LD) (Bool × LD))) := F9x0x66038 N w4 w5 w7 w8 w10 w12 w13 w14 (fun p => some (.inl p)) (fun p => some (.inr (.inl p))) (fun p => some (.inr (.inr p)))
theorem bind9x0x66038 (w4 : Int) (w5 : Bool) (w7 w8 : Int) (w10 w12 : LD) (w13 : Bool) (w14 : LD) (k0 : Bool × LD → Option R) (k1 : Bool × LD → Option R) (k2 : Bool × LD → Option R) : F9x0x66038 N w4 w5 w7 w8 w10 w12 w13 w14 k0 k1 k2 = (G9x0x66038 N w4 w5 w7 w8 w10 w12 w13 w14).bind (sumE k0 (sumE k1 k2)) := by
 unfold G9x0x66038 F9x0x66038
 repeat' (first | with_reducible apply cond_b | (with_reducible apply bnd_b; intro _) | rfl)
def J9x0x66038 (L : List Lf) (k0 : Bool × LD → Option R) (k1 : Bool × LD → Option R) (k2 : Bool × LD → Option R) : Option R := F9x0x66038 N (li L 4) (lb L 5) (li L 7) (li L 8) (ll L 10) (ll L 12) (lb L 13) (ll L 14) k0 k1 k2
def sh9x0x66038 : Sh := { tmps := [(5, .c (.p 5 0)), (6, .c (.f 21 [])), (8, .c (.p 8 0)), (19, .c (.sl 39)), (20, .c (.i .i64)), (21, .c (.i .i64)), (26, .c (.i .i64)), (44, .c (.b))], mem := [(5, .box ([.ba 5 60, .o 50005001])), (8, .box ([.i .i64, .i .i64, .i .i64, .sl 64, .sl 5])), (50005001, .row 5 true)] }
def K9x0x66038w0 (L : List Lf) (p : Bool × LD) : Ex × St := (.normal, mg (ofSh sh9x0x66038 L) [5, 21, 20, 19, 6] [] [50005001, 5] [(50005001, .row 5 true p.1 p.2)])
def K9x0x66038w1 (L : List Lf) (p : Bool × LD) : Ex × St := (.normal, mg (ofSh sh9x0x66038 L) [5, 21, 20, 19, 6] [] [5, 112000000016] [(5, .box [.ba 5 60, .o 112000000016]), (112000000016, .row 5 true p.1 p.2)])
def K9x0x66038w2 (L : List Lf) (p : Bool × LD) : Ex × St := (.normal, mg (ofSh sh9x0x66038 L) [5, 21, 20, 19, 6] [] [5, 44000000016] [(5, .box [.ba 5 60, .o 44000000016]), (44000000016, .row 5 true p.1 p.2)])
def A9x0x66038 (L : List Lf) : List (Bool × (Ex × St)) := bnd (J9x0x66038 N L (fun p => some (.inl p)) (fun p => some (.inr (.inl p))) (fun p => some (.inr (.inr p)))) fun q => [((inlB q), K9x0x66038w0 L (inlV q)), ((inlB (inrQ q)), K9x0x66038w1 L (inlV (inrQ q))), ((inrQ (inrQ q)).isSome, K9x0x66038w2 L ((inrQ (inrQ q)).getD default))]
theorem raw9x0x66038 (L : List Lf) : pc Tryz.prog (T27x0 N) (h9x0s3 N).h 0 100 9 66038 sh9x0x66038 L [5, 21, 20, 19, 6, 2, 3] [50005001, 5, 112000000016, 44000000016] = J9x0x66038 N L (fun p => some (K9x0x66038w0 L p)) (fun p => some (K9x0x66038w1 L p)) (fun p => some (K9x0x66038w2 L p)) := by kernel_rfl
def h9x0s4 : Sg Tryz.prog 0 9 :=
 (h9x0s3 N).cut (A9x0x66038 N) progOk (T27x0_ok N) fun L x hx => (raw9x0x66038 N L).trans ((bind9x0x66038 N ..).trans ((altS (altS alt1)) x hx))
def S9x0x21 (w1 : LD) (w2 : Int) (w3 : Int) (w4 : Bool) (w5 : LD) (kr : Int → Bool → LD → Option R) (k0 : Bool × LD → Option R) : Option R :=
 bif (decide (w3 < w2)) then
  bif (inB w3 w1.length) then
   bnd (G9x0x66038 N ((w1.getD w3.toNat (.i 0)).cell 0).toI (((w1.getD w3.toNat (.i 0)).cell 0).toI == 1) ((w1.getD w3.toNat (.i 0)).cell 1).toI ((w1.getD w3.toNat (.i 0)).cell 2).toI ((w1.getD w3.toNat (.i 0)).cell 3).items ((w1.getD w3.toNat (.i 0)).cell 4).items w4 w5) fun y0 =>
   bif (inlB y0) then
    bnd (G25x0 N 10 (inlV y0).2) fun y1 =>
    bif y1.isSome then
     kr (IntKind.wrap .i64 (w3 + 1)) false (y1.getD default)
    else
     none
   else
    bif (inlB (inrQ y0)) then
     bnd (G25x0 N 10 (inlV (inrQ y0)).2) fun y2 =>
     bif y2.isSome then
      kr (IntKind.wrap .i64 (w3 + 1)) false (y2.getD default)
     else
      none
    else
     bif (inrQ (inrQ y0)).isSome then
      bnd (G25x0 N 10 ((inrQ (inrQ y0)).getD default).2) fun y3 =>
      bif y3.isSome then
       kr (IntKind.wrap .i64 (w3 + 1)) false (y3.getD default)
      else
       none
     else
      none
  else
   none
 else
  k0 (w4, w5)
def L9x0x21 (N : Nat) {R : Type} (w1 : LD) (w2 : Int) : Nat → Int → Bool → LD → (Bool × LD → Option R) → Option R
 | 0, _, _, _, _ => none
 | m + 1, w3, w4, w5, k0 => S9x0x21 N w1 w2 w3 w4 w5 (fun w3 w4 w5 => L9x0x21 N w1 w2 m w3 w4 w5 k0) k0
def G9x0x21 (w1 : LD) (w2 : Int) (w3 : Int) (w4 : Bool) (w5 : LD) : Option (Bool × LD) := L9x0x21 N (R := (Bool × LD)) w1 w2 N w3 w4 w5 (fun p => some p)
def J9x0x21 (L x : List Lf) (kr : List Lf → Option R) (k0 : Bool × LD → Option R) : Option R := S9x0x21 N (ll L 1) (li L 2) (li x 0) (lb x 1) (ll x 2) (fun w3 w4 w5 => kr [.i w3, .b w4, .l w5]) k0
theorem sb9x0x21 (L x : List Lf) (kr : List Lf → Option R) (k0 : Bool × LD → Option R) : J9x0x21 N L x kr k0 = (J9x0x21 N L x (fun y => some (.inl y)) (fun p => some (.inr p))).bind (sumE kr k0) := by
 unfold J9x0x21 S9x0x21
 repeat' (first | with_reducible apply cond_b | (with_reducible apply bnd_b; intro _) | rfl)
def Q9x0x21 (L : List Lf) (m : Nat) (x : List Lf) : Option (Bool × LD) := L9x0x21 N (R := (Bool × LD)) (ll L 1) (li L 2) m (li x 0) (lb x 1) (ll x 2) (fun p => some p)
def sh9x0x21 : Sh := { tmps := [(5, .c (.p 5 0)), (6, .c (.f 21 [])), (19, .c (.sl 39)), (20, .c (.i .i64)), (21, .c (.i .i64))], mem := [(5, .box ([.ba 5 60, .o 50005001])), (50005001, .row 5 true)] }
def K9x0x21w0 (L : List Lf) (p : Bool × LD) : Ex × St := ((.exit 0), mg (ofSh sh9x0x21 L) [5] [] [50005001, 5] [(50005001, .row 5 true p.1 p.2)])
def A9x0x21 (L : List Lf) : List (Bool × (Ex × St)) := bnd (Q9x0x21 N L N (pk sh9x0x21 [3, 4, 5] L)) fun q => [(q.isSome, K9x0x21w0 L (q.getD default))]
theorem step9x0x21 (m : Nat) (kn : St → Option (Ex × St)) (L x : List Lf) : lpB Tryz.prog (T27x0 N) (h9x0s4 N).h 0 9 21 sh9x0x21 [3, 4, 5] [2, 3, 5] [50005001, 5] (m + 100) kn L x = J9x0x21 N L x (fun y => kn (ofSh sh9x0x21 (mx sh9x0x21 [3, 4, 5] L y))) (fun p => some (K9x0x21w0 L p)) := by kernel_rfl
theorem ql9x0x21 (L : List Lf) (m : Nat) (x : List Lf) : Q9x0x21 N L (m + 1) x = J9x0x21 N L x (Q9x0x21 N L m) some := by kernel_rfl
def h9x0s5 : Sg Tryz.prog 0 9 :=
 (h9x0s4 N).lp (A9x0x21 N) N progOk (T27x0_ok N) (fun m kn L x => (step9x0x21 N m kn L x).trans (sb9x0x21 N L x _ _)) (fun L m x => (ql9x0x21 N L m x).trans (sb9x0x21 N L x (Q9x0x21 N L m) some)) fun L x hx => alt1 x hx
def F9x0 (v1 : LD) (k0 : LB × Int → Option R) : Option R :=
 bnd (G13x0 N v1) fun y0 =>
 bif y0.isSome then
  bif ((y0.getD default) != 0) then
   k0 (([] : List UInt8), (y0.getD default))
  else
   bnd (G9x0x21 N v1 (v1.length : Int) 0 true []) fun y1 =>
   bif y1.isSome then
    bnd (V26x0 N (y1.getD default).2) fun y2 =>
    bif (decide (y2 > 10000000)) then
     k0 (([] : List UInt8), 3)
    else
     bif (isBytes (y1.getD default).2 && (!(y1.getD default).2.isEmpty || (y1.getD default).1)) then
      k0 ((strD (y1.getD default).2), 0)
     else
      none
   else
    none
 else
  none
def G9x0 (v1 : LD) : Option (LB × Int) := F9x0 N v1 (fun p => some p)
theorem bind9x0 (v1 : LD) (k0 : LB × Int → Option R) : F9x0 N v1 k0 = (G9x0 N v1).bind k0 := by
 unfold G9x0 F9x0
 repeat' (first | with_reducible apply cond_b | (with_reducible apply bnd_b; intro _) | rfl)
def sh9x0 : Sh := { tmps := [(0, .g ([.sl 39]))], mem := [] }
def A9x0 (L : List Lf) : List (Bool × Res) := bnd (F9x0 N (ll L 1) (fun p => some p)) fun q => [(q.isSome, ([.c (.s (q.getD default).1), .c (.i .i64 (q.getD default).2)], []))]
theorem raw9x0 (L : List Lf) : bd Tryz.prog (T27x0 N) (h9x0s5 N).h 9 sh9x0 L = F9x0 N (ll L 1) (fun p => some ([.c (.s p.1), .c (.i .i64 p.2)], [])) := by kernel_rfl
theorem ok9x0 : FnOk Tryz.prog 9 sh9x0 (A9x0 N) :=
 (h9x0s5 N).fn progOk (T27x0_ok N) fun L x hx => ((raw9x0 N L).trans ((bind9x0 N ..).trans (alt1 x hx)))
def T9x0 : Oracle := ext 9 (spSh sh9x0 (A9x0 N)) (T27x0 N)
theorem T9x0_ok : OracleOk Tryz.prog (T9x0 N) := FnOk.to (ok9x0 N) (T27x0_ok N)
def rg66x0 : List (Nat × List Nat) := [(0, [0, 1, 2]), (1, [0, 1, 2])]
def hd66x0 : Hints := []
def h66x0s0 (N : Nat) : Sg Tryz.prog 0 66 := .start hd66x0 rg66x0
def F66x0 (N : Nat) (v0 v1 v2 : Int) (k0 : Bool → R) : R :=
 k0 (bif (decide (v0 < v1)) then true else (decide (v0 > v2)))
def V66x0 (v0 v1 v2 : Int) : Bool := F66x0 N v0 v1 v2 (fun p => p)
theorem tot66x0 (v0 v1 v2 : Int) (k0 : Bool → R) : F66x0 N v0 v1 v2 k0 = k0 (V66x0 N v0 v1 v2) := by
 unfold V66x0 F66x0
 repeat' (first | rfl | apply cond_k | (apply bnd_k; intro _))
def sh66x0 : Sh := { tmps := [(0, .c (.i .i64)), (1, .c (.i .i64)), (2, .c (.i .i64))], mem := [] }
def A66x0 (L : List Lf) : List (Bool × Res) := bnd (F66x0 N (li L 0) (li L 1) (li L 2) (fun p => p)) fun q => [(true, ([.c (.b q)], []))]
theorem raw66x0 (L : List Lf) : bd Tryz.prog (T9x0 N) (h66x0s0 N).h 66 sh66x0 L = F66x0 N (li L 0) (li L 1) (li L 2) (fun p => some ([.c (.b p)], [])) := by kernel_rfl
theorem ok66x0 : FnOk Tryz.prog 66 sh66x0 (A66x0 N) :=
 (h66x0s0 N).fn progOk (T9x0_ok N) fun L x hx => ((raw66x0 N L).trans ((tot66x0 N ..).trans (alt0 _ _ hx)))
def T66x0 : Oracle := ext 66 (spSh sh66x0 (A66x0 N)) (T9x0 N)
theorem T66x0_ok : OracleOk Tryz.prog (T66x0 N) := FnOk.to (ok66x0 N) (T9x0_ok N)
def rg67x0 : List (Nat × List Nat) := [(0, [0]), (1, [1]), (2, []), (3, [1]), (4, []), (5, [1]), (6, [17, 16, 15, 1]), (7, [17, 15, 1, 16]), (8, [4, 1, 3, 17, 16, 15]), (10, [4, 1, 3, 17, 16, 15]), (12, [4, 1, 3, 17, 16, 15]), (13, []), (11, []), (9, []), (14, [1, 3, 4, 17, 16, 15]), (15, [59, 58, 57, 4, 17, 16, 15, 1]), (16, [57, 59, 4, 58, 17, 16, 15, 1]), (17, [6, 4, 59, 58, 57, 17, 16, 15, 1]), (18, []), (19, [59, 58, 57, 4, 17, 16, 15, 1]), (20, [17, 16, 15, 1]), (21, [])]
def hd67x0 : Hints := [(18, [1, 15, 16, 17], [1], []), (25, [1, 3, 4, 15, 16, 17], [1, 4], []), (45, [1, 4, 15, 16, 17, 57, 58, 59], [1, 4], [])]
def h67x0s0 (N : Nat) : Sg Tryz.prog 0 67 := .start hd67x0 rg67x0
def F67x0x25 (w9 w10 : Int) (k0 : Bool → R) : R :=
 bnd (V66x0 N w9 0 255) fun y0 =>
 bif y0 then
  k0 true
 else
  bnd (V66x0 N w10 1 255) fun y1 =>
  k0 y1
def V67x0x25 (w9 w10 : Int) : Bool := F67x0x25 N w9 w10 (fun p => p)
theorem tot67x0x25 (w9 w10 : Int) (k0 : Bool → R) : F67x0x25 N w9 w10 k0 = k0 (V67x0x25 N w9 w10) := by
 unfold V67x0x25 F67x0x25
 repeat' (first | rfl | apply cond_k | (apply bnd_k; intro _))
def sh67x0x25 : Sh := { tmps := [(1, .c (.p 1 0)), (3, .c (.i .i64)), (4, .c (.p 4 0)), (15, .c (.sl 71)), (16, .c (.i .i64)), (17, .c (.i .i64))], mem := [(1, .box ([.b, .i .i64, .sl 71])), (4, .box ([.i .i64, .i .i64, .i .i64]))] }
def K67x0x25w0 (L : List Lf) (p : Bool) : Ex × St := (.normal, mg (ofSh sh67x0x25 L) [4, 1, 3, 17, 16, 15, 22] [(22, .c (.b p))] [4, 1] [])
def A67x0x25 (L : List Lf) : List (Bool × (Ex × St)) := bnd (F67x0x25 N (li L 9) (li L 10) (fun p => p)) fun q => [(true, K67x0x25w0 L q)]
theorem raw67x0x25 (L : List Lf) : pc Tryz.prog (T66x0 N) (h67x0s0 N).h 0 100 67 25 sh67x0x25 L [4, 1, 3, 17, 16, 15, 22] [4, 1] = F67x0x25 N (li L 9) (li L 10) (fun p => some (K67x0x25w0 L p)) := by kernel_rfl
def h67x0s1 : Sg Tryz.prog 0 67 :=
 (h67x0s0 N).cut (A67x0x25 N) progOk (T66x0_ok N) fun L x hx => (raw67x0x25 N L).trans ((tot67x0x25 N ..).trans (alt0 _ _ hx))
def S67x0x45 (N : Nat) (w5 : LD) (w6 w12 : Int) (w7 : Int) (kr : Int → Option R) (k0 : Unit → Option R) (k1 : Unit → Option R) : Option R :=
 bif (decide (w7 < w6)) then
  bif (inB w7 w5.length) then
   bif (((w5.getD w7.toNat (.i 0)).cell 0).toI == w12) then
    k0 ()
   else
    kr (IntKind.wrap .i64 (w7 + 1))
  else
   none
 else
  k1 ()
def L67x0x45 (N : Nat) {R : Type} (w5 : LD) (w6 w12 : Int) : Nat → Int → (Unit → Option R) → (Unit → Option R) → Option R
 | 0, _, _, _ => none
 | m + 1, w7, k0, k1 => S67x0x45 N w5 w6 w12 w7 (fun w7 => L67x0x45 N w5 w6 w12 m w7 k0 k1) k0 k1
def G67x0x45 (w5 : LD) (w6 w12 : Int) (w7 : Int) : Option (Sum (Unit) (Unit)) := L67x0x45 N (R := (Sum (Unit) (Unit))) w5 w6 w12 N w7 (fun p => some (.inl p)) (fun p => some (.inr p))
def J67x0x45 (L x : List Lf) (kr : List Lf → Option R) (k0 : Unit → Option R) (k1 : Unit → Option R) : Option R := S67x0x45 N (ll L 5) (li L 6) (li L 12) (li x 0) (fun w7 => kr [.i w7]) k0 k1
theorem sb67x0x45 (L x : List Lf) (kr : List Lf → Option R) (k0 : Unit → Option R) (k1 : Unit → Option R) : J67x0x45 N L x kr k0 k1 = (J67x0x45 N L x (fun y => some (.inl y)) (fun p => some (.inr (.inl p))) (fun p => some (.inr (.inr p)))).bind (sumE kr (sumE k0 k1)) := by
 unfold J67x0x45 S67x0x45
 repeat' (first | with_reducible apply cond_b | (with_reducible apply bnd_b; intro _) | rfl)
def Q67x0x45 (L : List Lf) (m : Nat) (x : List Lf) : Option (Sum (Unit) (Unit)) := L67x0x45 N (R := (Sum (Unit) (Unit))) (ll L 5) (li L 6) (li L 12) m (li x 0) (fun p => some (.inl p)) (fun p => some (.inr p))
def sh67x0x45 : Sh := { tmps := [(1, .c (.p 1 0)), (4, .c (.p 4 0)), (15, .c (.sl 71)), (16, .c (.i .i64)), (17, .c (.i .i64)), (57, .c (.sl 71)), (58, .c (.i .i64)), (59, .c (.i .i64))], mem := [(1, .box ([.b, .i .i64, .sl 71])), (4, .box ([.i .i64, .i .i64, .i .i64]))] }
def K67x0x45w0 (L : List Lf) (_ : Unit) : Ex × St := (.ret, mg (ofSh sh67x0x45 L) [2] [(2, .c (.i .i64 5))] [1] [])
def A67x0x45 (L : List Lf) : List (Bool × (Ex × St)) := bnd (Q67x0x45 N L N (pk sh67x0x45 [7] L)) fun q => [((inlB q), K67x0x45w0 L ()), ((inrQ q).isSome, ((.exit 3), mg (ofSh sh67x0x45 L) [17, 16, 15, 1] [] [1] []))]
theorem step67x0x45 (m : Nat) (kn : St → Option (Ex × St)) (L x : List Lf) : lpB Tryz.prog (T66x0 N) (h67x0s1 N).h 0 67 45 sh67x0x45 [7] [2, 17, 16, 15, 1] [1] (m + 100) kn L x = J67x0x45 N L x (fun y => kn (ofSh sh67x0x45 (mx sh67x0x45 [7] L y))) (fun _ => some (K67x0x45w0 L ())) (fun _ => some ((.exit 3), mg (ofSh sh67x0x45 L) [17, 16, 15, 1] [] [1] [])) := by kernel_rfl
theorem ql67x0x45 (L : List Lf) (m : Nat) (x : List Lf) : Q67x0x45 N L (m + 1) x = J67x0x45 N L x (Q67x0x45 N L m) (fun p => some (.inl p)) (fun p => some (.inr p)) := by kernel_rfl
def h67x0s2 : Sg Tryz.prog 0 67 :=
 (h67x0s1 N).lp (A67x0x45 N) N progOk (T66x0_ok N) (fun m kn L x => (step67x0x45 N m kn L x).trans (sb67x0x45 N L x _ _ _)) (fun L m x => (ql67x0x45 N L m x).trans (sb67x0x45 N L x (Q67x0x45 N L m) (fun p => some (.inl p)) (fun p => some (.inr p)))) fun L x hx => (altS alt1) x hx
def S67x0x18 (w1 : LD) (w2 : Int) (w7 : LD) (w3 : Int) (kr : Int → Option R) (k0 : Int → Option R) (k1 : Unit → Option R) : Option R :=
 bif (decide (w3 < w2)) then
  bif (inB w3 w1.length) then
   bnd (V67x0x25 N ((w1.getD w3.toNat (.i 0)).cell 0).toI ((w1.getD w3.toNat (.i 0)).cell 1).toI) fun y0 =>
   bif y0 then
    k0 9
   else
    bnd (V66x0 N ((w1.getD w3.toNat (.i 0)).cell 2).toI 0 3) fun y1 =>
    bif y1 then
     k0 7
    else
     bnd (bif (decide (((w1.getD w3.toNat (.i 0)).cell 2).toI ≤ 1)) then (((w1.getD w3.toNat (.i 0)).cell 1).toI != 1) else false) fun y2 =>
     bnd (bif y2 then (((w1.getD w3.toNat (.i 0)).cell 1).toI != 2) else false) fun y3 =>
     bnd (bif y3 then (((w1.getD w3.toNat (.i 0)).cell 1).toI != 4) else false) fun y4 =>
     bif y4 then
      k0 2
     else
      bif ((decide (0 ≤ w3)) && (decide (w3 ≤ (w7.length : Int)))) then
       bnd (G67x0x45 N ((w7.take w3.toNat).drop 0) (((w7.take w3.toNat).drop 0).length : Int) ((w1.getD w3.toNat (.i 0)).cell 0).toI 0) fun y5 =>
       bif (inlB y5) then
        k0 5
       else
        bif (inrQ y5).isSome then
         kr (IntKind.wrap .i64 (w3 + 1))
        else
         none
      else
       none
  else
   none
 else
  k1 ()
def L67x0x18 (N : Nat) {R : Type} (w1 : LD) (w2 : Int) (w7 : LD) : Nat → Int → (Int → Option R) → (Unit → Option R) → Option R
 | 0, _, _, _ => none
 | m + 1, w3, k0, k1 => S67x0x18 N w1 w2 w7 w3 (fun w3 => L67x0x18 N w1 w2 w7 m w3 k0 k1) k0 k1
def G67x0x18 (w1 : LD) (w2 : Int) (w7 : LD) (w3 : Int) : Option (Sum (Int) (Unit)) := L67x0x18 N (R := (Sum (Int) (Unit))) w1 w2 w7 N w3 (fun p => some (.inl p)) (fun p => some (.inr p))
def J67x0x18 (L x : List Lf) (kr : List Lf → Option R) (k0 : Int → Option R) (k1 : Unit → Option R) : Option R := S67x0x18 N (ll L 1) (li L 2) (ll L 7) (li x 0) (fun w3 => kr [.i w3]) k0 k1
theorem sb67x0x18 (L x : List Lf) (kr : List Lf → Option R) (k0 : Int → Option R) (k1 : Unit → Option R) : J67x0x18 N L x kr k0 k1 = (J67x0x18 N L x (fun y => some (.inl y)) (fun p => some (.inr (.inl p))) (fun p => some (.inr (.inr p)))).bind (sumE kr (sumE k0 k1)) := by
 unfold J67x0x18 S67x0x18
 repeat' (first | with_reducible apply cond_b | (with_reducible apply bnd_b; intro _) | rfl)
def Q67x0x18 (L : List Lf) (m : Nat) (x : List Lf) : Option (Sum (Int) (Unit)) := L67x0x18 N (R := (Sum (Int) (Unit))) (ll L 1) (li L 2) (ll L 7) m (li x 0) (fun p => some (.inl p)) (fun p => some (.inr p))
def sh67x0x18 : Sh := { tmps := [(1, .c (.p 1 0)), (15, .c (.sl 71)), (16, .c (.i .i64)), (17, .c (.i .i64))], mem := [(1, .box ([.b, .i .i64, .sl 71]))] }
def A67x0x18 (L : List Lf) : List (Bool × (Ex × St)) := bnd (Q67x0x18 N L N (pk sh67x0x18 [3] L)) fun q => [((inlB q), (.ret, ⟨[(2, .c (.i .i64 (inlV q)))], []⟩)), ((inrQ q).isSome, ((.exit 0), ⟨[], []⟩))]
theorem step67x0x18 (m : Nat) (kn : St → Option (Ex × St)) (L x : List Lf) : lpB Tryz.prog (T66x0 N) (h67x0s2 N).h 0 67 18 sh67x0x18 [3] [2] [] (m + 100) kn L x = J67x0x18 N L x (fun y => kn (ofSh sh67x0x18 (mx sh67x0x18 [3] L y))) (fun p => some (.ret, ⟨[(2, .c (.i .i64 p))], []⟩)) (fun _ => some ((.exit 0), ⟨[], []⟩)) := by kernel_rfl
theorem ql67x0x18 (L : List Lf) (m : Nat) (x : List Lf) : Q67x0x18 N L (m + 1) x = J67x0x18 N L x (Q67x0x18 N L m) (fun p => some (.inl p)) (fun p => some (.inr p)) := by kernel_rfl
def h67x0s3 : Sg Tryz.prog 0 67 :=
 (h67x0s2 N).lp (A67x0x18 N) N progOk (T66x0_ok N) (fun m kn L x => (step67x0x18 N m kn L x).trans (sb67x0x18 N L x _ _ _)) (fun L m x => (ql67x0x18 N L m x).trans (sb67x0x18 N L x (Q67x0x18 N L m) (fun p => some (.inl p)) (fun p => some (.inr p)))) fun L x hx => (altS alt1) x hx
def F67x0 (v1 : Int) (v3 : LD) (k0 : Int → Option R) : Option R :=
 bnd (V66x0 N v1 0 65535) fun y0 =>
 bif y0 then
  k0 9
 else
  bif (decide ((v3.length : Int) > 30)) then
   k0 3
  else
   bnd (G67x0x18 N v3 (v3.length : Int) v3 0) fun y1 =>
   bif (inlB y1) then
    k0 (inlV y1)
   else
    bif (inrQ y1).isSome then
     k0 0
    else
     none
def G67x0 (v1 : Int) (v3 : LD) : Option (Int) := F67x0 N v1 v3 (fun p => some p)
theorem bind67x0 (v1 : Int) (v3 : LD) (k0 : Int → Option R) : F67x0 N v1 v3 k0 = (G67x0 N v1 v3).bind k0 := by
 unfold G67x0 F67x0
 repeat' (first | with_reducible apply cond_b | (with_reducible apply bnd_b; intro _) | rfl)
def sh67x0 : Sh := { tmps := [(0, .g ([.b, .i .i64, .sl 71]))], mem := [] }
def A67x0 (L : List Lf) : List (Bool × Res) := bnd (F67x0 N (li L 1) (ll L 3) (fun p => some p)) fun q => [(q.isSome, ([.c (.i .i64 (q.getD default))], []))]
theorem raw67x0 (L : List Lf) : bd Tryz.prog (T66x0 N) (h67x0s3 N).h 67 sh67x0 L = F67x0 N (li L 1) (ll L 3) (fun p => some ([.c (.i .i64 p)], [])) := by kernel_rfl
theorem ok67x0 : FnOk Tryz.prog 67 sh67x0 (A67x0 N) :=
 (h67x0s3 N).fn progOk (T66x0_ok N) fun L x hx => ((raw67x0 N L).trans ((bind67x0 N ..).trans (alt1 x hx)))
def T67x0 : Oracle := ext 67 (spSh sh67x0 (A67x0 N)) (T66x0 N)
theorem T67x0_ok : OracleOk Tryz.prog (T67x0 N) := FnOk.to (ok67x0 N) (T66x0_ok N)
def rg90x0 : List (Nat × List Nat) := [(0, [0]), (1, [1])]
def hd90x0 : Hints := []
def h90x0s0 (N : Nat) : Sg Tryz.prog 0 90 := .start hd90x0 rg90x0
def F90x0 (N : Nat) (v0 v1 v2 : Int) (k0 : Bool → R) : R :=
 bnd (bif (bif (v0 == 253) then (v2 == 0) else false) then (v1 == 4) else false) fun y0 =>
 k0 y0
def V90x0 (v0 v1 v2 : Int) : Bool := F90x0 N v0 v1 v2 (fun p => p)
theorem tot90x0 (v0 v1 v2 : Int) (k0 : Bool → R) : F90x0 N v0 v1 v2 k0 = k0 (V90x0 N v0 v1 v2) := by
 unfold V90x0 F90x0
 repeat' (first | rfl | apply cond_k | (apply bnd_k; intro _))
def sh90x0 : Sh := { tmps := [(0, .g ([.i .i64, .i .i64, .i .i64]))], mem := [] }
def A90x0 (L : List Lf) : List (Bool × Res) := bnd (F90x0 N (li L 0) (li L 1) (li L 2) (fun p => p)) fun q => [(true, ([.c (.b q)], []))]
theorem raw90x0 (L : List Lf) : bd Tryz.prog (T67x0 N) (h90x0s0 N).h 90 sh90x0 L = F90x0 N (li L 0) (li L 1) (li L 2) (fun p => some ([.c (.b p)], [])) := by kernel_rfl
theorem ok90x0 : FnOk Tryz.prog 90 sh90x0 (A90x0 N) :=
 (h90x0s0 N).fn progOk (T67x0_ok N) fun L x hx => ((raw90x0 N L).trans ((tot90x0 N ..).trans (alt0 _ _ hx)))
def T90x0 : Oracle := ext 90 (spSh sh90x0 (A90x0 N)) (T67x0 N)
theorem T90x0_ok : OracleOk Tryz.prog (T90x0 N) := FnOk.to (ok90x0 N) (T67x0_ok N)
def rg68x0 : List (Nat × List Nat) := [(0, [0]), (1, [1]), (2, [1, 4]), (3, [10, 9, 8, 4]), (4, [8, 10, 4, 9]), (5, [6, 4, 10, 9, 8]), (6, [4]), (7, [4, 6, 10, 9, 8]), (8, [10, 9, 8, 4]), (9, [])]
def hd68x0 : Hints := [(9, [4, 8, 9, 10], [], [])]
def h68x0s0 (N : Nat) : Sg Tryz.prog 0 68 := .start hd68x0 rg68x0
def S68x0x9 (w2 : LD) (w3 : Int) (w0 w4 : Int) (kr : Int → Int → Option R) (k0 : Int → Option R) (k1 : Unit → Option R) : Option R :=
 bif (decide (w4 < w3)) then
  bif (inB w4 w2.length) then
   bnd (V90x0 N ((w2.getD w4.toNat (.i 0)).cell 0).toI ((w2.getD w4.toNat (.i 0)).cell 1).toI ((w2.getD w4.toNat (.i 0)).cell 2).toI) fun y0 =>
   bif y0 then
    k0 w0
   else
    bnd (IntKind.wrap .i64 (w0 + ((w2.getD w4.toNat (.i 0)).cell 1).toI)) fun y1 =>
    kr y1 (IntKind.wrap .i64 (w4 + 1))
  else
   none
 else
  k1 ()
def L68x0x9 (N : Nat) {R : Type} (w2 : LD) (w3 : Int) : Nat → Int → Int → (Int → Option R) → (Unit → Option R) → Option R
 | 0, _, _, _, _ => none
 | m + 1, w0, w4, k0, k1 => S68x0x9 N w2 w3 w0 w4 (fun w0 w4 => L68x0x9 N w2 w3 m w0 w4 k0 k1) k0 k1
def G68x0x9 (w2 : LD) (w3 : Int) (w0 w4 : Int) : Option (Sum (Int) (Unit)) := L68x0x9 N (R := (Sum (Int) (Unit))) w2 w3 N w0 w4 (fun p => some (.inl p)) (fun p => some (.inr p))
def J68x0x9 (L x : List Lf) (kr : List Lf → Option R) (k0 : Int → Option R) (k1 : Unit → Option R) : Option R := S68x0x9 N (ll L 2) (li L 3) (li x 0) (li x 1) (fun w0 w4 => kr [.i w0, .i w4]) k0 k1
theorem sb68x0x9 (L x : List Lf) (kr : List Lf → Option R) (k0 : Int → Option R) (k1 : Unit → Option R) : J68x0x9 N L x kr k0 k1 = (J68x0x9 N L x (fun y => some (.inl y)) (fun p => some (.inr (.inl p))) (fun p => some (.inr (.inr p)))).bind (sumE kr (sumE k0 k1)) := by
 unfold J68x0x9 S68x0x9
 repeat' (first | with_reducible apply cond_b | (with_reducible apply bnd_b; intro _) | rfl)
def Q68x0x9 (L : List Lf) (m : Nat) (x : List Lf) : Option (Sum (Int) (Unit)) := L68x0x9 N (R := (Sum (Int) (Unit))) (ll L 2) (li L 3) m (li x 0) (li x 1) (fun p => some (.inl p)) (fun p => some (.inr p))
def sh68x0x9 : Sh := { tmps := [(4, .c (.i .i64)), (8, .c (.sl 71)), (9, .c (.i .i64)), (10, .c (.i .i64))], mem := [] }
def A68x0x9 (L : List Lf) : List (Bool × (Ex × St)) := bnd (Q68x0x9 N L N (pk sh68x0x9 [0, 4] L)) fun q => [((inlB q), (.ret, ⟨[(2, .c (.i .i64 (inlV q))), (3, .c (.b true))], []⟩)), ((inrQ q).isSome, ((.exit 0), ⟨[], []⟩))]
theorem step68x0x9 (m : Nat) (kn : St → Option (Ex × St)) (L x : List Lf) : lpB Tryz.prog (T90x0 N) (h68x0s0 N).h 0 68 9 sh68x0x9 [0, 4] [2, 3] [] (m + 100) kn L x = J68x0x9 N L x (fun y => kn (ofSh sh68x0x9 (mx sh68x0x9 [0, 4] L y))) (fun p => some (.ret, ⟨[(2, .c (.i .i64 p)), (3, .c (.b true))], []⟩)) (fun _ => some ((.exit 0), ⟨[], []⟩)) := by kernel_rfl
theorem ql68x0x9 (L : List Lf) (m : Nat) (x : List Lf) : Q68x0x9 N L (m + 1) x = J68x0x9 N L x (Q68x0x9 N L m) (fun p => some (.inl p)) (fun p => some (.inr p)) := by kernel_rfl
def h68x0s1 : Sg Tryz.prog 0 68 :=
 (h68x0s0 N).lp (A68x0x9 N) N progOk (T90x0_ok N) (fun m kn L x => (step68x0x9 N m kn L x).trans (sb68x0x9 N L x _ _ _)) (fun L m x => (ql68x0x9 N L m x).trans (sb68x0x9 N L x (Q68x0x9 N L m) (fun p => some (.inl p)) (fun p => some (.inr p)))) fun L x hx => (altS alt1) x hx
def F68x0 (v3 : LD) (k0 : Int × Bool → Option R) : Option R :=
 bnd (G68x0x9 N v3 (v3.length : Int) 0 0) fun y0 =>
 bif (inlB y0) then
  k0 ((inlV y0), true)
 else
  bif (inrQ y0).isSome then
   k0 (0, false)
  else
   none
def G68x0 (v3 : LD) : Option (Int × Bool) := F68x0 N v3 (fun p => some p)
theorem bind68x0 (v3 : LD) (k0 : Int × Bool → Option R) : F68x0 N v3 k0 = (G68x0 N v3).bind k0 := by
 unfold G68x0 F68x0
 repeat' (first | with_reducible apply cond_b | (with_reducible apply bnd_b; intro _) | rfl)
def sh68x0 : Sh := { tmps := [(0, .g ([.b, .i .i64, .sl 71]))], mem := [] }
def A68x0 (L : List Lf) : List (Bool × Res) := bnd (F68x0 N (ll L 3) (fun p => some p)) fun q => [(q.isSome, ([.c (.i .i64 (q.getD default).1), .c (.b (q.getD default).2)], []))]
theorem raw68x0 (L : List Lf) : bd Tryz.prog (T90x0 N) (h68x0s1 N).h 68 sh68x0 L = F68x0 N (ll L 3) (fun p => some ([.c (.i .i64 p.1), .c (.b p.2)], [])) := by kernel_rfl
theorem ok68x0 : FnOk Tryz.prog 68 sh68x0 (A68x0 N) :=
 (h68x0s1 N).fn progOk (T90x0_ok N) fun L x hx => ((raw68x0 N L).trans ((bind68x0 N ..).trans (alt1 x hx)))
def T68x0 : Oracle := ext 68 (spSh sh68x0 (A68x0 N)) (T90x0 N)
theorem T68x0_ok : OracleOk Tryz.prog (T68x0 N) := FnOk.to (ok68x0 N) (T90x0_ok N)
def rg70x0 : List (Nat × List Nat) := [(0, [0, 1]), (1, [1, 2]), (2, [1, 2, 5]), (3, [2, 6, 5]), (4, [13, 12, 11, 6, 5]), (5, [11, 13, 6, 12, 5]), (6, [6, 8, 13, 12, 11, 5]), (7, [13, 12, 11, 5]), (8, [5, 8, 13, 12, 11, 6]), (9, [13, 12, 11, 6, 5]), (10, [5])]
def hd70x0 : Hints := [(12, [5, 6, 11, 12, 13], [5], [5]), (19, [5, 6, 8, 11, 12, 13], [5, 8], [])]
def h70x0s0 (N : Nat) : Sg Tryz.prog 0 70 := .start hd70x0 rg70x0
def F70x0x19 (w0 : Bool) (w7 w8 w9 : Int) (k0 : Bool → R) : R :=
 bif w0 then
  bnd (V90x0 N w7 w8 w9) fun y0 =>
  k0 y0
 else
  k0 false
def V70x0x19 (w0 : Bool) (w7 w8 w9 : Int) : Bool := F70x0x19 N w0 w7 w8 w9 (fun p => p)
theorem tot70x0x19 (w0 : Bool) (w7 w8 w9 : Int) (k0 : Bool → R) : F70x0x19 N w0 w7 w8 w9 k0 = k0 (V70x0x19 N w0 w7 w8 w9) := by
 unfold V70x0x19 F70x0x19
 repeat' (first | rfl | apply cond_k | (apply bnd_k; intro _))
def J70x0x19 (L : List Lf) (k0 : Bool → R) : R := F70x0x19 N (lb L 0) (li L 7) (li L 8) (li L 9) k0
def sh70x0x19 : Sh := { tmps := [(5, .c (.o 5)), (6, .c (.b)), (8, .c (.p 8 0)), (11, .c (.sl 71)), (12, .c (.i .i64)), (13, .c (.i .i64))], mem := [(5, .row 71 true), (8, .box ([.i .i64, .i .i64, .i .i64]))] }
def K70x0x19w0 (L : List Lf) (p : Bool) : Ex × St := (.normal, mg (ofSh sh70x0x19 L) [13, 12, 11, 5, 8, 6, 21] [(21, .c (.b p))] [8, 5] [])
def A70x0x19 (L : List Lf) : List (Bool × (Ex × St)) := bnd (J70x0x19 N L (fun p => p)) fun q => [(true, K70x0x19w0 L q)]
theorem raw70x0x19 (L : List Lf) : pc Tryz.prog (T68x0 N) (h70x0s0 N).h 0 100 70 19 sh70x0x19 L [13, 12, 11, 5, 8, 6, 21] [8, 5] = J70x0x19 N L (fun p => some (K70x0x19w0 L p)) := by kernel_rfl
def h70x0s1 : Sg Tryz.prog 0 70 :=
 (h70x0s0 N).cut (A70x0x19 N) progOk (T68x0_ok N) fun L x hx => (raw70x0x19 N L).trans ((tot70x0x19 N ..).trans (alt0 _ _ hx))
def S70x0x12 (w2 : LD) (w3 : Int) (w0 : Bool) (w4 : Int) (w5 : Bool) (w6 : LD) (kr : Bool → Int → Bool → LD → Option R) (k0 : Bool × LD → Option R) : Option R :=
 bif (decide (w4 < w3)) then
  bif (inB w4 w2.length) then
   bnd (V70x0x19 N w0 ((w2.getD w4.toNat (.i 0)).cell 0).toI ((w2.getD w4.toNat (.i 0)).cell 1).toI ((w2.getD w4.toNat (.i 0)).cell 2).toI) fun y0 =>
   bif y0 then
    kr false (IntKind.wrap .i64 (w4 + 1)) w5 w6
   else
    bif (decide ((w6.length + 1) * 24 ≤ room) && decide ((w6.length + 1) ≤ strMax)) then
     bnd ((w6 ++ [(.a [(.i ((w2.getD w4.toNat (.i 0)).cell 0).toI), (.i ((w2.getD w4.toNat (.i 0)).cell 1).toI), (.i ((w2.getD w4.toNat (.i 0)).cell 2).toI)])]) : List D) fun y1 =>
     kr w0 (IntKind.wrap .i64 (w4 + 1)) false y1
    else
     none
  else
   none
 else
  k0 (w5, w6)
def L70x0x12 (N : Nat) {R : Type} (w2 : LD) (w3 : Int) : Nat → Bool → Int → Bool → LD → (Bool × LD → Option R) → Option R
 | 0, _, _, _, _, _ => none
 | m + 1, w0, w4, w5, w6, k0 => S70x0x12 N w2 w3 w0 w4 w5 w6 (fun w0 w4 w5 w6 => L70x0x12 N w2 w3 m w0 w4 w5 w6 k0) k0
def G70x0x12 (w2 : LD) (w3 : Int) (w0 : Bool) (w4 : Int) (w5 : Bool) (w6 : LD) : Option (Bool × LD) := L70x0x12 N (R := (Bool × LD)) w2 w3 N w0 w4 w5 w6 (fun p => some p)
def J70x0x12 (L x : List Lf) (kr : List Lf → Option R) (k0 : Bool × LD → Option R) : Option R := S70x0x12 N (ll L 2) (li L 3) (lb x 0) (li x 1) (lb x 2) (ll x 3) (fun w0 w4 w5 w6 => kr [.b w0, .i w4, .b w5, .l w6]) k0
theorem sb70x0x12 (L x : List Lf) (kr : List Lf → Option R) (k0 : Bool × LD → Option R) : J70x0x12 N L x kr k0 = (J70x0x12 N L x (fun y => some (.inl y)) (fun p => some (.inr p))).bind (sumE kr k0) := by
 unfold J70x0x12 S70x0x12
 repeat' (first | with_reducible apply cond_b | (with_reducible apply bnd_b; intro _) | rfl)
def Q70x0x12 (L : List Lf) (m : Nat) (x : List Lf) : Option (Bool × LD) := L70x0x12 N (R := (Bool × LD)) (ll L 2) (li L 3) m (lb x 0) (li x 1) (lb x 2) (ll x 3) (fun p => some p)
def sh70x0x12 : Sh := { tmps := [(5, .c (.o 5)), (6, .c (.b)), (11, .c (.sl 71)), (12, .c (.i .i64)), (13, .c (.i .i64))], mem := [(5, .row 71 true)] }
def A70x0x12 (L : List Lf) : List (Bool × (Ex × St)) := bnd (Q70x0x12 N L N (pk sh70x0x12 [0, 4, 5, 6] L)) fun q => [(q.isSome, ((.exit 0), ⟨[(5, .c (.o 5))], [(5, .row 71 true (q.getD default).1 (q.getD default).2)]⟩))]
theorem step70x0x12 (m : Nat) (kn : St → Option (Ex × St)) (L x : List Lf) : lpB Tryz.prog (T68x0 N) (h70x0s1 N).h 0 70 12 sh70x0x12 [0, 4, 5, 6] [4, 5] [5] (m + 100) kn L x = J70x0x12 N L x (fun y => kn (ofSh sh70x0x12 (mx sh70x0x12 [0, 4, 5, 6] L y))) (fun p => some ((.exit 0), ⟨[(5, .c (.o 5))], [(5, .row 71 true p.1 p.2)]⟩)) := by kernel_rfl
theorem ql70x0x12 (L : List Lf) (m : Nat) (x : List Lf) : Q70x0x12 N L (m + 1) x = J70x0x12 N L x (Q70x0x12 N L m) some := by kernel_rfl
def h70x0s2 : Sg Tryz.prog 0 70 :=
 (h70x0s1 N).lp (A70x0x12 N) N progOk (T68x0_ok N) (fun m kn L x => (step70x0x12 N m kn L x).trans (sb70x0x12 N L x _ _)) (fun L m x => (ql70x0x12 N L m x).trans (sb70x0x12 N L x (Q70x0x12 N L m) some)) fun L x hx => alt1 x hx
def F70x0 (v3 : LD) (v4 : Bool) (k0 : Bool × LD → Option R) : Option R :=
 bnd (G70x0x12 N v3 (v3.length : Int) v4 0 true []) fun y0 =>
 bif y0.isSome then
  k0 (y0.getD default)
 else
  none
def G70x0 (v3 : LD) (v4 : Bool) : Option (Bool × LD) := F70x0 N v3 v4 (fun p => some p)
theorem bind70x0 (v3 : LD) (v4 : Bool) (k0 : Bool × LD → Option R) : F70x0 N v3 v4 k0 = (G70x0 N v3 v4).bind k0 := by
 unfold G70x0 F70x0
 repeat' (first | with_reducible apply cond_b | (with_reducible apply bnd_b; intro _) | rfl)
def sh70x0 : Sh := { tmps := [(0, .g ([.b, .i .i64, .sl 71])), (1, .c (.b))], mem := [] }
def A70x0 (L : List Lf) : List (Bool × Res) := bnd (F70x0 N (ll L 3) (lb L 4) (fun p => some p)) fun q => [(q.isSome, ([.c (.sl 71 (q.getD default).1 (q.getD default).2)], []))]
theorem raw70x0 (L : List Lf) : bd Tryz.prog (T68x0 N) (h70x0s2 N).h 70 sh70x0 L = F70x0 N (ll L 3) (lb L 4) (fun p => some ([.c (.sl 71 p.1 p.2)], [])) := by kernel_rfl
theorem ok70x0 : FnOk Tryz.prog 70 sh70x0 (A70x0 N) :=
 (h70x0s2 N).fn progOk (T68x0_ok N) fun L x hx => ((raw70x0 N L).trans ((bind70x0 N ..).trans (alt1 x hx)))
def T70x0 : Oracle := ext 70 (spSh sh70x0 (A70x0 N)) (T68x0 N)
theorem T70x0_ok : OracleOk Tryz.prog (T70x0 N) := FnOk.to (ok70x0 N) (T68x0_ok N)
def rg69x0 : List (Nat × List Nat) := [(0, [0]), (1, [0]), (2, [0, 3]), (3, [8, 7, 6, 3]), (4, [6, 8, 3, 7]), (5, [3, 5, 8, 7, 6]), (6, [8, 7, 6, 3]), (7, [3])]
def hd69x0 : Hints := [(9, [3, 6, 7, 8], [], [])]
def h69x0s0 (N : Nat) : Sg Tryz.prog 0 69 := .start hd69x0 rg69x0
def S69x0x9 (N : Nat) (w2 : LD) (w3 : Int) (w0 w4 : Int) (kr : Int → Int → Option R) (k0 : Int → Option R) : Option R :=
 bif (decide (w4 < w3)) then
  bif (inB w4 w2.length) then
   bnd (IntKind.wrap .i64 (w0 + ((w2.getD w4.toNat (.i 0)).cell 1).toI)) fun y0 =>
   kr y0 (IntKind.wrap .i64 (w4 + 1))
  else
   none
 else
  k0 w0
def L69x0x9 (N : Nat) {R : Type} (w2 : LD) (w3 : Int) : Nat → Int → Int → (Int → Option R) → Option R
 | 0, _, _, _ => none
 | m + 1, w0, w4, k0 => S69x0x9 N w2 w3 w0 w4 (fun w0 w4 => L69x0x9 N w2 w3 m w0 w4 k0) k0
def G69x0x9 (w2 : LD) (w3 : Int) (w0 w4 : Int) : Option (Int) := L69x0x9 N (R := (Int)) w2 w3 N w0 w4 (fun p => some p)
def J69x0x9 (L x : List Lf) (kr : List Lf → Option R) (k0 : Int → Option R) : Option R := S69x0x9 N (ll L 2) (li L 3) (li x 0) (li x 1) (fun w0 w4 => kr [.i w0, .i w4]) k0
theorem sb69x0x9 (L x : List Lf) (kr : List Lf → Option R) (k0 : Int → Option R) : J69x0x9 N L x kr k0 = (J69x0x9 N L x (fun y => some (.inl y)) (fun p => some (.inr p))).bind (sumE kr k0) := by
 unfold J69x0x9 S69x0x9
 repeat' (first | with_reducible apply cond_b | (with_reducible apply bnd_b; intro _) | rfl)
def Q69x0x9 (L : List Lf) (m : Nat) (x : List Lf) : Option (Int) := L69x0x9 N (R := (Int)) (ll L 2) (li L 3) m (li x 0) (li x 1) (fun p => some p)
def sh69x0x9 : Sh := { tmps := [(3, .c (.i .i64)), (6, .c (.sl 71)), (7, .c (.i .i64)), (8, .c (.i .i64))], mem := [] }
def A69x0x9 (L : List Lf) : List (Bool × (Ex × St)) := bnd (Q69x0x9 N L N (pk sh69x0x9 [0, 4] L)) fun q => [(q.isSome, ((.exit 0), ⟨[(3, .c (.i .i64 (q.getD default)))], []⟩))]
theorem step69x0x9 (m : Nat) (kn : St → Option (Ex × St)) (L x : List Lf) : lpB Tryz.prog (T70x0 N) (h69x0s0 N).h 0 69 9 sh69x0x9 [0, 4] [2, 3] [] (m + 100) kn L x = J69x0x9 N L x (fun y => kn (ofSh sh69x0x9 (mx sh69x0x9 [0, 4] L y))) (fun p => some ((.exit 0), ⟨[(3, .c (.i .i64 p))], []⟩)) := by kernel_rfl
theorem ql69x0x9 (L : List Lf) (m : Nat) (x : List Lf) : Q69x0x9 N L (m + 1) x = J69x0x9 N L x (Q69x0x9 N L m) some := by kernel_rfl
def h69x0s1 : Sg Tryz.prog 0 69 :=
 (h69x0s0 N).lp (A69x0x9 N) N progOk (T70x0_ok N) (fun m kn L x => (step69x0x9 N m kn L x).trans (sb69x0x9 N L x _ _)) (fun L m x => (ql69x0x9 N L m x).trans (sb69x0x9 N L x (Q69x0x9 N L m) some)) fun L x hx => alt1 x hx
def F69x0 (v1 : LD) (k0 : Int → Option R) : Option R :=
 bnd (G69x0x9 N v1 (v1.length : Int) 0 0) fun y0 =>
 bif y0.isSome then
  k0 (y0.getD default)
 else
  none
def G69x0 (v1 : LD) : Option (Int) := F69x0 N v1 (fun p => some p)
theorem bind69x0 (v1 : LD) (k0 : Int → Option R) : F69x0 N v1 k0 = (G69x0 N v1).bind k0 := by
 unfold G69x0 F69x0
 repeat' (first | with_reducible apply cond_b | (with_reducible apply bnd_b; intro _) | rfl)
def sh69x0 : Sh := { tmps := [(0, .c (.sl 71))], mem := [] }
def A69x0 (L : List Lf) : List (Bool × Res) := bnd (F69x0 N (ll L 1) (fun p => some p)) fun q => [(q.isSome, ([.c (.i .i64 (q.getD default))], []))]
theorem raw69x0 (L : List Lf) : bd Tryz.prog (T70x0 N) (h69x0s1 N).h 69 sh69x0 L = F69x0 N (ll L 1) (fun p => some ([.c (.i .i64 p)], [])) := by kernel_rfl
theorem ok69x0 : FnOk Tryz.prog 69 sh69x0 (A69x0 N) :=
 (h69x0s1 N).fn progOk (T70x0_ok N) fun L x hx => ((raw69x0 N L).trans ((bind69x0 N ..).trans (alt1 x hx)))
def T69x0 : Oracle := ext 69 (spSh sh69x0 (A69x0 N)) (T70x0 N)
theorem T69x0_ok : OracleOk Tryz.prog (T69x0 N) := FnOk.to (ok69x0 N) (T70x0_ok N)
def rg40x0 : List (Nat × List Nat) := [(0, [1, 0]), (1, [3, 0]), (2, []), (3, [3, 0]), (4, [3, 0, 5, 6]), (5, [3, 0]), (6, [3, 5, 6, 0]), (7, []), (8, [3, 0]), (9, [3]), (10, []), (11, [3]), (12, [3, 0]), (13, []), (14, [0, 3]), (15, []), (16, [0, 3]), (17, [7, 3, 0]), (18, [3, 9, 0, 7]), (19, []), (20, [3, 7]), (21, []), (22, [])]
def hd40x0 : Hints := [(17, [0, 3, 5, 6, 15], [0, 4], []), (19, [0, 3, 5, 6], [0, 4], [])]
def h40x0s0 (N : Nat) : Sg Tryz.prog 1 40 := .start hd40x0 rg40x0
def F40x0x17 (N : Nat) (w0 w1 : Int) (w2 : Bool) (k0 : Int × Int → R) : R :=
 bif w2 then
  k0 (3, 31)
 else
  k0 (w0, w1)
def V40x0x17 (w0 w1 : Int) (w2 : Bool) : Int × Int := F40x0x17 N w0 w1 w2 (fun p => p)
theorem tot40x0x17 (w0 w1 : Int) (w2 : Bool) (k0 : Int × Int → R) : F40x0x17 N w0 w1 w2 k0 = k0 (V40x0x17 N w0 w1 w2) := by
 unfold V40x0x17 F40x0x17
 repeat' (first | rfl | apply cond_k | (apply bnd_k; intro _))
def sh40x0x17 : Sh := { tmps := [(0, .c (.p 0 0)), (3, .c (.p 4 0)), (5, .c (.i .i64)), (6, .c (.i .i64)), (15, .c (.b))], mem := [(0, .dat 95), (4, .box ([.i .i64, .i .i64, .i .i64, .sl 64, .sl 5]))] }
def K40x0x17w0 (L : List Lf) (p : Int × Int) : Ex × St := (.normal, mg (ofSh sh40x0x17 L) [3, 5, 6, 0] [(5, .c (.i .i64 p.1)), (6, .c (.i .i64 p.2))] [4, 0] [])
def A40x0x17 (L : List Lf) : List (Bool × (Ex × St)) := bnd (F40x0x17 N (li L 0) (li L 1) (lb L 2) (fun p => p)) fun q => [(true, K40x0x17w0 L q)]
theorem raw40x0x17 (L : List Lf) : pc Tryz.prog (T69x0 N) (h40x0s0 N).h 1 100 40 17 sh40x0x17 L [3, 5, 6, 0] [4, 0] = F40x0x17 N (li L 0) (li L 1) (lb L 2) (fun p => some (K40x0x17w0 L p)) := by kernel_rfl
def h40x0s1 : Sg Tryz.prog 1 40 :=
 (h40x0s0 N).cut (A40x0x17 N) progOk (T69x0_ok N) fun L x hx => (raw40x0x17 N L).trans ((tot40x0x17 N ..).trans (alt0 _ _ hx))
def F40x0x19 (w0 w1 w4 w5 : Int) (k0 : Bool → R) : R :=
 bnd (V66x0 N w4 0 w0) fun y0 =>
 bif y0 then
  k0 true
 else
  bnd (V66x0 N w5 0 w1) fun y1 =>
  k0 y1
def V40x0x19 (w0 w1 w4 w5 : Int) : Bool := F40x0x19 N w0 w1 w4 w5 (fun p => p)
theorem tot40x0x19 (w0 w1 w4 w5 : Int) (k0 : Bool → R) : F40x0x19 N w0 w1 w4 w5 k0 = k0 (V40x0x19 N w0 w1 w4 w5) := by
 unfold V40x0x19 F40x0x19
 repeat' (first | rfl | apply cond_k | (apply bnd_k; intro _))
def J40x0x19 (L : List Lf) (k0 : Bool → R) : R := F40x0x19 N (li L 0) (li L 1) (li L 4) (li L 5) k0
def sh40x0x19 : Sh := { tmps := [(0, .c (.p 0 0)), (3, .c (.p 4 0)), (5, .c (.i .i64)), (6, .c (.i .i64))], mem := [(0, .dat 95), (4, .box ([.i .i64, .i .i64, .i .i64, .sl 64, .sl 5]))] }
def K40x0x19w0 (L : List Lf) (p : Bool) : Ex × St := (.normal, mg (ofSh sh40x0x19 L) [3, 0, 25] [(25, .c (.b p))] [4, 0] [])
def A40x0x19 (L : List Lf) : List (Bool × (Ex × St)) := bnd (J40x0x19 N L (fun p => p)) fun q => [(true, K40x0x19w0 L q)]
theorem raw40x0x19 (L : List Lf) : pc Tryz.prog (T69x0 N) (h40x0s1 N).h 1 100 40 19 sh40x0x19 L [3, 0, 25] [4, 0] = J40x0x19 N L (fun p => some (K40x0x19w0 L p)) := by kernel_rfl
def h40x0s2 : Sg Tryz.prog 1 40 :=
 (h40x0s1 N).cut (A40x0x19 N) progOk (T69x0_ok N) fun L x hx => (raw40x0x19 N L).trans ((tot40x0x19 N ..).trans (alt0 _ _ hx))
def F40x0 (v0 v1 v2 : Int) (v4 v6 : LD) (v7 : D) (k0 : Int → Option R) : Option R :=
 bnd (V66x0 N v0 1 3) fun y0 =>
 bif y0 then
  k0 7
 else
  bnd (V40x0x17 N 15 0 (v0 == 3)) fun y1 =>
  bnd (V40x0x19 N y1.1 y1.2 v1 v2) fun y2 =>
  bif y2 then
   k0 9
  else
   bif (v0 == 1) then
    bnd (bif ((v4.length : Int) != 1) then true else (decide ((v6.length : Int) > 0))) fun y3 =>
    bif y3 then
     k0 2
    else
     bif (inB 0 v4.length) then
      bnd (G67x0 N ((v4.getD 0 (.i 0)).cell 1).toI ((v4.getD 0 (.i 0)).cell 2).items) fun y4 =>
      bif y4.isSome then
       k0 (y4.getD default)
      else
       none
     else
      none
   else
    bif (decide ((v4.length : Int) > 0)) then
     k0 2
    else
     bif (inB v1 16) then
      bif (!(v7.cell (0 + (v1.toNat * 1))).toB) then
       k0 11
      else
       bif (inB v1 16) then
        bnd (G68x0 N (v7.cell (18 + (v1.toNat * 3))).items) fun y5 =>
        bif y5.isSome then
         bnd (bif (v0 == 3) then (bif (!(y5.getD default).2) then true else (decide ((v7.cell 64).toI < 0))) else false) fun y6 =>
         bif y6 then
          k0 11
         else
          bnd (G70x0 N (v7.cell (18 + (v1.toNat * 3))).items (v0 == 3)) fun y7 =>
          bif y7.isSome then
           bnd (G69x0 N (y7.getD default).2) fun y8 =>
           bif y8.isSome then
            bif ((v6.length : Int) != (y8.getD default)) then
             k0 2
            else
             k0 0
           else
            none
          else
           none
        else
         none
       else
        none
     else
      none
def G40x0 (v0 v1 v2 : Int) (v4 v6 : LD) (v7 : D) : Option (Int) := F40x0 N v0 v1 v2 v4 v6 v7 (fun p => some p)
theorem bind40x0 (v0 v1 v2 : Int) (v4 v6 : LD) (v7 : D) (k0 : Int → Option R) : F40x0 N v0 v1 v2 v4 v6 v7 k0 = (G40x0 N v0 v1 v2 v4 v6 v7).bind k0 := by
 unfold G40x0 F40x0
 repeat' (first | with_reducible apply cond_b | (with_reducible apply bnd_b; intro _) | rfl)
def J40x0 (L : List Lf) (k0 : Int → Option R) : Option R := F40x0 N (li L 0) (li L 1) (li L 2) (ll L 4) (ll L 6) (ld L 7) k0
def sh40x0 : Sh := { tmps := [(0, .c (.p 0 0)), (1, .g ([.i .i64, .i .i64, .i .i64, .sl 64, .sl 5]))], mem := [(0, .dat 95)] }
def A40x0 (L : List Lf) : List (Bool × Res) := bnd (J40x0 N L (fun p => some p)) fun q => [(q.isSome, ([.c (.i .i64 (q.getD default))], [(0, .dat 95 (ld L 7))]))]
theorem raw40x0 (L : List Lf) : bd Tryz.prog (T69x0 N) (h40x0s2 N).h 40 sh40x0 L = J40x0 N L (fun p => some ([.c (.i .i64 p)], [(0, .dat 95 (ld L 7))])) := by kernel_rfl
theorem ok40x0 : FnOk Tryz.prog 40 sh40x0 (A40x0 N) :=
 (h40x0s2 N).fn progOk (T69x0_ok N) fun L x hx => ((raw40x0 N L).trans ((bind40x0 N ..).trans (alt1 x hx)))
def T40x0 : Oracle := ext 40 (spSh sh40x0 (A40x0 N)) (T69x0 N)
theorem T40x0_ok : OracleOk Tryz.prog (T40x0 N) := FnOk.to (ok40x0 N) (T69x0_ok N)
def rg71x0 : List (Nat × List Nat) := [(0, [0, 1]), (1, [0, 1]), (2, [0, 1, 5]), (3, [10, 9, 1, 0, 5]), (4, [10, 1, 0, 5, 9]), (5, [6, 1, 0, 5, 10, 9]), (6, [1, 0, 6, 5, 10, 9, 7]), (7, [0, 6, 5, 10, 9, 1]), (8, [5, 0, 7, 10, 9, 1]), (9, [10, 9, 1, 0, 5]), (10, [5])]
def hd71x0 : Hints := [(9, [0, 1, 5, 9, 10], [], []), (23, [0, 1, 5, 6, 7, 9, 10, 15], [], [])]
def h71x0s0 (N : Nat) : Sg Tryz.prog 0 71 := .start hd71x0 rg71x0
def F71x0x23 (N : Nat) (w1 : LD) (w4 w5 : Int) (w8 : Bool) (k0 : Int → R) : R :=
 bif w8 then
  bnd (IntKind.wrap .i64 ((IntKind.wrap .i64 ((w1.length : Int) - 1)) - w4)) fun y0 =>
  k0 y0
 else
  k0 w5
def V71x0x23 (w1 : LD) (w4 w5 : Int) (w8 : Bool) : Int := F71x0x23 N w1 w4 w5 w8 (fun p => p)
theorem tot71x0x23 (w1 : LD) (w4 w5 : Int) (w8 : Bool) (k0 : Int → R) : F71x0x23 N w1 w4 w5 w8 k0 = k0 (V71x0x23 N w1 w4 w5 w8) := by
 unfold V71x0x23 F71x0x23
 repeat' (first | rfl | apply cond_k | (apply bnd_k; intro _))
def J71x0x23 (L : List Lf) (k0 : Int → R) : R := F71x0x23 N (ll L 1) (li L 4) (li L 5) (lb L 8) k0
def sh71x0x23 : Sh := { tmps := [(0, .c (.sl 5)), (1, .c (.b)), (5, .c (.i .i64)), (6, .c (.i .i64)), (7, .c (.i .i64)), (9, .c (.i .i64)), (10, .c (.i .i64)), (15, .c (.b))], mem := [] }
def K71x0x23w0 (L : List Lf) (p : Int) : Ex × St := (.normal, mg (ofSh sh71x0x23 L) [5, 0, 7, 10, 9, 1] [(7, .c (.i .i64 p))] [] [])
def A71x0x23 (L : List Lf) : List (Bool × (Ex × St)) := bnd (J71x0x23 N L (fun p => p)) fun q => [(true, K71x0x23w0 L q)]
theorem raw71x0x23 (L : List Lf) : pc Tryz.prog (T40x0 N) (h71x0s0 N).h 0 100 71 23 sh71x0x23 L [5, 0, 7, 10, 9, 1] [] = J71x0x23 N L (fun p => some (K71x0x23w0 L p)) := by kernel_rfl
def h71x0s1 : Sg Tryz.prog 0 71 :=
 (h71x0s0 N).cut (A71x0x23 N) progOk (T40x0_ok N) fun L x hx => (raw71x0x23 N L).trans ((tot71x0x23 N ..).trans (alt0 _ _ hx))
def S71x0x9 (w1 : LD) (w2 : Bool) (w4 : Int) (w3 w5 : Int) (kr : Int → Int → Option R) (k0 : Int → Option R) : Option R :=
 bif (decide (w5 < w4)) then
  bnd (V71x0x23 N w1 w5 w5 (!w2)) fun y0 =>
  bif (inB y0 w1.length) then
   bnd (IntKind.wrap .i64 ((IntKind.wrap .i64 (256 * w3)) + (IntKind.wrap .i64 (w1.getD y0.toNat (.i 0)).toI))) fun y1 =>
   kr y1 (IntKind.wrap .i64 (w5 + 1))
  else
   none
 else
  k0 w3
def L71x0x9 (N : Nat) {R : Type} (w1 : LD) (w2 : Bool) (w4 : Int) : Nat → Int → Int → (Int → Option R) → Option R
 | 0, _, _, _ => none
 | m + 1, w3, w5, k0 => S71x0x9 N w1 w2 w4 w3 w5 (fun w3 w5 => L71x0x9 N w1 w2 w4 m w3 w5 k0) k0
def G71x0x9 (w1 : LD) (w2 : Bool) (w4 : Int) (w3 w5 : Int) : Option (Int) := L71x0x9 N (R := (Int)) w1 w2 w4 N w3 w5 (fun p => some p)
def J71x0x9 (L x : List Lf) (kr : List Lf → Option R) (k0 : Int → Option R) : Option R := S71x0x9 N (ll L 1) (lb L 2) (li L 4) (li x 0) (li x 1) (fun w3 w5 => kr [.i w3, .i w5]) k0
theorem sb71x0x9 (L x : List Lf) (kr : List Lf → Option R) (k0 : Int → Option R) : J71x0x9 N L x kr k0 = (J71x0x9 N L x (fun y => some (.inl y)) (fun p => some (.inr p))).bind (sumE kr k0) := by
 unfold J71x0x9 S71x0x9
 repeat' (first | with_reducible apply cond_b | (with_reducible apply bnd_b; intro _) | rfl)
def Q71x0x9 (L : List Lf) (m : Nat) (x : List Lf) : Option (Int) := L71x0x9 N (R := (Int)) (ll L 1) (lb L 2) (li L 4) m (li x 0) (li x 1) (fun p => some p)
def sh71x0x9 : Sh := { tmps := [(0, .c (.sl 5)), (1, .c (.b)), (5, .c (.i .i64)), (9, .c (.i .i64)), (10, .c (.i .i64))], mem := [] }
def A71x0x9 (L : List Lf) : List (Bool × (Ex × St)) := bnd (Q71x0x9 N L N (pk sh71x0x9 [3, 5] L)) fun q => [(q.isSome, ((.exit 0), ⟨[(5, .c (.i .i64 (q.getD default)))], []⟩))]
theorem step71x0x9 (m : Nat) (kn : St → Option (Ex × St)) (L x : List Lf) : lpB Tryz.prog (T40x0 N) (h71x0s1 N).h 0 71 9 sh71x0x9 [3, 5] [4, 5] [] (m + 100) kn L x = J71x0x9 N L x (fun y => kn (ofSh sh71x0x9 (mx sh71x0x9 [3, 5] L y))) (fun p => some ((.exit 0), ⟨[(5, .c (.i .i64 p))], []⟩)) := by kernel_rfl
theorem ql71x0x9 (L : List Lf) (m : Nat) (x : List Lf) : Q71x0x9 N L (m + 1) x = J71x0x9 N L x (Q71x0x9 N L m) some := by kernel_rfl
def h71x0s2 : Sg Tryz.prog 0 71 :=
 (h71x0s1 N).lp (A71x0x9 N) N progOk (T40x0_ok N) (fun m kn L x => (step71x0x9 N m kn L x).trans (sb71x0x9 N L x _ _)) (fun L m x => (ql71x0x9 N L m x).trans (sb71x0x9 N L x (Q71x0x9 N L m) some)) fun L x hx => alt1 x hx
def F71x0 (v1 : LD) (v2 : Bool) (k0 : Int → Option R) : Option R :=
 bnd (G71x0x9 N v1 v2 (v1.length : Int) 0 0) fun y0 =>
 bif y0.isSome then
  k0 (y0.getD default)
 else
  none
def G71x0 (v1 : LD) (v2 : Bool) : Option (Int) := F71x0 N v1 v2 (fun p => some p)
theorem bind71x0 (v1 : LD) (v2 : Bool) (k0 : Int → Option R) : F71x0 N v1 v2 k0 = (G71x0 N v1 v2).bind k0 := by
 unfold G71x0 F71x0
 repeat' (first | with_reducible apply cond_b | (with_reducible apply bnd_b; intro _) | rfl)
def sh71x0 : Sh := { tmps := [(0, .c (.sl 5)), (1, .c (.b))], mem := [] }
def A71x0 (L : List Lf) : List (Bool × Res) := bnd (F71x0 N (ll L 1) (lb L 2) (fun p => some p)) fun q => [(q.isSome, ([.c (.i .i64 (q.getD default))], []))]
theorem raw71x0 (L : List Lf) : bd Tryz.prog (T40x0 N) (h71x0s2 N).h 71 sh71x0 L = F71x0 N (ll L 1) (lb L 2) (fun p => some ([.c (.i .i64 p)], [])) := by kernel_rfl
theorem ok71x0 : FnOk Tryz.prog 71 sh71x0 (A71x0 N) :=
 (h71x0s2 N).fn progOk (T40x0_ok N) fun L x hx => ((raw71x0 N L).trans ((bind71x0 N ..).trans (alt1 x hx)))
def T71x0 : Oracle := ext 71 (spSh sh71x0 (A71x0 N)) (T40x0 N)
theorem T71x0_ok : OracleOk Tryz.prog (T71x0 N) := FnOk.to (ok71x0 N) (T40x0_ok N)
def rg41x0 : List (Nat × List Nat) := [(0, [1, 0]), (1, [3, 0]), (2, [10, 0, 3]), (5, [10, 0, 3]), (6, [0, 3]), (7, [0]), (3, [0, 3]), (4, []), (8, [0, 3]), (9, [5, 3, 0]), (10, [7, 3, 6, 5, 0]), (11, []), (12, [3, 6, 5, 0]), (13, [8, 0]), (14, []), (15, [0, 8]), (16, [8])]
def hd41x0 : Hints := []
def h41x0s0 (N : Nat) : Sg Tryz.prog 1 41 := .start hd41x0 rg41x0
def F41x0 (v0 v1 v2 : Int) (v4 v6 : LD) (v7 : D) (k0 : Int × D → Option R) : Option R :=
 bif (v0 == 1) then
  bif (inB 0 v4.length) then
   bif (inB v1 16) then
    bif (inB v1 16) then
     bnd (((((v7.put (0 + (v1.toNat * 1)) (.b true)).put (16 + (v1.toNat * 3)) (.b ((v4.getD 0 (.i 0)).cell 0).toB)).put (17 + (v1.toNat * 3)) (.i ((v4.getD 0 (.i 0)).cell 1).toI)).put (18 + (v1.toNat * 3)) (.l ((v4.getD 0 (.i 0)).cell 2).isNil ((v4.getD 0 (.i 0)).cell 2).items)) : D) fun y0 =>
     k0 ((-1), y0)
    else
     none
   else
    none
  else
   none
 else
  bif (v0 == 3) then
   bnd (IntKind.wrap .i64 ((IntKind.wrap .i64 (v2 - ((v7.cell 64).toI.tmod 32))) + 32)) fun y1 =>
   bnd ((v7.put 64 (.i (IntKind.wrap .i64 ((v7.cell 64).toI + (y1.tmod 32))))) : D) fun y2 =>
   k0 ((y2.cell 64).toI, y2)
  else
   bif (inB v1 16) then
    bnd (G68x0 N (v7.cell (18 + (v1.toNat * 3))).items) fun y3 =>
    bif y3.isSome then
     bif (!(y3.getD default).2) then
      k0 ((-1), v7)
     else
      bif (((decide (0 ≤ (y3.getD default).1)) && (decide ((y3.getD default).1 ≤ (IntKind.wrap .i64 ((y3.getD default).1 + 4))))) && (decide ((IntKind.wrap .i64 ((y3.getD default).1 + 4)) ≤ (v6.length : Int)))) then
       bnd (((v6.take (IntKind.wrap .i64 ((y3.getD default).1 + 4)).toNat).drop (y3.getD default).1.toNat) : List D) fun y4 =>
       bnd (G71x0 N y4 (v7.cell (16 + (v1.toNat * 3))).toB) fun y5 =>
       bif y5.isSome then
        bif ((y5.getD default) == 4294967295) then
         k0 ((-1), v7)
        else
         k0 ((y5.getD default), (v7.put 64 (.i (y5.getD default))))
       else
        none
      else
       none
    else
     none
   else
    none
def G41x0 (v0 v1 v2 : Int) (v4 v6 : LD) (v7 : D) : Option (Int × D) := F41x0 N v0 v1 v2 v4 v6 v7 (fun p => some p)
theorem bind41x0 (v0 v1 v2 : Int) (v4 v6 : LD) (v7 : D) (k0 : Int × D → Option R) : F41x0 N v0 v1 v2 v4 v6 v7 k0 = (G41x0 N v0 v1 v2 v4 v6 v7).bind k0 := by
 unfold G41x0 F41x0
 repeat' (first | with_reducible apply cond_b | (with_reducible apply bnd_b; intro _) | rfl)
def J41x0 (L : List Lf) (k0 : Int × D → Option R) : Option R := F41x0 N (li L 0) (li L 1) (li L 2) (ll L 4) (ll L 6) (ld L 7) k0
def sh41x0 : Sh := { tmps := [(0, .c (.p 0 0)), (1, .g ([.i .i64, .i .i64, .i .i64, .sl 64, .sl 5]))], mem := [(0, .dat 95)] }
def A41x0 (L : List Lf) : List (Bool × Res) := bnd (J41x0 N L (fun p => some p)) fun q => [(q.isSome, ([.c (.i .i64 (q.getD default).1)], [(0, .dat 95 (q.getD default).2)]))]
theorem raw41x0 (L : List Lf) : bd Tryz.prog (T71x0 N) (h41x0s0 N).h 41 sh41x0 L = J41x0 N L (fun p => some ([.c (.i .i64 p.1)], [(0, .dat 95 p.2)])) := by kernel_rfl
theorem ok41x0 : FnOk Tryz.prog 41 sh41x0 (A41x0 N) :=
 (h41x0s0 N).fn progOk (T71x0_ok N) fun L x hx => ((raw41x0 N L).trans ((bind41x0 N ..).trans (alt1 x hx)))
def T41x0 : Oracle := ext 41 (spSh sh41x0 (A41x0 N)) (T71x0 N)
theorem T41x0_ok : OracleOk Tryz.prog (T41x0 N) := FnOk.to (ok41x0 N) (T71x0_ok N)
def rg15x0 : List (Nat × List Nat) := [(0, [0]), (1, [1]), (2, []), (3, [1]), (4, [1, 3]), (5, [16, 15, 14, 3]), (6, [14, 16, 3, 15]), (7, [3, 5, 16, 15, 14]), (8, [6, 3, 5, 16, 15, 14]), (9, [6]), (10, [3, 5, 16, 15, 14]), (11, [16, 15, 14, 3]), (12, [])]
def hd15x0 : Hints := [(15, [3, 14, 15, 16], [12], [])]
def h15x0s0 (N : Nat) : Sg Tryz.prog 0 15 := .start hd15x0 rg15x0
def S15x0x15 (w1 : LD) (w2 : Int) (w3 : Int) (w4 : D) (kr : Int → D → Option R) (k0 : Int → Option R) (k1 : Unit → Option R) : Option R :=
 bif (decide (w3 < w2)) then
  bif (inB w3 w1.length) then
   bnd (G40x0 N ((w1.getD w3.toNat (.i 0)).cell 0).toI ((w1.getD w3.toNat (.i 0)).cell 1).toI ((w1.getD w3.toNat (.i 0)).cell 2).toI ((w1.getD w3.toNat (.i 0)).cell 3).items ((w1.getD w3.toNat (.i 0)).cell 4).items w4) fun y0 =>
   bif y0.isSome then
    bif ((y0.getD default) != 0) then
     k0 (y0.getD default)
    else
     bnd (G41x0 N ((w1.getD w3.toNat (.i 0)).cell 0).toI ((w1.getD w3.toNat (.i 0)).cell 1).toI ((w1.getD w3.toNat (.i 0)).cell 2).toI ((w1.getD w3.toNat (.i 0)).cell 3).items ((w1.getD w3.toNat (.i 0)).cell 4).items w4) fun y1 =>
     bif y1.isSome then
      kr (IntKind.wrap .i64 (w3 + 1)) (y1.getD default).2
     else
      none
   else
    none
  else
   none
 else
  k1 ()
def L15x0x15 (N : Nat) {R : Type} (w1 : LD) (w2 : Int) : Nat → Int → D → (Int → Option R) → (Unit → Option R) → Option R
 | 0, _, _, _, _ => none
 | m + 1, w3, w4, k0, k1 => S15x0x15 N w1 w2 w3 w4 (fun w3 w4 => L15x0x15 N w1 w2 m w3 w4 k0 k1) k0 k1
def G15x0x15 (w1 : LD) (w2 : Int) (w3 : Int) (w4 : D) : Option (Sum (Int) (Unit)) := L15x0x15 N (R := (Sum (Int) (Unit))) w1 w2 N w3 w4 (fun p => some (.inl p)) (fun p => some (.inr p))
def J15x0x15 (L x : List Lf) (kr : List Lf → Option R) (k0 : Int → Option R) (k1 : Unit → Option R) : Option R := S15x0x15 N (ll L 1) (li L 2) (li x 0) (ld x 1) (fun w3 w4 => kr [.i w3, .d w4]) k0 k1
theorem sb15x0x15 (L x : List Lf) (kr : List Lf → Option R) (k0 : Int → Option R) (k1 : Unit → Option R) : J15x0x15 N L x kr k0 k1 = (J15x0x15 N L x (fun y => some (.inl y)) (fun p => some (.inr (.inl p))) (fun p => some (.inr (.inr p)))).bind (sumE kr (sumE k0 k1)) := by
 unfold J15x0x15 S15x0x15
 repeat' (first | with_reducible apply cond_b | (with_reducible apply bnd_b; intro _) | rfl)
def Q15x0x15 (L : List Lf) (m : Nat) (x : List Lf) : Option (Sum (Int) (Unit)) := L15x0x15 N (R := (Sum (Int) (Unit))) (ll L 1) (li L 2) m (li x 0) (ld x 1) (fun p => some (.inl p)) (fun p => some (.inr p))
def sh15x0x15 : Sh := { tmps := [(3, .c (.p 12 0)), (14, .c (.sl 39)), (15, .c (.i .i64)), (16, .c (.i .i64))], mem := [(12, .dat 95)] }
def A15x0x15 (L : List Lf) : List (Bool × (Ex × St)) := bnd (Q15x0x15 N L N (pk sh15x0x15 [3, 4] L)) fun q => [((inlB q), (.ret, ⟨[(2, .c (.i .i64 (inlV q)))], []⟩)), ((inrQ q).isSome, ((.exit 0), ⟨[], []⟩))]
theorem step15x0x15 (m : Nat) (kn : St → Option (Ex × St)) (L x : List Lf) : lpB Tryz.prog (T41x0 N) (h15x0s0 N).h 0 15 15 sh15x0x15 [3, 4] [2] [] (m + 100) kn L x = J15x0x15 N L x (fun y => kn (ofSh sh15x0x15 (mx sh15x0x15 [3, 4] L y))) (fun p => some (.ret, ⟨[(2, .c (.i .i64 p))], []⟩)) (fun _ => some ((.exit 0), ⟨[], []⟩)) := by kernel_rfl
theorem ql15x0x15 (L : List Lf) (m : Nat) (x : List Lf) : Q15x0x15 N L (m + 1) x = J15x0x15 N L x (Q15x0x15 N L m) (fun p => some (.inl p)) (fun p => some (.inr p)) := by kernel_rfl
def h15x0s1 : Sg Tryz.prog 0 15 :=
 (h15x0s0 N).lp (A15x0x15 N) N progOk (T41x0_ok N) (fun m kn L x => (step15x0x15 N m kn L x).trans (sb15x0x15 N L x _ _ _)) (fun L m x => (ql15x0x15 N L m x).trans (sb15x0x15 N L x (Q15x0x15 N L m) (fun p => some (.inl p)) (fun p => some (.inr p)))) fun L x hx => (altS alt1) x hx
def F15x0 (v1 : LD) (k0 : Int → Option R) : Option R :=
 bif (decide ((v1.length : Int) > 50000)) then
  k0 3
 else
  bnd (G15x0x15 N v1 (v1.length : Int) 0 (.a [(.b false), (.b false), (.b false), (.b false), (.b false), (.b false), (.b false), (.b false), (.b false), (.b false), (.b false), (.b false), (.b false), (.b false), (.b false), (.b false), (.b false), (.i 0), (.l true []), (.b false), (.i 0), (.l true []), (.b false), (.i 0), (.l true []), (.b false), (.i 0), (.l true []), (.b false), (.i 0), (.l true []), (.b false), (.i 0), (.l true []), (.b false), (.i 0), (.l true []), (.b false), (.i 0), (.l true []), (.b false), (.i 0), (.l true []), (.b false), (.i 0), (.l true []), (.b false), (.i 0), (.l true []), (.b false), (.i 0), (.l true []), (.b false), (.i 0), (.l true []), (.b false), (.i 0), (.l true []), (.b false), (.i 0), (.l true []), (.b false), (.i 0), (.l true []), (.i (-1))])) fun y0 =>
  bif (inlB y0) then
   k0 (inlV y0)
  else
   bif (inrQ y0).isSome then
    k0 0
   else
    none
def G15x0 (v1 : LD) : Option (Int) := F15x0 N v1 (fun p => some p)
theorem bind15x0 (v1 : LD) (k0 : Int → Option R) : F15x0 N v1 k0 = (G15x0 N v1).bind k0 := by
 unfold G15x0 F15x0
 repeat' (first | with_reducible apply cond_b | (with_reducible apply bnd_b; intro _) | rfl)
def sh15x0 : Sh := { tmps := [(0, .g ([.sl 39]))], mem := [] }
def A15x0 (L : List Lf) : List (Bool × Res) := bnd (F15x0 N (ll L 1) (fun p => some p)) fun q => [(q.isSome, ([.c (.i .i64 (q.getD default))], []))]
theorem raw15x0 (L : List Lf) : bd Tryz.prog (T41x0 N) (h15x0s1 N).h 15 sh15x0 L = F15x0 N (ll L 1) (fun p => some ([.c (.i .i64 p)], [])) := by kernel_rfl
theorem ok15x0 : FnOk Tryz.prog 15 sh15x0 (A15x0 N) :=
 (h15x0s1 N).fn progOk (T41x0_ok N) fun L x hx => ((raw15x0 N L).trans ((bind15x0 N ..).trans (alt1 x hx)))
def T15x0 : Oracle := ext 15 (spSh sh15x0 (A15x0 N)) (T41x0 N)
theorem T15x0_ok : OracleOk Tryz.prog (T15x0 N) := FnOk.to (ok15x0 N) (T41x0_ok N)
def rg56x0 : List (Nat × List Nat) := [(0, [0]), (1, [0]), (2, []), (3, [0]), (4, [0, 3]), (5, [11, 10, 9, 3]), (6, [9, 11, 3, 10]), (7, [3, 5, 11, 10, 9]), (8, [11, 10, 9, 3]), (9, [3])]
def hd56x0 : Hints := [(15, [3, 9, 10, 11], [3], [3])]
def h56x0s0 (N : Nat) : Sg Tryz.prog 0 56 := .start hd56x0 rg56x0
def S56x0x15 (N : Nat) (w1 : LD) (w2 : Int) (w3 : Int) (w4 : Bool) (w5 : LD) (kr : Int → Bool → LD → Option R) (k0 : Bool × LD → Option R) : Option R :=
 bif (decide (w3 < w2)) then
  bif (inB w3 w1.length) then
   bif (inB (IntKind.wrap .u8 ((w1.getD w3.toNat (.i 0)).toI.tdiv 16)) 16) then
    bnd ((([48, 49, 50, 51, 52, 53, 54, 55, 56, 57, 97, 98, 99, 100, 101, 102] : List UInt8).getD (IntKind.wrap .u8 ((w1.getD w3.toNat (.i 0)).toI.tdiv 16)).toNat 0).toNat : Int) fun y0 =>
    bif (inB ((w1.getD w3.toNat (.i 0)).toI.tmod 16) 16) then
     bnd ((([48, 49, 50, 51, 52, 53, 54, 55, 56, 57, 97, 98, 99, 100, 101, 102] : List UInt8).getD ((w1.getD w3.toNat (.i 0)).toI.tmod 16).toNat 0).toNat : Int) fun y1 =>
     bif (decide ((w5.length + 2) * 1 ≤ room) && decide ((w5.length + 2) ≤ strMax)) then
      kr (IntKind.wrap .i64 (w3 + 1)) false (w5 ++ [(.i y0), (.i y1)])
     else
      none
    else
     none
   else
    none
  else
   none
 else
  k0 (w4, w5)
def L56x0x15 (N : Nat) {R : Type} (w1 : LD) (w2 : Int) : Nat → Int → Bool → LD → (Bool × LD → Option R) → Option R
 | 0, _, _, _, _ => none
 | m + 1, w3, w4, w5, k0 => S56x0x15 N w1 w2 w3 w4 w5 (fun w3 w4 w5 => L56x0x15 N w1 w2 m w3 w4 w5 k0) k0
def G56x0x15 (w1 : LD) (w2 : Int) (w3 : Int) (w4 : Bool) (w5 : LD) : Option (Bool × LD) := L56x0x15 N (R := (Bool × LD)) w1 w2 N w3 w4 w5 (fun p => some p)
def J56x0x15 (L x : List Lf) (kr : List Lf → Option R) (k0 : Bool × LD → Option R) : Option R := S56x0x15 N (ll L 1) (li L 2) (li x 0) (lb x 1) (ll x 2) (fun w3 w4 w5 => kr [.i w3, .b w4, .l w5]) k0
theorem sb56x0x15 (L x : List Lf) (kr : List Lf → Option R) (k0 : Bool × LD → Option R) : J56x0x15 N L x kr k0 = (J56x0x15 N L x (fun y => some (.inl y)) (fun p => some (.inr p))).bind (sumE kr k0) := by
 unfold J56x0x15 S56x0x15
 repeat' (first | with_reducible apply cond_b | (with_reducible apply bnd_b; intro _) | rfl)
def Q56x0x15 (L : List Lf) (m : Nat) (x : List Lf) : Option (Bool × LD) := L56x0x15 N (R := (Bool × LD)) (ll L 1) (li L 2) m (li x 0) (lb x 1) (ll x 2) (fun p => some p)
def sh56x0x15 : Sh := { tmps := [(3, .c (.o 3)), (9, .c (.sl 5)), (10, .c (.i .i64)), (11, .c (.i .i64))], mem := [(3, .row 5 true)] }
def A56x0x15 (L : List Lf) : List (Bool × (Ex × St)) := bnd (Q56x0x15 N L N (pk sh56x0x15 [3, 4, 5] L)) fun q => [(q.isSome, ((.exit 0), ⟨[(3, .c (.o 3))], [(3, .row 5 true (q.getD default).1 (q.getD default).2)]⟩))]
theorem step56x0x15 (m : Nat) (kn : St → Option (Ex × St)) (L x : List Lf) : lpB Tryz.prog (T15x0 N) (h56x0s0 N).h 0 56 15 sh56x0x15 [3, 4, 5] [2, 3] [3] (m + 100) kn L x = J56x0x15 N L x (fun y => kn (ofSh sh56x0x15 (mx sh56x0x15 [3, 4, 5] L y))) (fun p => some ((.exit 0), ⟨[(3, .c (.o 3))], [(3, .row 5 true p.1 p.2)]⟩)) := by kernel_rfl
theorem ql56x0x15 (L : List Lf) (m : Nat) (x : List Lf) : Q56x0x15 N L (m + 1) x = J56x0x15 N L x (Q56x0x15 N L m) some := by kernel_rfl
def h56x0s1 : Sg Tryz.prog 0 56 :=
 (h56x0s0 N).lp (A56x0x15 N) N progOk (T15x0_ok N) (fun m kn L x => (step56x0x15 N m kn L x).trans (sb56x0x15 N L x _ _)) (fun L m x => (ql56x0x15 N L m x).trans (sb56x0x15 N L x (Q56x0x15 N L m) some)) fun L x hx => alt1 x hx
def F56x0 (v1 : LD) (k0 : LB → Option R) : Option R :=
 bif ((v1.length : Int) == 0) then
  k0 ([45] : List UInt8)
 else
  bnd (G56x0x15 N v1 (v1.length : Int) 0 true []) fun y0 =>
  bif y0.isSome then
   k0 (strD (y0.getD default).2)
  else
   none
def G56x0 (v1 : LD) : Option (LB) := F56x0 N v1 (fun p => some p)
theorem bind56x0 (v1 : LD) (k0 : LB → Option R) : F56x0 N v1 k0 = (G56x0 N v1).bind k0 := by
 unfold G56x0 F56x0
 repeat' (first | with_reducible apply cond_b | (with_reducible apply bnd_b; intro _) | rfl)
def sh56x0 : Sh := { tmps := [(0, .c (.sl 5))], mem := [] }
def A56x0 (L : List Lf) : List (Bool × Res) := bnd (F56x0 N (ll L 1) (fun p => some p)) fun q => [(q.isSome, ([.c (.s (q.getD default))], []))]
theorem raw56x0 (L : List Lf) : bd Tryz.prog (T15x0 N) (h56x0s1 N).h 56 sh56x0 L = F56x0 N (ll L 1) (fun p => some ([.c (.s p)], [])) := by kernel_rfl
theorem ok56x0 : FnOk Tryz.prog 56 sh56x0 (A56x0 N) :=
 (h56x0s1 N).fn progOk (T15x0_ok N) fun L x hx => ((raw56x0 N L).trans ((bind56x0 N ..).trans (alt1 x hx)))
def T56x0 : Oracle := ext 56 (spSh sh56x0 (A56x0 N)) (T15x0 N)
theorem T56x0_ok : OracleOk Tryz.prog (T56x0 N) := FnOk.to (ok56x0 N) (T15x0_ok N)
def rg28x0 : List (Nat × List Nat) := [(0, [0]), (1, [1]), (2, [9, 1]), (4, [9, 1]), (5, [1]), (3, [1]), (6, [1]), (7, [3, 1]), (8, [3, 1, 4]), (9, [1, 3]), (10, [1, 3, 4]), (11, [3, 5]), (12, [58, 57, 56, 5]), (13, [56, 58, 5, 57]), (14, [5, 7, 58, 57, 56]), (15, [58, 57, 56, 5]), (16, [5])]
def hd28x0 : Hints := [(29, [1, 3, 4, 42], [1, 3], []), (36, [5, 56, 57, 58], [], [])]
def h28x0s0 (N : Nat) : Sg Tryz.prog 0 28 := .start hd28x0 rg28x0
def F28x0x29 (N : Nat) (w0 : LB) (w1 : Bool) (k0 : LB → R) : R :=
 bif w1 then
  k0 ([98, 105, 103] : List UInt8)
 else
  k0 w0
def V28x0x29 (w0 : LB) (w1 : Bool) : LB := F28x0x29 N w0 w1 (fun p => p)
theorem tot28x0x29 (w0 : LB) (w1 : Bool) (k0 : LB → R) : F28x0x29 N w0 w1 k0 = k0 (V28x0x29 N w0 w1) := by
 unfold V28x0x29 F28x0x29
 repeat' (first | rfl | apply cond_k | (apply bnd_k; intro _))
def sh28x0x29 : Sh := { tmps := [(1, .c (.p 1 0)), (3, .c (.p 3 0)), (4, .c (.s)), (42, .c (.b))], mem := [(1, .box ([.i .i64, .i .i64, .i .i64, .sl 64, .sl 5])), (3, .box ([.b, .i .i64, .sl 71]))] }
def K28x0x29w0 (L : List Lf) (p : LB) : Ex × St := (.normal, mg (ofSh sh28x0x29 L) [1, 3, 4] [(4, .c (.s p))] [3, 1] [])
def A28x0x29 (L : List Lf) : List (Bool × (Ex × St)) := bnd (F28x0x29 N (ls L 0) (lb L 1) (fun p => p)) fun q => [(true, K28x0x29w0 L q)]
theorem raw28x0x29 (L : List Lf) : pc Tryz.prog (T56x0 N) (h28x0s0 N).h 0 100 28 29 sh28x0x29 L [1, 3, 4] [3, 1] = F28x0x29 N (ls L 0) (lb L 1) (fun p => some (K28x0x29w0 L p)) := by kernel_rfl
def h28x0s1 : Sg Tryz.prog 0 28 :=
 (h28x0s0 N).cut (A28x0x29 N) progOk (T56x0_ok N) fun L x hx => (raw28x0x29 N L).trans ((tot28x0x29 N ..).trans (alt0 _ _ hx))
def S28x0x36 (N : Nat) (w2 : LD) (w3 : Int) (w0 : LB) (w4 : Int) (kr : LB → Int → Option R) (k0 : LB → Option R) : Option R :=
 bif (decide (w4 < w3)) then
  bif (inB w4 w2.length) then
   bif (i64B ((w2.getD w4.toNat (.i 0)).cell 0).toI) then
    bif (decide (([32] : List UInt8).length + (Lib.itoa ((w2.getD w4.toNat (.i 0)).cell 0).toI).length ≤ strMax)) then
     bnd (([32] : List UInt8) ++ (Lib.itoa ((w2.getD w4.toNat (.i 0)).cell 0).toI)) fun y0 =>
     bif (decide (y0.length + ([58] : List UInt8).length ≤ strMax)) then
      bif (i64B ((w2.getD w4.toNat (.i 0)).cell 1).toI) then
       bif (decide ((y0 ++ ([58] : List UInt8)).length + (Lib.itoa ((w2.getD w4.toNat (.i 0)).cell 1).toI).length ≤ strMax)) then
        bnd ((y0 ++ ([58] : List UInt8)) ++ (Lib.itoa ((w2.getD w4.toNat (.i 0)).cell 1).toI)) fun y1 =>
        bif (decide (y1.length + ([58] : List UInt8).length ≤ strMax)) then
         bif (i64B ((w2.getD w4.toNat (.i 0)).cell 2).toI) then
          bif (decide ((y1 ++ ([58] : List UInt8)).length + (Lib.itoa ((w2.getD w4.toNat (.i 0)).cell 2).toI).length ≤ strMax)) then
           bnd ((y1 ++ ([58] : List UInt8)) ++ (Lib.itoa ((w2.getD w4.toNat (.i 0)).cell 2).toI)) fun y2 =>
           bif (decide (w0.length + y2.length ≤ strMax)) then
            kr (w0 ++ y2) (IntKind.wrap .i64 (w4 + 1))
           else
            none
          else
           none
         else
          none
        else
         none
       else
        none
      else
       none
     else
      none
    else
     none
   else
    none
  else
   none
 else
  k0 w0
def L28x0x36 (N : Nat) {R : Type} (w2 : LD) (w3 : Int) : Nat → LB → Int → (LB → Option R) → Option R
 | 0, _, _, _ => none
 | m + 1, w0, w4, k0 => S28x0x36 N w2 w3 w0 w4 (fun w0 w4 => L28x0x36 N w2 w3 m w0 w4 k0) k0
def G28x0x36 (w2 : LD) (w3 : Int) (w0 : LB) (w4 : Int) : Option (LB) := L28x0x36 N (R := (LB)) w2 w3 N w0 w4 (fun p => some p)
def J28x0x36 (L x : List Lf) (kr : List Lf → Option R) (k0 : LB → Option R) : Option R := S28x0x36 N (ll L 2) (li L 3) (ls x 0) (li x 1) (fun w0 w4 => kr [.s w0, .i w4]) k0
theorem sb28x0x36 (L x : List Lf) (kr : List Lf → Option R) (k0 : LB → Option R) : J28x0x36 N L x kr k0 = (J28x0x36 N L x (fun y => some (.inl y)) (fun p => some (.inr p))).bind (sumE kr k0) := by
 unfold J28x0x36 S28x0x36
 repeat' (first | with_reducible apply cond_b | (with_reducible apply bnd_b; intro _) | rfl)
def Q28x0x36 (L : List Lf) (m : Nat) (x : List Lf) : Option (LB) := L28x0x36 N (R := (LB)) (ll L 2) (li L 3) m (ls x 0) (li x 1) (fun p => some p)
def sh28x0x36 : Sh := { tmps := [(5, .c (.s)), (56, .c (.sl 71)), (57, .c (.i .i64)), (58, .c (.i .i64))], mem := [] }
def A28x0x36 (L : List Lf) : List (Bool × (Ex × St)) := bnd (Q28x0x36 N L N (pk sh28x0x36 [0, 4] L)) fun q => [(q.isSome, ((.exit 1), ⟨[(5, .c (.s (q.getD default)))], []⟩))]
theorem step28x0x36 (m : Nat) (kn : St → Option (Ex × St)) (L x : List Lf) : lpB Tryz.prog (T56x0 N) (h28x0s1 N).h 0 28 36 sh28x0x36 [0, 4] [2, 5] [] (m + 100) kn L x = J28x0x36 N L x (fun y => kn (ofSh sh28x0x36 (mx sh28x0x36 [0, 4] L y))) (fun p => some ((.exit 1), ⟨[(5, .c (.s p))], []⟩)) := by kernel_rfl
theorem ql28x0x36 (L : List Lf) (m : Nat) (x : List Lf) : Q28x0x36 N L (m + 1) x = J28x0x36 N L x (Q28x0x36 N L m) some := by kernel_rfl
def h28x0s2 : Sg Tryz.prog 0 28 :=
 (h28x0s1 N).lp (A28x0x36 N) N progOk (T56x0_ok N) (fun m kn L x => (step28x0x36 N m kn L x).trans (sb28x0x36 N L x _ _)) (fun L m x => (ql28x0x36 N L m x).trans (sb28x0x36 N L x (Q28x0x36 N L m) some)) fun L x hx => alt1 x hx
def F28x0 (v0 v1 v2 : Int) (v4 v6 : LD) (k0 : LB → Option R) : Option R :=
 bif (v0 == 2) then
  bif (i64B v1) then
   bif (decide (([100, 97, 116, 97, 32] : List UInt8).length + (Lib.itoa v1).length ≤ strMax)) then
    bif (decide ((([100, 97, 116, 97, 32] : List UInt8) ++ (Lib.itoa v1)).length + ([32] : List UInt8).length ≤ strMax)) then
     bnd ((([100, 97, 116, 97, 32] : List UInt8) ++ (Lib.itoa v1)) ++ ([32] : List UInt8)) fun y0 =>
     bnd (G56x0 N v6) fun y1 =>
     bif y1.isSome then
      bif (decide (y0.length + (y1.getD default).length ≤ strMax)) then
       k0 (y0 ++ (y1.getD default))
      else
       none
     else
      none
    else
     none
   else
    none
  else
   none
 else
  bif (v0 == 3) then
   bif (i64B v1) then
    bif (decide (([115, 104, 111, 114, 116, 32] : List UInt8).length + (Lib.itoa v1).length ≤ strMax)) then
     bnd (([115, 104, 111, 114, 116, 32] : List UInt8) ++ (Lib.itoa v1)) fun y2 =>
     bif (decide (y2.length + ([32] : List UInt8).length ≤ strMax)) then
      bif (i64B v2) then
       bif (decide ((y2 ++ ([32] : List UInt8)).length + (Lib.itoa v2).length ≤ strMax)) then
        bif (decide (((y2 ++ ([32] : List UInt8)) ++ (Lib.itoa v2)).length + ([32] : List UInt8).length ≤ strMax)) then
         bnd (((y2 ++ ([32] : List UInt8)) ++ (Lib.itoa v2)) ++ ([32] : List UInt8)) fun y3 =>
         bnd (G56x0 N v6) fun y1 =>
         bif y1.isSome then
          bif (decide (y3.length + (y1.getD default).length ≤ strMax)) then
           k0 (y3 ++ (y1.getD default))
          else
           none
         else
          none
        else
         none
       else
        none
      else
       none
     else
      none
    else
     none
   else
    none
  else
   bif (inB 0 v4.length) then
    bnd (V28x0x29 N ([108, 105, 116, 116, 108, 101] : List UInt8) ((v4.getD 0 (.i 0)).cell 0).toB) fun y4 =>
    bif (i64B v1) then
     bif (decide (([100, 101, 102, 105, 110, 101, 32] : List UInt8).length + (Lib.itoa v1).length ≤ strMax)) then
      bnd (([100, 101, 102, 105, 110, 101, 32] : List UInt8) ++ (Lib.itoa v1)) fun y5 =>
      bif (decide (y5.length + ([32] : List UInt8).length ≤ strMax)) then
       bif (i64B ((v4.getD 0 (.i 0)).cell 1).toI) then
        bif (decide ((y5 ++ ([32] : List UInt8)).length + (Lib.itoa ((v4.getD 0 (.i 0)).cell 1).toI).length ≤ strMax)) then
         bnd ((y5 ++ ([32] : List UInt8)) ++ (Lib.itoa ((v4.getD 0 (.i 0)).cell 1).toI)) fun y6 =>
         bif (decide (y6.length + ([32] : List UInt8).length ≤ strMax)) then
          bif (decide ((y6 ++ ([32] : List UInt8)).length + y4.length ≤ strMax)) then
           bnd (G28x0x36 N ((v4.getD 0 (.i 0)).cell 2).items (((v4.getD 0 (.i 0)).cell 2).items.length : Int) ((y6 ++ ([32] : List UInt8)) ++ y4) 0) fun y7 =>
           bif y7.isSome then
            k0 (y7.getD default)
           else
            none
          else
           none
         else
          none
        else
         none
       else
        none
      else
       none
     else
      none
    else
     none
   else
    none
def G28x0 (v0 v1 v2 : Int) (v4 v6 : LD) : Option (LB) := F28x0 N v0 v1 v2 v4 v6 (fun p => some p)
theorem bind28x0 (v0 v1 v2 : Int) (v4 v6 : LD) (k0 : LB → Option R) : F28x0 N v0 v1 v2 v4 v6 k0 = (G28x0 N v0 v1 v2 v4 v6).bind k0 := by
 unfold G28x0 F28x0
 repeat' (first | with_reducible apply cond_b | (with_reducible apply bnd_b; intro _) | rfl)
def J28x0 (L : List Lf) (k0 : LB → Option R) : Option R := F28x0 N (li L 0) (li L 1) (li L 2) (ll L 4) (ll L 6) k0
def sh28x0 : Sh := { tmps := [(0, .g ([.i .i64, .i .i64, .i .i64, .sl 64, .sl 5]))], mem := [] }
def A28x0 (L : List Lf) : List (Bool × Res) := bnd (J28x0 N L (fun p => some p)) fun q => [(q.isSome, ([.c (.s (q.getD default))], []))]
theorem raw28x0 (L : List Lf) : bd Tryz.prog (T56x0 N) (h28x0s2 N).h 28 sh28x0 L = J28x0 N L (fun p => some ([.c (.s p)], [])) := by kernel_rfl
theorem ok28x0 : FnOk Tryz.prog 28 sh28x0 (A28x0 N) :=
 (h28x0s2 N).fn progOk (T56x0_ok N) fun L x hx => ((raw28x0 N L).trans ((bind28x0 N ..).trans (alt1 x hx)))
def T28x0 : Oracle := ext 28 (spSh sh28x0 (A28x0 N)) (T56x0 N)
theorem T28x0_ok : OracleOk Tryz.prog (T28x0 N) := FnOk.to (ok28x0 N) (T56x0_ok N)
def rg10x0 : List (Nat × List Nat) := [(0, [0]), (1, [1]), (2, [4, 1]), (3, [4]), (4, [1]), (5, [1, 5]), (6, [16, 15, 14, 5]), (7, [14, 16, 5, 15]), (8, [5, 7, 16, 15, 14]), (9, [16, 15, 14, 5]), (10, [5]), (11, []), (12, [5])]
def hd10x0 : Hints := [(18, [5, 14, 15, 16], [5], [5])]
def h10x0s0 (N : Nat) : Sg Tryz.prog 0 10 := .start hd10x0 rg10x0
def S10x0x18 (w1 : LD) (w2 : Int) (w3 : Int) (w4 : Bool) (w5 : LD) (kr : Int → Bool → LD → Option R) (k0 : Bool × LD → Option R) : Option R :=
 bif (decide (w3 < w2)) then
  bif (inB w3 w1.length) then
   bnd (G28x0 N ((w1.getD w3.toNat (.i 0)).cell 0).toI ((w1.getD w3.toNat (.i 0)).cell 1).toI ((w1.getD w3.toNat (.i 0)).cell 2).toI ((w1.getD w3.toNat (.i 0)).cell 3).items ((w1.getD w3.toNat (.i 0)).cell 4).items) fun y0 =>
   bif y0.isSome then
    bif (decide ((w5.length + (y0.getD default).length) * 1 ≤ room) && decide ((w5.length + (y0.getD default).length) ≤ strMax)) then
     bif (decide (((w5 ++ (bytesD (y0.getD default))).length + 1) * 1 ≤ room) && decide (((w5 ++ (bytesD (y0.getD default))).length + 1) ≤ strMax)) then
      kr (IntKind.wrap .i64 (w3 + 1)) false ((w5 ++ (bytesD (y0.getD default))) ++ [(.i 10)])
     else
      none
    else
     none
   else
    none
  else
   none
 else
  k0 (w4, w5)
def L10x0x18 (N : Nat) {R : Type} (w1 : LD) (w2 : Int) : Nat → Int → Bool → LD → (Bool × LD → Option R) → Option R
 | 0, _, _, _, _ => none
 | m + 1, w3, w4, w5, k0 => S10x0x18 N w1 w2 w3 w4 w5 (fun w3 w4 w5 => L10x0x18 N w1 w2 m w3 w4 w5 k0) k0
def G10x0x18 (w1 : LD) (w2 : Int) (w3 : Int) (w4 : Bool) (w5 : LD) : Option (Bool × LD) := L10x0x18 N (R := (Bool × LD)) w1 w2 N w3 w4 w5 (fun p => some p)
def J10x0x18 (L x : List Lf) (kr : List Lf → Option R) (k0 : Bool × LD → Option R) : Option R := S10x0x18 N (ll L 1) (li L 2) (li x 0) (lb x 1) (ll x 2) (fun w3 w4 w5 => kr [.i w3, .b w4, .l w5]) k0
theorem sb10x0x18 (L x : List Lf) (kr : List Lf → Option R) (k0 : Bool × LD → Option R) : J10x0x18 N L x kr k0 = (J10x0x18 N L x (fun y => some (.inl y)) (fun p => some (.inr p))).bind (sumE kr k0) := by
 unfold J10x0x18 S10x0x18
 repeat' (first | with_reducible apply cond_b | (with_reducible apply bnd_b; intro _) | rfl)
def Q10x0x18 (L : List Lf) (m : Nat) (x : List Lf) : Option (Bool × LD) := L10x0x18 N (R := (Bool × LD)) (ll L 1) (li L 2) m (li x 0) (lb x 1) (ll x 2) (fun p => some p)
def sh10x0x18 : Sh := { tmps := [(5, .c (.o 5)), (14, .c (.sl 39)), (15, .c (.i .i64)), (16, .c (.i .i64))], mem := [(5, .row 5 true)] }
def A10x0x18 (L : List Lf) : List (Bool × (Ex × St)) := bnd (Q10x0x18 N L N (pk sh10x0x18 [3, 4, 5] L)) fun q => [(q.isSome, ((.exit 0), ⟨[(5, .c (.o 5))], [(5, .row 5 true (q.getD default).1 (q.getD default).2)]⟩))]
theorem step10x0x18 (m : Nat) (kn : St → Option (Ex × St)) (L x : List Lf) : lpB Tryz.prog (T28x0 N) (h10x0s0 N).h 0 10 18 sh10x0x18 [3, 4, 5] [2, 3, 5] [5] (m + 100) kn L x = J10x0x18 N L x (fun y => kn (ofSh sh10x0x18 (mx sh10x0x18 [3, 4, 5] L y))) (fun p => some ((.exit 0), ⟨[(5, .c (.o 5))], [(5, .row 5 true p.1 p.2)]⟩)) := by kernel_rfl
theorem ql10x0x18 (L : List Lf) (m : Nat) (x : List Lf) : Q10x0x18 N L (m + 1) x = J10x0x18 N L x (Q10x0x18 N L m) some := by kernel_rfl
def h10x0s1 : Sg Tryz.prog 0 10 :=
 (h10x0s0 N).lp (A10x0x18 N) N progOk (T28x0_ok N) (fun m kn L x => (step10x0x18 N m kn L x).trans (sb10x0x18 N L x _ _)) (fun L m x => (ql10x0x18 N L m x).trans (sb10x0x18 N L x (Q10x0x18 N L m) some)) fun L x hx => alt1 x hx
def F10x0 (v1 : LD) (k0 : LB × Int → Option R) : Option R :=
 bnd (G15x0 N v1) fun y0 =>
 bif y0.isSome then
  bif ((y0.getD default) != 0) then
   k0 (([] : List UInt8), (y0.getD default))
  else
   bnd (G10x0x18 N v1 (v1.length : Int) 0 true []) fun y1 =>
   bif y1.isSome then
    bnd (decide (((y1.getD default).2.length : Int) > 10000000)) fun y2 =>
    bif y2 then
     k0 (([] : List UInt8), 3)
    else
     k0 ((strD (y1.getD default).2), 0)
   else
    none
 else
  none
def G10x0 (v1 : LD) : Option (LB × Int) := F10x0 N v1 (fun p => some p)
theorem bind10x0 (v1 : LD) (k0 : LB × Int → Option R) : F10x0 N v1 k0 = (G10x0 N v1).bind k0 := by
 unfold G10x0 F10x0
 repeat' (first | with_reducible apply cond_b | (with_reducible apply bnd_b; intro _) | rfl)
def sh10x0 : Sh := { tmps := [(0, .g ([.sl 39]))], mem := [] }
def A10x0 (L : List Lf) : List (Bool × Res) := bnd (F10x0 N (ll L 1) (fun p => some p)) fun q => [(q.isSome, ([.c (.s (q.getD default).1), .c (.i .i64 (q.getD default).2)], []))]
theorem raw10x0 (L : List Lf) : bd Tryz.prog (T28x0 N) (h10x0s1 N).h 10 sh10x0 L = F10x0 N (ll L 1) (fun p => some ([.c (.s p.1), .c (.i .i64 p.2)], [])) := by kernel_rfl
theorem ok10x0 : FnOk Tryz.prog 10 sh10x0 (A10x0 N) :=
 (h10x0s1 N).fn progOk (T28x0_ok N) fun L x hx => ((raw10x0 N L).trans ((bind10x0 N ..).trans (alt1 x hx)))
def T10x0 : Oracle := ext 10 (spSh sh10x0 (A10x0 N)) (T28x0 N)
theorem T10x0_ok : OracleOk Tryz.prog (T10x0 N) := FnOk.to (ok10x0 N) (T28x0_ok N)
def rg91x0 : List (Nat × List Nat) := [(0, [0]), (1, [0])]
def hd91x0 : Hints := []
def h91x0s0 (N : Nat) : Sg Tryz.prog 0 91 := .start hd91x0 rg91x0
def F91x0 (N : Nat) (v0 : Int) (k0 : Bool → R) : R :=
 k0 (bif (decide (v0 ≥ 48)) then (decide (v0 ≤ 57)) else false)
def V91x0 (v0 : Int) : Bool := F91x0 N v0 (fun p => p)
theorem tot91x0 (v0 : Int) (k0 : Bool → R) : F91x0 N v0 k0 = k0 (V91x0 N v0) := by
 unfold V91x0 F91x0
 repeat' (first | rfl | apply cond_k | (apply bnd_k; intro _))
def sh91x0 : Sh := { tmps := [(0, .c (.i .u8))], mem := [] }
def A91x0 (L : List Lf) : List (Bool × Res) := bnd (F91x0 N (li L 0) (fun p => p)) fun q => [(true, ([.c (.b q)], []))]
theorem raw91x0 (L : List Lf) : bd Tryz.prog (T10x0 N) (h91x0s0 N).h 91 sh91x0 L = F91x0 N (li L 0) (fun p => some ([.c (.b p)], [])) := by kernel_rfl
theorem ok91x0 : FnOk Tryz.prog 91 sh91x0 (A91x0 N) :=
 (h91x0s0 N).fn progOk (T10x0_ok N) fun L x hx => ((raw91x0 N L).trans ((tot91x0 N ..).trans (alt0 _ _ hx)))
def T91x0 : Oracle := ext 91 (spSh sh91x0 (A91x0 N)) (T10x0 N)
theorem T91x0_ok : OracleOk Tryz.prog (T91x0 N) := FnOk.to (ok91x0 N) (T10x0_ok N)
def rg73x0 : List (Nat × List Nat) := [(0, [0]), (1, [0]), (2, [8, 7, 0]), (3, [8, 0, 7]), (4, [0, 3, 8, 7]), (5, [4, 8, 7, 0]), (6, [5, 4, 8, 7, 0]), (7, []), (8, [8, 7, 0]), (9, [0])]
def hd73x0 : Hints := [(6, [0, 7, 8], [], []), (19, [0, 4, 5, 7, 8], [], [])]
def h73x0s0 (N : Nat) : Sg Tryz.prog 0 73 := .start hd73x0 rg73x0
def F73x0x19 (w1 : Int) (w2 : Bool) (k0 : Bool → R) : R :=
 bif (!w2) then
  bnd (V91x0 N w1) fun y0 =>
  bnd (bif (bif (!y0) then (w1 != 45) else false) then (w1 != 95) else false) fun y1 =>
  k0 (bif y1 then (w1 != 46) else false)
 else
  k0 false
def V73x0x19 (w1 : Int) (w2 : Bool) : Bool := F73x0x19 N w1 w2 (fun p => p)
theorem tot73x0x19 (w1 : Int) (w2 : Bool) (k0 : Bool → R) : F73x0x19 N w1 w2 k0 = k0 (V73x0x19 N w1 w2) := by
 unfold V73x0x19 F73x0x19
 repeat' (first | rfl | apply cond_k | (apply bnd_k; intro _))
def sh73x0x19 : Sh := { tmps := [(0, .c (.s)), (4, .c (.i .u8)), (5, .c (.b)), (7, .c (.i .i64)), (8, .c (.i .i64))], mem := [] }
def K73x0x19w0 (L : List Lf) (p : Bool) : Ex × St := (.normal, mg (ofSh sh73x0x19 L) [8, 7, 0, 46] [(46, .c (.b p))] [] [])
def A73x0x19 (L : List Lf) : List (Bool × (Ex × St)) := bnd (F73x0x19 N (li L 1) (lb L 2) (fun p => p)) fun q => [(true, K73x0x19w0 L q)]
theorem raw73x0x19 (L : List Lf) : pc Tryz.prog (T91x0 N) (h73x0s0 N).h 0 100 73 19 sh73x0x19 L [8, 7, 0, 46] [] = F73x0x19 N (li L 1) (lb L 2) (fun p => some (K73x0x19w0 L p)) := by kernel_rfl
def h73x0s1 : Sg Tryz.prog 0 73 :=
 (h73x0s0 N).cut (A73x0x19 N) progOk (T91x0_ok N) fun L x hx => (raw73x0x19 N L).trans ((tot73x0x19 N ..).trans (alt0 _ _ hx))
def S73x0x6 (w0 : LB) (w1 : Int) (w2 : Int) (kr : Int → Option R) (k0 : Unit → Option R) (k1 : Unit → Option R) : Option R :=
 bif (decide (w2 < w1)) then
  bif (inB w2 w0.length) then
   bnd (bif (decide (((w0.getD w2.toNat 0).toNat : Int) ≥ 97)) then (decide (((w0.getD w2.toNat 0).toNat : Int) ≤ 122)) else false) fun y0 =>
   bnd (bif y0 then true else (bif (decide (((w0.getD w2.toNat 0).toNat : Int) ≥ 65)) then (decide (((w0.getD w2.toNat 0).toNat : Int) ≤ 90)) else false)) fun y1 =>
   bnd (V73x0x19 N ((w0.getD w2.toNat 0).toNat : Int) y1) fun y2 =>
   bif y2 then
    k0 ()
   else
    kr (IntKind.wrap .i64 (w2 + 1))
  else
   none
 else
  k1 ()
def L73x0x6 (N : Nat) {R : Type} (w0 : LB) (w1 : Int) : Nat → Int → (Unit → Option R) → (Unit → Option R) → Option R
 | 0, _, _, _ => none
 | m + 1, w2, k0, k1 => S73x0x6 N w0 w1 w2 (fun w2 => L73x0x6 N w0 w1 m w2 k0 k1) k0 k1
def G73x0x6 (w0 : LB) (w1 : Int) (w2 : Int) : Option (Sum (Unit) (Unit)) := L73x0x6 N (R := (Sum (Unit) (Unit))) w0 w1 N w2 (fun p => some (.inl p)) (fun p => some (.inr p))
def J73x0x6 (L x : List Lf) (kr : List Lf → Option R) (k0 : Unit → Option R) (k1 : Unit → Option R) : Option R := S73x0x6 N (ls L 0) (li L 1) (li x 0) (fun w2 => kr [.i w2]) k0 k1
theorem sb73x0x6 (L x : List Lf) (kr : List Lf → Option R) (k0 : Unit → Option R) (k1 : Unit → Option R) : J73x0x6 N L x kr k0 k1 = (J73x0x6 N L x (fun y => some (.inl y)) (fun p => some (.inr (.inl p))) (fun p => some (.inr (.inr p)))).bind (sumE kr (sumE k0 k1)) := by
 unfold J73x0x6 S73x0x6
 repeat' (first | with_reducible apply cond_b | (with_reducible apply bnd_b; intro _) | rfl)
def Q73x0x6 (L : List Lf) (m : Nat) (x : List Lf) : Option (Sum (Unit) (Unit)) := L73x0x6 N (R := (Sum (Unit) (Unit))) (ls L 0) (li L 1) m (li x 0) (fun p => some (.inl p)) (fun p => some (.inr p))
def sh73x0x6 : Sh := { tmps := [(0, .c (.s)), (7, .c (.i .i64)), (8, .c (.i .i64))], mem := [] }
def A73x0x6 (L : List Lf) : List (Bool × (Ex × St)) := bnd (Q73x0x6 N L N (pk sh73x0x6 [2] L)) fun q => [((inlB q), (.ret, ⟨[(2, .c (.b false))], []⟩)), ((inrQ q).isSome, ((.exit 0), ⟨[(0, .c (.s (ls L 0)))], []⟩))]
theorem step73x0x6 (m : Nat) (kn : St → Option (Ex × St)) (L x : List Lf) : lpB Tryz.prog (T91x0 N) (h73x0s1 N).h 0 73 6 sh73x0x6 [2] [2, 0] [] (m + 100) kn L x = J73x0x6 N L x (fun y => kn (ofSh sh73x0x6 (mx sh73x0x6 [2] L y))) (fun _ => some (.ret, ⟨[(2, .c (.b false))], []⟩)) (fun _ => some ((.exit 0), ⟨[(0, .c (.s (ls L 0)))], []⟩)) := by kernel_rfl
theorem ql73x0x6 (L : List Lf) (m : Nat) (x : List Lf) : Q73x0x6 N L (m + 1) x = J73x0x6 N L x (Q73x0x6 N L m) (fun p => some (.inl p)) (fun p => some (.inr p)) := by kernel_rfl
def h73x0s2 : Sg Tryz.prog 0 73 :=
 (h73x0s1 N).lp (A73x0x6 N) N progOk (T91x0_ok N) (fun m kn L x => (step73x0x6 N m kn L x).trans (sb73x0x6 N L x _ _ _)) (fun L m x => (ql73x0x6 N L m x).trans (sb73x0x6 N L x (Q73x0x6 N L m) (fun p => some (.inl p)) (fun p => some (.inr p)))) fun L x hx => (altS alt1) x hx
def F73x0 (v0 : LB) (k0 : Bool → Option R) : Option R :=
 bnd (G73x0x6 N v0 (v0.length : Int) 0) fun y0 =>
 bif (inlB y0) then
  k0 false
 else
  bif (inrQ y0).isSome then
   bnd (bif (decide ((v0.length : Int) ≥ 1)) then (decide ((v0.length : Int) ≤ 60)) else false) fun y1 =>
   k0 y1
  else
   none
def G73x0 (v0 : LB) : Option (Bool) := F73x0 N v0 (fun p => some p)
theorem bind73x0 (v0 : LB) (k0 : Bool → Option R) : F73x0 N v0 k0 = (G73x0 N v0).bind k0 := by
 unfold G73x0 F73x0
 repeat' (first | with_reducible apply cond_b | (with_reducible apply bnd_b; intro _) | rfl)
def sh73x0 : Sh := { tmps := [(0, .c (.s))], mem := [] }
def A73x0 (L : List Lf) : List (Bool × Res) := bnd (F73x0 N (ls L 0) (fun p => some p)) fun q => [(q.isSome, ([.c (.b (q.getD default))], []))]
theorem raw73x0 (L : List Lf) : bd Tryz.prog (T91x0 N) (h73x0s2 N).h 73 sh73x0 L = F73x0 N (ls L 0) (fun p => some ([.c (.b p)], [])) := by kernel_rfl
theorem ok73x0 : FnOk Tryz.prog 73 sh73x0 (A73x0 N) :=
 (h73x0s2 N).fn progOk (T91x0_ok N) fun L x hx => ((raw73x0 N L).trans ((bind73x0 N ..).trans (alt1 x hx)))
def T73x0 : Oracle := ext 73 (spSh sh73x0 (A73x0 N)) (T91x0 N)
theorem T73x0_ok : OracleOk Tryz.prog (T73x0 N) := FnOk.to (ok73x0 N) (T91x0_ok N)
def rg74x0 : List (Nat × List Nat) := [(0, [0]), (1, [1]), (2, [3, 1])]
def hd74x0 : Hints := [(4, [1], [1], []), (7, [1, 3], [1], [])]
def h74x0s0 (N : Nat) : Sg Tryz.prog 0 74 := .start hd74x0 rg74x0
def F74x0x4 (w1 w2 w3 : Int) (k0 : Bool → R) : R :=
 bnd (V61x0 N w1 (-100000000) 100000000) fun y0 =>
 bif y0 then
  bnd (V61x0 N w2 (-100000000) 100000000) fun y1 =>
  bif y1 then
   bnd (V61x0 N w3 (-100000) 100000) fun y2 =>
   k0 y2
  else
   k0 false
 else
  k0 false
def V74x0x4 (w1 w2 w3 : Int) : Bool := F74x0x4 N w1 w2 w3 (fun p => p)
theorem tot74x0x4 (w1 w2 w3 : Int) (k0 : Bool → R) : F74x0x4 N w1 w2 w3 k0 = k0 (V74x0x4 N w1 w2 w3) := by
 unfold V74x0x4 F74x0x4
 repeat' (first | rfl | apply cond_k | (apply bnd_k; intro _))
def sh74x0x4 : Sh := { tmps := [(1, .c (.p 1 0))], mem := [(1, .box (rI 7 ([])))] }
def K74x0x4w0 (L : List Lf) (p : Bool) : Ex × St := (.normal, mg (ofSh sh74x0x4 L) [3, 1] [(3, .c (.b p))] [1] [])
def A74x0x4 (L : List Lf) : List (Bool × (Ex × St)) := bnd (F74x0x4 N (li L 1) (li L 2) (li L 3) (fun p => p)) fun q => [(true, K74x0x4w0 L q)]
theorem raw74x0x4 (L : List Lf) : pc Tryz.prog (T73x0 N) (h74x0s0 N).h 0 100 74 4 sh74x0x4 L [3, 1] [1] = F74x0x4 N (li L 1) (li L 2) (li L 3) (fun p => some (K74x0x4w0 L p)) := by kernel_rfl
def h74x0s1 : Sg Tryz.prog 0 74 :=
 (h74x0s0 N).cut (A74x0x4 N) progOk (T73x0_ok N) fun L x hx => (raw74x0x4 N L).trans ((tot74x0x4 N ..).trans (alt0 _ _ hx))
def F74x0x7 (w0 : Bool) (w5 w6 w7 : Int) (k0 : Bool → R) : R :=
 bif w0 then
  bnd (V61x0 N w5 (-1) 300) fun y0 =>
  bif y0 then
   bnd (V61x0 N w6 (-1) 3000) fun y1 =>
   bif y1 then
    bnd (V61x0 N w7 (-1) 300) fun y2 =>
    k0 y2
   else
    k0 false
  else
   k0 false
 else
  k0 false
def V74x0x7 (w0 : Bool) (w5 w6 w7 : Int) : Bool := F74x0x7 N w0 w5 w6 w7 (fun p => p)
theorem tot74x0x7 (w0 : Bool) (w5 w6 w7 : Int) (k0 : Bool → R) : F74x0x7 N w0 w5 w6 w7 k0 = k0 (V74x0x7 N w0 w5 w6 w7) := by
 unfold V74x0x7 F74x0x7
 repeat' (first | rfl | apply cond_k | (apply bnd_k; intro _))
def J74x0x7 (L : List Lf) (k0 : Bool → R) : R := F74x0x7 N (lb L 0) (li L 5) (li L 6) (li L 7) k0
def sh74x0x7 : Sh := { tmps := [(1, .c (.p 1 0)), (3, .c (.b))], mem := [(1, .box (rI 7 ([])))] }
def A74x0x7 (L : List Lf) : List (Bool × (Ex × St)) := bnd (J74x0x7 N L (fun p => p)) fun q => [(true, (.normal, ⟨[(2, .c (.b q))], []⟩))]
theorem raw74x0x7 (L : List Lf) : pc Tryz.prog (T73x0 N) (h74x0s1 N).h 0 100 74 7 sh74x0x7 L [2] [] = J74x0x7 N L (fun p => some (.normal, ⟨[(2, .c (.b p))], []⟩)) := by kernel_rfl
def h74x0s2 : Sg Tryz.prog 0 74 :=
 (h74x0s1 N).cut (A74x0x7 N) progOk (T73x0_ok N) fun L x hx => (raw74x0x7 N L).trans ((tot74x0x7 N ..).trans (alt0 _ _ hx))
def F74x0 (v1 v2 v3 v4 v5 v6 : Int) (k0 : Bool → R) : R :=
 bnd (V74x0x4 N v1 v2 v3) fun y0 =>
 bnd (V74x0x7 N y0 v4 v5 v6) fun y1 =>
 k0 y1
def V74x0 (v1 v2 v3 v4 v5 v6 : Int) : Bool := F74x0 N v1 v2 v3 v4 v5 v6 (fun p => p)
theorem tot74x0 (v1 v2 v3 v4 v5 v6 : Int) (k0 : Bool → R) : F74x0 N v1 v2 v3 v4 v5 v6 k0 = k0 (V74x0 N v1 v2 v3 v4 v5 v6) := by
 unfold V74x0 F74x0
 repeat' (first | rfl | apply cond_k | (apply bnd_k; intro _))
def J74x0 (L : List Lf) (k0 : Bool → R) : R := F74x0 N (li L 1) (li L 2) (li L 3) (li L 4) (li L 5) (li L 6) k0
def sh74x0 : Sh := { tmps := [(0, .g (rI 7 ([])))], mem := [] }
def A74x0 (L : List Lf) : List (Bool × Res) := bnd (J74x0 N L (fun p => p)) fun q => [(true, ([.c (.b q)], []))]
theorem raw74x0 (L : List Lf) : bd Tryz.prog (T73x0 N) (h74x0s2 N).h 74 sh74x0 L = J74x0 N L (fun p => some ([.c (.b p)], [])) := by kernel_rfl
theorem ok74x0 : FnOk Tryz.prog 74 sh74x0 (A74x0 N) :=
 (h74x0s2 N).fn progOk (T73x0_ok N) fun L x hx => ((raw74x0 N L).trans ((tot74x0 N ..).trans (alt0 _ _ hx)))
def T74x0 : Oracle := ext 74 (spSh sh74x0 (A74x0 N)) (T73x0 N)
theorem T74x0_ok : OracleOk Tryz.prog (T74x0 N) := FnOk.to (ok74x0 N) (T73x0_ok N)
def rg46x0 : List (Nat × List Nat) := [(0, [0]), (1, [1]), (2, [3, 1]), (3, [1, 3]), (4, [])]
def hd46x0 : Hints := []
def h46x0s0 (N : Nat) : Sg Tryz.prog 0 46 := .start hd46x0 rg46x0
def F46x0 (N : Nat) (v4 : LD) (k0 : Int → Option R) : Option R :=
 bif (decide ((v4.length : Int) > 0)) then
  bif (inB (IntKind.wrap .i64 ((v4.length : Int) - 1)) v4.length) then
   bnd ((v4.getD (IntKind.wrap .i64 ((v4.length : Int) - 1)).toNat (.i 0)) : D) fun y0 =>
   k0 (y0.cell 0).toI
  else
   none
 else
  k0 0
def G46x0 (v4 : LD) : Option (Int) := F46x0 N v4 (fun p => some p)
theorem bind46x0 (v4 : LD) (k0 : Int → Option R) : F46x0 N v4 k0 = (G46x0 N v4).bind k0 := by
 unfold G46x0 F46x0
 repeat' (first | with_reducible apply cond_b | (with_reducible apply bnd_b; intro _) | rfl)
def sh46x0 : Sh := { tmps := [(0, .g (.s :: [.i .i64, .i .i64, .sl 46, .sl 110, .sl 9]))], mem := [] }
def A46x0 (L : List Lf) : List (Bool × Res) := bnd (F46x0 N (ll L 4) (fun p => some p)) fun q => [(q.isSome, ([.c (.i .i64 (q.getD default))], []))]
theorem raw46x0 (L : List Lf) : bd Tryz.prog (T74x0 N) (h46x0s0 N).h 46 sh46x0 L = F46x0 N (ll L 4) (fun p => some ([.c (.i .i64 p)], [])) := by kernel_rfl
theorem ok46x0 : FnOk Tryz.prog 46 sh46x0 (A46x0 N) :=
 (h46x0s0 N).fn progOk (T74x0_ok N) fun L x hx => ((raw46x0 N L).trans ((bind46x0 N ..).trans (alt1 x hx)))
def T46x0 : Oracle := ext 46 (spSh sh46x0 (A46x0 N)) (T74x0 N)
theorem T46x0_ok : OracleOk Tryz.prog (T46x0 N) := FnOk.to (ok46x0 N) (T74x0_ok N)
def rg75x0 : List (Nat × List Nat) := [(0, [0]), (1, [0]), (2, [6, 5, 0]), (3, [6, 0, 5]), (4, [0, 3, 6, 5]), (5, []), (6, [6, 5, 0]), (7, [0])]
def hd75x0 : Hints := [(6, [0, 5, 6], [], [])]
def h75x0s0 (N : Nat) : Sg Tryz.prog 0 75 := .start hd75x0 rg75x0
def S75x0x6 (w0 : LB) (w1 : Int) (w2 : Int) (kr : Int → Option R) (k0 : Unit → Option R) (k1 : Unit → Option R) : Option R :=
 bif (decide (w2 < w1)) then
  bif (inB w2 w0.length) then
   bnd (V61x0 N (IntKind.wrap .i64 ((w0.getD w2.toNat 0).toNat : Int)) 32 126) fun y0 =>
   bif (!y0) then
    k0 ()
   else
    kr (IntKind.wrap .i64 (w2 + 1))
  else
   none
 else
  k1 ()
def L75x0x6 (N : Nat) {R : Type} (w0 : LB) (w1 : Int) : Nat → Int → (Unit → Option R) → (Unit → Option R) → Option R
 | 0, _, _, _ => none
 | m + 1, w2, k0, k1 => S75x0x6 N w0 w1 w2 (fun w2 => L75x0x6 N w0 w1 m w2 k0 k1) k0 k1
def G75x0x6 (w0 : LB) (w1 : Int) (w2 : Int) : Option (Sum (Unit) (Unit)) := L75x0x6 N (R := (Sum (Unit) (Unit))) w0 w1 N w2 (fun p => some (.inl p)) (fun p => some (.inr p))
def J75x0x6 (L x : List Lf) (kr : List Lf → Option R) (k0 : Unit → Option R) (k1 : Unit → Option R) : Option R := S75x0x6 N (ls L 0) (li L 1) (li x 0) (fun w2 => kr [.i w2]) k0 k1
theorem sb75x0x6 (L x : List Lf) (kr : List Lf → Option R) (k0 : Unit → Option R) (k1 : Unit → Option R) : J75x0x6 N L x kr k0 k1 = (J75x0x6 N L x (fun y => some (.inl y)) (fun p => some (.inr (.inl p))) (fun p => some (.inr (.inr p)))).bind (sumE kr (sumE k0 k1)) := by
 unfold J75x0x6 S75x0x6
 repeat' (first | with_reducible apply cond_b | (with_reducible apply bnd_b; intro _) | rfl)
def Q75x0x6 (L : List Lf) (m : Nat) (x : List Lf) : Option (Sum (Unit) (Unit)) := L75x0x6 N (R := (Sum (Unit) (Unit))) (ls L 0) (li L 1) m (li x 0) (fun p => some (.inl p)) (fun p => some (.inr p))
def sh75x0x6 : Sh := { tmps := [(0, .c (.s)), (5, .c (.i .i64)), (6, .c (.i .i64))], mem := [] }
def A75x0x6 (L : List Lf) : List (Bool × (Ex × St)) := bnd (Q75x0x6 N L N (pk sh75x0x6 [2] L)) fun q => [((inlB q), (.ret, ⟨[(2, .c (.b false))], []⟩)), ((inrQ q).isSome, ((.exit 0), ⟨[(0, .c (.s (ls L 0)))], []⟩))]
theorem step75x0x6 (m : Nat) (kn : St → Option (Ex × St)) (L x : List Lf) : lpB Tryz.prog (T46x0 N) (h75x0s0 N).h 0 75 6 sh75x0x6 [2] [2, 0] [] (m + 100) kn L x = J75x0x6 N L x (fun y => kn (ofSh sh75x0x6 (mx sh75x0x6 [2] L y))) (fun _ => some (.ret, ⟨[(2, .c (.b false))], []⟩)) (fun _ => some ((.exit 0), ⟨[(0, .c (.s (ls L 0)))], []⟩)) := by kernel_rfl
theorem ql75x0x6 (L : List Lf) (m : Nat) (x : List Lf) : Q75x0x6 N L (m + 1) x = J75x0x6 N L x (Q75x0x6 N L m) (fun p => some (.inl p)) (fun p => some (.inr p)) := by kernel_rfl
def h75x0s1 : Sg Tryz.prog 0 75 :=
 (h75x0s0 N).lp (A75x0x6 N) N progOk (T46x0_ok N) (fun m kn L x => (step75x0x6 N m kn L x).trans (sb75x0x6 N L x _ _ _)) (fun L m x => (ql75x0x6 N L m x).trans (sb75x0x6 N L x (Q75x0x6 N L m) (fun p => some (.inl p)) (fun p => some (.inr p)))) fun L x hx => (altS alt1) x hx
def F75x0 (v0 : LB) (k0 : Bool → Option R) : Option R :=
 bnd (G75x0x6 N v0 (v0.length : Int) 0) fun y0 =>
 bif (inlB y0) then
  k0 false
 else
  bif (inrQ y0).isSome then
   k0 (decide ((v0.length : Int) ≤ 60))
  else
   none
def G75x0 (v0 : LB) : Option (Bool) := F75x0 N v0 (fun p => some p)
theorem bind75x0 (v0 : LB) (k0 : Bool → Option R) : F75x0 N v0 k0 = (G75x0 N v0).bind k0 := by
 unfold G75x0 F75x0
 repeat' (first | with_reducible apply cond_b | (with_reducible apply bnd_b; intro _) | rfl)
def sh75x0 : Sh := { tmps := [(0, .c (.s))], mem := [] }
def A75x0 (L : List Lf) : List (Bool × Res) := bnd (F75x0 N (ls L 0) (fun p => some p)) fun q => [(q.isSome, ([.c (.b (q.getD default))], []))]
theorem raw75x0 (L : List Lf) : bd Tryz.prog (T46x0 N) (h75x0s1 N).h 75 sh75x0 L = F75x0 N (ls L 0) (fun p => some ([.c (.b p)], [])) := by kernel_rfl
theorem ok75x0 : FnOk Tryz.prog 75 sh75x0 (A75x0 N) :=
 (h75x0s1 N).fn progOk (T46x0_ok N) fun L x hx => ((raw75x0 N L).trans ((bind75x0 N ..).trans (alt1 x hx)))
def T75x0 : Oracle := ext 75 (spSh sh75x0 (A75x0 N)) (T46x0 N)
theorem T75x0_ok : OracleOk Tryz.prog (T75x0 N) := FnOk.to (ok75x0 N) (T46x0_ok N)
def rg45x0 : List (Nat × List Nat) := [(0, [0]), (1, [1]), (3, [1]), (5, [1]), (7, [1]), (8, []), (6, []), (4, []), (2, []), (9, [1]), (10, [45, 44, 43, 1]), (11, [45, 43, 1, 44]), (12, [3, 4, 1, 45, 44, 43]), (13, [3, 4, 1, 45, 44, 43]), (15, [4, 1, 45, 44, 43]), (16, []), (14, []), (17, [45, 44, 43, 1]), (18, [1]), (19, [1, 5]), (20, [95, 94, 93, 5, 1]), (21, [95, 93, 5, 1, 94]), (22, [7, 5, 6, 1, 95, 94, 93]), (24, [6, 7, 1, 95, 94, 93, 5]), (26, [7, 95, 94, 93, 5, 1]), (27, []), (25, []), (23, []), (28, [95, 94, 93, 5, 1]), (29, [1]), (30, [141, 140, 139, 1]), (31, [141, 139, 1, 140]), (32, [9, 8, 1, 141, 140, 139]), (34, [8, 9, 1, 141, 140, 139]), (35, []), (33, []), (36, [141, 140, 139, 1]), (37, [])]
def hd45x0 : Hints := [(30, [1, 43, 44, 45], [1], []), (40, [1, 3, 4, 43, 44, 45], [1, 4], []), (39002, [1, 3, 4, 43, 44, 45, 50], [1, 4], []), (46, [1, 4, 43, 44, 45], [1, 4], []), (60, [1, 5, 93, 94, 95], [1], []), (73, [1, 5, 6, 7, 93, 94, 95], [1, 7], []), (90, [1, 139, 140, 141], [1], [])]
def h45x0s0 (N : Nat) : Sg Tryz.prog 0 45 := .start hd45x0 rg45x0
def F45x0x40 (N : Nat) (w0 : Int) (w9 : LD) (w14 : Int) (k0 : Bool → Option R) : Option R :=
 bif (decide (w0 > 0)) then
  bif (inB (IntKind.wrap .i64 (w0 - 1)) w9.length) then
   bnd ((w9.getD (IntKind.wrap .i64 (w0 - 1)).toNat (.i 0)).cell 0).toI fun y0 =>
   k0 (decide (w14 ≤ y0))
  else
   none
 else
  k0 false
def G45x0x40 (w0 : Int) (w9 : LD) (w14 : Int) : Option (Bool) := F45x0x40 N w0 w9 w14 (fun p => some p)
theorem bind45x0x40 (w0 : Int) (w9 : LD) (w14 : Int) (k0 : Bool → Option R) : F45x0x40 N w0 w9 w14 k0 = (G45x0x40 N w0 w9 w14).bind k0 := by
 unfold G45x0x40 F45x0x40
 repeat' (first | with_reducible apply cond_b | (with_reducible apply bnd_b; intro _) | rfl)
def sh45x0x40 : Sh := { tmps := [(1, .c (.p 1 0)), (3, .c (.i .i64)), (4, .c (.p 4 0)), (43, .c (.sl 46)), (44, .c (.i .i64)), (45, .c (.i .i64))], mem := [(1, .box (.s :: [.i .i64, .i .i64, .sl 46, .sl 110, .sl 9])), (4, .box (rI 7 ([])))] }
def K45x0x40w0 (L : List Lf) (p : Bool) : Ex × St := (.normal, mg (ofSh sh45x0x40 L) [4, 1, 45, 44, 43, 50] [(50, .c (.b p))] [4, 1] [])
def A45x0x40 (L : List Lf) : List (Bool × (Ex × St)) := bnd (F45x0x40 N (li L 0) (ll L 9) (li L 14) (fun p => some p)) fun q => [(q.isSome, K45x0x40w0 L (q.getD default))]
theorem raw45x0x40 (L : List Lf) : pc Tryz.prog (T75x0 N) (h45x0s0 N).h 0 100 45 40 sh45x0x40 L [4, 1, 45, 44, 43, 50] [4, 1] = F45x0x40 N (li L 0) (ll L 9) (li L 14) (fun p => some (K45x0x40w0 L p)) := by kernel_rfl
def h45x0s1 : Sg Tryz.prog 0 45 :=
 (h45x0s0 N).cut (A45x0x40 N) progOk (T75x0_ok N) fun L x hx => (raw45x0x40 N L).trans ((bind45x0x40 N ..).trans (alt1 x hx))
def F45x0x39002 (w0 : Int) (w5 : Bool) (w10 : LD) (w15 : Int) (k0 : Bool → Option R) : Option R :=
 bif w5 then
  k0 true
 else
  bnd (G45x0x40 N w0 w10 w15) fun y0 =>
  bif y0.isSome then
   k0 (y0.getD default)
  else
   none
def G45x0x39002 (w0 : Int) (w5 : Bool) (w10 : LD) (w15 : Int) : Option (Bool) := F45x0x39002 N w0 w5 w10 w15 (fun p => some p)
theorem bind45x0x39002 (w0 : Int) (w5 : Bool) (w10 : LD) (w15 : Int) (k0 : Bool → Option R) : F45x0x39002 N w0 w5 w10 w15 k0 = (G45x0x39002 N w0 w5 w10 w15).bind k0 := by
 unfold G45x0x39002 F45x0x39002
 repeat' (first | with_reducible apply cond_b | (with_reducible apply bnd_b; intro _) | rfl)
def J45x0x39002 (L : List Lf) (k0 : Bool → Option R) : Option R := F45x0x39002 N (li L 0) (lb L 5) (ll L 10) (li L 15) k0
def sh45x0x39002 : Sh := { tmps := [(1, .c (.p 1 0)), (3, .c (.i .i64)), (4, .c (.p 4 0)), (43, .c (.sl 46)), (44, .c (.i .i64)), (45, .c (.i .i64)), (50, .c (.b))], mem := [(1, .box (.s :: [.i .i64, .i .i64, .sl 46, .sl 110, .sl 9])), (4, .box (rI 7 ([])))] }
def K45x0x39002w0 (L : List Lf) (p : Bool) : Ex × St := (.normal, mg (ofSh sh45x0x39002 L) [4, 1, 45, 44, 43, 50] [(50, .c (.b p))] [4, 1] [])
def A45x0x39002 (L : List Lf) : List (Bool × (Ex × St)) := bnd (J45x0x39002 N L (fun p => some p)) fun q => [(q.isSome, K45x0x39002w0 L (q.getD default))]
theorem raw45x0x39002 (L : List Lf) : pc Tryz.prog (T75x0 N) (h45x0s1 N).h 0 100 45 39002 sh45x0x39002 L [4, 1, 45, 44, 43, 50] [4, 1] = J45x0x39002 N L (fun p => some (K45x0x39002w0 L p)) := by kernel_rfl
def h45x0s2 : Sg Tryz.prog 0 45 :=
 (h45x0s1 N).cut (A45x0x39002 N) progOk (T75x0_ok N) fun L x hx => (raw45x0x39002 N L).trans ((bind45x0x39002 N ..).trans (alt1 x hx))
def F45x0x46 (w6 w13 w14 w15 w16 w17 w18 w19 : Int) (k0 : Bool → R) : R :=
 bnd (bif (decide (w13 > 1000000)) then true else (decide ((IntKind.wrap .i64 (w6 + w13)) > 86399999999))) fun y0 =>
 bif y0 then
  k0 true
 else
  bnd (V74x0 N w14 w15 w16 w17 w18 w19) fun y1 =>
  k0 (!y1)
def V45x0x46 (w6 w13 w14 w15 w16 w17 w18 w19 : Int) : Bool := F45x0x46 N w6 w13 w14 w15 w16 w17 w18 w19 (fun p => p)
theorem tot45x0x46 (w6 w13 w14 w15 w16 w17 w18 w19 : Int) (k0 : Bool → R) : F45x0x46 N w6 w13 w14 w15 w16 w17 w18 w19 k0 = k0 (V45x0x46 N w6 w13 w14 w15 w16 w17 w18 w19) := by
 unfold V45x0x46 F45x0x46
 repeat' (first | rfl | apply cond_k | (apply bnd_k; intro _))
def J45x0x46 (L : List Lf) (k0 : Bool → R) : R := F45x0x46 N (li L 6) (li L 13) (li L 14) (li L 15) (li L 16) (li L 17) (li L 18) (li L 19) k0
def sh45x0x46 : Sh := { tmps := [(1, .c (.p 1 0)), (4, .c (.p 4 0)), (43, .c (.sl 46)), (44, .c (.i .i64)), (45, .c (.i .i64))], mem := [(1, .box (.s :: [.i .i64, .i .i64, .sl 46, .sl 110, .sl 9])), (4, .box (rI 7 ([])))] }
def K45x0x46w0 (L : List Lf) (p : Bool) : Ex × St := (.normal, mg (ofSh sh45x0x46 L) [45, 44, 43, 1, 72] [(72, .c (.b p))] [1] [])
def A45x0x46 (L : List Lf) : List (Bool × (Ex × St)) := bnd (J45x0x46 N L (fun p => p)) fun q => [(true, K45x0x46w0 L q)]
theorem raw45x0x46 (L : List Lf) : pc Tryz.prog (T75x0 N) (h45x0s2 N).h 0 100 45 46 sh45x0x46 L [45, 44, 43, 1, 72] [1] = J45x0x46 N L (fun p => some (K45x0x46w0 L p)) := by kernel_rfl
def h45x0s3 : Sg Tryz.prog 0 45 :=
 (h45x0s2 N).cut (A45x0x46 N) progOk (T75x0_ok N) fun L x hx => (raw45x0x46 N L).trans ((tot45x0x46 N ..).trans (alt0 _ _ hx))
def S45x0x30 (w1 : LD) (w2 w6 : Int) (w8 : LD) (w3 : Int) (kr : Int → Option R) (k0 : Int → Option R) (k1 : Unit → Option R) : Option R :=
 bif (decide (w3 < w2)) then
  bif (inB w3 w1.length) then
   bnd (bif (w3 == 0) then (((w1.getD w3.toNat (.i 0)).cell 0).toI != 0) else false) fun y0 =>
   bnd (G45x0x39002 N w3 y0 w8 ((w1.getD w3.toNat (.i 0)).cell 0).toI) fun y1 =>
   bif y1.isSome then
    bif (y1.getD default) then
     k0 10
    else
     bnd (V45x0x46 N w6 ((w1.getD w3.toNat (.i 0)).cell 0).toI ((w1.getD w3.toNat (.i 0)).cell 1).toI ((w1.getD w3.toNat (.i 0)).cell 2).toI ((w1.getD w3.toNat (.i 0)).cell 3).toI ((w1.getD w3.toNat (.i 0)).cell 4).toI ((w1.getD w3.toNat (.i 0)).cell 5).toI ((w1.getD w3.toNat (.i 0)).cell 6).toI) fun y2 =>
     bif y2 then
      k0 9
     else
      kr (IntKind.wrap .i64 (w3 + 1))
   else
    none
  else
   none
 else
  k1 ()
def L45x0x30 (N : Nat) {R : Type} (w1 : LD) (w2 w6 : Int) (w8 : LD) : Nat → Int → (Int → Option R) → (Unit → Option R) → Option R
 | 0, _, _, _ => none
 | m + 1, w3, k0, k1 => S45x0x30 N w1 w2 w6 w8 w3 (fun w3 => L45x0x30 N w1 w2 w6 w8 m w3 k0 k1) k0 k1
def G45x0x30 (w1 : LD) (w2 w6 : Int) (w8 : LD) (w3 : Int) : Option (Sum (Int) (Unit)) := L45x0x30 N (R := (Sum (Int) (Unit))) w1 w2 w6 w8 N w3 (fun p => some (.inl p)) (fun p => some (.inr p))
def J45x0x30 (L x : List Lf) (kr : List Lf → Option R) (k0 : Int → Option R) (k1 : Unit → Option R) : Option R := S45x0x30 N (ll L 1) (li L 2) (li L 6) (ll L 8) (li x 0) (fun w3 => kr [.i w3]) k0 k1
theorem sb45x0x30 (L x : List Lf) (kr : List Lf → Option R) (k0 : Int → Option R) (k1 : Unit → Option R) : J45x0x30 N L x kr k0 k1 = (J45x0x30 N L x (fun y => some (.inl y)) (fun p => some (.inr (.inl p))) (fun p => some (.inr (.inr p)))).bind (sumE kr (sumE k0 k1)) := by
 unfold J45x0x30 S45x0x30
 repeat' (first | with_reducible apply cond_b | (with_reducible apply bnd_b; intro _) | rfl)
def Q45x0x30 (L : List Lf) (m : Nat) (x : List Lf) : Option (Sum (Int) (Unit)) := L45x0x30 N (R := (Sum (Int) (Unit))) (ll L 1) (li L 2) (li L 6) (ll L 8) m (li x 0) (fun p => some (.inl p)) (fun p => some (.inr p))
def sh45x0x30 : Sh := { tmps := [(1, .c (.p 1 0)), (43, .c (.sl 46)), (44, .c (.i .i64)), (45, .c (.i .i64))], mem := [(1, .box (.s :: [.i .i64, .i .i64, .sl 46, .sl 110, .sl 9]))] }
def K45x0x30w0 (L : List Lf) (p : Int) : Ex × St := (.ret, mg (ofSh sh45x0x30 L) [2] [(2, .c (.i .i64 p))] [1] [])
def A45x0x30 (L : List Lf) : List (Bool × (Ex × St)) := bnd (Q45x0x30 N L N (pk sh45x0x30 [3] L)) fun q => [((inlB q), K45x0x30w0 L (inlV q)), ((inrQ q).isSome, ((.exit 1), mg (ofSh sh45x0x30 L) [1] [] [1] []))]
theorem step45x0x30 (m : Nat) (kn : St → Option (Ex × St)) (L x : List Lf) : lpB Tryz.prog (T75x0 N) (h45x0s3 N).h 0 45 30 sh45x0x30 [3] [2, 1] [1] (m + 100) kn L x = J45x0x30 N L x (fun y => kn (ofSh sh45x0x30 (mx sh45x0x30 [3] L y))) (fun p => some (K45x0x30w0 L p)) (fun _ => some ((.exit 1), mg (ofSh sh45x0x30 L) [1] [] [1] [])) := by kernel_rfl
theorem ql45x0x30 (L : List Lf) (m : Nat) (x : List Lf) : Q45x0x30 N L (m + 1) x = J45x0x30 N L x (Q45x0x30 N L m) (fun p => some (.inl p)) (fun p => some (.inr p)) := by kernel_rfl
def h45x0s4 : Sg Tryz.prog 0 45 :=
 (h45x0s3 N).lp (A45x0x30 N) N progOk (T75x0_ok N) (fun m kn L x => (step45x0x30 N m kn L x).trans (sb45x0x30 N L x _ _ _)) (fun L m x => (ql45x0x30 N L m x).trans (sb45x0x30 N L x (Q45x0x30 N L m) (fun p => some (.inl p)) (fun p => some (.inr p)))) fun L x hx => (altS alt1) x hx
def F45x0x73 (N : Nat) (w1 : Int) (w12 : LD) (w15 : Int) (k0 : Bool → Option R) : Option R :=
 bif (decide (w1 > 0)) then
  bif (inB (IntKind.wrap .i64 (w1 - 1)) w12.length) then
   bnd ((w12.getD (IntKind.wrap .i64 (w1 - 1)).toNat (.i 0)).cell 1).toI fun y0 =>
   k0 (decide (w15 < y0))
  else
   none
 else
  k0 false
def G45x0x73 (w1 : Int) (w12 : LD) (w15 : Int) : Option (Bool) := F45x0x73 N w1 w12 w15 (fun p => some p)
theorem bind45x0x73 (w1 : Int) (w12 : LD) (w15 : Int) (k0 : Bool → Option R) : F45x0x73 N w1 w12 w15 k0 = (G45x0x73 N w1 w12 w15).bind k0 := by
 unfold G45x0x73 F45x0x73
 repeat' (first | with_reducible apply cond_b | (with_reducible apply bnd_b; intro _) | rfl)
def sh45x0x73 : Sh := { tmps := [(1, .c (.p 1 0)), (5, .c (.i .i64)), (6, .c (.i .i64)), (7, .c (.p 7 0)), (93, .c (.sl 110)), (94, .c (.i .i64)), (95, .c (.i .i64))], mem := [(1, .box (.s :: [.i .i64, .i .i64, .sl 46, .sl 110, .sl 9])), (7, .box ([.i .i64, .i .i64, .s]))] }
def K45x0x73w0 (L : List Lf) (p : Bool) : Ex × St := (.normal, mg (ofSh sh45x0x73 L) [7, 95, 94, 93, 5, 1, 117] [(117, .c (.b p))] [7, 1] [])
def A45x0x73 (L : List Lf) : List (Bool × (Ex × St)) := bnd (F45x0x73 N (li L 1) (ll L 12) (li L 15) (fun p => some p)) fun q => [(q.isSome, K45x0x73w0 L (q.getD default))]
theorem raw45x0x73 (L : List Lf) : pc Tryz.prog (T75x0 N) (h45x0s4 N).h 0 100 45 73 sh45x0x73 L [7, 95, 94, 93, 5, 1, 117] [7, 1] = F45x0x73 N (li L 1) (ll L 12) (li L 15) (fun p => some (K45x0x73w0 L p)) := by kernel_rfl
def h45x0s5 : Sg Tryz.prog 0 45 :=
 (h45x0s4 N).cut (A45x0x73 N) progOk (T75x0_ok N) fun L x hx => (raw45x0x73 N L).trans ((bind45x0x73 N ..).trans (alt1 x hx))
def S45x0x60 (w0 : Int) (w2 : LD) (w3 : Int) (w11 : LD) (w4 : Int) (kr : Int → Option R) (k0 : Int → Option R) (k1 : Unit → Option R) : Option R :=
 bif (decide (w4 < w3)) then
  bif (inB w4 w2.length) then
   bnd (bif (decide (((w2.getD w4.toNat (.i 0)).cell 0).toI < 0)) then true else (decide (((w2.getD w4.toNat (.i 0)).cell 0).toI ≥ ((w2.getD w4.toNat (.i 0)).cell 1).toI))) fun y0 =>
   bnd (bif y0 then true else (decide (((w2.getD w4.toNat (.i 0)).cell 1).toI > w0))) fun y1 =>
   bif y1 then
    k0 9
   else
    bnd (G45x0x73 N w4 w11 ((w2.getD w4.toNat (.i 0)).cell 0).toI) fun y2 =>
    bif y2.isSome then
     bif (y2.getD default) then
      k0 10
     else
      bnd (G75x0 N ((w2.getD w4.toNat (.i 0)).cell 2).toS) fun y3 =>
      bif y3.isSome then
       bif (!(y3.getD default)) then
        k0 8
       else
        kr (IntKind.wrap .i64 (w4 + 1))
      else
       none
    else
     none
  else
   none
 else
  k1 ()
def L45x0x60 (N : Nat) {R : Type} (w0 : Int) (w2 : LD) (w3 : Int) (w11 : LD) : Nat → Int → (Int → Option R) → (Unit → Option R) → Option R
 | 0, _, _, _ => none
 | m + 1, w4, k0, k1 => S45x0x60 N w0 w2 w3 w11 w4 (fun w4 => L45x0x60 N w0 w2 w3 w11 m w4 k0 k1) k0 k1
def G45x0x60 (w0 : Int) (w2 : LD) (w3 : Int) (w11 : LD) (w4 : Int) : Option (Sum (Int) (Unit)) := L45x0x60 N (R := (Sum (Int) (Unit))) w0 w2 w3 w11 N w4 (fun p => some (.inl p)) (fun p => some (.inr p))
def J45x0x60 (L x : List Lf) (kr : List Lf → Option R) (k0 : Int → Option R) (k1 : Unit → Option R) : Option R := S45x0x60 N (li L 0) (ll L 2) (li L 3) (ll L 11) (li x 0) (fun w4 => kr [.i w4]) k0 k1
theorem sb45x0x60 (L x : List Lf) (kr : List Lf → Option R) (k0 : Int → Option R) (k1 : Unit → Option R) : J45x0x60 N L x kr k0 k1 = (J45x0x60 N L x (fun y => some (.inl y)) (fun p => some (.inr (.inl p))) (fun p => some (.inr (.inr p)))).bind (sumE kr (sumE k0 k1)) := by
 unfold J45x0x60 S45x0x60
 repeat' (first | with_reducible apply cond_b | (with_reducible apply bnd_b; intro _) | rfl)
def Q45x0x60 (L : List Lf) (m : Nat) (x : List Lf) : Option (Sum (Int) (Unit)) := L45x0x60 N (R := (Sum (Int) (Unit))) (li L 0) (ll L 2) (li L 3) (ll L 11) m (li x 0) (fun p => some (.inl p)) (fun p => some (.inr p))
def sh45x0x60 : Sh := { tmps := [(1, .c (.p 1 0)), (5, .c (.i .i64)), (93, .c (.sl 110)), (94, .c (.i .i64)), (95, .c (.i .i64))], mem := [(1, .box (.s :: [.i .i64, .i .i64, .sl 46, .sl 110, .sl 9]))] }
def K45x0x60w0 (L : List Lf) (p : Int) : Ex × St := (.ret, mg (ofSh sh45x0x60 L) [2] [(2, .c (.i .i64 p))] [1] [])
def A45x0x60 (L : List Lf) : List (Bool × (Ex × St)) := bnd (Q45x0x60 N L N (pk sh45x0x60 [4] L)) fun q => [((inlB q), K45x0x60w0 L (inlV q)), ((inrQ q).isSome, ((.exit 4), mg (ofSh sh45x0x60 L) [1] [] [1] []))]
theorem step45x0x60 (m : Nat) (kn : St → Option (Ex × St)) (L x : List Lf) : lpB Tryz.prog (T75x0 N) (h45x0s5 N).h 0 45 60 sh45x0x60 [4] [2, 1] [1] (m + 100) kn L x = J45x0x60 N L x (fun y => kn (ofSh sh45x0x60 (mx sh45x0x60 [4] L y))) (fun p => some (K45x0x60w0 L p)) (fun _ => some ((.exit 4), mg (ofSh sh45x0x60 L) [1] [] [1] [])) := by kernel_rfl
theorem ql45x0x60 (L : List Lf) (m : Nat) (x : List Lf) : Q45x0x60 N L (m + 1) x = J45x0x60 N L x (Q45x0x60 N L m) (fun p => some (.inl p)) (fun p => some (.inr p)) := by kernel_rfl
def h45x0s6 : Sg Tryz.prog 0 45 :=
 (h45x0s5 N).lp (A45x0x60 N) N progOk (T75x0_ok N) (fun m kn L x => (step45x0x60 N m kn L x).trans (sb45x0x60 N L x _ _ _)) (fun L m x => (ql45x0x60 N L m x).trans (sb45x0x60 N L x (Q45x0x60 N L m) (fun p => some (.inl p)) (fun p => some (.inr p)))) fun L x hx => (altS alt1) x hx
def S45x0x90 (w1 : LD) (w2 : Int) (w12 : LD) (w3 : Int) (kr : Int → Option R) (k0 : Int → Option R) (k1 : Unit → Option R) : Option R :=
 bif (decide (w3 < w2)) then
  bif (inB w3 w1.length) then
   bnd (G73x0 N (w1.getD w3.toNat (.i 0)).toS) fun y0 =>
   bif y0.isSome then
    bif (!(y0.getD default)) then
     k0 8
    else
     bif (bif (inB (IntKind.wrap .i64 (w3 - 1)) w12.length) then true else (!((decide (w3 > 0)) == true))) then
      bnd (bif (decide (w3 > 0)) then ((Op.bytesLess (w1.getD w3.toNat (.i 0)).toS (w12.getD (IntKind.wrap .i64 (w3 - 1)).toNat (.i 0)).toS) || ((w1.getD w3.toNat (.i 0)).toS == (w12.getD (IntKind.wrap .i64 (w3 - 1)).toNat (.i 0)).toS)) else false) fun y1 =>
      bif y1 then
       k0 10
      else
       kr (IntKind.wrap .i64 (w3 + 1))
     else
      none
   else
    none
  else
   none
 else
  k1 ()
def L45x0x90 (N : Nat) {R : Type} (w1 : LD) (w2 : Int) (w12 : LD) : Nat → Int → (Int → Option R) → (Unit → Option R) → Option R
 | 0, _, _, _ => none
 | m + 1, w3, k0, k1 => S45x0x90 N w1 w2 w12 w3 (fun w3 => L45x0x90 N w1 w2 w12 m w3 k0 k1) k0 k1
def G45x0x90 (w1 : LD) (w2 : Int) (w12 : LD) (w3 : Int) : Option (Sum (Int) (Unit)) := L45x0x90 N (R := (Sum (Int) (Unit))) w1 w2 w12 N w3 (fun p => some (.inl p)) (fun p => some (.inr p))
def J45x0x90 (L x : List Lf) (kr : List Lf → Option R) (k0 : Int → Option R) (k1 : Unit → Option R) : Option R := S45x0x90 N (ll L 1) (li L 2) (ll L 12) (li x 0) (fun w3 => kr [.i w3]) k0 k1
theorem sb45x0x90 (L x : List Lf) (kr : List Lf → Option R) (k0 : Int → Option R) (k1 : Unit → Option R) : J45x0x90 N L x kr k0 k1 = (J45x0x90 N L x (fun y => some (.inl y)) (fun p => some (.inr (.inl p))) (fun p => some (.inr (.inr p)))).bind (sumE kr (sumE k0 k1)) := by
 unfold J45x0x90 S45x0x90
 repeat' (first | with_reducible apply cond_b | (with_reducible apply bnd_b; intro _) | rfl)
def Q45x0x90 (L : List Lf) (m : Nat) (x : List Lf) : Option (Sum (Int) (Unit)) := L45x0x90 N (R := (Sum (Int) (Unit))) (ll L 1) (li L 2) (ll L 12) m (li x 0) (fun p => some (.inl p)) (fun p => some (.inr p))
def sh45x0x90 : Sh := { tmps := [(1, .c (.p 1 0)), (139, .c (.sl 9)), (140, .c (.i .i64)), (141, .c (.i .i64))], mem := [(1, .box (.s :: [.i .i64, .i .i64, .sl 46, .sl 110, .sl 9]))] }
def A45x0x90 (L : List Lf) : List (Bool × (Ex × St)) := bnd (Q45x0x90 N L N (pk sh45x0x90 [3] L)) fun q => [((inlB q), (.ret, ⟨[(2, .c (.i .i64 (inlV q)))], []⟩)), ((inrQ q).isSome, ((.exit 7), ⟨[], []⟩))]
theorem step45x0x90 (m : Nat) (kn : St → Option (Ex × St)) (L x : List Lf) : lpB Tryz.prog (T75x0 N) (h45x0s6 N).h 0 45 90 sh45x0x90 [3] [2] [] (m + 100) kn L x = J45x0x90 N L x (fun y => kn (ofSh sh45x0x90 (mx sh45x0x90 [3] L y))) (fun p => some (.ret, ⟨[(2, .c (.i .i64 p))], []⟩)) (fun _ => some ((.exit 7), ⟨[], []⟩)) := by kernel_rfl
theorem ql45x0x90 (L : List Lf) (m : Nat) (x : List Lf) : Q45x0x90 N L (m + 1) x = J45x0x90 N L x (Q45x0x90 N L m) (fun p => some (.inl p)) (fun p => some (.inr p)) := by kernel_rfl
def h45x0s7 : Sg Tryz.prog 0 45 :=
 (h45x0s6 N).lp (A45x0x90 N) N progOk (T75x0_ok N) (fun m kn L x => (step45x0x90 N m kn L x).trans (sb45x0x90 N L x _ _ _)) (fun L m x => (ql45x0x90 N L m x).trans (sb45x0x90 N L x (Q45x0x90 N L m) (fun p => some (.inl p)) (fun p => some (.inr p)))) fun L x hx => (altS alt1) x hx
def F45x0 (v0 : LB) (v1 v2 : Int) (v4 v6 v8 : LD) (k0 : Int → Option R) : Option R :=
 bnd (G73x0 N v0) fun y0 =>
 bif y0.isSome then
  bif (!(y0.getD default)) then
   k0 8
  else
   bnd (V61x0 N v1 1 5) fun y1 =>
   bif (!y1) then
    k0 7
   else
    bnd (V61x0 N v2 0 86399999999) fun y2 =>
    bif (!y2) then
     k0 9
    else
     bnd (bif (decide ((v4.length : Int) > 20000)) then true else (decide ((v6.length : Int) > 200))) fun y3 =>
     bnd (bif y3 then true else (decide ((v8.length : Int) > 20))) fun y4 =>
     bif y4 then
      k0 3
     else
      bnd (G45x0x30 N v4 (v4.length : Int) v2 v4 0) fun y5 =>
      bif (inlB y5) then
       k0 (inlV y5)
      else
       bif (inrQ y5).isSome then
        bnd (G46x0 N v4) fun y6 =>
        bif y6.isSome then
         bnd (G45x0x60 N (y6.getD default) v6 (v6.length : Int) v6 0) fun y7 =>
         bif (inlB y7) then
          k0 (inlV y7)
         else
          bif (inrQ y7).isSome then
           bnd (G45x0x90 N v8 (v8.length : Int) v8 0) fun y8 =>
           bif (inlB y8) then
            k0 (inlV y8)
           else
            bif (inrQ y8).isSome then
             k0 0
            else
             none
          else
           none
        else
         none
       else
        none
 else
  none
def G45x0 (v0 : LB) (v1 v2 : Int) (v4 v6 v8 : LD) : Option (Int) := F45x0 N v0 v1 v2 v4 v6 v8 (fun p => some p)
theorem bind45x0 (v0 : LB) (v1 v2 : Int) (v4 v6 v8 : LD) (k0 : Int → Option R) : F45x0 N v0 v1 v2 v4 v6 v8 k0 = (G45x0 N v0 v1 v2 v4 v6 v8).bind k0 := by
 unfold G45x0 F45x0
 repeat' (first | with_reducible apply cond_b | (with_reducible apply bnd_b; intro _) | rfl)
def J45x0 (L : List Lf) (k0 : Int → Option R) : Option R := F45x0 N (ls L 0) (li L 1) (li L 2) (ll L 4) (ll L 6) (ll L 8) k0
def sh45x0 : Sh := { tmps := [(0, .g (.s :: [.i .i64, .i .i64, .sl 46, .sl 110, .sl 9]))], mem := [] }
def A45x0 (L : List Lf) : List (Bool × Res) := bnd (J45x0 N L (fun p => some p)) fun q => [(q.isSome, ([.c (.i .i64 (q.getD default))], []))]
theorem raw45x0 (L : List Lf) : bd Tryz.prog (T75x0 N) (h45x0s7 N).h 45 sh45x0 L = J45x0 N L (fun p => some ([.c (.i .i64 p)], [])) := by kernel_rfl
theorem ok45x0 : FnOk Tryz.prog 45 sh45x0 (A45x0 N) :=
 (h45x0s7 N).fn progOk (T75x0_ok N) fun L x hx => ((raw45x0 N L).trans ((bind45x0 N ..).trans (alt1 x hx)))
def T45x0 : Oracle := ext 45 (spSh sh45x0 (A45x0 N)) (T75x0 N)
theorem T45x0_ok : OracleOk Tryz.prog (T45x0 N) := FnOk.to (ok45x0 N) (T75x0_ok N)
def rg47x0 : List (Nat × List Nat) := [(0, [0]), (1, [0, 2])]
def hd47x0 : Hints := []
def h47x0s0 (N : Nat) : Sg Tryz.prog 0 47 := .start hd47x0 rg47x0
def F47x0 (N : Nat) (k0 : Unit → R) : R :=
 k0 ()
def V47x0 : Unit := F47x0 N (fun p => p)
theorem tot47x0 (k0 : Unit → R) : F47x0 N k0 = k0 (V47x0 N) := by
 unfold V47x0 F47x0
 repeat' (first | rfl | apply cond_k | (apply bnd_k; intro _))
def sh47x0 : Sh := { tmps := [(0, .c (.i .i64))], mem := [] }
def A47x0 (N : Nat) (L : List Lf) : List (Bool × Res) := [(true, ([.g [.i .i64 (li L 0), .i .i64 60, .i .i64 2]], []))]
theorem raw47x0 (L : List Lf) : bd Tryz.prog (T45x0 N) (h47x0s0 N).h 47 sh47x0 L = F47x0 N (fun _ => some ([.g [.i .i64 (li L 0), .i .i64 60, .i .i64 2]], [])) := by kernel_rfl
theorem ok47x0 : FnOk Tryz.prog 47 sh47x0 (A47x0 N) :=
 (h47x0s0 N).fn progOk (T45x0_ok N) fun L x hx => ((raw47x0 N L).trans ((tot47x0 N ..).trans (alt0 _ _ hx)))
def T47x0 : Oracle := ext 47 (spSh sh47x0 (A47x0 N)) (T45x0 N)
theorem T47x0_ok : OracleOk Tryz.prog (T47x0 N) := FnOk.to (ok47x0 N) (T45x0_ok N)
def rg48x0 : List (Nat × List Nat) := [(0, [0, 1, 2, 3])]
def hd48x0 : Hints := []
def h48x0s0 (N : Nat) : Sg Tryz.prog 1 48 := .start hd48x0 rg48x0
def F48x0 (N : Nat) (v0 v1 : Int) (v2 : Bool) (v3 : LD) (v6 : Bool) (k0 : LD → R) : R :=
 k0 [(.a [(.i 1), (.i v0), (.i 0), (.l false [(.a [(.b v6), (.i v1), (.l v2 v3)])]), (.l true [])])]
def V48x0 (v0 v1 : Int) (v2 : Bool) (v3 : LD) (v6 : Bool) : LD := F48x0 N v0 v1 v2 v3 v6 (fun p => p)
theorem tot48x0 (v0 v1 : Int) (v2 : Bool) (v3 : LD) (v6 : Bool) (k0 : LD → R) : F48x0 N v0 v1 v2 v3 v6 k0 = k0 (V48x0 N v0 v1 v2 v3 v6) := by
 unfold V48x0 F48x0
 repeat' (first | rfl | apply cond_k | (apply bnd_k; intro _))
def J48x0 (L : List Lf) (k0 : LD → R) : R := F48x0 N (li L 0) (li L 1) (lb L 2) (ll L 3) (lb L 6) k0
def sh48x0 : Sh := { tmps := [(0, .c (.p 0 0)), (1, .c (.i .i64)), (2, .c (.i .i64)), (3, .c (.sl 71))], mem := [(0, .box ([.nsl 39, .b]))] }
def K48x0w0 (L : List Lf) (p : LD) : Res := ([], [(0, .box [.o 26, .b (lb L 6)]), (26, .row 39 true false p)])
def A48x0 (L : List Lf) : List (Bool × Res) := bnd (J48x0 N L (fun p => p)) fun q => [(true, K48x0w0 L q)]
theorem raw48x0 (L : List Lf) : bd Tryz.prog (T47x0 N) (h48x0s0 N).h 48 sh48x0 L = J48x0 N L (fun p => some (K48x0w0 L p)) := by kernel_rfl
theorem ok48x0 : FnOk Tryz.prog 48 sh48x0 (A48x0 N) :=
 (h48x0s0 N).fn progOk (T47x0_ok N) fun L x hx => ((raw48x0 N L).trans ((tot48x0 N ..).trans (alt0 _ _ hx)))
def T48x0 : Oracle := ext 48 (spSh sh48x0 (A48x0 N)) (T47x0 N)
theorem T48x0_ok : OracleOk Tryz.prog (T48x0 N) := FnOk.to (ok48x0 N) (T47x0_ok N)
def rg92x0 : List (Nat × List Nat) := [(0, [0]), (1, [2, 3, 0]), (3, [0, 2, 3]), (2, [2, 3, 0])]
def hd92x0 : Hints := [(3, [0, 2, 3], [0], [])]
def h92x0s0 (N : Nat) : Sg Tryz.prog 1 92 := .start hd92x0 rg92x0
def S92x0x3 (N : Nat) (w0 w1 : Int) (w3 : LD) (kr : Int → Int → LD → Option R) (k0 : LD → Option R) : Option R :=
 bif (decide (w0 < w1)) then
  bif (inB w1 w3.length) then
   bif (decide (w1.toNat < w3.length)) then
    bif (inB w0 w3.length) then
     bif (decide (w0.toNat < w3.length)) then
      bif (inB w0 w3.length) then
       bif (decide (w0.toNat < w3.length)) then
        bif (inB w1 (w3.set w0.toNat (.i (w3.getD w1.toNat (.i 0)).toI)).length) then
         bif (decide (w1.toNat < (w3.set w0.toNat (.i (w3.getD w1.toNat (.i 0)).toI)).length)) then
          bnd (((w3.set w0.toNat (.i (w3.getD w1.toNat (.i 0)).toI)).set w1.toNat (.i (w3.getD w0.toNat (.i 0)).toI)) : List D) fun y0 =>
          kr (IntKind.wrap .i64 (w0 + 1)) (IntKind.wrap .i64 (w1 - 1)) y0
         else
          none
        else
         none
       else
        none
      else
       none
     else
      none
    else
     none
   else
    none
  else
   none
 else
  k0 w3
def L92x0x3 (N : Nat) {R : Type} : Nat → Int → Int → LD → (LD → Option R) → Option R
 | 0, _, _, _, _ => none
 | m + 1, w0, w1, w3, k0 => S92x0x3 N w0 w1 w3 (fun w0 w1 w3 => L92x0x3 N m w0 w1 w3 k0) k0
def G92x0x3 (w0 w1 : Int) (w3 : LD) : Option (LD) := L92x0x3 N (R := (LD)) N w0 w1 w3 (fun p => some p)
def J92x0x3 (L x : List Lf) (kr : List Lf → Option R) (k0 : LD → Option R) : Option R := S92x0x3 N (li x 0) (li x 1) (ll x 2) (fun w0 w1 w3 => kr [.i w0, .i w1, .l w3]) k0
theorem sb92x0x3 (L x : List Lf) (kr : List Lf → Option R) (k0 : LD → Option R) : J92x0x3 N L x kr k0 = (J92x0x3 N L x (fun y => some (.inl y)) (fun p => some (.inr p))).bind (sumE kr k0) := by
 unfold J92x0x3 S92x0x3
 repeat' (first | with_reducible apply cond_b | (with_reducible apply bnd_b; intro _) | rfl)
def Q92x0x3 (L : List Lf) (m : Nat) (x : List Lf) : Option (LD) := L92x0x3 N (R := (LD)) m (li x 0) (li x 1) (ll x 2) (fun p => some p)
def sh92x0x3 : Sh := { tmps := [(0, .c (.o 0)), (2, .c (.i .i64)), (3, .c (.i .i64))], mem := [(0, .row 5 true)] }
def A92x0x3 (L : List Lf) : List (Bool × (Ex × St)) := bnd (Q92x0x3 N L N (pk sh92x0x3 [0, 1, 3] L)) fun q => [(q.isSome, ((.exit 0), ⟨[], [(0, .row 5 true (lb L 2) (q.getD default))]⟩))]
theorem step92x0x3 (m : Nat) (kn : St → Option (Ex × St)) (L x : List Lf) : lpB Tryz.prog (T48x0 N) (h92x0s0 N).h 1 92 3 sh92x0x3 [0, 1, 3] [] [0] (m + 100) kn L x = J92x0x3 N L x (fun y => kn (ofSh sh92x0x3 (mx sh92x0x3 [0, 1, 3] L y))) (fun p => some ((.exit 0), ⟨[], [(0, .row 5 true (lb L 2) p)]⟩)) := by kernel_rfl
theorem ql92x0x3 (L : List Lf) (m : Nat) (x : List Lf) : Q92x0x3 N L (m + 1) x = J92x0x3 N L x (Q92x0x3 N L m) some := by kernel_rfl
def h92x0s1 : Sg Tryz.prog 1 92 :=
 (h92x0s0 N).lp (A92x0x3 N) N progOk (T48x0_ok N) (fun m kn L x => (step92x0x3 N m kn L x).trans (sb92x0x3 N L x _ _)) (fun L m x => (ql92x0x3 N L m x).trans (sb92x0x3 N L x (Q92x0x3 N L m) some)) fun L x hx => alt1 x hx
def F92x0 (v1 : LD) (k0 : LD → Option R) : Option R :=
 bnd (G92x0x3 N 0 (IntKind.wrap .i64 ((v1.length : Int) - 1)) v1) fun y0 =>
 bif y0.isSome then
  k0 (y0.getD default)
 else
  none
def G92x0 (v1 : LD) : Option (LD) := F92x0 N v1 (fun p => some p)
theorem bind92x0 (v1 : LD) (k0 : LD → Option R) : F92x0 N v1 k0 = (G92x0 N v1).bind k0 := by
 unfold G92x0 F92x0
 repeat' (first | with_reducible apply cond_b | (with_reducible apply bnd_b; intro _) | rfl)
def sh92x0 : Sh := { tmps := [(0, .c (.o 0))], mem := [(0, .row 5 true)] }
def A92x0 (L : List Lf) : List (Bool × Res) := bnd (F92x0 N (ll L 1) (fun p => some p)) fun q => [(q.isSome, ([], [(0, .row 5 true (lb L 0) (q.getD default))]))]
theorem raw92x0 (L : List Lf) : bd Tryz.prog (T48x0 N) (h92x0s1 N).h 92 sh92x0 L = F92x0 N (ll L 1) (fun p => some ([], [(0, .row 5 true (lb L 0) p)])) := by kernel_rfl
theorem ok92x0 : FnOk Tryz.prog 92 sh92x0 (A92x0 N) :=
 (h92x0s1 N).fn progOk (T48x0_ok N) fun L x hx => ((raw92x0 N L).trans ((bind92x0 N ..).trans (alt1 x hx)))
def T92x0 : Oracle := ext 92 (spSh sh92x0 (A92x0 N)) (T48x0 N)
theorem T92x0_ok : OracleOk Tryz.prog (T92x0 N) := FnOk.to (ok92x0 N) (T48x0_ok N)
def rg76x0 : List (Nat × List Nat) := [(0, [1, 0, 2]), (1, [1, 0, 2]), (2, [7, 0, 2]), (3, [13, 12, 7, 0, 2]), (4, [13, 7, 0, 12, 2]), (5, [7, 8, 0, 13, 12, 2]), (6, [13, 12, 7, 0, 2]), (7, [2, 7]), (8, [7]), (9, [7])]
def hd76x0 : Hints := [(9, [0, 2, 7, 12, 13], [10], []), (26, [7, 25], [10], [])]
def h76x0s0 (N : Nat) : Sg Tryz.prog 0 76 := .start hd76x0 rg76x0
def S76x0x9 (N : Nat) (w0 w2 : Int) (w3 : Int) (w5 : LD) (kr : Int → LD → Option R) (k0 : LD → Option R) : Option R :=
 bif (decide (w3 < w2)) then
  bif (decide (0 ≤ (IntKind.wrap .i64 (8 * w3)))) then
   bnd (IntKind.wrap .u8 (w0.fdiv (2 ^ (min (IntKind.wrap .i64 (8 * w3)).toNat 64)))) fun y0 =>
   bif (inB w3 w5.length) then
    bif (decide (w3.toNat < w5.length)) then
     kr (IntKind.wrap .i64 (w3 + 1)) (w5.set w3.toNat (.i y0))
    else
     none
   else
    none
  else
   none
 else
  k0 w5
def L76x0x9 (N : Nat) {R : Type} (w0 w2 : Int) : Nat → Int → LD → (LD → Option R) → Option R
 | 0, _, _, _ => none
 | m + 1, w3, w5, k0 => S76x0x9 N w0 w2 w3 w5 (fun w3 w5 => L76x0x9 N w0 w2 m w3 w5 k0) k0
def G76x0x9 (w0 w2 : Int) (w3 : Int) (w5 : LD) : Option (LD) := L76x0x9 N (R := (LD)) w0 w2 N w3 w5 (fun p => some p)
def J76x0x9 (L x : List Lf) (kr : List Lf → Option R) (k0 : LD → Option R) : Option R := S76x0x9 N (li L 0) (li L 2) (li x 0) (ll x 1) (fun w3 w5 => kr [.i w3, .l w5]) k0
theorem sb76x0x9 (L x : List Lf) (kr : List Lf → Option R) (k0 : LD → Option R) : J76x0x9 N L x kr k0 = (J76x0x9 N L x (fun y => some (.inl y)) (fun p => some (.inr p))).bind (sumE kr k0) := by
 unfold J76x0x9 S76x0x9
 repeat' (first | with_reducible apply cond_b | (with_reducible apply bnd_b; intro _) | rfl)
def Q76x0x9 (L : List Lf) (m : Nat) (x : List Lf) : Option (LD) := L76x0x9 N (R := (LD)) (li L 0) (li L 2) m (li x 0) (ll x 1) (fun p => some p)
def sh76x0x9 : Sh := { tmps := [(0, .c (.i .i64)), (2, .c (.b)), (7, .c (.o 10)), (12, .c (.i .i64)), (13, .c (.i .i64))], mem := [(10, .row 5 true)] }
def K76x0x9w0 (L : List Lf) (p : LD) : Ex × St := ((.exit 0), mg (ofSh sh76x0x9 L) [2, 7] [] [10] [(10, .row 5 true (lb L 4) p)])
def A76x0x9 (L : List Lf) : List (Bool × (Ex × St)) := bnd (Q76x0x9 N L N (pk sh76x0x9 [3, 5] L)) fun q => [(q.isSome, K76x0x9w0 L (q.getD default))]
theorem step76x0x9 (m : Nat) (kn : St → Option (Ex × St)) (L x : List Lf) : lpB Tryz.prog (T92x0 N) (h76x0s0 N).h 0 76 9 sh76x0x9 [3, 5] [6, 2, 7] [10] (m + 100) kn L x = J76x0x9 N L x (fun y => kn (ofSh sh76x0x9 (mx sh76x0x9 [3, 5] L y))) (fun p => some (K76x0x9w0 L p)) := by kernel_rfl
theorem ql76x0x9 (L : List Lf) (m : Nat) (x : List Lf) : Q76x0x9 N L (m + 1) x = J76x0x9 N L x (Q76x0x9 N L m) some := by kernel_rfl
def h76x0s1 : Sg Tryz.prog 0 76 :=
 (h76x0s0 N).lp (A76x0x9 N) N progOk (T92x0_ok N) (fun m kn L x => (step76x0x9 N m kn L x).trans (sb76x0x9 N L x _ _)) (fun L m x => (ql76x0x9 N L m x).trans (sb76x0x9 N L x (Q76x0x9 N L m) some)) fun L x hx => alt1 x hx
def F76x0x26 (w0 : Bool) (w2 : LD) (k0 : LD → Option R) : Option R :=
 bif w0 then
  bnd (G92x0 N w2) fun y0 =>
  bif y0.isSome then
   k0 (y0.getD default)
  else
   none
 else
  k0 w2
def G76x0x26 (w0 : Bool) (w2 : LD) : Option (LD) := F76x0x26 N w0 w2 (fun p => some p)
theorem bind76x0x26 (w0 : Bool) (w2 : LD) (k0 : LD → Option R) : F76x0x26 N w0 w2 k0 = (G76x0x26 N w0 w2).bind k0 := by
 unfold G76x0x26 F76x0x26
 repeat' (first | with_reducible apply cond_b | (with_reducible apply bnd_b; intro _) | rfl)
def sh76x0x26 : Sh := { tmps := [(7, .c (.o 10)), (25, .c (.b))], mem := [(10, .row 5 true)] }
def K76x0x26w0 (L : List Lf) (p : LD) : Ex × St := (.normal, ⟨[(7, .c (.o 10))], [(10, .row 5 true (lb L 1) p)]⟩)
def A76x0x26 (L : List Lf) : List (Bool × (Ex × St)) := bnd (F76x0x26 N (lb L 0) (ll L 2) (fun p => some p)) fun q => [(q.isSome, K76x0x26w0 L (q.getD default))]
theorem raw76x0x26 (L : List Lf) : pc Tryz.prog (T92x0 N) (h76x0s1 N).h 0 100 76 26 sh76x0x26 L [7] [10] = F76x0x26 N (lb L 0) (ll L 2) (fun p => some (K76x0x26w0 L p)) := by kernel_rfl
def h76x0s2 : Sg Tryz.prog 0 76 :=
 (h76x0s1 N).cut (A76x0x26 N) progOk (T92x0_ok N) fun L x hx => (raw76x0x26 N L).trans ((bind76x0x26 N ..).trans (alt1 x hx))
def F76x0 (v0 v1 : Int) (v2 : Bool) (k0 : LD → Option R) : Option R :=
 bif (((decide (0 ≤ v1)) && (decide (v1 ≤ v1))) && (decide (v1.toNat * 1 ≤ room) && decide (v1.toNat ≤ strMax))) then
  bnd (G76x0x9 N v0 ((List.replicate v1.toNat ((.i 0) : D)).length : Int) 0 (List.replicate v1.toNat ((.i 0) : D))) fun y0 =>
  bif y0.isSome then
   bnd (G76x0x26 N v2 (y0.getD default)) fun y1 =>
   bif y1.isSome then
    k0 (y1.getD default)
   else
    none
  else
   none
 else
  none
def G76x0 (v0 v1 : Int) (v2 : Bool) : Option (LD) := F76x0 N v0 v1 v2 (fun p => some p)
theorem bind76x0 (v0 v1 : Int) (v2 : Bool) (k0 : LD → Option R) : F76x0 N v0 v1 v2 k0 = (G76x0 N v0 v1 v2).bind k0 := by
 unfold G76x0 F76x0
 repeat' (first | with_reducible apply cond_b | (with_reducible apply bnd_b; intro _) | rfl)
def sh76x0 : Sh := { tmps := [(0, .c (.i .i64)), (1, .c (.i .i64)), (2, .c (.b))], mem := [] }
def A76x0 (L : List Lf) : List (Bool × Res) := bnd (F76x0 N (li L 0) (li L 1) (lb L 2) (fun p => some p)) fun q => [(q.isSome, ([.c (.sl 5 false (q.getD default))], []))]
theorem raw76x0 (L : List Lf) : bd Tryz.prog (T92x0 N) (h76x0s2 N).h 76 sh76x0 L = F76x0 N (li L 0) (li L 1) (lb L 2) (fun p => some ([.c (.sl 5 false p)], [])) := by kernel_rfl
theorem ok76x0 : FnOk Tryz.prog 76 sh76x0 (A76x0 N) :=
 (h76x0s2 N).fn progOk (T92x0_ok N) fun L x hx => ((raw76x0 N L).trans ((bind76x0 N ..).trans (alt1 x hx)))
def T76x0 : Oracle := ext 76 (spSh sh76x0 (A76x0 N)) (T92x0 N)
theorem T76x0_ok : OracleOk Tryz.prog (T76x0 N) := FnOk.to (ok76x0 N) (T92x0_ok N)
def rg50x0 : List (Nat × List Nat) := [(0, [1, 3, 2, 0]), (1, [1, 3, 2, 0]), (2, [2, 0]), (3, [1, 2, 0])]
def hd50x0 : Hints := [(8, [0, 1, 2, 14], [0, 1], [])]
def h50x0s0 (N : Nat) : Sg Tryz.prog 2 50 := .start hd50x0 rg50x0
def F50x0x8 (w0 w1 : Int) (w2 : Bool) (k0 : Int → Option R) : Option R :=
 bif w2 then
  bnd (G65x0 N w1 false) fun y0 =>
  bif y0.isSome then
   k0 (y0.getD default)
  else
   none
 else
  k0 w0
def G50x0x8 (w0 w1 : Int) (w2 : Bool) : Option (Int) := F50x0x8 N w0 w1 w2 (fun p => some p)
theorem bind50x0x8 (w0 w1 : Int) (w2 : Bool) (k0 : Int → Option R) : F50x0x8 N w0 w1 w2 k0 = (G50x0x8 N w0 w1 w2).bind k0 := by
 unfold G50x0x8 F50x0x8
 repeat' (first | with_reducible apply cond_b | (with_reducible apply bnd_b; intro _) | rfl)
def sh50x0x8 : Sh := { tmps := [(0, .c (.p 0 0)), (1, .c (.i .i64)), (2, .c (.i .i64)), (14, .c (.b))], mem := [(0, .box ([.o 1, .b])), (1, .row 39 true)] }
def K50x0x8w0 (L : List Lf) (p : Int) : Ex × St := (.normal, mg (ofSh sh50x0x8 L) [1, 2, 0] [(1, .c (.i .i64 p))] [1, 0] [])
def A50x0x8 (L : List Lf) : List (Bool × (Ex × St)) := bnd (F50x0x8 N (li L 0) (li L 1) (lb L 2) (fun p => some p)) fun q => [(q.isSome, K50x0x8w0 L (q.getD default))]
theorem raw50x0x8 (L : List Lf) : pc Tryz.prog (T76x0 N) (h50x0s0 N).h 2 100 50 8 sh50x0x8 L [1, 2, 0] [1, 0] = F50x0x8 N (li L 0) (li L 1) (lb L 2) (fun p => some (K50x0x8w0 L p)) := by kernel_rfl
def h50x0s1 : Sg Tryz.prog 2 50 :=
 (h50x0s0 N).cut (A50x0x8 N) progOk (T76x0_ok N) fun L x hx => (raw50x0x8 N L).trans ((bind50x0x8 N ..).trans (alt1 x hx))
def F50x0 (v0 v1 : Int) (v2 v3 : Bool) (k0 : LD → Option R) : Option R :=
 bnd (G50x0x8 N v0 v1 (bif (decide (v0 < 0)) then (!v2) else false)) fun y0 =>
 bif y0.isSome then
  bnd (G76x0 N (y0.getD default) v1 v3) fun y1 =>
  bif y1.isSome then
   k0 (y1.getD default)
  else
   none
 else
  none
def G50x0 (v0 v1 : Int) (v2 v3 : Bool) : Option (LD) := F50x0 N v0 v1 v2 v3 (fun p => some p)
theorem bind50x0 (v0 v1 : Int) (v2 v3 : Bool) (k0 : LD → Option R) : F50x0 N v0 v1 v2 v3 k0 = (G50x0 N v0 v1 v2 v3).bind k0 := by
 unfold G50x0 F50x0
 repeat' (first | with_reducible apply cond_b | (with_reducible apply bnd_b; intro _) | rfl)
def J50x0 (L : List Lf) (k0 : LD → Option R) : Option R := F50x0 N (li L 0) (li L 1) (lb L 2) (lb L 3) k0
def sh50x0 : Sh := { tmps := [(0, .c (.p 0 0)), (1, .c (.i .i64)), (2, .c (.i .i64)), (3, .c (.b))], mem := [(0, .box ([.o 1, .b])), (1, .row 39 true)] }
def A50x0 (L : List Lf) : List (Bool × Res) := bnd (J50x0 N L (fun p => some p)) fun q => [(q.isSome, ([.c (.sl 5 false (q.getD default))], mgA (ofSh sh50x0 L).mem [] [1, 0]))]
theorem raw50x0 (L : List Lf) : bd Tryz.prog (T76x0 N) (h50x0s1 N).h 50 sh50x0 L = J50x0 N L (fun p => some ([.c (.sl 5 false p)], mgA (ofSh sh50x0 L).mem [] [1, 0])) := by kernel_rfl
theorem ok50x0 : FnOk Tryz.prog 50 sh50x0 (A50x0 N) :=
 (h50x0s1 N).fn progOk (T76x0_ok N) fun L x hx => ((raw50x0 N L).trans ((bind50x0 N ..).trans (alt1 x hx)))
def T50x0 : Oracle := ext 50 (spSh sh50x0 (A50x0 N)) (T76x0 N)
theorem T50x0_ok : OracleOk Tryz.prog (T50x0 N) := FnOk.to (ok50x0 N) (T76x0_ok N)
def rg51x0 : List (Nat × List Nat) := [(0, [0]), (1, [0]), (2, [3, 0]), (3, [3])]
def hd51x0 : Hints := []
def h51x0s0 (N : Nat) : Sg Tryz.prog 0 51 := .start hd51x0 rg51x0
def F51x0 (N : Nat) (v0 : LB) (k0 : LD → R) : R :=
 bnd (((bytesD v0).take 60 ++ [(.i 0), (.i 0), (.i 0), (.i 0), (.i 0), (.i 0), (.i 0), (.i 0), (.i 0), (.i 0), (.i 0), (.i 0), (.i 0), (.i 0), (.i 0), (.i 0), (.i 0), (.i 0), (.i 0), (.i 0), (.i 0), (.i 0), (.i 0), (.i 0), (.i 0), (.i 0), (.i 0), (.i 0), (.i 0), (.i 0), (.i 0), (.i 0), (.i 0), (.i 0), (.i 0), (.i 0), (.i 0), (.i 0), (.i 0), (.i 0), (.i 0), (.i 0), (.i 0), (.i 0), (.i 0), (.i 0), (.i 0), (.i 0), (.i 0), (.i 0), (.i 0), (.i 0), (.i 0), (.i 0), (.i 0), (.i 0), (.i 0), (.i 0), (.i 0), (.i 0)].drop (bytesD v0).length) : List D) fun y0 =>
 k0 y0
def V51x0 (v0 : LB) : LD := F51x0 N v0 (fun p => p)
theorem tot51x0 (v0 : LB) (k0 : LD → R) : F51x0 N v0 k0 = k0 (V51x0 N v0) := by
 unfold V51x0 F51x0
 repeat' (first | rfl | apply cond_k | (apply bnd_k; intro _))
def sh51x0 : Sh := { tmps := [(0, .c (.s))], mem := [] }
def A51x0 (L : List Lf) : List (Bool × Res) := bnd (F51x0 N (ls L 0) (fun p => p)) fun q => [(true, ([.c (.sl 5 false q)], []))]
theorem raw51x0 (L : List Lf) : bd Tryz.prog (T50x0 N) (h51x0s0 N).h 51 sh51x0 L = F51x0 N (ls L 0) (fun p => some ([.c (.sl 5 false p)], [])) := by kernel_rfl
theorem ok51x0 : FnOk Tryz.prog 51 sh51x0 (A51x0 N) :=
 (h51x0s0 N).fn progOk (T50x0_ok N) fun L x hx => ((raw51x0 N L).trans ((tot51x0 N ..).trans (alt0 _ _ hx)))
def T51x0 : Oracle := ext 51 (spSh sh51x0 (A51x0 N)) (T50x0 N)
theorem T51x0_ok : OracleOk Tryz.prog (T51x0 N) := FnOk.to (ok51x0 N) (T50x0_ok N)
def rg49x0 : List (Nat × List Nat) := [(0, [1, 2, 0]), (1, [2, 6, 0]), (2, [13, 12, 11, 6, 0]), (3, [11, 13, 6, 12, 0]), (4, [6, 8, 13, 12, 11, 0]), (5, [13, 12, 11, 6, 0]), (6, [0, 6])]
def hd49x0 : Hints := [(6, [0, 6, 11, 12, 13], [0, 1, 8, 50008006], [50008004])]
def h49x0s0 (N : Nat) : Sg Tryz.prog 2 49 := .start hd49x0 rg49x0
def S49x0x6 (N : Nat) (w1 : LD) (w2 : Int) (w3 : Int) (w12 : Bool) (w13 : LD) (kr : Int → Bool → LD → Option R) (k0 : Bool × LD → Option R) : Option R :=
 bif (decide (w3 < w2)) then
  bif (inB w3 w1.length) then
   bif (decide ((w13.length + (w1.getD w3.toNat (.i 0)).items.length) * 1 ≤ room) && decide ((w13.length + (w1.getD w3.toNat (.i 0)).items.length) ≤ strMax)) then
    kr (IntKind.wrap .i64 (w3 + 1)) ((w1.getD w3.toNat (.i 0)).items.isEmpty && w12) (w13 ++ (w1.getD w3.toNat (.i 0)).items)
   else
    none
  else
   none
 else
  k0 (w12, w13)
def L49x0x6 (N : Nat) {R : Type} (w1 : LD) (w2 : Int) : Nat → Int → Bool → LD → (Bool × LD → Option R) → Option R
 | 0, _, _, _, _ => none
 | m + 1, w3, w12, w13, k0 => S49x0x6 N w1 w2 w3 w12 w13 (fun w3 w12 w13 => L49x0x6 N w1 w2 m w3 w12 w13 k0) k0
def G49x0x6 (w1 : LD) (w2 : Int) (w3 : Int) (w12 : Bool) (w13 : LD) : Option (Bool × LD) := L49x0x6 N (R := (Bool × LD)) w1 w2 N w3 w12 w13 (fun p => some p)
def J49x0x6 (L x : List Lf) (kr : List Lf → Option R) (k0 : Bool × LD → Option R) : Option R := S49x0x6 N (ll L 1) (li L 2) (li x 0) (lb x 1) (ll x 2) (fun w3 w12 w13 => kr [.i w3, .b w12, .l w13]) k0
theorem sb49x0x6 (L x : List Lf) (kr : List Lf → Option R) (k0 : Bool × LD → Option R) : J49x0x6 N L x kr k0 = (J49x0x6 N L x (fun y => some (.inl y)) (fun p => some (.inr p))).bind (sumE kr k0) := by
 unfold J49x0x6 S49x0x6
 repeat' (first | with_reducible apply cond_b | (with_reducible apply bnd_b; intro _) | rfl)
def Q49x0x6 (L : List Lf) (m : Nat) (x : List Lf) : Option (Bool × LD) := L49x0x6 N (R := (Bool × LD)) (ll L 1) (li L 2) m (li x 0) (lb x 1) (ll x 2) (fun p => some p)
def sh49x0x6 : Sh := { tmps := [(0, .c (.p 0 0)), (6, .c (.p 8 0)), (11, .c (.sl 37)), (12, .c (.i .i64)), (13, .c (.i .i64))], mem := [(0, .box ([.o 1, .b])), (1, .row 39 true), (8, .box ([.i .i64, .i .i64, .i .i64, .sl 64, .o 50008006])), (50008006, .row 5 true)] }
def K49x0x6w0 (L : List Lf) (p : Bool × LD) : Ex × St := ((.exit 0), mg (ofSh sh49x0x6 L) [0, 6] [] [50008006, 8, 1, 0] [(50008006, .row 5 true p.1 p.2)])
def A49x0x6 (L : List Lf) : List (Bool × (Ex × St)) := bnd (Q49x0x6 N L N (pk sh49x0x6 [3, 12, 13] L)) fun q => [(q.isSome, K49x0x6w0 L (q.getD default))]
theorem step49x0x6 (m : Nat) (kn : St → Option (Ex × St)) (L x : List Lf) : lpB Tryz.prog (T51x0 N) (h49x0s0 N).h 2 49 6 sh49x0x6 [3, 12, 13] [0, 6] [50008006, 8, 1, 0] (m + 100) kn L x = J49x0x6 N L x (fun y => kn (ofSh sh49x0x6 (mx sh49x0x6 [3, 12, 13] L y))) (fun p => some (K49x0x6w0 L p)) := by kernel_rfl
theorem ql49x0x6 (L : List Lf) (m : Nat) (x : List Lf) : Q49x0x6 N L (m + 1) x = J49x0x6 N L x (Q49x0x6 N L m) some := by kernel_rfl
def h49x0s1 : Sg Tryz.prog 2 49 :=
 (h49x0s0 N).lp (A49x0x6 N) N progOk (T51x0_ok N) (fun m kn L x => (step49x0x6 N m kn L x).trans (sb49x0x6 N L x _ _)) (fun L m x => (ql49x0x6 N L m x).trans (sb49x0x6 N L x (Q49x0x6 N L m) some)) fun L x hx => alt1 x hx
def F49x0 (v0 : Int) (v2 v5 : LD) (k0 : LD → Option R) : Option R :=
 bnd (G49x0x6 N v2 (v2.length : Int) 0 true []) fun y0 =>
 bif y0.isSome then
  bif (decide ((v5.length + 1) * 72 ≤ room) && decide ((v5.length + 1) ≤ strMax)) then
   bnd ((v5 ++ [(.a [(.i 2), (.i v0), (.i 0), (.l true []), (.l (y0.getD default).1 (y0.getD default).2)])]) : List D) fun y1 =>
   k0 y1
  else
   none
 else
  none
def G49x0 (v0 : Int) (v2 v5 : LD) : Option (LD) := F49x0 N v0 v2 v5 (fun p => some p)
theorem bind49x0 (v0 : Int) (v2 v5 : LD) (k0 : LD → Option R) : F49x0 N v0 v2 v5 k0 = (G49x0 N v0 v2 v5).bind k0 := by
 unfold G49x0 F49x0
 repeat' (first | with_reducible apply cond_b | (with_reducible apply bnd_b; intro _) | rfl)
def sh49x0 : Sh := { tmps := [(0, .c (.p 0 0)), (1, .c (.i .i64)), (2, .c (.sl 37))], mem := [(0, .box ([.o 1, .b])), (1, .row 39 true)] }
def K49x0w0 (L : List Lf) (p : LD) : Res := ([], [(0, .box [.o 33, .b (lb L 3)]), (33, .row 39 true false p)])
def A49x0 (L : List Lf) : List (Bool × Res) := bnd (F49x0 N (li L 0) (ll L 2) (ll L 5) (fun p => some p)) fun q => [(q.isSome, K49x0w0 L (q.getD default))]
theorem raw49x0 (L : List Lf) : bd Tryz.prog (T51x0 N) (h49x0s1 N).h 49 sh49x0 L = F49x0 N (li L 0) (ll L 2) (ll L 5) (fun p => some (K49x0w0 L p)) := by kernel_rfl
theorem ok49x0 : FnOk Tryz.prog 49 sh49x0 (A49x0 N) :=
 (h49x0s1 N).fn progOk (T51x0_ok N) fun L x hx => ((raw49x0 N L).trans ((bind49x0 N ..).trans (alt1 x hx)))
def T49x0 : Oracle := ext 49 (spSh sh49x0 (A49x0 N)) (T51x0 N)
theorem T49x0_ok : OracleOk Tryz.prog (T49x0 N) := FnOk.to (ok49x0 N) (T51x0_ok N)
def rg48x1 : List (Nat × List Nat) := [(0, [0, 1, 2, 3])]
def hd48x1 : Hints := []
def h48x1s0 (N : Nat) : Sg Tryz.prog 2 48 := .start hd48x1 rg48x1
def F48x1 (N : Nat) (v0 v1 : Int) (v2 : Bool) (v3 : LD) (v4 : Bool) (v6 : LD) (k0 : LD → Option R) : Option R :=
 bif (decide ((v6.length + 1) * 72 ≤ room) && decide ((v6.length + 1) ≤ strMax)) then
  bnd ((v6 ++ [(.a [(.i 1), (.i v0), (.i 0), (.l false [(.a [(.b v4), (.i v1), (.l v2 v3)])]), (.l true [])])]) : List D) fun y0 =>
  k0 y0
 else
  none
def G48x1 (v0 v1 : Int) (v2 : Bool) (v3 : LD) (v4 : Bool) (v6 : LD) : Option (LD) := F48x1 N v0 v1 v2 v3 v4 v6 (fun p => some p)
theorem bind48x1 (v0 v1 : Int) (v2 : Bool) (v3 : LD) (v4 : Bool) (v6 : LD) (k0 : LD → Option R) : F48x1 N v0 v1 v2 v3 v4 v6 k0 = (G48x1 N v0 v1 v2 v3 v4 v6).bind k0 := by
 unfold G48x1 F48x1
 repeat' (first | with_reducible apply cond_b | (with_reducible apply bnd_b; intro _) | rfl)
def J48x1 (L : List Lf) (k0 : LD → Option R) : Option R := F48x1 N (li L 0) (li L 1) (lb L 2) (ll L 3) (lb L 4) (ll L 6) k0
def sh48x1 : Sh := { tmps := [(0, .c (.p 0 0)), (1, .c (.i .i64)), (2, .c (.i .i64)), (3, .c (.sl 71))], mem := [(0, .box ([.o 1, .b])), (1, .row 39 true)] }
def K48x1w0 (L : List Lf) (p : LD) : Res := ([], [(0, .box [.o 27, .b (lb L 4)]), (27, .row 39 true false p)])
def A48x1 (L : List Lf) : List (Bool × Res) := bnd (J48x1 N L (fun p => some p)) fun q => [(q.isSome, K48x1w0 L (q.getD default))]
theorem raw48x1 (L : List Lf) : bd Tryz.prog (T49x0 N) (h48x1s0 N).h 48 sh48x1 L = J48x1 N L (fun p => some (K48x1w0 L p)) := by kernel_rfl
theorem ok48x1 : FnOk Tryz.prog 48 sh48x1 (A48x1 N) :=
 (h48x1s0 N).fn progOk (T49x0_ok N) fun L x hx => ((raw48x1 N L).trans ((bind48x1 N ..).trans (alt1 x hx)))
def T48x1 : Oracle := ext 48 (spSh sh48x1 (A48x1 N)) (T49x0 N)
theorem T48x1_ok : OracleOk Tryz.prog (T48x1 N) := FnOk.to (ok48x1 N) (T49x0_ok N)
def rg52x0 : List (Nat × List Nat) := [(0, [1, 2, 0]), (1, [4, 5, 0]), (2, [5, 0, 4]), (3, [6, 0, 4]), (4, [20, 6, 0, 4]), (5, [20, 6, 0, 4]), (6, [6, 7, 20, 0, 4]), (7, [20, 6, 0, 4]), (8, [6, 0, 4]), (9, [29, 6, 0, 4]), (10, [29, 6, 0, 4]), (11, [6, 8, 29, 0, 4]), (12, [29, 6, 0, 4]), (13, [0, 6, 4]), (14, [4, 0]), (15, [45, 44, 43, 4, 0]), (16, [45, 43, 4, 0, 44]), (17, [4, 10, 0, 9, 45, 44, 43]), (18, [0, 11, 10, 9, 4, 45, 44, 43]), (19, [9, 10, 4, 0, 12, 11, 45, 44, 43]), (23, [0, 12, 45, 44, 43, 4]), (20, [0, 12, 11, 45, 44, 43, 4]), (21, [0, 11, 45, 44, 43, 4]), (22, [13, 11, 45, 44, 43, 4, 0]), (24, [45, 44, 43, 4, 0])]
def hd52x0 : Hints := [(45, [0, 4, 43, 44, 45], [0, 6, 50000002, 42000000029], [50000000]), (58, [0, 4, 9, 10, 11, 12, 43, 44, 45], [0, 6, 12, 84, 50000002], []), (69062, [0, 4, 11, 12, 43, 44, 45, 97], [0, 6, 84, 50000002], [])]
def h52x0s0 (N : Nat) : Sg Tryz.prog 2 52 := .start hd52x0 rg52x0
def F52x0x58 (N : Nat) (w0 : Int) (w11 : LD) (w16 : Int) (k0 : Bool → Option R) : Option R :=
 bif (decide (w0 > 0)) then
  bif (inB (IntKind.wrap .i64 (w0 - 1)) w11.length) then
   bnd ((w11.getD (IntKind.wrap .i64 (w0 - 1)).toNat (.i 0)).cell 0).toI fun y0 =>
   k0 (decide ((IntKind.wrap .i64 (w16 - y0)) < 32))
  else
   none
 else
  k0 false
def G52x0x58 (w0 : Int) (w11 : LD) (w16 : Int) : Option (Bool) := F52x0x58 N w0 w11 w16 (fun p => some p)
theorem bind52x0x58 (w0 : Int) (w11 : LD) (w16 : Int) (k0 : Bool → Option R) : F52x0x58 N w0 w11 w16 k0 = (G52x0x58 N w0 w11 w16).bind k0 := by
 unfold G52x0x58 F52x0x58
 repeat' (first | with_reducible apply cond_b | (with_reducible apply bnd_b; intro _) | rfl)
def sh52x0x58 : Sh := { tmps := [(0, .c (.p 0 0)), (4, .c (.p 6 0)), (9, .c (.i .i64)), (10, .c (.p 12 0)), (11, .c (.i .i64)), (12, .c (.o 84)), (43, .c (.sl 46)), (44, .c (.i .i64)), (45, .c (.i .i64))], mem := [(0, .box ([.o 50000002, .b])), (6, .box (.s :: [.i .i64, .i .i64, .sl 46, .sl 110, .sl 9])), (12, .box (rI 7 ([]))), (84, .row 37 true), (50000002, .row 39 true)] }
def K52x0x58w0 (L : List Lf) (p : Bool) : Ex × St := (.normal, mg (ofSh sh52x0x58 L) [0, 12, 11, 45, 44, 43, 4, 97] [(97, .c (.b p))] [84, 6, 50000002, 0] [])
def A52x0x58 (L : List Lf) : List (Bool × (Ex × St)) := bnd (F52x0x58 N (li L 0) (ll L 11) (li L 16) (fun p => some p)) fun q => [(q.isSome, K52x0x58w0 L (q.getD default))]
theorem raw52x0x58 (L : List Lf) : pc Tryz.prog (T48x1 N) (h52x0s0 N).h 2 100 52 58 sh52x0x58 L [0, 12, 11, 45, 44, 43, 4, 97] [84, 6, 50000002, 0] = F52x0x58 N (li L 0) (ll L 11) (li L 16) (fun p => some (K52x0x58w0 L p)) := by kernel_rfl
def h52x0s1 : Sg Tryz.prog 2 52 :=
 (h52x0s0 N).cut (A52x0x58 N) progOk (T48x1_ok N) fun L x hx => (raw52x0x58 N L).trans ((bind52x0x58 N ..).trans (alt1 x hx))
def F52x0x69062 (w0 : Int) (w5 : Bool) (w17 w19 : LD) (k0 : LD → Option R) (k1 : LD → Option R) : Option R :=
 bif w5 then
  bif ((decide (1 ≤ (w17.length : Int))) && (decide ((w17.length : Int) ≤ (w17.length : Int)))) then
   bnd (G49x0 N 1 ((w17.take (w17.length : Int).toNat).drop 1) w19) fun y0 =>
   bif y0.isSome then
    bnd (IntKind.wrap .i64 (((y0.getD default).length : Int) - 1)) fun y1 =>
    bif (inB y1 (y0.getD default).length) then
     bif (decide (y1.toNat < (y0.getD default).length)) then
      bnd (((y0.getD default).set y1.toNat (.a [(.i 3), (.i (((y0.getD default).getD y1.toNat (.i 0)).cell 1).toI), (.i (((y0.getD default).getD y1.toNat (.i 0)).cell 2).toI), (.l (((y0.getD default).getD y1.toNat (.i 0)).cell 3).isNil (((y0.getD default).getD y1.toNat (.i 0)).cell 3).items), (.l (((y0.getD default).getD y1.toNat (.i 0)).cell 4).isNil (((y0.getD default).getD y1.toNat (.i 0)).cell 4).items)])) : List D) fun y2 =>
      bif (decide (y1.toNat < y2.length)) then
       bnd ((y2.set y1.toNat (.a [(.i ((y2.getD y1.toNat (.i 0)).cell 0).toI), (.i ((y2.getD y1.toNat (.i 0)).cell 1).toI), (.i (w0.tmod 32)), (.l ((y2.getD y1.toNat (.i 0)).cell 3).isNil ((y2.getD y1.toNat (.i 0)).cell 3).items), (.l ((y2.getD y1.toNat (.i 0)).cell 4).isNil ((y2.getD y1.toNat (.i 0)).cell 4).items)])) : List D) fun y3 =>
       k0 y3
      else
       none
     else
      none
    else
     none
   else
    none
  else
   none
 else
  bnd (G49x0 N 1 w17 w19) fun y4 =>
  bif y4.isSome then
   k1 (y4.getD default)
  else
   none
def G52x0x69062 (w0 : Int) (w5 : Bool) (w17 w19 : LD) : Option (Sum (LD) (LD)) := F52x0x69062 N w0 w5 w17 w19 (fun p => some (.inl p)) (fun p => some (.inr p))
theorem bind52x0x69062 (w0 : Int) (w5 : Bool) (w17 w19 : LD) (k0 : LD → Option R) (k1 : LD → Option R) : F52x0x69062 N w0 w5 w17 w19 k0 k1 = (G52x0x69062 N w0 w5 w17 w19).bind (sumE k0 k1) := by
 unfold G52x0x69062 F52x0x69062
 repeat' (first | with_reducible apply cond_b | (with_reducible apply bnd_b; intro _) | rfl)
def J52x0x69062 (L : List Lf) (k0 : LD → Option R) (k1 : LD → Option R) : Option R := F52x0x69062 N (li L 0) (lb L 5) (ll L 17) (ll L 19) k0 k1
def sh52x0x69062 : Sh := { tmps := [(0, .c (.p 0 0)), (4, .c (.p 6 0)), (11, .c (.i .i64)), (12, .c (.o 84)), (43, .c (.sl 46)), (44, .c (.i .i64)), (45, .c (.i .i64)), (97, .c (.b))], mem := [(0, .box ([.o 50000002, .b])), (6, .box (.s :: [.i .i64, .i .i64, .sl 46, .sl 110, .sl 9])), (84, .row 37 true), (50000002, .row 39 true)] }
def K52x0x69062w0 (L : List Lf) (p : LD) : Ex × St := (.normal, mg (ofSh sh52x0x69062 L) [45, 44, 43, 4, 0] [] [6, 102000000035, 0] [(102000000035, .row 39 true false p), (0, .box [.o 102000000035, .b (lb L 6)])])
def K52x0x69062w1 (L : List Lf) (p : LD) : Ex × St := (.normal, mg (ofSh sh52x0x69062 L) [45, 44, 43, 4, 0] [] [6, 0, 126000000035] [(0, .box [.o 126000000035, .b (lb L 6)]), (126000000035, .row 39 true false p)])
def A52x0x69062 (L : List Lf) : List (Bool × (Ex × St)) := bnd (J52x0x69062 N L (fun p => some (.inl p)) (fun p => some (.inr p))) fun q => [((inlB q), K52x0x69062w0 L (inlV q)), ((inrQ q).isSome, K52x0x69062w1 L ((inrQ q).getD default))]
theorem raw52x0x69062 (L : List Lf) : pc Tryz.prog (T48x1 N) (h52x0s1 N).h 2 100 52 69062 sh52x0x69062 L [45, 44, 43, 4, 0] [6, 102000000035, 0, 126000000035] = J52x0x69062 N L (fun p => some (K52x0x69062w0 L p)) (fun p => some (K52x0x69062w1 L p)) := by kernel_rfl
def h52x0s2 : Sg Tryz.prog 2 52 :=
 (h52x0s1 N).cut (A52x0x69062 N) progOk (T48x1_ok N) fun L x hx => (raw52x0x69062 N L).trans ((bind52x0x69062 N ..).trans ((altS alt1) x hx))
def S52x0x45 (w1 : LD) (w2 : Int) (w4 : Bool) (w7 : Int) (w9 : LD) (w3 : Int) (w14 : Bool) (w15 : LD) (kr : Int → Bool → LD → Option R) (k0 : Bool × LD → Option R) : Option R :=
 bif (decide (w3 < w2)) then
  bif (inB w3 w1.length) then
   bnd (IntKind.wrap .i64 (w7 + ((w1.getD w3.toNat (.i 0)).cell 0).toI)) fun y0 =>
   bnd (G50x0 N y0 4 false w4) fun y1 =>
   bif y1.isSome then
    bnd (G50x0 N ((w1.getD w3.toNat (.i 0)).cell 1).toI 4 true w4) fun y2 =>
    bif y2.isSome then
     bnd (G50x0 N ((w1.getD w3.toNat (.i 0)).cell 2).toI 4 true w4) fun y3 =>
     bif y3.isSome then
      bnd (G50x0 N ((w1.getD w3.toNat (.i 0)).cell 3).toI 4 true w4) fun y4 =>
      bif y4.isSome then
       bnd (G50x0 N ((w1.getD w3.toNat (.i 0)).cell 4).toI 2 false w4) fun y5 =>
       bif y5.isSome then
        bnd (G50x0 N ((w1.getD w3.toNat (.i 0)).cell 5).toI 2 false w4) fun y6 =>
        bif y6.isSome then
         bnd (G50x0 N ((w1.getD w3.toNat (.i 0)).cell 6).toI 2 false w4) fun y7 =>
         bif y7.isSome then
          bnd (G52x0x58 N w3 w9 ((w1.getD w3.toNat (.i 0)).cell 0).toI) fun y8 =>
          bif y8.isSome then
           bnd (G52x0x69062 N y0 (y8.getD default) [(.l false (y1.getD default)), (.l false (y2.getD default)), (.l false (y3.getD default)), (.l false (y4.getD default)), (.l false (y5.getD default)), (.l false (y6.getD default)), (.l false (y7.getD default))] w15) fun y9 =>
           bif (inlB y9) then
            kr (IntKind.wrap .i64 (w3 + 1)) false (inlV y9)
           else
            bif (inrQ y9).isSome then
             kr (IntKind.wrap .i64 (w3 + 1)) false ((inrQ y9).getD default)
            else
             none
          else
           none
         else
          none
        else
         none
       else
        none
      else
       none
     else
      none
    else
     none
   else
    none
  else
   none
 else
  k0 (w14, w15)
def L52x0x45 (N : Nat) {R : Type} (w1 : LD) (w2 : Int) (w4 : Bool) (w7 : Int) (w9 : LD) : Nat → Int → Bool → LD → (Bool × LD → Option R) → Option R
 | 0, _, _, _, _ => none
 | m + 1, w3, w14, w15, k0 => S52x0x45 N w1 w2 w4 w7 w9 w3 w14 w15 (fun w3 w14 w15 => L52x0x45 N w1 w2 w4 w7 w9 m w3 w14 w15 k0) k0
def G52x0x45 (w1 : LD) (w2 : Int) (w4 : Bool) (w7 : Int) (w9 : LD) (w3 : Int) (w14 : Bool) (w15 : LD) : Option (Bool × LD) := L52x0x45 N (R := (Bool × LD)) w1 w2 w4 w7 w9 N w3 w14 w15 (fun p => some p)
def J52x0x45 (L x : List Lf) (kr : List Lf → Option R) (k0 : Bool × LD → Option R) : Option R := S52x0x45 N (ll L 1) (li L 2) (lb L 4) (li L 7) (ll L 9) (li x 0) (lb x 1) (ll x 2) (fun w3 w14 w15 => kr [.i w3, .b w14, .l w15]) k0
theorem sb52x0x45 (L x : List Lf) (kr : List Lf → Option R) (k0 : Bool × LD → Option R) : J52x0x45 N L x kr k0 = (J52x0x45 N L x (fun y => some (.inl y)) (fun p => some (.inr p))).bind (sumE kr k0) := by
 unfold J52x0x45 S52x0x45
 repeat' (first | with_reducible apply cond_b | (with_reducible apply bnd_b; intro _) | rfl)
def Q52x0x45 (L : List Lf) (m : Nat) (x : List Lf) : Option (Bool × LD) := L52x0x45 N (R := (Bool × LD)) (ll L 1) (li L 2) (lb L 4) (li L 7) (ll L 9) m (li x 0) (lb x 1) (ll x 2) (fun p => some p)
def sh52x0x45 : Sh := { tmps := [(0, .c (.p 0 0)), (4, .c (.p 6 0)), (43, .c (.sl 46)), (44, .c (.i .i64)), (45, .c (.i .i64))], mem := [(0, .box ([.o 50000002, .b])), (6, .box (.s :: [.i .i64, .i .i64, .sl 46, .sl 110, .sl 9])), (50000002, .row 39 true)] }
def K52x0x45w0 (L : List Lf) (p : Bool × LD) : Ex × St := ((.exit 4), mg (ofSh sh52x0x45 L) [] [] [50000002, 0] [(50000002, .row 39 true p.1 p.2)])
def A52x0x45 (L : List Lf) : List (Bool × (Ex × St)) := bnd (Q52x0x45 N L N (pk sh52x0x45 [3, 14, 15] L)) fun q => [(q.isSome, K52x0x45w0 L (q.getD default))]
theorem step52x0x45 (m : Nat) (kn : St → Option (Ex × St)) (L x : List Lf) : lpB Tryz.prog (T48x1 N) (h52x0s2 N).h 2 52 45 sh52x0x45 [3, 14, 15] [] [50000002, 0] (m + 100) kn L x = J52x0x45 N L x (fun y => kn (ofSh sh52x0x45 (mx sh52x0x45 [3, 14, 15] L y))) (fun p => some (K52x0x45w0 L p)) := by kernel_rfl
theorem ql52x0x45 (L : List Lf) (m : Nat) (x : List Lf) : Q52x0x45 N L (m + 1) x = J52x0x45 N L x (Q52x0x45 N L m) some := by kernel_rfl
def h52x0s3 : Sg Tryz.prog 2 52 :=
 (h52x0s2 N).lp (A52x0x45 N) N progOk (T48x1_ok N) (fun m kn L x => (step52x0x45 N m kn L x).trans (sb52x0x45 N L x _ _)) (fun L m x => (ql52x0x45 N L m x).trans (sb52x0x45 N L x (Q52x0x45 N L m) some)) fun L x hx => alt1 x hx
def F52x0 (v2 : Int) (v4 : LD) (v9 v10 v11 : Int) (v12 : Bool) (v14 : LD) (k0 : Unit → Option R) (k1 : Bool × LD → Option R) : Option R :=
 bif ((v4.length : Int) == 0) then
  k0 ()
 else
  bnd ([(.a [(.i v9), (.i v10), (.i v11)]), (.a [(.i 0), (.i 4), (.i 1)])] : List D) fun y0 =>
  bif (decide ((y0.length + 1) * 24 ≤ room) && decide ((y0.length + 1) ≤ strMax)) then
   bif (decide ((((y0 ++ [(.a [(.i 1), (.i 4), (.i 1)])]) : List D).length + 1) * 24 ≤ room) && decide ((((y0 ++ [(.a [(.i 1), (.i 4), (.i 1)])]) : List D).length + 1) ≤ strMax)) then
    bnd (((y0 ++ [(.a [(.i 1), (.i 4), (.i 1)])]) ++ [(.a [(.i 2), (.i 4), (.i 1)])]) : List D) fun y1 =>
    bif (decide ((y1.length + 1) * 24 ≤ room) && decide ((y1.length + 1) ≤ strMax)) then
     bif (decide ((((y1 ++ [(.a [(.i 3), (.i 2), (.i 0)])]) : List D).length + 1) * 24 ≤ room) && decide ((((y1 ++ [(.a [(.i 3), (.i 2), (.i 0)])]) : List D).length + 1) ≤ strMax)) then
      bnd (((y1 ++ [(.a [(.i 3), (.i 2), (.i 0)])]) ++ [(.a [(.i 4), (.i 2), (.i 0)])]) : List D) fun y2 =>
      bif (decide ((y2.length + 1) * 24 ≤ room) && decide ((y2.length + 1) ≤ strMax)) then
       bnd (G48x1 N 1 20 false (y2 ++ [(.a [(.i 5), (.i 2), (.i 0)])]) v12 v14) fun y3 =>
       bif y3.isSome then
        bnd (G52x0x45 N v4 (v4.length : Int) v12 v2 v4 0 false (y3.getD default)) fun y4 =>
        bif y4.isSome then
         k1 (y4.getD default)
        else
         none
       else
        none
      else
       none
     else
      none
    else
     none
   else
    none
  else
   none
def G52x0 (v2 : Int) (v4 : LD) (v9 v10 v11 : Int) (v12 : Bool) (v14 : LD) : Option (Sum (Unit) (Bool × LD)) := F52x0 N v2 v4 v9 v10 v11 v12 v14 (fun p => some (.inl p)) (fun p => some (.inr p))
theorem bind52x0 (v2 : Int) (v4 : LD) (v9 v10 v11 : Int) (v12 : Bool) (v14 : LD) (k0 : Unit → Option R) (k1 : Bool × LD → Option R) : F52x0 N v2 v4 v9 v10 v11 v12 v14 k0 k1 = (G52x0 N v2 v4 v9 v10 v11 v12 v14).bind (sumE k0 k1) := by
 unfold G52x0 F52x0
 repeat' (first | with_reducible apply cond_b | (with_reducible apply bnd_b; intro _) | rfl)
def J52x0 (L : List Lf) (k0 : Unit → Option R) (k1 : Bool × LD → Option R) : Option R := F52x0 N (li L 2) (ll L 4) (li L 9) (li L 10) (li L 11) (lb L 12) (ll L 14) k0 k1
def sh52x0 : Sh := { tmps := [(0, .c (.p 0 0)), (1, .g (.s :: [.i .i64, .i .i64, .sl 46, .sl 110, .sl 9])), (2, .g ([.i .i64, .i .i64, .i .i64]))], mem := [(0, .box ([.o 1, .b])), (1, .row 39 true)] }
def K52x0w1 (L : List Lf) (p : Bool × LD) : Res := ([], [(50000002, .row 39 true p.1 p.2), (0, .box [.o 50000002, .b (lb L 12)])])
def A52x0 (L : List Lf) : List (Bool × Res) := bnd (J52x0 N L (fun p => some (.inl p)) (fun p => some (.inr p))) fun q => [((inlB q), ([], mgA (ofSh sh52x0 L).mem [] [0, 1])), ((inrQ q).isSome, K52x0w1 L ((inrQ q).getD default))]
theorem raw52x0 (L : List Lf) : bd Tryz.prog (T48x1 N) (h52x0s3 N).h 52 sh52x0 L = J52x0 N L (fun _ => some ([], mgA (ofSh sh52x0 L).mem [] [0, 1])) (fun p => some (K52x0w1 L p)) := by kernel_rfl
theorem ok52x0 : FnOk Tryz.prog 52 sh52x0 (A52x0 N) :=
 (h52x0s3 N).fn progOk (T48x1_ok N) fun L x hx => ((raw52x0 N L).trans ((bind52x0 N ..).trans ((altS alt1) x hx)))
def T52x0 : Oracle := ext 52 (spSh sh52x0 (A52x0 N)) (T48x1 N)
theorem T52x0_ok : OracleOk Tryz.prog (T52x0 N) := FnOk.to (ok52x0 N) (T48x1_ok N)
def rg18x0 : List (Nat × List Nat) := [(0, [0, 1]), (1, [2, 4, 1]), (2, [6, 4, 2, 1]), (3, [6, 4]), (4, [2, 4, 1]), (5, [4]), (6, [1, 2, 4]), (7, [7, 2, 4]), (8, [7, 8, 2, 4]), (9, [7, 8, 9, 2, 4]), (10, [7, 2, 9, 8, 4]), (11, [2, 7, 9, 8, 4]), (12, [7, 9, 2, 8, 4]), (13, [2, 7, 8, 9, 4]), (14, [64, 63, 62, 7, 2, 8, 9, 4]), (15, [62, 64, 7, 63, 2, 8, 9, 4]), (16, [7, 11, 64, 63, 62, 2, 8, 9, 4]), (17, [64, 63, 62, 7, 2, 8, 9, 4]), (18, [2, 7, 8, 9, 4]), (19, [7, 8, 9, 2, 4]), (20, [2, 7, 8, 4]), (21, [88, 87, 86, 7, 2, 8, 4]), (22, [86, 88, 7, 2, 87, 8, 4]), (23, [7, 2, 13, 88, 87, 86, 8, 4]), (24, [88, 87, 86, 7, 2, 8, 4]), (25, [7, 2, 8, 4]), (26, [7, 4])]
def hd18x0 : Hints := [(38, [2, 4, 7, 8, 9, 55], [2, 4, 8, 29, 52000000033], []), (42, [2, 4, 7, 8, 9, 62, 63, 64], [2, 4, 8, 29, 50029000, 61000000027], [50029000]), (59, [2, 4, 7, 8, 9, 77], [2, 4, 8, 29, 50029000], []), (63, [2, 4, 7, 8, 86, 87, 88], [2, 4, 8, 29, 50029000, 85000000027], [50029000]), (76, [2, 4, 7, 8], [2, 4, 8, 29, 50029000], [])]
def h18x0s0 (N : Nat) : Sg Tryz.prog 0 18 := .start hd18x0 rg18x0
def F18x0x38 (w0 w15 : Bool) (w17 : LD) (k0 : LD → Option R) (k1 : Unit → Option R) : Option R :=
 bif w0 then
  bnd (G48x1 N 3 30 false [(.a [(.i 1), (.i 60), (.i 2)])] w15 w17) fun y0 =>
  bif y0.isSome then
   k0 (y0.getD default)
  else
   none
 else
  k1 ()
def G18x0x38 (w0 w15 : Bool) (w17 : LD) : Option (Sum (LD) (Unit)) := F18x0x38 N w0 w15 w17 (fun p => some (.inl p)) (fun p => some (.inr p))
theorem bind18x0x38 (w0 w15 : Bool) (w17 : LD) (k0 : LD → Option R) (k1 : Unit → Option R) : F18x0x38 N w0 w15 w17 k0 k1 = (G18x0x38 N w0 w15 w17).bind (sumE k0 k1) := by
 unfold G18x0x38 F18x0x38
 repeat' (first | with_reducible apply cond_b | (with_reducible apply bnd_b; intro _) | rfl)
def sh18x0x38 : Sh := { tmps := [(2, .c (.p 2 0)), (4, .c (.p 4 0)), (7, .c (.p 29 0)), (8, .c (.p 8 0)), (9, .c (.f 47 [])), (55, .c (.b))], mem := [(2, .box (.s :: [.i .i64, .i .i64, .sl 46, .sl 110, .sl 9])), (4, .box ([.sl 39])), (8, .box ([.i .i64, .i .i64, .i .i64])), (29, .box ([.o 52000000033, .b])), (52000000033, .row 39 true)] }
def K18x0x38w0 (L : List Lf) (p : LD) : Ex × St := (.normal, mg (ofSh sh18x0x38 L) [2, 7, 8, 9, 4] [] [8, 61000000027, 29, 4, 2] [(61000000027, .row 39 true false p), (29, .box [.o 61000000027, .b (lb L 15)])])
def K18x0x38w1 (L : List Lf) (_ : Unit) : Ex × St := (.normal, mg (ofSh sh18x0x38 L) [2, 7, 8, 9, 4] [] [8, 29, 4, 2, 52000000033] [])
def A18x0x38 (L : List Lf) : List (Bool × (Ex × St)) := bnd (F18x0x38 N (lb L 0) (lb L 15) (ll L 17) (fun p => some (.inl p)) (fun p => some (.inr p))) fun q => [((inlB q), K18x0x38w0 L (inlV q)), ((inrQ q).isSome, K18x0x38w1 L ())]
theorem raw18x0x38 (L : List Lf) : pc Tryz.prog (T52x0 N) (h18x0s0 N).h 0 100 18 38 sh18x0x38 L [2, 7, 8, 9, 4] [8, 61000000027, 29, 4, 2, 52000000033] = F18x0x38 N (lb L 0) (lb L 15) (ll L 17) (fun p => some (K18x0x38w0 L p)) (fun _ => some (K18x0x38w1 L ())) := by kernel_rfl
def h18x0s1 : Sg Tryz.prog 0 18 :=
 (h18x0s0 N).cut (A18x0x38 N) progOk (T52x0_ok N) fun L x hx => (raw18x0x38 N L).trans ((bind18x0x38 N ..).trans ((altS alt1) x hx))
def S18x0x42 (w1 : LD) (w2 : Int) (w3 : Int) (w19 : Bool) (w20 : LD) (kr : Int → Bool → LD → Option R) (k0 : Bool × LD → Option R) : Option R :=
 bif (decide (w3 < w2)) then
  bif (inB w3 w1.length) then
   bnd (V51x0 N (w1.getD w3.toNat (.i 0)).toS) fun y0 =>
   bnd (G49x0 N 3 [(.l false y0)] w20) fun y1 =>
   bif y1.isSome then
    kr (IntKind.wrap .i64 (w3 + 1)) false (y1.getD default)
   else
    none
  else
   none
 else
  k0 (w19, w20)
def L18x0x42 (N : Nat) {R : Type} (w1 : LD) (w2 : Int) : Nat → Int → Bool → LD → (Bool × LD → Option R) → Option R
 | 0, _, _, _, _ => none
 | m + 1, w3, w19, w20, k0 => S18x0x42 N w1 w2 w3 w19 w20 (fun w3 w19 w20 => L18x0x42 N w1 w2 m w3 w19 w20 k0) k0
def G18x0x42 (w1 : LD) (w2 : Int) (w3 : Int) (w19 : Bool) (w20 : LD) : Option (Bool × LD) := L18x0x42 N (R := (Bool × LD)) w1 w2 N w3 w19 w20 (fun p => some p)
def J18x0x42 (L x : List Lf) (kr : List Lf → Option R) (k0 : Bool × LD → Option R) : Option R := S18x0x42 N (ll L 1) (li L 2) (li x 0) (lb x 1) (ll x 2) (fun w3 w19 w20 => kr [.i w3, .b w19, .l w20]) k0
theorem sb18x0x42 (L x : List Lf) (kr : List Lf → Option R) (k0 : Bool × LD → Option R) : J18x0x42 N L x kr k0 = (J18x0x42 N L x (fun y => some (.inl y)) (fun p => some (.inr p))).bind (sumE kr k0) := by
 unfold J18x0x42 S18x0x42
 repeat' (first | with_reducible apply cond_b | (with_reducible apply bnd_b; intro _) | rfl)
def Q18x0x42 (L : List Lf) (m : Nat) (x : List Lf) : Option (Bool × LD) := L18x0x42 N (R := (Bool × LD)) (ll L 1) (li L 2) m (li x 0) (lb x 1) (ll x 2) (fun p => some p)
def sh18x0x42 : Sh := { tmps := [(2, .c (.p 2 0)), (4, .c (.p 4 0)), (7, .c (.p 29 0)), (8, .c (.p 8 0)), (9, .c (.f 47 [])), (62, .c (.sl 9)), (63, .c (.i .i64)), (64, .c (.i .i64))], mem := [(2, .box (.s :: [.i .i64, .i .i64, .sl 46, .sl 110, .sl 9])), (4, .box ([.sl 39])), (8, .box ([.i .i64, .i .i64, .i .i64])), (29, .box ([.o 50029000, .b])), (50029000, .row 39 true)] }
def K18x0x42w0 (L : List Lf) (p : Bool × LD) : Ex × St := ((.exit 0), mg (ofSh sh18x0x42 L) [4, 2, 7, 8, 9] [] [8, 50029000, 29, 4, 2] [(50029000, .row 39 true p.1 p.2)])
def A18x0x42 (L : List Lf) : List (Bool × (Ex × St)) := bnd (Q18x0x42 N L N (pk sh18x0x42 [3, 19, 20] L)) fun q => [(q.isSome, K18x0x42w0 L (q.getD default))]
theorem step18x0x42 (m : Nat) (kn : St → Option (Ex × St)) (L x : List Lf) : lpB Tryz.prog (T52x0 N) (h18x0s1 N).h 0 18 42 sh18x0x42 [3, 19, 20] [4, 5, 2, 7, 8, 9] [8, 50029000, 29, 4, 2] (m + 100) kn L x = J18x0x42 N L x (fun y => kn (ofSh sh18x0x42 (mx sh18x0x42 [3, 19, 20] L y))) (fun p => some (K18x0x42w0 L p)) := by kernel_rfl
theorem ql18x0x42 (L : List Lf) (m : Nat) (x : List Lf) : Q18x0x42 N L (m + 1) x = J18x0x42 N L x (Q18x0x42 N L m) some := by kernel_rfl
def h18x0s2 : Sg Tryz.prog 0 18 :=
 (h18x0s1 N).lp (A18x0x42 N) N progOk (T52x0_ok N) (fun m kn L x => (step18x0x42 N m kn L x).trans (sb18x0x42 N L x _ _)) (fun L m x => (ql18x0x42 N L m x).trans (sb18x0x42 N L x (Q18x0x42 N L m) some)) fun L x hx => alt1 x hx
def F18x0x59 (w0 : Bool) (w12 w13 w14 : Int) (w15 : Bool) (w17 : LD) (k0 : LD → Option R) (k1 : Unit → Option R) : Option R :=
 bif w0 then
  bnd (G48x1 N 2 19 false [(.a [(.i w12), (.i w13), (.i w14)]), (.a [(.i 1), (.i 4), (.i 0)]), (.a [(.i 2), (.i 60), (.i 2)])] w15 w17) fun y0 =>
  bif y0.isSome then
   k0 (y0.getD default)
  else
   none
 else
  k1 ()
def G18x0x59 (w0 : Bool) (w12 w13 w14 : Int) (w15 : Bool) (w17 : LD) : Option (Sum (LD) (Unit)) := F18x0x59 N w0 w12 w13 w14 w15 w17 (fun p => some (.inl p)) (fun p => some (.inr p))
theorem bind18x0x59 (w0 : Bool) (w12 w13 w14 : Int) (w15 : Bool) (w17 : LD) (k0 : LD → Option R) (k1 : Unit → Option R) : F18x0x59 N w0 w12 w13 w14 w15 w17 k0 k1 = (G18x0x59 N w0 w12 w13 w14 w15 w17).bind (sumE k0 k1) := by
 unfold G18x0x59 F18x0x59
 repeat' (first | with_reducible apply cond_b | (with_reducible apply bnd_b; intro _) | rfl)
def J18x0x59 (L : List Lf) (k0 : LD → Option R) (k1 : Unit → Option R) : Option R := F18x0x59 N (lb L 0) (li L 12) (li L 13) (li L 14) (lb L 15) (ll L 17) k0 k1
def sh18x0x59 : Sh := { tmps := [(2, .c (.p 2 0)), (4, .c (.p 4 0)), (7, .c (.p 29 0)), (8, .c (.p 8 0)), (9, .c (.f 47 [])), (77, .c (.b))], mem := [(2, .box (.s :: [.i .i64, .i .i64, .sl 46, .sl 110, .sl 9])), (4, .box ([.sl 39])), (8, .box ([.i .i64, .i .i64, .i .i64])), (29, .box ([.o 50029000, .b])), (50029000, .row 39 true)] }
def K18x0x59w0 (L : List Lf) (p : LD) : Ex × St := (.normal, mg (ofSh sh18x0x59 L) [2, 7, 8, 4] [] [8, 85000000027, 29, 4, 2] [(85000000027, .row 39 true false p), (29, .box [.o 85000000027, .b (lb L 15)])])
def K18x0x59w1 (L : List Lf) (_ : Unit) : Ex × St := (.normal, mg (ofSh sh18x0x59 L) [2, 7, 8, 4] [] [8, 29, 4, 2, 50029000] [])
def A18x0x59 (L : List Lf) : List (Bool × (Ex × St)) := bnd (J18x0x59 N L (fun p => some (.inl p)) (fun p => some (.inr p))) fun q => [((inlB q), K18x0x59w0 L (inlV q)), ((inrQ q).isSome, K18x0x59w1 L ())]
theorem raw18x0x59 (L : List Lf) : pc Tryz.prog (T52x0 N) (h18x0s2 N).h 0 100 18 59 sh18x0x59 L [2, 7, 8, 4] [8, 85000000027, 29, 4, 2, 50029000] = J18x0x59 N L (fun p => some (K18x0x59w0 L p)) (fun _ => some (K18x0x59w1 L ())) := by kernel_rfl
def h18x0s3 : Sg Tryz.prog 0 18 :=
 (h18x0s2 N).cut (A18x0x59 N) progOk (T52x0_ok N) fun L x hx => (raw18x0x59 N L).trans ((bind18x0x59 N ..).trans ((altS alt1) x hx))
def S18x0x63 (w1 : LD) (w2 w6 : Int) (w18 : Bool) (w3 : Int) (w19 : Bool) (w20 : LD) (kr : Int → Bool → LD → Option R) (k0 : Bool × LD → Option R) : Option R :=
 bif (decide (w3 < w2)) then
  bif (inB w3 w1.length) then
   bnd (IntKind.wrap .i64 (w6 + ((w1.getD w3.toNat (.i 0)).cell 0).toI)) fun y0 =>
   bnd (G50x0 N y0 4 false w18) fun y1 =>
   bif y1.isSome then
    bnd (IntKind.wrap .i64 (w6 + ((w1.getD w3.toNat (.i 0)).cell 1).toI)) fun y2 =>
    bnd (G50x0 N y2 4 false w18) fun y3 =>
    bif y3.isSome then
     bnd (V51x0 N ((w1.getD w3.toNat (.i 0)).cell 2).toS) fun y4 =>
     bnd (G49x0 N 2 [(.l false (y1.getD default)), (.l false (y3.getD default)), (.l false y4)] w20) fun y5 =>
     bif y5.isSome then
      kr (IntKind.wrap .i64 (w3 + 1)) false (y5.getD default)
     else
      none
    else
     none
   else
    none
  else
   none
 else
  k0 (w19, w20)
def L18x0x63 (N : Nat) {R : Type} (w1 : LD) (w2 w6 : Int) (w18 : Bool) : Nat → Int → Bool → LD → (Bool × LD → Option R) → Option R
 | 0, _, _, _, _ => none
 | m + 1, w3, w19, w20, k0 => S18x0x63 N w1 w2 w6 w18 w3 w19 w20 (fun w3 w19 w20 => L18x0x63 N w1 w2 w6 w18 m w3 w19 w20 k0) k0
def G18x0x63 (w1 : LD) (w2 w6 : Int) (w18 : Bool) (w3 : Int) (w19 : Bool) (w20 : LD) : Option (Bool × LD) := L18x0x63 N (R := (Bool × LD)) w1 w2 w6 w18 N w3 w19 w20 (fun p => some p)
def J18x0x63 (L x : List Lf) (kr : List Lf → Option R) (k0 : Bool × LD → Option R) : Option R := S18x0x63 N (ll L 1) (li L 2) (li L 6) (lb L 18) (li x 0) (lb x 1) (ll x 2) (fun w3 w19 w20 => kr [.i w3, .b w19, .l w20]) k0
theorem sb18x0x63 (L x : List Lf) (kr : List Lf → Option R) (k0 : Bool × LD → Option R) : J18x0x63 N L x kr k0 = (J18x0x63 N L x (fun y => some (.inl y)) (fun p => some (.inr p))).bind (sumE kr k0) := by
 unfold J18x0x63 S18x0x63
 repeat' (first | with_reducible apply cond_b | (with_reducible apply bnd_b; intro _) | rfl)
def Q18x0x63 (L : List Lf) (m : Nat) (x : List Lf) : Option (Bool × LD) := L18x0x63 N (R := (Bool × LD)) (ll L 1) (li L 2) (li L 6) (lb L 18) m (li x 0) (lb x 1) (ll x 2) (fun p => some p)
def sh18x0x63 : Sh := { tmps := [(2, .c (.p 2 0)), (4, .c (.p 4 0)), (7, .c (.p 29 0)), (8, .c (.p 8 0)), (86, .c (.sl 110)), (87, .c (.i .i64)), (88, .c (.i .i64))], mem := [(2, .box (.s :: [.i .i64, .i .i64, .sl 46, .sl 110, .sl 9])), (4, .box ([.sl 39])), (8, .box ([.i .i64, .i .i64, .i .i64])), (29, .box ([.o 50029000, .b])), (50029000, .row 39 true)] }
def K18x0x63w0 (L : List Lf) (p : Bool × LD) : Ex × St := ((.exit 2), mg (ofSh sh18x0x63 L) [4, 7, 2, 8] [] [8, 50029000, 29, 4, 2] [(50029000, .row 39 true p.1 p.2)])
def A18x0x63 (L : List Lf) : List (Bool × (Ex × St)) := bnd (Q18x0x63 N L N (pk sh18x0x63 [3, 19, 20] L)) fun q => [(q.isSome, K18x0x63w0 L (q.getD default))]
theorem step18x0x63 (m : Nat) (kn : St → Option (Ex × St)) (L x : List Lf) : lpB Tryz.prog (T52x0 N) (h18x0s3 N).h 0 18 63 sh18x0x63 [3, 19, 20] [4, 5, 7, 2, 8] [8, 50029000, 29, 4, 2] (m + 100) kn L x = J18x0x63 N L x (fun y => kn (ofSh sh18x0x63 (mx sh18x0x63 [3, 19, 20] L y))) (fun p => some (K18x0x63w0 L p)) := by kernel_rfl
theorem ql18x0x63 (L : List Lf) (m : Nat) (x : List Lf) : Q18x0x63 N L (m + 1) x = J18x0x63 N L x (Q18x0x63 N L m) some := by kernel_rfl
def h18x0s4 : Sg Tryz.prog 0 18 :=
 (h18x0s3 N).lp (A18x0x63 N) N progOk (T52x0_ok N) (fun m kn L x => (step18x0x63 N m kn L x).trans (sb18x0x63 N L x _ _)) (fun L m x => (ql18x0x63 N L m x).trans (sb18x0x63 N L x (Q18x0x63 N L m) some)) fun L x hx => alt1 x hx
def F18x0x76 (w2 : Int) (w4 : LD) (w11 w12 w13 : Int) (w14 : Bool) (w16 : LD) (k0 : Unit → Option R) (k1 : Bool × LD → Option R) : Option R :=
 bnd (G52x0 N w2 w4 w11 w12 w13 w14 w16) fun y0 =>
 bif (inlB y0) then
  k0 ()
 else
  bif (inrQ y0).isSome then
   k1 ((inrQ y0).getD default)
  else
   none
def G18x0x76 (w2 : Int) (w4 : LD) (w11 w12 w13 : Int) (w14 : Bool) (w16 : LD) : Option (Sum (Unit) (Bool × LD)) := F18x0x76 N w2 w4 w11 w12 w13 w14 w16 (fun p => some (.inl p)) (fun p => some (.inr p))
theorem bind18x0x76 (w2 : Int) (w4 : LD) (w11 w12 w13 : Int) (w14 : Bool) (w16 : LD) (k0 : Unit → Option R) (k1 : Bool × LD → Option R) : F18x0x76 N w2 w4 w11 w12 w13 w14 w16 k0 k1 = (G18x0x76 N w2 w4 w11 w12 w13 w14 w16).bind (sumE k0 k1) := by
 unfold G18x0x76 F18x0x76
 repeat' (first | with_reducible apply cond_b | (with_reducible apply bnd_b; intro _) | rfl)
def J18x0x76 (L : List Lf) (k0 : Unit → Option R) (k1 : Bool × LD → Option R) : Option R := F18x0x76 N (li L 2) (ll L 4) (li L 11) (li L 12) (li L 13) (lb L 14) (ll L 16) k0 k1
def sh18x0x76 : Sh := { tmps := [(2, .c (.p 2 0)), (4, .c (.p 4 0)), (7, .c (.p 29 0)), (8, .c (.p 8 0))], mem := [(2, .box (.s :: [.i .i64, .i .i64, .sl 46, .sl 110, .sl 9])), (4, .box ([.sl 39])), (8, .box ([.i .i64, .i .i64, .i .i64])), (29, .box ([.o 50029000, .b])), (50029000, .row 39 true)] }
def K18x0x76w0 (L : List Lf) (_ : Unit) : Ex × St := (.normal, mg (ofSh sh18x0x76 L) [7, 4] [] [50029000, 29, 4] [])
def K18x0x76w1 (L : List Lf) (p : Bool × LD) : Ex × St := (.normal, mg (ofSh sh18x0x76 L) [7, 4] [] [29, 4, 117050000002] [(29, .box [.o 117050000002, .b (lb L 14)]), (117050000002, .row 39 true p.1 p.2)])
def A18x0x76 (L : List Lf) : List (Bool × (Ex × St)) := bnd (J18x0x76 N L (fun p => some (.inl p)) (fun p => some (.inr p))) fun q => [((inlB q), K18x0x76w0 L ()), ((inrQ q).isSome, K18x0x76w1 L ((inrQ q).getD default))]
theorem raw18x0x76 (L : List Lf) : pc Tryz.prog (T52x0 N) (h18x0s4 N).h 0 100 18 76 sh18x0x76 L [7, 4] [50029000, 29, 4, 117050000002] = J18x0x76 N L (fun _ => some (K18x0x76w0 L ())) (fun p => some (K18x0x76w1 L p)) := by kernel_rfl
def h18x0s5 : Sg Tryz.prog 0 18 :=
 (h18x0s4 N).cut (A18x0x76 N) progOk (T52x0_ok N) fun L x hx => (raw18x0x76 N L).trans ((bind18x0x76 N ..).trans ((altS alt1) x hx))
def F18x0 (v0 : LB) (v1 v2 : Int) (v4 v6 v8 : LD) (v9 : Bool) (k0 : Bool × LD × Int → Option R) : Option R :=
 bnd (G45x0 N v0 v1 v2 v4 v6 v8) fun y0 =>
 bif y0.isSome then
  bif ((y0.getD default) != 0) then
   k0 (true, [], (y0.getD default))
  else
   bnd (G46x0 N v4) fun y1 =>
   bif y1.isSome then
    bnd (decide ((IntKind.wrap .i64 (v2 + (y1.getD default))) > 4294967294)) fun y2 =>
    bif y2 then
     k0 (true, [], 9)
    else
     bnd (V48x0 N 0 0 false [(.a [(.i 253), (.i 4), (.i 0)]), (.a [(.i 1), (.i 60), (.i 2)]), (.a [(.i 2), (.i 1), (.i 0)])] v9) fun y3 =>
     bnd (G50x0 N v2 4 false v9) fun y4 =>
     bif y4.isSome then
      bnd (V51x0 N v0) fun y5 =>
      bnd (G50x0 N v1 1 false v9) fun y6 =>
      bif y6.isSome then
       bnd (G49x0 N 0 [(.l false (y4.getD default)), (.l false y5), (.l false (y6.getD default))] y3) fun y7 =>
       bif y7.isSome then
        bnd (G18x0x38 N (decide ((v8.length : Int) > 0)) v9 (y7.getD default)) fun y8 =>
        bif (inlB y8) then
         bnd (G18x0x42 N v8 (v8.length : Int) 0 false (inlV y8)) fun y9 =>
         bif y9.isSome then
          bnd (G18x0x59 N (decide ((v6.length : Int) > 0)) 253 4 0 v9 (y9.getD default).2) fun y10 =>
          bif (inlB y10) then
           bnd (G18x0x63 N v6 (v6.length : Int) v2 v9 0 false (inlV y10)) fun y11 =>
           bif y11.isSome then
            bnd (G18x0x76 N v2 v4 253 4 0 v9 (y11.getD default).2) fun y12 =>
            bif (inlB y12) then
             k0 ((y11.getD default).1, (y11.getD default).2, 0)
            else
             bif (inrQ y12).isSome then
              k0 (((inrQ y12).getD default).1, ((inrQ y12).getD default).2, 0)
             else
              none
           else
            none
          else
           bif (inrQ y10).isSome then
            bnd (G18x0x63 N v6 (v6.length : Int) v2 v9 0 (y9.getD default).1 (y9.getD default).2) fun y13 =>
            bif y13.isSome then
             bnd (G18x0x76 N v2 v4 253 4 0 v9 (y13.getD default).2) fun y14 =>
             bif (inlB y14) then
              k0 ((y13.getD default).1, (y13.getD default).2, 0)
             else
              bif (inrQ y14).isSome then
               k0 (((inrQ y14).getD default).1, ((inrQ y14).getD default).2, 0)
              else
               none
            else
             none
           else
            none
         else
          none
        else
         bif (inrQ y8).isSome then
          bnd (G18x0x42 N v8 (v8.length : Int) 0 false (y7.getD default)) fun y15 =>
          bif y15.isSome then
           bnd (G18x0x59 N (decide ((v6.length : Int) > 0)) 253 4 0 v9 (y15.getD default).2) fun y16 =>
           bif (inlB y16) then
            bnd (G18x0x63 N v6 (v6.length : Int) v2 v9 0 false (inlV y16)) fun y17 =>
            bif y17.isSome then
             bnd (G18x0x76 N v2 v4 253 4 0 v9 (y17.getD default).2) fun y18 =>
             bif (inlB y18) then
              k0 ((y17.getD default).1, (y17.getD default).2, 0)
             else
              bif (inrQ y18).isSome then
               k0 (((inrQ y18).getD default).1, ((inrQ y18).getD default).2, 0)
              else
               none
            else
             none
           else
            bif (inrQ y16).isSome then
             bnd (G18x0x63 N v6 (v6.length : Int) v2 v9 0 (y15.getD default).1 (y15.getD default).2) fun y19 =>
             bif y19.isSome then
              bnd (G18x0x76 N v2 v4 253 4 0 v9 (y19.getD default).2) fun y20 =>
              bif (inlB y20) then
               k0 ((y19.getD default).1, (y19.getD default).2, 0)
              else
               bif (inrQ y20).isSome then
                k0 (((inrQ y20).getD default).1, ((inrQ y20).getD default).2, 0)
               else
                none
             else
              none
            else
             none
          else
           none
         else
          none
       else
        none
      else
       none
     else
      none
   else
    none
 else
  none
def G18x0 (v0 : LB) (v1 v2 : Int) (v4 v6 v8 : LD) (v9 : Bool) : Option (Bool × LD × Int) := F18x0 N v0 v1 v2 v4 v6 v8 v9 (fun p => some p)
theorem bind18x0 (v0 : LB) (v1 v2 : Int) (v4 v6 v8 : LD) (v9 : Bool) (k0 : Bool × LD × Int → Option R) : F18x0 N v0 v1 v2 v4 v6 v8 v9 k0 = (G18x0 N v0 v1 v2 v4 v6 v8 v9).bind k0 := by
 unfold G18x0 F18x0
 repeat' (first | with_reducible apply cond_b | (with_reducible apply bnd_b; intro _) | rfl)
def J18x0 (L : List Lf) (k0 : Bool × LD × Int → Option R) : Option R := F18x0 N (ls L 0) (li L 1) (li L 2) (ll L 4) (ll L 6) (ll L 8) (lb L 9) k0
def sh18x0 : Sh := { tmps := [(0, .g (.s :: [.i .i64, .i .i64, .sl 46, .sl 110, .sl 9])), (1, .c (.b))], mem := [] }
def A18x0 (L : List Lf) : List (Bool × Res) := bnd (J18x0 N L (fun p => some p)) fun q => [(q.isSome, ([.g [.sl 39 (q.getD default).1 (q.getD default).2.1], .c (.i .i64 (q.getD default).2.2)], []))]
theorem raw18x0 (L : List Lf) : bd Tryz.prog (T52x0 N) (h18x0s5 N).h 18 sh18x0 L = J18x0 N L (fun p => some ([.g [.sl 39 p.1 p.2.1], .c (.i .i64 p.2.2)], [])) := by kernel_rfl
theorem ok18x0 : FnOk Tryz.prog 18 sh18x0 (A18x0 N) :=
 (h18x0s5 N).fn progOk (T52x0_ok N) fun L x hx => ((raw18x0 N L).trans ((bind18x0 N ..).trans (alt1 x hx)))
def T18x0 : Oracle := ext 18 (spSh sh18x0 (A18x0 N)) (T52x0 N)
theorem T18x0_ok : OracleOk Tryz.prog (T18x0 N) := FnOk.to (ok18x0 N) (T52x0_ok N)
def rg53x0 : List (Nat × List Nat) := [(0, [0]), (1, [1]), (2, [1, 3]), (3, [1, 3, 4]), (4, [11, 10, 9, 3, 4]), (5, [9, 11, 3, 4, 10]), (6, [3, 4, 6, 11, 10, 9]), (7, [11, 10, 9, 3, 4]), (8, [3])]
def hd53x0 : Hints := [(12, [3, 4, 9, 10, 11], [3, 8000000002], [3])]
def h53x0s0 (N : Nat) : Sg Tryz.prog 0 53 := .start hd53x0 rg53x0
def S53x0x12 (w1 : LD) (w2 : Int) (w3 : Int) (w4 : Bool) (w5 : LD) (w6 : D) (kr : Int → Bool → LD → D → Option R) (k0 : Bool × LD → Option R) : Option R :=
 bif (decide (w3 < w2)) then
  bif (inB w3 w1.length) then
   bnd (G36x0 N ((w1.getD w3.toNat (.i 0)).cell 0).toI ((w1.getD w3.toNat (.i 0)).cell 1).toI ((w1.getD w3.toNat (.i 0)).cell 2).toI ((w1.getD w3.toNat (.i 0)).cell 3).items ((w1.getD w3.toNat (.i 0)).cell 4).items w6) fun y0 =>
   bif y0.isSome then
    bif (decide ((w5.length + 1) * 8 ≤ room) && decide ((w5.length + 1) ≤ strMax)) then
     kr (IntKind.wrap .i64 (w3 + 1)) false (w5 ++ [(.i (y0.getD default).1)]) (y0.getD default).2
    else
     none
   else
    none
  else
   none
 else
  k0 (w4, w5)
def L53x0x12 (N : Nat) {R : Type} (w1 : LD) (w2 : Int) : Nat → Int → Bool → LD → D → (Bool × LD → Option R) → Option R
 | 0, _, _, _, _, _ => none
 | m + 1, w3, w4, w5, w6, k0 => S53x0x12 N w1 w2 w3 w4 w5 w6 (fun w3 w4 w5 w6 => L53x0x12 N w1 w2 m w3 w4 w5 w6 k0) k0
def G53x0x12 (w1 : LD) (w2 : Int) (w3 : Int) (w4 : Bool) (w5 : LD) (w6 : D) : Option (Bool × LD) := L53x0x12 N (R := (Bool × LD)) w1 w2 N w3 w4 w5 w6 (fun p => some p)
def J53x0x12 (L x : List Lf) (kr : List Lf → Option R) (k0 : Bool × LD → Option R) : Option R := S53x0x12 N (ll L 1) (li L 2) (li x 0) (lb x 1) (ll x 2) (ld x 3) (fun w3 w4 w5 w6 => kr [.i w3, .b w4, .l w5, .d w6]) k0
theorem sb53x0x12 (L x : List Lf) (kr : List Lf → Option R) (k0 : Bool × LD → Option R) : J53x0x12 N L x kr k0 = (J53x0x12 N L x (fun y => some (.inl y)) (fun p => some (.inr p))).bind (sumE kr k0) := by
 unfold J53x0x12 S53x0x12
 repeat' (first | with_reducible apply cond_b | (with_reducible apply bnd_b; intro _) | rfl)
def Q53x0x12 (L : List Lf) (m : Nat) (x : List Lf) : Option (Bool × LD) := L53x0x12 N (R := (Bool × LD)) (ll L 1) (li L 2) m (li x 0) (lb x 1) (ll x 2) (ld x 3) (fun p => some p)
def sh53x0x12 : Sh := { tmps := [(3, .c (.o 3)), (4, .c (.p 8000000002 0)), (9, .c (.sl 39)), (10, .c (.i .i64)), (11, .c (.i .i64))], mem := [(3, .row 3 true), (8000000002, .dat 121)] }
def A53x0x12 (L : List Lf) : List (Bool × (Ex × St)) := bnd (Q53x0x12 N L N (pk sh53x0x12 [3, 4, 5, 6] L)) fun q => [(q.isSome, ((.exit 0), ⟨[(3, .c (.o 3))], [(3, .row 3 true (q.getD default).1 (q.getD default).2)]⟩))]
theorem step53x0x12 (m : Nat) (kn : St → Option (Ex × St)) (L x : List Lf) : lpB Tryz.prog (T18x0 N) (h53x0s0 N).h 0 53 12 sh53x0x12 [3, 4, 5, 6] [2, 3] [3] (m + 100) kn L x = J53x0x12 N L x (fun y => kn (ofSh sh53x0x12 (mx sh53x0x12 [3, 4, 5, 6] L y))) (fun p => some ((.exit 0), ⟨[(3, .c (.o 3))], [(3, .row 3 true p.1 p.2)]⟩)) := by kernel_rfl
theorem ql53x0x12 (L : List Lf) (m : Nat) (x : List Lf) : Q53x0x12 N L (m + 1) x = J53x0x12 N L x (Q53x0x12 N L m) some := by kernel_rfl
def h53x0s1 : Sg Tryz.prog 0 53 :=
 (h53x0s0 N).lp (A53x0x12 N) N progOk (T18x0_ok N) (fun m kn L x => (step53x0x12 N m kn L x).trans (sb53x0x12 N L x _ _)) (fun L m x => (ql53x0x12 N L m x).trans (sb53x0x12 N L x (Q53x0x12 N L m) some)) fun L x hx => alt1 x hx
def F53x0 (v1 : LD) (k0 : Bool × LD → Option R) : Option R :=
 bnd (V34x0 N) fun y0 =>
 bnd (G53x0x12 N v1 (v1.length : Int) 0 true [] y0) fun y1 =>
 bif y1.isSome then
  k0 (y1.getD default)
 else
  none
def G53x0 (v1 : LD) : Option (Bool × LD) := F53x0 N v1 (fun p => some p)
theorem bind53x0 (v1 : LD) (k0 : Bool × LD → Option R) : F53x0 N v1 k0 = (G53x0 N v1).bind k0 := by
 unfold G53x0 F53x0
 repeat' (first | with_reducible apply cond_b | (with_reducible apply bnd_b; intro _) | rfl)
def sh53x0 : Sh := { tmps := [(0, .g ([.sl 39]))], mem := [] }
def A53x0 (L : List Lf) : List (Bool × Res) := bnd (F53x0 N (ll L 1) (fun p => some p)) fun q => [(q.isSome, ([.c (.sl 3 (q.getD default).1 (q.getD default).2)], []))]
theorem raw53x0 (L : List Lf) : bd Tryz.prog (T18x0 N) (h53x0s1 N).h 53 sh53x0 L = F53x0 N (ll L 1) (fun p => some ([.c (.sl 3 p.1 p.2)], [])) := by kernel_rfl
theorem ok53x0 : FnOk Tryz.prog 53 sh53x0 (A53x0 N) :=
 (h53x0s1 N).fn progOk (T18x0_ok N) fun L x hx => ((raw53x0 N L).trans ((bind53x0 N ..).trans (alt1 x hx)))
def T53x0 : Oracle := ext 53 (spSh sh53x0 (A53x0 N)) (T18x0 N)
theorem T53x0_ok : OracleOk Tryz.prog (T53x0 N) := FnOk.to (ok53x0 N) (T18x0_ok N)
def rg19x0 : List (Nat × List Nat) := [(0, [0]), (1, [1]), (2, [4, 1]), (3, [4]), (4, [1])]
def hd19x0 : Hints := []
def h19x0s0 (N : Nat) : Sg Tryz.prog 0 19 := .start hd19x0 rg19x0
def F19x0 (v1 : LD) (k0 : Bool × LD × Int → Option R) : Option R :=
 bnd (G13x0 N v1) fun y0 =>
 bif y0.isSome then
  bif ((y0.getD default) != 0) then
   k0 (true, [], (y0.getD default))
  else
   bnd (G53x0 N v1) fun y1 =>
   bif y1.isSome then
    k0 ((y1.getD default).1, (y1.getD default).2, 0)
   else
    none
 else
  none
def G19x0 (v1 : LD) : Option (Bool × LD × Int) := F19x0 N v1 (fun p => some p)
theorem bind19x0 (v1 : LD) (k0 : Bool × LD × Int → Option R) : F19x0 N v1 k0 = (G19x0 N v1).bind k0 := by
 unfold G19x0 F19x0
 repeat' (first | with_reducible apply cond_b | (with_reducible apply bnd_b; intro _) | rfl)
def sh19x0 : Sh := { tmps := [(0, .g ([.sl 39]))], mem := [] }
def A19x0 (L : List Lf) : List (Bool × Res) := bnd (F19x0 N (ll L 1) (fun p => some p)) fun q => [(q.isSome, ([.c (.sl 3 (q.getD default).1 (q.getD default).2.1), .c (.i .i64 (q.getD default).2.2)], []))]
theorem raw19x0 (L : List Lf) : bd Tryz.prog (T53x0 N) (h19x0s0 N).h 19 sh19x0 L = F19x0 N (ll L 1) (fun p => some ([.c (.sl 3 p.1 p.2.1), .c (.i .i64 p.2.2)], [])) := by kernel_rfl
theorem ok19x0 : FnOk Tryz.prog 19 sh19x0 (A19x0 N) :=
 (h19x0s0 N).fn progOk (T53x0_ok N) fun L x hx => ((raw19x0 N L).trans ((bind19x0 N ..).trans (alt1 x hx)))
def T19x0 : Oracle := ext 19 (spSh sh19x0 (A19x0 N)) (T53x0 N)
theorem T19x0_ok : OracleOk Tryz.prog (T19x0 N) := FnOk.to (ok19x0 N) (T53x0_ok N)
def rg20x0 : List (Nat × List Nat) := [(0, [0, 1]), (1, [0, 1]), (2, []), (3, [0, 1]), (4, [13, 12, 0, 1]), (5, [13, 0, 1, 12]), (6, [0, 5, 1, 13, 12]), (7, []), (8, [13, 12, 0, 1]), (9, [])]
def hd20x0 : Hints := [(12, [0, 1, 12, 13], [], [])]
def h20x0s0 (N : Nat) : Sg Tryz.prog 0 20 := .start hd20x0 rg20x0
def S20x0x12 (N : Nat) (w1 w3 : LD) (w4 : Int) (w5 : Int) (kr : Int → Option R) (k0 : Unit → Option R) (k1 : Unit → Option R) : Option R :=
 bif (decide (w5 < w4)) then
  bif (inB w5 w1.length) then
   bif (inB w5 w3.length) then
    bnd ((w1.getD w5.toNat (.i 0)).toI != (w3.getD w5.toNat (.i 0)).toI) fun y0 =>
    bif y0 then
     k0 ()
    else
     kr (IntKind.wrap .i64 (w5 + 1))
   else
    none
  else
   none
 else
  k1 ()
def L20x0x12 (N : Nat) {R : Type} (w1 w3 : LD) (w4 : Int) : Nat → Int → (Unit → Option R) → (Unit → Option R) → Option R
 | 0, _, _, _ => none
 | m + 1, w5, k0, k1 => S20x0x12 N w1 w3 w4 w5 (fun w5 => L20x0x12 N w1 w3 w4 m w5 k0 k1) k0 k1
def G20x0x12 (w1 w3 : LD) (w4 : Int) (w5 : Int) : Option (Sum (Unit) (Unit)) := L20x0x12 N (R := (Sum (Unit) (Unit))) w1 w3 w4 N w5 (fun p => some (.inl p)) (fun p => some (.inr p))
def J20x0x12 (L x : List Lf) (kr : List Lf → Option R) (k0 : Unit → Option R) (k1 : Unit → Option R) : Option R := S20x0x12 N (ll L 1) (ll L 3) (li L 4) (li x 0) (fun w5 => kr [.i w5]) k0 k1
theorem sb20x0x12 (L x : List Lf) (kr : List Lf → Option R) (k0 : Unit → Option R) (k1 : Unit → Option R) : J20x0x12 N L x kr k0 k1 = (J20x0x12 N L x (fun y => some (.inl y)) (fun p => some (.inr (.inl p))) (fun p => some (.inr (.inr p)))).bind (sumE kr (sumE k0 k1)) := by
 unfold J20x0x12 S20x0x12
 repeat' (first | with_reducible apply cond_b | (with_reducible apply bnd_b; intro _) | rfl)
def Q20x0x12 (L : List Lf) (m : Nat) (x : List Lf) : Option (Sum (Unit) (Unit)) := L20x0x12 N (R := (Sum (Unit) (Unit))) (ll L 1) (ll L 3) (li L 4) m (li x 0) (fun p => some (.inl p)) (fun p => some (.inr p))
def sh20x0x12 : Sh := { tmps := [(0, .c (.sl 3)), (1, .c (.sl 3)), (12, .c (.i .i64)), (13, .c (.i .i64))], mem := [] }
def A20x0x12 (L : List Lf) : List (Bool × (Ex × St)) := bnd (Q20x0x12 N L N (pk sh20x0x12 [5] L)) fun q => [((inlB q), (.ret, ⟨[(4, .c (.b false))], []⟩)), ((inrQ q).isSome, ((.exit 0), ⟨[], []⟩))]
theorem step20x0x12 (m : Nat) (kn : St → Option (Ex × St)) (L x : List Lf) : lpB Tryz.prog (T19x0 N) (h20x0s0 N).h 0 20 12 sh20x0x12 [5] [4] [] (m + 100) kn L x = J20x0x12 N L x (fun y => kn (ofSh sh20x0x12 (mx sh20x0x12 [5] L y))) (fun _ => some (.ret, ⟨[(4, .c (.b false))], []⟩)) (fun _ => some ((.exit 0), ⟨[], []⟩)) := by kernel_rfl
theorem ql20x0x12 (L : List Lf) (m : Nat) (x : List Lf) : Q20x0x12 N L (m + 1) x = J20x0x12 N L x (Q20x0x12 N L m) (fun p => some (.inl p)) (fun p => some (.inr p)) := by kernel_rfl
def h20x0s1 : Sg Tryz.prog 0 20 :=
 (h20x0s0 N).lp (A20x0x12 N) N progOk (T19x0_ok N) (fun m kn L x => (step20x0x12 N m kn L x).trans (sb20x0x12 N L x _ _ _)) (fun L m x => (ql20x0x12 N L m x).trans (sb20x0x12 N L x (Q20x0x12 N L m) (fun p => some (.inl p)) (fun p => some (.inr p)))) fun L x hx => (altS alt1) x hx
def F20x0 (v1 v3 : LD) (k0 : Bool → Option R) : Option R :=
 bif ((v1.length : Int) != (v3.length : Int)) then
  k0 false
 else
  bnd (G20x0x12 N v1 v3 (v1.length : Int) 0) fun y0 =>
  bif (inlB y0) then
   k0 false
  else
   bif (inrQ y0).isSome then
    k0 true
   else
    none
def G20x0 (v1 v3 : LD) : Option (Bool) := F20x0 N v1 v3 (fun p => some p)
theorem bind20x0 (v1 v3 : LD) (k0 : Bool → Option R) : F20x0 N v1 v3 k0 = (G20x0 N v1 v3).bind k0 := by
 unfold G20x0 F20x0
 repeat' (first | with_reducible apply cond_b | (with_reducible apply bnd_b; intro _) | rfl)
def sh20x0 : Sh := { tmps := [(0, .c (.sl 3)), (1, .c (.sl 3))], mem := [] }
def A20x0 (L : List Lf) : List (Bool × Res) := bnd (F20x0 N (ll L 1) (ll L 3) (fun p => some p)) fun q => [(q.isSome, ([.c (.b (q.getD default))], []))]
theorem raw20x0 (L : List Lf) : bd Tryz.prog (T19x0 N) (h20x0s1 N).h 20 sh20x0 L = F20x0 N (ll L 1) (ll L 3) (fun p => some ([.c (.b p)], [])) := by kernel_rfl
theorem ok20x0 : FnOk Tryz.prog 20 sh20x0 (A20x0 N) :=
 (h20x0s1 N).fn progOk (T19x0_ok N) fun L x hx => ((raw20x0 N L).trans ((bind20x0 N ..).trans (alt1 x hx)))
def T20x0 : Oracle := ext 20 (spSh sh20x0 (A20x0 N)) (T19x0 N)
theorem T20x0_ok : OracleOk Tryz.prog (T20x0 N) := FnOk.to (ok20x0 N) (T19x0_ok N)
def rg8x0 : List (Nat × List Nat) := [(0, []), (1, []), (2, [1]), (3, [2, 3]), (4, [3, 5, 4])]
def hd8x0 : Hints := [(13, [3, 4, 5], [], [])]
def h8x0s0 (N : Nat) : Sg Tryz.prog 0 8 := .start hd8x0 rg8x0
def F8x0x13 (w0 : Int) (w2 : LD) (w3 : Int) (k0 : Bool → Option R) : Option R :=
 bif (bif (w0 == 0) then (w3 == 0) else false) then
  bnd (G20x0 N w2 [(.i (-1)), (.i 100), (.i (-1)), (.i 100), (.i 105)]) fun y0 =>
  bif y0.isSome then
   k0 (y0.getD default)
  else
   none
 else
  k0 false
def G8x0x13 (w0 : Int) (w2 : LD) (w3 : Int) : Option (Bool) := F8x0x13 N w0 w2 w3 (fun p => some p)
theorem bind8x0x13 (w0 : Int) (w2 : LD) (w3 : Int) (k0 : Bool → Option R) : F8x0x13 N w0 w2 w3 k0 = (G8x0x13 N w0 w2 w3).bind k0 := by
 unfold G8x0x13 F8x0x13
 repeat' (first | with_reducible apply cond_b | (with_reducible apply bnd_b; intro _) | rfl)
def sh8x0x13 : Sh := { tmps := [(3, .c (.i .i64)), (4, .c (.sl 3)), (5, .c (.i .i64))], mem := [] }
def A8x0x13 (L : List Lf) : List (Bool × (Ex × St)) := bnd (F8x0x13 N (li L 0) (ll L 2) (li L 3) (fun p => some p)) fun q => [(q.isSome, (.normal, ⟨[(0, .c (.b (q.getD default)))], []⟩))]
theorem raw8x0x13 (L : List Lf) : pc Tryz.prog (T20x0 N) (h8x0s0 N).h 0 100 8 13 sh8x0x13 L [0] [] = F8x0x13 N (li L 0) (ll L 2) (li L 3) (fun p => some (.normal, ⟨[(0, .c (.b p))], []⟩)) := by kernel_rfl
def h8x0s1 : Sg Tryz.prog 0 8 :=
 (h8x0s0 N).cut (A8x0x13 N) progOk (T20x0_ok N) fun L x hx => (raw8x0x13 N L).trans ((bind8x0x13 N ..).trans (alt1 x hx))
def F8x0 (k0 : Bool → Option R) : Option R :=
 bnd (G18x0 N ([109] : List UInt8) 1 100 [(.a [(.i 0), (.i 0), (.i 0), (.i 0), (.i (-1)), (.i (-1)), (.i (-1))]), (.a [(.i 5), (.i 4), (.i 0), (.i 0), (.i 120), (.i (-1)), (.i (-1))])] [] [] false) fun y0 =>
 bif y0.isSome then
  bnd (G19x0 N (y0.getD default).2.1) fun y1 =>
  bif y1.isSome then
   bnd (G8x0x13 N (y0.getD default).2.2 (y1.getD default).2.1 (y1.getD default).2.2) fun y2 =>
   bif y2.isSome then
    k0 (y2.getD default)
   else
    none
  else
   none
 else
  none
def G8x0 : Option (Bool) := F8x0 N (fun p => some p)
theorem bind8x0 (k0 : Bool → Option R) : F8x0 N k0 = (G8x0 N).bind k0 := by
 unfold G8x0 F8x0
 repeat' (first | with_reducible apply cond_b | (with_reducible apply bnd_b; intro _) | rfl)
def sh8x0 : Sh := { tmps := [], mem := [] }
def A8x0 (L : List Lf) : List (Bool × Res) := bnd (F8x0 N (fun p => some p)) fun q => [(q.isSome, ([.c (.b (q.getD default))], []))]
theorem raw8x0 (L : List Lf) : bd Tryz.prog (T20x0 N) (h8x0s1 N).h 8 sh8x0 L = F8x0 N (fun p => some ([.c (.b p)], [])) := by kernel_rfl
theorem ok8x0 : FnOk Tryz.prog 8 sh8x0 (A8x0 N) :=
 (h8x0s1 N).fn progOk (T20x0_ok N) fun L x hx => ((raw8x0 N L).trans ((bind8x0 N ..).trans (alt1 x hx)))
def T8x0 : Oracle := ext 8 (spSh sh8x0 (A8x0 N)) (T20x0 N)
theorem T8x0_ok : OracleOk Tryz.prog (T8x0 N) := FnOk.to (ok8x0 N) (T20x0_ok N)
def rg79x0 : List (Nat × List Nat) := [(0, [0, 1]), (1, [0, 1])]
def hd79x0 : Hints := []
def h79x0s0 (N : Nat) : Sg Tryz.prog 0 79 := .start hd79x0 rg79x0
def F79x0 (N : Nat) (v0 : LB) (v1 : Int) (k0 : Int → R) : R :=
 k0 (Lib.indexByte v0 v1.toNat.toUInt8)
def V79x0 (v0 : LB) (v1 : Int) : Int := F79x0 N v0 v1 (fun p => p)
theorem tot79x0 (v0 : LB) (v1 : Int) (k0 : Int → R) : F79x0 N v0 v1 k0 = k0 (V79x0 N v0 v1) := by
 unfold V79x0 F79x0
 repeat' (first | rfl | apply cond_k | (apply bnd_k; intro _))
def sh79x0 : Sh := { tmps := [(0, .c (.s)), (1, .c (.i .u8))], mem := [] }
def A79x0 (L : List Lf) : List (Bool × Res) := bnd (F79x0 N (ls L 0) (li L 1) (fun p => p)) fun q => [(true, ([.c (.i .i64 q)], []))]
theorem raw79x0 (L : List Lf) : bd Tryz.prog (T8x0 N) (h79x0s0 N).h 79 sh79x0 L = F79x0 N (ls L 0) (li L 1) (fun p => some ([.c (.i .i64 p)], [])) := by kernel_rfl
theorem ok79x0 : FnOk Tryz.prog 79 sh79x0 (A79x0 N) :=
 (h79x0s0 N).fn progOk (T8x0_ok N) fun L x hx => ((raw79x0 N L).trans ((tot79x0 N ..).trans (alt0 _ _ hx)))
def T79x0 : Oracle := ext 79 (spSh sh79x0 (A79x0 N)) (T8x0 N)
theorem T79x0_ok : OracleOk Tryz.prog (T79x0 N) := FnOk.to (ok79x0 N) (T8x0_ok N)
def rg57x0 : List (Nat × List Nat) := [(0, [1, 0]), (1, [1, 0]), (2, [5, 1, 0]), (4, [5, 0, 1]), (6, [5, 0, 1]), (8, [5, 0, 1]), (9, [0, 1]), (7, []), (5, [0, 1]), (3, []), (10, [1, 0, 5]), (11, [1, 0, 5, 6]), (12, [0, 5, 6, 7, 1]), (13, [0, 5, 8, 6, 7, 1]), (14, [8, 9, 0, 6, 7, 5, 1]), (15, [8, 9, 0, 6, 7, 5, 1, 10]), (16, [0, 8, 6, 9, 7, 5, 1, 10]), (17, [0, 8, 9, 6, 7, 5, 1, 10]), (18, [11, 8, 0, 7, 5, 1, 10, 9, 6]), (19, []), (20, [8, 11, 0, 7, 5, 1, 10, 9, 6]), (21, [0, 8, 7, 5, 1, 10, 9, 6]), (22, [8]), (23, [8, 10, 5, 0, 1, 9, 6, 7]), (24, [10, 5, 8, 0, 1, 9, 6, 7]), (25, [5, 10, 8, 0, 1, 9, 6, 7]), (30, [5, 10, 8, 9, 0, 1, 6, 7]), (31, [0, 8, 1]), (32, [13, 8]), (33, []), (34, [8, 13]), (26, [0, 8, 1]), (27, [12, 8]), (28, [12, 8]), (29, []), (35, [])]
def hd57x0 : Hints := []
def h57x0s0 (N : Nat) : Sg Tryz.prog 0 57 := .start hd57x0 rg57x0
def F57x0 (v0 : LB) (k0 : Int → R) : R :=
 bif (([10] : List UInt8) == v0) then
  k0 0
 else
  bnd (V79x0 N v0 10) fun y0 =>
  k0 y0
def V57x0 (v0 : LB) : Int := F57x0 N v0 (fun p => p)
theorem tot57x0 (v0 : LB) (k0 : Int → R) : F57x0 N v0 k0 = k0 (V57x0 N v0) := by
 unfold V57x0 F57x0
 repeat' (first | rfl | apply cond_k | (apply bnd_k; intro _))
def sh57x0 : Sh := { tmps := [(0, .c (.s)), (1, .c (.ks [10]))], mem := [] }
def A57x0 (L : List Lf) : List (Bool × Res) := bnd (F57x0 N (ls L 0) (fun p => p)) fun q => [(true, ([.c (.i .i64 q)], []))]
theorem raw57x0 (L : List Lf) : bd Tryz.prog (T79x0 N) (h57x0s0 N).h 57 sh57x0 L = F57x0 N (ls L 0) (fun p => some ([.c (.i .i64 p)], [])) := by kernel_rfl
theorem ok57x0 : FnOk Tryz.prog 57 sh57x0 (A57x0 N) :=
 (h57x0s0 N).fn progOk (T79x0_ok N) fun L x hx => ((raw57x0 N L).trans ((tot57x0 N ..).trans (alt0 _ _ hx)))
def T57x0 : Oracle := ext 57 (spSh sh57x0 (A57x0 N)) (T79x0 N)
theorem T57x0_ok : OracleOk Tryz.prog (T57x0 N) := FnOk.to (ok57x0 N) (T79x0_ok N)
def rg29x0 : List (Nat × List Nat) := [(0, [0, 1]), (1, [0, 1]), (2, [7, 0, 1]), (3, [0, 7, 1]), (4, [0])]
def hd29x0 : Hints := []
def h29x0s0 (N : Nat) : Sg Tryz.prog 0 29 := .start hd29x0 rg29x0
def F29x0 (v0 : LB) (k0 : Ty1 → Option R) : Option R :=
 bnd (V57x0 N v0) fun y0 =>
 bif (decide (y0 ≥ 0)) then
  bif ((decide (0 ≤ y0)) && (decide (y0 ≤ (v0.length : Int)))) then
   bif (((decide (0 ≤ (IntKind.wrap .i64 (y0 + 1)))) && (decide ((IntKind.wrap .i64 (y0 + 1)) ≤ (v0.length : Int)))) && (decide ((v0.length : Int) ≤ (v0.length : Int)))) then
    bnd ((v0.take (v0.length : Int).toNat).drop (IntKind.wrap .i64 (y0 + 1)).toNat) fun y1 =>
    k0 (((v0.take y0.toNat).drop 0), y1, true)
   else
    none
  else
   none
 else
  k0 (v0, ([] : List UInt8), false)
def G29x0 (v0 : LB) : Option (Ty1) := F29x0 N v0 (fun p => some p)
theorem bind29x0 (v0 : LB) (k0 : Ty1 → Option R) : F29x0 N v0 k0 = (G29x0 N v0).bind k0 := by
 unfold G29x0 F29x0
 repeat' (first | with_reducible apply cond_b | (with_reducible apply bnd_b; intro _) | rfl)
def sh29x0 : Sh := { tmps := [(0, .c (.s)), (1, .c (.ks [10]))], mem := [] }
def A29x0 (L : List Lf) : List (Bool × Res) := bnd (F29x0 N (ls L 0) (fun p => some p)) fun q => [(q.isSome, ([.c (.s (q.getD default).1), .c (.s (q.getD default).2.1), .c (.b (q.getD default).2.2)], []))]
theorem raw29x0 (L : List Lf) : bd Tryz.prog (T57x0 N) (h29x0s0 N).h 29 sh29x0 L = F29x0 N (ls L 0) (fun p => some ([.c (.s p.1), .c (.s p.2.1), .c (.b p.2.2)], [])) := by kernel_rfl
theorem ok29x0 : FnOk Tryz.prog 29 sh29x0 (A29x0 N) :=
 (h29x0s0 N).fn progOk (T57x0_ok N) fun L x hx => ((raw29x0 N L).trans ((bind29x0 N ..).trans (alt1 x hx)))
def T29x0 : Oracle := ext 29 (spSh sh29x0 (A29x0 N)) (T57x0 N)
theorem T29x0_ok : OracleOk Tryz.prog (T29x0 N) := FnOk.to (ok29x0 N) (T57x0_ok N)
def rg11x0 : List (Nat × List Nat) := [(0, [0, 1]), (1, [0, 1])]
def hd11x0 : Hints := []
def h11x0s0 (N : Nat) : Sg Tryz.prog 0 11 := .start hd11x0 rg11x0
def F11x0 (v0 : LB) (k0 : Ty1 → Option R) : Option R :=
 bnd (G29x0 N v0) fun y0 =>
 bif y0.isSome then
  k0 (y0.getD default)
 else
  none
def G11x0 (v0 : LB) : Option (Ty1) := F11x0 N v0 (fun p => some p)
theorem bind11x0 (v0 : LB) (k0 : Ty1 → Option R) : F11x0 N v0 k0 = (G11x0 N v0).bind k0 := by
 unfold G11x0 F11x0
 repeat' (first | with_reducible apply cond_b | (with_reducible apply bnd_b; intro _) | rfl)
def sh11x0 : Sh := { tmps := [(0, .c (.s)), (1, .c (.ks [10]))], mem := [] }
def A11x0 (L : List Lf) : List (Bool × Res) := bnd (F11x0 N (ls L 0) (fun p => some p)) fun q => [(q.isSome, ([.c (.s (q.getD default).1), .c (.s (q.getD default).2.1), .c (.b (q.getD default).2.2)], []))]
theorem raw11x0 (L : List Lf) : bd Tryz.prog (T29x0 N) (h11x0s0 N).h 11 sh11x0 L = F11x0 N (ls L 0) (fun p => some ([.c (.s p.1), .c (.s p.2.1), .c (.b p.2.2)], [])) := by kernel_rfl
theorem ok11x0 : FnOk Tryz.prog 11 sh11x0 (A11x0 N) :=
 (h11x0s0 N).fn progOk (T29x0_ok N) fun L x hx => ((raw11x0 N L).trans ((bind11x0 N ..).trans (alt1 x hx)))
def T11x0 : Oracle := ext 11 (spSh sh11x0 (A11x0 N)) (T29x0 N)
theorem T11x0_ok : OracleOk Tryz.prog (T11x0 N) := FnOk.to (ok11x0 N) (T29x0_ok N)
def rg31x0 : List (Nat × List Nat) := [(0, [0, 1]), (1, [0, 1]), (2, [1, 6, 0, 5]), (3, [5])]
def hd31x0 : Hints := [(7, [0, 1, 5, 6], [0], [])]
def h31x0s0 (N : Nat) : Sg Tryz.prog 1 31 := .start hd31x0 rg31x0
def F31x0x7 (N : Nat) (w0 : LB) (w1 : Int) (w2 w3 : Bool) (k0 : Bool → Option R) : Option R :=
 bnd (bif (bif w3 then w2 else false) then (decide ((w0.length : Int) ≤ 9)) else false) fun y0 =>
 bif (bif y0 then (decide (w1 ≥ 0)) else false) then
  bif (i64B w1) then
   k0 ((Lib.itoa w1) == w0)
  else
   none
 else
  k0 false
def G31x0x7 (w0 : LB) (w1 : Int) (w2 w3 : Bool) : Option (Bool) := F31x0x7 N w0 w1 w2 w3 (fun p => some p)
theorem bind31x0x7 (w0 : LB) (w1 : Int) (w2 w3 : Bool) (k0 : Bool → Option R) : F31x0x7 N w0 w1 w2 w3 k0 = (G31x0x7 N w0 w1 w2 w3).bind k0 := by
 unfold G31x0x7 F31x0x7
 repeat' (first | with_reducible apply cond_b | (with_reducible apply bnd_b; intro _) | rfl)
def J31x0x7 (L : List Lf) (k0 : Bool → Option R) : Option R := F31x0x7 N (ls L 0) (li L 1) (lb L 2) (lb L 3) k0
def sh31x0x7 : Sh := { tmps := [(0, .c (.s)), (1, .c (.p 0 0)), (5, .c (.i .i64)), (6, .c (.ifc))], mem := [(0, .box ([.b]))] }
def K31x0x7w0 (L : List Lf) (p : Bool) : Ex × St := (.normal, ⟨[(5, .c (.i .i64 (li L 1)))], [(0, .box [.b p])]⟩)
def A31x0x7 (L : List Lf) : List (Bool × (Ex × St)) := bnd (J31x0x7 N L (fun p => some p)) fun q => [(q.isSome, K31x0x7w0 L (q.getD default))]
theorem raw31x0x7 (L : List Lf) : pc Tryz.prog (T11x0 N) (h31x0s0 N).h 1 100 31 7 sh31x0x7 L [5] [0] = J31x0x7 N L (fun p => some (K31x0x7w0 L p)) := by kernel_rfl
def h31x0s1 : Sg Tryz.prog 1 31 :=
 (h31x0s0 N).cut (A31x0x7 N) progOk (T11x0_ok N) fun L x hx => (raw31x0x7 N L).trans ((bind31x0x7 N ..).trans (alt1 x hx))
def F31x0 (v0 : LB) (k0 : Int × Bool → Option R) : Option R :=
 bif (Nat.ble v0.length 281474976710656) then
  bnd (G31x0x7 N v0 (atoiV v0) (atoiOk v0) true) fun y0 =>
  bif y0.isSome then
   k0 ((atoiV v0), (y0.getD default))
  else
   none
 else
  none
def G31x0 (v0 : LB) : Option (Int × Bool) := F31x0 N v0 (fun p => some p)
theorem bind31x0 (v0 : LB) (k0 : Int × Bool → Option R) : F31x0 N v0 k0 = (G31x0 N v0).bind k0 := by
 unfold G31x0 F31x0
 repeat' (first | with_reducible apply cond_b | (with_reducible apply bnd_b; intro _) | rfl)
def sh31x0 : Sh := { tmps := [(0, .c (.s)), (1, .c (.p 0 0))], mem := [(0, .box ([.k true]))] }
def A31x0 (L : List Lf) : List (Bool × Res) := bnd (F31x0 N (ls L 0) (fun p => some p)) fun q => [(q.isSome, ([.c (.i .i64 (q.getD default).1)], [(0, .box [.b (q.getD default).2])]))]
theorem raw31x0 (L : List Lf) : bd Tryz.prog (T11x0 N) (h31x0s1 N).h 31 sh31x0 L = F31x0 N (ls L 0) (fun p => some ([.c (.i .i64 p.1)], [(0, .box [.b p.2])])) := by kernel_rfl
theorem ok31x0 : FnOk Tryz.prog 31 sh31x0 (A31x0 N) :=
 (h31x0s1 N).fn progOk (T11x0_ok N) fun L x hx => ((raw31x0 N L).trans ((bind31x0 N ..).trans (alt1 x hx)))
def T31x0 : Oracle := ext 31 (spSh sh31x0 (A31x0 N)) (T11x0 N)
theorem T31x0_ok : OracleOk Tryz.prog (T31x0 N) := FnOk.to (ok31x0 N) (T11x0_ok N)
def rg31x1 : List (Nat × List Nat) := [(0, [0, 1]), (1, [0, 1]), (2, [1, 6, 0, 5]), (3, [5])]
def hd31x1 : Hints := [(7, [0, 1, 5, 6], [0], [])]
def h31x1s0 (N : Nat) : Sg Tryz.prog 1 31 := .start hd31x1 rg31x1
def F31x1x7 (N : Nat) (w0 : LB) (w1 : Int) (w2 w3 : Bool) (k0 : Bool → Option R) : Option R :=
 bnd (bif (bif w3 then w2 else false) then (decide ((w0.length : Int) ≤ 9)) else false) fun y0 =>
 bif (bif y0 then (decide (w1 ≥ 0)) else false) then
  bif (i64B w1) then
   k0 ((Lib.itoa w1) == w0)
  else
   none
 else
  k0 false
def G31x1x7 (w0 : LB) (w1 : Int) (w2 w3 : Bool) : Option (Bool) := F31x1x7 N w0 w1 w2 w3 (fun p => some p)
theorem bind31x1x7 (w0 : LB) (w1 : Int) (w2 w3 : Bool) (k0 : Bool → Option R) : F31x1x7 N w0 w1 w2 w3 k0 = (G31x1x7 N w0 w1 w2 w3).bind k0 := by
 unfold G31x1x7 F31x1x7
 repeat' (first | with_reducible apply cond_b | (with_reducible apply bnd_b; intro _) | rfl)
def J31x1x7 (L : List Lf) (k0 : Bool → Option R) : Option R := F31x1x7 N (ls L 0) (li L 1) (lb L 2) (lb L 3) k0
def sh31x1x7 : Sh := { tmps := [(0, .c (.s)), (1, .c (.p 0 0)), (5, .c (.i .i64)), (6, .c (.ifc))], mem := [(0, .box ([.b]))] }
def K31x1x7w0 (L : List Lf) (p : Bool) : Ex × St := (.normal, ⟨[(5, .c (.i .i64 (li L 1)))], [(0, .box [.b p])]⟩)
def A31x1x7 (L : List Lf) : List (Bool × (Ex × St)) := bnd (J31x1x7 N L (fun p => some p)) fun q => [(q.isSome, K31x1x7w0 L (q.getD default))]
theorem raw31x1x7 (L : List Lf) : pc Tryz.prog (T31x0 N) (h31x1s0 N).h 1 100 31 7 sh31x1x7 L [5] [0] = J31x1x7 N L (fun p => some (K31x1x7w0 L p)) := by kernel_rfl
def h31x1s1 : Sg Tryz.prog 1 31 :=
 (h31x1s0 N).cut (A31x1x7 N) progOk (T31x0_ok N) fun L x hx => (raw31x1x7 N L).trans ((bind31x1x7 N ..).trans (alt1 x hx))
def F31x1 (v0 : LB) (v1 : Bool) (k0 : Int × Bool → Option R) : Option R :=
 bif (Nat.ble v0.length 281474976710656) then
  bnd (G31x1x7 N v0 (atoiV v0) (atoiOk v0) v1) fun y0 =>
  bif y0.isSome then
   k0 ((atoiV v0), (y0.getD default))
  else
   none
 else
  none
def G31x1 (v0 : LB) (v1 : Bool) : Option (Int × Bool) := F31x1 N v0 v1 (fun p => some p)
theorem bind31x1 (v0 : LB) (v1 : Bool) (k0 : Int × Bool → Option R) : F31x1 N v0 v1 k0 = (G31x1 N v0 v1).bind k0 := by
 unfold G31x1 F31x1
 repeat' (first | with_reducible apply cond_b | (with_reducible apply bnd_b; intro _) | rfl)
def sh31x1 : Sh := { tmps := [(0, .c (.s)), (1, .c (.p 0 0))], mem := [(0, .box ([.b]))] }
def A31x1 (L : List Lf) : List (Bool × Res) := bnd (F31x1 N (ls L 0) (lb L 1) (fun p => some p)) fun q => [(q.isSome, ([.c (.i .i64 (q.getD default).1)], [(0, .box [.b (q.getD default).2])]))]
theorem raw31x1 (L : List Lf) : bd Tryz.prog (T31x0 N) (h31x1s1 N).h 31 sh31x1 L = F31x1 N (ls L 0) (lb L 1) (fun p => some ([.c (.i .i64 p.1)], [(0, .box [.b p.2])])) := by kernel_rfl
theorem ok31x1 : FnOk Tryz.prog 31 sh31x1 (A31x1 N) :=
 (h31x1s1 N).fn progOk (T31x0_ok N) fun L x hx => ((raw31x1 N L).trans ((bind31x1 N ..).trans (alt1 x hx)))
def T31x1 : Oracle := ext 31 (spSh sh31x1 (A31x1 N)) (T31x0 N)
theorem T31x1_ok : OracleOk Tryz.prog (T31x1 N) := FnOk.to (ok31x1 N) (T31x0_ok N)
def rg32x0 : List (Nat × List Nat) := [(0, [0, 1]), (1, [0, 1]), (2, [8, 7, 1, 0]), (3, [8, 1, 0, 7]), (4, [1, 0, 5, 8, 7]), (5, [5]), (6, [8, 7, 1, 0]), (7, [])]
def hd32x0 : Hints := [(6, [0, 1, 7, 8], [], [])]
def h32x0s0 (N : Nat) : Sg Tryz.prog 0 32 := .start hd32x0 rg32x0
def S32x0x6 (N : Nat) (w1 : LD) (w2 : LB) (w3 : Int) (w4 : Int) (kr : Int → Option R) (k0 : Int → Option R) (k1 : Unit → Option R) : Option R :=
 bif (decide (w4 < w3)) then
  bif (inB w4 w1.length) then
   bif (w2 == (w1.getD w4.toNat (.i 0)).toS) then
    k0 w4
   else
    kr (IntKind.wrap .i64 (w4 + 1))
  else
   none
 else
  k1 ()
def L32x0x6 (N : Nat) {R : Type} (w1 : LD) (w2 : LB) (w3 : Int) : Nat → Int → (Int → Option R) → (Unit → Option R) → Option R
 | 0, _, _, _ => none
 | m + 1, w4, k0, k1 => S32x0x6 N w1 w2 w3 w4 (fun w4 => L32x0x6 N w1 w2 w3 m w4 k0 k1) k0 k1
def G32x0x6 (w1 : LD) (w2 : LB) (w3 : Int) (w4 : Int) : Option (Sum (Int) (Unit)) := L32x0x6 N (R := (Sum (Int) (Unit))) w1 w2 w3 N w4 (fun p => some (.inl p)) (fun p => some (.inr p))
def J32x0x6 (L x : List Lf) (kr : List Lf → Option R) (k0 : Int → Option R) (k1 : Unit → Option R) : Option R := S32x0x6 N (ll L 1) (ls L 2) (li L 3) (li x 0) (fun w4 => kr [.i w4]) k0 k1
theorem sb32x0x6 (L x : List Lf) (kr : List Lf → Option R) (k0 : Int → Option R) (k1 : Unit → Option R) : J32x0x6 N L x kr k0 k1 = (J32x0x6 N L x (fun y => some (.inl y)) (fun p => some (.inr (.inl p))) (fun p => some (.inr (.inr p)))).bind (sumE kr (sumE k0 k1)) := by
 unfold J32x0x6 S32x0x6
 repeat' (first | with_reducible apply cond_b | (with_reducible apply bnd_b; intro _) | rfl)
def Q32x0x6 (L : List Lf) (m : Nat) (x : List Lf) : Option (Sum (Int) (Unit)) := L32x0x6 N (R := (Sum (Int) (Unit))) (ll L 1) (ls L 2) (li L 3) m (li x 0) (fun p => some (.inl p)) (fun p => some (.inr p))
def sh32x0x6 : Sh := { tmps := [(0, .c (.sl 9)), (1, .c (.s)), (7, .c (.i .i64)), (8, .c (.i .i64))], mem := [] }
def A32x0x6 (L : List Lf) : List (Bool × (Ex × St)) := bnd (Q32x0x6 N L N (pk sh32x0x6 [4] L)) fun q => [((inlB q), (.ret, ⟨[(4, .c (.i .i64 (inlV q)))], []⟩)), ((inrQ q).isSome, ((.exit 0), ⟨[], []⟩))]
theorem step32x0x6 (m : Nat) (kn : St → Option (Ex × St)) (L x : List Lf) : lpB Tryz.prog (T31x1 N) (h32x0s0 N).h 0 32 6 sh32x0x6 [4] [4] [] (m + 100) kn L x = J32x0x6 N L x (fun y => kn (ofSh sh32x0x6 (mx sh32x0x6 [4] L y))) (fun p => some (.ret, ⟨[(4, .c (.i .i64 p))], []⟩)) (fun _ => some ((.exit 0), ⟨[], []⟩)) := by kernel_rfl
theorem ql32x0x6 (L : List Lf) (m : Nat) (x : List Lf) : Q32x0x6 N L (m + 1) x = J32x0x6 N L x (Q32x0x6 N L m) (fun p => some (.inl p)) (fun p => some (.inr p)) := by kernel_rfl
def h32x0s1 : Sg Tryz.prog 0 32 :=
 (h32x0s0 N).lp (A32x0x6 N) N progOk (T31x1_ok N) (fun m kn L x => (step32x0x6 N m kn L x).trans (sb32x0x6 N L x _ _ _)) (fun L m x => (ql32x0x6 N L m x).trans (sb32x0x6 N L x (Q32x0x6 N L m) (fun p => some (.inl p)) (fun p => some (.inr p)))) fun L x hx => (altS alt1) x hx
def F32x0 (v1 : LD) (v2 : LB) (k0 : Int → Option R) : Option R :=
 bnd (G32x0x6 N v1 v2 (v1.length : Int) 0) fun y0 =>
 bif (inlB y0) then
  k0 (inlV y0)
 else
  bif (inrQ y0).isSome then
   k0 (-1)
  else
   none
def G32x0 (v1 : LD) (v2 : LB) : Option (Int) := F32x0 N v1 v2 (fun p => some p)
theorem bind32x0 (v1 : LD) (v2 : LB) (k0 : Int → Option R) : F32x0 N v1 v2 k0 = (G32x0 N v1 v2).bind k0 := by
 unfold G32x0 F32x0
 repeat' (first | with_reducible apply cond_b | (with_reducible apply bnd_b; intro _) | rfl)
def sh32x0 : Sh := { tmps := [(0, .c (.sl 9)), (1, .c (.s))], mem := [] }
def A32x0 (L : List Lf) : List (Bool × Res) := bnd (F32x0 N (ll L 1) (ls L 2) (fun p => some p)) fun q => [(q.isSome, ([.c (.i .i64 (q.getD default))], []))]
theorem raw32x0 (L : List Lf) : bd Tryz.prog (T31x1 N) (h32x0s1 N).h 32 sh32x0 L = F32x0 N (ll L 1) (ls L 2) (fun p => some ([.c (.i .i64 p)], [])) := by kernel_rfl
theorem ok32x0 : FnOk Tryz.prog 32 sh32x0 (A32x0 N) :=
 (h32x0s1 N).fn progOk (T31x1_ok N) fun L x hx => ((raw32x0 N L).trans ((bind32x0 N ..).trans (alt1 x hx)))
def T32x0 : Oracle := ext 32 (spSh sh32x0 (A32x0 N)) (T31x1 N)
theorem T32x0_ok : OracleOk Tryz.prog (T32x0 N) := FnOk.to (ok32x0 N) (T31x1_ok N)
def rg60x0 : List (Nat × List Nat) := [(0, [0, 1]), (1, [0, 1])]
def hd60x0 : Hints := []
def h60x0s0 (N : Nat) : Sg Tryz.prog 0 60 := .start hd60x0 rg60x0
def F60x0 (v1 : Int) (k0 : Int → R) : R :=
 bnd (V79x0 N ([48, 49, 50, 51, 52, 53, 54, 55, 56, 57, 97, 98, 99, 100, 101, 102] : List UInt8) v1) fun y0 =>
 k0 y0
def V60x0 (v1 : Int) : Int := F60x0 N v1 (fun p => p)
theorem tot60x0 (v1 : Int) (k0 : Int → R) : F60x0 N v1 k0 = k0 (V60x0 N v1) := by
 unfold V60x0 F60x0
 repeat' (first | rfl | apply cond_k | (apply bnd_k; intro _))
def sh60x0 : Sh := { tmps := [(0, .c (.ks [48, 49, 50, 51, 52, 53, 54, 55, 56, 57, 97, 98, 99, 100, 101, 102])), (1, .c (.i .u8))], mem := [] }
def A60x0 (L : List Lf) : List (Bool × Res) := bnd (F60x0 N (li L 1) (fun p => p)) fun q => [(true, ([.c (.i .i64 q)], []))]
theorem raw60x0 (L : List Lf) : bd Tryz.prog (T32x0 N) (h60x0s0 N).h 60 sh60x0 L = F60x0 N (li L 1) (fun p => some ([.c (.i .i64 p)], [])) := by kernel_rfl
theorem ok60x0 : FnOk Tryz.prog 60 sh60x0 (A60x0 N) :=
 (h60x0s0 N).fn progOk (T32x0_ok N) fun L x hx => ((raw60x0 N L).trans ((tot60x0 N ..).trans (alt0 _ _ hx)))
def T60x0 : Oracle := ext 60 (spSh sh60x0 (A60x0 N)) (T32x0 N)
theorem T60x0_ok : OracleOk Tryz.prog (T60x0 N) := FnOk.to (ok60x0 N) (T32x0_ok N)
def rg33x0 : List (Nat × List Nat) := [(0, [0]), (1, [0]), (2, []), (3, [0]), (4, [0, 4]), (5, [5, 0, 4]), (7, [0, 5, 4]), (8, [6, 7, 4, 5, 0]), (9, []), (10, [4, 6, 7, 5, 0]), (6, [5, 0, 4]), (11, [4, 0])]
def hd33x0 : Hints := [(15, [0, 4, 5], [4], [4])]
def h33x0s0 (N : Nat) : Sg Tryz.prog 0 33 := .start hd33x0 rg33x0
def S33x0x15 (w0 : LB) (w1 : Int) (w2 : Bool) (w3 : LD) (kr : Int → Bool → LD → Option R) (k0 : Bool × LD → Option R) (k1 : Bool × LD → Option R) : Option R :=
 bif (decide ((IntKind.wrap .i64 (w1 + 1)) < (w0.length : Int))) then
  bif (inB w1 w0.length) then
   bnd (V60x0 N ((w0.getD w1.toNat 0).toNat : Int)) fun y0 =>
   bif (inB (IntKind.wrap .i64 (w1 + 1)) w0.length) then
    bnd (V60x0 N ((w0.getD (IntKind.wrap .i64 (w1 + 1)).toNat 0).toNat : Int)) fun y1 =>
    bnd (bif (decide (y0 < 0)) then true else (decide (y1 < 0))) fun y2 =>
    bif y2 then
     k0 (w2, w3)
    else
     bnd (IntKind.wrap .i64 ((IntKind.wrap .i64 (16 * y0)) + y1)) fun y3 =>
     bif (decide ((w3.length + 1) * 1 ≤ room) && decide ((w3.length + 1) ≤ strMax)) then
      kr (IntKind.wrap .i64 (w1 + 2)) false (w3 ++ [(.i (IntKind.wrap .u8 y3))])
     else
      none
   else
    none
  else
   none
 else
  k1 (w2, w3)
def L33x0x15 (N : Nat) {R : Type} (w0 : LB) : Nat → Int → Bool → LD → (Bool × LD → Option R) → (Bool × LD → Option R) → Option R
 | 0, _, _, _, _, _ => none
 | m + 1, w1, w2, w3, k0, k1 => S33x0x15 N w0 w1 w2 w3 (fun w1 w2 w3 => L33x0x15 N w0 m w1 w2 w3 k0 k1) k0 k1
def G33x0x15 (w0 : LB) (w1 : Int) (w2 : Bool) (w3 : LD) : Option (Sum (Bool × LD) (Bool × LD)) := L33x0x15 N (R := (Sum (Bool × LD) (Bool × LD))) w0 N w1 w2 w3 (fun p => some (.inl p)) (fun p => some (.inr p))
def J33x0x15 (L x : List Lf) (kr : List Lf → Option R) (k0 : Bool × LD → Option R) (k1 : Bool × LD → Option R) : Option R := S33x0x15 N (ls L 0) (li x 0) (lb x 1) (ll x 2) (fun w1 w2 w3 => kr [.i w1, .b w2, .l w3]) k0 k1
end
end Go.Proofs.YthifhnmfecjjcaaGreatDoor
