/- Functions of the program as plain Lean definitions, each with the proof that the program computes it. No condition. Printed by a program of the prover, part 1. -/
import Derived.Test.YtohplnjpncjhoaaGreatDoorHk1
import Derived.Test.YtohplnjpncjhoaaGreatDoorChecked
import Derived.KernelRfl
set_option linter.all false
set_option maxRecDepth 100000
namespace Go.Proofs.YtohplnjpncjhoaaGreatDoor
open Go Go.AM
noncomputable section
variable (N : Nat) {R : Type}
abbrev LD : Type := List D
abbrev LB : Type := List UInt8
abbrev Ty0 : Type := LB × Int × Bool × LD × Bool × LD × Bool × LD
abbrev Ty1 : Type := Int × Int × Int × Int × Int × Int × Int × Int × LB × Bool
abbrev Ty2 : Type := Bool × LD × Bool × Bool × Bool × Bool × Bool × Bool × Bool
abbrev Ty3 : Type := Bool × Bool × Bool × Bool × Bool × Bool × LD × Bool × Bool
abbrev Ty4 : Type := Int × Int × Int × Int × Int × Int × LB
abbrev Ty5 : Type := Bool × Bool × Bool × Bool × Bool × Bool × Bool
abbrev Ty6 : Type := Bool × LD × Bool × LD
abbrev Ty7 : Type := (List (D × D)) × Bool × LD
abbrev Ty8 : Type := Int × Int × Int × LB
def sh11x0 : Sh := splitSh
def A11x0 (N : Nat) (L : List Lf) : List (Bool × Res) := splitA L
theorem ok11x0 : FnOk Tryz.prog 11 sh11x0 (A11x0 N) := split_fn
def T11x0 : Oracle := ext 11 (spSh sh11x0 (A11x0 N)) noOracle
theorem T11x0_ok : OracleOk Tryz.prog (T11x0 N) := FnOk.to (ok11x0 N) noOracle_ok
def sh12x0 : Sh := deleteSh
def A12x0 (N : Nat) (L : List Lf) : List (Bool × Res) := deleteA L
theorem ok12x0 : FnOk Tryz.prog 12 sh12x0 (A12x0 N) := delete_fn
def T12x0 : Oracle := ext 12 (spSh sh12x0 (A12x0 N)) (T11x0 N)
theorem T12x0_ok : OracleOk Tryz.prog (T12x0 N) := FnOk.to (ok12x0 N) (T11x0_ok N)
def sh50x0 : Sh := atoiSh
def A50x0 (N : Nat) (L : List Lf) : List (Bool × Res) := atoiA L
theorem ok50x0 : FnOk Tryz.prog 50 sh50x0 (A50x0 N) := atoi_fn
def T50x0 : Oracle := ext 50 (spSh sh50x0 (A50x0 N)) (T12x0 N)
theorem T50x0_ok : OracleOk Tryz.prog (T50x0 N) := FnOk.to (ok50x0 N) (T12x0_ok N)
def sh26x0 : Sh := itoaSh
def A26x0 (N : Nat) (L : List Lf) : List (Bool × Res) := itoaA L
theorem ok26x0 : FnOk Tryz.prog 26 sh26x0 (A26x0 N) := itoa_fn
def T26x0 : Oracle := ext 26 (spSh sh26x0 (A26x0 N)) (T50x0 N)
theorem T26x0_ok : OracleOk Tryz.prog (T26x0 N) := FnOk.to (ok26x0 N) (T50x0_ok N)
def sh28x0 : Sh := joinSh
def A28x0 (N : Nat) (L : List Lf) : List (Bool × Res) := joinA L
theorem ok28x0 : FnOk Tryz.prog 28 sh28x0 (A28x0 N) := join_fn
def T28x0 : Oracle := ext 28 (spSh sh28x0 (A28x0 N)) (T26x0 N)
theorem T28x0_ok : OracleOk Tryz.prog (T28x0 N) := FnOk.to (ok28x0 N) (T26x0_ok N)
def rg52x0 : List (Nat × List Nat) := [(0, [0, 1, 2]), (1, [0, 1, 2])]
def hd52x0 : Hints := []
def h52x0s0 (N : Nat) : Sg Tryz.prog 0 52 := .start hd52x0 rg52x0
def F52x0 (N : Nat) (v0 v1 v2 : Int) (k0 : Bool → R) : R :=
 k0 (bif (decide (v0 ≥ v1)) then (decide (v0 ≤ v2)) else false)
def V52x0 (v0 v1 v2 : Int) : Bool := F52x0 N v0 v1 v2 (fun p => p)
theorem tot52x0 (v0 v1 v2 : Int) (k0 : Bool → R) : F52x0 N v0 v1 v2 k0 = k0 (V52x0 N v0 v1 v2) := by
 unfold V52x0 F52x0
 repeat' (first | rfl | apply cond_k | (apply bnd_k; intro _))
def sh52x0 : Sh := { tmps := [(0, .c (.i .i64)), (1, .c (.i .i64)), (2, .c (.i .i64))], mem := [] }
def A52x0 (L : List Lf) : List (Bool × Res) := bnd (F52x0 N (li L 0) (li L 1) (li L 2) (fun p => p)) fun q => [(true, ([.c (.b q)], []))]
theorem raw52x0 (L : List Lf) : bd Tryz.prog (T28x0 N) (h52x0s0 N).h 52 sh52x0 L = F52x0 N (li L 0) (li L 1) (li L 2) (fun p => some ([.c (.b p)], [])) := by kernel_rfl
theorem ok52x0 : FnOk Tryz.prog 52 sh52x0 (A52x0 N) :=
 (h52x0s0 N).fn progOk (T28x0_ok N) fun L x hx => ((raw52x0 N L).trans ((tot52x0 N ..).trans (alt0 _ _ hx)))
def T52x0 : Oracle := ext 52 (spSh sh52x0 (A52x0 N)) (T28x0 N)
theorem T52x0_ok : OracleOk Tryz.prog (T52x0 N) := FnOk.to (ok52x0 N) (T28x0_ok N)
def rg71x0 : List (Nat × List Nat) := [(0, [0]), (1, [0])]
def hd71x0 : Hints := []
def h71x0s0 (N : Nat) : Sg Tryz.prog 0 71 := .start hd71x0 rg71x0
def F71x0 (N : Nat) (v0 : Int) (k0 : Bool → R) : R :=
 k0 (bif (decide (v0 ≥ 48)) then (decide (v0 ≤ 57)) else false)
def V71x0 (v0 : Int) : Bool := F71x0 N v0 (fun p => p)
theorem tot71x0 (v0 : Int) (k0 : Bool → R) : F71x0 N v0 k0 = k0 (V71x0 N v0) := by
 unfold V71x0 F71x0
 repeat' (first | rfl | apply cond_k | (apply bnd_k; intro _))
def sh71x0 : Sh := { tmps := [(0, .c (.i .u8))], mem := [] }
def A71x0 (L : List Lf) : List (Bool × Res) := bnd (F71x0 N (li L 0) (fun p => p)) fun q => [(true, ([.c (.b q)], []))]
theorem raw71x0 (L : List Lf) : bd Tryz.prog (T52x0 N) (h71x0s0 N).h 71 sh71x0 L = F71x0 N (li L 0) (fun p => some ([.c (.b p)], [])) := by kernel_rfl
theorem ok71x0 : FnOk Tryz.prog 71 sh71x0 (A71x0 N) :=
 (h71x0s0 N).fn progOk (T52x0_ok N) fun L x hx => ((raw71x0 N L).trans ((tot71x0 N ..).trans (alt0 _ _ hx)))
def T71x0 : Oracle := ext 71 (spSh sh71x0 (A71x0 N)) (T52x0 N)
theorem T71x0_ok : OracleOk Tryz.prog (T71x0 N) := FnOk.to (ok71x0 N) (T52x0_ok N)
def rg53x0 : List (Nat × List Nat) := [(0, [0]), (1, [0]), (2, [8, 7, 0]), (3, [8, 0, 7]), (4, [0, 3, 8, 7]), (5, [4, 8, 7, 0]), (6, [5, 4, 8, 7, 0]), (7, []), (8, [8, 7, 0]), (9, [0])]
def hd53x0 : Hints := [(6, [0, 7, 8], [], []), (19, [0, 4, 5, 7, 8], [], [])]
def h53x0s0 (N : Nat) : Sg Tryz.prog 0 53 := .start hd53x0 rg53x0
def F53x0x19 (w1 : Int) (w2 : Bool) (k0 : Bool → R) : R :=
 bif (!w2) then
  bnd (V71x0 N w1) fun y0 =>
  bnd (bif (bif (!y0) then (w1 != 45) else false) then (w1 != 95) else false) fun y1 =>
  k0 (bif y1 then (w1 != 46) else false)
 else
  k0 false
def V53x0x19 (w1 : Int) (w2 : Bool) : Bool := F53x0x19 N w1 w2 (fun p => p)
theorem tot53x0x19 (w1 : Int) (w2 : Bool) (k0 : Bool → R) : F53x0x19 N w1 w2 k0 = k0 (V53x0x19 N w1 w2) := by
 unfold V53x0x19 F53x0x19
 repeat' (first | rfl | apply cond_k | (apply bnd_k; intro _))
def sh53x0x19 : Sh := { tmps := [(0, .c (.s)), (4, .c (.i .u8)), (5, .c (.b)), (7, .c (.i .i64)), (8, .c (.i .i64))], mem := [] }
def K53x0x19w0 (L : List Lf) (p : Bool) : Ex × St := (.normal, mg (ofSh sh53x0x19 L) [8, 7, 0, 46] [(46, .c (.b p))] [] [])
def A53x0x19 (L : List Lf) : List (Bool × (Ex × St)) := bnd (F53x0x19 N (li L 1) (lb L 2) (fun p => p)) fun q => [(true, K53x0x19w0 L q)]
theorem raw53x0x19 (L : List Lf) : pc Tryz.prog (T71x0 N) (h53x0s0 N).h 0 100 53 19 sh53x0x19 L [8, 7, 0, 46] [] = F53x0x19 N (li L 1) (lb L 2) (fun p => some (K53x0x19w0 L p)) := by kernel_rfl
def h53x0s1 : Sg Tryz.prog 0 53 :=
 (h53x0s0 N).cut (A53x0x19 N) progOk (T71x0_ok N) fun L x hx => (raw53x0x19 N L).trans ((tot53x0x19 N ..).trans (alt0 _ _ hx))
def S53x0x6 (w0 : LB) (w1 : Int) (w2 : Int) (kr : Int → Option R) (k0 : Unit → Option R) (k1 : Unit → Option R) : Option R :=
 bif (decide (w2 < w1)) then
  bif (inB w2 w0.length) then
   bnd (bif (decide (((w0.getD w2.toNat 0).toNat : Int) ≥ 97)) then (decide (((w0.getD w2.toNat 0).toNat : Int) ≤ 122)) else false) fun y0 =>
   bnd (bif y0 then true else (bif (decide (((w0.getD w2.toNat 0).toNat : Int) ≥ 65)) then (decide (((w0.getD w2.toNat 0).toNat : Int) ≤ 90)) else false)) fun y1 =>
   bnd (V53x0x19 N ((w0.getD w2.toNat 0).toNat : Int) y1) fun y2 =>
   bif y2 then
    k0 ()
   else
    kr (IntKind.wrap .i64 (w2 + 1))
  else
   none
 else
  k1 ()
def L53x0x6 (N : Nat) {R : Type} (w0 : LB) (w1 : Int) : Nat → Int → (Unit → Option R) → (Unit → Option R) → Option R
 | 0, _, _, _ => none
 | m + 1, w2, k0, k1 => S53x0x6 N w0 w1 w2 (fun w2 => L53x0x6 N w0 w1 m w2 k0 k1) k0 k1
def G53x0x6 (w0 : LB) (w1 : Int) (w2 : Int) : Option (Sum (Unit) (Unit)) := L53x0x6 N (R := (Sum (Unit) (Unit))) w0 w1 N w2 (fun p => some (.inl p)) (fun p => some (.inr p))
def J53x0x6 (L x : List Lf) (kr : List Lf → Option R) (k0 : Unit → Option R) (k1 : Unit → Option R) : Option R := S53x0x6 N (ls L 0) (li L 1) (li x 0) (fun w2 => kr [.i w2]) k0 k1
theorem sb53x0x6 (L x : List Lf) (kr : List Lf → Option R) (k0 : Unit → Option R) (k1 : Unit → Option R) : J53x0x6 N L x kr k0 k1 = (J53x0x6 N L x (fun y => some (.inl y)) (fun p => some (.inr (.inl p))) (fun p => some (.inr (.inr p)))).bind (sumE kr (sumE k0 k1)) := by
 unfold J53x0x6 S53x0x6
 repeat' (first | with_reducible apply cond_b | (with_reducible apply bnd_b; intro _) | rfl)
def Q53x0x6 (L : List Lf) (m : Nat) (x : List Lf) : Option (Sum (Unit) (Unit)) := L53x0x6 N (R := (Sum (Unit) (Unit))) (ls L 0) (li L 1) m (li x 0) (fun p => some (.inl p)) (fun p => some (.inr p))
def sh53x0x6 : Sh := { tmps := [(0, .c (.s)), (7, .c (.i .i64)), (8, .c (.i .i64))], mem := [] }
def A53x0x6 (L : List Lf) : List (Bool × (Ex × St)) := bnd (Q53x0x6 N L N (pk sh53x0x6 [2] L)) fun q => [((inlB q), (.ret, ⟨[(2, .c (.b false))], []⟩)), ((inrQ q).isSome, ((.exit 0), ⟨[(0, .c (.s (ls L 0)))], []⟩))]
theorem step53x0x6 (m : Nat) (kn : St → Option (Ex × St)) (L x : List Lf) : lpB Tryz.prog (T71x0 N) (h53x0s1 N).h 0 53 6 sh53x0x6 [2] [2, 0] [] (m + 100) kn L x = J53x0x6 N L x (fun y => kn (ofSh sh53x0x6 (mx sh53x0x6 [2] L y))) (fun _ => some (.ret, ⟨[(2, .c (.b false))], []⟩)) (fun _ => some ((.exit 0), ⟨[(0, .c (.s (ls L 0)))], []⟩)) := by kernel_rfl
theorem ql53x0x6 (L : List Lf) (m : Nat) (x : List Lf) : Q53x0x6 N L (m + 1) x = J53x0x6 N L x (Q53x0x6 N L m) (fun p => some (.inl p)) (fun p => some (.inr p)) := by kernel_rfl
def h53x0s2 : Sg Tryz.prog 0 53 :=
 (h53x0s1 N).lp (A53x0x6 N) N progOk (T71x0_ok N) (fun m kn L x => (step53x0x6 N m kn L x).trans (sb53x0x6 N L x _ _ _)) (fun L m x => (ql53x0x6 N L m x).trans (sb53x0x6 N L x (Q53x0x6 N L m) (fun p => some (.inl p)) (fun p => some (.inr p)))) fun L x hx => (altS alt1) x hx
def F53x0 (v0 : LB) (k0 : Bool → Option R) : Option R :=
 bnd (G53x0x6 N v0 (v0.length : Int) 0) fun y0 =>
 bif (inlB y0) then
  k0 false
 else
  bif (inrQ y0).isSome then
   bnd (bif (decide ((v0.length : Int) ≥ 1)) then (decide ((v0.length : Int) ≤ 60)) else false) fun y1 =>
   k0 y1
  else
   none
def G53x0 (v0 : LB) : Option (Bool) := F53x0 N v0 (fun p => some p)
theorem bind53x0 (v0 : LB) (k0 : Bool → Option R) : F53x0 N v0 k0 = (G53x0 N v0).bind k0 := by
 unfold G53x0 F53x0
 repeat' (first | with_reducible apply cond_b | (with_reducible apply bnd_b; intro _) | rfl)
def sh53x0 : Sh := { tmps := [(0, .c (.s))], mem := [] }
def A53x0 (L : List Lf) : List (Bool × Res) := bnd (F53x0 N (ls L 0) (fun p => some p)) fun q => [(q.isSome, ([.c (.b (q.getD default))], []))]
theorem raw53x0 (L : List Lf) : bd Tryz.prog (T71x0 N) (h53x0s2 N).h 53 sh53x0 L = F53x0 N (ls L 0) (fun p => some ([.c (.b p)], [])) := by kernel_rfl
theorem ok53x0 : FnOk Tryz.prog 53 sh53x0 (A53x0 N) :=
 (h53x0s2 N).fn progOk (T71x0_ok N) fun L x hx => ((raw53x0 N L).trans ((bind53x0 N ..).trans (alt1 x hx)))
def T53x0 : Oracle := ext 53 (spSh sh53x0 (A53x0 N)) (T71x0 N)
theorem T53x0_ok : OracleOk Tryz.prog (T53x0 N) := FnOk.to (ok53x0 N) (T71x0_ok N)
def rg36x0 : List (Nat × List Nat) := [(0, [0]), (1, [1]), (3, [1]), (4, []), (2, []), (5, [1]), (6, [3, 1]), (7, [1, 3]), (8, [18, 1, 3]), (12, [18, 1, 3]), (16, [18, 1, 3]), (20, [18, 1, 3]), (24, [18, 1, 3]), (28, [18, 1, 3]), (29, [1, 3]), (30, []), (31, [3]), (25, [1, 3]), (26, []), (27, [3]), (21, [1, 3]), (22, []), (23, [3]), (17, [1, 3]), (18, []), (19, [3]), (13, [1, 3]), (14, []), (15, [3]), (9, [1, 3]), (10, []), (11, [3]), (32, [3]), (33, []), (34, [])]
def hd36x0 : Hints := [(28, [1, 3], [1, 3], []), (89, [1, 3, 84], [1, 3], []), (84077, [1, 3, 18, 77], [1, 3], []), (72065, [1, 3, 18, 70], [1, 3], []), (60053, [1, 3, 18, 63], [1, 3], []), (48041, [1, 3, 18, 40], [1, 3], []), (36029, [1, 3, 18, 19], [1, 3], [])]
def h36x0s0 (N : Nat) : Sg Tryz.prog 0 36 := .start hd36x0 rg36x0
def F36x0x28 (w2 w3 w4 : Int) (k0 : Bool → R) : R :=
 bnd (V52x0 N w2 (-100000000) 100000000) fun y0 =>
 bif (!y0) then
  k0 true
 else
  bnd (V52x0 N w3 (-100000000) 100000000) fun y1 =>
  bif (!y1) then
   k0 true
  else
   bnd (V52x0 N w4 0 1000000) fun y2 =>
   k0 (!y2)
def V36x0x28 (w2 w3 w4 : Int) : Bool := F36x0x28 N w2 w3 w4 (fun p => p)
theorem tot36x0x28 (w2 w3 w4 : Int) (k0 : Bool → R) : F36x0x28 N w2 w3 w4 k0 = k0 (V36x0x28 N w2 w3 w4) := by
 unfold V36x0x28 F36x0x28
 repeat' (first | rfl | apply cond_k | (apply bnd_k; intro _))
def sh36x0x28 : Sh := { tmps := [(1, .c (.p 1 0)), (3, .c (.p 3 0))], mem := [(1, .box (rI 8 ([.s]))), (3, .box (rI 8 ([.s])))] }
def K36x0x28w0 (L : List Lf) (p : Bool) : Ex × St := (.normal, mg (ofSh sh36x0x28 L) [3, 36] [(36, .c (.b p))] [3] [])
def A36x0x28 (L : List Lf) : List (Bool × (Ex × St)) := bnd (F36x0x28 N (li L 2) (li L 3) (li L 4) (fun p => p)) fun q => [(true, K36x0x28w0 L q)]
theorem raw36x0x28 (L : List Lf) : pc Tryz.prog (T53x0 N) (h36x0s0 N).h 0 100 36 28 sh36x0x28 L [3, 36] [3] = F36x0x28 N (li L 2) (li L 3) (li L 4) (fun p => some (K36x0x28w0 L p)) := by kernel_rfl
def h36x0s1 : Sg Tryz.prog 0 36 :=
 (h36x0s0 N).cut (A36x0x28 N) progOk (T53x0_ok N) fun L x hx => (raw36x0x28 N L).trans ((tot36x0x28 N ..).trans (alt0 _ _ hx))
def F36x0x89 (w0 : Bool) (w9 w18 : LB) (k0 : Unit → Option R) (k1 : LB → Option R) : Option R :=
 bif w0 then
  bnd (G53x0 N w9) fun y0 =>
  bif y0.isSome then
   bif (!(y0.getD default)) then
    k0 ()
   else
    k1 ([] : List UInt8)
  else
   none
 else
  k1 w18
def G36x0x89 (w0 : Bool) (w9 w18 : LB) : Option (Sum (Unit) (LB)) := F36x0x89 N w0 w9 w18 (fun p => some (.inl p)) (fun p => some (.inr p))
theorem bind36x0x89 (w0 : Bool) (w9 w18 : LB) (k0 : Unit → Option R) (k1 : LB → Option R) : F36x0x89 N w0 w9 w18 k0 k1 = (G36x0x89 N w0 w9 w18).bind (sumE k0 k1) := by
 unfold G36x0x89 F36x0x89
 repeat' (first | with_reducible apply cond_b | (with_reducible apply bnd_b; intro _) | rfl)
def sh36x0x89 : Sh := { tmps := [(1, .c (.p 1 0)), (3, .c (.p 3 0)), (84, .c (.b))], mem := [(1, .box (rI 8 ([.s]))), (3, .box (rI 8 ([.s])))] }
def K36x0x89w0 (L : List Lf) (_ : Unit) : Ex × St := (.ret, mg (ofSh sh36x0x89 L) [2] [(2, .c (.i .i64 8))] [3] [])
def K36x0x89w1 (L : List Lf) (p : LB) : Ex × St := (.normal, ⟨[(3, .c (.p 3 0))], [(3, .box (rL L 10 8 ([.s p])))]⟩)
def A36x0x89 (L : List Lf) : List (Bool × (Ex × St)) := bnd (F36x0x89 N (lb L 0) (ls L 9) (ls L 18) (fun p => some (.inl p)) (fun p => some (.inr p))) fun q => [((inlB q), K36x0x89w0 L ()), ((inrQ q).isSome, K36x0x89w1 L ((inrQ q).getD default))]
theorem raw36x0x89 (L : List Lf) : pc Tryz.prog (T53x0 N) (h36x0s1 N).h 0 100 36 89 sh36x0x89 L [3, 2] [3] = F36x0x89 N (lb L 0) (ls L 9) (ls L 18) (fun _ => some (K36x0x89w0 L ())) (fun p => some (K36x0x89w1 L p)) := by kernel_rfl
def h36x0s2 : Sg Tryz.prog 0 36 :=
 (h36x0s1 N).cut (A36x0x89 N) progOk (T53x0_ok N) fun L x hx => (raw36x0x89 N L).trans ((bind36x0x89 N ..).trans ((altS alt1) x hx))
def F36x0x84077 (w0 : Int) (w1 : Bool) (w9 : Int) (w10 : LB) (w18 : Int) (w19 : LB) (k0 : Int → Option R) (k1 : Int × LB → Option R) : Option R :=
 bif w1 then
  bnd (V52x0 N w9 1 5) fun y0 =>
  bif (!y0) then
   k0 7
  else
   k1 (0, w19)
 else
  bnd (G36x0x89 N (w0 == 4) w10 w19) fun y1 =>
  bif (inlB y1) then
   k0 8
  else
   bif (inrQ y1).isSome then
    k1 (w18, ((inrQ y1).getD default))
   else
    none
def G36x0x84077 (w0 : Int) (w1 : Bool) (w9 : Int) (w10 : LB) (w18 : Int) (w19 : LB) : Option (Sum (Int) (Int × LB)) := F36x0x84077 N w0 w1 w9 w10 w18 w19 (fun p => some (.inl p)) (fun p => some (.inr p))
theorem bind36x0x84077 (w0 : Int) (w1 : Bool) (w9 : Int) (w10 : LB) (w18 : Int) (w19 : LB) (k0 : Int → Option R) (k1 : Int × LB → Option R) : F36x0x84077 N w0 w1 w9 w10 w18 w19 k0 k1 = (G36x0x84077 N w0 w1 w9 w10 w18 w19).bind (sumE k0 k1) := by
 unfold G36x0x84077 F36x0x84077
 repeat' (first | with_reducible apply cond_b | (with_reducible apply bnd_b; intro _) | rfl)
def J36x0x84077 (L : List Lf) (k0 : Int → Option R) (k1 : Int × LB → Option R) : Option R := F36x0x84077 N (li L 0) (lb L 1) (li L 9) (ls L 10) (li L 18) (ls L 19) k0 k1
def sh36x0x84077 : Sh := { tmps := [(1, .c (.p 1 0)), (3, .c (.p 3 0)), (18, .c (.i .i64)), (77, .c (.b))], mem := [(1, .box (rI 8 ([.s]))), (3, .box (rI 8 ([.s])))] }
def K36x0x84077w0 (L : List Lf) (p : Int) : Ex × St := (.ret, mg (ofSh sh36x0x84077 L) [2] [(2, .c (.i .i64 p))] [3] [])
def K36x0x84077w1 (L : List Lf) (p : Int × LB) : Ex × St := (.normal, ⟨[(3, .c (.p 3 0))], [(3, .box (rL L 11 7 ([.i .i64 p.1, .s p.2])))]⟩)
def A36x0x84077 (L : List Lf) : List (Bool × (Ex × St)) := bnd (J36x0x84077 N L (fun p => some (.inl p)) (fun p => some (.inr p))) fun q => [((inlB q), K36x0x84077w0 L (inlV q)), ((inrQ q).isSome, K36x0x84077w1 L ((inrQ q).getD default))]
theorem raw36x0x84077 (L : List Lf) : pc Tryz.prog (T53x0 N) (h36x0s2 N).h 0 100 36 84077 sh36x0x84077 L [3, 2] [3] = J36x0x84077 N L (fun p => some (K36x0x84077w0 L p)) (fun p => some (K36x0x84077w1 L p)) := by kernel_rfl
def h36x0s3 : Sg Tryz.prog 0 36 :=
 (h36x0s2 N).cut (A36x0x84077 N) progOk (T53x0_ok N) fun L x hx => (raw36x0x84077 N L).trans ((bind36x0x84077 N ..).trans ((altS alt1) x hx))
def F36x0x72065 (w0 : Int) (w1 : Bool) (w9 : Int) (w10 : LB) (w18 : Int) (w19 : LB) (k0 : Int → Option R) (k1 : Int × LB → Option R) : Option R :=
 bif w1 then
  bnd (V52x0 N w9 1 1000000) fun y0 =>
  bif (!y0) then
   k0 9
  else
   k1 (0, w19)
 else
  bnd (G36x0x84077 N w0 (w0 == 5) w9 w10 w18 w19) fun y1 =>
  bif (inlB y1) then
   k0 (inlV y1)
  else
   bif (inrQ y1).isSome then
    k1 ((inrQ y1).getD default)
   else
    none
def G36x0x72065 (w0 : Int) (w1 : Bool) (w9 : Int) (w10 : LB) (w18 : Int) (w19 : LB) : Option (Sum (Int) (Int × LB)) := F36x0x72065 N w0 w1 w9 w10 w18 w19 (fun p => some (.inl p)) (fun p => some (.inr p))
theorem bind36x0x72065 (w0 : Int) (w1 : Bool) (w9 : Int) (w10 : LB) (w18 : Int) (w19 : LB) (k0 : Int → Option R) (k1 : Int × LB → Option R) : F36x0x72065 N w0 w1 w9 w10 w18 w19 k0 k1 = (G36x0x72065 N w0 w1 w9 w10 w18 w19).bind (sumE k0 k1) := by
 unfold G36x0x72065 F36x0x72065
 repeat' (first | with_reducible apply cond_b | (with_reducible apply bnd_b; intro _) | rfl)
def J36x0x72065 (L : List Lf) (k0 : Int → Option R) (k1 : Int × LB → Option R) : Option R := F36x0x72065 N (li L 0) (lb L 1) (li L 9) (ls L 10) (li L 18) (ls L 19) k0 k1
def sh36x0x72065 : Sh := { tmps := [(1, .c (.p 1 0)), (3, .c (.p 3 0)), (18, .c (.i .i64)), (70, .c (.b))], mem := [(1, .box (rI 8 ([.s]))), (3, .box (rI 8 ([.s])))] }
def K36x0x72065w0 (L : List Lf) (p : Int) : Ex × St := (.ret, mg (ofSh sh36x0x72065 L) [2] [(2, .c (.i .i64 p))] [3] [])
def K36x0x72065w1 (L : List Lf) (p : Int × LB) : Ex × St := (.normal, ⟨[(3, .c (.p 3 0))], [(3, .box (rL L 11 7 ([.i .i64 p.1, .s p.2])))]⟩)
def A36x0x72065 (L : List Lf) : List (Bool × (Ex × St)) := bnd (J36x0x72065 N L (fun p => some (.inl p)) (fun p => some (.inr p))) fun q => [((inlB q), K36x0x72065w0 L (inlV q)), ((inrQ q).isSome, K36x0x72065w1 L ((inrQ q).getD default))]
theorem raw36x0x72065 (L : List Lf) : pc Tryz.prog (T53x0 N) (h36x0s3 N).h 0 100 36 72065 sh36x0x72065 L [3, 2] [3] = J36x0x72065 N L (fun p => some (K36x0x72065w0 L p)) (fun p => some (K36x0x72065w1 L p)) := by kernel_rfl
def h36x0s4 : Sg Tryz.prog 0 36 :=
 (h36x0s3 N).cut (A36x0x72065 N) progOk (T53x0_ok N) fun L x hx => (raw36x0x72065 N L).trans ((bind36x0x72065 N ..).trans ((altS alt1) x hx))
def F36x0x60053 (w0 : Int) (w1 : Bool) (w9 : Int) (w10 : LB) (w18 : Int) (w19 : LB) (k0 : Int → Option R) (k1 : Int × LB → Option R) : Option R :=
 bif w1 then
  bnd (V52x0 N w9 1 4) fun y0 =>
  bif (!y0) then
   k0 9
  else
   k1 (0, w19)
 else
  bnd (G36x0x72065 N w0 (w0 == 8) w9 w10 w18 w19) fun y1 =>
  bif (inlB y1) then
   k0 (inlV y1)
  else
   bif (inrQ y1).isSome then
    k1 ((inrQ y1).getD default)
   else
    none
def G36x0x60053 (w0 : Int) (w1 : Bool) (w9 : Int) (w10 : LB) (w18 : Int) (w19 : LB) : Option (Sum (Int) (Int × LB)) := F36x0x60053 N w0 w1 w9 w10 w18 w19 (fun p => some (.inl p)) (fun p => some (.inr p))
theorem bind36x0x60053 (w0 : Int) (w1 : Bool) (w9 : Int) (w10 : LB) (w18 : Int) (w19 : LB) (k0 : Int → Option R) (k1 : Int × LB → Option R) : F36x0x60053 N w0 w1 w9 w10 w18 w19 k0 k1 = (G36x0x60053 N w0 w1 w9 w10 w18 w19).bind (sumE k0 k1) := by
 unfold G36x0x60053 F36x0x60053
 repeat' (first | with_reducible apply cond_b | (with_reducible apply bnd_b; intro _) | rfl)
def J36x0x60053 (L : List Lf) (k0 : Int → Option R) (k1 : Int × LB → Option R) : Option R := F36x0x60053 N (li L 0) (lb L 1) (li L 9) (ls L 10) (li L 18) (ls L 19) k0 k1
def sh36x0x60053 : Sh := { tmps := [(1, .c (.p 1 0)), (3, .c (.p 3 0)), (18, .c (.i .i64)), (63, .c (.b))], mem := [(1, .box (rI 8 ([.s]))), (3, .box (rI 8 ([.s])))] }
def K36x0x60053w0 (L : List Lf) (p : Int) : Ex × St := (.ret, mg (ofSh sh36x0x60053 L) [2] [(2, .c (.i .i64 p))] [3] [])
def K36x0x60053w1 (L : List Lf) (p : Int × LB) : Ex × St := (.normal, ⟨[(3, .c (.p 3 0))], [(3, .box (rL L 11 7 ([.i .i64 p.1, .s p.2])))]⟩)
def A36x0x60053 (L : List Lf) : List (Bool × (Ex × St)) := bnd (J36x0x60053 N L (fun p => some (.inl p)) (fun p => some (.inr p))) fun q => [((inlB q), K36x0x60053w0 L (inlV q)), ((inrQ q).isSome, K36x0x60053w1 L ((inrQ q).getD default))]
theorem raw36x0x60053 (L : List Lf) : pc Tryz.prog (T53x0 N) (h36x0s4 N).h 0 100 36 60053 sh36x0x60053 L [3, 2] [3] = J36x0x60053 N L (fun p => some (K36x0x60053w0 L p)) (fun p => some (K36x0x60053w1 L p)) := by kernel_rfl
def h36x0s5 : Sg Tryz.prog 0 36 :=
 (h36x0s4 N).cut (A36x0x60053 N) progOk (T53x0_ok N) fun L x hx => (raw36x0x60053 N L).trans ((bind36x0x60053 N ..).trans ((altS alt1) x hx))
def F36x0x48041 (w0 : Int) (w1 : Bool) (w7 w8 w9 : Int) (w10 : LB) (w16 w17 w18 : Int) (w19 : LB) (k0 : Int → Option R) (k1 : Ty8 → Option R) : Option R :=
 bif w1 then
  bnd (bif (bif (decide (w7 < 0)) then true else (decide (w7 > w8))) then true else (decide (w8 ≥ 86400))) fun y0 =>
  bif y0 then
   k0 9
  else
   k1 (0, 0, w18, w19)
 else
  bnd (G36x0x60053 N w0 (w0 == 3) w9 w10 w18 w19) fun y1 =>
  bif (inlB y1) then
   k0 (inlV y1)
  else
   bif (inrQ y1).isSome then
    k1 (w16, w17, ((inrQ y1).getD default).1, ((inrQ y1).getD default).2)
   else
    none
def G36x0x48041 (w0 : Int) (w1 : Bool) (w7 w8 w9 : Int) (w10 : LB) (w16 w17 w18 : Int) (w19 : LB) : Option (Sum (Int) (Ty8)) := F36x0x48041 N w0 w1 w7 w8 w9 w10 w16 w17 w18 w19 (fun p => some (.inl p)) (fun p => some (.inr p))
theorem bind36x0x48041 (w0 : Int) (w1 : Bool) (w7 w8 w9 : Int) (w10 : LB) (w16 w17 w18 : Int) (w19 : LB) (k0 : Int → Option R) (k1 : Ty8 → Option R) : F36x0x48041 N w0 w1 w7 w8 w9 w10 w16 w17 w18 w19 k0 k1 = (G36x0x48041 N w0 w1 w7 w8 w9 w10 w16 w17 w18 w19).bind (sumE k0 k1) := by
 unfold G36x0x48041 F36x0x48041
 repeat' (first | with_reducible apply cond_b | (with_reducible apply bnd_b; intro _) | rfl)
def J36x0x48041 (L : List Lf) (k0 : Int → Option R) (k1 : Ty8 → Option R) : Option R := F36x0x48041 N (li L 0) (lb L 1) (li L 7) (li L 8) (li L 9) (ls L 10) (li L 16) (li L 17) (li L 18) (ls L 19) k0 k1
def sh36x0x48041 : Sh := { tmps := [(1, .c (.p 1 0)), (3, .c (.p 3 0)), (18, .c (.i .i64)), (40, .c (.b))], mem := [(1, .box (rI 8 ([.s]))), (3, .box (rI 8 ([.s])))] }
def K36x0x48041w0 (L : List Lf) (p : Int) : Ex × St := (.ret, mg (ofSh sh36x0x48041 L) [2] [(2, .c (.i .i64 p))] [3] [])
def K36x0x48041w1 (L : List Lf) (p : Ty8) : Ex × St := (.normal, ⟨[(3, .c (.p 3 0))], [(3, .box (rL L 11 5 ([.i .i64 p.1, .i .i64 p.2.1, .i .i64 p.2.2.1, .s p.2.2.2])))]⟩)
def A36x0x48041 (L : List Lf) : List (Bool × (Ex × St)) := bnd (J36x0x48041 N L (fun p => some (.inl p)) (fun p => some (.inr p))) fun q => [((inlB q), K36x0x48041w0 L (inlV q)), ((inrQ q).isSome, K36x0x48041w1 L ((inrQ q).getD default))]
theorem raw36x0x48041 (L : List Lf) : pc Tryz.prog (T53x0 N) (h36x0s5 N).h 0 100 36 48041 sh36x0x48041 L [3, 2] [3] = J36x0x48041 N L (fun p => some (K36x0x48041w0 L p)) (fun p => some (K36x0x48041w1 L p)) := by kernel_rfl
def h36x0s6 : Sg Tryz.prog 0 36 :=
 (h36x0s5 N).cut (A36x0x48041 N) progOk (T53x0_ok N) fun L x hx => (raw36x0x48041 N L).trans ((bind36x0x48041 N ..).trans ((altS alt1) x hx))
def F36x0x36029 (w0 : Int) (w1 : Bool) (w4 w5 w6 w7 w8 w9 : Int) (w10 : LB) (w13 w14 w15 w16 w17 w18 : Int) (w19 : LB) (k0 : Int → Option R) (k1 : Ty4 → Option R) : Option R :=
 bif w1 then
  bnd (V36x0x28 N w4 w5 w6) fun y0 =>
  bif y0 then
   k0 9
  else
   k1 (0, 0, 0, w16, w17, w18, w19)
 else
  bnd (G36x0x48041 N w0 (w0 == 2) w7 w8 w9 w10 w16 w17 w18 w19) fun y1 =>
  bif (inlB y1) then
   k0 (inlV y1)
  else
   bif (inrQ y1).isSome then
    k1 (w13, w14, w15, ((inrQ y1).getD default).1, ((inrQ y1).getD default).2.1, ((inrQ y1).getD default).2.2.1, ((inrQ y1).getD default).2.2.2)
   else
    none
def G36x0x36029 (w0 : Int) (w1 : Bool) (w4 w5 w6 w7 w8 w9 : Int) (w10 : LB) (w13 w14 w15 w16 w17 w18 : Int) (w19 : LB) : Option (Sum (Int) (Ty4)) := F36x0x36029 N w0 w1 w4 w5 w6 w7 w8 w9 w10 w13 w14 w15 w16 w17 w18 w19 (fun p => some (.inl p)) (fun p => some (.inr p))
theorem bind36x0x36029 (w0 : Int) (w1 : Bool) (w4 w5 w6 w7 w8 w9 : Int) (w10 : LB) (w13 w14 w15 w16 w17 w18 : Int) (w19 : LB) (k0 : Int → Option R) (k1 : Ty4 → Option R) : F36x0x36029 N w0 w1 w4 w5 w6 w7 w8 w9 w10 w13 w14 w15 w16 w17 w18 w19 k0 k1 = (G36x0x36029 N w0 w1 w4 w5 w6 w7 w8 w9 w10 w13 w14 w15 w16 w17 w18 w19).bind (sumE k0 k1) := by
 unfold G36x0x36029 F36x0x36029
 repeat' (first | with_reducible apply cond_b | (with_reducible apply bnd_b; intro _) | rfl)
def J36x0x36029 (L : List Lf) (k0 : Int → Option R) (k1 : Ty4 → Option R) : Option R := F36x0x36029 N (li L 0) (lb L 1) (li L 4) (li L 5) (li L 6) (li L 7) (li L 8) (li L 9) (ls L 10) (li L 13) (li L 14) (li L 15) (li L 16) (li L 17) (li L 18) (ls L 19) k0 k1
def sh36x0x36029 : Sh := { tmps := [(1, .c (.p 1 0)), (3, .c (.p 3 0)), (18, .c (.i .i64)), (19, .c (.b))], mem := [(1, .box (rI 8 ([.s]))), (3, .box (rI 8 ([.s])))] }
def K36x0x36029w0 (L : List Lf) (p : Int) : Ex × St := (.ret, mg (ofSh sh36x0x36029 L) [2] [(2, .c (.i .i64 p))] [3] [])
def K36x0x36029w1 (L : List Lf) (p : Ty4) : Ex × St := let p1 := p.2; let p2 := p1.2; let p3 := p2.2; let p4 := p3.2; let p5 := p4.2; let p6 := p5.2; (.normal, ⟨[(3, .c (.p 3 0))], [(3, .box [.i .i64 (li L 11), .i .i64 (li L 12), .i .i64 p.1, .i .i64 p1.1, .i .i64 p2.1, .i .i64 p3.1, .i .i64 p4.1, .i .i64 p5.1, .s p6])]⟩)
def A36x0x36029 (L : List Lf) : List (Bool × (Ex × St)) := bnd (J36x0x36029 N L (fun p => some (.inl p)) (fun p => some (.inr p))) fun q => [((inlB q), K36x0x36029w0 L (inlV q)), ((inrQ q).isSome, K36x0x36029w1 L ((inrQ q).getD default))]
theorem raw36x0x36029 (L : List Lf) : pc Tryz.prog (T53x0 N) (h36x0s6 N).h 0 100 36 36029 sh36x0x36029 L [3, 2] [3] = J36x0x36029 N L (fun p => some (K36x0x36029w0 L p)) (fun p => some (K36x0x36029w1 L p)) := by kernel_rfl
def h36x0s7 : Sg Tryz.prog 0 36 :=
 (h36x0s6 N).cut (A36x0x36029 N) progOk (T53x0_ok N) fun L x hx => (raw36x0x36029 N L).trans ((bind36x0x36029 N ..).trans ((altS alt1) x hx))
def F36x0 (v0 v1 v2 v3 v4 v5 v6 v7 : Int) (v8 : LB) (k0 : Int → Option R) : Option R :=
 bnd (V52x0 N v1 1 8) fun y0 =>
 bif (!y0) then
  k0 7
 else
  bnd (V52x0 N v0 1 3) fun y1 =>
  bif (!y1) then
   k0 9
  else
   bnd (G36x0x36029 N v1 (v1 == 1) v2 v3 v4 v5 v6 v7 v8 v2 v3 v4 v5 v6 v7 v8) fun y2 =>
   bif (inlB y2) then
    k0 (inlV y2)
   else
    bif (inrQ y2).isSome then
     bnd (!((((inrQ y2).getD default).1 == 0) && ((((inrQ y2).getD default).2.1 == 0) && ((((inrQ y2).getD default).2.2.1 == 0) && (((((inrQ y2).getD default).2.2.2.1 == 0) && ((((inrQ y2).getD default).2.2.2.2.1 == 0) && true)) && ((((inrQ y2).getD default).2.2.2.2.2.1 == 0) && ((((inrQ y2).getD default).2.2.2.2.2.2 == ([] : List UInt8)) && true))))))) fun y3 =>
     bif y3 then
      k0 2
     else
      k0 0
    else
     none
def G36x0 (v0 v1 v2 v3 v4 v5 v6 v7 : Int) (v8 : LB) : Option (Int) := F36x0 N v0 v1 v2 v3 v4 v5 v6 v7 v8 (fun p => some p)
theorem bind36x0 (v0 v1 v2 v3 v4 v5 v6 v7 : Int) (v8 : LB) (k0 : Int → Option R) : F36x0 N v0 v1 v2 v3 v4 v5 v6 v7 v8 k0 = (G36x0 N v0 v1 v2 v3 v4 v5 v6 v7 v8).bind k0 := by
 unfold G36x0 F36x0
 repeat' (first | with_reducible apply cond_b | (with_reducible apply bnd_b; intro _) | rfl)
def J36x0 (L : List Lf) (k0 : Int → Option R) : Option R := F36x0 N (li L 0) (li L 1) (li L 2) (li L 3) (li L 4) (li L 5) (li L 6) (li L 7) (ls L 8) k0
def sh36x0 : Sh := { tmps := [(0, .g (rI 8 ([.s])))], mem := [] }
def A36x0 (L : List Lf) : List (Bool × Res) := bnd (J36x0 N L (fun p => some p)) fun q => [(q.isSome, ([.c (.i .i64 (q.getD default))], []))]
theorem raw36x0 (L : List Lf) : bd Tryz.prog (T53x0 N) (h36x0s7 N).h 36 sh36x0 L = J36x0 N L (fun p => some ([.c (.i .i64 p)], [])) := by kernel_rfl
theorem ok36x0 : FnOk Tryz.prog 36 sh36x0 (A36x0 N) :=
 (h36x0s7 N).fn progOk (T53x0_ok N) fun L x hx => ((raw36x0 N L).trans ((bind36x0 N ..).trans (alt1 x hx)))
def T36x0 : Oracle := ext 36 (spSh sh36x0 (A36x0 N)) (T53x0 N)
theorem T36x0_ok : OracleOk Tryz.prog (T36x0 N) := FnOk.to (ok36x0 N) (T53x0_ok N)
def rg15x0 : List (Nat × List Nat) := [(0, [0]), (1, [1]), (2, []), (3, [1]), (4, [13, 12, 11]), (5, [11, 13, 12]), (6, [4, 13, 12, 11]), (7, [5, 13, 12, 11]), (8, [5]), (9, [13, 12, 11]), (10, [])]
def hd15x0 : Hints := [(12, [11, 12, 13], [], [])]
def h15x0s0 (N : Nat) : Sg Tryz.prog 0 15 := .start hd15x0 rg15x0
def S15x0x12 (w1 : LD) (w2 : Int) (w3 : Int) (kr : Int → Option R) (k0 : Int → Option R) (k1 : Unit → Option R) : Option R :=
 bif (decide (w3 < w2)) then
  bif (inB w3 w1.length) then
   bnd (G36x0 N ((w1.getD w3.toNat (.i 0)).cell 0).toI ((w1.getD w3.toNat (.i 0)).cell 1).toI ((w1.getD w3.toNat (.i 0)).cell 2).toI ((w1.getD w3.toNat (.i 0)).cell 3).toI ((w1.getD w3.toNat (.i 0)).cell 4).toI ((w1.getD w3.toNat (.i 0)).cell 5).toI ((w1.getD w3.toNat (.i 0)).cell 6).toI ((w1.getD w3.toNat (.i 0)).cell 7).toI ((w1.getD w3.toNat (.i 0)).cell 8).toS) fun y0 =>
   bif y0.isSome then
    bif ((y0.getD default) != 0) then
     k0 (y0.getD default)
    else
     kr (IntKind.wrap .i64 (w3 + 1))
   else
    none
  else
   none
 else
  k1 ()
def L15x0x12 (N : Nat) {R : Type} (w1 : LD) (w2 : Int) : Nat → Int → (Int → Option R) → (Unit → Option R) → Option R
 | 0, _, _, _ => none
 | m + 1, w3, k0, k1 => S15x0x12 N w1 w2 w3 (fun w3 => L15x0x12 N w1 w2 m w3 k0 k1) k0 k1
def G15x0x12 (w1 : LD) (w2 : Int) (w3 : Int) : Option (Sum (Int) (Unit)) := L15x0x12 N (R := (Sum (Int) (Unit))) w1 w2 N w3 (fun p => some (.inl p)) (fun p => some (.inr p))
def J15x0x12 (L x : List Lf) (kr : List Lf → Option R) (k0 : Int → Option R) (k1 : Unit → Option R) : Option R := S15x0x12 N (ll L 1) (li L 2) (li x 0) (fun w3 => kr [.i w3]) k0 k1
theorem sb15x0x12 (L x : List Lf) (kr : List Lf → Option R) (k0 : Int → Option R) (k1 : Unit → Option R) : J15x0x12 N L x kr k0 k1 = (J15x0x12 N L x (fun y => some (.inl y)) (fun p => some (.inr (.inl p))) (fun p => some (.inr (.inr p)))).bind (sumE kr (sumE k0 k1)) := by
 unfold J15x0x12 S15x0x12
 repeat' (first | with_reducible apply cond_b | (with_reducible apply bnd_b; intro _) | rfl)
def Q15x0x12 (L : List Lf) (m : Nat) (x : List Lf) : Option (Sum (Int) (Unit)) := L15x0x12 N (R := (Sum (Int) (Unit))) (ll L 1) (li L 2) m (li x 0) (fun p => some (.inl p)) (fun p => some (.inr p))
def sh15x0x12 : Sh := { tmps := [(11, .c (.sl 40)), (12, .c (.i .i64)), (13, .c (.i .i64))], mem := [] }
def A15x0x12 (L : List Lf) : List (Bool × (Ex × St)) := bnd (Q15x0x12 N L N (pk sh15x0x12 [3] L)) fun q => [((inlB q), (.ret, ⟨[(2, .c (.i .i64 (inlV q)))], []⟩)), ((inrQ q).isSome, ((.exit 0), ⟨[], []⟩))]
theorem step15x0x12 (m : Nat) (kn : St → Option (Ex × St)) (L x : List Lf) : lpB Tryz.prog (T36x0 N) (h15x0s0 N).h 0 15 12 sh15x0x12 [3] [2] [] (m + 100) kn L x = J15x0x12 N L x (fun y => kn (ofSh sh15x0x12 (mx sh15x0x12 [3] L y))) (fun p => some (.ret, ⟨[(2, .c (.i .i64 p))], []⟩)) (fun _ => some ((.exit 0), ⟨[], []⟩)) := by kernel_rfl
theorem ql15x0x12 (L : List Lf) (m : Nat) (x : List Lf) : Q15x0x12 N L (m + 1) x = J15x0x12 N L x (Q15x0x12 N L m) (fun p => some (.inl p)) (fun p => some (.inr p)) := by kernel_rfl
def h15x0s1 : Sg Tryz.prog 0 15 :=
 (h15x0s0 N).lp (A15x0x12 N) N progOk (T36x0_ok N) (fun m kn L x => (step15x0x12 N m kn L x).trans (sb15x0x12 N L x _ _ _)) (fun L m x => (ql15x0x12 N L m x).trans (sb15x0x12 N L x (Q15x0x12 N L m) (fun p => some (.inl p)) (fun p => some (.inr p)))) fun L x hx => (altS alt1) x hx
def F15x0 (v1 : LD) (k0 : Int → Option R) : Option R :=
 bif (decide ((v1.length : Int) > 50)) then
  k0 3
 else
  bnd (G15x0x12 N v1 (v1.length : Int) 0) fun y0 =>
  bif (inlB y0) then
   k0 (inlV y0)
  else
   bif (inrQ y0).isSome then
    k0 0
   else
    none
def G15x0 (v1 : LD) : Option (Int) := F15x0 N v1 (fun p => some p)
theorem bind15x0 (v1 : LD) (k0 : Int → Option R) : F15x0 N v1 k0 = (G15x0 N v1).bind k0 := by
 unfold G15x0 F15x0
 repeat' (first | with_reducible apply cond_b | (with_reducible apply bnd_b; intro _) | rfl)
def sh15x0 : Sh := { tmps := [(0, .g ([.sl 40]))], mem := [] }
def A15x0 (L : List Lf) : List (Bool × Res) := bnd (F15x0 N (ll L 1) (fun p => some p)) fun q => [(q.isSome, ([.c (.i .i64 (q.getD default))], []))]
theorem raw15x0 (L : List Lf) : bd Tryz.prog (T36x0 N) (h15x0s1 N).h 15 sh15x0 L = F15x0 N (ll L 1) (fun p => some ([.c (.i .i64 p)], [])) := by kernel_rfl
theorem ok15x0 : FnOk Tryz.prog 15 sh15x0 (A15x0 N) :=
 (h15x0s1 N).fn progOk (T36x0_ok N) fun L x hx => ((raw15x0 N L).trans ((bind15x0 N ..).trans (alt1 x hx)))
def T15x0 : Oracle := ext 15 (spSh sh15x0 (A15x0 N)) (T36x0 N)
theorem T15x0_ok : OracleOk Tryz.prog (T15x0 N) := FnOk.to (ok15x0 N) (T36x0_ok N)
def rg22x0 : List (Nat × List Nat) := [(0, []), (1, [])]
def hd22x0 : Hints := []
def h22x0s0 (N : Nat) : Sg Tryz.prog 0 22 := .start hd22x0 rg22x0
def F22x0 (N : Nat) (k0 : LD → R) : R :=
 k0 [(.s ([] : List UInt8)), (.s ([102, 114, 105, 101, 110, 100] : List UInt8)), (.s ([99, 108, 117, 98] : List UInt8)), (.s ([97, 108, 108] : List UInt8))]
def V22x0 : LD := F22x0 N (fun p => p)
theorem tot22x0 (k0 : LD → R) : F22x0 N k0 = k0 (V22x0 N) := by
 unfold V22x0 F22x0
 repeat' (first | rfl | apply cond_k | (apply bnd_k; intro _))
def sh22x0 : Sh := { tmps := [], mem := [] }
def A22x0 (L : List Lf) : List (Bool × Res) := bnd (F22x0 N (fun p => p)) fun q => [(true, ([.c (.sl 9 false q)], []))]
theorem raw22x0 (L : List Lf) : bd Tryz.prog (T15x0 N) (h22x0s0 N).h 22 sh22x0 L = F22x0 N (fun p => some ([.c (.sl 9 false p)], [])) := by kernel_rfl
theorem ok22x0 : FnOk Tryz.prog 22 sh22x0 (A22x0 N) :=
 (h22x0s0 N).fn progOk (T15x0_ok N) fun L x hx => ((raw22x0 N L).trans ((tot22x0 N ..).trans (alt0 _ _ hx)))
def T22x0 : Oracle := ext 22 (spSh sh22x0 (A22x0 N)) (T15x0 N)
theorem T22x0_ok : OracleOk Tryz.prog (T22x0 N) := FnOk.to (ok22x0 N) (T15x0_ok N)
def rg23x0 : List (Nat × List Nat) := [(0, []), (1, [])]
def hd23x0 : Hints := []
def h23x0s0 (N : Nat) : Sg Tryz.prog 0 23 := .start hd23x0 rg23x0
def F23x0 (N : Nat) (k0 : LD → R) : R :=
 k0 [(.s ([] : List UInt8)), (.s ([112, 108, 97, 99, 101] : List UInt8)), (.s ([104, 111, 117, 114, 115] : List UInt8)), (.s ([] : List UInt8)), (.s ([116, 97, 103] : List UInt8)), (.s ([115, 112, 111, 114, 116] : List UInt8)), (.s ([100, 97, 121] : List UInt8)), (.s ([110, 97, 109, 101] : List UInt8)), (.s ([103, 114, 105, 100] : List UInt8))]
def V23x0 : LD := F23x0 N (fun p => p)
theorem tot23x0 (k0 : LD → R) : F23x0 N k0 = k0 (V23x0 N) := by
 unfold V23x0 F23x0
 repeat' (first | rfl | apply cond_k | (apply bnd_k; intro _))
def sh23x0 : Sh := { tmps := [], mem := [] }
def A23x0 (L : List Lf) : List (Bool × Res) := bnd (F23x0 N (fun p => p)) fun q => [(true, ([.c (.sl 9 false q)], []))]
theorem raw23x0 (L : List Lf) : bd Tryz.prog (T22x0 N) (h23x0s0 N).h 23 sh23x0 L = F23x0 N (fun p => some ([.c (.sl 9 false p)], [])) := by kernel_rfl
theorem ok23x0 : FnOk Tryz.prog 23 sh23x0 (A23x0 N) :=
 (h23x0s0 N).fn progOk (T22x0_ok N) fun L x hx => ((raw23x0 N L).trans ((tot23x0 N ..).trans (alt0 _ _ hx)))
def T23x0 : Oracle := ext 23 (spSh sh23x0 (A23x0 N)) (T22x0 N)
theorem T23x0_ok : OracleOk Tryz.prog (T23x0 N) := FnOk.to (ok23x0 N) (T22x0_ok N)
def rg24x0 : List (Nat × List Nat) := [(0, []), (1, [])]
def hd24x0 : Hints := []
def h24x0s0 (N : Nat) : Sg Tryz.prog 0 24 := .start hd24x0 rg24x0
def F24x0 (N : Nat) (k0 : LD → R) : R :=
 k0 [(.s ([] : List UInt8)), (.s ([112, 117, 108, 115, 101] : List UInt8)), (.s ([112, 111, 119, 101, 114] : List UInt8)), (.s ([115, 116, 101, 112, 115] : List UInt8)), (.s ([104, 101, 105, 103, 104, 116] : List UInt8))]
def V24x0 : LD := F24x0 N (fun p => p)
theorem tot24x0 (k0 : LD → R) : F24x0 N k0 = k0 (V24x0 N) := by
 unfold V24x0 F24x0
 repeat' (first | rfl | apply cond_k | (apply bnd_k; intro _))
def sh24x0 : Sh := { tmps := [], mem := [] }
def A24x0 (L : List Lf) : List (Bool × Res) := bnd (F24x0 N (fun p => p)) fun q => [(true, ([.c (.sl 9 false q)], []))]
theorem raw24x0 (L : List Lf) : bd Tryz.prog (T23x0 N) (h24x0s0 N).h 24 sh24x0 L = F24x0 N (fun p => some ([.c (.sl 9 false p)], [])) := by kernel_rfl
theorem ok24x0 : FnOk Tryz.prog 24 sh24x0 (A24x0 N) :=
 (h24x0s0 N).fn progOk (T23x0_ok N) fun L x hx => ((raw24x0 N L).trans ((tot24x0 N ..).trans (alt0 _ _ hx)))
def T24x0 : Oracle := ext 24 (spSh sh24x0 (A24x0 N)) (T23x0 N)
theorem T24x0_ok : OracleOk Tryz.prog (T24x0 N) := FnOk.to (ok24x0 N) (T23x0_ok N)
def rg25x0 : List (Nat × List Nat) := [(0, [0]), (1, [0]), (2, [6, 0]), (4, [6, 0]), (6, [6, 0]), (7, [6, 0]), (8, [0]), (5, [0]), (3, [0]), (9, [])]
def hd25x0 : Hints := [(21002, [0, 6, 30], [0], [])]
def h25x0s0 (N : Nat) : Sg Tryz.prog 1 25 := .start hd25x0 rg25x0
def F25x0x21002 (N : Nat) (w0 : Int) (w1 : Bool) (k0 : Bool → R) : R :=
 bif w1 then
  k0 true
 else
  k0 (w0 == 8)
def V25x0x21002 (w0 : Int) (w1 : Bool) : Bool := F25x0x21002 N w0 w1 (fun p => p)
theorem tot25x0x21002 (w0 : Int) (w1 : Bool) (k0 : Bool → R) : F25x0x21002 N w0 w1 k0 = k0 (V25x0x21002 N w0 w1) := by
 unfold V25x0x21002 F25x0x21002
 repeat' (first | rfl | apply cond_k | (apply bnd_k; intro _))
def sh25x0x21002 : Sh := { tmps := [(0, .c (.p 0 0)), (6, .c (.i .i64)), (30, .c (.b))], mem := [(0, .box (rI 8 ([.s])))] }
def K25x0x21002w0 (L : List Lf) (p : Bool) : Ex × St := (.normal, mg (ofSh sh25x0x21002 L) [0, 30] [(30, .c (.b p))] [0] [])
def A25x0x21002 (L : List Lf) : List (Bool × (Ex × St)) := bnd (F25x0x21002 N (li L 0) (lb L 1) (fun p => p)) fun q => [(true, K25x0x21002w0 L q)]
theorem raw25x0x21002 (L : List Lf) : pc Tryz.prog (T24x0 N) (h25x0s0 N).h 1 100 25 21002 sh25x0x21002 L [0, 30] [0] = F25x0x21002 N (li L 0) (lb L 1) (fun p => some (K25x0x21002w0 L p)) := by kernel_rfl
def h25x0s1 : Sg Tryz.prog 1 25 :=
 (h25x0s0 N).cut (A25x0x21002 N) progOk (T24x0_ok N) fun L x hx => (raw25x0x21002 N L).trans ((tot25x0x21002 N ..).trans (alt0 _ _ hx))
def F25x0 (v1 : Int) (k0 : Unit → Option R) (k1 : Unit → Option R) (k2 : Unit → Option R) (k3 : Unit → Option R) : Option R :=
 bif (v1 == 1) then
  k0 ()
 else
  bif (v1 == 2) then
   k1 ()
  else
   bnd (V25x0x21002 N v1 (v1 == 5)) fun y0 =>
   bif y0 then
    k2 ()
   else
    k3 ()
def G25x0 (v1 : Int) : Option (Sum (Unit) (Sum (Unit) (Sum (Unit) (Unit)))) := F25x0 N v1 (fun p => some (.inl p)) (fun p => some (.inr (.inl p))) (fun p => some (.inr (.inr (.inl p)))) (fun p => some (.inr (.inr (.inr p))))
theorem bind25x0 (v1 : Int) (k0 : Unit → Option R) (k1 : Unit → Option R) (k2 : Unit → Option R) (k3 : Unit → Option R) : F25x0 N v1 k0 k1 k2 k3 = (G25x0 N v1).bind (sumE k0 (sumE k1 (sumE k2 k3))) := by
 unfold G25x0 F25x0
 repeat' (first | with_reducible apply cond_b | (with_reducible apply bnd_b; intro _) | rfl)
def sh25x0 : Sh := { tmps := [(0, .c (.p 0 0))], mem := [(0, .box (rI 8 ([.s])))] }
def K25x0w0 (L : List Lf) (_ : Unit) : Res := ([.c (.bs 19 3)], mgA (ofSh sh25x0 L).mem [(19, .box [.p 0 2, .p 0 3, .p 0 4])] [0, 19])
def K25x0w1 (L : List Lf) (_ : Unit) : Res := ([.c (.bs 30 2)], mgA (ofSh sh25x0 L).mem [(30, .box [.p 0 5, .p 0 6])] [0, 30])
def K25x0w2 (L : List Lf) (_ : Unit) : Res := ([.c (.bs 37 1)], mgA (ofSh sh25x0 L).mem [(37, .box [.p 0 7])] [0, 37])
def A25x0 (L : List Lf) : List (Bool × Res) := bnd (F25x0 N (li L 1) (fun p => some (.inl p)) (fun p => some (.inr (.inl p))) (fun p => some (.inr (.inr (.inl p)))) (fun p => some (.inr (.inr (.inr p))))) fun q => [((inlB q), K25x0w0 L ()), ((inlB (inrQ q)), K25x0w1 L ()), ((inlB (inrQ (inrQ q))), K25x0w2 L ()), ((inrQ (inrQ (inrQ q))).isSome, ([.c (.sl 63 true [])], mgA (ofSh sh25x0 L).mem [] [0]))]
theorem raw25x0 (L : List Lf) : bd Tryz.prog (T24x0 N) (h25x0s1 N).h 25 sh25x0 L = F25x0 N (li L 1) (fun _ => some (K25x0w0 L ())) (fun _ => some (K25x0w1 L ())) (fun _ => some (K25x0w2 L ())) (fun _ => some ([.c (.sl 63 true [])], mgA (ofSh sh25x0 L).mem [] [0])) := by kernel_rfl
theorem ok25x0 : FnOk Tryz.prog 25 sh25x0 (A25x0 N) :=
 (h25x0s1 N).fn progOk (T24x0_ok N) fun L x hx => ((raw25x0 N L).trans ((bind25x0 N ..).trans ((altS (altS (altS alt1))) x hx)))
def T25x0 : Oracle := ext 25 (spSh sh25x0 (A25x0 N)) (T24x0 N)
theorem T25x0_ok : OracleOk Tryz.prog (T25x0 N) := FnOk.to (ok25x0 N) (T24x0_ok N)
def sh44x0 : Sh := copyCkSh
def A44x0 (N : Nat) (L : List Lf) : List (Bool × Res) := copyCkA L
theorem ok44x0 : FnOk Tryz.prog 44 sh44x0 (A44x0 N) := copyCk_fn
def T44x0 : Oracle := ext 44 (spSh sh44x0 (A44x0 N)) (T25x0 N)
theorem T44x0_ok : OracleOk Tryz.prog (T44x0 N) := FnOk.to (ok44x0 N) (T25x0_ok N)
def rg27x0 : List (Nat × List Nat) := [(0, [0, 1]), (1, [0, 1]), (2, [0, 1]), (3, [1])]
def hd27x0 : Hints := []
def h27x0s0 (N : Nat) : Sg Tryz.prog 2 27 := .start hd27x0 rg27x0
def F27x0 (N : Nat) (v0 : LB) (v1 : Bool) (v2 : LD) (k0 : Int × Bool × LD → Option R) : Option R :=
 bif (decide ((v2.length + v0.length) * 1 ≤ room) && decide ((v2.length + v0.length) ≤ strMax)) then
  k0 ((v0.length : Int), (v0.isEmpty && v1), (v2 ++ (bytesD v0)))
 else
  none
def G27x0 (v0 : LB) (v1 : Bool) (v2 : LD) : Option (Int × Bool × LD) := F27x0 N v0 v1 v2 (fun p => some p)
theorem bind27x0 (v0 : LB) (v1 : Bool) (v2 : LD) (k0 : Int × Bool × LD → Option R) : F27x0 N v0 v1 v2 k0 = (G27x0 N v0 v1 v2).bind k0 := by
 unfold G27x0 F27x0
 repeat' (first | with_reducible apply cond_b | (with_reducible apply bnd_b; intro _) | rfl)
def sh27x0 : Sh := { tmps := [(0, .c (.p 0 0)), (1, .c (.s))], mem := [(0, .box ([.ba 0 58, .o 1])), (1, .row 5 true)] }
def K27x0w0 (L : List Lf) (p : Int × Bool × LD) : Res := ([.c (.i .i64 p.1), .c (.v .nilIface)], [(0, .box [.ba 0 58, .o 16]), (16, .row 5 true p.2.1 p.2.2)])
def A27x0 (L : List Lf) : List (Bool × Res) := bnd (F27x0 N (ls L 0) (lb L 1) (ll L 2) (fun p => some p)) fun q => [(q.isSome, K27x0w0 L (q.getD default))]
theorem raw27x0 (L : List Lf) : bd Tryz.prog (T44x0 N) (h27x0s0 N).h 27 sh27x0 L = F27x0 N (ls L 0) (lb L 1) (ll L 2) (fun p => some (K27x0w0 L p)) := by kernel_rfl
theorem ok27x0 : FnOk Tryz.prog 27 sh27x0 (A27x0 N) :=
 (h27x0s0 N).fn progOk (T44x0_ok N) fun L x hx => ((raw27x0 N L).trans ((bind27x0 N ..).trans (alt1 x hx)))
def T27x0 : Oracle := ext 27 (spSh sh27x0 (A27x0 N)) (T44x0 N)
theorem T27x0_ok : OracleOk Tryz.prog (T27x0 N) := FnOk.to (ok27x0 N) (T44x0_ok N)
def sh29x0 : Sh := bstrSh
def A29x0 (N : Nat) (L : List Lf) : List (Bool × Res) := bstrA L
theorem ok29x0 : FnOk Tryz.prog 29 sh29x0 (A29x0 N) := bstr_fn
def T29x0 : Oracle := ext 29 (spSh sh29x0 (A29x0 N)) (T27x0 N)
theorem T29x0_ok : OracleOk Tryz.prog (T29x0 N) := FnOk.to (ok29x0 N) (T27x0_ok N)
def rg9x0 : List (Nat × List Nat) := [(0, [0]), (1, [1]), (2, [4, 1]), (3, [4]), (4, [1]), (5, [1, 5]), (6, [19, 18, 17, 5]), (7, [17, 19, 5, 18]), (8, [7, 5, 19, 18, 17]), (9, [7, 8, 5, 19, 18, 17]), (10, [8, 7, 5, 19, 18, 17]), (11, [7, 8, 5, 19, 18, 17]), (12, [46, 45, 44, 8, 7, 5, 19, 18, 17]), (13, [44, 46, 8, 45, 7, 5, 19, 18, 17]), (14, [8, 10, 46, 45, 44, 7, 5, 19, 18, 17]), (15, [46, 45, 44, 8, 7, 5, 19, 18, 17]), (16, [7, 8, 5, 19, 18, 17]), (17, [8, 7, 5, 19, 18, 17]), (18, [8, 5, 19, 18, 17]), (19, [19, 18, 17, 5]), (20, [5])]
def hd9x0 : Hints := [(18, [5, 17, 18, 19], [5, 50005001], [50005001]), (32, [5, 7, 8, 17, 18, 19, 36], [5, 7, 33, 50005001], []), (34, [5, 7, 8, 17, 18, 19], [5, 7, 33, 50005001], []), (53, [5, 7, 8, 17, 18, 19, 60], [5, 7, 33, 56, 50005001], [])]
def h9x0s0 (N : Nat) : Sg Tryz.prog 0 9 := .start hd9x0 rg9x0
def F9x0x32 (w4 : Bool) (w12 : Int) (w15 : LD) (k0 : LD → Option R) : Option R :=
 bif w4 then
  bnd (V24x0 N) fun y0 =>
  bif (inB w12 y0.length) then
   bif (inB 1 w15.length) then
    bif (decide (1 < w15.length)) then
     k0 (w15.set 1 (.s (y0.getD w12.toNat (.i 0)).toS))
    else
     none
   else
    none
  else
   none
 else
  k0 w15
def G9x0x32 (w4 : Bool) (w12 : Int) (w15 : LD) : Option (LD) := F9x0x32 N w4 w12 w15 (fun p => some p)
theorem bind9x0x32 (w4 : Bool) (w12 : Int) (w15 : LD) (k0 : LD → Option R) : F9x0x32 N w4 w12 w15 k0 = (G9x0x32 N w4 w12 w15).bind k0 := by
 unfold G9x0x32 F9x0x32
 repeat' (first | with_reducible apply cond_b | (with_reducible apply bnd_b; intro _) | rfl)
def sh9x0x32 : Sh := { tmps := [(5, .c (.p 5 0)), (7, .c (.p 7 0)), (8, .c (.o 33)), (17, .c (.sl 40)), (18, .c (.i .i64)), (19, .c (.i .i64)), (36, .c (.b))], mem := [(5, .box ([.ba 5 58, .o 50005001])), (7, .box (rI 8 ([.s]))), (33, .row 9 true), (50005001, .row 5 true)] }
def K9x0x32w0 (L : List Lf) (p : LD) : Ex × St := (.normal, mg (ofSh sh9x0x32 L) [7, 8, 5, 19, 18, 17] [] [33, 7, 50005001, 5] [(33, .row 9 true (lb L 14) p)])
def A9x0x32 (L : List Lf) : List (Bool × (Ex × St)) := bnd (F9x0x32 N (lb L 4) (li L 12) (ll L 15) (fun p => some p)) fun q => [(q.isSome, K9x0x32w0 L (q.getD default))]
theorem raw9x0x32 (L : List Lf) : pc Tryz.prog (T29x0 N) (h9x0s0 N).h 0 100 9 32 sh9x0x32 L [7, 8, 5, 19, 18, 17] [33, 7, 50005001, 5] = F9x0x32 N (lb L 4) (li L 12) (ll L 15) (fun p => some (K9x0x32w0 L p)) := by kernel_rfl
def h9x0s1 : Sg Tryz.prog 0 9 :=
 (h9x0s0 N).cut (A9x0x32 N) progOk (T29x0_ok N) fun L x hx => (raw9x0x32 N L).trans ((bind9x0x32 N ..).trans (alt1 x hx))
def F9x0x34 (w5 : Int) (k0 : Unit → Option R) (k1 : Unit → Option R) (k2 : Unit → Option R) (k3 : Unit → Option R) : Option R :=
 bnd (G25x0 N w5) fun y0 =>
 bif (inlB y0) then
  k0 ()
 else
  bif (inlB (inrQ y0)) then
   k1 ()
  else
   bif (inlB (inrQ (inrQ y0))) then
    k2 ()
   else
    bif (inrQ (inrQ (inrQ y0))).isSome then
     k3 ()
    else
     none
def G9x0x34 (w5 : Int) : Option (Sum (Unit) (Sum (Unit) (Sum (Unit) (Unit)))) := F9x0x34 N w5 (fun p => some (.inl p)) (fun p => some (.inr (.inl p))) (fun p => some (.inr (.inr (.inl p)))) (fun p => some (.inr (.inr (.inr p))))
theorem bind9x0x34 (w5 : Int) (k0 : Unit → Option R) (k1 : Unit → Option R) (k2 : Unit → Option R) (k3 : Unit → Option R) : F9x0x34 N w5 k0 k1 k2 k3 = (G9x0x34 N w5).bind (sumE k0 (sumE k1 (sumE k2 k3))) := by
 unfold G9x0x34 F9x0x34
 repeat' (first | with_reducible apply cond_b | (with_reducible apply bnd_b; intro _) | rfl)
def sh9x0x34 : Sh := { tmps := [(5, .c (.p 5 0)), (7, .c (.p 7 0)), (8, .c (.o 33)), (17, .c (.sl 40)), (18, .c (.i .i64)), (19, .c (.i .i64))], mem := [(5, .box ([.ba 5 58, .o 50005001])), (7, .box (rI 8 ([.s]))), (33, .row 9 true), (50005001, .row 5 true)] }
def K9x0x34w0 (L : List Lf) (_ : Unit) : Ex × St := (.normal, mg (ofSh sh9x0x34 L) [46, 45, 44, 8, 7, 5, 19, 18, 17] [(46, .c (.i .i64 0)), (45, .c (.i .i64 3)), (44, .c (.bs 45000000019 3))] [45000000019, 33, 7, 50005001, 5] [(45000000019, .box [.p 7 2, .p 7 3, .p 7 4])])
def K9x0x34w1 (L : List Lf) (_ : Unit) : Ex × St := (.normal, mg (ofSh sh9x0x34 L) [46, 45, 44, 8, 7, 5, 19, 18, 17] [(46, .c (.i .i64 0)), (45, .c (.i .i64 2)), (44, .c (.bs 45000000030 2))] [33, 7, 50005001, 5, 45000000030] [(45000000030, .box [.p 7 5, .p 7 6])])
def K9x0x34w2 (L : List Lf) (_ : Unit) : Ex × St := (.normal, mg (ofSh sh9x0x34 L) [46, 45, 44, 8, 7, 5, 19, 18, 17] [(46, .c (.i .i64 0)), (45, .c (.i .i64 1)), (44, .c (.bs 45000000037 1))] [33, 7, 50005001, 5, 45000000037] [(45000000037, .box [.p 7 7])])
def K9x0x34w3 (L : List Lf) (_ : Unit) : Ex × St := (.normal, mg (ofSh sh9x0x34 L) [46, 45, 44, 8, 7, 5, 19, 18, 17] [(46, .c (.i .i64 0)), (45, .c (.i .i64 0)), (44, .c (.sl 63 true []))] [33, 7, 50005001, 5] [])
def A9x0x34 (L : List Lf) : List (Bool × (Ex × St)) := bnd (F9x0x34 N (li L 5) (fun p => some (.inl p)) (fun p => some (.inr (.inl p))) (fun p => some (.inr (.inr (.inl p)))) (fun p => some (.inr (.inr (.inr p))))) fun q => [((inlB q), K9x0x34w0 L ()), ((inlB (inrQ q)), K9x0x34w1 L ()), ((inlB (inrQ (inrQ q))), K9x0x34w2 L ()), ((inrQ (inrQ (inrQ q))).isSome, K9x0x34w3 L ())]
theorem raw9x0x34 (L : List Lf) : pc Tryz.prog (T29x0 N) (h9x0s1 N).h 0 100 9 34 sh9x0x34 L [46, 45, 44, 8, 7, 5, 19, 18, 17] [45000000019, 33, 7, 50005001, 5, 45000000030, 45000000037] = F9x0x34 N (li L 5) (fun _ => some (K9x0x34w0 L ())) (fun _ => some (K9x0x34w1 L ())) (fun _ => some (K9x0x34w2 L ())) (fun _ => some (K9x0x34w3 L ())) := by kernel_rfl
def h9x0s2 : Sg Tryz.prog 0 9 :=
 (h9x0s1 N).cut (A9x0x34 N) progOk (T29x0_ok N) fun L x hx => (raw9x0x34 N L).trans ((bind9x0x34 N ..).trans ((altS (altS (altS alt1))) x hx))
def F9x0x53 (N : Nat) (w4 : Bool) (w13 : LB) (w15 : LD) (k0 : LD → Option R) (k1 : Unit → Option R) : Option R :=
 bif w4 then
  bif (decide ((w15.length + 1) * 16 ≤ room) && decide ((w15.length + 1) ≤ strMax)) then
   k0 (w15 ++ [(.s w13)])
  else
   none
 else
  k1 ()
def G9x0x53 (w4 : Bool) (w13 : LB) (w15 : LD) : Option (Sum (LD) (Unit)) := F9x0x53 N w4 w13 w15 (fun p => some (.inl p)) (fun p => some (.inr p))
theorem bind9x0x53 (w4 : Bool) (w13 : LB) (w15 : LD) (k0 : LD → Option R) (k1 : Unit → Option R) : F9x0x53 N w4 w13 w15 k0 k1 = (G9x0x53 N w4 w13 w15).bind (sumE k0 k1) := by
 unfold G9x0x53 F9x0x53
 repeat' (first | with_reducible apply cond_b | (with_reducible apply bnd_b; intro _) | rfl)
def sh9x0x53 : Sh := { tmps := [(5, .c (.p 5 0)), (7, .c (.p 7 0)), (8, .c (.o 56)), (17, .c (.sl 40)), (18, .c (.i .i64)), (19, .c (.i .i64)), (60, .c (.b))], mem := [(5, .box ([.ba 5 58, .o 50005001])), (7, .box (rI 8 ([.s]))), (56, .row 9 true), (50005001, .row 5 true)] }
def K9x0x53w0 (L : List Lf) (p : LD) : Ex × St := (.normal, mg (ofSh sh9x0x53 L) [8, 5, 19, 18, 17] [(8, .c (.o 65))] [65, 50005001, 5] [(65, .row 9 true false p)])
def K9x0x53w1 (L : List Lf) (_ : Unit) : Ex × St := (.normal, mg (ofSh sh9x0x53 L) [8, 5, 19, 18, 17] [] [50005001, 5, 56] [])
def A9x0x53 (L : List Lf) : List (Bool × (Ex × St)) := bnd (F9x0x53 N (lb L 4) (ls L 13) (ll L 15) (fun p => some (.inl p)) (fun p => some (.inr p))) fun q => [((inlB q), K9x0x53w0 L (inlV q)), ((inrQ q).isSome, K9x0x53w1 L ())]
theorem raw9x0x53 (L : List Lf) : pc Tryz.prog (T29x0 N) (h9x0s2 N).h 0 100 9 53 sh9x0x53 L [8, 5, 19, 18, 17] [65, 50005001, 5, 56] = F9x0x53 N (lb L 4) (ls L 13) (ll L 15) (fun p => some (K9x0x53w0 L p)) (fun _ => some (K9x0x53w1 L ())) := by kernel_rfl
def h9x0s3 : Sg Tryz.prog 0 9 :=
 (h9x0s2 N).cut (A9x0x53 N) progOk (T29x0_ok N) fun L x hx => (raw9x0x53 N L).trans ((bind9x0x53 N ..).trans ((altS alt1) x hx))
def F9x0x53b (N : Nat) (w4 : Bool) (w13 : LB) (w15 : LD) (k0 : LD → Option R) (k1 : Unit → Option R) : Option R :=
 bif w4 then
  bif (decide ((w15.length + 1) * 16 ≤ room) && decide ((w15.length + 1) ≤ strMax)) then
   k0 (w15 ++ [(.s w13)])
  else
   none
 else
  k1 ()
def G9x0x53b (w4 : Bool) (w13 : LB) (w15 : LD) : Option (Sum (LD) (Unit)) := F9x0x53b N w4 w13 w15 (fun p => some (.inl p)) (fun p => some (.inr p))
theorem bind9x0x53b (w4 : Bool) (w13 : LB) (w15 : LD) (k0 : LD → Option R) (k1 : Unit → Option R) : F9x0x53b N w4 w13 w15 k0 k1 = (G9x0x53b N w4 w13 w15).bind (sumE k0 k1) := by
 unfold G9x0x53b F9x0x53b
 repeat' (first | with_reducible apply cond_b | (with_reducible apply bnd_b; intro _) | rfl)
def sh9x0x53b : Sh := { tmps := [(5, .c (.p 5 0)), (7, .c (.p 7 0)), (8, .c (.o 33)), (17, .c (.sl 40)), (18, .c (.i .i64)), (19, .c (.i .i64)), (60, .c (.b))], mem := [(5, .box ([.ba 5 58, .o 50005001])), (7, .box (rI 8 ([.s]))), (33, .row 9 true), (50005001, .row 5 true)] }
def K9x0x53bw0 (L : List Lf) (p : LD) : Ex × St := (.normal, mg (ofSh sh9x0x53b L) [8, 5, 19, 18, 17] [(8, .c (.o 65))] [65, 50005001, 5] [(65, .row 9 true false p)])
def K9x0x53bw1 (L : List Lf) (_ : Unit) : Ex × St := (.normal, mg (ofSh sh9x0x53b L) [8, 5, 19, 18, 17] [] [50005001, 5, 33] [])
def A9x0x53b (L : List Lf) : List (Bool × (Ex × St)) := bnd (F9x0x53b N (lb L 4) (ls L 13) (ll L 15) (fun p => some (.inl p)) (fun p => some (.inr p))) fun q => [((inlB q), K9x0x53bw0 L (inlV q)), ((inrQ q).isSome, K9x0x53bw1 L ())]
theorem raw9x0x53b (L : List Lf) : pc Tryz.prog (T29x0 N) ((h9x0s3 N).no 53).h 0 100 9 53 sh9x0x53b L [8, 5, 19, 18, 17] [65, 50005001, 5, 33] = F9x0x53b N (lb L 4) (ls L 13) (ll L 15) (fun p => some (K9x0x53bw0 L p)) (fun _ => some (K9x0x53bw1 L ())) := by kernel_rfl
def h9x0s4 : Sg Tryz.prog 0 9 :=
 (h9x0s3 N).add (((h9x0s3 N).no 53).cut (A9x0x53b N) progOk (T29x0_ok N) fun L x hx => (raw9x0x53b N L).trans ((bind9x0x53b N ..).trans ((altS alt1) x hx))) 53
def S9x0x18 (w1 : LD) (w2 : Int) (w3 : Int) (w4 : Bool) (w5 : LD) (kr : Int → Bool → LD → Option R) (k0 : Bool × LD → Option R) : Option R :=
 bif (decide (w3 < w2)) then
  bif (inB w3 w1.length) then
   bnd (V22x0 N) fun y0 =>
   bif (inB ((w1.getD w3.toNat (.i 0)).cell 0).toI y0.length) then
    bnd ((y0.getD ((w1.getD w3.toNat (.i 0)).cell 0).toI.toNat (.i 0)) : D) fun y1 =>
    bnd (V23x0 N) fun y2 =>
    bif (inB ((w1.getD w3.toNat (.i 0)).cell 1).toI y2.length) then
     bnd ((y2.getD ((w1.getD w3.toNat (.i 0)).cell 1).toI.toNat (.i 0)) : D) fun y3 =>
     bnd (G9x0x32 N (((w1.getD w3.toNat (.i 0)).cell 1).toI == 3) ((w1.getD w3.toNat (.i 0)).cell 7).toI [(.s y1.toS), (.s y3.toS)]) fun y4 =>
     bif y4.isSome then
      bnd (G9x0x34 N ((w1.getD w3.toNat (.i 0)).cell 1).toI) fun y5 =>
      bif (inlB y5) then
       bif (i64B ((w1.getD w3.toNat (.i 0)).cell 2).toI) then
        bif (decide (((y4.getD default).length + 1) * 16 ≤ room) && decide (((y4.getD default).length + 1) ≤ strMax)) then
         bnd (((y4.getD default) ++ [(.s (Lib.itoa ((w1.getD w3.toNat (.i 0)).cell 2).toI))]) : List D) fun y6 =>
         bif (i64B ((w1.getD w3.toNat (.i 0)).cell 3).toI) then
          bif (decide ((y6.length + 1) * 16 ≤ room) && decide ((y6.length + 1) ≤ strMax)) then
           bnd ((y6 ++ [(.s (Lib.itoa ((w1.getD w3.toNat (.i 0)).cell 3).toI))]) : List D) fun y7 =>
           bif (i64B ((w1.getD w3.toNat (.i 0)).cell 4).toI) then
            bif (decide ((y7.length + 1) * 16 ≤ room) && decide ((y7.length + 1) ≤ strMax)) then
             bnd ((y7 ++ [(.s (Lib.itoa ((w1.getD w3.toNat (.i 0)).cell 4).toI))]) : List D) fun y8 =>
             bnd (G9x0x53 N (((w1.getD w3.toNat (.i 0)).cell 1).toI == 4) ((w1.getD w3.toNat (.i 0)).cell 8).toS y8) fun y9 =>
             bif (inlB y9) then
              bif ((Nat.ble (inlV y9).length 140737488355328) && (Nat.ble (Lib.join ((inlV y9).map D.toS) ([32] : List UInt8)).length 140737488355328)) then
               bif (decide ((Lib.join ((inlV y9).map D.toS) ([32] : List UInt8)).length + ([10] : List UInt8).length ≤ strMax)) then
                bnd ((Lib.join ((inlV y9).map D.toS) ([32] : List UInt8)) ++ ([10] : List UInt8)) fun y10 =>
                bnd (G27x0 N y10 w4 w5) fun y11 =>
                bif y11.isSome then
                 kr (IntKind.wrap .i64 (w3 + 1)) (y11.getD default).2.1 (y11.getD default).2.2
                else
                 none
               else
                none
              else
               none
             else
              bif (inrQ y9).isSome then
               bif ((Nat.ble y8.length 140737488355328) && (Nat.ble (Lib.join (y8.map D.toS) ([32] : List UInt8)).length 140737488355328)) then
                bif (decide ((Lib.join (y8.map D.toS) ([32] : List UInt8)).length + ([10] : List UInt8).length ≤ strMax)) then
                 bnd ((Lib.join (y8.map D.toS) ([32] : List UInt8)) ++ ([10] : List UInt8)) fun y12 =>
                 bnd (G27x0 N y12 w4 w5) fun y13 =>
                 bif y13.isSome then
                  kr (IntKind.wrap .i64 (w3 + 1)) (y13.getD default).2.1 (y13.getD default).2.2
                 else
                  none
                else
                 none
               else
                none
              else
               none
            else
             none
           else
            none
          else
           none
         else
          none
        else
         none
       else
        none
      else
       bif (inlB (inrQ y5)) then
        bif (i64B ((w1.getD w3.toNat (.i 0)).cell 5).toI) then
         bif (decide (((y4.getD default).length + 1) * 16 ≤ room) && decide (((y4.getD default).length + 1) ≤ strMax)) then
          bnd (((y4.getD default) ++ [(.s (Lib.itoa ((w1.getD w3.toNat (.i 0)).cell 5).toI))]) : List D) fun y14 =>
          bif (i64B ((w1.getD w3.toNat (.i 0)).cell 6).toI) then
           bif (decide ((y14.length + 1) * 16 ≤ room) && decide ((y14.length + 1) ≤ strMax)) then
            bnd ((y14 ++ [(.s (Lib.itoa ((w1.getD w3.toNat (.i 0)).cell 6).toI))]) : List D) fun y15 =>
            bnd (G9x0x53 N (((w1.getD w3.toNat (.i 0)).cell 1).toI == 4) ((w1.getD w3.toNat (.i 0)).cell 8).toS y15) fun y16 =>
            bif (inlB y16) then
             bif ((Nat.ble (inlV y16).length 140737488355328) && (Nat.ble (Lib.join ((inlV y16).map D.toS) ([32] : List UInt8)).length 140737488355328)) then
              bif (decide ((Lib.join ((inlV y16).map D.toS) ([32] : List UInt8)).length + ([10] : List UInt8).length ≤ strMax)) then
               bnd ((Lib.join ((inlV y16).map D.toS) ([32] : List UInt8)) ++ ([10] : List UInt8)) fun y17 =>
               bnd (G27x0 N y17 w4 w5) fun y18 =>
               bif y18.isSome then
                kr (IntKind.wrap .i64 (w3 + 1)) (y18.getD default).2.1 (y18.getD default).2.2
               else
                none
              else
               none
             else
              none
            else
             bif (inrQ y16).isSome then
              bif ((Nat.ble y15.length 140737488355328) && (Nat.ble (Lib.join (y15.map D.toS) ([32] : List UInt8)).length 140737488355328)) then
               bif (decide ((Lib.join (y15.map D.toS) ([32] : List UInt8)).length + ([10] : List UInt8).length ≤ strMax)) then
                bnd ((Lib.join (y15.map D.toS) ([32] : List UInt8)) ++ ([10] : List UInt8)) fun y19 =>
                bnd (G27x0 N y19 w4 w5) fun y20 =>
                bif y20.isSome then
                 kr (IntKind.wrap .i64 (w3 + 1)) (y20.getD default).2.1 (y20.getD default).2.2
                else
                 none
               else
                none
              else
               none
             else
              none
           else
            none
          else
           none
         else
          none
        else
         none
       else
        bif (inlB (inrQ (inrQ y5))) then
         bif (i64B ((w1.getD w3.toNat (.i 0)).cell 7).toI) then
          bif (decide (((y4.getD default).length + 1) * 16 ≤ room) && decide (((y4.getD default).length + 1) ≤ strMax)) then
           bnd (((y4.getD default) ++ [(.s (Lib.itoa ((w1.getD w3.toNat (.i 0)).cell 7).toI))]) : List D) fun y21 =>
           bnd (G9x0x53 N (((w1.getD w3.toNat (.i 0)).cell 1).toI == 4) ((w1.getD w3.toNat (.i 0)).cell 8).toS y21) fun y22 =>
           bif (inlB y22) then
            bif ((Nat.ble (inlV y22).length 140737488355328) && (Nat.ble (Lib.join ((inlV y22).map D.toS) ([32] : List UInt8)).length 140737488355328)) then
             bif (decide ((Lib.join ((inlV y22).map D.toS) ([32] : List UInt8)).length + ([10] : List UInt8).length ≤ strMax)) then
              bnd ((Lib.join ((inlV y22).map D.toS) ([32] : List UInt8)) ++ ([10] : List UInt8)) fun y23 =>
              bnd (G27x0 N y23 w4 w5) fun y24 =>
              bif y24.isSome then
               kr (IntKind.wrap .i64 (w3 + 1)) (y24.getD default).2.1 (y24.getD default).2.2
              else
               none
             else
              none
            else
             none
           else
            bif (inrQ y22).isSome then
             bif ((Nat.ble y21.length 140737488355328) && (Nat.ble (Lib.join (y21.map D.toS) ([32] : List UInt8)).length 140737488355328)) then
              bif (decide ((Lib.join (y21.map D.toS) ([32] : List UInt8)).length + ([10] : List UInt8).length ≤ strMax)) then
               bnd ((Lib.join (y21.map D.toS) ([32] : List UInt8)) ++ ([10] : List UInt8)) fun y25 =>
               bnd (G27x0 N y25 w4 w5) fun y26 =>
               bif y26.isSome then
                kr (IntKind.wrap .i64 (w3 + 1)) (y26.getD default).2.1 (y26.getD default).2.2
               else
                none
              else
               none
             else
              none
            else
             none
          else
           none
         else
          none
        else
         bif (inrQ (inrQ (inrQ y5))).isSome then
          bnd (G9x0x53b N (((w1.getD w3.toNat (.i 0)).cell 1).toI == 4) ((w1.getD w3.toNat (.i 0)).cell 8).toS (y4.getD default)) fun y27 =>
          bif (inlB y27) then
           bif ((Nat.ble (inlV y27).length 140737488355328) && (Nat.ble (Lib.join ((inlV y27).map D.toS) ([32] : List UInt8)).length 140737488355328)) then
            bif (decide ((Lib.join ((inlV y27).map D.toS) ([32] : List UInt8)).length + ([10] : List UInt8).length ≤ strMax)) then
             bnd ((Lib.join ((inlV y27).map D.toS) ([32] : List UInt8)) ++ ([10] : List UInt8)) fun y28 =>
             bnd (G27x0 N y28 w4 w5) fun y29 =>
             bif y29.isSome then
              kr (IntKind.wrap .i64 (w3 + 1)) (y29.getD default).2.1 (y29.getD default).2.2
             else
              none
            else
             none
           else
            none
          else
           bif (inrQ y27).isSome then
            bif ((Nat.ble (y4.getD default).length 140737488355328) && (Nat.ble (Lib.join ((y4.getD default).map D.toS) ([32] : List UInt8)).length 140737488355328)) then
             bif (decide ((Lib.join ((y4.getD default).map D.toS) ([32] : List UInt8)).length + ([10] : List UInt8).length ≤ strMax)) then
              bnd ((Lib.join ((y4.getD default).map D.toS) ([32] : List UInt8)) ++ ([10] : List UInt8)) fun y30 =>
              bnd (G27x0 N y30 w4 w5) fun y31 =>
              bif y31.isSome then
               kr (IntKind.wrap .i64 (w3 + 1)) (y31.getD default).2.1 (y31.getD default).2.2
              else
               none
             else
              none
            else
             none
           else
            none
         else
          none
     else
      none
    else
     none
   else
    none
  else
   none
 else
  k0 (w4, w5)
def L9x0x18 (N : Nat) {R : Type} (w1 : LD) (w2 : Int) : Nat → Int → Bool → LD → (Bool × LD → Option R) → Option R
 | 0, _, _, _, _ => none
 | m + 1, w3, w4, w5, k0 => S9x0x18 N w1 w2 w3 w4 w5 (fun w3 w4 w5 => L9x0x18 N w1 w2 m w3 w4 w5 k0) k0
def G9x0x18 (w1 : LD) (w2 : Int) (w3 : Int) (w4 : Bool) (w5 : LD) : Option (Bool × LD) := L9x0x18 N (R := (Bool × LD)) w1 w2 N w3 w4 w5 (fun p => some p)
def J9x0x18 (L x : List Lf) (kr : List Lf → Option R) (k0 : Bool × LD → Option R) : Option R := S9x0x18 N (ll L 1) (li L 2) (li x 0) (lb x 1) (ll x 2) (fun w3 w4 w5 => kr [.i w3, .b w4, .l w5]) k0
theorem sb9x0x18 (L x : List Lf) (kr : List Lf → Option R) (k0 : Bool × LD → Option R) : J9x0x18 N L x kr k0 = (J9x0x18 N L x (fun y => some (.inl y)) (fun p => some (.inr p))).bind (sumE kr k0) := by
 unfold J9x0x18 S9x0x18
 repeat' (first | with_reducible apply cond_b | (with_reducible apply bnd_b; intro _) | rfl)
def Q9x0x18 (L : List Lf) (m : Nat) (x : List Lf) : Option (Bool × LD) := L9x0x18 N (R := (Bool × LD)) (ll L 1) (li L 2) m (li x 0) (lb x 1) (ll x 2) (fun p => some p)
def sh9x0x18 : Sh := { tmps := [(5, .c (.p 5 0)), (17, .c (.sl 40)), (18, .c (.i .i64)), (19, .c (.i .i64))], mem := [(5, .box ([.ba 5 58, .o 50005001])), (50005001, .row 5 true)] }
def K9x0x18w0 (L : List Lf) (p : Bool × LD) : Ex × St := ((.exit 0), mg (ofSh sh9x0x18 L) [5] [] [50005001, 5] [(50005001, .row 5 true p.1 p.2)])
def A9x0x18 (L : List Lf) : List (Bool × (Ex × St)) := bnd (Q9x0x18 N L N (pk sh9x0x18 [3, 4, 5] L)) fun q => [(q.isSome, K9x0x18w0 L (q.getD default))]
theorem step9x0x18 (m : Nat) (kn : St → Option (Ex × St)) (L x : List Lf) : lpB Tryz.prog (T29x0 N) (h9x0s4 N).h 0 9 18 sh9x0x18 [3, 4, 5] [2, 3, 5] [50005001, 5] (m + 100) kn L x = J9x0x18 N L x (fun y => kn (ofSh sh9x0x18 (mx sh9x0x18 [3, 4, 5] L y))) (fun p => some (K9x0x18w0 L p)) := by kernel_rfl
theorem ql9x0x18 (L : List Lf) (m : Nat) (x : List Lf) : Q9x0x18 N L (m + 1) x = J9x0x18 N L x (Q9x0x18 N L m) some := by kernel_rfl
def h9x0s5 : Sg Tryz.prog 0 9 :=
 (h9x0s4 N).lp (A9x0x18 N) N progOk (T29x0_ok N) (fun m kn L x => (step9x0x18 N m kn L x).trans (sb9x0x18 N L x _ _)) (fun L m x => (ql9x0x18 N L m x).trans (sb9x0x18 N L x (Q9x0x18 N L m) some)) fun L x hx => alt1 x hx
def F9x0 (v1 : LD) (k0 : LB × Int → Option R) : Option R :=
 bnd (G15x0 N v1) fun y0 =>
 bif y0.isSome then
  bif ((y0.getD default) != 0) then
   k0 (([] : List UInt8), (y0.getD default))
  else
   bnd (G9x0x18 N v1 (v1.length : Int) 0 true []) fun y1 =>
   bif y1.isSome then
    bif (isBytes (y1.getD default).2 && (!(y1.getD default).2.isEmpty || (y1.getD default).1)) then
     k0 ((strD (y1.getD default).2), 0)
    else
     none
   else
    none
 else
  none
def G9x0 (v1 : LD) : Option (LB × Int) := F9x0 N v1 (fun p => some p)
theorem bind9x0 (v1 : LD) (k0 : LB × Int → Option R) : F9x0 N v1 k0 = (G9x0 N v1).bind k0 := by
 unfold G9x0 F9x0
 repeat' (first | with_reducible apply cond_b | (with_reducible apply bnd_b; intro _) | rfl)
def sh9x0 : Sh := { tmps := [(0, .g ([.sl 40]))], mem := [] }
def A9x0 (L : List Lf) : List (Bool × Res) := bnd (F9x0 N (ll L 1) (fun p => some p)) fun q => [(q.isSome, ([.c (.s (q.getD default).1), .c (.i .i64 (q.getD default).2)], []))]
theorem raw9x0 (L : List Lf) : bd Tryz.prog (T29x0 N) (h9x0s5 N).h 9 sh9x0 L = F9x0 N (ll L 1) (fun p => some ([.c (.s p.1), .c (.i .i64 p.2)], [])) := by kernel_rfl
theorem ok9x0 : FnOk Tryz.prog 9 sh9x0 (A9x0 N) :=
 (h9x0s5 N).fn progOk (T29x0_ok N) fun L x hx => ((raw9x0 N L).trans ((bind9x0 N ..).trans (alt1 x hx)))
def T9x0 : Oracle := ext 9 (spSh sh9x0 (A9x0 N)) (T29x0 N)
theorem T9x0_ok : OracleOk Tryz.prog (T9x0 N) := FnOk.to (ok9x0 N) (T29x0_ok N)
def rg55x0 : List (Nat × List Nat) := [(0, [0, 1, 2]), (1, [0, 1, 2])]
def hd55x0 : Hints := []
def h55x0s0 (N : Nat) : Sg Tryz.prog 0 55 := .start hd55x0 rg55x0
def F55x0 (N : Nat) (v0 v1 v2 : Int) (k0 : Bool → R) : R :=
 k0 (bif (decide (v0 < v1)) then true else (decide (v0 > v2)))
def V55x0 (v0 v1 v2 : Int) : Bool := F55x0 N v0 v1 v2 (fun p => p)
theorem tot55x0 (v0 v1 v2 : Int) (k0 : Bool → R) : F55x0 N v0 v1 v2 k0 = k0 (V55x0 N v0 v1 v2) := by
 unfold V55x0 F55x0
 repeat' (first | rfl | apply cond_k | (apply bnd_k; intro _))
def sh55x0 : Sh := { tmps := [(0, .c (.i .i64)), (1, .c (.i .i64)), (2, .c (.i .i64))], mem := [] }
def A55x0 (L : List Lf) : List (Bool × Res) := bnd (F55x0 N (li L 0) (li L 1) (li L 2) (fun p => p)) fun q => [(true, ([.c (.b q)], []))]
theorem raw55x0 (L : List Lf) : bd Tryz.prog (T9x0 N) (h55x0s0 N).h 55 sh55x0 L = F55x0 N (li L 0) (li L 1) (li L 2) (fun p => some ([.c (.b p)], [])) := by kernel_rfl
theorem ok55x0 : FnOk Tryz.prog 55 sh55x0 (A55x0 N) :=
 (h55x0s0 N).fn progOk (T9x0_ok N) fun L x hx => ((raw55x0 N L).trans ((tot55x0 N ..).trans (alt0 _ _ hx)))
def T55x0 : Oracle := ext 55 (spSh sh55x0 (A55x0 N)) (T9x0 N)
theorem T55x0_ok : OracleOk Tryz.prog (T55x0 N) := FnOk.to (ok55x0 N) (T9x0_ok N)
def rg56x0 : List (Nat × List Nat) := [(0, [0]), (1, [0]), (2, [3, 0]), (4, [0, 3]), (5, [4, 3, 0]), (6, []), (3, [3, 0]), (7, [0])]
def hd56x0 : Hints := [(6, [0, 3], [], [])]
def h56x0s0 (N : Nat) : Sg Tryz.prog 0 56 := .start hd56x0 rg56x0
def S56x0x6 (N : Nat) (w0 : LB) (w1 : Int) (kr : Int → Option R) (k0 : Unit → Option R) (k1 : Unit → Option R) : Option R :=
 bif (decide (w1 < (w0.length : Int))) then
  bif (inB w1 w0.length) then
   bnd (bif (decide (((w0.getD w1.toNat 0).toNat : Int) ≥ 97)) then (decide (((w0.getD w1.toNat 0).toNat : Int) ≤ 122)) else false) fun y0 =>
   bnd (bif y0 then true else (bif (decide (((w0.getD w1.toNat 0).toNat : Int) ≥ 65)) then (decide (((w0.getD w1.toNat 0).toNat : Int) ≤ 90)) else false)) fun y1 =>
   bnd (bif y1 then true else (bif (decide (((w0.getD w1.toNat 0).toNat : Int) ≥ 48)) then (decide (((w0.getD w1.toNat 0).toNat : Int) ≤ 57)) else false)) fun y2 =>
   bnd (bif y2 then true else (((w0.getD w1.toNat 0).toNat : Int) == 45)) fun y3 =>
   bnd (bif y3 then true else (((w0.getD w1.toNat 0).toNat : Int) == 95)) fun y4 =>
   bnd (bif y4 then true else (((w0.getD w1.toNat 0).toNat : Int) == 46)) fun y5 =>
   bif (!y5) then
    k0 ()
   else
    kr (IntKind.wrap .i64 (w1 + 1))
  else
   none
 else
  k1 ()
def L56x0x6 (N : Nat) {R : Type} (w0 : LB) : Nat → Int → (Unit → Option R) → (Unit → Option R) → Option R
 | 0, _, _, _ => none
 | m + 1, w1, k0, k1 => S56x0x6 N w0 w1 (fun w1 => L56x0x6 N w0 m w1 k0 k1) k0 k1
def G56x0x6 (w0 : LB) (w1 : Int) : Option (Sum (Unit) (Unit)) := L56x0x6 N (R := (Sum (Unit) (Unit))) w0 N w1 (fun p => some (.inl p)) (fun p => some (.inr p))
def J56x0x6 (L x : List Lf) (kr : List Lf → Option R) (k0 : Unit → Option R) (k1 : Unit → Option R) : Option R := S56x0x6 N (ls L 0) (li x 0) (fun w1 => kr [.i w1]) k0 k1
theorem sb56x0x6 (L x : List Lf) (kr : List Lf → Option R) (k0 : Unit → Option R) (k1 : Unit → Option R) : J56x0x6 N L x kr k0 k1 = (J56x0x6 N L x (fun y => some (.inl y)) (fun p => some (.inr (.inl p))) (fun p => some (.inr (.inr p)))).bind (sumE kr (sumE k0 k1)) := by
 unfold J56x0x6 S56x0x6
 repeat' (first | with_reducible apply cond_b | (with_reducible apply bnd_b; intro _) | rfl)
def Q56x0x6 (L : List Lf) (m : Nat) (x : List Lf) : Option (Sum (Unit) (Unit)) := L56x0x6 N (R := (Sum (Unit) (Unit))) (ls L 0) m (li x 0) (fun p => some (.inl p)) (fun p => some (.inr p))
def sh56x0x6 : Sh := { tmps := [(0, .c (.s)), (3, .c (.i .i64))], mem := [] }
def A56x0x6 (L : List Lf) : List (Bool × (Ex × St)) := bnd (Q56x0x6 N L N (pk sh56x0x6 [1] L)) fun q => [((inlB q), (.ret, ⟨[(2, .c (.b false))], []⟩)), ((inrQ q).isSome, ((.exit 0), ⟨[(0, .c (.s (ls L 0)))], []⟩))]
theorem step56x0x6 (m : Nat) (kn : St → Option (Ex × St)) (L x : List Lf) : lpB Tryz.prog (T55x0 N) (h56x0s0 N).h 0 56 6 sh56x0x6 [1] [2, 0] [] (m + 100) kn L x = J56x0x6 N L x (fun y => kn (ofSh sh56x0x6 (mx sh56x0x6 [1] L y))) (fun _ => some (.ret, ⟨[(2, .c (.b false))], []⟩)) (fun _ => some ((.exit 0), ⟨[(0, .c (.s (ls L 0)))], []⟩)) := by kernel_rfl
theorem ql56x0x6 (L : List Lf) (m : Nat) (x : List Lf) : Q56x0x6 N L (m + 1) x = J56x0x6 N L x (Q56x0x6 N L m) (fun p => some (.inl p)) (fun p => some (.inr p)) := by kernel_rfl
def h56x0s1 : Sg Tryz.prog 0 56 :=
 (h56x0s0 N).lp (A56x0x6 N) N progOk (T55x0_ok N) (fun m kn L x => (step56x0x6 N m kn L x).trans (sb56x0x6 N L x _ _ _)) (fun L m x => (ql56x0x6 N L m x).trans (sb56x0x6 N L x (Q56x0x6 N L m) (fun p => some (.inl p)) (fun p => some (.inr p)))) fun L x hx => (altS alt1) x hx
def F56x0 (v0 : LB) (k0 : Bool → Option R) : Option R :=
 bnd (G56x0x6 N v0 0) fun y0 =>
 bif (inlB y0) then
  k0 false
 else
  bif (inrQ y0).isSome then
   bnd (bif (decide ((v0.length : Int) ≥ 1)) then (decide ((v0.length : Int) ≤ 60)) else false) fun y1 =>
   k0 y1
  else
   none
def G56x0 (v0 : LB) : Option (Bool) := F56x0 N v0 (fun p => some p)
theorem bind56x0 (v0 : LB) (k0 : Bool → Option R) : F56x0 N v0 k0 = (G56x0 N v0).bind k0 := by
 unfold G56x0 F56x0
 repeat' (first | with_reducible apply cond_b | (with_reducible apply bnd_b; intro _) | rfl)
def sh56x0 : Sh := { tmps := [(0, .c (.s))], mem := [] }
def A56x0 (L : List Lf) : List (Bool × Res) := bnd (F56x0 N (ls L 0) (fun p => some p)) fun q => [(q.isSome, ([.c (.b (q.getD default))], []))]
theorem raw56x0 (L : List Lf) : bd Tryz.prog (T55x0 N) (h56x0s1 N).h 56 sh56x0 L = F56x0 N (ls L 0) (fun p => some ([.c (.b p)], [])) := by kernel_rfl
theorem ok56x0 : FnOk Tryz.prog 56 sh56x0 (A56x0 N) :=
 (h56x0s1 N).fn progOk (T55x0_ok N) fun L x hx => ((raw56x0 N L).trans ((bind56x0 N ..).trans (alt1 x hx)))
def T56x0 : Oracle := ext 56 (spSh sh56x0 (A56x0 N)) (T55x0 N)
theorem T56x0_ok : OracleOk Tryz.prog (T56x0 N) := FnOk.to (ok56x0 N) (T55x0_ok N)
def rg57x0 : List (Nat × List Nat) := [(0, [0]), (1, [1, 2]), (2, [1, 3, 2]), (3, [10, 1, 3, 2]), (5, [10, 1, 3, 2]), (7, [10, 1, 3, 2]), (8, [10, 1, 3, 2]), (9, [10, 1, 3, 2]), (11, [10, 1, 3, 2]), (12, [1, 3, 2]), (10, [1, 3, 2]), (6, [1, 3, 2]), (4, [1, 3, 2]), (13, [3, 2])]
def hd57x0 : Hints := [(27002, [1, 2, 3, 10, 27], [1, 2, 3], []), (24002, [1, 2, 3, 10, 27], [1, 2, 3], []), (38, [1, 2, 3, 34], [1, 2, 3], []), (33032, [1, 2, 3, 10, 27], [1, 2, 3], []), (21020, [1, 2, 3, 10, 22], [1, 2, 3], []), (15014, [1, 2, 3, 10, 11], [1, 2, 3], [])]
def h57x0s0 (N : Nat) : Sg Tryz.prog 0 57 := .start hd57x0 rg57x0
def F57x0x27002 (N : Nat) (w0 : Int) (w1 : Bool) (k0 : Bool → R) : R :=
 bif w1 then
  k0 true
 else
  k0 (w0 == 8)
def V57x0x27002 (w0 : Int) (w1 : Bool) : Bool := F57x0x27002 N w0 w1 (fun p => p)
theorem tot57x0x27002 (w0 : Int) (w1 : Bool) (k0 : Bool → R) : F57x0x27002 N w0 w1 k0 = k0 (V57x0x27002 N w0 w1) := by
 unfold V57x0x27002 F57x0x27002
 repeat' (first | rfl | apply cond_k | (apply bnd_k; intro _))
def sh57x0x27002 : Sh := { tmps := [(1, .c (.p 1 0)), (2, .c (.p 2 0)), (3, .c (.p 3 0)), (10, .c (.i .i64)), (27, .c (.b))], mem := [(1, .box (rI 8 ([.s]))), (2, .box (rI 8 ([.s]))), (3, .box (rI 8 ([.s])))] }
def K57x0x27002w0 (L : List Lf) (p : Bool) : Ex × St := (.normal, mg (ofSh sh57x0x27002 L) [1, 3, 2, 10, 27] [(27, .c (.b p))] [3, 2, 1] [])
def A57x0x27002 (L : List Lf) : List (Bool × (Ex × St)) := bnd (F57x0x27002 N (li L 0) (lb L 1) (fun p => p)) fun q => [(true, K57x0x27002w0 L q)]
theorem raw57x0x27002 (L : List Lf) : pc Tryz.prog (T56x0 N) (h57x0s0 N).h 0 100 57 27002 sh57x0x27002 L [1, 3, 2, 10, 27] [3, 2, 1] = F57x0x27002 N (li L 0) (lb L 1) (fun p => some (K57x0x27002w0 L p)) := by kernel_rfl
def h57x0s1 : Sg Tryz.prog 0 57 :=
 (h57x0s0 N).cut (A57x0x27002 N) progOk (T56x0_ok N) fun L x hx => (raw57x0x27002 N L).trans ((tot57x0x27002 N ..).trans (alt0 _ _ hx))
def F57x0x24002 (w0 : Int) (w1 : Bool) (k0 : Bool → R) : R :=
 bif w1 then
  k0 true
 else
  bnd (V57x0x27002 N w0 (w0 == 5)) fun y0 =>
  k0 y0
def V57x0x24002 (w0 : Int) (w1 : Bool) : Bool := F57x0x24002 N w0 w1 (fun p => p)
theorem tot57x0x24002 (w0 : Int) (w1 : Bool) (k0 : Bool → R) : F57x0x24002 N w0 w1 k0 = k0 (V57x0x24002 N w0 w1) := by
 unfold V57x0x24002 F57x0x24002
 repeat' (first | rfl | apply cond_k | (apply bnd_k; intro _))
def sh57x0x24002 : Sh := { tmps := [(1, .c (.p 1 0)), (2, .c (.p 2 0)), (3, .c (.p 3 0)), (10, .c (.i .i64)), (27, .c (.b))], mem := [(1, .box (rI 8 ([.s]))), (2, .box (rI 8 ([.s]))), (3, .box (rI 8 ([.s])))] }
def K57x0x24002w0 (L : List Lf) (p : Bool) : Ex × St := (.normal, mg (ofSh sh57x0x24002 L) [1, 3, 2, 10, 27] [(27, .c (.b p))] [3, 2, 1] [])
def A57x0x24002 (L : List Lf) : List (Bool × (Ex × St)) := bnd (F57x0x24002 N (li L 0) (lb L 1) (fun p => p)) fun q => [(true, K57x0x24002w0 L q)]
theorem raw57x0x24002 (L : List Lf) : pc Tryz.prog (T56x0 N) (h57x0s1 N).h 0 100 57 24002 sh57x0x24002 L [1, 3, 2, 10, 27] [3, 2, 1] = F57x0x24002 N (li L 0) (lb L 1) (fun p => some (K57x0x24002w0 L p)) := by kernel_rfl
def h57x0s2 : Sg Tryz.prog 0 57 :=
 (h57x0s1 N).cut (A57x0x24002 N) progOk (T56x0_ok N) fun L x hx => (raw57x0x24002 N L).trans ((tot57x0x24002 N ..).trans (alt0 _ _ hx))
def F57x0x38 (N : Nat) (w0 : Bool) (w9 w27 : LB) (k0 : LB → R) : R :=
 bif w0 then
  k0 w9
 else
  k0 w27
def V57x0x38 (w0 : Bool) (w9 w27 : LB) : LB := F57x0x38 N w0 w9 w27 (fun p => p)
theorem tot57x0x38 (w0 : Bool) (w9 w27 : LB) (k0 : LB → R) : F57x0x38 N w0 w9 w27 k0 = k0 (V57x0x38 N w0 w9 w27) := by
 unfold V57x0x38 F57x0x38
 repeat' (first | rfl | apply cond_k | (apply bnd_k; intro _))
def sh57x0x38 : Sh := { tmps := [(1, .c (.p 1 0)), (2, .c (.p 2 0)), (3, .c (.p 3 0)), (34, .c (.b))], mem := [(1, .box (rI 8 ([.s]))), (2, .box (rI 8 ([.s]))), (3, .box (rI 8 ([.s])))] }
def K57x0x38w0 (L : List Lf) (p : LB) : Ex × St := (.normal, mg (ofSh sh57x0x38 L) [3, 2] [] [3, 2] [(3, .box (rL L 19 8 ([.s p])))])
def A57x0x38 (L : List Lf) : List (Bool × (Ex × St)) := bnd (F57x0x38 N (lb L 0) (ls L 9) (ls L 27) (fun p => p)) fun q => [(true, K57x0x38w0 L q)]
theorem raw57x0x38 (L : List Lf) : pc Tryz.prog (T56x0 N) (h57x0s2 N).h 0 100 57 38 sh57x0x38 L [3, 2] [3, 2] = F57x0x38 N (lb L 0) (ls L 9) (ls L 27) (fun p => some (K57x0x38w0 L p)) := by kernel_rfl
def h57x0s3 : Sg Tryz.prog 0 57 :=
 (h57x0s2 N).cut (A57x0x38 N) progOk (T56x0_ok N) fun L x hx => (raw57x0x38 N L).trans ((tot57x0x38 N ..).trans (alt0 _ _ hx))
def F57x0x33032 (w0 : Int) (w1 : Bool) (w9 : Int) (w10 : LB) (w27 : Int) (w28 : LB) (k0 : Int × LB → R) : R :=
 bif w1 then
  k0 (w9, w28)
 else
  bnd (V57x0x38 N (w0 == 4) w10 w28) fun y0 =>
  k0 (w27, y0)
def V57x0x33032 (w0 : Int) (w1 : Bool) (w9 : Int) (w10 : LB) (w27 : Int) (w28 : LB) : Int × LB := F57x0x33032 N w0 w1 w9 w10 w27 w28 (fun p => p)
theorem tot57x0x33032 (w0 : Int) (w1 : Bool) (w9 : Int) (w10 : LB) (w27 : Int) (w28 : LB) (k0 : Int × LB → R) : F57x0x33032 N w0 w1 w9 w10 w27 w28 k0 = k0 (V57x0x33032 N w0 w1 w9 w10 w27 w28) := by
 unfold V57x0x33032 F57x0x33032
 repeat' (first | rfl | apply cond_k | (apply bnd_k; intro _))
def J57x0x33032 (L : List Lf) (k0 : Int × LB → R) : R := F57x0x33032 N (li L 0) (lb L 1) (li L 9) (ls L 10) (li L 27) (ls L 28) k0
def sh57x0x33032 : Sh := { tmps := [(1, .c (.p 1 0)), (2, .c (.p 2 0)), (3, .c (.p 3 0)), (10, .c (.i .i64)), (27, .c (.b))], mem := [(1, .box (rI 8 ([.s]))), (2, .box (rI 8 ([.s]))), (3, .box (rI 8 ([.s])))] }
def K57x0x33032w0 (L : List Lf) (p : Int × LB) : Ex × St := (.normal, mg (ofSh sh57x0x33032 L) [3, 2] [] [3, 2] [(3, .box (rL L 20 7 ([.i .i64 p.1, .s p.2])))])
def A57x0x33032 (L : List Lf) : List (Bool × (Ex × St)) := bnd (J57x0x33032 N L (fun p => p)) fun q => [(true, K57x0x33032w0 L q)]
theorem raw57x0x33032 (L : List Lf) : pc Tryz.prog (T56x0 N) (h57x0s3 N).h 0 100 57 33032 sh57x0x33032 L [3, 2] [3, 2] = J57x0x33032 N L (fun p => some (K57x0x33032w0 L p)) := by kernel_rfl
def h57x0s4 : Sg Tryz.prog 0 57 :=
 (h57x0s3 N).cut (A57x0x33032 N) progOk (T56x0_ok N) fun L x hx => (raw57x0x33032 N L).trans ((tot57x0x33032 N ..).trans (alt0 _ _ hx))
def F57x0x21020 (w0 : Int) (w1 : Bool) (w7 w8 w9 : Int) (w10 : LB) (w25 w26 w27 : Int) (w28 : LB) (k0 : Ty8 → R) : R :=
 bif w1 then
  k0 (w7, w8, w27, w28)
 else
  bnd (V57x0x24002 N w0 (w0 == 3)) fun y0 =>
  bnd (V57x0x33032 N w0 y0 w9 w10 w27 w28) fun y1 =>
  k0 (w25, w26, y1.1, y1.2)
def V57x0x21020 (w0 : Int) (w1 : Bool) (w7 w8 w9 : Int) (w10 : LB) (w25 w26 w27 : Int) (w28 : LB) : Ty8 := F57x0x21020 N w0 w1 w7 w8 w9 w10 w25 w26 w27 w28 (fun p => p)
theorem tot57x0x21020 (w0 : Int) (w1 : Bool) (w7 w8 w9 : Int) (w10 : LB) (w25 w26 w27 : Int) (w28 : LB) (k0 : Ty8 → R) : F57x0x21020 N w0 w1 w7 w8 w9 w10 w25 w26 w27 w28 k0 = k0 (V57x0x21020 N w0 w1 w7 w8 w9 w10 w25 w26 w27 w28) := by
 unfold V57x0x21020 F57x0x21020
 repeat' (first | rfl | apply cond_k | (apply bnd_k; intro _))
def J57x0x21020 (L : List Lf) (k0 : Ty8 → R) : R := F57x0x21020 N (li L 0) (lb L 1) (li L 7) (li L 8) (li L 9) (ls L 10) (li L 25) (li L 26) (li L 27) (ls L 28) k0
def sh57x0x21020 : Sh := { tmps := [(1, .c (.p 1 0)), (2, .c (.p 2 0)), (3, .c (.p 3 0)), (10, .c (.i .i64)), (22, .c (.b))], mem := [(1, .box (rI 8 ([.s]))), (2, .box (rI 8 ([.s]))), (3, .box (rI 8 ([.s])))] }
def K57x0x21020w0 (L : List Lf) (p : Ty8) : Ex × St := (.normal, mg (ofSh sh57x0x21020 L) [3, 2] [] [3, 2] [(3, .box (rL L 20 5 ([.i .i64 p.1, .i .i64 p.2.1, .i .i64 p.2.2.1, .s p.2.2.2])))])
def A57x0x21020 (L : List Lf) : List (Bool × (Ex × St)) := bnd (J57x0x21020 N L (fun p => p)) fun q => [(true, K57x0x21020w0 L q)]
theorem raw57x0x21020 (L : List Lf) : pc Tryz.prog (T56x0 N) (h57x0s4 N).h 0 100 57 21020 sh57x0x21020 L [3, 2] [3, 2] = J57x0x21020 N L (fun p => some (K57x0x21020w0 L p)) := by kernel_rfl
def h57x0s5 : Sg Tryz.prog 0 57 :=
 (h57x0s4 N).cut (A57x0x21020 N) progOk (T56x0_ok N) fun L x hx => (raw57x0x21020 N L).trans ((tot57x0x21020 N ..).trans (alt0 _ _ hx))
def F57x0x15014 (w0 : Int) (w1 : Bool) (w4 w5 w6 w7 w8 w9 : Int) (w10 : LB) (w22 w23 w24 w25 w26 w27 : Int) (w28 : LB) (k0 : Ty4 → R) : R :=
 bif w1 then
  k0 (w4, w5, w6, w25, w26, w27, w28)
 else
  bnd (V57x0x21020 N w0 (w0 == 2) w7 w8 w9 w10 w25 w26 w27 w28) fun y0 =>
  k0 (w22, w23, w24, y0.1, y0.2.1, y0.2.2.1, y0.2.2.2)
def V57x0x15014 (w0 : Int) (w1 : Bool) (w4 w5 w6 w7 w8 w9 : Int) (w10 : LB) (w22 w23 w24 w25 w26 w27 : Int) (w28 : LB) : Ty4 := F57x0x15014 N w0 w1 w4 w5 w6 w7 w8 w9 w10 w22 w23 w24 w25 w26 w27 w28 (fun p => p)
theorem tot57x0x15014 (w0 : Int) (w1 : Bool) (w4 w5 w6 w7 w8 w9 : Int) (w10 : LB) (w22 w23 w24 w25 w26 w27 : Int) (w28 : LB) (k0 : Ty4 → R) : F57x0x15014 N w0 w1 w4 w5 w6 w7 w8 w9 w10 w22 w23 w24 w25 w26 w27 w28 k0 = k0 (V57x0x15014 N w0 w1 w4 w5 w6 w7 w8 w9 w10 w22 w23 w24 w25 w26 w27 w28) := by
 unfold V57x0x15014 F57x0x15014
 repeat' (first | rfl | apply cond_k | (apply bnd_k; intro _))
def J57x0x15014 (L : List Lf) (k0 : Ty4 → R) : R := F57x0x15014 N (li L 0) (lb L 1) (li L 4) (li L 5) (li L 6) (li L 7) (li L 8) (li L 9) (ls L 10) (li L 22) (li L 23) (li L 24) (li L 25) (li L 26) (li L 27) (ls L 28) k0
def sh57x0x15014 : Sh := { tmps := [(1, .c (.p 1 0)), (2, .c (.p 2 0)), (3, .c (.p 3 0)), (10, .c (.i .i64)), (11, .c (.b))], mem := [(1, .box (rI 8 ([.s]))), (2, .box (rI 8 ([.s]))), (3, .box (rI 8 ([.s])))] }
def K57x0x15014w0 (L : List Lf) (p : Ty4) : Ex × St := let p1 := p.2; let p2 := p1.2; let p3 := p2.2; let p4 := p3.2; let p5 := p4.2; let p6 := p5.2; (.normal, mg (ofSh sh57x0x15014 L) [3, 2] [] [3, 2] [(3, .box [.i .i64 (li L 20), .i .i64 (li L 21), .i .i64 p.1, .i .i64 p1.1, .i .i64 p2.1, .i .i64 p3.1, .i .i64 p4.1, .i .i64 p5.1, .s p6])])
def A57x0x15014 (L : List Lf) : List (Bool × (Ex × St)) := bnd (J57x0x15014 N L (fun p => p)) fun q => [(true, K57x0x15014w0 L q)]
theorem raw57x0x15014 (L : List Lf) : pc Tryz.prog (T56x0 N) (h57x0s5 N).h 0 100 57 15014 sh57x0x15014 L [3, 2] [3, 2] = J57x0x15014 N L (fun p => some (K57x0x15014w0 L p)) := by kernel_rfl
def h57x0s6 : Sg Tryz.prog 0 57 :=
 (h57x0s5 N).cut (A57x0x15014 N) progOk (T56x0_ok N) fun L x hx => (raw57x0x15014 N L).trans ((tot57x0x15014 N ..).trans (alt0 _ _ hx))
def F57x0 (v1 v2 v3 v4 v5 v6 v7 : Int) (v8 : LB) (k0 : Ty4 → R) : R :=
 bnd (V57x0x15014 N v1 (v1 == 1) v2 v3 v4 v5 v6 v7 v8 0 0 0 0 0 0 ([] : List UInt8)) fun y0 =>
 k0 y0
def V57x0 (v1 v2 v3 v4 v5 v6 v7 : Int) (v8 : LB) : Ty4 := F57x0 N v1 v2 v3 v4 v5 v6 v7 v8 (fun p => p)
theorem tot57x0 (v1 v2 v3 v4 v5 v6 v7 : Int) (v8 : LB) (k0 : Ty4 → R) : F57x0 N v1 v2 v3 v4 v5 v6 v7 v8 k0 = k0 (V57x0 N v1 v2 v3 v4 v5 v6 v7 v8) := by
 unfold V57x0 F57x0
 repeat' (first | rfl | apply cond_k | (apply bnd_k; intro _))
def J57x0 (L : List Lf) (k0 : Ty4 → R) : R := F57x0 N (li L 1) (li L 2) (li L 3) (li L 4) (li L 5) (li L 6) (li L 7) (ls L 8) k0
def sh57x0 : Sh := { tmps := [(0, .g (rI 8 ([.s])))], mem := [] }
def K57x0w0 (L : List Lf) (p : Ty4) : Res := let p1 := p.2; let p2 := p1.2; let p3 := p2.2; let p4 := p3.2; let p5 := p4.2; let p6 := p5.2; ([.g [.i .i64 (li L 0), .i .i64 (li L 1), .i .i64 p.1, .i .i64 p1.1, .i .i64 p2.1, .i .i64 p3.1, .i .i64 p4.1, .i .i64 p5.1, .s p6]], [])
def A57x0 (L : List Lf) : List (Bool × Res) := bnd (J57x0 N L (fun p => p)) fun q => [(true, K57x0w0 L q)]
theorem raw57x0 (L : List Lf) : bd Tryz.prog (T56x0 N) (h57x0s6 N).h 57 sh57x0 L = J57x0 N L (fun p => some (K57x0w0 L p)) := by kernel_rfl
theorem ok57x0 : FnOk Tryz.prog 57 sh57x0 (A57x0 N) :=
 (h57x0s6 N).fn progOk (T56x0_ok N) fun L x hx => ((raw57x0 N L).trans ((tot57x0 N ..).trans (alt0 _ _ hx)))
def T57x0 : Oracle := ext 57 (spSh sh57x0 (A57x0 N)) (T56x0 N)
theorem T57x0_ok : OracleOk Tryz.prog (T57x0 N) := FnOk.to (ok57x0 N) (T56x0_ok N)
def rg40x0 : List (Nat × List Nat) := [(0, [0]), (1, [1]), (2, []), (3, [1]), (4, []), (5, [1]), (6, [1, 3]), (7, [11, 1, 3]), (9, [11, 1, 3]), (11, [11, 1, 3]), (13, [11, 1, 3]), (14, [1]), (12, [1]), (10, [1]), (8, [1]), (15, [3, 1]), (16, []), (17, [1]), (18, []), (19, [1]), (20, []), (21, [1]), (22, []), (23, [])]
def hd40x0 : Hints := [(25, [1], [1], []), (44, [1, 3, 53], [1], []), (39038, [1, 3, 11, 48], [1], []), (33032, [1, 3, 11, 27], [1], []), (27026, [1, 3, 11, 12], [1], []), (52, [1], [1], []), (58, [1], [1], [])]
def h40x0s0 (N : Nat) : Sg Tryz.prog 0 40 := .start hd40x0 rg40x0
def F40x0x25 (w2 w3 w4 : Int) (k0 : Bool → R) : R :=
 bnd (V55x0 N w2 (-100000000) 100000000) fun y0 =>
 bif y0 then
  k0 true
 else
  bnd (V55x0 N w3 (-100000000) 100000000) fun y1 =>
  bif y1 then
   k0 true
  else
   bnd (V55x0 N w4 0 1000000) fun y2 =>
   k0 y2
def V40x0x25 (w2 w3 w4 : Int) : Bool := F40x0x25 N w2 w3 w4 (fun p => p)
theorem tot40x0x25 (w2 w3 w4 : Int) (k0 : Bool → R) : F40x0x25 N w2 w3 w4 k0 = k0 (V40x0x25 N w2 w3 w4) := by
 unfold V40x0x25 F40x0x25
 repeat' (first | rfl | apply cond_k | (apply bnd_k; intro _))
def sh40x0x25 : Sh := { tmps := [(1, .c (.p 1 0))], mem := [(1, .box (rI 8 ([.s])))] }
def K40x0x25w0 (L : List Lf) (p : Bool) : Ex × St := (.normal, mg (ofSh sh40x0x25 L) [3, 1] [(3, .c (.b p))] [1] [])
def A40x0x25 (L : List Lf) : List (Bool × (Ex × St)) := bnd (F40x0x25 N (li L 2) (li L 3) (li L 4) (fun p => p)) fun q => [(true, K40x0x25w0 L q)]
theorem raw40x0x25 (L : List Lf) : pc Tryz.prog (T57x0 N) (h40x0s0 N).h 0 100 40 25 sh40x0x25 L [3, 1] [1] = F40x0x25 N (li L 2) (li L 3) (li L 4) (fun p => some (K40x0x25w0 L p)) := by kernel_rfl
def h40x0s1 : Sg Tryz.prog 0 40 :=
 (h40x0s0 N).cut (A40x0x25 N) progOk (T57x0_ok N) fun L x hx => (raw40x0x25 N L).trans ((tot40x0x25 N ..).trans (alt0 _ _ hx))
def F40x0x44 (w0 w1 : Bool) (w9 : Int) (k0 : Bool → R) : R :=
 bif w1 then
  bnd (V55x0 N w9 1 1000000) fun y0 =>
  k0 y0
 else
  k0 w0
def V40x0x44 (w0 w1 : Bool) (w9 : Int) : Bool := F40x0x44 N w0 w1 w9 (fun p => p)
theorem tot40x0x44 (w0 w1 : Bool) (w9 : Int) (k0 : Bool → R) : F40x0x44 N w0 w1 w9 k0 = k0 (V40x0x44 N w0 w1 w9) := by
 unfold V40x0x44 F40x0x44
 repeat' (first | rfl | apply cond_k | (apply bnd_k; intro _))
def sh40x0x44 : Sh := { tmps := [(1, .c (.p 1 0)), (3, .c (.b)), (53, .c (.b))], mem := [(1, .box (rI 8 ([.s])))] }
def K40x0x44w0 (L : List Lf) (p : Bool) : Ex × St := (.normal, mg (ofSh sh40x0x44 L) [3, 1] [(3, .c (.b p))] [1] [])
def A40x0x44 (L : List Lf) : List (Bool × (Ex × St)) := bnd (F40x0x44 N (lb L 0) (lb L 1) (li L 9) (fun p => p)) fun q => [(true, K40x0x44w0 L q)]
theorem raw40x0x44 (L : List Lf) : pc Tryz.prog (T57x0 N) (h40x0s1 N).h 0 100 40 44 sh40x0x44 L [3, 1] [1] = F40x0x44 N (lb L 0) (lb L 1) (li L 9) (fun p => some (K40x0x44w0 L p)) := by kernel_rfl
def h40x0s2 : Sg Tryz.prog 0 40 :=
 (h40x0s1 N).cut (A40x0x44 N) progOk (T57x0_ok N) fun L x hx => (raw40x0x44 N L).trans ((tot40x0x44 N ..).trans (alt0 _ _ hx))
def F40x0x39038 (w0 : Bool) (w1 : Int) (w2 : Bool) (w10 : Int) (k0 : Bool → R) : R :=
 bif w2 then
  bnd (V55x0 N w10 1 4) fun y0 =>
  k0 y0
 else
  bnd (V40x0x44 N w0 (w1 == 8) w10) fun y1 =>
  k0 y1
def V40x0x39038 (w0 : Bool) (w1 : Int) (w2 : Bool) (w10 : Int) : Bool := F40x0x39038 N w0 w1 w2 w10 (fun p => p)
theorem tot40x0x39038 (w0 : Bool) (w1 : Int) (w2 : Bool) (w10 : Int) (k0 : Bool → R) : F40x0x39038 N w0 w1 w2 w10 k0 = k0 (V40x0x39038 N w0 w1 w2 w10) := by
 unfold V40x0x39038 F40x0x39038
 repeat' (first | rfl | apply cond_k | (apply bnd_k; intro _))
def J40x0x39038 (L : List Lf) (k0 : Bool → R) : R := F40x0x39038 N (lb L 0) (li L 1) (lb L 2) (li L 10) k0
def sh40x0x39038 : Sh := { tmps := [(1, .c (.p 1 0)), (3, .c (.b)), (11, .c (.i .i64)), (48, .c (.b))], mem := [(1, .box (rI 8 ([.s])))] }
def K40x0x39038w0 (L : List Lf) (p : Bool) : Ex × St := (.normal, mg (ofSh sh40x0x39038 L) [3, 1] [(3, .c (.b p))] [1] [])
def A40x0x39038 (L : List Lf) : List (Bool × (Ex × St)) := bnd (J40x0x39038 N L (fun p => p)) fun q => [(true, K40x0x39038w0 L q)]
theorem raw40x0x39038 (L : List Lf) : pc Tryz.prog (T57x0 N) (h40x0s2 N).h 0 100 40 39038 sh40x0x39038 L [3, 1] [1] = J40x0x39038 N L (fun p => some (K40x0x39038w0 L p)) := by kernel_rfl
def h40x0s3 : Sg Tryz.prog 0 40 :=
 (h40x0s2 N).cut (A40x0x39038 N) progOk (T57x0_ok N) fun L x hx => (raw40x0x39038 N L).trans ((tot40x0x39038 N ..).trans (alt0 _ _ hx))
def F40x0x33032 (w0 : Bool) (w1 : Int) (w2 : Bool) (w8 w9 w10 : Int) (k0 : Bool → R) : R :=
 bif w2 then
  bnd (bif (bif (decide (w8 < 0)) then true else (decide (w8 > w9))) then true else (decide (w9 ≥ 86400))) fun y0 =>
  k0 y0
 else
  bnd (V40x0x39038 N w0 w1 (w1 == 3) w10) fun y1 =>
  k0 y1
def V40x0x33032 (w0 : Bool) (w1 : Int) (w2 : Bool) (w8 w9 w10 : Int) : Bool := F40x0x33032 N w0 w1 w2 w8 w9 w10 (fun p => p)
theorem tot40x0x33032 (w0 : Bool) (w1 : Int) (w2 : Bool) (w8 w9 w10 : Int) (k0 : Bool → R) : F40x0x33032 N w0 w1 w2 w8 w9 w10 k0 = k0 (V40x0x33032 N w0 w1 w2 w8 w9 w10) := by
 unfold V40x0x33032 F40x0x33032
 repeat' (first | rfl | apply cond_k | (apply bnd_k; intro _))
def J40x0x33032 (L : List Lf) (k0 : Bool → R) : R := F40x0x33032 N (lb L 0) (li L 1) (lb L 2) (li L 8) (li L 9) (li L 10) k0
def sh40x0x33032 : Sh := { tmps := [(1, .c (.p 1 0)), (3, .c (.b)), (11, .c (.i .i64)), (27, .c (.b))], mem := [(1, .box (rI 8 ([.s])))] }
def K40x0x33032w0 (L : List Lf) (p : Bool) : Ex × St := (.normal, mg (ofSh sh40x0x33032 L) [3, 1] [(3, .c (.b p))] [1] [])
def A40x0x33032 (L : List Lf) : List (Bool × (Ex × St)) := bnd (J40x0x33032 N L (fun p => p)) fun q => [(true, K40x0x33032w0 L q)]
theorem raw40x0x33032 (L : List Lf) : pc Tryz.prog (T57x0 N) (h40x0s3 N).h 0 100 40 33032 sh40x0x33032 L [3, 1] [1] = J40x0x33032 N L (fun p => some (K40x0x33032w0 L p)) := by kernel_rfl
def h40x0s4 : Sg Tryz.prog 0 40 :=
 (h40x0s3 N).cut (A40x0x33032 N) progOk (T57x0_ok N) fun L x hx => (raw40x0x33032 N L).trans ((tot40x0x33032 N ..).trans (alt0 _ _ hx))
def F40x0x27026 (w0 : Bool) (w1 : Int) (w2 : Bool) (w5 w6 w7 w8 w9 w10 : Int) (k0 : Bool → R) : R :=
 bif w2 then
  bnd (V40x0x25 N w5 w6 w7) fun y0 =>
  k0 y0
 else
  bnd (V40x0x33032 N w0 w1 (w1 == 2) w8 w9 w10) fun y1 =>
  k0 y1
def V40x0x27026 (w0 : Bool) (w1 : Int) (w2 : Bool) (w5 w6 w7 w8 w9 w10 : Int) : Bool := F40x0x27026 N w0 w1 w2 w5 w6 w7 w8 w9 w10 (fun p => p)
theorem tot40x0x27026 (w0 : Bool) (w1 : Int) (w2 : Bool) (w5 w6 w7 w8 w9 w10 : Int) (k0 : Bool → R) : F40x0x27026 N w0 w1 w2 w5 w6 w7 w8 w9 w10 k0 = k0 (V40x0x27026 N w0 w1 w2 w5 w6 w7 w8 w9 w10) := by
 unfold V40x0x27026 F40x0x27026
 repeat' (first | rfl | apply cond_k | (apply bnd_k; intro _))
def J40x0x27026 (L : List Lf) (k0 : Bool → R) : R := F40x0x27026 N (lb L 0) (li L 1) (lb L 2) (li L 5) (li L 6) (li L 7) (li L 8) (li L 9) (li L 10) k0
def sh40x0x27026 : Sh := { tmps := [(1, .c (.p 1 0)), (3, .c (.b)), (11, .c (.i .i64)), (12, .c (.b))], mem := [(1, .box (rI 8 ([.s])))] }
def K40x0x27026w0 (L : List Lf) (p : Bool) : Ex × St := (.normal, mg (ofSh sh40x0x27026 L) [3, 1] [(3, .c (.b p))] [1] [])
def A40x0x27026 (L : List Lf) : List (Bool × (Ex × St)) := bnd (J40x0x27026 N L (fun p => p)) fun q => [(true, K40x0x27026w0 L q)]
theorem raw40x0x27026 (L : List Lf) : pc Tryz.prog (T57x0 N) (h40x0s4 N).h 0 100 40 27026 sh40x0x27026 L [3, 1] [1] = J40x0x27026 N L (fun p => some (K40x0x27026w0 L p)) := by kernel_rfl
def h40x0s5 : Sg Tryz.prog 0 40 :=
 (h40x0s4 N).cut (A40x0x27026 N) progOk (T57x0_ok N) fun L x hx => (raw40x0x27026 N L).trans ((tot40x0x27026 N ..).trans (alt0 _ _ hx))
def F40x0x52 (w1 w7 : Int) (k0 : Bool → R) : R :=
 bif (w1 == 5) then
  bnd (V55x0 N w7 1 5) fun y0 =>
  k0 y0
 else
  k0 false
def V40x0x52 (w1 w7 : Int) : Bool := F40x0x52 N w1 w7 (fun p => p)
theorem tot40x0x52 (w1 w7 : Int) (k0 : Bool → R) : F40x0x52 N w1 w7 k0 = k0 (V40x0x52 N w1 w7) := by
 unfold V40x0x52 F40x0x52
 repeat' (first | rfl | apply cond_k | (apply bnd_k; intro _))
def sh40x0x52 : Sh := { tmps := [(1, .c (.p 1 0))], mem := [(1, .box (rI 8 ([.s])))] }
def K40x0x52w0 (L : List Lf) (p : Bool) : Ex × St := (.normal, mg (ofSh sh40x0x52 L) [1, 66] [(66, .c (.b p))] [1] [])
def A40x0x52 (L : List Lf) : List (Bool × (Ex × St)) := bnd (F40x0x52 N (li L 1) (li L 7) (fun p => p)) fun q => [(true, K40x0x52w0 L q)]
theorem raw40x0x52 (L : List Lf) : pc Tryz.prog (T57x0 N) (h40x0s5 N).h 0 100 40 52 sh40x0x52 L [1, 66] [1] = F40x0x52 N (li L 1) (li L 7) (fun p => some (K40x0x52w0 L p)) := by kernel_rfl
def h40x0s6 : Sg Tryz.prog 0 40 :=
 (h40x0s5 N).cut (A40x0x52 N) progOk (T57x0_ok N) fun L x hx => (raw40x0x52 N L).trans ((tot40x0x52 N ..).trans (alt0 _ _ hx))
def F40x0x58 (w1 : Int) (w8 : LB) (k0 : Bool → Option R) : Option R :=
 bif (w1 == 4) then
  bnd (G56x0 N w8) fun y0 =>
  bif y0.isSome then
   k0 (!(y0.getD default))
  else
   none
 else
  k0 false
def G40x0x58 (w1 : Int) (w8 : LB) : Option (Bool) := F40x0x58 N w1 w8 (fun p => some p)
theorem bind40x0x58 (w1 : Int) (w8 : LB) (k0 : Bool → Option R) : F40x0x58 N w1 w8 k0 = (G40x0x58 N w1 w8).bind k0 := by
 unfold G40x0x58 F40x0x58
 repeat' (first | with_reducible apply cond_b | (with_reducible apply bnd_b; intro _) | rfl)
def sh40x0x58 : Sh := { tmps := [(1, .c (.p 1 0))], mem := [(1, .box (rI 8 ([.s])))] }
def K40x0x58w0 (L : List Lf) (p : Bool) : Ex × St := (.normal, mg (ofSh sh40x0x58 L) [1, 75] [(75, .c (.b p))] [1] [])
def A40x0x58 (L : List Lf) : List (Bool × (Ex × St)) := bnd (F40x0x58 N (li L 1) (ls L 8) (fun p => some p)) fun q => [(q.isSome, K40x0x58w0 L (q.getD default))]
theorem raw40x0x58 (L : List Lf) : pc Tryz.prog (T57x0 N) (h40x0s6 N).h 0 100 40 58 sh40x0x58 L [1, 75] [1] = F40x0x58 N (li L 1) (ls L 8) (fun p => some (K40x0x58w0 L p)) := by kernel_rfl
def h40x0s7 : Sg Tryz.prog 0 40 :=
 (h40x0s6 N).cut (A40x0x58 N) progOk (T57x0_ok N) fun L x hx => (raw40x0x58 N L).trans ((bind40x0x58 N ..).trans (alt1 x hx))
def F40x0 (v0 v1 v2 v3 v4 v5 v6 v7 : Int) (v8 : LB) (k0 : Int → Option R) : Option R :=
 bnd (V55x0 N v1 1 8) fun y0 =>
 bif y0 then
  k0 7
 else
  bnd (V55x0 N v0 1 3) fun y1 =>
  bif y1 then
   k0 9
  else
   bnd (V40x0x27026 N false v1 (v1 == 1) v2 v3 v4 v5 v6 v7) fun y2 =>
   bif y2 then
    k0 9
   else
    bnd (V40x0x52 N v1 v7) fun y3 =>
    bif y3 then
     k0 7
    else
     bnd (G40x0x58 N v1 v8) fun y4 =>
     bif y4.isSome then
      bif (y4.getD default) then
       k0 8
      else
       bnd (V57x0 N v1 v2 v3 v4 v5 v6 v7 v8) fun y5 =>
       bnd (!((v0 == v0) && ((v1 == v1) && ((y5.1 == v2) && ((y5.2.1 == v3) && ((y5.2.2.1 == v4) && (((y5.2.2.2.1 == v5) && ((y5.2.2.2.2.1 == v6) && true)) && ((y5.2.2.2.2.2.1 == v7) && ((y5.2.2.2.2.2.2 == v8) && true))))))))) fun y6 =>
       bif y6 then
        k0 2
       else
        k0 0
     else
      none
def G40x0 (v0 v1 v2 v3 v4 v5 v6 v7 : Int) (v8 : LB) : Option (Int) := F40x0 N v0 v1 v2 v3 v4 v5 v6 v7 v8 (fun p => some p)
theorem bind40x0 (v0 v1 v2 v3 v4 v5 v6 v7 : Int) (v8 : LB) (k0 : Int → Option R) : F40x0 N v0 v1 v2 v3 v4 v5 v6 v7 v8 k0 = (G40x0 N v0 v1 v2 v3 v4 v5 v6 v7 v8).bind k0 := by
 unfold G40x0 F40x0
 repeat' (first | with_reducible apply cond_b | (with_reducible apply bnd_b; intro _) | rfl)
def J40x0 (L : List Lf) (k0 : Int → Option R) : Option R := F40x0 N (li L 0) (li L 1) (li L 2) (li L 3) (li L 4) (li L 5) (li L 6) (li L 7) (ls L 8) k0
def sh40x0 : Sh := { tmps := [(0, .g (rI 8 ([.s])))], mem := [] }
def A40x0 (L : List Lf) : List (Bool × Res) := bnd (J40x0 N L (fun p => some p)) fun q => [(q.isSome, ([.c (.i .i64 (q.getD default))], []))]
theorem raw40x0 (L : List Lf) : bd Tryz.prog (T57x0 N) (h40x0s7 N).h 40 sh40x0 L = J40x0 N L (fun p => some ([.c (.i .i64 p)], [])) := by kernel_rfl
theorem ok40x0 : FnOk Tryz.prog 40 sh40x0 (A40x0 N) :=
 (h40x0s7 N).fn progOk (T57x0_ok N) fun L x hx => ((raw40x0 N L).trans ((bind40x0 N ..).trans (alt1 x hx)))
def T40x0 : Oracle := ext 40 (spSh sh40x0 (A40x0 N)) (T57x0 N)
theorem T40x0_ok : OracleOk Tryz.prog (T40x0 N) := FnOk.to (ok40x0 N) (T57x0_ok N)
def rg19x0 : List (Nat × List Nat) := [(0, [0]), (1, [1]), (2, []), (3, [1]), (4, [13, 12, 11]), (5, [11, 13, 12]), (6, [4, 13, 12, 11]), (7, [5, 13, 12, 11]), (8, [5]), (9, [13, 12, 11]), (10, [])]
def hd19x0 : Hints := [(12, [11, 12, 13], [], [])]
def h19x0s0 (N : Nat) : Sg Tryz.prog 0 19 := .start hd19x0 rg19x0
def S19x0x12 (w1 : LD) (w2 : Int) (w3 : Int) (kr : Int → Option R) (k0 : Int → Option R) (k1 : Unit → Option R) : Option R :=
 bif (decide (w3 < w2)) then
  bif (inB w3 w1.length) then
   bnd (G40x0 N ((w1.getD w3.toNat (.i 0)).cell 0).toI ((w1.getD w3.toNat (.i 0)).cell 1).toI ((w1.getD w3.toNat (.i 0)).cell 2).toI ((w1.getD w3.toNat (.i 0)).cell 3).toI ((w1.getD w3.toNat (.i 0)).cell 4).toI ((w1.getD w3.toNat (.i 0)).cell 5).toI ((w1.getD w3.toNat (.i 0)).cell 6).toI ((w1.getD w3.toNat (.i 0)).cell 7).toI ((w1.getD w3.toNat (.i 0)).cell 8).toS) fun y0 =>
   bif y0.isSome then
    bif ((y0.getD default) != 0) then
     k0 (y0.getD default)
    else
     kr (IntKind.wrap .i64 (w3 + 1))
   else
    none
  else
   none
 else
  k1 ()
def L19x0x12 (N : Nat) {R : Type} (w1 : LD) (w2 : Int) : Nat → Int → (Int → Option R) → (Unit → Option R) → Option R
 | 0, _, _, _ => none
 | m + 1, w3, k0, k1 => S19x0x12 N w1 w2 w3 (fun w3 => L19x0x12 N w1 w2 m w3 k0 k1) k0 k1
def G19x0x12 (w1 : LD) (w2 : Int) (w3 : Int) : Option (Sum (Int) (Unit)) := L19x0x12 N (R := (Sum (Int) (Unit))) w1 w2 N w3 (fun p => some (.inl p)) (fun p => some (.inr p))
def J19x0x12 (L x : List Lf) (kr : List Lf → Option R) (k0 : Int → Option R) (k1 : Unit → Option R) : Option R := S19x0x12 N (ll L 1) (li L 2) (li x 0) (fun w3 => kr [.i w3]) k0 k1
theorem sb19x0x12 (L x : List Lf) (kr : List Lf → Option R) (k0 : Int → Option R) (k1 : Unit → Option R) : J19x0x12 N L x kr k0 k1 = (J19x0x12 N L x (fun y => some (.inl y)) (fun p => some (.inr (.inl p))) (fun p => some (.inr (.inr p)))).bind (sumE kr (sumE k0 k1)) := by
 unfold J19x0x12 S19x0x12
 repeat' (first | with_reducible apply cond_b | (with_reducible apply bnd_b; intro _) | rfl)
def Q19x0x12 (L : List Lf) (m : Nat) (x : List Lf) : Option (Sum (Int) (Unit)) := L19x0x12 N (R := (Sum (Int) (Unit))) (ll L 1) (li L 2) m (li x 0) (fun p => some (.inl p)) (fun p => some (.inr p))
def sh19x0x12 : Sh := { tmps := [(11, .c (.sl 40)), (12, .c (.i .i64)), (13, .c (.i .i64))], mem := [] }
def A19x0x12 (L : List Lf) : List (Bool × (Ex × St)) := bnd (Q19x0x12 N L N (pk sh19x0x12 [3] L)) fun q => [((inlB q), (.ret, ⟨[(2, .c (.i .i64 (inlV q)))], []⟩)), ((inrQ q).isSome, ((.exit 0), ⟨[], []⟩))]
theorem step19x0x12 (m : Nat) (kn : St → Option (Ex × St)) (L x : List Lf) : lpB Tryz.prog (T40x0 N) (h19x0s0 N).h 0 19 12 sh19x0x12 [3] [2] [] (m + 100) kn L x = J19x0x12 N L x (fun y => kn (ofSh sh19x0x12 (mx sh19x0x12 [3] L y))) (fun p => some (.ret, ⟨[(2, .c (.i .i64 p))], []⟩)) (fun _ => some ((.exit 0), ⟨[], []⟩)) := by kernel_rfl
theorem ql19x0x12 (L : List Lf) (m : Nat) (x : List Lf) : Q19x0x12 N L (m + 1) x = J19x0x12 N L x (Q19x0x12 N L m) (fun p => some (.inl p)) (fun p => some (.inr p)) := by kernel_rfl
def h19x0s1 : Sg Tryz.prog 0 19 :=
 (h19x0s0 N).lp (A19x0x12 N) N progOk (T40x0_ok N) (fun m kn L x => (step19x0x12 N m kn L x).trans (sb19x0x12 N L x _ _ _)) (fun L m x => (ql19x0x12 N L m x).trans (sb19x0x12 N L x (Q19x0x12 N L m) (fun p => some (.inl p)) (fun p => some (.inr p)))) fun L x hx => (altS alt1) x hx
def F19x0 (v1 : LD) (k0 : Int → Option R) : Option R :=
 bif (decide ((v1.length : Int) > 50)) then
  k0 3
 else
  bnd (G19x0x12 N v1 (v1.length : Int) 0) fun y0 =>
  bif (inlB y0) then
   k0 (inlV y0)
  else
   bif (inrQ y0).isSome then
    k0 0
   else
    none
def G19x0 (v1 : LD) : Option (Int) := F19x0 N v1 (fun p => some p)
theorem bind19x0 (v1 : LD) (k0 : Int → Option R) : F19x0 N v1 k0 = (G19x0 N v1).bind k0 := by
 unfold G19x0 F19x0
 repeat' (first | with_reducible apply cond_b | (with_reducible apply bnd_b; intro _) | rfl)
def sh19x0 : Sh := { tmps := [(0, .g ([.sl 40]))], mem := [] }
def A19x0 (L : List Lf) : List (Bool × Res) := bnd (F19x0 N (ll L 1) (fun p => some p)) fun q => [(q.isSome, ([.c (.i .i64 (q.getD default))], []))]
theorem raw19x0 (L : List Lf) : bd Tryz.prog (T40x0 N) (h19x0s1 N).h 19 sh19x0 L = F19x0 N (ll L 1) (fun p => some ([.c (.i .i64 p)], [])) := by kernel_rfl
theorem ok19x0 : FnOk Tryz.prog 19 sh19x0 (A19x0 N) :=
 (h19x0s1 N).fn progOk (T40x0_ok N) fun L x hx => ((raw19x0 N L).trans ((bind19x0 N ..).trans (alt1 x hx)))
def T19x0 : Oracle := ext 19 (spSh sh19x0 (A19x0 N)) (T40x0 N)
theorem T19x0_ok : OracleOk Tryz.prog (T19x0 N) := FnOk.to (ok19x0 N) (T40x0_ok N)
def rg30x0 : List (Nat × List Nat) := [(0, []), (1, [])]
def hd30x0 : Hints := []
def h30x0s0 (N : Nat) : Sg Tryz.prog 0 30 := .start hd30x0 rg30x0
def F30x0 (N : Nat) (k0 : LD → R) : R :=
 k0 [(.s ([] : List UInt8)), (.s ([102, 114, 105, 101, 110, 100] : List UInt8)), (.s ([99, 108, 117, 98] : List UInt8)), (.s ([97, 108, 108] : List UInt8))]
def V30x0 : LD := F30x0 N (fun p => p)
theorem tot30x0 (k0 : LD → R) : F30x0 N k0 = k0 (V30x0 N) := by
 unfold V30x0 F30x0
 repeat' (first | rfl | apply cond_k | (apply bnd_k; intro _))
def sh30x0 : Sh := { tmps := [], mem := [] }
def A30x0 (L : List Lf) : List (Bool × Res) := bnd (F30x0 N (fun p => p)) fun q => [(true, ([.c (.sl 9 false q)], []))]
theorem raw30x0 (L : List Lf) : bd Tryz.prog (T19x0 N) (h30x0s0 N).h 30 sh30x0 L = F30x0 N (fun p => some ([.c (.sl 9 false p)], [])) := by kernel_rfl
theorem ok30x0 : FnOk Tryz.prog 30 sh30x0 (A30x0 N) :=
 (h30x0s0 N).fn progOk (T19x0_ok N) fun L x hx => ((raw30x0 N L).trans ((tot30x0 N ..).trans (alt0 _ _ hx)))
def T30x0 : Oracle := ext 30 (spSh sh30x0 (A30x0 N)) (T19x0 N)
theorem T30x0_ok : OracleOk Tryz.prog (T30x0 N) := FnOk.to (ok30x0 N) (T19x0_ok N)
def rg46x0 : List (Nat × List Nat) := [(0, [0]), (1, [0]), (2, [0, 3]), (3, [8, 7, 6, 3]), (4, [6, 8, 3, 7]), (5, [3, 5, 8, 7, 6]), (6, [8, 7, 6, 3]), (7, [3])]
def hd46x0 : Hints := [(9, [3, 6, 7, 8], [], [])]
def h46x0s0 (N : Nat) : Sg Tryz.prog 0 46 := .start hd46x0 rg46x0
def S46x0x9 (N : Nat) (w2 : LD) (w3 : Int) (w0 : LB) (w4 : Int) (kr : LB → Int → Option R) (k0 : LB → Option R) : Option R :=
 bif (decide (w4 < w3)) then
  bif (inB w4 w2.length) then
   bif (i64B (w2.getD w4.toNat (.i 0)).toI) then
    bif (decide (([32] : List UInt8).length + (Lib.itoa (w2.getD w4.toNat (.i 0)).toI).length ≤ strMax)) then
     bnd (([32] : List UInt8) ++ (Lib.itoa (w2.getD w4.toNat (.i 0)).toI)) fun y0 =>
     bif (decide (w0.length + y0.length ≤ strMax)) then
      kr (w0 ++ y0) (IntKind.wrap .i64 (w4 + 1))
     else
      none
    else
     none
   else
    none
  else
   none
 else
  k0 w0
def L46x0x9 (N : Nat) {R : Type} (w2 : LD) (w3 : Int) : Nat → LB → Int → (LB → Option R) → Option R
 | 0, _, _, _ => none
 | m + 1, w0, w4, k0 => S46x0x9 N w2 w3 w0 w4 (fun w0 w4 => L46x0x9 N w2 w3 m w0 w4 k0) k0
def G46x0x9 (w2 : LD) (w3 : Int) (w0 : LB) (w4 : Int) : Option (LB) := L46x0x9 N (R := (LB)) w2 w3 N w0 w4 (fun p => some p)
def J46x0x9 (L x : List Lf) (kr : List Lf → Option R) (k0 : LB → Option R) : Option R := S46x0x9 N (ll L 2) (li L 3) (ls x 0) (li x 1) (fun w0 w4 => kr [.s w0, .i w4]) k0
theorem sb46x0x9 (L x : List Lf) (kr : List Lf → Option R) (k0 : LB → Option R) : J46x0x9 N L x kr k0 = (J46x0x9 N L x (fun y => some (.inl y)) (fun p => some (.inr p))).bind (sumE kr k0) := by
 unfold J46x0x9 S46x0x9
 repeat' (first | with_reducible apply cond_b | (with_reducible apply bnd_b; intro _) | rfl)
def Q46x0x9 (L : List Lf) (m : Nat) (x : List Lf) : Option (LB) := L46x0x9 N (R := (LB)) (ll L 2) (li L 3) m (ls x 0) (li x 1) (fun p => some p)
def sh46x0x9 : Sh := { tmps := [(3, .c (.s)), (6, .c (.sl 3)), (7, .c (.i .i64)), (8, .c (.i .i64))], mem := [] }
def A46x0x9 (L : List Lf) : List (Bool × (Ex × St)) := bnd (Q46x0x9 N L N (pk sh46x0x9 [0, 4] L)) fun q => [(q.isSome, ((.exit 0), ⟨[(3, .c (.s (q.getD default)))], []⟩))]
theorem step46x0x9 (m : Nat) (kn : St → Option (Ex × St)) (L x : List Lf) : lpB Tryz.prog (T30x0 N) (h46x0s0 N).h 0 46 9 sh46x0x9 [0, 4] [2, 3] [] (m + 100) kn L x = J46x0x9 N L x (fun y => kn (ofSh sh46x0x9 (mx sh46x0x9 [0, 4] L y))) (fun p => some ((.exit 0), ⟨[(3, .c (.s p))], []⟩)) := by kernel_rfl
theorem ql46x0x9 (L : List Lf) (m : Nat) (x : List Lf) : Q46x0x9 N L (m + 1) x = J46x0x9 N L x (Q46x0x9 N L m) some := by kernel_rfl
def h46x0s1 : Sg Tryz.prog 0 46 :=
 (h46x0s0 N).lp (A46x0x9 N) N progOk (T30x0_ok N) (fun m kn L x => (step46x0x9 N m kn L x).trans (sb46x0x9 N L x _ _)) (fun L m x => (ql46x0x9 N L m x).trans (sb46x0x9 N L x (Q46x0x9 N L m) some)) fun L x hx => alt1 x hx
def F46x0 (v1 : LD) (k0 : LB → Option R) : Option R :=
 bnd (G46x0x9 N v1 (v1.length : Int) ([] : List UInt8) 0) fun y0 =>
 bif y0.isSome then
  k0 (y0.getD default)
 else
  none
def G46x0 (v1 : LD) : Option (LB) := F46x0 N v1 (fun p => some p)
theorem bind46x0 (v1 : LD) (k0 : LB → Option R) : F46x0 N v1 k0 = (G46x0 N v1).bind k0 := by
 unfold G46x0 F46x0
 repeat' (first | with_reducible apply cond_b | (with_reducible apply bnd_b; intro _) | rfl)
def sh46x0 : Sh := { tmps := [(0, .c (.sl 3))], mem := [] }
def A46x0 (L : List Lf) : List (Bool × Res) := bnd (F46x0 N (ll L 1) (fun p => some p)) fun q => [(q.isSome, ([.c (.s (q.getD default))], []))]
theorem raw46x0 (L : List Lf) : bd Tryz.prog (T30x0 N) (h46x0s1 N).h 46 sh46x0 L = F46x0 N (ll L 1) (fun p => some ([.c (.s p)], [])) := by kernel_rfl
theorem ok46x0 : FnOk Tryz.prog 46 sh46x0 (A46x0 N) :=
 (h46x0s1 N).fn progOk (T30x0_ok N) fun L x hx => ((raw46x0 N L).trans ((bind46x0 N ..).trans (alt1 x hx)))
def T46x0 : Oracle := ext 46 (spSh sh46x0 (A46x0 N)) (T30x0 N)
theorem T46x0_ok : OracleOk Tryz.prog (T46x0 N) := FnOk.to (ok46x0 N) (T30x0_ok N)
def rg38x0 : List (Nat × List Nat) := [(0, []), (1, [])]
def hd38x0 : Hints := []
def h38x0s0 (N : Nat) : Sg Tryz.prog 0 38 := .start hd38x0 rg38x0
def F38x0 (N : Nat) (k0 : LD → R) : R :=
 k0 [(.s ([] : List UInt8)), (.s ([112, 117, 108, 115, 101] : List UInt8)), (.s ([112, 111, 119, 101, 114] : List UInt8)), (.s ([115, 116, 101, 112, 115] : List UInt8)), (.s ([104, 101, 105, 103, 104, 116] : List UInt8))]
def V38x0 : LD := F38x0 N (fun p => p)
theorem tot38x0 (k0 : LD → R) : F38x0 N k0 = k0 (V38x0 N) := by
 unfold V38x0 F38x0
 repeat' (first | rfl | apply cond_k | (apply bnd_k; intro _))
def sh38x0 : Sh := { tmps := [], mem := [] }
def A38x0 (L : List Lf) : List (Bool × Res) := bnd (F38x0 N (fun p => p)) fun q => [(true, ([.c (.sl 9 false q)], []))]
theorem raw38x0 (L : List Lf) : bd Tryz.prog (T46x0 N) (h38x0s0 N).h 38 sh38x0 L = F38x0 N (fun p => some ([.c (.sl 9 false p)], [])) := by kernel_rfl
theorem ok38x0 : FnOk Tryz.prog 38 sh38x0 (A38x0 N) :=
 (h38x0s0 N).fn progOk (T46x0_ok N) fun L x hx => ((raw38x0 N L).trans ((tot38x0 N ..).trans (alt0 _ _ hx)))
def T38x0 : Oracle := ext 38 (spSh sh38x0 (A38x0 N)) (T46x0 N)
theorem T38x0_ok : OracleOk Tryz.prog (T38x0 N) := FnOk.to (ok38x0 N) (T46x0_ok N)
def rg31x0 : List (Nat × List Nat) := [(0, [0]), (1, [1]), (2, [4, 1]), (4, [4, 1]), (6, [4, 1]), (8, [4, 1]), (10, [4, 1]), (12, [4, 1]), (14, [4, 1]), (15, []), (13, []), (11, [1]), (9, [1]), (7, [1]), (5, [1]), (3, [1]), (16, [1])]
def hd31x0 : Hints := []
def h31x0s0 (N : Nat) : Sg Tryz.prog 0 31 := .start hd31x0 rg31x0
def F31x0 (v1 v2 v3 v4 v5 v6 v7 : Int) (v8 : LB) (k0 : LB → Option R) : Option R :=
 bif (v1 == 1) then
  bnd (G46x0 N [(.i v2), (.i v3), (.i v4)]) fun y0 =>
  bif y0.isSome then
   bif (decide (([112, 108, 97, 99, 101] : List UInt8).length + (y0.getD default).length ≤ strMax)) then
    bnd (([112, 108, 97, 99, 101] : List UInt8) ++ (y0.getD default)) fun y1 =>
    k0 y1
   else
    none
  else
   none
 else
  bif (v1 == 2) then
   bnd (G46x0 N [(.i v5), (.i v6)]) fun y2 =>
   bif y2.isSome then
    bif (decide (([104, 111, 117, 114, 115] : List UInt8).length + (y2.getD default).length ≤ strMax)) then
     bnd (([104, 111, 117, 114, 115] : List UInt8) ++ (y2.getD default)) fun y3 =>
     k0 y3
    else
     none
   else
    none
  else
   bif (v1 == 3) then
    bnd (V38x0 N) fun y4 =>
    bif (inB v7 y4.length) then
     k0 (y4.getD v7.toNat (.i 0)).toS
    else
     none
   else
    bif (v1 == 4) then
     bif (decide (([116, 97, 103, 32] : List UInt8).length + v8.length ≤ strMax)) then
      k0 (([116, 97, 103, 32] : List UInt8) ++ v8)
     else
      none
    else
     bif (v1 == 5) then
      bnd (G46x0 N [(.i v7)]) fun y5 =>
      bif y5.isSome then
       bif (decide (([115, 112, 111, 114, 116] : List UInt8).length + (y5.getD default).length ≤ strMax)) then
        bnd (([115, 112, 111, 114, 116] : List UInt8) ++ (y5.getD default)) fun y6 =>
        k0 y6
       else
        none
      else
       none
     else
      bif (v1 == 6) then
       k0 ([100, 97, 121] : List UInt8)
      else
       bif (v1 == 7) then
        k0 ([110, 97, 109, 101] : List UInt8)
       else
        bnd (G46x0 N [(.i v7)]) fun y5 =>
        bif y5.isSome then
         bif (decide (([103, 114, 105, 100] : List UInt8).length + (y5.getD default).length ≤ strMax)) then
          bnd (([103, 114, 105, 100] : List UInt8) ++ (y5.getD default)) fun y7 =>
          k0 y7
         else
          none
        else
         none
def G31x0 (v1 v2 v3 v4 v5 v6 v7 : Int) (v8 : LB) : Option (LB) := F31x0 N v1 v2 v3 v4 v5 v6 v7 v8 (fun p => some p)
theorem bind31x0 (v1 v2 v3 v4 v5 v6 v7 : Int) (v8 : LB) (k0 : LB → Option R) : F31x0 N v1 v2 v3 v4 v5 v6 v7 v8 k0 = (G31x0 N v1 v2 v3 v4 v5 v6 v7 v8).bind k0 := by
 unfold G31x0 F31x0
 repeat' (first | with_reducible apply cond_b | (with_reducible apply bnd_b; intro _) | rfl)
def J31x0 (L : List Lf) (k0 : LB → Option R) : Option R := F31x0 N (li L 1) (li L 2) (li L 3) (li L 4) (li L 5) (li L 6) (li L 7) (ls L 8) k0
def sh31x0 : Sh := { tmps := [(0, .g (rI 8 ([.s])))], mem := [] }
def A31x0 (L : List Lf) : List (Bool × Res) := bnd (J31x0 N L (fun p => some p)) fun q => [(q.isSome, ([.c (.s (q.getD default))], []))]
theorem raw31x0 (L : List Lf) : bd Tryz.prog (T38x0 N) (h31x0s0 N).h 31 sh31x0 L = J31x0 N L (fun p => some ([.c (.s p)], [])) := by kernel_rfl
theorem ok31x0 : FnOk Tryz.prog 31 sh31x0 (A31x0 N) :=
 (h31x0s0 N).fn progOk (T38x0_ok N) fun L x hx => ((raw31x0 N L).trans ((bind31x0 N ..).trans (alt1 x hx)))
def T31x0 : Oracle := ext 31 (spSh sh31x0 (A31x0 N)) (T38x0 N)
theorem T31x0_ok : OracleOk Tryz.prog (T31x0 N) := FnOk.to (ok31x0 N) (T38x0_ok N)
def rg10x0 : List (Nat × List Nat) := [(0, [0]), (1, [1]), (2, [4, 1]), (3, [4]), (4, [1]), (5, [1, 5]), (6, [16, 15, 14, 5]), (7, [14, 16, 5, 15]), (8, [5, 7, 16, 15, 14]), (9, [16, 15, 14, 5]), (10, [5])]
def hd10x0 : Hints := [(18, [5, 14, 15, 16], [], [])]
def h10x0s0 (N : Nat) : Sg Tryz.prog 0 10 := .start hd10x0 rg10x0
def S10x0x18 (w2 : LD) (w3 : Int) (w0 : LB) (w4 : Int) (kr : LB → Int → Option R) (k0 : LB → Option R) : Option R :=
 bif (decide (w4 < w3)) then
  bif (inB w4 w2.length) then
   bnd (V30x0 N) fun y0 =>
   bif (inB ((w2.getD w4.toNat (.i 0)).cell 0).toI y0.length) then
    bnd ((y0.getD ((w2.getD w4.toNat (.i 0)).cell 0).toI.toNat (.i 0)) : D) fun y1 =>
    bif (decide (y1.toS.length + ([32] : List UInt8).length ≤ strMax)) then
     bnd (G31x0 N ((w2.getD w4.toNat (.i 0)).cell 1).toI ((w2.getD w4.toNat (.i 0)).cell 2).toI ((w2.getD w4.toNat (.i 0)).cell 3).toI ((w2.getD w4.toNat (.i 0)).cell 4).toI ((w2.getD w4.toNat (.i 0)).cell 5).toI ((w2.getD w4.toNat (.i 0)).cell 6).toI ((w2.getD w4.toNat (.i 0)).cell 7).toI ((w2.getD w4.toNat (.i 0)).cell 8).toS) fun y2 =>
     bif y2.isSome then
      bif (decide ((y1.toS ++ ([32] : List UInt8)).length + (y2.getD default).length ≤ strMax)) then
       bnd ((y1.toS ++ ([32] : List UInt8)) ++ (y2.getD default)) fun y3 =>
       bif (decide (y3.length + ([10] : List UInt8).length ≤ strMax)) then
        bif (decide (w0.length + (y3 ++ ([10] : List UInt8)).length ≤ strMax)) then
         kr (w0 ++ (y3 ++ ([10] : List UInt8))) (IntKind.wrap .i64 (w4 + 1))
        else
         none
       else
        none
      else
       none
     else
      none
    else
     none
   else
    none
  else
   none
 else
  k0 w0
def L10x0x18 (N : Nat) {R : Type} (w2 : LD) (w3 : Int) : Nat → LB → Int → (LB → Option R) → Option R
 | 0, _, _, _ => none
 | m + 1, w0, w4, k0 => S10x0x18 N w2 w3 w0 w4 (fun w0 w4 => L10x0x18 N w2 w3 m w0 w4 k0) k0
def G10x0x18 (w2 : LD) (w3 : Int) (w0 : LB) (w4 : Int) : Option (LB) := L10x0x18 N (R := (LB)) w2 w3 N w0 w4 (fun p => some p)
def J10x0x18 (L x : List Lf) (kr : List Lf → Option R) (k0 : LB → Option R) : Option R := S10x0x18 N (ll L 2) (li L 3) (ls x 0) (li x 1) (fun w0 w4 => kr [.s w0, .i w4]) k0
theorem sb10x0x18 (L x : List Lf) (kr : List Lf → Option R) (k0 : LB → Option R) : J10x0x18 N L x kr k0 = (J10x0x18 N L x (fun y => some (.inl y)) (fun p => some (.inr p))).bind (sumE kr k0) := by
 unfold J10x0x18 S10x0x18
 repeat' (first | with_reducible apply cond_b | (with_reducible apply bnd_b; intro _) | rfl)
def Q10x0x18 (L : List Lf) (m : Nat) (x : List Lf) : Option (LB) := L10x0x18 N (R := (LB)) (ll L 2) (li L 3) m (ls x 0) (li x 1) (fun p => some p)
def sh10x0x18 : Sh := { tmps := [(5, .c (.s)), (14, .c (.sl 40)), (15, .c (.i .i64)), (16, .c (.i .i64))], mem := [] }
def A10x0x18 (L : List Lf) : List (Bool × (Ex × St)) := bnd (Q10x0x18 N L N (pk sh10x0x18 [0, 4] L)) fun q => [(q.isSome, ((.exit 0), ⟨[(5, .c (.s (q.getD default)))], []⟩))]
theorem step10x0x18 (m : Nat) (kn : St → Option (Ex × St)) (L x : List Lf) : lpB Tryz.prog (T31x0 N) (h10x0s0 N).h 0 10 18 sh10x0x18 [0, 4] [2, 3, 5] [] (m + 100) kn L x = J10x0x18 N L x (fun y => kn (ofSh sh10x0x18 (mx sh10x0x18 [0, 4] L y))) (fun p => some ((.exit 0), ⟨[(5, .c (.s p))], []⟩)) := by kernel_rfl
theorem ql10x0x18 (L : List Lf) (m : Nat) (x : List Lf) : Q10x0x18 N L (m + 1) x = J10x0x18 N L x (Q10x0x18 N L m) some := by kernel_rfl
def h10x0s1 : Sg Tryz.prog 0 10 :=
 (h10x0s0 N).lp (A10x0x18 N) N progOk (T31x0_ok N) (fun m kn L x => (step10x0x18 N m kn L x).trans (sb10x0x18 N L x _ _)) (fun L m x => (ql10x0x18 N L m x).trans (sb10x0x18 N L x (Q10x0x18 N L m) some)) fun L x hx => alt1 x hx
def F10x0 (v1 : LD) (k0 : LB × Int → Option R) : Option R :=
 bnd (G19x0 N v1) fun y0 =>
 bif y0.isSome then
  bif ((y0.getD default) != 0) then
   k0 (([] : List UInt8), (y0.getD default))
  else
   bnd (G10x0x18 N v1 (v1.length : Int) ([] : List UInt8) 0) fun y1 =>
   bif y1.isSome then
    k0 ((y1.getD default), 0)
   else
    none
 else
  none
def G10x0 (v1 : LD) : Option (LB × Int) := F10x0 N v1 (fun p => some p)
theorem bind10x0 (v1 : LD) (k0 : LB × Int → Option R) : F10x0 N v1 k0 = (G10x0 N v1).bind k0 := by
 unfold G10x0 F10x0
 repeat' (first | with_reducible apply cond_b | (with_reducible apply bnd_b; intro _) | rfl)
def sh10x0 : Sh := { tmps := [(0, .g ([.sl 40]))], mem := [] }
def A10x0 (L : List Lf) : List (Bool × Res) := bnd (F10x0 N (ll L 1) (fun p => some p)) fun q => [(q.isSome, ([.c (.s (q.getD default).1), .c (.i .i64 (q.getD default).2)], []))]
theorem raw10x0 (L : List Lf) : bd Tryz.prog (T31x0 N) (h10x0s1 N).h 10 sh10x0 L = F10x0 N (ll L 1) (fun p => some ([.c (.s p.1), .c (.i .i64 p.2)], [])) := by kernel_rfl
theorem ok10x0 : FnOk Tryz.prog 10 sh10x0 (A10x0 N) :=
 (h10x0s1 N).fn progOk (T31x0_ok N) fun L x hx => ((raw10x0 N L).trans ((bind10x0 N ..).trans (alt1 x hx)))
def T10x0 : Oracle := ext 10 (spSh sh10x0 (A10x0 N)) (T31x0 N)
theorem T10x0_ok : OracleOk Tryz.prog (T10x0 N) := FnOk.to (ok10x0 N) (T31x0_ok N)
def rg74x0 : List (Nat × List Nat) := [(0, [0, 1, 2]), (1, [0, 1, 2])]
def hd74x0 : Hints := []
def h74x0s0 (N : Nat) : Sg Tryz.prog 0 74 := .start hd74x0 rg74x0
def F74x0 (N : Nat) (v0 v1 v2 : Int) (k0 : Bool → R) : R :=
 k0 (bif (decide (v0 ≥ v1)) then (decide (v0 ≤ v2)) else false)
def V74x0 (v0 v1 v2 : Int) : Bool := F74x0 N v0 v1 v2 (fun p => p)
theorem tot74x0 (v0 v1 v2 : Int) (k0 : Bool → R) : F74x0 N v0 v1 v2 k0 = k0 (V74x0 N v0 v1 v2) := by
 unfold V74x0 F74x0
 repeat' (first | rfl | apply cond_k | (apply bnd_k; intro _))
def sh74x0 : Sh := { tmps := [(0, .c (.i .i64)), (1, .c (.i .i64)), (2, .c (.i .i64))], mem := [] }
def A74x0 (L : List Lf) : List (Bool × Res) := bnd (F74x0 N (li L 0) (li L 1) (li L 2) (fun p => p)) fun q => [(true, ([.c (.b q)], []))]
theorem raw74x0 (L : List Lf) : bd Tryz.prog (T10x0 N) (h74x0s0 N).h 74 sh74x0 L = F74x0 N (li L 0) (li L 1) (li L 2) (fun p => some ([.c (.b p)], [])) := by kernel_rfl
theorem ok74x0 : FnOk Tryz.prog 74 sh74x0 (A74x0 N) :=
 (h74x0s0 N).fn progOk (T10x0_ok N) fun L x hx => ((raw74x0 N L).trans ((tot74x0 N ..).trans (alt0 _ _ hx)))
def T74x0 : Oracle := ext 74 (spSh sh74x0 (A74x0 N)) (T10x0 N)
theorem T74x0_ok : OracleOk Tryz.prog (T74x0 N) := FnOk.to (ok74x0 N) (T10x0_ok N)
def rg75x0 : List (Nat × List Nat) := [(0, [0]), (1, [1]), (2, [3, 1])]
def hd75x0 : Hints := [(4, [1], [1], []), (7, [1, 3], [1], [])]
def h75x0s0 (N : Nat) : Sg Tryz.prog 0 75 := .start hd75x0 rg75x0
def F75x0x4 (w1 w2 w3 : Int) (k0 : Bool → R) : R :=
 bnd (V74x0 N w1 (-100000000) 100000000) fun y0 =>
 bif y0 then
  bnd (V74x0 N w2 (-100000000) 100000000) fun y1 =>
  bif y1 then
   bnd (V74x0 N w3 (-100000) 100000) fun y2 =>
   k0 y2
  else
   k0 false
 else
  k0 false
def V75x0x4 (w1 w2 w3 : Int) : Bool := F75x0x4 N w1 w2 w3 (fun p => p)
theorem tot75x0x4 (w1 w2 w3 : Int) (k0 : Bool → R) : F75x0x4 N w1 w2 w3 k0 = k0 (V75x0x4 N w1 w2 w3) := by
 unfold V75x0x4 F75x0x4
 repeat' (first | rfl | apply cond_k | (apply bnd_k; intro _))
def sh75x0x4 : Sh := { tmps := [(1, .c (.p 1 0))], mem := [(1, .box (rI 7 ([])))] }
def K75x0x4w0 (L : List Lf) (p : Bool) : Ex × St := (.normal, mg (ofSh sh75x0x4 L) [3, 1] [(3, .c (.b p))] [1] [])
def A75x0x4 (L : List Lf) : List (Bool × (Ex × St)) := bnd (F75x0x4 N (li L 1) (li L 2) (li L 3) (fun p => p)) fun q => [(true, K75x0x4w0 L q)]
theorem raw75x0x4 (L : List Lf) : pc Tryz.prog (T74x0 N) (h75x0s0 N).h 0 100 75 4 sh75x0x4 L [3, 1] [1] = F75x0x4 N (li L 1) (li L 2) (li L 3) (fun p => some (K75x0x4w0 L p)) := by kernel_rfl
def h75x0s1 : Sg Tryz.prog 0 75 :=
 (h75x0s0 N).cut (A75x0x4 N) progOk (T74x0_ok N) fun L x hx => (raw75x0x4 N L).trans ((tot75x0x4 N ..).trans (alt0 _ _ hx))
def F75x0x7 (w0 : Bool) (w5 w6 w7 : Int) (k0 : Bool → R) : R :=
 bif w0 then
  bnd (V74x0 N w5 (-1) 300) fun y0 =>
  bif y0 then
   bnd (V74x0 N w6 (-1) 3000) fun y1 =>
   bif y1 then
    bnd (V74x0 N w7 (-1) 300) fun y2 =>
    k0 y2
   else
    k0 false
  else
   k0 false
 else
  k0 false
def V75x0x7 (w0 : Bool) (w5 w6 w7 : Int) : Bool := F75x0x7 N w0 w5 w6 w7 (fun p => p)
theorem tot75x0x7 (w0 : Bool) (w5 w6 w7 : Int) (k0 : Bool → R) : F75x0x7 N w0 w5 w6 w7 k0 = k0 (V75x0x7 N w0 w5 w6 w7) := by
 unfold V75x0x7 F75x0x7
 repeat' (first | rfl | apply cond_k | (apply bnd_k; intro _))
def J75x0x7 (L : List Lf) (k0 : Bool → R) : R := F75x0x7 N (lb L 0) (li L 5) (li L 6) (li L 7) k0
def sh75x0x7 : Sh := { tmps := [(1, .c (.p 1 0)), (3, .c (.b))], mem := [(1, .box (rI 7 ([])))] }
def A75x0x7 (L : List Lf) : List (Bool × (Ex × St)) := bnd (J75x0x7 N L (fun p => p)) fun q => [(true, (.normal, ⟨[(2, .c (.b q))], []⟩))]
theorem raw75x0x7 (L : List Lf) : pc Tryz.prog (T74x0 N) (h75x0s1 N).h 0 100 75 7 sh75x0x7 L [2] [] = J75x0x7 N L (fun p => some (.normal, ⟨[(2, .c (.b p))], []⟩)) := by kernel_rfl
def h75x0s2 : Sg Tryz.prog 0 75 :=
 (h75x0s1 N).cut (A75x0x7 N) progOk (T74x0_ok N) fun L x hx => (raw75x0x7 N L).trans ((tot75x0x7 N ..).trans (alt0 _ _ hx))
def F75x0 (v1 v2 v3 v4 v5 v6 : Int) (k0 : Bool → R) : R :=
 bnd (V75x0x4 N v1 v2 v3) fun y0 =>
 bnd (V75x0x7 N y0 v4 v5 v6) fun y1 =>
 k0 y1
def V75x0 (v1 v2 v3 v4 v5 v6 : Int) : Bool := F75x0 N v1 v2 v3 v4 v5 v6 (fun p => p)
theorem tot75x0 (v1 v2 v3 v4 v5 v6 : Int) (k0 : Bool → R) : F75x0 N v1 v2 v3 v4 v5 v6 k0 = k0 (V75x0 N v1 v2 v3 v4 v5 v6) := by
 unfold V75x0 F75x0
 repeat' (first | rfl | apply cond_k | (apply bnd_k; intro _))
def J75x0 (L : List Lf) (k0 : Bool → R) : R := F75x0 N (li L 1) (li L 2) (li L 3) (li L 4) (li L 5) (li L 6) k0
def sh75x0 : Sh := { tmps := [(0, .g (rI 7 ([])))], mem := [] }
def A75x0 (L : List Lf) : List (Bool × Res) := bnd (J75x0 N L (fun p => p)) fun q => [(true, ([.c (.b q)], []))]
theorem raw75x0 (L : List Lf) : bd Tryz.prog (T74x0 N) (h75x0s2 N).h 75 sh75x0 L = J75x0 N L (fun p => some ([.c (.b p)], [])) := by kernel_rfl
theorem ok75x0 : FnOk Tryz.prog 75 sh75x0 (A75x0 N) :=
 (h75x0s2 N).fn progOk (T74x0_ok N) fun L x hx => ((raw75x0 N L).trans ((tot75x0 N ..).trans (alt0 _ _ hx)))
def T75x0 : Oracle := ext 75 (spSh sh75x0 (A75x0 N)) (T74x0 N)
theorem T75x0_ok : OracleOk Tryz.prog (T75x0 N) := FnOk.to (ok75x0 N) (T74x0_ok N)
def rg76x0 : List (Nat × List Nat) := [(0, [0]), (1, [1]), (2, [3, 1]), (3, [1, 3]), (4, [])]
def hd76x0 : Hints := []
def h76x0s0 (N : Nat) : Sg Tryz.prog 0 76 := .start hd76x0 rg76x0
def F76x0 (N : Nat) (v4 : LD) (k0 : Int → Option R) : Option R :=
 bif (decide ((v4.length : Int) > 0)) then
  bif (inB (IntKind.wrap .i64 ((v4.length : Int) - 1)) v4.length) then
   bnd ((v4.getD (IntKind.wrap .i64 ((v4.length : Int) - 1)).toNat (.i 0)) : D) fun y0 =>
   k0 (y0.cell 0).toI
  else
   none
 else
  k0 0
def G76x0 (v4 : LD) : Option (Int) := F76x0 N v4 (fun p => some p)
theorem bind76x0 (v4 : LD) (k0 : Int → Option R) : F76x0 N v4 k0 = (G76x0 N v4).bind k0 := by
 unfold G76x0 F76x0
 repeat' (first | with_reducible apply cond_b | (with_reducible apply bnd_b; intro _) | rfl)
def sh76x0 : Sh := { tmps := [(0, .g (.s :: [.i .i64, .i .i64, .sl 47, .sl 110, .sl 9]))], mem := [] }
def A76x0 (L : List Lf) : List (Bool × Res) := bnd (F76x0 N (ll L 4) (fun p => some p)) fun q => [(q.isSome, ([.c (.i .i64 (q.getD default))], []))]
theorem raw76x0 (L : List Lf) : bd Tryz.prog (T75x0 N) (h76x0s0 N).h 76 sh76x0 L = F76x0 N (ll L 4) (fun p => some ([.c (.i .i64 p)], [])) := by kernel_rfl
theorem ok76x0 : FnOk Tryz.prog 76 sh76x0 (A76x0 N) :=
 (h76x0s0 N).fn progOk (T75x0_ok N) fun L x hx => ((raw76x0 N L).trans ((bind76x0 N ..).trans (alt1 x hx)))
def T76x0 : Oracle := ext 76 (spSh sh76x0 (A76x0 N)) (T75x0 N)
theorem T76x0_ok : OracleOk Tryz.prog (T76x0 N) := FnOk.to (ok76x0 N) (T75x0_ok N)
def rg77x0 : List (Nat × List Nat) := [(0, [0]), (1, [0]), (2, [6, 5, 0]), (3, [6, 0, 5]), (4, [0, 3, 6, 5]), (5, []), (6, [6, 5, 0]), (7, [0])]
def hd77x0 : Hints := [(6, [0, 5, 6], [], [])]
def h77x0s0 (N : Nat) : Sg Tryz.prog 0 77 := .start hd77x0 rg77x0
def S77x0x6 (w0 : LB) (w1 : Int) (w2 : Int) (kr : Int → Option R) (k0 : Unit → Option R) (k1 : Unit → Option R) : Option R :=
 bif (decide (w2 < w1)) then
  bif (inB w2 w0.length) then
   bnd (V74x0 N (IntKind.wrap .i64 ((w0.getD w2.toNat 0).toNat : Int)) 32 126) fun y0 =>
   bif (!y0) then
    k0 ()
   else
    kr (IntKind.wrap .i64 (w2 + 1))
  else
   none
 else
  k1 ()
def L77x0x6 (N : Nat) {R : Type} (w0 : LB) (w1 : Int) : Nat → Int → (Unit → Option R) → (Unit → Option R) → Option R
 | 0, _, _, _ => none
 | m + 1, w2, k0, k1 => S77x0x6 N w0 w1 w2 (fun w2 => L77x0x6 N w0 w1 m w2 k0 k1) k0 k1
def G77x0x6 (w0 : LB) (w1 : Int) (w2 : Int) : Option (Sum (Unit) (Unit)) := L77x0x6 N (R := (Sum (Unit) (Unit))) w0 w1 N w2 (fun p => some (.inl p)) (fun p => some (.inr p))
def J77x0x6 (L x : List Lf) (kr : List Lf → Option R) (k0 : Unit → Option R) (k1 : Unit → Option R) : Option R := S77x0x6 N (ls L 0) (li L 1) (li x 0) (fun w2 => kr [.i w2]) k0 k1
theorem sb77x0x6 (L x : List Lf) (kr : List Lf → Option R) (k0 : Unit → Option R) (k1 : Unit → Option R) : J77x0x6 N L x kr k0 k1 = (J77x0x6 N L x (fun y => some (.inl y)) (fun p => some (.inr (.inl p))) (fun p => some (.inr (.inr p)))).bind (sumE kr (sumE k0 k1)) := by
 unfold J77x0x6 S77x0x6
 repeat' (first | with_reducible apply cond_b | (with_reducible apply bnd_b; intro _) | rfl)
def Q77x0x6 (L : List Lf) (m : Nat) (x : List Lf) : Option (Sum (Unit) (Unit)) := L77x0x6 N (R := (Sum (Unit) (Unit))) (ls L 0) (li L 1) m (li x 0) (fun p => some (.inl p)) (fun p => some (.inr p))
def sh77x0x6 : Sh := { tmps := [(0, .c (.s)), (5, .c (.i .i64)), (6, .c (.i .i64))], mem := [] }
def A77x0x6 (L : List Lf) : List (Bool × (Ex × St)) := bnd (Q77x0x6 N L N (pk sh77x0x6 [2] L)) fun q => [((inlB q), (.ret, ⟨[(2, .c (.b false))], []⟩)), ((inrQ q).isSome, ((.exit 0), ⟨[(0, .c (.s (ls L 0)))], []⟩))]
theorem step77x0x6 (m : Nat) (kn : St → Option (Ex × St)) (L x : List Lf) : lpB Tryz.prog (T76x0 N) (h77x0s0 N).h 0 77 6 sh77x0x6 [2] [2, 0] [] (m + 100) kn L x = J77x0x6 N L x (fun y => kn (ofSh sh77x0x6 (mx sh77x0x6 [2] L y))) (fun _ => some (.ret, ⟨[(2, .c (.b false))], []⟩)) (fun _ => some ((.exit 0), ⟨[(0, .c (.s (ls L 0)))], []⟩)) := by kernel_rfl
theorem ql77x0x6 (L : List Lf) (m : Nat) (x : List Lf) : Q77x0x6 N L (m + 1) x = J77x0x6 N L x (Q77x0x6 N L m) (fun p => some (.inl p)) (fun p => some (.inr p)) := by kernel_rfl
def h77x0s1 : Sg Tryz.prog 0 77 :=
 (h77x0s0 N).lp (A77x0x6 N) N progOk (T76x0_ok N) (fun m kn L x => (step77x0x6 N m kn L x).trans (sb77x0x6 N L x _ _ _)) (fun L m x => (ql77x0x6 N L m x).trans (sb77x0x6 N L x (Q77x0x6 N L m) (fun p => some (.inl p)) (fun p => some (.inr p)))) fun L x hx => (altS alt1) x hx
def F77x0 (v0 : LB) (k0 : Bool → Option R) : Option R :=
 bnd (G77x0x6 N v0 (v0.length : Int) 0) fun y0 =>
 bif (inlB y0) then
  k0 false
 else
  bif (inrQ y0).isSome then
   k0 (decide ((v0.length : Int) ≤ 60))
  else
   none
def G77x0 (v0 : LB) : Option (Bool) := F77x0 N v0 (fun p => some p)
theorem bind77x0 (v0 : LB) (k0 : Bool → Option R) : F77x0 N v0 k0 = (G77x0 N v0).bind k0 := by
 unfold G77x0 F77x0
 repeat' (first | with_reducible apply cond_b | (with_reducible apply bnd_b; intro _) | rfl)
def sh77x0 : Sh := { tmps := [(0, .c (.s))], mem := [] }
def A77x0 (L : List Lf) : List (Bool × Res) := bnd (F77x0 N (ls L 0) (fun p => some p)) fun q => [(q.isSome, ([.c (.b (q.getD default))], []))]
theorem raw77x0 (L : List Lf) : bd Tryz.prog (T76x0 N) (h77x0s1 N).h 77 sh77x0 L = F77x0 N (ls L 0) (fun p => some ([.c (.b p)], [])) := by kernel_rfl
theorem ok77x0 : FnOk Tryz.prog 77 sh77x0 (A77x0 N) :=
 (h77x0s1 N).fn progOk (T76x0_ok N) fun L x hx => ((raw77x0 N L).trans ((bind77x0 N ..).trans (alt1 x hx)))
def T77x0 : Oracle := ext 77 (spSh sh77x0 (A77x0 N)) (T76x0 N)
theorem T77x0_ok : OracleOk Tryz.prog (T77x0 N) := FnOk.to (ok77x0 N) (T76x0_ok N)
def rg58x0 : List (Nat × List Nat) := [(0, [0]), (1, [1]), (3, [1]), (5, [1]), (7, [1]), (8, []), (6, []), (4, []), (2, []), (9, [1]), (10, [45, 44, 43, 1]), (11, [45, 43, 1, 44]), (12, [3, 4, 1, 45, 44, 43]), (13, [3, 4, 1, 45, 44, 43]), (15, [4, 1, 45, 44, 43]), (16, []), (14, []), (17, [45, 44, 43, 1]), (18, [1]), (19, [1, 5]), (20, [95, 94, 93, 5, 1]), (21, [95, 93, 5, 1, 94]), (22, [7, 5, 6, 1, 95, 94, 93]), (24, [6, 7, 1, 95, 94, 93, 5]), (26, [7, 95, 94, 93, 5, 1]), (27, []), (25, []), (23, []), (28, [95, 94, 93, 5, 1]), (29, [1]), (30, [141, 140, 139, 1]), (31, [141, 139, 1, 140]), (32, [9, 8, 1, 141, 140, 139]), (34, [8, 9, 1, 141, 140, 139]), (35, []), (33, []), (36, [141, 140, 139, 1]), (37, [])]
def hd58x0 : Hints := [(30, [1, 43, 44, 45], [1], []), (40, [1, 3, 4, 43, 44, 45], [1, 4], []), (39002, [1, 3, 4, 43, 44, 45, 50], [1, 4], []), (46, [1, 4, 43, 44, 45], [1, 4], []), (60, [1, 5, 93, 94, 95], [1], []), (73, [1, 5, 6, 7, 93, 94, 95], [1, 7], []), (90, [1, 139, 140, 141], [1], [])]
def h58x0s0 (N : Nat) : Sg Tryz.prog 0 58 := .start hd58x0 rg58x0
def F58x0x40 (N : Nat) (w0 : Int) (w9 : LD) (w14 : Int) (k0 : Bool → Option R) : Option R :=
 bif (decide (w0 > 0)) then
  bif (inB (IntKind.wrap .i64 (w0 - 1)) w9.length) then
   bnd ((w9.getD (IntKind.wrap .i64 (w0 - 1)).toNat (.i 0)).cell 0).toI fun y0 =>
   k0 (decide (w14 ≤ y0))
  else
   none
 else
  k0 false
def G58x0x40 (w0 : Int) (w9 : LD) (w14 : Int) : Option (Bool) := F58x0x40 N w0 w9 w14 (fun p => some p)
theorem bind58x0x40 (w0 : Int) (w9 : LD) (w14 : Int) (k0 : Bool → Option R) : F58x0x40 N w0 w9 w14 k0 = (G58x0x40 N w0 w9 w14).bind k0 := by
 unfold G58x0x40 F58x0x40
 repeat' (first | with_reducible apply cond_b | (with_reducible apply bnd_b; intro _) | rfl)
def sh58x0x40 : Sh := { tmps := [(1, .c (.p 1 0)), (3, .c (.i .i64)), (4, .c (.p 4 0)), (43, .c (.sl 47)), (44, .c (.i .i64)), (45, .c (.i .i64))], mem := [(1, .box (.s :: [.i .i64, .i .i64, .sl 47, .sl 110, .sl 9])), (4, .box (rI 7 ([])))] }
def K58x0x40w0 (L : List Lf) (p : Bool) : Ex × St := (.normal, mg (ofSh sh58x0x40 L) [4, 1, 45, 44, 43, 50] [(50, .c (.b p))] [4, 1] [])
def A58x0x40 (L : List Lf) : List (Bool × (Ex × St)) := bnd (F58x0x40 N (li L 0) (ll L 9) (li L 14) (fun p => some p)) fun q => [(q.isSome, K58x0x40w0 L (q.getD default))]
theorem raw58x0x40 (L : List Lf) : pc Tryz.prog (T77x0 N) (h58x0s0 N).h 0 100 58 40 sh58x0x40 L [4, 1, 45, 44, 43, 50] [4, 1] = F58x0x40 N (li L 0) (ll L 9) (li L 14) (fun p => some (K58x0x40w0 L p)) := by kernel_rfl
def h58x0s1 : Sg Tryz.prog 0 58 :=
 (h58x0s0 N).cut (A58x0x40 N) progOk (T77x0_ok N) fun L x hx => (raw58x0x40 N L).trans ((bind58x0x40 N ..).trans (alt1 x hx))
def F58x0x39002 (w0 : Int) (w5 : Bool) (w10 : LD) (w15 : Int) (k0 : Bool → Option R) : Option R :=
 bif w5 then
  k0 true
 else
  bnd (G58x0x40 N w0 w10 w15) fun y0 =>
  bif y0.isSome then
   k0 (y0.getD default)
  else
   none
def G58x0x39002 (w0 : Int) (w5 : Bool) (w10 : LD) (w15 : Int) : Option (Bool) := F58x0x39002 N w0 w5 w10 w15 (fun p => some p)
theorem bind58x0x39002 (w0 : Int) (w5 : Bool) (w10 : LD) (w15 : Int) (k0 : Bool → Option R) : F58x0x39002 N w0 w5 w10 w15 k0 = (G58x0x39002 N w0 w5 w10 w15).bind k0 := by
 unfold G58x0x39002 F58x0x39002
 repeat' (first | with_reducible apply cond_b | (with_reducible apply bnd_b; intro _) | rfl)
def J58x0x39002 (L : List Lf) (k0 : Bool → Option R) : Option R := F58x0x39002 N (li L 0) (lb L 5) (ll L 10) (li L 15) k0
def sh58x0x39002 : Sh := { tmps := [(1, .c (.p 1 0)), (3, .c (.i .i64)), (4, .c (.p 4 0)), (43, .c (.sl 47)), (44, .c (.i .i64)), (45, .c (.i .i64)), (50, .c (.b))], mem := [(1, .box (.s :: [.i .i64, .i .i64, .sl 47, .sl 110, .sl 9])), (4, .box (rI 7 ([])))] }
def K58x0x39002w0 (L : List Lf) (p : Bool) : Ex × St := (.normal, mg (ofSh sh58x0x39002 L) [4, 1, 45, 44, 43, 50] [(50, .c (.b p))] [4, 1] [])
def A58x0x39002 (L : List Lf) : List (Bool × (Ex × St)) := bnd (J58x0x39002 N L (fun p => some p)) fun q => [(q.isSome, K58x0x39002w0 L (q.getD default))]
theorem raw58x0x39002 (L : List Lf) : pc Tryz.prog (T77x0 N) (h58x0s1 N).h 0 100 58 39002 sh58x0x39002 L [4, 1, 45, 44, 43, 50] [4, 1] = J58x0x39002 N L (fun p => some (K58x0x39002w0 L p)) := by kernel_rfl
def h58x0s2 : Sg Tryz.prog 0 58 :=
 (h58x0s1 N).cut (A58x0x39002 N) progOk (T77x0_ok N) fun L x hx => (raw58x0x39002 N L).trans ((bind58x0x39002 N ..).trans (alt1 x hx))
def F58x0x46 (w6 w13 w14 w15 w16 w17 w18 w19 : Int) (k0 : Bool → R) : R :=
 bnd (bif (decide (w13 > 1000000)) then true else (decide ((IntKind.wrap .i64 (w6 + w13)) > 86399999999))) fun y0 =>
 bif y0 then
  k0 true
 else
  bnd (V75x0 N w14 w15 w16 w17 w18 w19) fun y1 =>
  k0 (!y1)
def V58x0x46 (w6 w13 w14 w15 w16 w17 w18 w19 : Int) : Bool := F58x0x46 N w6 w13 w14 w15 w16 w17 w18 w19 (fun p => p)
theorem tot58x0x46 (w6 w13 w14 w15 w16 w17 w18 w19 : Int) (k0 : Bool → R) : F58x0x46 N w6 w13 w14 w15 w16 w17 w18 w19 k0 = k0 (V58x0x46 N w6 w13 w14 w15 w16 w17 w18 w19) := by
 unfold V58x0x46 F58x0x46
 repeat' (first | rfl | apply cond_k | (apply bnd_k; intro _))
def J58x0x46 (L : List Lf) (k0 : Bool → R) : R := F58x0x46 N (li L 6) (li L 13) (li L 14) (li L 15) (li L 16) (li L 17) (li L 18) (li L 19) k0
def sh58x0x46 : Sh := { tmps := [(1, .c (.p 1 0)), (4, .c (.p 4 0)), (43, .c (.sl 47)), (44, .c (.i .i64)), (45, .c (.i .i64))], mem := [(1, .box (.s :: [.i .i64, .i .i64, .sl 47, .sl 110, .sl 9])), (4, .box (rI 7 ([])))] }
def K58x0x46w0 (L : List Lf) (p : Bool) : Ex × St := (.normal, mg (ofSh sh58x0x46 L) [45, 44, 43, 1, 72] [(72, .c (.b p))] [1] [])
def A58x0x46 (L : List Lf) : List (Bool × (Ex × St)) := bnd (J58x0x46 N L (fun p => p)) fun q => [(true, K58x0x46w0 L q)]
theorem raw58x0x46 (L : List Lf) : pc Tryz.prog (T77x0 N) (h58x0s2 N).h 0 100 58 46 sh58x0x46 L [45, 44, 43, 1, 72] [1] = J58x0x46 N L (fun p => some (K58x0x46w0 L p)) := by kernel_rfl
def h58x0s3 : Sg Tryz.prog 0 58 :=
 (h58x0s2 N).cut (A58x0x46 N) progOk (T77x0_ok N) fun L x hx => (raw58x0x46 N L).trans ((tot58x0x46 N ..).trans (alt0 _ _ hx))
def S58x0x30 (w1 : LD) (w2 w6 : Int) (w8 : LD) (w3 : Int) (kr : Int → Option R) (k0 : Int → Option R) (k1 : Unit → Option R) : Option R :=
 bif (decide (w3 < w2)) then
  bif (inB w3 w1.length) then
   bnd (bif (w3 == 0) then (((w1.getD w3.toNat (.i 0)).cell 0).toI != 0) else false) fun y0 =>
   bnd (G58x0x39002 N w3 y0 w8 ((w1.getD w3.toNat (.i 0)).cell 0).toI) fun y1 =>
   bif y1.isSome then
    bif (y1.getD default) then
     k0 10
    else
     bnd (V58x0x46 N w6 ((w1.getD w3.toNat (.i 0)).cell 0).toI ((w1.getD w3.toNat (.i 0)).cell 1).toI ((w1.getD w3.toNat (.i 0)).cell 2).toI ((w1.getD w3.toNat (.i 0)).cell 3).toI ((w1.getD w3.toNat (.i 0)).cell 4).toI ((w1.getD w3.toNat (.i 0)).cell 5).toI ((w1.getD w3.toNat (.i 0)).cell 6).toI) fun y2 =>
     bif y2 then
      k0 9
     else
      kr (IntKind.wrap .i64 (w3 + 1))
   else
    none
  else
   none
 else
  k1 ()
def L58x0x30 (N : Nat) {R : Type} (w1 : LD) (w2 w6 : Int) (w8 : LD) : Nat → Int → (Int → Option R) → (Unit → Option R) → Option R
 | 0, _, _, _ => none
 | m + 1, w3, k0, k1 => S58x0x30 N w1 w2 w6 w8 w3 (fun w3 => L58x0x30 N w1 w2 w6 w8 m w3 k0 k1) k0 k1
def G58x0x30 (w1 : LD) (w2 w6 : Int) (w8 : LD) (w3 : Int) : Option (Sum (Int) (Unit)) := L58x0x30 N (R := (Sum (Int) (Unit))) w1 w2 w6 w8 N w3 (fun p => some (.inl p)) (fun p => some (.inr p))
def J58x0x30 (L x : List Lf) (kr : List Lf → Option R) (k0 : Int → Option R) (k1 : Unit → Option R) : Option R := S58x0x30 N (ll L 1) (li L 2) (li L 6) (ll L 8) (li x 0) (fun w3 => kr [.i w3]) k0 k1
theorem sb58x0x30 (L x : List Lf) (kr : List Lf → Option R) (k0 : Int → Option R) (k1 : Unit → Option R) : J58x0x30 N L x kr k0 k1 = (J58x0x30 N L x (fun y => some (.inl y)) (fun p => some (.inr (.inl p))) (fun p => some (.inr (.inr p)))).bind (sumE kr (sumE k0 k1)) := by
 unfold J58x0x30 S58x0x30
 repeat' (first | with_reducible apply cond_b | (with_reducible apply bnd_b; intro _) | rfl)
def Q58x0x30 (L : List Lf) (m : Nat) (x : List Lf) : Option (Sum (Int) (Unit)) := L58x0x30 N (R := (Sum (Int) (Unit))) (ll L 1) (li L 2) (li L 6) (ll L 8) m (li x 0) (fun p => some (.inl p)) (fun p => some (.inr p))
def sh58x0x30 : Sh := { tmps := [(1, .c (.p 1 0)), (43, .c (.sl 47)), (44, .c (.i .i64)), (45, .c (.i .i64))], mem := [(1, .box (.s :: [.i .i64, .i .i64, .sl 47, .sl 110, .sl 9]))] }
def K58x0x30w0 (L : List Lf) (p : Int) : Ex × St := (.ret, mg (ofSh sh58x0x30 L) [2] [(2, .c (.i .i64 p))] [1] [])
def A58x0x30 (L : List Lf) : List (Bool × (Ex × St)) := bnd (Q58x0x30 N L N (pk sh58x0x30 [3] L)) fun q => [((inlB q), K58x0x30w0 L (inlV q)), ((inrQ q).isSome, ((.exit 1), mg (ofSh sh58x0x30 L) [1] [] [1] []))]
theorem step58x0x30 (m : Nat) (kn : St → Option (Ex × St)) (L x : List Lf) : lpB Tryz.prog (T77x0 N) (h58x0s3 N).h 0 58 30 sh58x0x30 [3] [2, 1] [1] (m + 100) kn L x = J58x0x30 N L x (fun y => kn (ofSh sh58x0x30 (mx sh58x0x30 [3] L y))) (fun p => some (K58x0x30w0 L p)) (fun _ => some ((.exit 1), mg (ofSh sh58x0x30 L) [1] [] [1] [])) := by kernel_rfl
theorem ql58x0x30 (L : List Lf) (m : Nat) (x : List Lf) : Q58x0x30 N L (m + 1) x = J58x0x30 N L x (Q58x0x30 N L m) (fun p => some (.inl p)) (fun p => some (.inr p)) := by kernel_rfl
def h58x0s4 : Sg Tryz.prog 0 58 :=
 (h58x0s3 N).lp (A58x0x30 N) N progOk (T77x0_ok N) (fun m kn L x => (step58x0x30 N m kn L x).trans (sb58x0x30 N L x _ _ _)) (fun L m x => (ql58x0x30 N L m x).trans (sb58x0x30 N L x (Q58x0x30 N L m) (fun p => some (.inl p)) (fun p => some (.inr p)))) fun L x hx => (altS alt1) x hx
def F58x0x73 (N : Nat) (w1 : Int) (w12 : LD) (w15 : Int) (k0 : Bool → Option R) : Option R :=
 bif (decide (w1 > 0)) then
  bif (inB (IntKind.wrap .i64 (w1 - 1)) w12.length) then
   bnd ((w12.getD (IntKind.wrap .i64 (w1 - 1)).toNat (.i 0)).cell 1).toI fun y0 =>
   k0 (decide (w15 < y0))
  else
   none
 else
  k0 false
def G58x0x73 (w1 : Int) (w12 : LD) (w15 : Int) : Option (Bool) := F58x0x73 N w1 w12 w15 (fun p => some p)
theorem bind58x0x73 (w1 : Int) (w12 : LD) (w15 : Int) (k0 : Bool → Option R) : F58x0x73 N w1 w12 w15 k0 = (G58x0x73 N w1 w12 w15).bind k0 := by
 unfold G58x0x73 F58x0x73
 repeat' (first | with_reducible apply cond_b | (with_reducible apply bnd_b; intro _) | rfl)
def sh58x0x73 : Sh := { tmps := [(1, .c (.p 1 0)), (5, .c (.i .i64)), (6, .c (.i .i64)), (7, .c (.p 7 0)), (93, .c (.sl 110)), (94, .c (.i .i64)), (95, .c (.i .i64))], mem := [(1, .box (.s :: [.i .i64, .i .i64, .sl 47, .sl 110, .sl 9])), (7, .box ([.i .i64, .i .i64, .s]))] }
def K58x0x73w0 (L : List Lf) (p : Bool) : Ex × St := (.normal, mg (ofSh sh58x0x73 L) [7, 95, 94, 93, 5, 1, 117] [(117, .c (.b p))] [7, 1] [])
def A58x0x73 (L : List Lf) : List (Bool × (Ex × St)) := bnd (F58x0x73 N (li L 1) (ll L 12) (li L 15) (fun p => some p)) fun q => [(q.isSome, K58x0x73w0 L (q.getD default))]
theorem raw58x0x73 (L : List Lf) : pc Tryz.prog (T77x0 N) (h58x0s4 N).h 0 100 58 73 sh58x0x73 L [7, 95, 94, 93, 5, 1, 117] [7, 1] = F58x0x73 N (li L 1) (ll L 12) (li L 15) (fun p => some (K58x0x73w0 L p)) := by kernel_rfl
def h58x0s5 : Sg Tryz.prog 0 58 :=
 (h58x0s4 N).cut (A58x0x73 N) progOk (T77x0_ok N) fun L x hx => (raw58x0x73 N L).trans ((bind58x0x73 N ..).trans (alt1 x hx))
def S58x0x60 (w0 : Int) (w2 : LD) (w3 : Int) (w11 : LD) (w4 : Int) (kr : Int → Option R) (k0 : Int → Option R) (k1 : Unit → Option R) : Option R :=
 bif (decide (w4 < w3)) then
  bif (inB w4 w2.length) then
   bnd (bif (decide (((w2.getD w4.toNat (.i 0)).cell 0).toI < 0)) then true else (decide (((w2.getD w4.toNat (.i 0)).cell 0).toI ≥ ((w2.getD w4.toNat (.i 0)).cell 1).toI))) fun y0 =>
   bnd (bif y0 then true else (decide (((w2.getD w4.toNat (.i 0)).cell 1).toI > w0))) fun y1 =>
   bif y1 then
    k0 9
   else
    bnd (G58x0x73 N w4 w11 ((w2.getD w4.toNat (.i 0)).cell 0).toI) fun y2 =>
    bif y2.isSome then
     bif (y2.getD default) then
      k0 10
     else
      bnd (G77x0 N ((w2.getD w4.toNat (.i 0)).cell 2).toS) fun y3 =>
      bif y3.isSome then
       bif (!(y3.getD default)) then
        k0 8
       else
        kr (IntKind.wrap .i64 (w4 + 1))
      else
       none
    else
     none
  else
   none
 else
  k1 ()
def L58x0x60 (N : Nat) {R : Type} (w0 : Int) (w2 : LD) (w3 : Int) (w11 : LD) : Nat → Int → (Int → Option R) → (Unit → Option R) → Option R
 | 0, _, _, _ => none
 | m + 1, w4, k0, k1 => S58x0x60 N w0 w2 w3 w11 w4 (fun w4 => L58x0x60 N w0 w2 w3 w11 m w4 k0 k1) k0 k1
def G58x0x60 (w0 : Int) (w2 : LD) (w3 : Int) (w11 : LD) (w4 : Int) : Option (Sum (Int) (Unit)) := L58x0x60 N (R := (Sum (Int) (Unit))) w0 w2 w3 w11 N w4 (fun p => some (.inl p)) (fun p => some (.inr p))
def J58x0x60 (L x : List Lf) (kr : List Lf → Option R) (k0 : Int → Option R) (k1 : Unit → Option R) : Option R := S58x0x60 N (li L 0) (ll L 2) (li L 3) (ll L 11) (li x 0) (fun w4 => kr [.i w4]) k0 k1
theorem sb58x0x60 (L x : List Lf) (kr : List Lf → Option R) (k0 : Int → Option R) (k1 : Unit → Option R) : J58x0x60 N L x kr k0 k1 = (J58x0x60 N L x (fun y => some (.inl y)) (fun p => some (.inr (.inl p))) (fun p => some (.inr (.inr p)))).bind (sumE kr (sumE k0 k1)) := by
 unfold J58x0x60 S58x0x60
 repeat' (first | with_reducible apply cond_b | (with_reducible apply bnd_b; intro _) | rfl)
def Q58x0x60 (L : List Lf) (m : Nat) (x : List Lf) : Option (Sum (Int) (Unit)) := L58x0x60 N (R := (Sum (Int) (Unit))) (li L 0) (ll L 2) (li L 3) (ll L 11) m (li x 0) (fun p => some (.inl p)) (fun p => some (.inr p))
def sh58x0x60 : Sh := { tmps := [(1, .c (.p 1 0)), (5, .c (.i .i64)), (93, .c (.sl 110)), (94, .c (.i .i64)), (95, .c (.i .i64))], mem := [(1, .box (.s :: [.i .i64, .i .i64, .sl 47, .sl 110, .sl 9]))] }
def K58x0x60w0 (L : List Lf) (p : Int) : Ex × St := (.ret, mg (ofSh sh58x0x60 L) [2] [(2, .c (.i .i64 p))] [1] [])
def A58x0x60 (L : List Lf) : List (Bool × (Ex × St)) := bnd (Q58x0x60 N L N (pk sh58x0x60 [4] L)) fun q => [((inlB q), K58x0x60w0 L (inlV q)), ((inrQ q).isSome, ((.exit 4), mg (ofSh sh58x0x60 L) [1] [] [1] []))]
theorem step58x0x60 (m : Nat) (kn : St → Option (Ex × St)) (L x : List Lf) : lpB Tryz.prog (T77x0 N) (h58x0s5 N).h 0 58 60 sh58x0x60 [4] [2, 1] [1] (m + 100) kn L x = J58x0x60 N L x (fun y => kn (ofSh sh58x0x60 (mx sh58x0x60 [4] L y))) (fun p => some (K58x0x60w0 L p)) (fun _ => some ((.exit 4), mg (ofSh sh58x0x60 L) [1] [] [1] [])) := by kernel_rfl
theorem ql58x0x60 (L : List Lf) (m : Nat) (x : List Lf) : Q58x0x60 N L (m + 1) x = J58x0x60 N L x (Q58x0x60 N L m) (fun p => some (.inl p)) (fun p => some (.inr p)) := by kernel_rfl
def h58x0s6 : Sg Tryz.prog 0 58 :=
 (h58x0s5 N).lp (A58x0x60 N) N progOk (T77x0_ok N) (fun m kn L x => (step58x0x60 N m kn L x).trans (sb58x0x60 N L x _ _ _)) (fun L m x => (ql58x0x60 N L m x).trans (sb58x0x60 N L x (Q58x0x60 N L m) (fun p => some (.inl p)) (fun p => some (.inr p)))) fun L x hx => (altS alt1) x hx
def S58x0x90 (w1 : LD) (w2 : Int) (w12 : LD) (w3 : Int) (kr : Int → Option R) (k0 : Int → Option R) (k1 : Unit → Option R) : Option R :=
 bif (decide (w3 < w2)) then
  bif (inB w3 w1.length) then
   bnd (G53x0 N (w1.getD w3.toNat (.i 0)).toS) fun y0 =>
   bif y0.isSome then
    bif (!(y0.getD default)) then
     k0 8
    else
     bif (bif (inB (IntKind.wrap .i64 (w3 - 1)) w12.length) then true else (!((decide (w3 > 0)) == true))) then
      bnd (bif (decide (w3 > 0)) then ((Op.bytesLess (w1.getD w3.toNat (.i 0)).toS (w12.getD (IntKind.wrap .i64 (w3 - 1)).toNat (.i 0)).toS) || ((w1.getD w3.toNat (.i 0)).toS == (w12.getD (IntKind.wrap .i64 (w3 - 1)).toNat (.i 0)).toS)) else false) fun y1 =>
      bif y1 then
       k0 10
      else
       kr (IntKind.wrap .i64 (w3 + 1))
     else
      none
   else
    none
  else
   none
 else
  k1 ()
def L58x0x90 (N : Nat) {R : Type} (w1 : LD) (w2 : Int) (w12 : LD) : Nat → Int → (Int → Option R) → (Unit → Option R) → Option R
 | 0, _, _, _ => none
 | m + 1, w3, k0, k1 => S58x0x90 N w1 w2 w12 w3 (fun w3 => L58x0x90 N w1 w2 w12 m w3 k0 k1) k0 k1
def G58x0x90 (w1 : LD) (w2 : Int) (w12 : LD) (w3 : Int) : Option (Sum (Int) (Unit)) := L58x0x90 N (R := (Sum (Int) (Unit))) w1 w2 w12 N w3 (fun p => some (.inl p)) (fun p => some (.inr p))
def J58x0x90 (L x : List Lf) (kr : List Lf → Option R) (k0 : Int → Option R) (k1 : Unit → Option R) : Option R := S58x0x90 N (ll L 1) (li L 2) (ll L 12) (li x 0) (fun w3 => kr [.i w3]) k0 k1
theorem sb58x0x90 (L x : List Lf) (kr : List Lf → Option R) (k0 : Int → Option R) (k1 : Unit → Option R) : J58x0x90 N L x kr k0 k1 = (J58x0x90 N L x (fun y => some (.inl y)) (fun p => some (.inr (.inl p))) (fun p => some (.inr (.inr p)))).bind (sumE kr (sumE k0 k1)) := by
 unfold J58x0x90 S58x0x90
 repeat' (first | with_reducible apply cond_b | (with_reducible apply bnd_b; intro _) | rfl)
def Q58x0x90 (L : List Lf) (m : Nat) (x : List Lf) : Option (Sum (Int) (Unit)) := L58x0x90 N (R := (Sum (Int) (Unit))) (ll L 1) (li L 2) (ll L 12) m (li x 0) (fun p => some (.inl p)) (fun p => some (.inr p))
def sh58x0x90 : Sh := { tmps := [(1, .c (.p 1 0)), (139, .c (.sl 9)), (140, .c (.i .i64)), (141, .c (.i .i64))], mem := [(1, .box (.s :: [.i .i64, .i .i64, .sl 47, .sl 110, .sl 9]))] }
def A58x0x90 (L : List Lf) : List (Bool × (Ex × St)) := bnd (Q58x0x90 N L N (pk sh58x0x90 [3] L)) fun q => [((inlB q), (.ret, ⟨[(2, .c (.i .i64 (inlV q)))], []⟩)), ((inrQ q).isSome, ((.exit 7), ⟨[], []⟩))]
theorem step58x0x90 (m : Nat) (kn : St → Option (Ex × St)) (L x : List Lf) : lpB Tryz.prog (T77x0 N) (h58x0s6 N).h 0 58 90 sh58x0x90 [3] [2] [] (m + 100) kn L x = J58x0x90 N L x (fun y => kn (ofSh sh58x0x90 (mx sh58x0x90 [3] L y))) (fun p => some (.ret, ⟨[(2, .c (.i .i64 p))], []⟩)) (fun _ => some ((.exit 7), ⟨[], []⟩)) := by kernel_rfl
theorem ql58x0x90 (L : List Lf) (m : Nat) (x : List Lf) : Q58x0x90 N L (m + 1) x = J58x0x90 N L x (Q58x0x90 N L m) (fun p => some (.inl p)) (fun p => some (.inr p)) := by kernel_rfl
def h58x0s7 : Sg Tryz.prog 0 58 :=
 (h58x0s6 N).lp (A58x0x90 N) N progOk (T77x0_ok N) (fun m kn L x => (step58x0x90 N m kn L x).trans (sb58x0x90 N L x _ _ _)) (fun L m x => (ql58x0x90 N L m x).trans (sb58x0x90 N L x (Q58x0x90 N L m) (fun p => some (.inl p)) (fun p => some (.inr p)))) fun L x hx => (altS alt1) x hx
def F58x0 (v0 : LB) (v1 v2 : Int) (v4 v6 v8 : LD) (k0 : Int → Option R) : Option R :=
 bnd (G53x0 N v0) fun y0 =>
 bif y0.isSome then
  bif (!(y0.getD default)) then
   k0 8
  else
   bnd (V74x0 N v1 1 5) fun y1 =>
   bif (!y1) then
    k0 7
   else
    bnd (V74x0 N v2 0 86399999999) fun y2 =>
    bif (!y2) then
     k0 9
    else
     bnd (bif (decide ((v4.length : Int) > 20000)) then true else (decide ((v6.length : Int) > 200))) fun y3 =>
     bnd (bif y3 then true else (decide ((v8.length : Int) > 20))) fun y4 =>
     bif y4 then
      k0 3
     else
      bnd (G58x0x30 N v4 (v4.length : Int) v2 v4 0) fun y5 =>
      bif (inlB y5) then
       k0 (inlV y5)
      else
       bif (inrQ y5).isSome then
        bnd (G76x0 N v4) fun y6 =>
        bif y6.isSome then
         bnd (G58x0x60 N (y6.getD default) v6 (v6.length : Int) v6 0) fun y7 =>
         bif (inlB y7) then
          k0 (inlV y7)
         else
          bif (inrQ y7).isSome then
           bnd (G58x0x90 N v8 (v8.length : Int) v8 0) fun y8 =>
           bif (inlB y8) then
            k0 (inlV y8)
           else
            bif (inrQ y8).isSome then
             k0 0
            else
             none
          else
           none
        else
         none
       else
        none
 else
  none
def G58x0 (v0 : LB) (v1 v2 : Int) (v4 v6 v8 : LD) : Option (Int) := F58x0 N v0 v1 v2 v4 v6 v8 (fun p => some p)
theorem bind58x0 (v0 : LB) (v1 v2 : Int) (v4 v6 v8 : LD) (k0 : Int → Option R) : F58x0 N v0 v1 v2 v4 v6 v8 k0 = (G58x0 N v0 v1 v2 v4 v6 v8).bind k0 := by
 unfold G58x0 F58x0
 repeat' (first | with_reducible apply cond_b | (with_reducible apply bnd_b; intro _) | rfl)
def J58x0 (L : List Lf) (k0 : Int → Option R) : Option R := F58x0 N (ls L 0) (li L 1) (li L 2) (ll L 4) (ll L 6) (ll L 8) k0
def sh58x0 : Sh := { tmps := [(0, .g (.s :: [.i .i64, .i .i64, .sl 47, .sl 110, .sl 9]))], mem := [] }
def A58x0 (L : List Lf) : List (Bool × Res) := bnd (J58x0 N L (fun p => some p)) fun q => [(q.isSome, ([.c (.i .i64 (q.getD default))], []))]
theorem raw58x0 (L : List Lf) : bd Tryz.prog (T77x0 N) (h58x0s7 N).h 58 sh58x0 L = J58x0 N L (fun p => some ([.c (.i .i64 p)], [])) := by kernel_rfl
theorem ok58x0 : FnOk Tryz.prog 58 sh58x0 (A58x0 N) :=
 (h58x0s7 N).fn progOk (T77x0_ok N) fun L x hx => ((raw58x0 N L).trans ((bind58x0 N ..).trans (alt1 x hx)))
def T58x0 : Oracle := ext 58 (spSh sh58x0 (A58x0 N)) (T77x0 N)
theorem T58x0_ok : OracleOk Tryz.prog (T58x0 N) := FnOk.to (ok58x0 N) (T77x0_ok N)
def rg41x0 : List (Nat × List Nat) := [(0, [0, 1, 2]), (1, [3, 1, 2]), (2, [7, 1, 2]), (3, [7]), (4, [1, 2]), (5, []), (6, [2]), (7, [21, 20, 19]), (8, [19, 21, 20]), (9, [9, 21, 20, 19]), (10, [10, 21, 20, 19]), (11, [10]), (12, [21, 20, 19]), (13, [])]
def hd41x0 : Hints := [(21, [19, 20, 21], [], [])]
def h41x0s0 (N : Nat) : Sg Tryz.prog 0 41 := .start hd41x0 rg41x0
def S41x0x21 (w1 : LD) (w2 : Int) (w3 : Int) (kr : Int → Option R) (k0 : Int → Option R) (k1 : Unit → Option R) : Option R :=
 bif (decide (w3 < w2)) then
  bif (inB w3 w1.length) then
   bnd (G58x0 N ((w1.getD w3.toNat (.i 0)).cell 0).toS ((w1.getD w3.toNat (.i 0)).cell 1).toI ((w1.getD w3.toNat (.i 0)).cell 2).toI ((w1.getD w3.toNat (.i 0)).cell 3).items ((w1.getD w3.toNat (.i 0)).cell 4).items ((w1.getD w3.toNat (.i 0)).cell 5).items) fun y0 =>
   bif y0.isSome then
    bif ((y0.getD default) != 0) then
     k0 (y0.getD default)
    else
     kr (IntKind.wrap .i64 (w3 + 1))
   else
    none
  else
   none
 else
  k1 ()
def L41x0x21 (N : Nat) {R : Type} (w1 : LD) (w2 : Int) : Nat → Int → (Int → Option R) → (Unit → Option R) → Option R
 | 0, _, _, _ => none
 | m + 1, w3, k0, k1 => S41x0x21 N w1 w2 w3 (fun w3 => L41x0x21 N w1 w2 m w3 k0 k1) k0 k1
def G41x0x21 (w1 : LD) (w2 : Int) (w3 : Int) : Option (Sum (Int) (Unit)) := L41x0x21 N (R := (Sum (Int) (Unit))) w1 w2 N w3 (fun p => some (.inl p)) (fun p => some (.inr p))
def J41x0x21 (L x : List Lf) (kr : List Lf → Option R) (k0 : Int → Option R) (k1 : Unit → Option R) : Option R := S41x0x21 N (ll L 1) (li L 2) (li x 0) (fun w3 => kr [.i w3]) k0 k1
theorem sb41x0x21 (L x : List Lf) (kr : List Lf → Option R) (k0 : Int → Option R) (k1 : Unit → Option R) : J41x0x21 N L x kr k0 k1 = (J41x0x21 N L x (fun y => some (.inl y)) (fun p => some (.inr (.inl p))) (fun p => some (.inr (.inr p)))).bind (sumE kr (sumE k0 k1)) := by
 unfold J41x0x21 S41x0x21
 repeat' (first | with_reducible apply cond_b | (with_reducible apply bnd_b; intro _) | rfl)
def Q41x0x21 (L : List Lf) (m : Nat) (x : List Lf) : Option (Sum (Int) (Unit)) := L41x0x21 N (R := (Sum (Int) (Unit))) (ll L 1) (li L 2) m (li x 0) (fun p => some (.inl p)) (fun p => some (.inr p))
def sh41x0x21 : Sh := { tmps := [(19, .c (.sl 51)), (20, .c (.i .i64)), (21, .c (.i .i64))], mem := [] }
def A41x0x21 (L : List Lf) : List (Bool × (Ex × St)) := bnd (Q41x0x21 N L N (pk sh41x0x21 [3] L)) fun q => [((inlB q), (.ret, ⟨[(6, .c (.i .i64 (inlV q)))], []⟩)), ((inrQ q).isSome, ((.exit 0), ⟨[], []⟩))]
theorem step41x0x21 (m : Nat) (kn : St → Option (Ex × St)) (L x : List Lf) : lpB Tryz.prog (T58x0 N) (h41x0s0 N).h 0 41 21 sh41x0x21 [3] [6] [] (m + 100) kn L x = J41x0x21 N L x (fun y => kn (ofSh sh41x0x21 (mx sh41x0x21 [3] L y))) (fun p => some (.ret, ⟨[(6, .c (.i .i64 p))], []⟩)) (fun _ => some ((.exit 0), ⟨[], []⟩)) := by kernel_rfl
theorem ql41x0x21 (L : List Lf) (m : Nat) (x : List Lf) : Q41x0x21 N L (m + 1) x = J41x0x21 N L x (Q41x0x21 N L m) (fun p => some (.inl p)) (fun p => some (.inr p)) := by kernel_rfl
def h41x0s1 : Sg Tryz.prog 0 41 :=
 (h41x0s0 N).lp (A41x0x21 N) N progOk (T58x0_ok N) (fun m kn L x => (step41x0x21 N m kn L x).trans (sb41x0x21 N L x _ _ _)) (fun L m x => (ql41x0x21 N L m x).trans (sb41x0x21 N L x (Q41x0x21 N L m) (fun p => some (.inl p)) (fun p => some (.inr p)))) fun L x hx => (altS alt1) x hx
def F41x0 (v1 : LD) (v2 : Int) (v4 : LD) (k0 : Int → Option R) : Option R :=
 bnd (G15x0 N v1) fun y0 =>
 bif y0.isSome then
  bif ((y0.getD default) != 0) then
   k0 (y0.getD default)
  else
   bnd (V52x0 N v2 0 3) fun y1 =>
   bif (!y1) then
    k0 9
   else
    bnd (G41x0x21 N v4 (v4.length : Int) 0) fun y2 =>
    bif (inlB y2) then
     k0 (inlV y2)
    else
     bif (inrQ y2).isSome then
      k0 0
     else
      none
 else
  none
def G41x0 (v1 : LD) (v2 : Int) (v4 : LD) : Option (Int) := F41x0 N v1 v2 v4 (fun p => some p)
theorem bind41x0 (v1 : LD) (v2 : Int) (v4 : LD) (k0 : Int → Option R) : F41x0 N v1 v2 v4 k0 = (G41x0 N v1 v2 v4).bind k0 := by
 unfold G41x0 F41x0
 repeat' (first | with_reducible apply cond_b | (with_reducible apply bnd_b; intro _) | rfl)
def sh41x0 : Sh := { tmps := [(0, .g ([.sl 40])), (1, .c (.i .i64)), (2, .c (.sl 51))], mem := [] }
def A41x0 (L : List Lf) : List (Bool × Res) := bnd (F41x0 N (ll L 1) (li L 2) (ll L 4) (fun p => some p)) fun q => [(q.isSome, ([.c (.i .i64 (q.getD default))], []))]
theorem raw41x0 (L : List Lf) : bd Tryz.prog (T58x0 N) (h41x0s1 N).h 41 sh41x0 L = F41x0 N (ll L 1) (li L 2) (ll L 4) (fun p => some ([.c (.i .i64 p)], [])) := by kernel_rfl
theorem ok41x0 : FnOk Tryz.prog 41 sh41x0 (A41x0 N) :=
 (h41x0s1 N).fn progOk (T58x0_ok N) fun L x hx => ((raw41x0 N L).trans ((bind41x0 N ..).trans (alt1 x hx)))
def T41x0 : Oracle := ext 41 (spSh sh41x0 (A41x0 N)) (T58x0 N)
theorem T41x0_ok : OracleOk Tryz.prog (T41x0 N) := FnOk.to (ok41x0 N) (T58x0_ok N)
def rg59x0 : List (Nat × List Nat) := [(0, [0, 1]), (1, [2, 1]), (2, [2, 1, 5]), (3, [11, 10, 9, 1, 5]), (4, [9, 11, 1, 5, 10]), (5, [7, 1, 5, 11, 10, 9]), (6, [5, 7, 11, 10, 9, 1]), (7, [11, 10, 9, 1, 5]), (8, [5])]
def hd59x0 : Hints := [(9, [1, 5, 9, 10, 11], [5], [5]), (20, [1, 5, 7, 9, 10, 11, 18], [5, 7], [])]
def h59x0s0 (N : Nat) : Sg Tryz.prog 0 59 := .start hd59x0 rg59x0
def F59x0x20 (N : Nat) (w5 : Bool) (w7 : LD) (w8 w9 w10 w11 w12 w13 w14 w15 : Int) (w16 : LB) (k0 : LD → Option R) (k1 : Unit → Option R) : Option R :=
 bif w5 then
  bif (decide ((w7.length + 1) * 80 ≤ room) && decide ((w7.length + 1) ≤ strMax)) then
   bnd ((w7 ++ [(.a [(.i w8), (.i w9), (.i w10), (.i w11), (.i w12), (.i w13), (.i w14), (.i w15), (.s w16)])]) : List D) fun y0 =>
   k0 y0
  else
   none
 else
  k1 ()
def G59x0x20 (w5 : Bool) (w7 : LD) (w8 w9 w10 w11 w12 w13 w14 w15 : Int) (w16 : LB) : Option (Sum (LD) (Unit)) := F59x0x20 N w5 w7 w8 w9 w10 w11 w12 w13 w14 w15 w16 (fun p => some (.inl p)) (fun p => some (.inr p))
theorem bind59x0x20 (w5 : Bool) (w7 : LD) (w8 w9 w10 w11 w12 w13 w14 w15 : Int) (w16 : LB) (k0 : LD → Option R) (k1 : Unit → Option R) : F59x0x20 N w5 w7 w8 w9 w10 w11 w12 w13 w14 w15 w16 k0 k1 = (G59x0x20 N w5 w7 w8 w9 w10 w11 w12 w13 w14 w15 w16).bind (sumE k0 k1) := by
 unfold G59x0x20 F59x0x20
 repeat' (first | with_reducible apply cond_b | (with_reducible apply bnd_b; intro _) | rfl)
def J59x0x20 (L : List Lf) (k0 : LD → Option R) (k1 : Unit → Option R) : Option R := F59x0x20 N (lb L 5) (ll L 7) (li L 8) (li L 9) (li L 10) (li L 11) (li L 12) (li L 13) (li L 14) (li L 15) (ls L 16) k0 k1
def sh59x0x20 : Sh := { tmps := [(1, .c (.i .i64)), (5, .c (.o 5)), (7, .c (.p 7 0)), (9, .c (.sl 40)), (10, .c (.i .i64)), (11, .c (.i .i64)), (18, .c (.b))], mem := [(5, .row 40 true), (7, .box (rI 8 ([.s])))] }
def K59x0x20w0 (L : List Lf) (p : LD) : Ex × St := (.normal, mg (ofSh sh59x0x20 L) [11, 10, 9, 1, 5] [(5, .c (.o 22))] [22] [(22, .row 40 true false p)])
def A59x0x20 (L : List Lf) : List (Bool × (Ex × St)) := bnd (J59x0x20 N L (fun p => some (.inl p)) (fun p => some (.inr p))) fun q => [((inlB q), K59x0x20w0 L (inlV q)), ((inrQ q).isSome, (.normal, mg (ofSh sh59x0x20 L) [11, 10, 9, 1, 5] [] [5] []))]
theorem raw59x0x20 (L : List Lf) : pc Tryz.prog (T41x0 N) (h59x0s0 N).h 0 100 59 20 sh59x0x20 L [11, 10, 9, 1, 5] [22, 5] = J59x0x20 N L (fun p => some (K59x0x20w0 L p)) (fun _ => some (.normal, mg (ofSh sh59x0x20 L) [11, 10, 9, 1, 5] [] [5] [])) := by kernel_rfl
def h59x0s1 : Sg Tryz.prog 0 59 :=
 (h59x0s0 N).cut (A59x0x20 N) progOk (T41x0_ok N) fun L x hx => (raw59x0x20 N L).trans ((bind59x0x20 N ..).trans ((altS alt1) x hx))
def S59x0x9 (w0 : Int) (w2 : LD) (w3 : Int) (w4 : Int) (w5 : Bool) (w6 : LD) (kr : Int → Bool → LD → Option R) (k0 : Bool × LD → Option R) : Option R :=
 bif (decide (w4 < w3)) then
  bif (inB w4 w2.length) then
   bnd (G59x0x20 N (decide (((w2.getD w4.toNat (.i 0)).cell 0).toI ≤ w0)) w6 ((w2.getD w4.toNat (.i 0)).cell 0).toI ((w2.getD w4.toNat (.i 0)).cell 1).toI ((w2.getD w4.toNat (.i 0)).cell 2).toI ((w2.getD w4.toNat (.i 0)).cell 3).toI ((w2.getD w4.toNat (.i 0)).cell 4).toI ((w2.getD w4.toNat (.i 0)).cell 5).toI ((w2.getD w4.toNat (.i 0)).cell 6).toI ((w2.getD w4.toNat (.i 0)).cell 7).toI ((w2.getD w4.toNat (.i 0)).cell 8).toS) fun y0 =>
   bif (inlB y0) then
    kr (IntKind.wrap .i64 (w4 + 1)) false (inlV y0)
   else
    bif (inrQ y0).isSome then
     kr (IntKind.wrap .i64 (w4 + 1)) w5 w6
    else
     none
  else
   none
 else
  k0 (w5, w6)
def L59x0x9 (N : Nat) {R : Type} (w0 : Int) (w2 : LD) (w3 : Int) : Nat → Int → Bool → LD → (Bool × LD → Option R) → Option R
 | 0, _, _, _, _ => none
 | m + 1, w4, w5, w6, k0 => S59x0x9 N w0 w2 w3 w4 w5 w6 (fun w4 w5 w6 => L59x0x9 N w0 w2 w3 m w4 w5 w6 k0) k0
def G59x0x9 (w0 : Int) (w2 : LD) (w3 : Int) (w4 : Int) (w5 : Bool) (w6 : LD) : Option (Bool × LD) := L59x0x9 N (R := (Bool × LD)) w0 w2 w3 N w4 w5 w6 (fun p => some p)
def J59x0x9 (L x : List Lf) (kr : List Lf → Option R) (k0 : Bool × LD → Option R) : Option R := S59x0x9 N (li L 0) (ll L 2) (li L 3) (li x 0) (lb x 1) (ll x 2) (fun w4 w5 w6 => kr [.i w4, .b w5, .l w6]) k0
theorem sb59x0x9 (L x : List Lf) (kr : List Lf → Option R) (k0 : Bool × LD → Option R) : J59x0x9 N L x kr k0 = (J59x0x9 N L x (fun y => some (.inl y)) (fun p => some (.inr p))).bind (sumE kr k0) := by
 unfold J59x0x9 S59x0x9
 repeat' (first | with_reducible apply cond_b | (with_reducible apply bnd_b; intro _) | rfl)
def Q59x0x9 (L : List Lf) (m : Nat) (x : List Lf) : Option (Bool × LD) := L59x0x9 N (R := (Bool × LD)) (li L 0) (ll L 2) (li L 3) m (li x 0) (lb x 1) (ll x 2) (fun p => some p)
def sh59x0x9 : Sh := { tmps := [(1, .c (.i .i64)), (5, .c (.o 5)), (9, .c (.sl 40)), (10, .c (.i .i64)), (11, .c (.i .i64))], mem := [(5, .row 40 true)] }
def A59x0x9 (L : List Lf) : List (Bool × (Ex × St)) := bnd (Q59x0x9 N L N (pk sh59x0x9 [4, 5, 6] L)) fun q => [(q.isSome, ((.exit 0), ⟨[(5, .c (.o 5))], [(5, .row 40 true (q.getD default).1 (q.getD default).2)]⟩))]
theorem step59x0x9 (m : Nat) (kn : St → Option (Ex × St)) (L x : List Lf) : lpB Tryz.prog (T41x0 N) (h59x0s1 N).h 0 59 9 sh59x0x9 [4, 5, 6] [4, 5] [5] (m + 100) kn L x = J59x0x9 N L x (fun y => kn (ofSh sh59x0x9 (mx sh59x0x9 [4, 5, 6] L y))) (fun p => some ((.exit 0), ⟨[(5, .c (.o 5))], [(5, .row 40 true p.1 p.2)]⟩)) := by kernel_rfl
theorem ql59x0x9 (L : List Lf) (m : Nat) (x : List Lf) : Q59x0x9 N L (m + 1) x = J59x0x9 N L x (Q59x0x9 N L m) some := by kernel_rfl
def h59x0s2 : Sg Tryz.prog 0 59 :=
 (h59x0s1 N).lp (A59x0x9 N) N progOk (T41x0_ok N) (fun m kn L x => (step59x0x9 N m kn L x).trans (sb59x0x9 N L x _ _)) (fun L m x => (ql59x0x9 N L m x).trans (sb59x0x9 N L x (Q59x0x9 N L m) some)) fun L x hx => alt1 x hx
def F59x0 (v1 : LD) (v2 : Int) (k0 : Bool × LD → Option R) : Option R :=
 bnd (G59x0x9 N v2 v1 (v1.length : Int) 0 true []) fun y0 =>
 bif y0.isSome then
  k0 (y0.getD default)
 else
  none
def G59x0 (v1 : LD) (v2 : Int) : Option (Bool × LD) := F59x0 N v1 v2 (fun p => some p)
theorem bind59x0 (v1 : LD) (v2 : Int) (k0 : Bool × LD → Option R) : F59x0 N v1 v2 k0 = (G59x0 N v1 v2).bind k0 := by
 unfold G59x0 F59x0
 repeat' (first | with_reducible apply cond_b | (with_reducible apply bnd_b; intro _) | rfl)
def sh59x0 : Sh := { tmps := [(0, .g ([.sl 40])), (1, .c (.i .i64))], mem := [] }
def A59x0 (L : List Lf) : List (Bool × Res) := bnd (F59x0 N (ll L 1) (li L 2) (fun p => some p)) fun q => [(q.isSome, ([.c (.sl 40 (q.getD default).1 (q.getD default).2)], []))]
theorem raw59x0 (L : List Lf) : bd Tryz.prog (T41x0 N) (h59x0s2 N).h 59 sh59x0 L = F59x0 N (ll L 1) (li L 2) (fun p => some ([.c (.sl 40 p.1 p.2)], [])) := by kernel_rfl
theorem ok59x0 : FnOk Tryz.prog 59 sh59x0 (A59x0 N) :=
 (h59x0s2 N).fn progOk (T41x0_ok N) fun L x hx => ((raw59x0 N L).trans ((bind59x0 N ..).trans (alt1 x hx)))
def T59x0 : Oracle := ext 59 (spSh sh59x0 (A59x0 N)) (T41x0 N)
theorem T59x0_ok : OracleOk Tryz.prog (T59x0 N) := FnOk.to (ok59x0 N) (T41x0_ok N)
def rg60x0 : List (Nat × List Nat) := [(0, [0, 1]), (1, [2, 3])]
def hd60x0 : Hints := []
def h60x0s0 (N : Nat) : Sg Tryz.prog 0 60 := .start hd60x0 rg60x0
def F60x0 (N : Nat) (k0 : Unit → R) : R :=
 k0 ()
def V60x0 : Unit := F60x0 N (fun p => p)
theorem tot60x0 (k0 : Unit → R) : F60x0 N k0 = k0 (V60x0 N) := by
 unfold V60x0 F60x0
 repeat' (first | rfl | apply cond_k | (apply bnd_k; intro _))
def sh60x0 : Sh := { tmps := [(0, .c (.sl 40)), (1, .g (.s :: [.i .i64, .i .i64, .sl 47, .sl 110, .sl 9]))], mem := [] }
def K60x0w0 (L : List Lf) (_ : Unit) : Res := ([.c (.f 78 [(2, 0), (3, 0)])], [(2, .box [.sl 40 (lb L 0) (ll L 1)]), (3, .box [.s (ls L 2), .i .i64 (li L 3), .i .i64 (li L 4), .sl 47 (lb L 5) (ll L 6), .sl 110 (lb L 7) (ll L 8), .sl 9 (lb L 9) (ll L 10)])])
def A60x0 (N : Nat) (L : List Lf) : List (Bool × Res) := [(true, K60x0w0 L ())]
theorem raw60x0 (L : List Lf) : bd Tryz.prog (T59x0 N) (h60x0s0 N).h 60 sh60x0 L = F60x0 N (fun _ => some (K60x0w0 L ())) := by kernel_rfl
theorem ok60x0 : FnOk Tryz.prog 60 sh60x0 (A60x0 N) :=
 (h60x0s0 N).fn progOk (T59x0_ok N) fun L x hx => ((raw60x0 N L).trans ((tot60x0 N ..).trans (alt0 _ _ hx)))
def T60x0 : Oracle := ext 60 (spSh sh60x0 (A60x0 N)) (T59x0 N)
theorem T60x0_ok : OracleOk Tryz.prog (T60x0 N) := FnOk.to (ok60x0 N) (T59x0_ok N)
def rg99x0 : List (Nat × List Nat) := [(0, [0, 1]), (1, [3, 2])]
def hd99x0 : Hints := []
def h99x0s0 (N : Nat) : Sg Tryz.prog 0 99 := .start hd99x0 rg99x0
def F99x0 (N : Nat) (v7 v10 : Int) (k0 : Bool → R) : R :=
 k0 (v10 == v7)
def V99x0 (v7 v10 : Int) : Bool := F99x0 N v7 v10 (fun p => p)
theorem tot99x0 (v7 v10 : Int) (k0 : Bool → R) : F99x0 N v7 v10 k0 = k0 (V99x0 N v7 v10) := by
 unfold V99x0 F99x0
 repeat' (first | rfl | apply cond_k | (apply bnd_k; intro _))
def sh99x0 : Sh := { tmps := [(0, .g (rI 8 ([.s]))), (1, .g (.s :: [.i .i64, .i .i64, .sl 47, .sl 110, .sl 9]))], mem := [] }
def A99x0 (L : List Lf) : List (Bool × Res) := bnd (F99x0 N (li L 7) (li L 10) (fun p => p)) fun q => [(true, ([.c (.b q)], []))]
theorem raw99x0 (L : List Lf) : bd Tryz.prog (T60x0 N) (h99x0s0 N).h 99 sh99x0 L = F99x0 N (li L 7) (li L 10) (fun p => some ([.c (.b p)], [])) := by kernel_rfl
theorem ok99x0 : FnOk Tryz.prog 99 sh99x0 (A99x0 N) :=
 (h99x0s0 N).fn progOk (T60x0_ok N) fun L x hx => ((raw99x0 N L).trans ((tot99x0 N ..).trans (alt0 _ _ hx)))
def T99x0 : Oracle := ext 99 (spSh sh99x0 (A99x0 N)) (T60x0 N)
theorem T99x0_ok : OracleOk Tryz.prog (T99x0 N) := FnOk.to (ok99x0 N) (T60x0_ok N)
def rg34x0 : List (Nat × List Nat) := [(0, [0, 1]), (1, [0, 1]), (2, [8, 7, 1, 0]), (3, [8, 1, 0, 7]), (4, [1, 0, 5, 8, 7]), (5, [5]), (6, [8, 7, 1, 0]), (7, [])]
def hd34x0 : Hints := [(6, [0, 1, 7, 8], [], [])]
def h34x0s0 (N : Nat) : Sg Tryz.prog 0 34 := .start hd34x0 rg34x0
def S34x0x6 (N : Nat) (w1 : LD) (w2 : LB) (w3 : Int) (w4 : Int) (kr : Int → Option R) (k0 : Int → Option R) (k1 : Unit → Option R) : Option R :=
 bif (decide (w4 < w3)) then
  bif (inB w4 w1.length) then
   bif (w2 == (w1.getD w4.toNat (.i 0)).toS) then
    k0 w4
   else
    kr (IntKind.wrap .i64 (w4 + 1))
  else
   none
 else
  k1 ()
def L34x0x6 (N : Nat) {R : Type} (w1 : LD) (w2 : LB) (w3 : Int) : Nat → Int → (Int → Option R) → (Unit → Option R) → Option R
 | 0, _, _, _ => none
 | m + 1, w4, k0, k1 => S34x0x6 N w1 w2 w3 w4 (fun w4 => L34x0x6 N w1 w2 w3 m w4 k0 k1) k0 k1
def G34x0x6 (w1 : LD) (w2 : LB) (w3 : Int) (w4 : Int) : Option (Sum (Int) (Unit)) := L34x0x6 N (R := (Sum (Int) (Unit))) w1 w2 w3 N w4 (fun p => some (.inl p)) (fun p => some (.inr p))
def J34x0x6 (L x : List Lf) (kr : List Lf → Option R) (k0 : Int → Option R) (k1 : Unit → Option R) : Option R := S34x0x6 N (ll L 1) (ls L 2) (li L 3) (li x 0) (fun w4 => kr [.i w4]) k0 k1
theorem sb34x0x6 (L x : List Lf) (kr : List Lf → Option R) (k0 : Int → Option R) (k1 : Unit → Option R) : J34x0x6 N L x kr k0 k1 = (J34x0x6 N L x (fun y => some (.inl y)) (fun p => some (.inr (.inl p))) (fun p => some (.inr (.inr p)))).bind (sumE kr (sumE k0 k1)) := by
 unfold J34x0x6 S34x0x6
 repeat' (first | with_reducible apply cond_b | (with_reducible apply bnd_b; intro _) | rfl)
def Q34x0x6 (L : List Lf) (m : Nat) (x : List Lf) : Option (Sum (Int) (Unit)) := L34x0x6 N (R := (Sum (Int) (Unit))) (ll L 1) (ls L 2) (li L 3) m (li x 0) (fun p => some (.inl p)) (fun p => some (.inr p))
def sh34x0x6 : Sh := { tmps := [(0, .c (.sl 9)), (1, .c (.s)), (7, .c (.i .i64)), (8, .c (.i .i64))], mem := [] }
def A34x0x6 (L : List Lf) : List (Bool × (Ex × St)) := bnd (Q34x0x6 N L N (pk sh34x0x6 [4] L)) fun q => [((inlB q), (.ret, ⟨[(4, .c (.i .i64 (inlV q)))], []⟩)), ((inrQ q).isSome, ((.exit 0), ⟨[], []⟩))]
theorem step34x0x6 (m : Nat) (kn : St → Option (Ex × St)) (L x : List Lf) : lpB Tryz.prog (T99x0 N) (h34x0s0 N).h 0 34 6 sh34x0x6 [4] [4] [] (m + 100) kn L x = J34x0x6 N L x (fun y => kn (ofSh sh34x0x6 (mx sh34x0x6 [4] L y))) (fun p => some (.ret, ⟨[(4, .c (.i .i64 p))], []⟩)) (fun _ => some ((.exit 0), ⟨[], []⟩)) := by kernel_rfl
theorem ql34x0x6 (L : List Lf) (m : Nat) (x : List Lf) : Q34x0x6 N L (m + 1) x = J34x0x6 N L x (Q34x0x6 N L m) (fun p => some (.inl p)) (fun p => some (.inr p)) := by kernel_rfl
def h34x0s1 : Sg Tryz.prog 0 34 :=
 (h34x0s0 N).lp (A34x0x6 N) N progOk (T99x0_ok N) (fun m kn L x => (step34x0x6 N m kn L x).trans (sb34x0x6 N L x _ _ _)) (fun L m x => (ql34x0x6 N L m x).trans (sb34x0x6 N L x (Q34x0x6 N L m) (fun p => some (.inl p)) (fun p => some (.inr p)))) fun L x hx => (altS alt1) x hx
def F34x0 (v1 : LD) (v2 : LB) (k0 : Int → Option R) : Option R :=
 bnd (G34x0x6 N v1 v2 (v1.length : Int) 0) fun y0 =>
 bif (inlB y0) then
  k0 (inlV y0)
 else
  bif (inrQ y0).isSome then
   k0 (-1)
  else
   none
def G34x0 (v1 : LD) (v2 : LB) : Option (Int) := F34x0 N v1 v2 (fun p => some p)
theorem bind34x0 (v1 : LD) (v2 : LB) (k0 : Int → Option R) : F34x0 N v1 v2 k0 = (G34x0 N v1 v2).bind k0 := by
 unfold G34x0 F34x0
 repeat' (first | with_reducible apply cond_b | (with_reducible apply bnd_b; intro _) | rfl)
def sh34x0 : Sh := { tmps := [(0, .c (.sl 9)), (1, .c (.s))], mem := [] }
def A34x0 (L : List Lf) : List (Bool × Res) := bnd (F34x0 N (ll L 1) (ls L 2) (fun p => some p)) fun q => [(q.isSome, ([.c (.i .i64 (q.getD default))], []))]
theorem raw34x0 (L : List Lf) : bd Tryz.prog (T99x0 N) (h34x0s1 N).h 34 sh34x0 L = F34x0 N (ll L 1) (ls L 2) (fun p => some ([.c (.i .i64 p)], [])) := by kernel_rfl
theorem ok34x0 : FnOk Tryz.prog 34 sh34x0 (A34x0 N) :=
 (h34x0s1 N).fn progOk (T99x0_ok N) fun L x hx => ((raw34x0 N L).trans ((bind34x0 N ..).trans (alt1 x hx)))
def T34x0 : Oracle := ext 34 (spSh sh34x0 (A34x0 N)) (T99x0 N)
theorem T34x0_ok : OracleOk Tryz.prog (T34x0 N) := FnOk.to (ok34x0 N) (T99x0_ok N)
def rg119x0 : List (Nat × List Nat) := [(0, [0, 1]), (1, [0, 1])]
def hd119x0 : Hints := []
def h119x0s0 (N : Nat) : Sg Tryz.prog 0 119 := .start hd119x0 rg119x0
def F119x0 (v1 : LD) (v2 : LB) (k0 : Bool → Option R) : Option R :=
 bnd (G34x0 N v1 v2) fun y0 =>
 bif y0.isSome then
  k0 (decide ((y0.getD default) ≥ 0))
 else
  none
def G119x0 (v1 : LD) (v2 : LB) : Option (Bool) := F119x0 N v1 v2 (fun p => some p)
theorem bind119x0 (v1 : LD) (v2 : LB) (k0 : Bool → Option R) : F119x0 N v1 v2 k0 = (G119x0 N v1 v2).bind k0 := by
 unfold G119x0 F119x0
 repeat' (first | with_reducible apply cond_b | (with_reducible apply bnd_b; intro _) | rfl)
def sh119x0 : Sh := { tmps := [(0, .c (.sl 9)), (1, .c (.s))], mem := [] }
def A119x0 (L : List Lf) : List (Bool × Res) := bnd (F119x0 N (ll L 1) (ls L 2) (fun p => some p)) fun q => [(q.isSome, ([.c (.b (q.getD default))], []))]
theorem raw119x0 (L : List Lf) : bd Tryz.prog (T34x0 N) (h119x0s0 N).h 119 sh119x0 L = F119x0 N (ll L 1) (ls L 2) (fun p => some ([.c (.b p)], [])) := by kernel_rfl
theorem ok119x0 : FnOk Tryz.prog 119 sh119x0 (A119x0 N) :=
 (h119x0s0 N).fn progOk (T34x0_ok N) fun L x hx => ((raw119x0 N L).trans ((bind119x0 N ..).trans (alt1 x hx)))
def T119x0 : Oracle := ext 119 (spSh sh119x0 (A119x0 N)) (T34x0 N)
theorem T119x0_ok : OracleOk Tryz.prog (T119x0 N) := FnOk.to (ok119x0 N) (T34x0_ok N)
def rg100x0 : List (Nat × List Nat) := [(0, [0, 1]), (1, [3, 2])]
def hd100x0 : Hints := []
def h100x0s0 (N : Nat) : Sg Tryz.prog 0 100 := .start hd100x0 rg100x0
def F100x0 (v8 : LB) (v17 : LD) (k0 : Bool → Option R) : Option R :=
 bnd (G119x0 N v17 v8) fun y0 =>
 bif y0.isSome then
  k0 (y0.getD default)
 else
  none
def G100x0 (v8 : LB) (v17 : LD) : Option (Bool) := F100x0 N v8 v17 (fun p => some p)
theorem bind100x0 (v8 : LB) (v17 : LD) (k0 : Bool → Option R) : F100x0 N v8 v17 k0 = (G100x0 N v8 v17).bind k0 := by
 unfold G100x0 F100x0
 repeat' (first | with_reducible apply cond_b | (with_reducible apply bnd_b; intro _) | rfl)
def sh100x0 : Sh := { tmps := [(0, .g (rI 8 ([.s]))), (1, .g (.s :: [.i .i64, .i .i64, .sl 47, .sl 110, .sl 9]))], mem := [] }
def A100x0 (L : List Lf) : List (Bool × Res) := bnd (F100x0 N (ls L 8) (ll L 17) (fun p => some p)) fun q => [(q.isSome, ([.c (.b (q.getD default))], []))]
theorem raw100x0 (L : List Lf) : bd Tryz.prog (T119x0 N) (h100x0s0 N).h 100 sh100x0 L = F100x0 N (ls L 8) (ll L 17) (fun p => some ([.c (.b p)], [])) := by kernel_rfl
theorem ok100x0 : FnOk Tryz.prog 100 sh100x0 (A100x0 N) :=
 (h100x0s0 N).fn progOk (T119x0_ok N) fun L x hx => ((raw100x0 N L).trans ((bind100x0 N ..).trans (alt1 x hx)))
def T100x0 : Oracle := ext 100 (spSh sh100x0 (A100x0 N)) (T119x0 N)
theorem T100x0_ok : OracleOk Tryz.prog (T100x0 N) := FnOk.to (ok100x0 N) (T119x0_ok N)
def rg104x0 : List (Nat × List Nat) := [(0, [0, 1, 2]), (1, [1, 3, 2]), (2, [6, 5, 3, 2])]
def hd104x0 : Hints := [(4, [1, 2, 3], [0, 1, 2, 6], [])]
def h104x0s0 (N : Nat) : Sg Tryz.prog 3 104 := .start hd104x0 rg104x0
def F104x0x4 (N : Nat) (w11 : Int) (k0 : Unit → Option R) (k1 : Unit → Option R) (k2 : Unit → Option R) : Option R :=
 bif (w11 == 5) then
  k0 ()
 else
  bif (w11 == 4) then
   k1 ()
  else
   k2 ()
def G104x0x4 (w11 : Int) : Option (Sum (Unit) (Sum (Unit) (Unit))) := F104x0x4 N w11 (fun p => some (.inl p)) (fun p => some (.inr (.inl p))) (fun p => some (.inr (.inr p)))
theorem bind104x0x4 (w11 : Int) (k0 : Unit → Option R) (k1 : Unit → Option R) (k2 : Unit → Option R) : F104x0x4 N w11 k0 k1 k2 = (G104x0x4 N w11).bind (sumE k0 (sumE k1 k2)) := by
 unfold G104x0x4 F104x0x4
 repeat' (first | with_reducible apply cond_b | (with_reducible apply bnd_b; intro _) | rfl)
def sh104x0x4 : Sh := { tmps := [(1, .c (.p 0 0)), (2, .c (.p 1 0)), (3, .c (.p 6 0))], mem := [(0, .box ([.m 2])), (1, .box (.s :: [.i .i64, .i .i64, .sl 47, .sl 110, .sl 9])), (2, .kmap 3 136 [(5, 99), (4, 100)]), (6, .box (rI 8 ([.s])))] }
def K104x0x4w0 (L : List Lf) (_ : Unit) : Ex × St := (.normal, mg (ofSh sh104x0x4 L) [6, 5, 3, 2] [(6, .c (.b true)), (5, .c (.f 99 []))] [2, 0, 6, 1] [])
def K104x0x4w1 (L : List Lf) (_ : Unit) : Ex × St := (.normal, mg (ofSh sh104x0x4 L) [6, 5, 3, 2] [(6, .c (.b true)), (5, .c (.f 100 []))] [2, 0, 6, 1] [])
def K104x0x4w2 (L : List Lf) (_ : Unit) : Ex × St := (.normal, mg (ofSh sh104x0x4 L) [6, 5, 3, 2] [(6, .c (.b false)), (5, .c (.v .nilFunc))] [2, 0, 6, 1] [])
def A104x0x4 (L : List Lf) : List (Bool × (Ex × St)) := bnd (F104x0x4 N (li L 11) (fun p => some (.inl p)) (fun p => some (.inr (.inl p))) (fun p => some (.inr (.inr p)))) fun q => [((inlB q), K104x0x4w0 L ()), ((inlB (inrQ q)), K104x0x4w1 L ()), ((inrQ (inrQ q)).isSome, K104x0x4w2 L ())]
theorem raw104x0x4 (L : List Lf) : pc Tryz.prog (T100x0 N) (h104x0s0 N).h 3 100 104 4 sh104x0x4 L [6, 5, 3, 2] [2, 0, 6, 1] = F104x0x4 N (li L 11) (fun _ => some (K104x0x4w0 L ())) (fun _ => some (K104x0x4w1 L ())) (fun _ => some (K104x0x4w2 L ())) := by kernel_rfl
def h104x0s1 : Sg Tryz.prog 3 104 :=
 (h104x0s0 N).cut (A104x0x4 N) progOk (T100x0_ok N) fun L x hx => (raw104x0x4 N L).trans ((bind104x0x4 N ..).trans ((altS (altS alt1)) x hx))
def F104x0 (v1 v7 : Int) (v8 : LB) (v10 : Int) (v17 : LD) (k0 : Bool → Option R) : Option R :=
 bnd (G104x0x4 N v1) fun y0 =>
 bif (inlB y0) then
  bnd (V99x0 N v7 v10) fun y1 =>
  k0 y1
 else
  bif (inlB (inrQ y0)) then
   bnd (G100x0 N v8 v17) fun y2 =>
   bif y2.isSome then
    k0 (y2.getD default)
   else
    none
  else
   bif (inrQ (inrQ y0)).isSome then
    k0 false
   else
    none
def G104x0 (v1 v7 : Int) (v8 : LB) (v10 : Int) (v17 : LD) : Option (Bool) := F104x0 N v1 v7 v8 v10 v17 (fun p => some p)
theorem bind104x0 (v1 v7 : Int) (v8 : LB) (v10 : Int) (v17 : LD) (k0 : Bool → Option R) : F104x0 N v1 v7 v8 v10 v17 k0 = (G104x0 N v1 v7 v8 v10 v17).bind k0 := by
 unfold G104x0 F104x0
 repeat' (first | with_reducible apply cond_b | (with_reducible apply bnd_b; intro _) | rfl)
def J104x0 (L : List Lf) (k0 : Bool → Option R) : Option R := F104x0 N (li L 1) (li L 7) (ls L 8) (li L 10) (ll L 17) k0
def sh104x0 : Sh := { tmps := [(0, .g (rI 8 ([.s]))), (1, .c (.p 0 0)), (2, .c (.p 1 0))], mem := [(0, .box ([.m 2])), (1, .box (.s :: [.i .i64, .i .i64, .sl 47, .sl 110, .sl 9])), (2, .kmap 3 136 [(5, 99), (4, 100)])] }
def A104x0 (L : List Lf) : List (Bool × Res) := bnd (J104x0 N L (fun p => some p)) fun q => [(q.isSome, ([.c (.b (q.getD default))], mgA (ofSh sh104x0 L).mem [] [2, 0, 1]))]
theorem raw104x0 (L : List Lf) : bd Tryz.prog (T100x0 N) (h104x0s1 N).h 104 sh104x0 L = J104x0 N L (fun p => some ([.c (.b p)], mgA (ofSh sh104x0 L).mem [] [2, 0, 1])) := by kernel_rfl
theorem ok104x0 : FnOk Tryz.prog 104 sh104x0 (A104x0 N) :=
 (h104x0s1 N).fn progOk (T100x0_ok N) fun L x hx => ((raw104x0 N L).trans ((bind104x0 N ..).trans (alt1 x hx)))
def T104x0 : Oracle := ext 104 (spSh sh104x0 (A104x0 N)) (T100x0 N)
theorem T104x0_ok : OracleOk Tryz.prog (T104x0 N) := FnOk.to (ok104x0 N) (T100x0_ok N)
def rg120x0 : List (Nat × List Nat) := [(0, [0, 1]), (1, [0, 1]), (2, [8, 7, 1, 0]), (3, [8, 1, 0, 7]), (4, [1, 0, 5, 8, 7]), (5, [5]), (6, [8, 7, 1, 0]), (7, [])]
def hd120x0 : Hints := [(6, [0, 1, 7, 8], [0, 1, 2], [])]
def h120x0s0 (N : Nat) : Sg Tryz.prog 3 120 := .start hd120x0 rg120x0
def S120x0x6 (w1 : LD) (w2 w5 : Int) (w12 : LD) (w3 : Int) (kr : Int → Option R) (k0 : Int → Option R) (k1 : Unit → Option R) : Option R :=
 bif (decide (w3 < w2)) then
  bif (inB w3 w1.length) then
   bnd (G104x0 N ((w1.getD w3.toNat (.i 0)).cell 1).toI ((w1.getD w3.toNat (.i 0)).cell 7).toI ((w1.getD w3.toNat (.i 0)).cell 8).toS w5 w12) fun y0 =>
   bif y0.isSome then
    bif (y0.getD default) then
     k0 w3
    else
     kr (IntKind.wrap .i64 (w3 + 1))
   else
    none
  else
   none
 else
  k1 ()
def L120x0x6 (N : Nat) {R : Type} (w1 : LD) (w2 w5 : Int) (w12 : LD) : Nat → Int → (Int → Option R) → (Unit → Option R) → Option R
 | 0, _, _, _ => none
 | m + 1, w3, k0, k1 => S120x0x6 N w1 w2 w5 w12 w3 (fun w3 => L120x0x6 N w1 w2 w5 w12 m w3 k0 k1) k0 k1
def G120x0x6 (w1 : LD) (w2 w5 : Int) (w12 : LD) (w3 : Int) : Option (Sum (Int) (Unit)) := L120x0x6 N (R := (Sum (Int) (Unit))) w1 w2 w5 w12 N w3 (fun p => some (.inl p)) (fun p => some (.inr p))
def J120x0x6 (L x : List Lf) (kr : List Lf → Option R) (k0 : Int → Option R) (k1 : Unit → Option R) : Option R := S120x0x6 N (ll L 1) (li L 2) (li L 5) (ll L 12) (li x 0) (fun w3 => kr [.i w3]) k0 k1
theorem sb120x0x6 (L x : List Lf) (kr : List Lf → Option R) (k0 : Int → Option R) (k1 : Unit → Option R) : J120x0x6 N L x kr k0 k1 = (J120x0x6 N L x (fun y => some (.inl y)) (fun p => some (.inr (.inl p))) (fun p => some (.inr (.inr p)))).bind (sumE kr (sumE k0 k1)) := by
 unfold J120x0x6 S120x0x6
 repeat' (first | with_reducible apply cond_b | (with_reducible apply bnd_b; intro _) | rfl)
def Q120x0x6 (L : List Lf) (m : Nat) (x : List Lf) : Option (Sum (Int) (Unit)) := L120x0x6 N (R := (Sum (Int) (Unit))) (ll L 1) (li L 2) (li L 5) (ll L 12) m (li x 0) (fun p => some (.inl p)) (fun p => some (.inr p))
def sh120x0x6 : Sh := { tmps := [(0, .c (.sl 40)), (1, .c (.f 104 [(0, 0), (1, 0)])), (7, .c (.i .i64)), (8, .c (.i .i64))], mem := [(0, .box ([.m 2])), (1, .box (.s :: [.i .i64, .i .i64, .sl 47, .sl 110, .sl 9])), (2, .kmap 3 136 [(5, 99), (4, 100)])] }
def K120x0x6w0 (L : List Lf) (p : Int) : Ex × St := (.ret, mg (ofSh sh120x0x6 L) [4] [(4, .c (.i .i64 p))] [1, 2, 0] [])
def A120x0x6 (L : List Lf) : List (Bool × (Ex × St)) := bnd (Q120x0x6 N L N (pk sh120x0x6 [3] L)) fun q => [((inlB q), K120x0x6w0 L (inlV q)), ((inrQ q).isSome, ((.exit 0), mg (ofSh sh120x0x6 L) [] [] [1, 2, 0] []))]
theorem step120x0x6 (m : Nat) (kn : St → Option (Ex × St)) (L x : List Lf) : lpB Tryz.prog (T104x0 N) (h120x0s0 N).h 3 120 6 sh120x0x6 [3] [4] [1, 2, 0] (m + 100) kn L x = J120x0x6 N L x (fun y => kn (ofSh sh120x0x6 (mx sh120x0x6 [3] L y))) (fun p => some (K120x0x6w0 L p)) (fun _ => some ((.exit 0), mg (ofSh sh120x0x6 L) [] [] [1, 2, 0] [])) := by kernel_rfl
theorem ql120x0x6 (L : List Lf) (m : Nat) (x : List Lf) : Q120x0x6 N L (m + 1) x = J120x0x6 N L x (Q120x0x6 N L m) (fun p => some (.inl p)) (fun p => some (.inr p)) := by kernel_rfl
def h120x0s1 : Sg Tryz.prog 3 120 :=
 (h120x0s0 N).lp (A120x0x6 N) N progOk (T104x0_ok N) (fun m kn L x => (step120x0x6 N m kn L x).trans (sb120x0x6 N L x _ _ _)) (fun L m x => (ql120x0x6 N L m x).trans (sb120x0x6 N L x (Q120x0x6 N L m) (fun p => some (.inl p)) (fun p => some (.inr p)))) fun L x hx => (altS alt1) x hx
def F120x0 (v1 : LD) (v3 : Int) (v10 : LD) (k0 : Int → Option R) : Option R :=
 bnd (G120x0x6 N v1 (v1.length : Int) v3 v10 0) fun y0 =>
 bif (inlB y0) then
  k0 (inlV y0)
 else
  bif (inrQ y0).isSome then
   k0 (-1)
  else
   none
def G120x0 (v1 : LD) (v3 : Int) (v10 : LD) : Option (Int) := F120x0 N v1 v3 v10 (fun p => some p)
theorem bind120x0 (v1 : LD) (v3 : Int) (v10 : LD) (k0 : Int → Option R) : F120x0 N v1 v3 v10 k0 = (G120x0 N v1 v3 v10).bind k0 := by
 unfold G120x0 F120x0
 repeat' (first | with_reducible apply cond_b | (with_reducible apply bnd_b; intro _) | rfl)
def sh120x0 : Sh := { tmps := [(0, .c (.sl 40)), (1, .c (.f 104 [(0, 0), (1, 0)]))], mem := [(0, .box ([.m 2])), (1, .box (.s :: [.i .i64, .i .i64, .sl 47, .sl 110, .sl 9])), (2, .kmap 3 136 [(5, 99), (4, 100)])] }
def A120x0 (L : List Lf) : List (Bool × Res) := bnd (F120x0 N (ll L 1) (li L 3) (ll L 10) (fun p => some p)) fun q => [(q.isSome, ([.c (.i .i64 (q.getD default))], mgA (ofSh sh120x0 L).mem [] [1, 2, 0]))]
theorem raw120x0 (L : List Lf) : bd Tryz.prog (T104x0 N) (h120x0s1 N).h 120 sh120x0 L = F120x0 N (ll L 1) (li L 3) (ll L 10) (fun p => some ([.c (.i .i64 p)], mgA (ofSh sh120x0 L).mem [] [1, 2, 0])) := by kernel_rfl
theorem ok120x0 : FnOk Tryz.prog 120 sh120x0 (A120x0 N) :=
 (h120x0s1 N).fn progOk (T104x0_ok N) fun L x hx => ((raw120x0 N L).trans ((bind120x0 N ..).trans (alt1 x hx)))
def T120x0 : Oracle := ext 120 (spSh sh120x0 (A120x0 N)) (T104x0 N)
theorem T120x0_ok : OracleOk Tryz.prog (T120x0 N) := FnOk.to (ok120x0 N) (T104x0_ok N)
def rg103x0 : List (Nat × List Nat) := [(0, [0, 1]), (1, [0, 1])]
def hd103x0 : Hints := []
def h103x0s0 (N : Nat) : Sg Tryz.prog 3 103 := .start hd103x0 rg103x0
def F103x0 (v1 : LD) (v3 : Int) (v10 : LD) (k0 : Bool → Option R) : Option R :=
 bnd (G120x0 N v1 v3 v10) fun y0 =>
 bif y0.isSome then
  k0 (decide ((y0.getD default) ≥ 0))
 else
  none
def G103x0 (v1 : LD) (v3 : Int) (v10 : LD) : Option (Bool) := F103x0 N v1 v3 v10 (fun p => some p)
theorem bind103x0 (v1 : LD) (v3 : Int) (v10 : LD) (k0 : Bool → Option R) : F103x0 N v1 v3 v10 k0 = (G103x0 N v1 v3 v10).bind k0 := by
 unfold G103x0 F103x0
 repeat' (first | with_reducible apply cond_b | (with_reducible apply bnd_b; intro _) | rfl)
def sh103x0 : Sh := { tmps := [(0, .c (.sl 40)), (1, .c (.f 104 [(0, 0), (1, 0)]))], mem := [(0, .box ([.m 2])), (1, .box (.s :: [.i .i64, .i .i64, .sl 47, .sl 110, .sl 9])), (2, .kmap 3 136 [(5, 99), (4, 100)])] }
def A103x0 (L : List Lf) : List (Bool × Res) := bnd (F103x0 N (ll L 1) (li L 3) (ll L 10) (fun p => some p)) fun q => [(q.isSome, ([.c (.b (q.getD default))], mgA (ofSh sh103x0 L).mem [] [0, 1, 2]))]
theorem raw103x0 (L : List Lf) : bd Tryz.prog (T120x0 N) (h103x0s0 N).h 103 sh103x0 L = F103x0 N (ll L 1) (li L 3) (ll L 10) (fun p => some ([.c (.b p)], mgA (ofSh sh103x0 L).mem [] [0, 1, 2])) := by kernel_rfl
theorem ok103x0 : FnOk Tryz.prog 103 sh103x0 (A103x0 N) :=
 (h103x0s0 N).fn progOk (T120x0_ok N) fun L x hx => ((raw103x0 N L).trans ((bind103x0 N ..).trans (alt1 x hx)))
def T103x0 : Oracle := ext 103 (spSh sh103x0 (A103x0 N)) (T120x0 N)
theorem T103x0_ok : OracleOk Tryz.prog (T103x0 N) := FnOk.to (ok103x0 N) (T120x0_ok N)
def rg101x0 : List (Nat × List Nat) := [(0, [0, 1, 2]), (1, [5, 3])]
def hd101x0 : Hints := []
def h101x0s0 (N : Nat) : Sg Tryz.prog 0 101 := .start hd101x0 rg101x0
def F101x0 (N : Nat) (v2 v3 v4 v19 v20 : Int) (k0 : Bool → R) : R :=
 bnd (IntKind.wrap .i64 ((IntKind.wrap .i64 (v19 - v2)) * (IntKind.wrap .i64 (v19 - v2)))) fun y0 =>
 bnd (IntKind.wrap .i64 ((IntKind.wrap .i64 (v20 - v3)) * (IntKind.wrap .i64 (v20 - v3)))) fun y1 =>
 bnd (decide ((IntKind.wrap .i64 (y0 + y1)) ≤ (IntKind.wrap .i64 (v4 * v4)))) fun y2 =>
 k0 y2
def V101x0 (v2 v3 v4 v19 v20 : Int) : Bool := F101x0 N v2 v3 v4 v19 v20 (fun p => p)
theorem tot101x0 (v2 v3 v4 v19 v20 : Int) (k0 : Bool → R) : F101x0 N v2 v3 v4 v19 v20 k0 = k0 (V101x0 N v2 v3 v4 v19 v20) := by
 unfold V101x0 F101x0
 repeat' (first | rfl | apply cond_k | (apply bnd_k; intro _))
def J101x0 (L : List Lf) (k0 : Bool → R) : R := F101x0 N (li L 2) (li L 3) (li L 4) (li L 19) (li L 20) k0
def sh101x0 : Sh := { tmps := [(0, .g (rI 8 ([.s]))), (1, .g (.s :: [.i .i64, .i .i64, .sl 47, .sl 110, .sl 9])), (2, .g (rI 7 ([])))], mem := [] }
def A101x0 (L : List Lf) : List (Bool × Res) := bnd (J101x0 N L (fun p => p)) fun q => [(true, ([.c (.b q)], []))]
theorem raw101x0 (L : List Lf) : bd Tryz.prog (T103x0 N) (h101x0s0 N).h 101 sh101x0 L = J101x0 N L (fun p => some ([.c (.b p)], [])) := by kernel_rfl
theorem ok101x0 : FnOk Tryz.prog 101 sh101x0 (A101x0 N) :=
 (h101x0s0 N).fn progOk (T103x0_ok N) fun L x hx => ((raw101x0 N L).trans ((tot101x0 N ..).trans (alt0 _ _ hx)))
def T101x0 : Oracle := ext 101 (spSh sh101x0 (A101x0 N)) (T103x0 N)
theorem T101x0_ok : OracleOk Tryz.prog (T101x0 N) := FnOk.to (ok101x0 N) (T103x0_ok N)
def rg102x0 : List (Nat × List Nat) := [(0, [0, 1, 2]), (1, [4, 5, 3]), (2, [3, 7])]
def hd102x0 : Hints := []
def h102x0s0 (N : Nat) : Sg Tryz.prog 0 102 := .start hd102x0 rg102x0
def F102x0 (N : Nat) (v5 v6 v11 v18 : Int) (k0 : Bool → R) : R :=
 bnd (bif (decide (v5 ≤ ((IntKind.wrap .i64 (v11 + v18)).tmod 86400))) then (decide (((IntKind.wrap .i64 (v11 + v18)).tmod 86400) ≤ v6)) else false) fun y0 =>
 k0 y0
def V102x0 (v5 v6 v11 v18 : Int) : Bool := F102x0 N v5 v6 v11 v18 (fun p => p)
theorem tot102x0 (v5 v6 v11 v18 : Int) (k0 : Bool → R) : F102x0 N v5 v6 v11 v18 k0 = k0 (V102x0 N v5 v6 v11 v18) := by
 unfold V102x0 F102x0
 repeat' (first | rfl | apply cond_k | (apply bnd_k; intro _))
def J102x0 (L : List Lf) (k0 : Bool → R) : R := F102x0 N (li L 5) (li L 6) (li L 11) (li L 18) k0
def sh102x0 : Sh := { tmps := [(0, .g (rI 8 ([.s]))), (1, .g (.s :: [.i .i64, .i .i64, .sl 47, .sl 110, .sl 9])), (2, .g (rI 7 ([])))], mem := [] }
def A102x0 (L : List Lf) : List (Bool × Res) := bnd (J102x0 N L (fun p => p)) fun q => [(true, ([.c (.b q)], []))]
theorem raw102x0 (L : List Lf) : bd Tryz.prog (T101x0 N) (h102x0s0 N).h 102 sh102x0 L = J102x0 N L (fun p => some ([.c (.b p)], [])) := by kernel_rfl
theorem ok102x0 : FnOk Tryz.prog 102 sh102x0 (A102x0 N) :=
 (h102x0s0 N).fn progOk (T101x0_ok N) fun L x hx => ((raw102x0 N L).trans ((tot102x0 N ..).trans (alt0 _ _ hx)))
def T102x0 : Oracle := ext 102 (spSh sh102x0 (A102x0 N)) (T101x0 N)
theorem T102x0_ok : OracleOk Tryz.prog (T102x0 N) := FnOk.to (ok102x0 N) (T101x0_ok N)
def rg105x0 : List (Nat × List Nat) := [(0, [0, 1, 2, 3]), (1, [1, 4, 2, 3]), (2, [7, 6, 4, 2, 3])]
def hd105x0 : Hints := [(4, [1, 2, 3, 4], [0, 1, 2, 3, 8], [])]
def h105x0s0 (N : Nat) : Sg Tryz.prog 4 105 := .start hd105x0 rg105x0
def F105x0x4 (N : Nat) (w18 : Int) (k0 : Unit → Option R) (k1 : Unit → Option R) (k2 : Unit → Option R) : Option R :=
 bif (w18 == 1) then
  k0 ()
 else
  bif (w18 == 2) then
   k1 ()
  else
   k2 ()
def G105x0x4 (w18 : Int) : Option (Sum (Unit) (Sum (Unit) (Unit))) := F105x0x4 N w18 (fun p => some (.inl p)) (fun p => some (.inr (.inl p))) (fun p => some (.inr (.inr p)))
theorem bind105x0x4 (w18 : Int) (k0 : Unit → Option R) (k1 : Unit → Option R) (k2 : Unit → Option R) : F105x0x4 N w18 k0 k1 k2 = (G105x0x4 N w18).bind (sumE k0 (sumE k1 k2)) := by
 unfold G105x0x4 F105x0x4
 repeat' (first | with_reducible apply cond_b | (with_reducible apply bnd_b; intro _) | rfl)
def sh105x0x4 : Sh := { tmps := [(1, .c (.p 0 0)), (2, .c (.p 1 0)), (3, .c (.p 2 0)), (4, .c (.p 8 0))], mem := [(0, .box ([.m 3])), (1, .box (.s :: [.i .i64, .i .i64, .sl 47, .sl 110, .sl 9])), (2, .box (rI 7 ([]))), (3, .kmap 3 139 [(1, 101), (2, 102)]), (8, .box (rI 8 ([.s])))] }
def K105x0x4w0 (L : List Lf) (_ : Unit) : Ex × St := (.normal, mg (ofSh sh105x0x4 L) [7, 6, 4, 2, 3] [(7, .c (.b true)), (6, .c (.f 101 []))] [3, 0, 8, 2, 1] [])
def K105x0x4w1 (L : List Lf) (_ : Unit) : Ex × St := (.normal, mg (ofSh sh105x0x4 L) [7, 6, 4, 2, 3] [(7, .c (.b true)), (6, .c (.f 102 []))] [3, 0, 8, 2, 1] [])
def K105x0x4w2 (L : List Lf) (_ : Unit) : Ex × St := (.normal, mg (ofSh sh105x0x4 L) [7, 6, 4, 2, 3] [(7, .c (.b false)), (6, .c (.v .nilFunc))] [3, 0, 8, 2, 1] [])
def A105x0x4 (L : List Lf) : List (Bool × (Ex × St)) := bnd (F105x0x4 N (li L 18) (fun p => some (.inl p)) (fun p => some (.inr (.inl p))) (fun p => some (.inr (.inr p)))) fun q => [((inlB q), K105x0x4w0 L ()), ((inlB (inrQ q)), K105x0x4w1 L ()), ((inrQ (inrQ q)).isSome, K105x0x4w2 L ())]
theorem raw105x0x4 (L : List Lf) : pc Tryz.prog (T102x0 N) (h105x0s0 N).h 4 100 105 4 sh105x0x4 L [7, 6, 4, 2, 3] [3, 0, 8, 2, 1] = F105x0x4 N (li L 18) (fun _ => some (K105x0x4w0 L ())) (fun _ => some (K105x0x4w1 L ())) (fun _ => some (K105x0x4w2 L ())) := by kernel_rfl
def h105x0s1 : Sg Tryz.prog 4 105 :=
 (h105x0s0 N).cut (A105x0x4 N) progOk (T102x0_ok N) fun L x hx => (raw105x0x4 N L).trans ((bind105x0x4 N ..).trans ((altS (altS alt1)) x hx))
def F105x0 (v1 v2 v3 v4 v5 v6 v11 v18 v19 v20 : Int) (k0 : Bool → Option R) : Option R :=
 bnd (G105x0x4 N v1) fun y0 =>
 bif (inlB y0) then
  bnd (V101x0 N v2 v3 v4 v19 v20) fun y1 =>
  k0 y1
 else
  bif (inlB (inrQ y0)) then
   bnd (V102x0 N v5 v6 v11 v18) fun y2 =>
   k0 y2
  else
   bif (inrQ (inrQ y0)).isSome then
    k0 false
   else
    none
def G105x0 (v1 v2 v3 v4 v5 v6 v11 v18 v19 v20 : Int) : Option (Bool) := F105x0 N v1 v2 v3 v4 v5 v6 v11 v18 v19 v20 (fun p => some p)
theorem bind105x0 (v1 v2 v3 v4 v5 v6 v11 v18 v19 v20 : Int) (k0 : Bool → Option R) : F105x0 N v1 v2 v3 v4 v5 v6 v11 v18 v19 v20 k0 = (G105x0 N v1 v2 v3 v4 v5 v6 v11 v18 v19 v20).bind k0 := by
 unfold G105x0 F105x0
 repeat' (first | with_reducible apply cond_b | (with_reducible apply bnd_b; intro _) | rfl)
def J105x0 (L : List Lf) (k0 : Bool → Option R) : Option R := F105x0 N (li L 1) (li L 2) (li L 3) (li L 4) (li L 5) (li L 6) (li L 11) (li L 18) (li L 19) (li L 20) k0
def sh105x0 : Sh := { tmps := [(0, .g (rI 8 ([.s]))), (1, .c (.p 0 0)), (2, .c (.p 1 0)), (3, .c (.p 2 0))], mem := [(0, .box ([.m 3])), (1, .box (.s :: [.i .i64, .i .i64, .sl 47, .sl 110, .sl 9])), (2, .box (rI 7 ([]))), (3, .kmap 3 139 [(1, 101), (2, 102)])] }
def A105x0 (L : List Lf) : List (Bool × Res) := bnd (J105x0 N L (fun p => some p)) fun q => [(q.isSome, ([.c (.b (q.getD default))], mgA (ofSh sh105x0 L).mem [] [3, 0, 2, 1]))]
theorem raw105x0 (L : List Lf) : bd Tryz.prog (T102x0 N) (h105x0s1 N).h 105 sh105x0 L = J105x0 N L (fun p => some ([.c (.b p)], mgA (ofSh sh105x0 L).mem [] [3, 0, 2, 1])) := by kernel_rfl
theorem ok105x0 : FnOk Tryz.prog 105 sh105x0 (A105x0 N) :=
 (h105x0s1 N).fn progOk (T102x0_ok N) fun L x hx => ((raw105x0 N L).trans ((bind105x0 N ..).trans (alt1 x hx)))
def T105x0 : Oracle := ext 105 (spSh sh105x0 (A105x0 N)) (T102x0 N)
theorem T105x0_ok : OracleOk Tryz.prog (T105x0 N) := FnOk.to (ok105x0 N) (T102x0_ok N)
def rg120x1 : List (Nat × List Nat) := [(0, [0, 1]), (1, [0, 1]), (2, [8, 7, 1, 0]), (3, [8, 1, 0, 7]), (4, [1, 0, 5, 8, 7]), (5, [5]), (6, [8, 7, 1, 0]), (7, [])]
def hd120x1 : Hints := [(6, [0, 1, 7, 8], [0, 1, 2, 3], [])]
def h120x1s0 (N : Nat) : Sg Tryz.prog 4 120 := .start hd120x1 rg120x1
def S120x1x6 (w1 : LD) (w2 w6 w13 w14 w15 : Int) (w3 : Int) (kr : Int → Option R) (k0 : Int → Option R) (k1 : Unit → Option R) : Option R :=
 bif (decide (w3 < w2)) then
  bif (inB w3 w1.length) then
   bnd (G105x0 N ((w1.getD w3.toNat (.i 0)).cell 1).toI ((w1.getD w3.toNat (.i 0)).cell 2).toI ((w1.getD w3.toNat (.i 0)).cell 3).toI ((w1.getD w3.toNat (.i 0)).cell 4).toI ((w1.getD w3.toNat (.i 0)).cell 5).toI ((w1.getD w3.toNat (.i 0)).cell 6).toI w6 w13 w14 w15) fun y0 =>
   bif y0.isSome then
    bif (y0.getD default) then
     k0 w3
    else
     kr (IntKind.wrap .i64 (w3 + 1))
   else
    none
  else
   none
 else
  k1 ()
def L120x1x6 (N : Nat) {R : Type} (w1 : LD) (w2 w6 w13 w14 w15 : Int) : Nat → Int → (Int → Option R) → (Unit → Option R) → Option R
 | 0, _, _, _ => none
 | m + 1, w3, k0, k1 => S120x1x6 N w1 w2 w6 w13 w14 w15 w3 (fun w3 => L120x1x6 N w1 w2 w6 w13 w14 w15 m w3 k0 k1) k0 k1
def G120x1x6 (w1 : LD) (w2 w6 w13 w14 w15 : Int) (w3 : Int) : Option (Sum (Int) (Unit)) := L120x1x6 N (R := (Sum (Int) (Unit))) w1 w2 w6 w13 w14 w15 N w3 (fun p => some (.inl p)) (fun p => some (.inr p))
def J120x1x6 (L x : List Lf) (kr : List Lf → Option R) (k0 : Int → Option R) (k1 : Unit → Option R) : Option R := S120x1x6 N (ll L 1) (li L 2) (li L 6) (li L 13) (li L 14) (li L 15) (li x 0) (fun w3 => kr [.i w3]) k0 k1
theorem sb120x1x6 (L x : List Lf) (kr : List Lf → Option R) (k0 : Int → Option R) (k1 : Unit → Option R) : J120x1x6 N L x kr k0 k1 = (J120x1x6 N L x (fun y => some (.inl y)) (fun p => some (.inr (.inl p))) (fun p => some (.inr (.inr p)))).bind (sumE kr (sumE k0 k1)) := by
 unfold J120x1x6 S120x1x6
 repeat' (first | with_reducible apply cond_b | (with_reducible apply bnd_b; intro _) | rfl)
def Q120x1x6 (L : List Lf) (m : Nat) (x : List Lf) : Option (Sum (Int) (Unit)) := L120x1x6 N (R := (Sum (Int) (Unit))) (ll L 1) (li L 2) (li L 6) (li L 13) (li L 14) (li L 15) m (li x 0) (fun p => some (.inl p)) (fun p => some (.inr p))
def sh120x1x6 : Sh := { tmps := [(0, .c (.sl 40)), (1, .c (.f 105 [(0, 0), (1, 0), (2, 0)])), (7, .c (.i .i64)), (8, .c (.i .i64))], mem := [(0, .box ([.m 3])), (1, .box (.s :: [.i .i64, .i .i64, .sl 47, .sl 110, .sl 9])), (2, .box (rI 7 ([]))), (3, .kmap 3 139 [(1, 101), (2, 102)])] }
def K120x1x6w0 (L : List Lf) (p : Int) : Ex × St := (.ret, mg (ofSh sh120x1x6 L) [4] [(4, .c (.i .i64 p))] [2, 1, 3, 0] [])
def A120x1x6 (L : List Lf) : List (Bool × (Ex × St)) := bnd (Q120x1x6 N L N (pk sh120x1x6 [3] L)) fun q => [((inlB q), K120x1x6w0 L (inlV q)), ((inrQ q).isSome, ((.exit 0), mg (ofSh sh120x1x6 L) [] [] [2, 1, 3, 0] []))]
theorem step120x1x6 (m : Nat) (kn : St → Option (Ex × St)) (L x : List Lf) : lpB Tryz.prog (T105x0 N) (h120x1s0 N).h 4 120 6 sh120x1x6 [3] [4] [2, 1, 3, 0] (m + 100) kn L x = J120x1x6 N L x (fun y => kn (ofSh sh120x1x6 (mx sh120x1x6 [3] L y))) (fun p => some (K120x1x6w0 L p)) (fun _ => some ((.exit 0), mg (ofSh sh120x1x6 L) [] [] [2, 1, 3, 0] [])) := by kernel_rfl
theorem ql120x1x6 (L : List Lf) (m : Nat) (x : List Lf) : Q120x1x6 N L (m + 1) x = J120x1x6 N L x (Q120x1x6 N L m) (fun p => some (.inl p)) (fun p => some (.inr p)) := by kernel_rfl
def h120x1s1 : Sg Tryz.prog 4 120 :=
 (h120x1s0 N).lp (A120x1x6 N) N progOk (T105x0_ok N) (fun m kn L x => (step120x1x6 N m kn L x).trans (sb120x1x6 N L x _ _ _)) (fun L m x => (ql120x1x6 N L m x).trans (sb120x1x6 N L x (Q120x1x6 N L m) (fun p => some (.inl p)) (fun p => some (.inr p)))) fun L x hx => (altS alt1) x hx
def F120x1 (v1 : LD) (v4 v11 v12 v13 : Int) (k0 : Int → Option R) : Option R :=
 bnd (G120x1x6 N v1 (v1.length : Int) v4 v11 v12 v13 0) fun y0 =>
 bif (inlB y0) then
  k0 (inlV y0)
 else
  bif (inrQ y0).isSome then
   k0 (-1)
  else
   none
def G120x1 (v1 : LD) (v4 v11 v12 v13 : Int) : Option (Int) := F120x1 N v1 v4 v11 v12 v13 (fun p => some p)
theorem bind120x1 (v1 : LD) (v4 v11 v12 v13 : Int) (k0 : Int → Option R) : F120x1 N v1 v4 v11 v12 v13 k0 = (G120x1 N v1 v4 v11 v12 v13).bind k0 := by
 unfold G120x1 F120x1
 repeat' (first | with_reducible apply cond_b | (with_reducible apply bnd_b; intro _) | rfl)
def J120x1 (L : List Lf) (k0 : Int → Option R) : Option R := F120x1 N (ll L 1) (li L 4) (li L 11) (li L 12) (li L 13) k0
def sh120x1 : Sh := { tmps := [(0, .c (.sl 40)), (1, .c (.f 105 [(0, 0), (1, 0), (2, 0)]))], mem := [(0, .box ([.m 3])), (1, .box (.s :: [.i .i64, .i .i64, .sl 47, .sl 110, .sl 9])), (2, .box (rI 7 ([]))), (3, .kmap 3 139 [(1, 101), (2, 102)])] }
def A120x1 (L : List Lf) : List (Bool × Res) := bnd (J120x1 N L (fun p => some p)) fun q => [(q.isSome, ([.c (.i .i64 (q.getD default))], mgA (ofSh sh120x1 L).mem [] [2, 1, 3, 0]))]
theorem raw120x1 (L : List Lf) : bd Tryz.prog (T105x0 N) (h120x1s1 N).h 120 sh120x1 L = J120x1 N L (fun p => some ([.c (.i .i64 p)], mgA (ofSh sh120x1 L).mem [] [2, 1, 3, 0])) := by kernel_rfl
theorem ok120x1 : FnOk Tryz.prog 120 sh120x1 (A120x1 N) :=
 (h120x1s1 N).fn progOk (T105x0_ok N) fun L x hx => ((raw120x1 N L).trans ((bind120x1 N ..).trans (alt1 x hx)))
def T120x1 : Oracle := ext 120 (spSh sh120x1 (A120x1 N)) (T105x0 N)
theorem T120x1_ok : OracleOk Tryz.prog (T120x1 N) := FnOk.to (ok120x1 N) (T105x0_ok N)
def rg103x1 : List (Nat × List Nat) := [(0, [0, 1]), (1, [0, 1])]
def hd103x1 : Hints := []
def h103x1s0 (N : Nat) : Sg Tryz.prog 4 103 := .start hd103x1 rg103x1
def F103x1 (v1 : LD) (v4 v11 v12 v13 : Int) (k0 : Bool → Option R) : Option R :=
 bnd (G120x1 N v1 v4 v11 v12 v13) fun y0 =>
 bif y0.isSome then
  k0 (decide ((y0.getD default) ≥ 0))
 else
  none
def G103x1 (v1 : LD) (v4 v11 v12 v13 : Int) : Option (Bool) := F103x1 N v1 v4 v11 v12 v13 (fun p => some p)
theorem bind103x1 (v1 : LD) (v4 v11 v12 v13 : Int) (k0 : Bool → Option R) : F103x1 N v1 v4 v11 v12 v13 k0 = (G103x1 N v1 v4 v11 v12 v13).bind k0 := by
 unfold G103x1 F103x1
 repeat' (first | with_reducible apply cond_b | (with_reducible apply bnd_b; intro _) | rfl)
def J103x1 (L : List Lf) (k0 : Bool → Option R) : Option R := F103x1 N (ll L 1) (li L 4) (li L 11) (li L 12) (li L 13) k0
def sh103x1 : Sh := { tmps := [(0, .c (.sl 40)), (1, .c (.f 105 [(0, 0), (1, 0), (2, 0)]))], mem := [(0, .box ([.m 3])), (1, .box (.s :: [.i .i64, .i .i64, .sl 47, .sl 110, .sl 9])), (2, .box (rI 7 ([]))), (3, .kmap 3 139 [(1, 101), (2, 102)])] }
def A103x1 (L : List Lf) : List (Bool × Res) := bnd (J103x1 N L (fun p => some p)) fun q => [(q.isSome, ([.c (.b (q.getD default))], mgA (ofSh sh103x1 L).mem [] [0, 1, 2, 3]))]
theorem raw103x1 (L : List Lf) : bd Tryz.prog (T120x1 N) (h103x1s0 N).h 103 sh103x1 L = J103x1 N L (fun p => some ([.c (.b p)], mgA (ofSh sh103x1 L).mem [] [0, 1, 2, 3])) := by kernel_rfl
theorem ok103x1 : FnOk Tryz.prog 103 sh103x1 (A103x1 N) :=
 (h103x1s0 N).fn progOk (T120x1_ok N) fun L x hx => ((raw103x1 N L).trans ((bind103x1 N ..).trans (alt1 x hx)))
def T103x1 : Oracle := ext 103 (spSh sh103x1 (A103x1 N)) (T120x1 N)
theorem T103x1_ok : OracleOk Tryz.prog (T103x1 N) := FnOk.to (ok103x1 N) (T120x1_ok N)
def rg79x0 : List (Nat × List Nat) := [(0, [1, 0]), (1, [0, 3]), (2, [0, 6, 3]), (3, [0, 6, 3, 7]), (4, [3, 8, 0, 7]), (5, [3, 9, 8, 0, 7]), (6, [26, 25, 24, 9, 8, 0, 7, 3]), (7, [26, 24, 9, 8, 0, 7, 3, 25]), (8, [9, 10, 8, 0, 7, 3, 11, 26, 25, 24]), (9, [26, 25, 24, 9, 8, 0, 7, 3]), (10, [9, 8])]
def hd79x0 : Hints := [(18, [0, 3, 7, 8, 9, 24, 25, 26], [3, 7, 14, 22], []), (25, [0, 3, 7, 8, 9, 10, 11, 24, 25, 26], [3, 7, 11, 14, 22], [])]
def h79x0s0 (N : Nat) : Sg Tryz.prog 0 79 := .start hd79x0 rg79x0
def F79x0x25 (w1 : LD) (w2 : Bool) (w3 w10 w17 w18 w19 : Int) (w26 : LD) (k0 : LD → Option R) : Option R :=
 bif w2 then
  bif (inB w3 w26.length) then
   bif (decide (w3.toNat < w26.length)) then
    k0 (w26.set w3.toNat (.b true))
   else
    none
  else
   none
 else
  bnd (G103x1 N w1 w10 w17 w18 w19) fun y0 =>
  bif y0.isSome then
   bif (inB w3 w26.length) then
    bif (decide (w3.toNat < w26.length)) then
     k0 (w26.set w3.toNat (.b (y0.getD default)))
    else
     none
   else
    none
  else
   none
def G79x0x25 (w1 : LD) (w2 : Bool) (w3 w10 w17 w18 w19 : Int) (w26 : LD) : Option (LD) := F79x0x25 N w1 w2 w3 w10 w17 w18 w19 w26 (fun p => some p)
theorem bind79x0x25 (w1 : LD) (w2 : Bool) (w3 w10 w17 w18 w19 : Int) (w26 : LD) (k0 : LD → Option R) : F79x0x25 N w1 w2 w3 w10 w17 w18 w19 w26 k0 = (G79x0x25 N w1 w2 w3 w10 w17 w18 w19 w26).bind k0 := by
 unfold G79x0x25 F79x0x25
 repeat' (first | with_reducible apply cond_b | (with_reducible apply bnd_b; intro _) | rfl)
def J79x0x25 (L : List Lf) (k0 : LD → Option R) : Option R := F79x0x25 N (ll L 1) (lb L 2) (li L 3) (li L 10) (li L 17) (li L 18) (li L 19) (ll L 26) k0
def sh79x0x25 : Sh := { tmps := [(0, .c (.sl 40)), (3, .c (.p 3 0)), (7, .c (.p 7 0)), (8, .c (.b)), (9, .c (.o 22)), (10, .c (.i .i64)), (11, .c (.p 11 0)), (24, .c (.sl 47)), (25, .c (.i .i64)), (26, .c (.i .i64))], mem := [(3, .box (.s :: [.i .i64, .i .i64, .sl 47, .sl 110, .sl 9])), (7, .box ([.m 14])), (11, .box (rI 7 ([]))), (14, .kmap 3 139 [(1, 101), (2, 102)]), (22, .row 4 true)] }
def K79x0x25w0 (L : List Lf) (p : LD) : Ex × St := (.normal, mg (ofSh sh79x0x25 L) [26, 25, 24, 9, 8, 0, 7, 3] [] [22, 14, 7, 3] [(22, .row 4 true (lb L 25) p)])
def A79x0x25 (L : List Lf) : List (Bool × (Ex × St)) := bnd (J79x0x25 N L (fun p => some p)) fun q => [(q.isSome, K79x0x25w0 L (q.getD default))]
theorem raw79x0x25 (L : List Lf) : pc Tryz.prog (T103x1 N) (h79x0s0 N).h 0 100 79 25 sh79x0x25 L [26, 25, 24, 9, 8, 0, 7, 3] [22, 14, 7, 3] = J79x0x25 N L (fun p => some (K79x0x25w0 L p)) := by kernel_rfl
def h79x0s1 : Sg Tryz.prog 0 79 :=
 (h79x0s0 N).cut (A79x0x25 N) progOk (T103x1_ok N) fun L x hx => (raw79x0x25 N L).trans ((bind79x0x25 N ..).trans (alt1 x hx))
def S79x0x18 (w1 : LD) (w2 : Bool) (w4 : LD) (w5 w9 : Int) (w6 : Int) (w18 : LD) (kr : Int → LD → Option R) (k0 : LD → Option R) : Option R :=
 bif (decide (w6 < w5)) then
  bif (inB w6 w4.length) then
   bnd (G79x0x25 N w1 w2 w6 w9 ((w4.getD w6.toNat (.i 0)).cell 0).toI ((w4.getD w6.toNat (.i 0)).cell 1).toI ((w4.getD w6.toNat (.i 0)).cell 2).toI w18) fun y0 =>
   bif y0.isSome then
    kr (IntKind.wrap .i64 (w6 + 1)) (y0.getD default)
   else
    none
  else
   none
 else
  k0 w18
def L79x0x18 (N : Nat) {R : Type} (w1 : LD) (w2 : Bool) (w4 : LD) (w5 w9 : Int) : Nat → Int → LD → (LD → Option R) → Option R
 | 0, _, _, _ => none
 | m + 1, w6, w18, k0 => S79x0x18 N w1 w2 w4 w5 w9 w6 w18 (fun w6 w18 => L79x0x18 N w1 w2 w4 w5 w9 m w6 w18 k0) k0
def G79x0x18 (w1 : LD) (w2 : Bool) (w4 : LD) (w5 w9 : Int) (w6 : Int) (w18 : LD) : Option (LD) := L79x0x18 N (R := (LD)) w1 w2 w4 w5 w9 N w6 w18 (fun p => some p)
def J79x0x18 (L x : List Lf) (kr : List Lf → Option R) (k0 : LD → Option R) : Option R := S79x0x18 N (ll L 1) (lb L 2) (ll L 4) (li L 5) (li L 9) (li x 0) (ll x 1) (fun w6 w18 => kr [.i w6, .l w18]) k0
theorem sb79x0x18 (L x : List Lf) (kr : List Lf → Option R) (k0 : LD → Option R) : J79x0x18 N L x kr k0 = (J79x0x18 N L x (fun y => some (.inl y)) (fun p => some (.inr p))).bind (sumE kr k0) := by
 unfold J79x0x18 S79x0x18
 repeat' (first | with_reducible apply cond_b | (with_reducible apply bnd_b; intro _) | rfl)
def Q79x0x18 (L : List Lf) (m : Nat) (x : List Lf) : Option (LD) := L79x0x18 N (R := (LD)) (ll L 1) (lb L 2) (ll L 4) (li L 5) (li L 9) m (li x 0) (ll x 1) (fun p => some p)
def sh79x0x18 : Sh := { tmps := [(0, .c (.sl 40)), (3, .c (.p 3 0)), (7, .c (.p 7 0)), (8, .c (.b)), (9, .c (.o 22)), (24, .c (.sl 47)), (25, .c (.i .i64)), (26, .c (.i .i64))], mem := [(3, .box (.s :: [.i .i64, .i .i64, .sl 47, .sl 110, .sl 9])), (7, .box ([.m 14])), (14, .kmap 3 139 [(1, 101), (2, 102)]), (22, .row 4 true)] }
def K79x0x18w0 (L : List Lf) (p : LD) : Ex × St := ((.exit 0), mg (ofSh sh79x0x18 L) [9, 8] [] [22] [(22, .row 4 true (lb L 17) p)])
def A79x0x18 (L : List Lf) : List (Bool × (Ex × St)) := bnd (Q79x0x18 N L N (pk sh79x0x18 [6, 18] L)) fun q => [(q.isSome, K79x0x18w0 L (q.getD default))]
theorem step79x0x18 (m : Nat) (kn : St → Option (Ex × St)) (L x : List Lf) : lpB Tryz.prog (T103x1 N) (h79x0s1 N).h 0 79 18 sh79x0x18 [6, 18] [4, 5, 9, 8] [22] (m + 100) kn L x = J79x0x18 N L x (fun y => kn (ofSh sh79x0x18 (mx sh79x0x18 [6, 18] L y))) (fun p => some (K79x0x18w0 L p)) := by kernel_rfl
theorem ql79x0x18 (L : List Lf) (m : Nat) (x : List Lf) : Q79x0x18 N L (m + 1) x = J79x0x18 N L x (Q79x0x18 N L m) some := by kernel_rfl
def h79x0s2 : Sg Tryz.prog 0 79 :=
 (h79x0s1 N).lp (A79x0x18 N) N progOk (T103x1_ok N) (fun m kn L x => (step79x0x18 N m kn L x).trans (sb79x0x18 N L x _ _)) (fun L m x => (ql79x0x18 N L m x).trans (sb79x0x18 N L x (Q79x0x18 N L m) some)) fun L x hx => alt1 x hx
def F79x0 (v1 : LD) (v3 v4 : Int) (v6 v10 : LD) (k0 : LD × Bool → Option R) : Option R :=
 bnd (G103x0 N v1 v3 v10) fun y0 =>
 bif y0.isSome then
  bif (((decide (0 ≤ (v6.length : Int))) && (decide ((v6.length : Int) ≤ (v6.length : Int)))) && (decide ((v6.length : Int).toNat * 1 ≤ room) && decide ((v6.length : Int).toNat ≤ strMax))) then
   bnd (G79x0x18 N v1 (y0.getD default) v6 (v6.length : Int) v4 0 (List.replicate (v6.length : Int).toNat ((.b false) : D))) fun y1 =>
   bif y1.isSome then
    k0 ((y1.getD default), (y0.getD default))
   else
    none
  else
   none
 else
  none
def G79x0 (v1 : LD) (v3 v4 : Int) (v6 v10 : LD) : Option (LD × Bool) := F79x0 N v1 v3 v4 v6 v10 (fun p => some p)
theorem bind79x0 (v1 : LD) (v3 v4 : Int) (v6 v10 : LD) (k0 : LD × Bool → Option R) : F79x0 N v1 v3 v4 v6 v10 k0 = (G79x0 N v1 v3 v4 v6 v10).bind k0 := by
 unfold G79x0 F79x0
 repeat' (first | with_reducible apply cond_b | (with_reducible apply bnd_b; intro _) | rfl)
def J79x0 (L : List Lf) (k0 : LD × Bool → Option R) : Option R := F79x0 N (ll L 1) (li L 3) (li L 4) (ll L 6) (ll L 10) k0
def sh79x0 : Sh := { tmps := [(0, .c (.sl 40)), (1, .g (.s :: [.i .i64, .i .i64, .sl 47, .sl 110, .sl 9]))], mem := [] }
def A79x0 (L : List Lf) : List (Bool × Res) := bnd (J79x0 N L (fun p => some p)) fun q => [(q.isSome, ([.c (.sl 4 false (q.getD default).1), .c (.b (q.getD default).2)], []))]
theorem raw79x0 (L : List Lf) : bd Tryz.prog (T103x1 N) (h79x0s2 N).h 79 sh79x0 L = J79x0 N L (fun p => some ([.c (.sl 4 false p.1), .c (.b p.2)], [])) := by kernel_rfl
theorem ok79x0 : FnOk Tryz.prog 79 sh79x0 (A79x0 N) :=
 (h79x0s2 N).fn progOk (T103x1_ok N) fun L x hx => ((raw79x0 N L).trans ((bind79x0 N ..).trans (alt1 x hx)))
def T79x0 : Oracle := ext 79 (spSh sh79x0 (A79x0 N)) (T103x1 N)
theorem T79x0_ok : OracleOk Tryz.prog (T79x0 N) := FnOk.to (ok79x0 N) (T103x1_ok N)
def rg80x0 : List (Nat × List Nat) := [(0, [0]), (1, [0, 2]), (2, [0, 3, 2]), (3, [8, 7, 6, 3, 2]), (4, [6, 8, 3, 7, 2]), (5, [5, 3, 8, 7, 6, 2]), (6, [13, 5, 3, 8, 7, 6, 2]), (8, [13, 3, 5, 8, 7, 6, 2]), (10, [13, 3, 8, 7, 6, 2]), (12, [13, 3, 8, 7, 6, 2]), (13, [3, 8, 7, 6, 2]), (11, [3, 8, 7, 6, 2]), (9, [3, 5, 8, 7, 6, 2]), (7, [5, 3, 8, 7, 6, 2]), (14, [8, 7, 6, 3, 2]), (15, [3, 2])]
def hd80x0 : Hints := [(9, [2, 3, 6, 7, 8], [2, 3, 50003005], [50003005]), (41, [2, 3, 6, 7, 8, 32], [2, 3, 50003005], []), (36035, [2, 3, 6, 7, 8, 13, 29], [2, 3, 50003005], []), (30029, [2, 3, 5, 6, 7, 8, 13, 20], [2, 3, 5, 50003005], []), (24023, [2, 3, 5, 6, 7, 8, 13, 14], [2, 3, 5, 50003005], [])]
def h80x0s0 (N : Nat) : Sg Tryz.prog 0 80 := .start hd80x0 rg80x0
def F80x0x41 (N : Nat) (w4 w20 : Bool) (k0 : Bool → R) : R :=
 bif w4 then
  k0 true
 else
  k0 w20
def V80x0x41 (w4 w20 : Bool) : Bool := F80x0x41 N w4 w20 (fun p => p)
theorem tot80x0x41 (w4 w20 : Bool) (k0 : Bool → R) : F80x0x41 N w4 w20 k0 = k0 (V80x0x41 N w4 w20) := by
 unfold V80x0x41 F80x0x41
 repeat' (first | rfl | apply cond_k | (apply bnd_k; intro _))
def sh80x0x41 : Sh := { tmps := [(2, .c (.p 2 0)), (3, .c (.p 3 0)), (6, .c (.sl 40)), (7, .c (.i .i64)), (8, .c (.i .i64)), (32, .c (.b))], mem := [(2, .box (rB 5 ([.sl 3, .b, .b]))), (3, .box (rB 5 ([.o 50003005, .b, .b]))), (50003005, .row 3 true)] }
def K80x0x41w0 (L : List Lf) (p : Bool) : Ex × St := (.normal, mg (ofSh sh80x0x41 L) [8, 7, 6, 3, 2] [] [50003005, 3, 2] [(3, .box (rM L 14 5 ([.o 50003005, .b (lb L 19), .b p])))])
def A80x0x41 (L : List Lf) : List (Bool × (Ex × St)) := bnd (F80x0x41 N (lb L 4) (lb L 20) (fun p => p)) fun q => [(true, K80x0x41w0 L q)]
theorem raw80x0x41 (L : List Lf) : pc Tryz.prog (T79x0 N) (h80x0s0 N).h 0 100 80 41 sh80x0x41 L [8, 7, 6, 3, 2] [50003005, 3, 2] = F80x0x41 N (lb L 4) (lb L 20) (fun p => some (K80x0x41w0 L p)) := by kernel_rfl
def h80x0s1 : Sg Tryz.prog 0 80 :=
 (h80x0s0 N).cut (A80x0x41 N) progOk (T79x0_ok N) fun L x hx => (raw80x0x41 N L).trans ((tot80x0x41 N ..).trans (alt0 _ _ hx))
def F80x0x36035 (w4 : Int) (w5 w20 w21 : Bool) (k0 : Bool × Bool → R) : R :=
 bif w5 then
  k0 (true, w21)
 else
  bnd (V80x0x41 N (w4 == 7) w21) fun y0 =>
  k0 (w20, y0)
def V80x0x36035 (w4 : Int) (w5 w20 w21 : Bool) : Bool × Bool := F80x0x36035 N w4 w5 w20 w21 (fun p => p)
theorem tot80x0x36035 (w4 : Int) (w5 w20 w21 : Bool) (k0 : Bool × Bool → R) : F80x0x36035 N w4 w5 w20 w21 k0 = k0 (V80x0x36035 N w4 w5 w20 w21) := by
 unfold V80x0x36035 F80x0x36035
 repeat' (first | rfl | apply cond_k | (apply bnd_k; intro _))
def J80x0x36035 (L : List Lf) (k0 : Bool × Bool → R) : R := F80x0x36035 N (li L 4) (lb L 5) (lb L 20) (lb L 21) k0
def sh80x0x36035 : Sh := { tmps := [(2, .c (.p 2 0)), (3, .c (.p 3 0)), (6, .c (.sl 40)), (7, .c (.i .i64)), (8, .c (.i .i64)), (13, .c (.i .i64)), (29, .c (.b))], mem := [(2, .box (rB 5 ([.sl 3, .b, .b]))), (3, .box (rB 5 ([.o 50003005, .b, .b]))), (50003005, .row 3 true)] }
def K80x0x36035w0 (L : List Lf) (p : Bool × Bool) : Ex × St := (.normal, mg (ofSh sh80x0x36035 L) [8, 7, 6, 3, 2] [] [50003005, 3, 2] [(3, .box (rM L 15 5 ([.o 50003005, .b p.1, .b p.2])))])
def A80x0x36035 (L : List Lf) : List (Bool × (Ex × St)) := bnd (J80x0x36035 N L (fun p => p)) fun q => [(true, K80x0x36035w0 L q)]
theorem raw80x0x36035 (L : List Lf) : pc Tryz.prog (T79x0 N) (h80x0s1 N).h 0 100 80 36035 sh80x0x36035 L [8, 7, 6, 3, 2] [50003005, 3, 2] = J80x0x36035 N L (fun p => some (K80x0x36035w0 L p)) := by kernel_rfl
def h80x0s2 : Sg Tryz.prog 0 80 :=
 (h80x0s1 N).cut (A80x0x36035 N) progOk (T79x0_ok N) fun L x hx => (raw80x0x36035 N L).trans ((tot80x0x36035 N ..).trans (alt0 _ _ hx))
def F80x0x30029 (w4 : Int) (w5 w20 w21 : Bool) (w29 : Int) (w32 : LD) (k0 : LD → Option R) (k1 : Bool × Bool → Option R) : Option R :=
 bif w5 then
  bif (decide ((w32.length + 1) * 8 ≤ room) && decide ((w32.length + 1) ≤ strMax)) then
   k0 (w32 ++ [(.i w29)])
  else
   none
 else
  bnd (V80x0x36035 N w4 (w4 == 6) w20 w21) fun y0 =>
  k1 y0
def G80x0x30029 (w4 : Int) (w5 w20 w21 : Bool) (w29 : Int) (w32 : LD) : Option (Sum (LD) (Bool × Bool)) := F80x0x30029 N w4 w5 w20 w21 w29 w32 (fun p => some (.inl p)) (fun p => some (.inr p))
theorem bind80x0x30029 (w4 : Int) (w5 w20 w21 : Bool) (w29 : Int) (w32 : LD) (k0 : LD → Option R) (k1 : Bool × Bool → Option R) : F80x0x30029 N w4 w5 w20 w21 w29 w32 k0 k1 = (G80x0x30029 N w4 w5 w20 w21 w29 w32).bind (sumE k0 k1) := by
 unfold G80x0x30029 F80x0x30029
 repeat' (first | with_reducible apply cond_b | (with_reducible apply bnd_b; intro _) | rfl)
def J80x0x30029 (L : List Lf) (k0 : LD → Option R) (k1 : Bool × Bool → Option R) : Option R := F80x0x30029 N (li L 4) (lb L 5) (lb L 20) (lb L 21) (li L 29) (ll L 32) k0 k1
def sh80x0x30029 : Sh := { tmps := [(2, .c (.p 2 0)), (3, .c (.p 3 0)), (5, .c (.p 5 0)), (6, .c (.sl 40)), (7, .c (.i .i64)), (8, .c (.i .i64)), (13, .c (.i .i64)), (20, .c (.b))], mem := [(2, .box (rB 5 ([.sl 3, .b, .b]))), (3, .box (rB 5 ([.o 50003005, .b, .b]))), (5, .box (rI 8 ([.s]))), (50003005, .row 3 true)] }
def K80x0x30029w0 (L : List Lf) (p : LD) : Ex × St := (.normal, mg (ofSh sh80x0x30029 L) [8, 7, 6, 3, 2] [] [27, 3, 2] [(27, .row 3 true false p), (3, .box (rM L 15 5 ([.o 27, .b (lb L 20), .b (lb L 21)])))])
def K80x0x30029w1 (L : List Lf) (p : Bool × Bool) : Ex × St := (.normal, mg (ofSh sh80x0x30029 L) [8, 7, 6, 3, 2] [] [3, 2, 50003005] [(3, .box (rM L 15 5 ([.o 50003005, .b p.1, .b p.2])))])
def A80x0x30029 (L : List Lf) : List (Bool × (Ex × St)) := bnd (J80x0x30029 N L (fun p => some (.inl p)) (fun p => some (.inr p))) fun q => [((inlB q), K80x0x30029w0 L (inlV q)), ((inrQ q).isSome, K80x0x30029w1 L ((inrQ q).getD default))]
theorem raw80x0x30029 (L : List Lf) : pc Tryz.prog (T79x0 N) (h80x0s2 N).h 0 100 80 30029 sh80x0x30029 L [8, 7, 6, 3, 2] [27, 3, 2, 50003005] = J80x0x30029 N L (fun p => some (K80x0x30029w0 L p)) (fun p => some (K80x0x30029w1 L p)) := by kernel_rfl
def h80x0s3 : Sg Tryz.prog 0 80 :=
 (h80x0s2 N).cut (A80x0x30029 N) progOk (T79x0_ok N) fun L x hx => (raw80x0x30029 N L).trans ((bind80x0x30029 N ..).trans ((altS alt1) x hx))
def F80x0x24023 (w4 : Int) (w5 w15 w16 w17 w18 w19 w20 w21 : Bool) (w29 : Int) (w32 : LD) (k0 : Ty5 → Option R) (k1 : LD → Option R) : Option R :=
 bif w5 then
  bif (inB w29 5) then
   k0 ((bif (Nat.beq w29.toNat 0) then true else w15), (bif (Nat.beq w29.toNat 1) then true else w16), (bif (Nat.beq w29.toNat 2) then true else w17), (bif (Nat.beq w29.toNat 3) then true else w18), (bif (Nat.beq w29.toNat 4) then true else w19), w20, w21)
  else
   none
 else
  bnd (G80x0x30029 N w4 (w4 == 8) w20 w21 w29 w32) fun y0 =>
  bif (inlB y0) then
   k1 (inlV y0)
  else
   bif (inrQ y0).isSome then
    k0 (w15, w16, w17, w18, w19, ((inrQ y0).getD default).1, ((inrQ y0).getD default).2)
   else
    none
def G80x0x24023 (w4 : Int) (w5 w15 w16 w17 w18 w19 w20 w21 : Bool) (w29 : Int) (w32 : LD) : Option (Sum (Ty5) (LD)) := F80x0x24023 N w4 w5 w15 w16 w17 w18 w19 w20 w21 w29 w32 (fun p => some (.inl p)) (fun p => some (.inr p))
theorem bind80x0x24023 (w4 : Int) (w5 w15 w16 w17 w18 w19 w20 w21 : Bool) (w29 : Int) (w32 : LD) (k0 : Ty5 → Option R) (k1 : LD → Option R) : F80x0x24023 N w4 w5 w15 w16 w17 w18 w19 w20 w21 w29 w32 k0 k1 = (G80x0x24023 N w4 w5 w15 w16 w17 w18 w19 w20 w21 w29 w32).bind (sumE k0 k1) := by
 unfold G80x0x24023 F80x0x24023
 repeat' (first | with_reducible apply cond_b | (with_reducible apply bnd_b; intro _) | rfl)
def J80x0x24023 (L : List Lf) (k0 : Ty5 → Option R) (k1 : LD → Option R) : Option R := F80x0x24023 N (li L 4) (lb L 5) (lb L 15) (lb L 16) (lb L 17) (lb L 18) (lb L 19) (lb L 20) (lb L 21) (li L 29) (ll L 32) k0 k1
def sh80x0x24023 : Sh := { tmps := [(2, .c (.p 2 0)), (3, .c (.p 3 0)), (5, .c (.p 5 0)), (6, .c (.sl 40)), (7, .c (.i .i64)), (8, .c (.i .i64)), (13, .c (.i .i64)), (14, .c (.b))], mem := [(2, .box (rB 5 ([.sl 3, .b, .b]))), (3, .box (rB 5 ([.o 50003005, .b, .b]))), (5, .box (rI 8 ([.s]))), (50003005, .row 3 true)] }
def K80x0x24023w0 (L : List Lf) (p : Ty5) : Ex × St := let p1 := p.2; let p2 := p1.2; let p3 := p2.2; let p4 := p3.2; let p5 := p4.2; let p6 := p5.2; (.normal, mg (ofSh sh80x0x24023 L) [8, 7, 6, 3, 2] [] [50003005, 3, 2] [(3, .box [.b p.1, .b p1.1, .b p2.1, .b p3.1, .b p4.1, .o 50003005, .b p5.1, .b p6])])
def K80x0x24023w1 (L : List Lf) (p : LD) : Ex × St := (.normal, mg (ofSh sh80x0x24023 L) [8, 7, 6, 3, 2] [] [3, 2, 27] [(3, .box (rM L 15 5 ([.o 27, .b (lb L 20), .b (lb L 21)]))), (27, .row 3 true false p)])
def A80x0x24023 (L : List Lf) : List (Bool × (Ex × St)) := bnd (J80x0x24023 N L (fun p => some (.inl p)) (fun p => some (.inr p))) fun q => [((inlB q), K80x0x24023w0 L (inlV q)), ((inrQ q).isSome, K80x0x24023w1 L ((inrQ q).getD default))]
theorem raw80x0x24023 (L : List Lf) : pc Tryz.prog (T79x0 N) (h80x0s3 N).h 0 100 80 24023 sh80x0x24023 L [8, 7, 6, 3, 2] [50003005, 3, 2, 27] = J80x0x24023 N L (fun p => some (K80x0x24023w0 L p)) (fun p => some (K80x0x24023w1 L p)) := by kernel_rfl
def h80x0s4 : Sg Tryz.prog 0 80 :=
 (h80x0s3 N).cut (A80x0x24023 N) progOk (T79x0_ok N) fun L x hx => (raw80x0x24023 N L).trans ((bind80x0x24023 N ..).trans ((altS alt1) x hx))
def S80x0x9 (w1 : LD) (w2 : Int) (w3 : Int) (w13 w14 w15 w16 w17 w18 w19 w20 : Bool) (w21 : LD) (kr : Int → Bool → Bool → Bool → Bool → Bool → Bool → Bool → Bool → LD → Option R) (k0 : Ty2 → Option R) : Option R :=
 bif (decide (w3 < w2)) then
  bif (inB w3 w1.length) then
   bnd (G80x0x24023 N ((w1.getD w3.toNat (.i 0)).cell 1).toI (((w1.getD w3.toNat (.i 0)).cell 1).toI == 3) w13 w14 w15 w16 w17 w18 w19 ((w1.getD w3.toNat (.i 0)).cell 7).toI w21) fun y0 =>
   bif (inlB y0) then
    kr (IntKind.wrap .i64 (w3 + 1)) (inlV y0).1 (inlV y0).2.1 (inlV y0).2.2.1 (inlV y0).2.2.2.1 (inlV y0).2.2.2.2.1 (inlV y0).2.2.2.2.2.1 (inlV y0).2.2.2.2.2.2 w20 w21
   else
    bif (inrQ y0).isSome then
     kr (IntKind.wrap .i64 (w3 + 1)) w13 w14 w15 w16 w17 w18 w19 false ((inrQ y0).getD default)
    else
     none
  else
   none
 else
  k0 (w20, w21, w13, w14, w15, w16, w17, w18, w19)
def L80x0x9 (N : Nat) {R : Type} (w1 : LD) (w2 : Int) : Nat → Int → Bool → Bool → Bool → Bool → Bool → Bool → Bool → Bool → LD → (Ty2 → Option R) → Option R
 | 0, _, _, _, _, _, _, _, _, _, _, _ => none
 | m + 1, w3, w13, w14, w15, w16, w17, w18, w19, w20, w21, k0 => S80x0x9 N w1 w2 w3 w13 w14 w15 w16 w17 w18 w19 w20 w21 (fun w3 w13 w14 w15 w16 w17 w18 w19 w20 w21 => L80x0x9 N w1 w2 m w3 w13 w14 w15 w16 w17 w18 w19 w20 w21 k0) k0
def G80x0x9 (w1 : LD) (w2 : Int) (w3 : Int) (w13 w14 w15 w16 w17 w18 w19 w20 : Bool) (w21 : LD) : Option (Ty2) := L80x0x9 N (R := (Ty2)) w1 w2 N w3 w13 w14 w15 w16 w17 w18 w19 w20 w21 (fun p => some p)
def J80x0x9 (L x : List Lf) (kr : List Lf → Option R) (k0 : Ty2 → Option R) : Option R := S80x0x9 N (ll L 1) (li L 2) (li x 0) (lb x 1) (lb x 2) (lb x 3) (lb x 4) (lb x 5) (lb x 6) (lb x 7) (lb x 8) (ll x 9) (fun w3 w13 w14 w15 w16 w17 w18 w19 w20 w21 => kr [.i w3, .b w13, .b w14, .b w15, .b w16, .b w17, .b w18, .b w19, .b w20, .l w21]) k0
theorem sb80x0x9 (L x : List Lf) (kr : List Lf → Option R) (k0 : Ty2 → Option R) : J80x0x9 N L x kr k0 = (J80x0x9 N L x (fun y => some (.inl y)) (fun p => some (.inr p))).bind (sumE kr k0) := by
 unfold J80x0x9 S80x0x9
 repeat' (first | with_reducible apply cond_b | (with_reducible apply bnd_b; intro _) | rfl)
def Q80x0x9 (L : List Lf) (m : Nat) (x : List Lf) : Option (Ty2) := L80x0x9 N (R := (Ty2)) (ll L 1) (li L 2) m (li x 0) (lb x 1) (lb x 2) (lb x 3) (lb x 4) (lb x 5) (lb x 6) (lb x 7) (lb x 8) (ll x 9) (fun p => some p)
def sh80x0x9 : Sh := { tmps := [(2, .c (.p 2 0)), (3, .c (.p 3 0)), (6, .c (.sl 40)), (7, .c (.i .i64)), (8, .c (.i .i64))], mem := [(2, .box (rB 5 ([.sl 3, .b, .b]))), (3, .box (rB 5 ([.o 50003005, .b, .b]))), (50003005, .row 3 true)] }
def K80x0x9w0 (L : List Lf) (p : Ty2) : Ex × St := let p1 := p.2; let p2 := p1.2; let p3 := p2.2; let p4 := p3.2; let p5 := p4.2; let p6 := p5.2; let p7 := p6.2; let p8 := p7.2; ((.exit 0), mg (ofSh sh80x0x9 L) [2, 3] [] [50003005, 3, 2] [(50003005, .row 3 true p.1 p1.1), (3, .box [.b p2.1, .b p3.1, .b p4.1, .b p5.1, .b p6.1, .o 50003005, .b p7.1, .b p8])])
def A80x0x9 (L : List Lf) : List (Bool × (Ex × St)) := bnd (Q80x0x9 N L N (pk sh80x0x9 [3, 13, 14, 15, 16, 17, 18, 19, 20, 21] L)) fun q => [(q.isSome, K80x0x9w0 L (q.getD default))]
theorem step80x0x9 (m : Nat) (kn : St → Option (Ex × St)) (L x : List Lf) : lpB Tryz.prog (T79x0 N) (h80x0s4 N).h 0 80 9 sh80x0x9 [3, 13, 14, 15, 16, 17, 18, 19, 20, 21] [2, 3] [50003005, 3, 2] (m + 100) kn L x = J80x0x9 N L x (fun y => kn (ofSh sh80x0x9 (mx sh80x0x9 [3, 13, 14, 15, 16, 17, 18, 19, 20, 21] L y))) (fun p => some (K80x0x9w0 L p)) := by kernel_rfl
theorem ql80x0x9 (L : List Lf) (m : Nat) (x : List Lf) : Q80x0x9 N L (m + 1) x = J80x0x9 N L x (Q80x0x9 N L m) some := by kernel_rfl
def h80x0s5 : Sg Tryz.prog 0 80 :=
 (h80x0s4 N).lp (A80x0x9 N) N progOk (T79x0_ok N) (fun m kn L x => (step80x0x9 N m kn L x).trans (sb80x0x9 N L x _ _)) (fun L m x => (ql80x0x9 N L m x).trans (sb80x0x9 N L x (Q80x0x9 N L m) some)) fun L x hx => alt1 x hx
def F80x0 (v1 : LD) (k0 : Ty3 → Option R) : Option R :=
 bnd (G80x0x9 N v1 (v1.length : Int) 0 false false false false false false false true []) fun y0 =>
 bif y0.isSome then
  k0 ((y0.getD default).2.2.1, (y0.getD default).2.2.2.1, (y0.getD default).2.2.2.2.1, (y0.getD default).2.2.2.2.2.1, (y0.getD default).2.2.2.2.2.2.1, (y0.getD default).1, (y0.getD default).2.1, (y0.getD default).2.2.2.2.2.2.2.1, (y0.getD default).2.2.2.2.2.2.2.2)
 else
  none
def G80x0 (v1 : LD) : Option (Ty3) := F80x0 N v1 (fun p => some p)
theorem bind80x0 (v1 : LD) (k0 : Ty3 → Option R) : F80x0 N v1 k0 = (G80x0 N v1).bind k0 := by
 unfold G80x0 F80x0
 repeat' (first | with_reducible apply cond_b | (with_reducible apply bnd_b; intro _) | rfl)
def sh80x0 : Sh := { tmps := [(0, .c (.sl 40))], mem := [] }
def K80x0w0 (L : List Lf) (p : Ty3) : Res := let p1 := p.2; let p2 := p1.2; let p3 := p2.2; let p4 := p3.2; let p5 := p4.2; let p6 := p5.2; let p7 := p6.2; let p8 := p7.2; ([.g [.b p.1, .b p1.1, .b p2.1, .b p3.1, .b p4.1, .sl 3 p5.1 p6.1, .b p7.1, .b p8]], [])
def A80x0 (L : List Lf) : List (Bool × Res) := bnd (F80x0 N (ll L 1) (fun p => some p)) fun q => [(q.isSome, K80x0w0 L (q.getD default))]
theorem raw80x0 (L : List Lf) : bd Tryz.prog (T79x0 N) (h80x0s5 N).h 80 sh80x0 L = F80x0 N (ll L 1) (fun p => some (K80x0w0 L p)) := by kernel_rfl
theorem ok80x0 : FnOk Tryz.prog 80 sh80x0 (A80x0 N) :=
 (h80x0s5 N).fn progOk (T79x0_ok N) fun L x hx => ((raw80x0 N L).trans ((bind80x0 N ..).trans (alt1 x hx)))
def T80x0 : Oracle := ext 80 (spSh sh80x0 (A80x0 N)) (T79x0 N)
theorem T80x0_ok : OracleOk Tryz.prog (T80x0 N) := FnOk.to (ok80x0 N) (T79x0_ok N)
def rg106x0 : List (Nat × List Nat) := [(0, [0]), (1, [0]), (2, []), (3, [0])]
def hd106x0 : Hints := []
def h106x0s0 (N : Nat) : Sg Tryz.prog 0 106 := .start hd106x0 rg106x0 true
def F106x0 (N : Nat) (v0 : Bool) (v1 : LD) (k0 : Unit → Option R) (k1 : Bool → Option R) : Option R :=
 bif v0 then
  k0 ()
 else
  bif (decide ((0 + v1.length) * 16 ≤ room) && decide ((0 + v1.length) ≤ strMax)) then
   k1 (v1.isEmpty && false)
  else
   none
def G106x0 (v0 : Bool) (v1 : LD) : Option (Sum (Unit) (Bool)) := F106x0 N v0 v1 (fun p => some (.inl p)) (fun p => some (.inr p))
theorem bind106x0 (v0 : Bool) (v1 : LD) (k0 : Unit → Option R) (k1 : Bool → Option R) : F106x0 N v0 v1 k0 k1 = (G106x0 N v0 v1).bind (sumE k0 k1) := by
 unfold G106x0 F106x0
 repeat' (first | with_reducible apply cond_b | (with_reducible apply bnd_b; intro _) | rfl)
def sh106x0 : Sh := { tmps := [(0, .c (.sl 9))], mem := [] }
def A106x0 (L : List Lf) : List (Bool × Res) := bnd (F106x0 N (lb L 0) (ll L 1) (fun p => some (.inl p)) (fun p => some (.inr p))) fun q => [((inlB q), ([.c (.sl 9 true [])], [])), ((inrQ q).isSome, ([.c (.o 7)], [(7, .row 9 true ((inrQ q).getD default) (ll L 1))]))]
theorem raw106x0 (L : List Lf) : bd Tryz.prog (T80x0 N) (h106x0s0 N).h 106 sh106x0 L = F106x0 N (lb L 0) (ll L 1) (fun _ => some ([.c (.sl 9 true [])], [])) (fun p => some ([.c (.o 7)], [(7, .row 9 true p (ll L 1))])) := by kernel_rfl
theorem ok106x0 : FnOk Tryz.prog 106 sh106x0 (A106x0 N) :=
 (h106x0s0 N).fn progOk (T80x0_ok N) fun L x hx => ((raw106x0 N L).trans ((bind106x0 N ..).trans ((altS alt1) x hx)))
def T106x0 : Oracle := ext 106 (spSh sh106x0 (A106x0 N)) (T80x0 N)
theorem T106x0_ok : OracleOk Tryz.prog (T106x0 N) := FnOk.to (ok106x0 N) (T80x0_ok N)
def rg107x0 : List (Nat × List Nat) := [(0, [0, 1]), (1, [0, 1]), (2, [5, 1, 0]), (3, [5, 1, 0]), (4, [0, 5])]
def hd107x0 : Hints := [(11, [0, 1, 5, 10], [], [])]
def h107x0s0 (N : Nat) : Sg Tryz.prog 0 107 := .start hd107x0 rg107x0
def F107x0x11 (N : Nat) (w1 w2 : Int) (w3 : Bool) (k0 : Int → R) : R :=
 bif w3 then
  k0 (IntKind.wrap .i64 (w2 + w1))
 else
  k0 w2
def V107x0x11 (w1 w2 : Int) (w3 : Bool) : Int := F107x0x11 N w1 w2 w3 (fun p => p)
theorem tot107x0x11 (w1 w2 : Int) (w3 : Bool) (k0 : Int → R) : F107x0x11 N w1 w2 w3 k0 = k0 (V107x0x11 N w1 w2 w3) := by
 unfold V107x0x11 F107x0x11
 repeat' (first | rfl | apply cond_k | (apply bnd_k; intro _))
def sh107x0x11 : Sh := { tmps := [(0, .c (.i .i64)), (1, .c (.i .i64)), (5, .c (.i .i64)), (10, .c (.b))], mem := [] }
def K107x0x11w0 (L : List Lf) (p : Int) : Ex × St := (.normal, ⟨[(0, .c (.i .i64 (li L 0))), (5, .c (.i .i64 p))], []⟩)
def A107x0x11 (L : List Lf) : List (Bool × (Ex × St)) := bnd (F107x0x11 N (li L 1) (li L 2) (lb L 3) (fun p => p)) fun q => [(true, K107x0x11w0 L q)]
theorem raw107x0x11 (L : List Lf) : pc Tryz.prog (T106x0 N) (h107x0s0 N).h 0 100 107 11 sh107x0x11 L [0, 5] [] = F107x0x11 N (li L 1) (li L 2) (lb L 3) (fun p => some (K107x0x11w0 L p)) := by kernel_rfl
def h107x0s1 : Sg Tryz.prog 0 107 :=
 (h107x0s0 N).cut (A107x0x11 N) progOk (T106x0_ok N) fun L x hx => (raw107x0x11 N L).trans ((tot107x0x11 N ..).trans (alt0 _ _ hx))
def F107x0 (v0 v1 : Int) (k0 : Int → Option R) : Option R :=
 bif (!(v1 == 0)) then
  bnd (V107x0x11 N v1 (v0.tmod v1) (decide ((v0.tmod v1) < 0))) fun y0 =>
  k0 (IntKind.wrap .i64 (v0 - y0))
 else
  none
def G107x0 (v0 v1 : Int) : Option (Int) := F107x0 N v0 v1 (fun p => some p)
theorem bind107x0 (v0 v1 : Int) (k0 : Int → Option R) : F107x0 N v0 v1 k0 = (G107x0 N v0 v1).bind k0 := by
 unfold G107x0 F107x0
 repeat' (first | with_reducible apply cond_b | (with_reducible apply bnd_b; intro _) | rfl)
def sh107x0 : Sh := { tmps := [(0, .c (.i .i64)), (1, .c (.i .i64))], mem := [] }
def A107x0 (L : List Lf) : List (Bool × Res) := bnd (F107x0 N (li L 0) (li L 1) (fun p => some p)) fun q => [(q.isSome, ([.c (.i .i64 (q.getD default))], []))]
theorem raw107x0 (L : List Lf) : bd Tryz.prog (T106x0 N) (h107x0s1 N).h 107 sh107x0 L = F107x0 N (li L 0) (li L 1) (fun p => some ([.c (.i .i64 p)], [])) := by kernel_rfl
theorem ok107x0 : FnOk Tryz.prog 107 sh107x0 (A107x0 N) :=
 (h107x0s1 N).fn progOk (T106x0_ok N) fun L x hx => ((raw107x0 N L).trans ((bind107x0 N ..).trans (alt1 x hx)))
def T107x0 : Oracle := ext 107 (spSh sh107x0 (A107x0 N)) (T106x0 N)
theorem T107x0_ok : OracleOk Tryz.prog (T107x0 N) := FnOk.to (ok107x0 N) (T106x0_ok N)
def rg108x0 : List (Nat × List Nat) := [(0, [0, 1]), (1, [3, 2, 4]), (2, [14, 2, 3, 4]), (3, [14, 2, 3, 4]), (4, [5, 2, 6, 14, 3, 4]), (5, [6, 14, 2, 3, 4]), (6, [2, 3, 4]), (7, [3, 2, 4]), (8, [2, 3, 4]), (9, [33, 32, 31, 3, 4]), (10, [31, 33, 3, 32, 4]), (11, [3, 8, 33, 32, 31, 4]), (12, [33, 32, 31, 3, 4]), (13, [3, 4])]
def hd108x0 : Hints := [(300000004, [2, 3, 4], [2, 3, 4], []), (23, [2, 3, 4, 28], [2, 3, 4], []), (27, [3, 4, 31, 32, 33], [3, 4], [])]
def h108x0s0 (N : Nat) : Sg Tryz.prog 0 108 := .start hd108x0 rg108x0
def h108x0s1 : Sg Tryz.prog 0 108 := (h108x0s0 N).hand lookLaw
def F108x0x23 (N : Nat) (w0 : Bool) (w13 : Int) (k0 : Int → R) : R :=
 bif w0 then
  k0 0
 else
  k0 w13
def V108x0x23 (w0 : Bool) (w13 : Int) : Int := F108x0x23 N w0 w13 (fun p => p)
theorem tot108x0x23 (w0 : Bool) (w13 : Int) (k0 : Int → R) : F108x0x23 N w0 w13 k0 = k0 (V108x0x23 N w0 w13) := by
 unfold V108x0x23 F108x0x23
 repeat' (first | rfl | apply cond_k | (apply bnd_k; intro _))
def sh108x0x23 : Sh := { tmps := [(2, .c (.p 2 0)), (3, .c (.p 3 0)), (4, .c (.p 4 0)), (28, .c (.b))], mem := [(2, .box (rB 5 ([.sl 3, .b, .b]))), (3, .box (rI 7 ([]))), (4, .box (rI 7 ([])))] }
def K108x0x23w0 (L : List Lf) (p : Int) : Ex × St := (.normal, mg (ofSh sh108x0x23 L) [2, 3, 4] [] [4, 3, 2] [(3, .box [.i .i64 (li L 10), .i .i64 (li L 11), .i .i64 (li L 12), .i .i64 p, .i .i64 (li L 14), .i .i64 (li L 15), .i .i64 (li L 16)])])
def A108x0x23 (L : List Lf) : List (Bool × (Ex × St)) := bnd (F108x0x23 N (lb L 0) (li L 13) (fun p => p)) fun q => [(true, K108x0x23w0 L q)]
theorem raw108x0x23 (L : List Lf) : pc Tryz.prog (T107x0 N) (h108x0s1 N).h 0 100 108 23 sh108x0x23 L [2, 3, 4] [4, 3, 2] = F108x0x23 N (lb L 0) (li L 13) (fun p => some (K108x0x23w0 L p)) := by kernel_rfl
def h108x0s2 : Sg Tryz.prog 0 108 :=
 (h108x0s1 N).cut (A108x0x23 N) progOk (T107x0_ok N) fun L x hx => (raw108x0x23 N L).trans ((tot108x0x23 N ..).trans (alt0 _ _ hx))
def S108x0x27 (w1 : LD) (w2 : Int) (w3 w5 w6 : Int) (kr : Int → Int → Int → Option R) (k0 : Int × Int → Option R) : Option R :=
 bif (decide (w3 < w2)) then
  bif (inB w3 w1.length) then
   bnd (G107x0 N w5 (w1.getD w3.toNat (.i 0)).toI) fun y0 =>
   bif y0.isSome then
    bnd (G107x0 N w6 (w1.getD w3.toNat (.i 0)).toI) fun y1 =>
    bif y1.isSome then
     kr (IntKind.wrap .i64 (w3 + 1)) (max2 (y0.getD default) (-100000000)) (max2 (y1.getD default) (-100000000))
    else
     none
   else
    none
  else
   none
 else
  k0 (w5, w6)
def L108x0x27 (N : Nat) {R : Type} (w1 : LD) (w2 : Int) : Nat → Int → Int → Int → (Int × Int → Option R) → Option R
 | 0, _, _, _, _ => none
 | m + 1, w3, w5, w6, k0 => S108x0x27 N w1 w2 w3 w5 w6 (fun w3 w5 w6 => L108x0x27 N w1 w2 m w3 w5 w6 k0) k0
def G108x0x27 (w1 : LD) (w2 : Int) (w3 w5 w6 : Int) : Option (Int × Int) := L108x0x27 N (R := (Int × Int)) w1 w2 N w3 w5 w6 (fun p => some p)
def J108x0x27 (L x : List Lf) (kr : List Lf → Option R) (k0 : Int × Int → Option R) : Option R := S108x0x27 N (ll L 1) (li L 2) (li x 0) (li x 1) (li x 2) (fun w3 w5 w6 => kr [.i w3, .i w5, .i w6]) k0
theorem sb108x0x27 (L x : List Lf) (kr : List Lf → Option R) (k0 : Int × Int → Option R) : J108x0x27 N L x kr k0 = (J108x0x27 N L x (fun y => some (.inl y)) (fun p => some (.inr p))).bind (sumE kr k0) := by
 unfold J108x0x27 S108x0x27
 repeat' (first | with_reducible apply cond_b | (with_reducible apply bnd_b; intro _) | rfl)
def Q108x0x27 (L : List Lf) (m : Nat) (x : List Lf) : Option (Int × Int) := L108x0x27 N (R := (Int × Int)) (ll L 1) (li L 2) m (li x 0) (li x 1) (li x 2) (fun p => some p)
def sh108x0x27 : Sh := { tmps := [(3, .c (.p 3 0)), (4, .c (.p 4 0)), (31, .c (.sl 3)), (32, .c (.i .i64)), (33, .c (.i .i64))], mem := [(3, .box (rI 7 ([]))), (4, .box (rI 7 ([])))] }
def K108x0x27w0 (L : List Lf) (p : Int × Int) : Ex × St := ((.exit 2), mg (ofSh sh108x0x27 L) [4, 3] [] [4, 3] [(3, .box (.i .i64 (li L 4) :: .i .i64 p.1 :: .i .i64 p.2 :: rL L 7 4 ([])))])
def A108x0x27 (L : List Lf) : List (Bool × (Ex × St)) := bnd (Q108x0x27 N L N (pk sh108x0x27 [3, 5, 6] L)) fun q => [(q.isSome, K108x0x27w0 L (q.getD default))]
theorem step108x0x27 (m : Nat) (kn : St → Option (Ex × St)) (L x : List Lf) : lpB Tryz.prog (T107x0 N) (h108x0s2 N).h 0 108 27 sh108x0x27 [3, 5, 6] [4, 3] [4, 3] (m + 100) kn L x = J108x0x27 N L x (fun y => kn (ofSh sh108x0x27 (mx sh108x0x27 [3, 5, 6] L y))) (fun p => some (K108x0x27w0 L p)) := by kernel_rfl
theorem ql108x0x27 (L : List Lf) (m : Nat) (x : List Lf) : Q108x0x27 N L (m + 1) x = J108x0x27 N L x (Q108x0x27 N L m) some := by kernel_rfl
def h108x0s3 : Sg Tryz.prog 0 108 :=
 (h108x0s2 N).lp (A108x0x27 N) N progOk (T107x0_ok N) (fun m kn L x => (step108x0x27 N m kn L x).trans (sb108x0x27 N L x _ _)) (fun L m x => (ql108x0x27 N L m x).trans (sb108x0x27 N L x (Q108x0x27 N L m) some)) fun L x hx => alt1 x hx
def F108x0 (v1 v2 v3 v4 : Bool) (v6 : LD) (v10 v11 v12 v13 v14 v15 : Int) (k0 : Int × Int × Int × Int × Int × Int → Option R) : Option R :=
 bnd (V108x0x23 N v4 v12) fun y0 =>
 bnd (G108x0x27 N v6 (v6.length : Int) 0 v10 v11) fun y1 =>
 bif y1.isSome then
  k0 ((y1.getD default).1, (y1.getD default).2, y0, (bif v1 then (-1) else v13), (bif v2 then (-1) else v14), (bif v3 then (-1) else v15))
 else
  none
def G108x0 (v1 v2 v3 v4 : Bool) (v6 : LD) (v10 v11 v12 v13 v14 v15 : Int) : Option (Int × Int × Int × Int × Int × Int) := F108x0 N v1 v2 v3 v4 v6 v10 v11 v12 v13 v14 v15 (fun p => some p)
theorem bind108x0 (v1 v2 v3 v4 : Bool) (v6 : LD) (v10 v11 v12 v13 v14 v15 : Int) (k0 : Int × Int × Int × Int × Int × Int → Option R) : F108x0 N v1 v2 v3 v4 v6 v10 v11 v12 v13 v14 v15 k0 = (G108x0 N v1 v2 v3 v4 v6 v10 v11 v12 v13 v14 v15).bind k0 := by
 unfold G108x0 F108x0
 repeat' (first | with_reducible apply cond_b | (with_reducible apply bnd_b; intro _) | rfl)
def J108x0 (L : List Lf) (k0 : Int × Int × Int × Int × Int × Int → Option R) : Option R := F108x0 N (lb L 1) (lb L 2) (lb L 3) (lb L 4) (ll L 6) (li L 10) (li L 11) (li L 12) (li L 13) (li L 14) (li L 15) k0
def sh108x0 : Sh := { tmps := [(0, .g (rB 5 ([.sl 3, .b, .b]))), (1, .g (rI 7 ([])))], mem := [] }
def K108x0w0 (L : List Lf) (p : Int × Int × Int × Int × Int × Int) : Res := let p1 := p.2; let p2 := p1.2; let p3 := p2.2; let p4 := p3.2; let p5 := p4.2; ([.g [.i .i64 (li L 9), .i .i64 p.1, .i .i64 p1.1, .i .i64 p2.1, .i .i64 p3.1, .i .i64 p4.1, .i .i64 p5]], [])
def A108x0 (L : List Lf) : List (Bool × Res) := bnd (J108x0 N L (fun p => some p)) fun q => [(q.isSome, K108x0w0 L (q.getD default))]
theorem raw108x0 (L : List Lf) : bd Tryz.prog (T107x0 N) (h108x0s3 N).h 108 sh108x0 L = J108x0 N L (fun p => some (K108x0w0 L p)) := by kernel_rfl
theorem ok108x0 : FnOk Tryz.prog 108 sh108x0 (A108x0 N) :=
 (h108x0s3 N).fn progOk (T107x0_ok N) fun L x hx => ((raw108x0 N L).trans ((bind108x0 N ..).trans (alt1 x hx)))
def T108x0 : Oracle := ext 108 (spSh sh108x0 (A108x0 N)) (T107x0 N)
theorem T108x0_ok : OracleOk Tryz.prog (T108x0 N) := FnOk.to (ok108x0 N) (T107x0_ok N)
def rg81x0 : List (Nat × List Nat) := [(0, [0, 1, 2]), (1, [2, 4, 3, 6]), (2, [4, 7, 3, 2, 6]), (3, [3, 8, 2, 7, 4, 6]), (4, [8, 3, 2, 7, 4, 6]), (5, [3, 8, 2, 7, 4, 6]), (6, [8, 2, 3, 7, 4, 6]), (7, [2, 3, 7, 8, 4, 6]), (8, [2, 9, 3, 7, 8, 4, 6]), (9, [43, 42, 41, 9, 3, 7, 8, 4, 6]), (10, [41, 43, 9, 3, 7, 8, 42, 4, 6]), (11, [9, 11, 3, 7, 8, 43, 42, 41, 4, 6]), (12, [3, 11, 7, 8, 43, 42, 41, 9, 4, 6]), (13, [11, 7, 8, 43, 42, 41, 9, 3, 4, 6]), (14, [8, 11, 43, 42, 41, 9, 3, 7, 4, 6]), (15, [43, 42, 41, 9, 3, 7, 8, 4, 6]), (16, [4, 9, 7, 3, 8, 6]), (17, [68, 67, 66, 9, 7, 3, 8, 6]), (18, [66, 68, 9, 67, 7, 3, 8, 6]), (19, [9, 13, 68, 67, 66, 7, 3, 8, 6]), (20, [13, 7, 3, 8, 68, 67, 66, 9, 6]), (21, [3, 13, 8, 68, 67, 66, 9, 7, 6]), (22, [13, 8, 68, 67, 66, 9, 7, 3, 6]), (23, [8, 13, 68, 67, 66, 9, 7, 3, 6]), (24, [68, 67, 66, 9, 7, 3, 8, 6]), (25, [8, 6])]
def hd81x0 : Hints := [(7, [2, 3, 4, 6, 7], [3, 4, 6], []), (14, [2, 3, 4, 6, 7, 8, 31], [3, 4, 6, 8, 29000000007], []), (20, [2, 3, 4, 6, 7, 8, 35], [3, 4, 6, 8, 29000000007], []), (27, [3, 4, 6, 7, 8, 9, 41, 42, 43], [3, 4, 6, 8, 40, 50008003, 50008004, 29000000007], [50008004, 50008003]), (51, [3, 6, 7, 8, 9, 66, 67, 68], [3, 6, 8, 40, 50008003, 50008004, 29000000007], [50008004, 50008003]), (68, [3, 6, 7, 8, 9, 13, 66, 67, 68, 95], [3, 6, 8, 13, 40, 50008003, 50008004, 29000000007], [])]
def h81x0s0 (N : Nat) : Sg Tryz.prog 0 81 := .start hd81x0 rg81x0
def F81x0x7 (w2 w14 : Int) (w19 : Bool) (w20 : LD) (k0 : Int → Option R) (k1 : Int × Bool → Option R) : Option R :=
 bnd (G106x0 N w19 w20) fun y0 =>
 bif (inlB y0) then
  k0 (IntKind.wrap .i64 (w14 + w2))
 else
  bif (inrQ y0).isSome then
   k1 ((IntKind.wrap .i64 (w14 + w2)), ((inrQ y0).getD default))
  else
   none
def G81x0x7 (w2 w14 : Int) (w19 : Bool) (w20 : LD) : Option (Sum (Int) (Int × Bool)) := F81x0x7 N w2 w14 w19 w20 (fun p => some (.inl p)) (fun p => some (.inr p))
theorem bind81x0x7 (w2 w14 : Int) (w19 : Bool) (w20 : LD) (k0 : Int → Option R) (k1 : Int × Bool → Option R) : F81x0x7 N w2 w14 w19 w20 k0 k1 = (G81x0x7 N w2 w14 w19 w20).bind (sumE k0 k1) := by
 unfold G81x0x7 F81x0x7
 repeat' (first | with_reducible apply cond_b | (with_reducible apply bnd_b; intro _) | rfl)
def J81x0x7 (L : List Lf) (k0 : Int → Option R) (k1 : Int × Bool → Option R) : Option R := F81x0x7 N (li L 2) (li L 14) (lb L 19) (ll L 20) k0 k1
def sh81x0x7 : Sh := { tmps := [(2, .c (.sl 47)), (3, .c (.p 3 0)), (4, .c (.p 4 0)), (6, .c (.p 6 0)), (7, .c (.i .i64))], mem := [(3, .box (rB 5 ([.sl 3, .b, .b]))), (4, .box (.s :: [.i .i64, .i .i64, .sl 47, .sl 110, .sl 9])), (6, .box (.s :: [.i .i64, .i .i64, .sl 47, .sl 110, .sl 9]))] }
def K81x0x7w0 (L : List Lf) (p : Int) : Ex × St := (.normal, mg (ofSh sh81x0x7 L) [3, 8, 2, 7, 4, 6] [(8, .c (.p 8 0))] [8, 6, 4, 3] [(8, .box [.s (ls L 12), .i .i64 (li L 13), .i .i64 p, .sl 47 true [], .sl 110 true [], .sl 9 true []])])
def K81x0x7w1 (L : List Lf) (p : Int × Bool) : Ex × St := (.normal, mg (ofSh sh81x0x7 L) [3, 8, 2, 7, 4, 6] [(8, .c (.p 8 0))] [8, 6, 4, 3, 29000000007] [(8, .box [.s (ls L 12), .i .i64 (li L 13), .i .i64 p.1, .sl 47 true [], .sl 110 true [], .o 29000000007]), (29000000007, .row 9 true p.2 (ll L 20))])
def A81x0x7 (L : List Lf) : List (Bool × (Ex × St)) := bnd (J81x0x7 N L (fun p => some (.inl p)) (fun p => some (.inr p))) fun q => [((inlB q), K81x0x7w0 L (inlV q)), ((inrQ q).isSome, K81x0x7w1 L ((inrQ q).getD default))]
theorem raw81x0x7 (L : List Lf) : pc Tryz.prog (T108x0 N) (h81x0s0 N).h 0 100 81 7 sh81x0x7 L [3, 8, 2, 7, 4, 6] [8, 6, 4, 3, 29000000007] = J81x0x7 N L (fun p => some (K81x0x7w0 L p)) (fun p => some (K81x0x7w1 L p)) := by kernel_rfl
def h81x0s1 : Sg Tryz.prog 0 81 :=
 (h81x0s0 N).cut (A81x0x7 N) progOk (T108x0_ok N) fun L x hx => (raw81x0x7 N L).trans ((bind81x0x7 N ..).trans ((altS alt1) x hx))
def F81x0x14 (N : Nat) (w3 : Bool) (w31 : LB) (w38 : Bool) (w39 : LD) (k0 : LB × Bool × LD → R) : R :=
 bif w3 then
  k0 (([97, 99, 116, 105, 118, 105, 116, 121] : List UInt8), true, [])
 else
  k0 (w31, w38, w39)
def V81x0x14 (w3 : Bool) (w31 : LB) (w38 : Bool) (w39 : LD) : LB × Bool × LD := F81x0x14 N w3 w31 w38 w39 (fun p => p)
theorem tot81x0x14 (w3 : Bool) (w31 : LB) (w38 : Bool) (w39 : LD) (k0 : LB × Bool × LD → R) : F81x0x14 N w3 w31 w38 w39 k0 = k0 (V81x0x14 N w3 w31 w38 w39) := by
 unfold V81x0x14 F81x0x14
 repeat' (first | rfl | apply cond_k | (apply bnd_k; intro _))
def J81x0x14 (L : List Lf) (k0 : LB × Bool × LD → R) : R := F81x0x14 N (lb L 3) (ls L 31) (lb L 38) (ll L 39) k0
def sh81x0x14 : Sh := { tmps := [(2, .c (.sl 47)), (3, .c (.p 3 0)), (4, .c (.p 4 0)), (6, .c (.p 6 0)), (7, .c (.i .i64)), (8, .c (.p 8 0)), (31, .c (.b))], mem := [(3, .box (rB 5 ([.sl 3, .b, .b]))), (4, .box (.s :: [.i .i64, .i .i64, .sl 47, .sl 110, .sl 9])), (6, .box (.s :: [.i .i64, .i .i64, .sl 47, .sl 110, .sl 9])), (8, .box (.s :: [.i .i64, .i .i64, .sl 47, .sl 110, .sl 9]))] }
def K81x0x14w0 (L : List Lf) (p : LB × Bool × LD) : Ex × St := (.normal, mg (ofSh sh81x0x14 L) [3, 8, 2, 7, 4, 6] [] [8, 6, 4, 3] [(8, .box [.s p.1, .i .i64 (li L 32), .i .i64 (li L 33), .sl 47 (lb L 34) (ll L 35), .sl 110 (lb L 36) (ll L 37), .sl 9 p.2.1 p.2.2])])
def A81x0x14 (L : List Lf) : List (Bool × (Ex × St)) := bnd (J81x0x14 N L (fun p => p)) fun q => [(true, K81x0x14w0 L q)]
theorem raw81x0x14 (L : List Lf) : pc Tryz.prog (T108x0 N) (h81x0s1 N).h 0 100 81 14 sh81x0x14 L [3, 8, 2, 7, 4, 6] [8, 6, 4, 3] = J81x0x14 N L (fun p => some (K81x0x14w0 L p)) := by kernel_rfl
def h81x0s2 : Sg Tryz.prog 0 81 :=
 (h81x0s1 N).cut (A81x0x14 N) progOk (T108x0_ok N) fun L x hx => (raw81x0x14 N L).trans ((tot81x0x14 N ..).trans (alt0 _ _ hx))
def F81x0x20 (w3 : Bool) (w33 : Int) (k0 : Int → Option R) : Option R :=
 bif w3 then
  bnd (G107x0 N w33 86400) fun y0 =>
  bif y0.isSome then
   k0 (y0.getD default)
  else
   none
 else
  k0 w33
def G81x0x20 (w3 : Bool) (w33 : Int) : Option (Int) := F81x0x20 N w3 w33 (fun p => some p)
theorem bind81x0x20 (w3 : Bool) (w33 : Int) (k0 : Int → Option R) : F81x0x20 N w3 w33 k0 = (G81x0x20 N w3 w33).bind k0 := by
 unfold G81x0x20 F81x0x20
 repeat' (first | with_reducible apply cond_b | (with_reducible apply bnd_b; intro _) | rfl)
def sh81x0x20 : Sh := { tmps := [(2, .c (.sl 47)), (3, .c (.p 3 0)), (4, .c (.p 4 0)), (6, .c (.p 6 0)), (7, .c (.i .i64)), (8, .c (.p 8 0)), (35, .c (.b))], mem := [(3, .box (rB 5 ([.sl 3, .b, .b]))), (4, .box (.s :: [.i .i64, .i .i64, .sl 47, .sl 110, .sl 9])), (6, .box (.s :: [.i .i64, .i .i64, .sl 47, .sl 110, .sl 9])), (8, .box (.s :: [.i .i64, .i .i64, .sl 47, .sl 110, .sl 9]))] }
def K81x0x20w0 (L : List Lf) (p : Int) : Ex × St := (.normal, mg (ofSh sh81x0x20 L) [2, 3, 7, 8, 4, 6] [] [8, 6, 4, 3] [(8, .box [.s (ls L 31), .i .i64 (li L 32), .i .i64 p, .sl 47 (lb L 34) (ll L 35), .sl 110 (lb L 36) (ll L 37), .sl 9 (lb L 38) (ll L 39)])])
def A81x0x20 (L : List Lf) : List (Bool × (Ex × St)) := bnd (F81x0x20 N (lb L 3) (li L 33) (fun p => some p)) fun q => [(q.isSome, K81x0x20w0 L (q.getD default))]
theorem raw81x0x20 (L : List Lf) : pc Tryz.prog (T108x0 N) (h81x0s2 N).h 0 100 81 20 sh81x0x20 L [2, 3, 7, 8, 4, 6] [8, 6, 4, 3] = F81x0x20 N (lb L 3) (li L 33) (fun p => some (K81x0x20w0 L p)) := by kernel_rfl
def h81x0s3 : Sg Tryz.prog 0 81 :=
 (h81x0s2 N).cut (A81x0x20 N) progOk (T108x0_ok N) fun L x hx => (raw81x0x20 N L).trans ((bind81x0x20 N ..).trans (alt1 x hx))
def S81x0x27 (w0 : Int) (w2 : LD) (w3 : Int) (w6 w7 w8 w9 : Bool) (w11 : LD) (w4 : Int) (w37 : (List (D × D))) (w38 : Bool) (w39 : LD) (kr : Int → (List (D × D)) → Bool → LD → Option R) (k0 : Ty7 → Option R) : Option R :=
 bif (decide (w4 < w3)) then
  bif (inB w4 w2.length) then
   bnd (putB Tryz.prog 3 (.i ((w2.getD w4.toNat (.i 0)).cell 0).toI) (.b true) w37) fun y0 =>
   bnd (G108x0 N w6 w7 w8 w9 w11 ((w2.getD w4.toNat (.i 0)).cell 1).toI ((w2.getD w4.toNat (.i 0)).cell 2).toI ((w2.getD w4.toNat (.i 0)).cell 3).toI ((w2.getD w4.toNat (.i 0)).cell 4).toI ((w2.getD w4.toNat (.i 0)).cell 5).toI ((w2.getD w4.toNat (.i 0)).cell 6).toI) fun y1 =>
   bif y1.isSome then
    bnd (IntKind.wrap .i64 (((w2.getD w4.toNat (.i 0)).cell 0).toI - w0)) fun y2 =>
    bif (decide ((w39.length + 1) * 56 ≤ room) && decide ((w39.length + 1) ≤ strMax)) then
     bnd ((w39 ++ [(.a [(.i y2), (.i (y1.getD default).1), (.i (y1.getD default).2.1), (.i (y1.getD default).2.2.1), (.i (y1.getD default).2.2.2.1), (.i (y1.getD default).2.2.2.2.1), (.i (y1.getD default).2.2.2.2.2)])]) : List D) fun y3 =>
     kr (IntKind.wrap .i64 (w4 + 1)) y0 false y3
    else
     none
   else
    none
  else
   none
 else
  k0 (w37, w38, w39)
def L81x0x27 (N : Nat) {R : Type} (w0 : Int) (w2 : LD) (w3 : Int) (w6 w7 w8 w9 : Bool) (w11 : LD) : Nat → Int → (List (D × D)) → Bool → LD → (Ty7 → Option R) → Option R
 | 0, _, _, _, _, _ => none
 | m + 1, w4, w37, w38, w39, k0 => S81x0x27 N w0 w2 w3 w6 w7 w8 w9 w11 w4 w37 w38 w39 (fun w4 w37 w38 w39 => L81x0x27 N w0 w2 w3 w6 w7 w8 w9 w11 m w4 w37 w38 w39 k0) k0
def G81x0x27 (w0 : Int) (w2 : LD) (w3 : Int) (w6 w7 w8 w9 : Bool) (w11 : LD) (w4 : Int) (w37 : (List (D × D))) (w38 : Bool) (w39 : LD) : Option (Ty7) := L81x0x27 N (R := (Ty7)) w0 w2 w3 w6 w7 w8 w9 w11 N w4 w37 w38 w39 (fun p => some p)
def J81x0x27 (L x : List Lf) (kr : List Lf → Option R) (k0 : Ty7 → Option R) : Option R := S81x0x27 N (li L 0) (ll L 2) (li L 3) (lb L 6) (lb L 7) (lb L 8) (lb L 9) (ll L 11) (li x 0) (lm x 1) (lb x 2) (ll x 3) (fun w4 w37 w38 w39 => kr [.i w4, .m w37, .b w38, .l w39]) k0
theorem sb81x0x27 (L x : List Lf) (kr : List Lf → Option R) (k0 : Ty7 → Option R) : J81x0x27 N L x kr k0 = (J81x0x27 N L x (fun y => some (.inl y)) (fun p => some (.inr p))).bind (sumE kr k0) := by
 unfold J81x0x27 S81x0x27
 repeat' (first | with_reducible apply cond_b | (with_reducible apply bnd_b; intro _) | rfl)
def Q81x0x27 (L : List Lf) (m : Nat) (x : List Lf) : Option (Ty7) := L81x0x27 N (R := (Ty7)) (li L 0) (ll L 2) (li L 3) (lb L 6) (lb L 7) (lb L 8) (lb L 9) (ll L 11) m (li x 0) (lm x 1) (lb x 2) (ll x 3) (fun p => some p)
def sh81x0x27 : Sh := { tmps := [(3, .c (.p 3 0)), (4, .c (.p 4 0)), (6, .c (.p 6 0)), (7, .c (.i .i64)), (8, .c (.p 8 0)), (9, .c (.m 40)), (41, .c (.sl 47)), (42, .c (.i .i64)), (43, .c (.i .i64))], mem := [(3, .box (rB 5 ([.sl 3, .b, .b]))), (4, .box (.s :: [.i .i64, .i .i64, .sl 47, .sl 110, .sl 9])), (6, .box (.s :: [.i .i64, .i .i64, .sl 47, .sl 110, .sl 9])), (8, .box (.s :: [.i .i64, .i .i64, .o 50008003, .o 50008004, .sl 9])), (40, .map 3 4), (50008003, .row 47 true), (50008004, .row 110 true)] }
def K81x0x27w0 (L : List Lf) (p : Ty7) : Ex × St := ((.exit 0), mg (ofSh sh81x0x27 L) [6, 4, 9, 7, 3, 8] [] [40, 50008004, 50008003, 8, 6, 4, 3] [(40, .map 3 4 p.1), (50008003, .row 47 true p.2.1 p.2.2)])
def A81x0x27 (L : List Lf) : List (Bool × (Ex × St)) := bnd (Q81x0x27 N L N (pk sh81x0x27 [4, 37, 38, 39] L)) fun q => [(q.isSome, K81x0x27w0 L (q.getD default))]
theorem step81x0x27 (m : Nat) (kn : St → Option (Ex × St)) (L x : List Lf) : lpB Tryz.prog (T108x0 N) (h81x0s3 N).h 0 81 27 sh81x0x27 [4, 37, 38, 39] [6, 4, 9, 7, 3, 8] [40, 50008004, 50008003, 8, 6, 4, 3] (m + 100) kn L x = J81x0x27 N L x (fun y => kn (ofSh sh81x0x27 (mx sh81x0x27 [4, 37, 38, 39] L y))) (fun p => some (K81x0x27w0 L p)) := by kernel_rfl
theorem ql81x0x27 (L : List Lf) (m : Nat) (x : List Lf) : Q81x0x27 N L (m + 1) x = J81x0x27 N L x (Q81x0x27 N L m) some := by kernel_rfl
def h81x0s4 : Sg Tryz.prog 0 81 :=
 (h81x0s3 N).lp (A81x0x27 N) N progOk (T108x0_ok N) (fun m kn L x => (step81x0x27 N m kn L x).trans (sb81x0x27 N L x _ _)) (fun L m x => (ql81x0x27 N L m x).trans (sb81x0x27 N L x (Q81x0x27 N L m) some)) fun L x hx => alt1 x hx
def F81x0x68 (N : Nat) (w5 : Bool) (w31 : LB) (k0 : LB → R) : R :=
 bif w5 then
  k0 ([] : List UInt8)
 else
  k0 w31
def V81x0x68 (w5 : Bool) (w31 : LB) : LB := F81x0x68 N w5 w31 (fun p => p)
theorem tot81x0x68 (w5 : Bool) (w31 : LB) (k0 : LB → R) : F81x0x68 N w5 w31 k0 = k0 (V81x0x68 N w5 w31) := by
 unfold V81x0x68 F81x0x68
 repeat' (first | rfl | apply cond_k | (apply bnd_k; intro _))
def sh81x0x68 : Sh := { tmps := [(3, .c (.p 3 0)), (6, .c (.p 6 0)), (7, .c (.i .i64)), (8, .c (.p 8 0)), (9, .c (.m 40)), (13, .c (.p 13 0)), (66, .c (.sl 110)), (67, .c (.i .i64)), (68, .c (.i .i64)), (95, .c (.b))], mem := [(3, .box (rB 5 ([.sl 3, .b, .b]))), (6, .box (.s :: [.i .i64, .i .i64, .sl 47, .sl 110, .sl 9])), (8, .box (.s :: [.i .i64, .i .i64, .o 50008003, .o 50008004, .sl 9])), (13, .box ([.i .i64, .i .i64, .s])), (40, .map 3 4), (50008003, .row 47 true), (50008004, .row 110 true)] }
def K81x0x68w0 (L : List Lf) (p : LB) : Ex × St := (.normal, mg (ofSh sh81x0x68 L) [8, 13, 68, 67, 66, 9, 7, 3, 6] [] [13, 40, 50008004, 50008003, 8, 6, 3] [(13, .box [.i .i64 (li L 29), .i .i64 (li L 30), .s p])])
def A81x0x68 (L : List Lf) : List (Bool × (Ex × St)) := bnd (F81x0x68 N (lb L 5) (ls L 31) (fun p => p)) fun q => [(true, K81x0x68w0 L q)]
theorem raw81x0x68 (L : List Lf) : pc Tryz.prog (T108x0 N) (h81x0s4 N).h 0 100 81 68 sh81x0x68 L [8, 13, 68, 67, 66, 9, 7, 3, 6] [13, 40, 50008004, 50008003, 8, 6, 3] = F81x0x68 N (lb L 5) (ls L 31) (fun p => some (K81x0x68w0 L p)) := by kernel_rfl
def h81x0s5 : Sg Tryz.prog 0 81 :=
 (h81x0s4 N).cut (A81x0x68 N) progOk (T108x0_ok N) fun L x hx => (raw81x0x68 N L).trans ((tot81x0x68 N ..).trans (alt0 _ _ hx))
def S81x0x51 (w0 : Int) (w2 : LD) (w3 : Int) (w13 : Bool) (w28 : (List (D × D))) (w4 : Int) (w31 : Bool) (w32 : LD) (kr : Int → Bool → LD → Option R) (k0 : Bool × LD → Option R) : Option R :=
 bif (decide (w4 < w3)) then
  bif (inB w4 w2.length) then
   bnd ((findB Tryz.prog 3 (.i ((w2.getD w4.toNat (.i 0)).cell 0).toI) w28).getD (.b false)).toB fun y0 =>
   bnd (bif (!y0) then true else (!((findB Tryz.prog 3 (.i ((w2.getD w4.toNat (.i 0)).cell 1).toI) w28).getD (.b false)).toB)) fun y1 =>
   bif y1 then
    kr (IntKind.wrap .i64 (w4 + 1)) w31 w32
   else
    bnd (IntKind.wrap .i64 (((w2.getD w4.toNat (.i 0)).cell 0).toI - w0)) fun y2 =>
    bnd (IntKind.wrap .i64 (((w2.getD w4.toNat (.i 0)).cell 1).toI - w0)) fun y3 =>
    bnd (V81x0x68 N w13 ((w2.getD w4.toNat (.i 0)).cell 2).toS) fun y4 =>
    bif (decide ((w32.length + 1) * 32 ≤ room) && decide ((w32.length + 1) ≤ strMax)) then
     bnd ((w32 ++ [(.a [(.i y2), (.i y3), (.s y4)])]) : List D) fun y5 =>
     kr (IntKind.wrap .i64 (w4 + 1)) false y5
    else
     none
  else
   none
 else
  k0 (w31, w32)
def L81x0x51 (N : Nat) {R : Type} (w0 : Int) (w2 : LD) (w3 : Int) (w13 : Bool) (w28 : (List (D × D))) : Nat → Int → Bool → LD → (Bool × LD → Option R) → Option R
 | 0, _, _, _, _ => none
 | m + 1, w4, w31, w32, k0 => S81x0x51 N w0 w2 w3 w13 w28 w4 w31 w32 (fun w4 w31 w32 => L81x0x51 N w0 w2 w3 w13 w28 m w4 w31 w32 k0) k0
def G81x0x51 (w0 : Int) (w2 : LD) (w3 : Int) (w13 : Bool) (w28 : (List (D × D))) (w4 : Int) (w31 : Bool) (w32 : LD) : Option (Bool × LD) := L81x0x51 N (R := (Bool × LD)) w0 w2 w3 w13 w28 N w4 w31 w32 (fun p => some p)
def J81x0x51 (L x : List Lf) (kr : List Lf → Option R) (k0 : Bool × LD → Option R) : Option R := S81x0x51 N (li L 0) (ll L 2) (li L 3) (lb L 13) (lm L 28) (li x 0) (lb x 1) (ll x 2) (fun w4 w31 w32 => kr [.i w4, .b w31, .l w32]) k0
theorem sb81x0x51 (L x : List Lf) (kr : List Lf → Option R) (k0 : Bool × LD → Option R) : J81x0x51 N L x kr k0 = (J81x0x51 N L x (fun y => some (.inl y)) (fun p => some (.inr p))).bind (sumE kr k0) := by
 unfold J81x0x51 S81x0x51
 repeat' (first | with_reducible apply cond_b | (with_reducible apply bnd_b; intro _) | rfl)
def Q81x0x51 (L : List Lf) (m : Nat) (x : List Lf) : Option (Bool × LD) := L81x0x51 N (R := (Bool × LD)) (li L 0) (ll L 2) (li L 3) (lb L 13) (lm L 28) m (li x 0) (lb x 1) (ll x 2) (fun p => some p)
def sh81x0x51 : Sh := { tmps := [(3, .c (.p 3 0)), (6, .c (.p 6 0)), (7, .c (.i .i64)), (8, .c (.p 8 0)), (9, .c (.m 40)), (66, .c (.sl 110)), (67, .c (.i .i64)), (68, .c (.i .i64))], mem := [(3, .box (rB 5 ([.sl 3, .b, .b]))), (6, .box (.s :: [.i .i64, .i .i64, .sl 47, .sl 110, .sl 9])), (8, .box (.s :: [.i .i64, .i .i64, .o 50008003, .o 50008004, .sl 9])), (40, .map 3 4), (50008003, .row 47 true), (50008004, .row 110 true)] }
def K81x0x51w0 (L : List Lf) (p : Bool × LD) : Ex × St := ((.exit 2), mg (ofSh sh81x0x51 L) [6, 8] [] [50008004, 50008003, 8, 6] [(50008004, .row 110 true p.1 p.2)])
def A81x0x51 (L : List Lf) : List (Bool × (Ex × St)) := bnd (Q81x0x51 N L N (pk sh81x0x51 [4, 31, 32] L)) fun q => [(q.isSome, K81x0x51w0 L (q.getD default))]
theorem step81x0x51 (m : Nat) (kn : St → Option (Ex × St)) (L x : List Lf) : lpB Tryz.prog (T108x0 N) (h81x0s5 N).h 0 81 51 sh81x0x51 [4, 31, 32] [6, 8] [50008004, 50008003, 8, 6] (m + 100) kn L x = J81x0x51 N L x (fun y => kn (ofSh sh81x0x51 (mx sh81x0x51 [4, 31, 32] L y))) (fun p => some (K81x0x51w0 L p)) := by kernel_rfl
theorem ql81x0x51 (L : List Lf) (m : Nat) (x : List Lf) : Q81x0x51 N L (m + 1) x = J81x0x51 N L x (Q81x0x51 N L m) some := by kernel_rfl
def h81x0s6 : Sg Tryz.prog 0 81 :=
 (h81x0s5 N).lp (A81x0x51 N) N progOk (T108x0_ok N) (fun m kn L x => (step81x0x51 N m kn L x).trans (sb81x0x51 N L x _ _)) (fun L m x => (ql81x0x51 N L m x).trans (sb81x0x51 N L x (Q81x0x51 N L m) some)) fun L x hx => alt1 x hx
def F81x0x14b (N : Nat) (w3 : Bool) (k0 : LB → Option R) (k1 : Unit → Option R) : Option R :=
 bif w3 then
  k0 ([97, 99, 116, 105, 118, 105, 116, 121] : List UInt8)
 else
  k1 ()
def G81x0x14b (w3 : Bool) : Option (Sum (LB) (Unit)) := F81x0x14b N w3 (fun p => some (.inl p)) (fun p => some (.inr p))
theorem bind81x0x14b (w3 : Bool) (k0 : LB → Option R) (k1 : Unit → Option R) : F81x0x14b N w3 k0 k1 = (G81x0x14b N w3).bind (sumE k0 k1) := by
 unfold G81x0x14b F81x0x14b
 repeat' (first | with_reducible apply cond_b | (with_reducible apply bnd_b; intro _) | rfl)
def sh81x0x14b : Sh := { tmps := [(2, .c (.sl 47)), (3, .c (.p 3 0)), (4, .c (.p 4 0)), (6, .c (.p 6 0)), (7, .c (.i .i64)), (8, .c (.p 8 0)), (31, .c (.b))], mem := [(3, .box (rB 5 ([.sl 3, .b, .b]))), (4, .box (.s :: [.i .i64, .i .i64, .sl 47, .sl 110, .sl 9])), (6, .box (.s :: [.i .i64, .i .i64, .sl 47, .sl 110, .sl 9])), (8, .box (.s :: [.i .i64, .i .i64, .sl 47, .sl 110, .o 29000000007])), (29000000007, .row 9 true)] }
def K81x0x14bw0 (L : List Lf) (p : LB) : Ex × St := (.normal, mg (ofSh sh81x0x14b L) [3, 8, 2, 7, 4, 6] [] [8, 6, 4, 3, 29000000007] [(8, .box [.s p, .i .i64 (li L 32), .i .i64 (li L 33), .sl 47 (lb L 34) (ll L 35), .sl 110 (lb L 36) (ll L 37), .sl 9 true []])])
def K81x0x14bw1 (L : List Lf) (_ : Unit) : Ex × St := (.normal, mg (ofSh sh81x0x14b L) [3, 8, 2, 7, 4, 6] [] [8, 6, 4, 3, 29000000007] [])
def A81x0x14b (L : List Lf) : List (Bool × (Ex × St)) := bnd (F81x0x14b N (lb L 3) (fun p => some (.inl p)) (fun p => some (.inr p))) fun q => [((inlB q), K81x0x14bw0 L (inlV q)), ((inrQ q).isSome, K81x0x14bw1 L ())]
theorem raw81x0x14b (L : List Lf) : pc Tryz.prog (T108x0 N) ((h81x0s6 N).no 14).h 0 100 81 14 sh81x0x14b L [3, 8, 2, 7, 4, 6] [8, 6, 4, 3, 29000000007] = F81x0x14b N (lb L 3) (fun p => some (K81x0x14bw0 L p)) (fun _ => some (K81x0x14bw1 L ())) := by kernel_rfl
def h81x0s7 : Sg Tryz.prog 0 81 :=
 (h81x0s6 N).add (((h81x0s6 N).no 14).cut (A81x0x14b N) progOk (T108x0_ok N) fun L x hx => (raw81x0x14b N L).trans ((bind81x0x14b N ..).trans ((altS alt1) x hx))) 14
def F81x0x20b (w3 : Bool) (w33 : Int) (k0 : Int → Option R) : Option R :=
 bif w3 then
  bnd (G107x0 N w33 86400) fun y0 =>
  bif y0.isSome then
   k0 (y0.getD default)
  else
   none
 else
  k0 w33
def G81x0x20b (w3 : Bool) (w33 : Int) : Option (Int) := F81x0x20b N w3 w33 (fun p => some p)
theorem bind81x0x20b (w3 : Bool) (w33 : Int) (k0 : Int → Option R) : F81x0x20b N w3 w33 k0 = (G81x0x20b N w3 w33).bind k0 := by
 unfold G81x0x20b F81x0x20b
 repeat' (first | with_reducible apply cond_b | (with_reducible apply bnd_b; intro _) | rfl)
def sh81x0x20b : Sh := { tmps := [(2, .c (.sl 47)), (3, .c (.p 3 0)), (4, .c (.p 4 0)), (6, .c (.p 6 0)), (7, .c (.i .i64)), (8, .c (.p 8 0)), (35, .c (.b))], mem := [(3, .box (rB 5 ([.sl 3, .b, .b]))), (4, .box (.s :: [.i .i64, .i .i64, .sl 47, .sl 110, .sl 9])), (6, .box (.s :: [.i .i64, .i .i64, .sl 47, .sl 110, .sl 9])), (8, .box (.s :: [.i .i64, .i .i64, .sl 47, .sl 110, .sl 9])), (29000000007, .row 9 true)] }
def K81x0x20bw0 (L : List Lf) (p : Int) : Ex × St := (.normal, mg (ofSh sh81x0x20b L) [2, 3, 7, 8, 4, 6] [] [8, 6, 4, 3] [(8, .box [.s (ls L 31), .i .i64 (li L 32), .i .i64 p, .sl 47 (lb L 34) (ll L 35), .sl 110 (lb L 36) (ll L 37), .sl 9 (lb L 38) (ll L 39)])])
def A81x0x20b (L : List Lf) : List (Bool × (Ex × St)) := bnd (F81x0x20b N (lb L 3) (li L 33) (fun p => some p)) fun q => [(q.isSome, K81x0x20bw0 L (q.getD default))]
theorem raw81x0x20b (L : List Lf) : pc Tryz.prog (T108x0 N) ((h81x0s7 N).no 20).h 0 100 81 20 sh81x0x20b L [2, 3, 7, 8, 4, 6] [8, 6, 4, 3] = F81x0x20b N (lb L 3) (li L 33) (fun p => some (K81x0x20bw0 L p)) := by kernel_rfl
def h81x0s8 : Sg Tryz.prog 0 81 :=
 (h81x0s7 N).add (((h81x0s7 N).no 20).cut (A81x0x20b N) progOk (T108x0_ok N) fun L x hx => (raw81x0x20b N L).trans ((bind81x0x20b N ..).trans (alt1 x hx))) 20
def F81x0x20bb (w3 : Bool) (w33 : Int) (k0 : Int → Option R) : Option R :=
 bif w3 then
  bnd (G107x0 N w33 86400) fun y0 =>
  bif y0.isSome then
   k0 (y0.getD default)
  else
   none
 else
  k0 w33
def G81x0x20bb (w3 : Bool) (w33 : Int) : Option (Int) := F81x0x20bb N w3 w33 (fun p => some p)
theorem bind81x0x20bb (w3 : Bool) (w33 : Int) (k0 : Int → Option R) : F81x0x20bb N w3 w33 k0 = (G81x0x20bb N w3 w33).bind k0 := by
 unfold G81x0x20bb F81x0x20bb
 repeat' (first | with_reducible apply cond_b | (with_reducible apply bnd_b; intro _) | rfl)
def sh81x0x20bb : Sh := { tmps := [(2, .c (.sl 47)), (3, .c (.p 3 0)), (4, .c (.p 4 0)), (6, .c (.p 6 0)), (7, .c (.i .i64)), (8, .c (.p 8 0)), (35, .c (.b))], mem := [(3, .box (rB 5 ([.sl 3, .b, .b]))), (4, .box (.s :: [.i .i64, .i .i64, .sl 47, .sl 110, .sl 9])), (6, .box (.s :: [.i .i64, .i .i64, .sl 47, .sl 110, .sl 9])), (8, .box (.s :: [.i .i64, .i .i64, .sl 47, .sl 110, .o 29000000007])), (29000000007, .row 9 true)] }
def K81x0x20bbw0 (L : List Lf) (p : Int) : Ex × St := (.normal, mg (ofSh sh81x0x20bb L) [2, 3, 7, 8, 4, 6] [] [29000000007, 8, 6, 4, 3] [(8, .box [.s (ls L 31), .i .i64 (li L 32), .i .i64 p, .sl 47 (lb L 34) (ll L 35), .sl 110 (lb L 36) (ll L 37), .o 29000000007])])
def A81x0x20bb (L : List Lf) : List (Bool × (Ex × St)) := bnd (F81x0x20bb N (lb L 3) (li L 33) (fun p => some p)) fun q => [(q.isSome, K81x0x20bbw0 L (q.getD default))]
theorem raw81x0x20bb (L : List Lf) : pc Tryz.prog (T108x0 N) ((h81x0s8 N).no 20).h 0 100 81 20 sh81x0x20bb L [2, 3, 7, 8, 4, 6] [29000000007, 8, 6, 4, 3] = F81x0x20bb N (lb L 3) (li L 33) (fun p => some (K81x0x20bbw0 L p)) := by kernel_rfl
def h81x0s9 : Sg Tryz.prog 0 81 :=
 (h81x0s8 N).add (((h81x0s8 N).no 20).cut (A81x0x20bb N) progOk (T108x0_ok N) fun L x hx => (raw81x0x20bb N L).trans ((bind81x0x20bb N ..).trans (alt1 x hx))) 20
def S81x0x27b (w0 : Int) (w2 : LD) (w3 : Int) (w6 w7 w8 w9 : Bool) (w11 : LD) (w4 : Int) (w35 : (List (D × D))) (w36 : Bool) (w37 : LD) (kr : Int → (List (D × D)) → Bool → LD → Option R) (k0 : Ty7 → Option R) : Option R :=
 bif (decide (w4 < w3)) then
  bif (inB w4 w2.length) then
   bnd (putB Tryz.prog 3 (.i ((w2.getD w4.toNat (.i 0)).cell 0).toI) (.b true) w35) fun y0 =>
   bnd (G108x0 N w6 w7 w8 w9 w11 ((w2.getD w4.toNat (.i 0)).cell 1).toI ((w2.getD w4.toNat (.i 0)).cell 2).toI ((w2.getD w4.toNat (.i 0)).cell 3).toI ((w2.getD w4.toNat (.i 0)).cell 4).toI ((w2.getD w4.toNat (.i 0)).cell 5).toI ((w2.getD w4.toNat (.i 0)).cell 6).toI) fun y1 =>
   bif y1.isSome then
    bnd (IntKind.wrap .i64 (((w2.getD w4.toNat (.i 0)).cell 0).toI - w0)) fun y2 =>
    bif (decide ((w37.length + 1) * 56 ≤ room) && decide ((w37.length + 1) ≤ strMax)) then
     bnd ((w37 ++ [(.a [(.i y2), (.i (y1.getD default).1), (.i (y1.getD default).2.1), (.i (y1.getD default).2.2.1), (.i (y1.getD default).2.2.2.1), (.i (y1.getD default).2.2.2.2.1), (.i (y1.getD default).2.2.2.2.2)])]) : List D) fun y3 =>
     kr (IntKind.wrap .i64 (w4 + 1)) y0 false y3
    else
     none
   else
    none
  else
   none
 else
  k0 (w35, w36, w37)
def L81x0x27b (N : Nat) {R : Type} (w0 : Int) (w2 : LD) (w3 : Int) (w6 w7 w8 w9 : Bool) (w11 : LD) : Nat → Int → (List (D × D)) → Bool → LD → (Ty7 → Option R) → Option R
 | 0, _, _, _, _, _ => none
 | m + 1, w4, w35, w36, w37, k0 => S81x0x27b N w0 w2 w3 w6 w7 w8 w9 w11 w4 w35 w36 w37 (fun w4 w35 w36 w37 => L81x0x27b N w0 w2 w3 w6 w7 w8 w9 w11 m w4 w35 w36 w37 k0) k0
def G81x0x27b (w0 : Int) (w2 : LD) (w3 : Int) (w6 w7 w8 w9 : Bool) (w11 : LD) (w4 : Int) (w35 : (List (D × D))) (w36 : Bool) (w37 : LD) : Option (Ty7) := L81x0x27b N (R := (Ty7)) w0 w2 w3 w6 w7 w8 w9 w11 N w4 w35 w36 w37 (fun p => some p)
def J81x0x27b (L x : List Lf) (kr : List Lf → Option R) (k0 : Ty7 → Option R) : Option R := S81x0x27b N (li L 0) (ll L 2) (li L 3) (lb L 6) (lb L 7) (lb L 8) (lb L 9) (ll L 11) (li x 0) (lm x 1) (lb x 2) (ll x 3) (fun w4 w35 w36 w37 => kr [.i w4, .m w35, .b w36, .l w37]) k0
theorem sb81x0x27b (L x : List Lf) (kr : List Lf → Option R) (k0 : Ty7 → Option R) : J81x0x27b N L x kr k0 = (J81x0x27b N L x (fun y => some (.inl y)) (fun p => some (.inr p))).bind (sumE kr k0) := by
 unfold J81x0x27b S81x0x27b
 repeat' (first | with_reducible apply cond_b | (with_reducible apply bnd_b; intro _) | rfl)
def Q81x0x27b (L : List Lf) (m : Nat) (x : List Lf) : Option (Ty7) := L81x0x27b N (R := (Ty7)) (li L 0) (ll L 2) (li L 3) (lb L 6) (lb L 7) (lb L 8) (lb L 9) (ll L 11) m (li x 0) (lm x 1) (lb x 2) (ll x 3) (fun p => some p)
def sh81x0x27b : Sh := { tmps := [(3, .c (.p 3 0)), (4, .c (.p 4 0)), (6, .c (.p 6 0)), (7, .c (.i .i64)), (8, .c (.p 8 0)), (9, .c (.m 40)), (41, .c (.sl 47)), (42, .c (.i .i64)), (43, .c (.i .i64))], mem := [(3, .box (rB 5 ([.sl 3, .b, .b]))), (4, .box (.s :: [.i .i64, .i .i64, .sl 47, .sl 110, .sl 9])), (6, .box (.s :: [.i .i64, .i .i64, .sl 47, .sl 110, .sl 9])), (8, .box (.s :: [.i .i64, .i .i64, .o 50008003, .o 50008004, .o 29000000007])), (40, .map 3 4), (50008003, .row 47 true), (50008004, .row 110 true), (29000000007, .row 9 true)] }
def K81x0x27bw0 (L : List Lf) (p : Ty7) : Ex × St := ((.exit 0), mg (ofSh sh81x0x27b L) [6, 4, 9, 7, 3, 8] [] [40, 29000000007, 50008004, 50008003, 8, 6, 4, 3] [(40, .map 3 4 p.1), (50008003, .row 47 true p.2.1 p.2.2)])
def A81x0x27b (L : List Lf) : List (Bool × (Ex × St)) := bnd (Q81x0x27b N L N (pk sh81x0x27b [4, 35, 36, 37] L)) fun q => [(q.isSome, K81x0x27bw0 L (q.getD default))]
theorem step81x0x27b (m : Nat) (kn : St → Option (Ex × St)) (L x : List Lf) : lpB Tryz.prog (T108x0 N) ((h81x0s9 N).no 27).h 0 81 27 sh81x0x27b [4, 35, 36, 37] [6, 4, 9, 7, 3, 8] [40, 29000000007, 50008004, 50008003, 8, 6, 4, 3] (m + 100) kn L x = J81x0x27b N L x (fun y => kn (ofSh sh81x0x27b (mx sh81x0x27b [4, 35, 36, 37] L y))) (fun p => some (K81x0x27bw0 L p)) := by kernel_rfl
theorem ql81x0x27b (L : List Lf) (m : Nat) (x : List Lf) : Q81x0x27b N L (m + 1) x = J81x0x27b N L x (Q81x0x27b N L m) some := by kernel_rfl
def h81x0s10 : Sg Tryz.prog 0 81 :=
 (h81x0s9 N).add (((h81x0s9 N).no 27).lp (A81x0x27b N) N progOk (T108x0_ok N) (fun m kn L x => (step81x0x27b N m kn L x).trans (sb81x0x27b N L x _ _)) (fun L m x => (ql81x0x27b N L m x).trans (sb81x0x27b N L x (Q81x0x27b N L m) some)) fun L x hx => alt1 x hx) 27
def F81x0x68b (N : Nat) (w5 : Bool) (w29 : LB) (k0 : LB → R) : R :=
 bif w5 then
  k0 ([] : List UInt8)
 else
  k0 w29
def V81x0x68b (w5 : Bool) (w29 : LB) : LB := F81x0x68b N w5 w29 (fun p => p)
theorem tot81x0x68b (w5 : Bool) (w29 : LB) (k0 : LB → R) : F81x0x68b N w5 w29 k0 = k0 (V81x0x68b N w5 w29) := by
 unfold V81x0x68b F81x0x68b
 repeat' (first | rfl | apply cond_k | (apply bnd_k; intro _))
def sh81x0x68b : Sh := { tmps := [(3, .c (.p 3 0)), (6, .c (.p 6 0)), (7, .c (.i .i64)), (8, .c (.p 8 0)), (9, .c (.m 40)), (13, .c (.p 13 0)), (66, .c (.sl 110)), (67, .c (.i .i64)), (68, .c (.i .i64)), (95, .c (.b))], mem := [(3, .box (rB 5 ([.sl 3, .b, .b]))), (6, .box (.s :: [.i .i64, .i .i64, .sl 47, .sl 110, .sl 9])), (8, .box (.s :: [.i .i64, .i .i64, .o 50008003, .o 50008004, .o 29000000007])), (13, .box ([.i .i64, .i .i64, .s])), (40, .map 3 4), (50008003, .row 47 true), (50008004, .row 110 true), (29000000007, .row 9 true)] }
def K81x0x68bw0 (L : List Lf) (p : LB) : Ex × St := (.normal, mg (ofSh sh81x0x68b L) [8, 13, 68, 67, 66, 9, 7, 3, 6] [] [13, 40, 29000000007, 50008004, 50008003, 8, 6, 3] [(13, .box [.i .i64 (li L 27), .i .i64 (li L 28), .s p])])
def A81x0x68b (L : List Lf) : List (Bool × (Ex × St)) := bnd (F81x0x68b N (lb L 5) (ls L 29) (fun p => p)) fun q => [(true, K81x0x68bw0 L q)]
theorem raw81x0x68b (L : List Lf) : pc Tryz.prog (T108x0 N) ((h81x0s10 N).no 68).h 0 100 81 68 sh81x0x68b L [8, 13, 68, 67, 66, 9, 7, 3, 6] [13, 40, 29000000007, 50008004, 50008003, 8, 6, 3] = F81x0x68b N (lb L 5) (ls L 29) (fun p => some (K81x0x68bw0 L p)) := by kernel_rfl
def h81x0s11 : Sg Tryz.prog 0 81 :=
 (h81x0s10 N).add (((h81x0s10 N).no 68).cut (A81x0x68b N) progOk (T108x0_ok N) fun L x hx => (raw81x0x68b N L).trans ((tot81x0x68b N ..).trans (alt0 _ _ hx))) 68
def S81x0x51b (w0 : Int) (w2 : LD) (w3 : Int) (w13 : Bool) (w26 : (List (D × D))) (w4 : Int) (w29 : Bool) (w30 : LD) (kr : Int → Bool → LD → Option R) (k0 : Bool × LD → Option R) : Option R :=
 bif (decide (w4 < w3)) then
  bif (inB w4 w2.length) then
   bnd ((findB Tryz.prog 3 (.i ((w2.getD w4.toNat (.i 0)).cell 0).toI) w26).getD (.b false)).toB fun y0 =>
   bnd (bif (!y0) then true else (!((findB Tryz.prog 3 (.i ((w2.getD w4.toNat (.i 0)).cell 1).toI) w26).getD (.b false)).toB)) fun y1 =>
   bif y1 then
    kr (IntKind.wrap .i64 (w4 + 1)) w29 w30
   else
    bnd (IntKind.wrap .i64 (((w2.getD w4.toNat (.i 0)).cell 0).toI - w0)) fun y2 =>
    bnd (IntKind.wrap .i64 (((w2.getD w4.toNat (.i 0)).cell 1).toI - w0)) fun y3 =>
    bnd (V81x0x68b N w13 ((w2.getD w4.toNat (.i 0)).cell 2).toS) fun y4 =>
    bif (decide ((w30.length + 1) * 32 ≤ room) && decide ((w30.length + 1) ≤ strMax)) then
     bnd ((w30 ++ [(.a [(.i y2), (.i y3), (.s y4)])]) : List D) fun y5 =>
     kr (IntKind.wrap .i64 (w4 + 1)) false y5
    else
     none
  else
   none
 else
  k0 (w29, w30)
def L81x0x51b (N : Nat) {R : Type} (w0 : Int) (w2 : LD) (w3 : Int) (w13 : Bool) (w26 : (List (D × D))) : Nat → Int → Bool → LD → (Bool × LD → Option R) → Option R
 | 0, _, _, _, _ => none
 | m + 1, w4, w29, w30, k0 => S81x0x51b N w0 w2 w3 w13 w26 w4 w29 w30 (fun w4 w29 w30 => L81x0x51b N w0 w2 w3 w13 w26 m w4 w29 w30 k0) k0
def G81x0x51b (w0 : Int) (w2 : LD) (w3 : Int) (w13 : Bool) (w26 : (List (D × D))) (w4 : Int) (w29 : Bool) (w30 : LD) : Option (Bool × LD) := L81x0x51b N (R := (Bool × LD)) w0 w2 w3 w13 w26 N w4 w29 w30 (fun p => some p)
def J81x0x51b (L x : List Lf) (kr : List Lf → Option R) (k0 : Bool × LD → Option R) : Option R := S81x0x51b N (li L 0) (ll L 2) (li L 3) (lb L 13) (lm L 26) (li x 0) (lb x 1) (ll x 2) (fun w4 w29 w30 => kr [.i w4, .b w29, .l w30]) k0
theorem sb81x0x51b (L x : List Lf) (kr : List Lf → Option R) (k0 : Bool × LD → Option R) : J81x0x51b N L x kr k0 = (J81x0x51b N L x (fun y => some (.inl y)) (fun p => some (.inr p))).bind (sumE kr k0) := by
 unfold J81x0x51b S81x0x51b
 repeat' (first | with_reducible apply cond_b | (with_reducible apply bnd_b; intro _) | rfl)
def Q81x0x51b (L : List Lf) (m : Nat) (x : List Lf) : Option (Bool × LD) := L81x0x51b N (R := (Bool × LD)) (li L 0) (ll L 2) (li L 3) (lb L 13) (lm L 26) m (li x 0) (lb x 1) (ll x 2) (fun p => some p)
def sh81x0x51b : Sh := { tmps := [(3, .c (.p 3 0)), (6, .c (.p 6 0)), (7, .c (.i .i64)), (8, .c (.p 8 0)), (9, .c (.m 40)), (66, .c (.sl 110)), (67, .c (.i .i64)), (68, .c (.i .i64))], mem := [(3, .box (rB 5 ([.sl 3, .b, .b]))), (6, .box (.s :: [.i .i64, .i .i64, .sl 47, .sl 110, .sl 9])), (8, .box (.s :: [.i .i64, .i .i64, .o 50008003, .o 50008004, .o 29000000007])), (40, .map 3 4), (50008003, .row 47 true), (50008004, .row 110 true), (29000000007, .row 9 true)] }
def K81x0x51bw0 (L : List Lf) (p : Bool × LD) : Ex × St := ((.exit 2), mg (ofSh sh81x0x51b L) [6, 8] [] [29000000007, 50008004, 50008003, 8, 6] [(50008004, .row 110 true p.1 p.2)])
def A81x0x51b (L : List Lf) : List (Bool × (Ex × St)) := bnd (Q81x0x51b N L N (pk sh81x0x51b [4, 29, 30] L)) fun q => [(q.isSome, K81x0x51bw0 L (q.getD default))]
theorem step81x0x51b (m : Nat) (kn : St → Option (Ex × St)) (L x : List Lf) : lpB Tryz.prog (T108x0 N) ((h81x0s11 N).no 51).h 0 81 51 sh81x0x51b [4, 29, 30] [6, 8] [29000000007, 50008004, 50008003, 8, 6] (m + 100) kn L x = J81x0x51b N L x (fun y => kn (ofSh sh81x0x51b (mx sh81x0x51b [4, 29, 30] L y))) (fun p => some (K81x0x51bw0 L p)) := by kernel_rfl
theorem ql81x0x51b (L : List Lf) (m : Nat) (x : List Lf) : Q81x0x51b N L (m + 1) x = J81x0x51b N L x (Q81x0x51b N L m) some := by kernel_rfl
def h81x0s12 : Sg Tryz.prog 0 81 :=
 (h81x0s11 N).add (((h81x0s11 N).no 51).lp (A81x0x51b N) N progOk (T108x0_ok N) (fun m kn L x => (step81x0x51b N m kn L x).trans (sb81x0x51b N L x _ _)) (fun L m x => (ql81x0x51b N L m x).trans (sb81x0x51b N L x (Q81x0x51b N L m) some)) fun L x hx => alt1 x hx) 51
def F81x0 (v1 v2 v3 v4 : Bool) (v6 : LD) (v7 v8 : Bool) (v9 : LB) (v11 : Int) (v15 : LD) (v16 : Bool) (v17 v19 : LD) (k0 : Ty0 → Option R) : Option R :=
 bif (inB 0 v19.length) then
  bnd (G81x0x7 N ((v19.getD 0 (.i 0)).cell 0).toI v11 v16 v17) fun y0 =>
  bif (inlB y0) then
   bnd (V81x0x14 N v8 v9 true []) fun y1 =>
   bnd (G81x0x20 N v7 (inlV y0)) fun y2 =>
   bif y2.isSome then
    bnd (G81x0x27 N ((v19.getD 0 (.i 0)).cell 0).toI v19 (v19.length : Int) v1 v2 v3 v4 v6 0 [] true []) fun y3 =>
    bif y3.isSome then
     bnd (G81x0x51 N ((v19.getD 0 (.i 0)).cell 0).toI v15 (v15.length : Int) v8 (y3.getD default).1 0 true []) fun y4 =>
     bif y4.isSome then
      k0 (y1.1, (y2.getD default), (y3.getD default).2.1, (y3.getD default).2.2, (y4.getD default).1, (y4.getD default).2, y1.2.1, y1.2.2)
     else
      none
    else
     none
   else
    none
  else
   bif (inrQ y0).isSome then
    bnd (G81x0x14b N v8) fun y5 =>
    bif (inlB y5) then
     bnd (G81x0x20b N v7 ((inrQ y0).getD default).1) fun y6 =>
     bif y6.isSome then
      bnd (G81x0x27 N ((v19.getD 0 (.i 0)).cell 0).toI v19 (v19.length : Int) v1 v2 v3 v4 v6 0 [] true []) fun y3 =>
      bif y3.isSome then
       bnd (G81x0x51 N ((v19.getD 0 (.i 0)).cell 0).toI v15 (v15.length : Int) v8 (y3.getD default).1 0 true []) fun y4 =>
       bif y4.isSome then
        k0 ((inlV y5), (y6.getD default), (y3.getD default).2.1, (y3.getD default).2.2, (y4.getD default).1, (y4.getD default).2, true, [])
       else
        none
      else
       none
     else
      none
    else
     bif (inrQ y5).isSome then
      bnd (G81x0x20bb N v7 ((inrQ y0).getD default).1) fun y7 =>
      bif y7.isSome then
       bnd (G81x0x27b N ((v19.getD 0 (.i 0)).cell 0).toI v19 (v19.length : Int) v1 v2 v3 v4 v6 0 [] true []) fun y8 =>
       bif y8.isSome then
        bnd (G81x0x51b N ((v19.getD 0 (.i 0)).cell 0).toI v15 (v15.length : Int) v8 (y8.getD default).1 0 true []) fun y9 =>
        bif y9.isSome then
         k0 (v9, (y7.getD default), (y8.getD default).2.1, (y8.getD default).2.2, (y9.getD default).1, (y9.getD default).2, ((inrQ y0).getD default).2, v17)
        else
         none
       else
        none
      else
       none
     else
      none
   else
    none
 else
  none
def G81x0 (v1 v2 v3 v4 : Bool) (v6 : LD) (v7 v8 : Bool) (v9 : LB) (v11 : Int) (v15 : LD) (v16 : Bool) (v17 v19 : LD) : Option (Ty0) := F81x0 N v1 v2 v3 v4 v6 v7 v8 v9 v11 v15 v16 v17 v19 (fun p => some p)
theorem bind81x0 (v1 v2 v3 v4 : Bool) (v6 : LD) (v7 v8 : Bool) (v9 : LB) (v11 : Int) (v15 : LD) (v16 : Bool) (v17 v19 : LD) (k0 : Ty0 → Option R) : F81x0 N v1 v2 v3 v4 v6 v7 v8 v9 v11 v15 v16 v17 v19 k0 = (G81x0 N v1 v2 v3 v4 v6 v7 v8 v9 v11 v15 v16 v17 v19).bind k0 := by
 unfold G81x0 F81x0
 repeat' (first | with_reducible apply cond_b | (with_reducible apply bnd_b; intro _) | rfl)
def J81x0 (L : List Lf) (k0 : Ty0 → Option R) : Option R := F81x0 N (lb L 1) (lb L 2) (lb L 3) (lb L 4) (ll L 6) (lb L 7) (lb L 8) (ls L 9) (li L 11) (ll L 15) (lb L 16) (ll L 17) (ll L 19) k0
def sh81x0 : Sh := { tmps := [(0, .g (rB 5 ([.sl 3, .b, .b]))), (1, .g (.s :: [.i .i64, .i .i64, .sl 47, .sl 110, .sl 9])), (2, .c (.sl 47))], mem := [] }
def K81x0w0 (L : List Lf) (p : Ty0) : Res := let p1 := p.2; let p2 := p1.2; let p3 := p2.2; let p4 := p3.2; let p5 := p4.2; let p6 := p5.2; let p7 := p6.2; ([.g [.s p.1, .i .i64 (li L 10), .i .i64 p1.1, .sl 47 p2.1 p3.1, .sl 110 p4.1 p5.1, .sl 9 p6.1 p7]], [])
def A81x0 (L : List Lf) : List (Bool × Res) := bnd (J81x0 N L (fun p => some p)) fun q => [(q.isSome, K81x0w0 L (q.getD default))]
theorem raw81x0 (L : List Lf) : bd Tryz.prog (T108x0 N) (h81x0s12 N).h 81 sh81x0 L = J81x0 N L (fun p => some (K81x0w0 L p)) := by kernel_rfl
theorem ok81x0 : FnOk Tryz.prog 81 sh81x0 (A81x0 N) :=
 (h81x0s12 N).fn progOk (T108x0_ok N) fun L x hx => ((raw81x0 N L).trans ((bind81x0 N ..).trans (alt1 x hx)))
def T81x0 : Oracle := ext 81 (spSh sh81x0 (A81x0 N)) (T108x0 N)
theorem T81x0_ok : OracleOk Tryz.prog (T81x0 N) := FnOk.to (ok81x0 N) (T108x0_ok N)
def y42x0z600000022o (N : Nat) : YInfo := rfY (piece Tryz.prog 42 600000022) [] 4 52
def y42x0z600000022 : YInfo := { (y42x0z600000022o N) with tm := [(8, .c (.p 2 0))] }
def rg78x0 : List (Nat × List Nat) := [(0, [1, 2, 0]), (1, [1, 2, 4, 0]), (2, [2, 4, 0, 6]), (3, [2, 4, 7, 0, 6]), (4, [22, 21, 20, 4, 7, 0, 6, 2]), (5, [22, 20, 4, 21, 7, 0, 6, 2]), (6, [4, 8, 22, 21, 20, 7, 0, 6, 2, 9]), (7, [7, 9, 0, 6, 2, 22, 21, 20, 4]), (8, [10, 9, 7, 0, 6, 2, 22, 21, 20, 4]), (9, [0, 6, 2, 7, 9, 22, 21, 20, 4]), (10, [9, 22, 21, 20, 4, 0, 6, 2]), (11, [7, 9, 22, 21, 20, 4, 0, 6, 2]), (12, [22, 21, 20, 4, 7, 0, 6, 2]), (13, [7, 0, 6, 2]), (14, [0, 6, 2, 7])]
def hd78x0 : Hints := [(12, [0, 2, 4, 6, 7, 20, 21, 22], [0, 1, 2, 3, 4, 11, 12, 50002005], [7, 50002000]), (25, [0, 2, 4, 6, 7, 9, 10, 20, 21, 22], [0, 1, 2, 4, 11, 12, 14, 50002005], []), (28, [0, 2, 4, 6, 7, 9, 20, 21, 22], [0, 1, 2, 4, 11, 12, 14, 50002005], []), (29, [0, 2, 4, 6, 7, 9, 20, 21, 22, 46], [0, 1, 2, 4, 11, 12, 14, 50002005], []), (43, [0, 2, 6, 7], [0, 1, 2, 4, 11, 12, 50002005], []), (44, [0, 2, 6, 7, 61], [0, 1, 2, 4, 11, 12, 50002005], [])]
def h78x0s0 : Sg Tryz.prog 5 78 (YCtx ((y42x0z600000022 N))) := .start hd78x0 rg78x0
def F78x0x25 (N : Nat) (w2 : Int) (w30 : LD) (w31 : Int) (k0 : Bool → Option R) : Option R :=
 bif (decide (w2 > 0)) then
  bif (inB (IntKind.wrap .i64 (w2 - 1)) w30.length) then
   bif (decide ((IntKind.wrap .i64 (w2 - 1)).toNat < w30.length)) then
    bnd ((w30.getD (IntKind.wrap .i64 (w2 - 1)).toNat (.i 0)).cell 0).toI fun y0 =>
    k0 (decide ((IntKind.wrap .i64 (w31 - y0)) > 60))
   else
    none
  else
   none
 else
  k0 false
def G78x0x25 (w2 : Int) (w30 : LD) (w31 : Int) : Option (Bool) := F78x0x25 N w2 w30 w31 (fun p => some p)
theorem bind78x0x25 (w2 : Int) (w30 : LD) (w31 : Int) (k0 : Bool → Option R) : F78x0x25 N w2 w30 w31 k0 = (G78x0x25 N w2 w30 w31).bind k0 := by
 unfold G78x0x25 F78x0x25
 repeat' (first | with_reducible apply cond_b | (with_reducible apply bnd_b; intro _) | rfl)
def sh78x0x25 : Sh := { tmps := [(0, .c (.y 4)), (2, .c (.p 1 0)), (4, .c (.sl 4)), (6, .c (.p 11 0)), (7, .c (.o 12)), (9, .c (.p 14 0)), (10, .c (.i .i64)), (20, .c (.sl 47)), (21, .c (.i .i64)), (22, .c (.i .i64))], mem := [(0, .box ([.sl 40])), (1, .box (.s :: [.i .i64, .i .i64, .sl 47, .sl 110, .sl 9])), (2, .box ([.o 50002005])), (4, .row 3 true), (11, .box (rB 5 ([.sl 3, .b, .b]))), (12, .row 47 true), (14, .box (rI 7 ([]))), (50002005, .row 51 true)] }
def K78x0x25w0 (L : List Lf) (p : Bool) : Ex × St := (.normal, mg (ofSh sh78x0x25 L) [0, 6, 2, 7, 9, 22, 21, 20, 4, 46] [(46, .c (.b p))] [50002005, 2, 0, 14, 12, 11, 1, 4] [])
def A78x0x25 (L : List Lf) : List (Bool × (Ex × St)) := bnd (F78x0x25 N (li L 2) (ll L 30) (li L 31) (fun p => some p)) fun q => [(q.isSome, K78x0x25w0 L (q.getD default))]
theorem raw78x0x25 (L : List Lf) : pc Tryz.prog (T81x0 N) (h78x0s0 N).h 5 100 78 25 sh78x0x25 L [0, 6, 2, 7, 9, 22, 21, 20, 4, 46] [50002005, 2, 0, 14, 12, 11, 1, 4] = F78x0x25 N (li L 2) (ll L 30) (li L 31) (fun p => some (K78x0x25w0 L p)) := by kernel_rfl
def h78x0s1 : Sg Tryz.prog 5 78 (YCtx ((y42x0z600000022 N))) :=
 (h78x0s0 N).cut (A78x0x25 N) progOk (T81x0_ok N) fun L x hx => (raw78x0x25 N L).trans ((bind78x0x25 N ..).trans (alt1 x hx))
def F78x0x28 (w8 : LB) (w9 w10 : Int) (w14 : LD) (w15 : Bool) (w16 : LD) (w20 w21 w22 w23 : Bool) (w25 : LD) (w26 w27 : Bool) (w29 w38 : LD) (k0 : LD → Option R) : Option R :=
 bnd (G81x0 N w20 w21 w22 w23 w25 w26 w27 w8 w10 w14 w15 w16 w29) fun y0 =>
 bif y0.isSome then
  bif (decide ((w38.length + 1) * 104 ≤ room) && decide ((w38.length + 1) ≤ strMax)) then
   bnd ((w38 ++ [(.a [(.s (y0.getD default).1), (.i w9), (.i (y0.getD default).2.1), (.l (y0.getD default).2.2.1 (y0.getD default).2.2.2.1), (.l (y0.getD default).2.2.2.2.1 (y0.getD default).2.2.2.2.2.1), (.l (y0.getD default).2.2.2.2.2.2.1 (y0.getD default).2.2.2.2.2.2.2)])]) : List D) fun y1 =>
   k0 y1
  else
   none
 else
  none
def G78x0x28 (w8 : LB) (w9 w10 : Int) (w14 : LD) (w15 : Bool) (w16 : LD) (w20 w21 w22 w23 : Bool) (w25 : LD) (w26 w27 : Bool) (w29 w38 : LD) : Option (LD) := F78x0x28 N w8 w9 w10 w14 w15 w16 w20 w21 w22 w23 w25 w26 w27 w29 w38 (fun p => some p)
theorem bind78x0x28 (w8 : LB) (w9 w10 : Int) (w14 : LD) (w15 : Bool) (w16 : LD) (w20 w21 w22 w23 : Bool) (w25 : LD) (w26 w27 : Bool) (w29 w38 : LD) (k0 : LD → Option R) : F78x0x28 N w8 w9 w10 w14 w15 w16 w20 w21 w22 w23 w25 w26 w27 w29 w38 k0 = (G78x0x28 N w8 w9 w10 w14 w15 w16 w20 w21 w22 w23 w25 w26 w27 w29 w38).bind k0 := by
 unfold G78x0x28 F78x0x28
 repeat' (first | with_reducible apply cond_b | (with_reducible apply bnd_b; intro _) | rfl)
def J78x0x28 (L : List Lf) (k0 : LD → Option R) : Option R := F78x0x28 N (ls L 8) (li L 9) (li L 10) (ll L 14) (lb L 15) (ll L 16) (lb L 20) (lb L 21) (lb L 22) (lb L 23) (ll L 25) (lb L 26) (lb L 27) (ll L 29) (ll L 38) k0
def sh78x0x28 : Sh := { tmps := [(0, .c (.y 4)), (2, .c (.p 1 0)), (4, .c (.sl 4)), (6, .c (.p 11 0)), (7, .c (.o 12)), (9, .c (.p 14 0)), (20, .c (.sl 47)), (21, .c (.i .i64)), (22, .c (.i .i64))], mem := [(0, .box ([.sl 40])), (1, .box (.s :: [.i .i64, .i .i64, .sl 47, .sl 110, .sl 9])), (2, .box ([.o 50002005])), (4, .row 3 true), (11, .box (rB 5 ([.sl 3, .b, .b]))), (12, .row 47 true), (14, .box (rI 7 ([]))), (50002005, .row 51 true)] }
def K78x0x28w0 (L : List Lf) (p : LD) : Ex × St := (.normal, mg (ofSh sh78x0x28 L) [9, 22, 21, 20, 4, 0, 6, 2, 53] [(53, .c (.b false))] [53000000033, 2, 0, 14, 11, 1, 4] [(53000000033, .row 51 true false p), (2, .box [.o 53000000033])])
def A78x0x28 (L : List Lf) : List (Bool × (Ex × St)) := bnd (J78x0x28 N L (fun p => some p)) fun q => [(q.isSome, K78x0x28w0 L (q.getD default))]
theorem raw78x0x28 (L : List Lf) : pcY Tryz.prog (T81x0 N) 5 ((y42x0z600000022 N)) 78 28 sh78x0x28 L [9, 22, 21, 20, 4, 0, 6, 2, 53] [53000000033, 2, 0, 14, 11, 1, 4] = J78x0x28 N L (fun p => some (K78x0x28w0 L p)) := by kernel_rfl
def h78x0s2 : Sg Tryz.prog 5 78 (YCtx ((y42x0z600000022 N))) :=
 (h78x0s1 N).cutY (A78x0x28 N) progOk (T81x0_ok N) (yLaws0 (by kernel_rfl)) fun L x hx => (raw78x0x28 N L).trans ((bind78x0x28 N ..).trans (alt1 x hx))
def F78x0x29 (w6 : Bool) (w9 : LB) (w10 w11 : Int) (w15 : LD) (w16 : Bool) (w17 : LD) (w21 w22 w23 w24 : Bool) (w26 : LD) (w27 w28 : Bool) (w30 w39 : LD) (k0 : LD → Option R) (k1 : Unit → Option R) : Option R :=
 bif w6 then
  bnd (G78x0x28 N w9 w10 w11 w15 w16 w17 w21 w22 w23 w24 w26 w27 w28 w30 w39) fun y0 =>
  bif y0.isSome then
   k0 (y0.getD default)
  else
   none
 else
  k1 ()
def G78x0x29 (w6 : Bool) (w9 : LB) (w10 w11 : Int) (w15 : LD) (w16 : Bool) (w17 : LD) (w21 w22 w23 w24 : Bool) (w26 : LD) (w27 w28 : Bool) (w30 w39 : LD) : Option (Sum (LD) (Unit)) := F78x0x29 N w6 w9 w10 w11 w15 w16 w17 w21 w22 w23 w24 w26 w27 w28 w30 w39 (fun p => some (.inl p)) (fun p => some (.inr p))
theorem bind78x0x29 (w6 : Bool) (w9 : LB) (w10 w11 : Int) (w15 : LD) (w16 : Bool) (w17 : LD) (w21 w22 w23 w24 : Bool) (w26 : LD) (w27 w28 : Bool) (w30 w39 : LD) (k0 : LD → Option R) (k1 : Unit → Option R) : F78x0x29 N w6 w9 w10 w11 w15 w16 w17 w21 w22 w23 w24 w26 w27 w28 w30 w39 k0 k1 = (G78x0x29 N w6 w9 w10 w11 w15 w16 w17 w21 w22 w23 w24 w26 w27 w28 w30 w39).bind (sumE k0 k1) := by
 unfold G78x0x29 F78x0x29
 repeat' (first | with_reducible apply cond_b | (with_reducible apply bnd_b; intro _) | rfl)
def J78x0x29 (L : List Lf) (k0 : LD → Option R) (k1 : Unit → Option R) : Option R := F78x0x29 N (lb L 6) (ls L 9) (li L 10) (li L 11) (ll L 15) (lb L 16) (ll L 17) (lb L 21) (lb L 22) (lb L 23) (lb L 24) (ll L 26) (lb L 27) (lb L 28) (ll L 30) (ll L 39) k0 k1
def sh78x0x29 : Sh := { tmps := [(0, .c (.y 4)), (2, .c (.p 1 0)), (4, .c (.sl 4)), (6, .c (.p 11 0)), (7, .c (.o 12)), (9, .c (.p 14 0)), (20, .c (.sl 47)), (21, .c (.i .i64)), (22, .c (.i .i64)), (46, .c (.b))], mem := [(0, .box ([.sl 40])), (1, .box (.s :: [.i .i64, .i .i64, .sl 47, .sl 110, .sl 9])), (2, .box ([.o 50002005])), (4, .row 3 true), (11, .box (rB 5 ([.sl 3, .b, .b]))), (12, .row 47 true), (14, .box (rI 7 ([]))), (50002005, .row 51 true)] }
def K78x0x29w0 (L : List Lf) (p : LD) : Ex × St := (.normal, mg (ofSh sh78x0x29 L) [7, 9, 22, 21, 20, 4, 0, 6, 2] [(7, .c (.sl 47 true []))] [0, 53000000033, 2, 1, 11, 4, 14] [(53000000033, .row 51 true false p), (2, .box [.o 53000000033])])
def K78x0x29w1 (L : List Lf) (_ : Unit) : Ex × St := (.normal, mg (ofSh sh78x0x29 L) [7, 9, 22, 21, 20, 4, 0, 6, 2] [] [0, 2, 1, 11, 4, 14, 50002005, 12] [])
def A78x0x29 (L : List Lf) : List (Bool × (Ex × St)) := bnd (J78x0x29 N L (fun p => some (.inl p)) (fun p => some (.inr p))) fun q => [((inlB q), K78x0x29w0 L (inlV q)), ((inrQ q).isSome, K78x0x29w1 L ())]
theorem raw78x0x29 (L : List Lf) : pc Tryz.prog (T81x0 N) (h78x0s2 N).h 5 100 78 29 sh78x0x29 L [7, 9, 22, 21, 20, 4, 0, 6, 2] [0, 53000000033, 2, 1, 11, 4, 14, 50002005, 12] = J78x0x29 N L (fun p => some (K78x0x29w0 L p)) (fun _ => some (K78x0x29w1 L ())) := by kernel_rfl
def h78x0s3 : Sg Tryz.prog 5 78 (YCtx ((y42x0z600000022 N))) :=
 (h78x0s2 N).cut (A78x0x29 N) progOk (T81x0_ok N) fun L x hx => (raw78x0x29 N L).trans ((bind78x0x29 N ..).trans ((altS alt1) x hx))
def S78x0x12 (w1 w3 : LD) (w4 : Int) (w8 : LB) (w9 w10 : Int) (w14 : LD) (w15 : Bool) (w16 : LD) (w20 w21 w22 w23 : Bool) (w25 : LD) (w26 w27 : Bool) (w5 : Int) (w28 : Bool) (w29 : LD) (w30 : Bool) (w31 : LD) (kr : Int → Bool → LD → Bool → LD → Option R) (k0 : Ty6 → Option R) : Option R :=
 bif (decide (w5 < w4)) then
  bif (inB w5 w3.length) then
   bif (inB w5 w1.length) then
    bif (w1.getD w5.toNat (.i 0)).toB then
     kr (IntKind.wrap .i64 (w5 + 1)) w28 w29 w30 w31
    else
     bnd (G78x0x25 N (w29.length : Int) w29 ((w3.getD w5.toNat (.i 0)).cell 0).toI) fun y0 =>
     bif y0.isSome then
      bnd (G78x0x29 N (y0.getD default) w8 w9 w10 w14 w15 w16 w20 w21 w22 w23 w25 w26 w27 w29 w31) fun y1 =>
      bif (inlB y1) then
       kr (IntKind.wrap .i64 (w5 + 1)) false [(.a [(.i ((w3.getD w5.toNat (.i 0)).cell 0).toI), (.i ((w3.getD w5.toNat (.i 0)).cell 1).toI), (.i ((w3.getD w5.toNat (.i 0)).cell 2).toI), (.i ((w3.getD w5.toNat (.i 0)).cell 3).toI), (.i ((w3.getD w5.toNat (.i 0)).cell 4).toI), (.i ((w3.getD w5.toNat (.i 0)).cell 5).toI), (.i ((w3.getD w5.toNat (.i 0)).cell 6).toI)])] false (inlV y1)
      else
       bif (inrQ y1).isSome then
        bif (decide ((w29.length + 1) * 56 ≤ room) && decide ((w29.length + 1) ≤ strMax)) then
         bnd ((w29 ++ [(.a [(.i ((w3.getD w5.toNat (.i 0)).cell 0).toI), (.i ((w3.getD w5.toNat (.i 0)).cell 1).toI), (.i ((w3.getD w5.toNat (.i 0)).cell 2).toI), (.i ((w3.getD w5.toNat (.i 0)).cell 3).toI), (.i ((w3.getD w5.toNat (.i 0)).cell 4).toI), (.i ((w3.getD w5.toNat (.i 0)).cell 5).toI), (.i ((w3.getD w5.toNat (.i 0)).cell 6).toI)])]) : List D) fun y2 =>
         kr (IntKind.wrap .i64 (w5 + 1)) false y2 w30 w31
        else
         none
       else
        none
     else
      none
   else
    none
  else
   none
 else
  k0 (w30, w31, w28, w29)
def L78x0x12 (N : Nat) {R : Type} (w1 w3 : LD) (w4 : Int) (w8 : LB) (w9 w10 : Int) (w14 : LD) (w15 : Bool) (w16 : LD) (w20 w21 w22 w23 : Bool) (w25 : LD) (w26 w27 : Bool) : Nat → Int → Bool → LD → Bool → LD → (Ty6 → Option R) → Option R
 | 0, _, _, _, _, _, _ => none
 | m + 1, w5, w28, w29, w30, w31, k0 => S78x0x12 N w1 w3 w4 w8 w9 w10 w14 w15 w16 w20 w21 w22 w23 w25 w26 w27 w5 w28 w29 w30 w31 (fun w5 w28 w29 w30 w31 => L78x0x12 N w1 w3 w4 w8 w9 w10 w14 w15 w16 w20 w21 w22 w23 w25 w26 w27 m w5 w28 w29 w30 w31 k0) k0
def G78x0x12 (w1 w3 : LD) (w4 : Int) (w8 : LB) (w9 w10 : Int) (w14 : LD) (w15 : Bool) (w16 : LD) (w20 w21 w22 w23 : Bool) (w25 : LD) (w26 w27 : Bool) (w5 : Int) (w28 : Bool) (w29 : LD) (w30 : Bool) (w31 : LD) : Option (Ty6) := L78x0x12 N (R := (Ty6)) w1 w3 w4 w8 w9 w10 w14 w15 w16 w20 w21 w22 w23 w25 w26 w27 N w5 w28 w29 w30 w31 (fun p => some p)
def J78x0x12 (L x : List Lf) (kr : List Lf → Option R) (k0 : Ty6 → Option R) : Option R := S78x0x12 N (ll L 1) (ll L 3) (li L 4) (ls L 8) (li L 9) (li L 10) (ll L 14) (lb L 15) (ll L 16) (lb L 20) (lb L 21) (lb L 22) (lb L 23) (ll L 25) (lb L 26) (lb L 27) (li x 0) (lb x 1) (ll x 2) (lb x 3) (ll x 4) (fun w5 w28 w29 w30 w31 => kr [.i w5, .b w28, .l w29, .b w30, .l w31]) k0
theorem sb78x0x12 (L x : List Lf) (kr : List Lf → Option R) (k0 : Ty6 → Option R) : J78x0x12 N L x kr k0 = (J78x0x12 N L x (fun y => some (.inl y)) (fun p => some (.inr p))).bind (sumE kr k0) := by
 unfold J78x0x12 S78x0x12
 repeat' (first | with_reducible apply cond_b | (with_reducible apply bnd_b; intro _) | rfl)
def Q78x0x12 (L : List Lf) (m : Nat) (x : List Lf) : Option (Ty6) := L78x0x12 N (R := (Ty6)) (ll L 1) (ll L 3) (li L 4) (ls L 8) (li L 9) (li L 10) (ll L 14) (lb L 15) (ll L 16) (lb L 20) (lb L 21) (lb L 22) (lb L 23) (ll L 25) (lb L 26) (lb L 27) m (li x 0) (lb x 1) (ll x 2) (lb x 3) (ll x 4) (fun p => some p)
def sh78x0x12 : Sh := { tmps := [(0, .c (.y 4)), (2, .c (.p 1 0)), (4, .c (.sl 4)), (6, .c (.p 11 0)), (7, .c (.o 12)), (20, .c (.sl 47)), (21, .c (.i .i64)), (22, .c (.i .i64))], mem := [(0, .box ([.sl 40])), (1, .box (.s :: [.i .i64, .i .i64, .sl 47, .sl 110, .sl 9])), (2, .box ([.o 50002005])), (4, .row 3 true), (11, .box (rB 5 ([.sl 3, .b, .b]))), (12, .row 47 true), (50002005, .row 51 true)] }
def K78x0x12w0 (L : List Lf) (p : Ty6) : Ex × St := ((.exit 0), mg (ofSh sh78x0x12 L) [7, 0, 6, 2] [] [50002005, 2, 0, 12, 11, 1, 4] [(50002005, .row 51 true p.1 p.2.1), (12, .row 47 true p.2.2.1 p.2.2.2)])
def A78x0x12 (L : List Lf) : List (Bool × (Ex × St)) := bnd (Q78x0x12 N L N (pk sh78x0x12 [5, 28, 29, 30, 31] L)) fun q => [(q.isSome, K78x0x12w0 L (q.getD default))]
theorem step78x0x12 (m : Nat) (kn : St → Option (Ex × St)) (L x : List Lf) : lpB Tryz.prog (T81x0 N) (h78x0s3 N).h 5 78 12 sh78x0x12 [5, 28, 29, 30, 31] [7, 0, 6, 2] [50002005, 2, 0, 12, 11, 1, 4] (m + 100) kn L x = J78x0x12 N L x (fun y => kn (ofSh sh78x0x12 (mx sh78x0x12 [5, 28, 29, 30, 31] L y))) (fun p => some (K78x0x12w0 L p)) := by kernel_rfl
theorem ql78x0x12 (L : List Lf) (m : Nat) (x : List Lf) : Q78x0x12 N L (m + 1) x = J78x0x12 N L x (Q78x0x12 N L m) some := by kernel_rfl
def h78x0s4 : Sg Tryz.prog 5 78 (YCtx ((y42x0z600000022 N))) :=
 (h78x0s3 N).lp (A78x0x12 N) N progOk (T81x0_ok N) (fun m kn L x => (step78x0x12 N m kn L x).trans (sb78x0x12 N L x _ _)) (fun L m x => (ql78x0x12 N L m x).trans (sb78x0x12 N L x (Q78x0x12 N L m) some)) fun L x hx => alt1 x hx
def F78x0x43 (w2 : LB) (w3 w4 : Int) (w8 : LD) (w9 : Bool) (w10 : LD) (w14 w15 w16 w17 : Bool) (w19 : LD) (w20 w21 : Bool) (w23 w25 : LD) (k0 : LD → Option R) : Option R :=
 bnd (G81x0 N w14 w15 w16 w17 w19 w20 w21 w2 w4 w8 w9 w10 w23) fun y0 =>
 bif y0.isSome then
  bif (decide ((w25.length + 1) * 104 ≤ room) && decide ((w25.length + 1) ≤ strMax)) then
   bnd ((w25 ++ [(.a [(.s (y0.getD default).1), (.i w3), (.i (y0.getD default).2.1), (.l (y0.getD default).2.2.1 (y0.getD default).2.2.2.1), (.l (y0.getD default).2.2.2.2.1 (y0.getD default).2.2.2.2.2.1), (.l (y0.getD default).2.2.2.2.2.2.1 (y0.getD default).2.2.2.2.2.2.2)])]) : List D) fun y1 =>
   k0 y1
  else
   none
 else
  none
def G78x0x43 (w2 : LB) (w3 w4 : Int) (w8 : LD) (w9 : Bool) (w10 : LD) (w14 w15 w16 w17 : Bool) (w19 : LD) (w20 w21 : Bool) (w23 w25 : LD) : Option (LD) := F78x0x43 N w2 w3 w4 w8 w9 w10 w14 w15 w16 w17 w19 w20 w21 w23 w25 (fun p => some p)
theorem bind78x0x43 (w2 : LB) (w3 w4 : Int) (w8 : LD) (w9 : Bool) (w10 : LD) (w14 w15 w16 w17 : Bool) (w19 : LD) (w20 w21 : Bool) (w23 w25 : LD) (k0 : LD → Option R) : F78x0x43 N w2 w3 w4 w8 w9 w10 w14 w15 w16 w17 w19 w20 w21 w23 w25 k0 = (G78x0x43 N w2 w3 w4 w8 w9 w10 w14 w15 w16 w17 w19 w20 w21 w23 w25).bind k0 := by
 unfold G78x0x43 F78x0x43
 repeat' (first | with_reducible apply cond_b | (with_reducible apply bnd_b; intro _) | rfl)
def J78x0x43 (L : List Lf) (k0 : LD → Option R) : Option R := F78x0x43 N (ls L 2) (li L 3) (li L 4) (ll L 8) (lb L 9) (ll L 10) (lb L 14) (lb L 15) (lb L 16) (lb L 17) (ll L 19) (lb L 20) (lb L 21) (ll L 23) (ll L 25) k0
def sh78x0x43 : Sh := { tmps := [(0, .c (.y 4)), (2, .c (.p 1 0)), (6, .c (.p 11 0)), (7, .c (.o 12))], mem := [(0, .box ([.sl 40])), (1, .box (.s :: [.i .i64, .i .i64, .sl 47, .sl 110, .sl 9])), (2, .box ([.o 50002005])), (4, .row 3 true), (11, .box (rB 5 ([.sl 3, .b, .b]))), (12, .row 47 true), (50002005, .row 51 true)] }
def K78x0x43w0 (L : List Lf) (p : LD) : Ex × St := (.normal, mg (ofSh sh78x0x43 L) [] [] [4, 68000000033, 2, 1, 0] [(68000000033, .row 51 true false p), (2, .box [.o 68000000033])])
def A78x0x43 (L : List Lf) : List (Bool × (Ex × St)) := bnd (J78x0x43 N L (fun p => some p)) fun q => [(q.isSome, K78x0x43w0 L (q.getD default))]
theorem raw78x0x43 (L : List Lf) : pcY Tryz.prog (T81x0 N) 5 ((y42x0z600000022 N)) 78 43 sh78x0x43 L [] [4, 68000000033, 2, 1, 0] = J78x0x43 N L (fun p => some (K78x0x43w0 L p)) := by kernel_rfl
def h78x0s5 : Sg Tryz.prog 5 78 (YCtx ((y42x0z600000022 N))) :=
 (h78x0s4 N).cutY (A78x0x43 N) progOk (T81x0_ok N) (yLaws0 (by kernel_rfl)) fun L x hx => (raw78x0x43 N L).trans ((bind78x0x43 N ..).trans (alt1 x hx))
def F78x0x44 (w0 : Bool) (w3 : LB) (w4 w5 : Int) (w9 : LD) (w10 : Bool) (w11 : LD) (w15 w16 w17 w18 : Bool) (w20 : LD) (w21 w22 : Bool) (w24 w26 : LD) (k0 : LD → Option R) (k1 : Unit → Option R) : Option R :=
 bif w0 then
  bnd (G78x0x43 N w3 w4 w5 w9 w10 w11 w15 w16 w17 w18 w20 w21 w22 w24 w26) fun y0 =>
  bif y0.isSome then
   k0 (y0.getD default)
  else
   none
 else
  k1 ()
def G78x0x44 (w0 : Bool) (w3 : LB) (w4 w5 : Int) (w9 : LD) (w10 : Bool) (w11 : LD) (w15 w16 w17 w18 : Bool) (w20 : LD) (w21 w22 : Bool) (w24 w26 : LD) : Option (Sum (LD) (Unit)) := F78x0x44 N w0 w3 w4 w5 w9 w10 w11 w15 w16 w17 w18 w20 w21 w22 w24 w26 (fun p => some (.inl p)) (fun p => some (.inr p))
theorem bind78x0x44 (w0 : Bool) (w3 : LB) (w4 w5 : Int) (w9 : LD) (w10 : Bool) (w11 : LD) (w15 w16 w17 w18 : Bool) (w20 : LD) (w21 w22 : Bool) (w24 w26 : LD) (k0 : LD → Option R) (k1 : Unit → Option R) : F78x0x44 N w0 w3 w4 w5 w9 w10 w11 w15 w16 w17 w18 w20 w21 w22 w24 w26 k0 k1 = (G78x0x44 N w0 w3 w4 w5 w9 w10 w11 w15 w16 w17 w18 w20 w21 w22 w24 w26).bind (sumE k0 k1) := by
 unfold G78x0x44 F78x0x44
 repeat' (first | with_reducible apply cond_b | (with_reducible apply bnd_b; intro _) | rfl)
def J78x0x44 (L : List Lf) (k0 : LD → Option R) (k1 : Unit → Option R) : Option R := F78x0x44 N (lb L 0) (ls L 3) (li L 4) (li L 5) (ll L 9) (lb L 10) (ll L 11) (lb L 15) (lb L 16) (lb L 17) (lb L 18) (ll L 20) (lb L 21) (lb L 22) (ll L 24) (ll L 26) k0 k1
def sh78x0x44 : Sh := { tmps := [(0, .c (.y 4)), (2, .c (.p 1 0)), (6, .c (.p 11 0)), (7, .c (.o 12)), (61, .c (.b))], mem := [(0, .box ([.sl 40])), (1, .box (.s :: [.i .i64, .i .i64, .sl 47, .sl 110, .sl 9])), (2, .box ([.o 50002005])), (4, .row 3 true), (11, .box (rB 5 ([.sl 3, .b, .b]))), (12, .row 47 true), (50002005, .row 51 true)] }
end
end Go.Proofs.YtohplnjpncjhoaaGreatDoor
