/- Functions of the program as plain Lean definitions, each with the proof that the program computes it. No condition. Printed by a program of the prover, part 2. -/
import Derived.Test.YtefmjfcdgadggaaG6p1
import Derived.KernelRfl
set_option linter.all false
set_option maxRecDepth 100000
namespace Go.Proofs.Ytefmjfcdgadggaa
open Go Go.AM
variable (N : Nat) {R : Type}
theorem bind92x0 (v0 v3 v28 v29 : Int) (v33 v35 : LD) (k0 : Bool → Option R) : F92x0 N v0 v3 v28 v29 v33 v35 k0 = (G92x0 N v0 v3 v28 v29 v33 v35).bind k0 := by
  unfold G92x0 F92x0
  repeat' (first | rfl | apply cond_b | (apply bnd_b; intro _))
noncomputable def J92x0 (L : List Lf) (k0 : Bool → Option R) : Option R := F92x0 N (li L 0) (li L 3) (li L 28) (li L 29) (ll L 33) (ll L 35) k0
noncomputable def sh92x0 : Sh := { tmps := [(0, .c (.p 0 0)), (1, .g (rI 28 ([]))), (2, .c (.i .i64))], mem := [(0, .box (.i .i64 :: .i .i64 :: [.i .i64, .sl 66, .sl 68, .sl 3, .sl 3, .m 1])), (1, .map 93 96)] }
noncomputable def A92x0 (L : List Lf) : List (Bool × Res) := bnd (J92x0 N L (fun p => some p)) fun q => [(q.isSome, ([.c (.b (q.getD default))], mgA (ofSh sh92x0 L).mem [] [0, 1]))]
theorem raw92x0 (L : List Lf) : bd Try.prog (T63x0 N) (h92x0s6 N).h 92 sh92x0 L = J92x0 N L (fun p => some ([.c (.b p)], mgA (ofSh sh92x0 L).mem [] [0, 1])) := by kernel_rfl
theorem ok92x0 : FnOk Try.prog 92 sh92x0 (A92x0 N) :=
  (h92x0s6 N).fn progOk (T63x0_ok N) fun L x hx => ((raw92x0 N L).trans ((bind92x0 N ..).trans (alt1 x hx)))
noncomputable def T92x0 : Oracle := ext 92 (spSh sh92x0 (A92x0 N)) (T63x0 N)
theorem T92x0_ok : OracleOk Try.prog (T92x0 N) := FnOk.to (ok92x0 N) (T63x0_ok N)
noncomputable def rg93x0 : List (Nat × List Nat) := [(0, [0]), (1, [1]), (2, [1, 3]), (3, [9, 8, 7, 3]), (4, [7, 9, 3, 8]), (5, [5, 3, 9, 8, 7]), (6, [3, 5, 9, 8, 7]), (7, [9, 8, 7, 3]), (8, [3])]
noncomputable def hd93x0 : Hints := [(9, [9, 8, 7, 3], [], []), (20, [3, 5, 9, 8, 7, 15], [5], [])]
noncomputable def h93x0s0 (N : Nat) : Sg Try.prog 0 93 := .start hd93x0 rg93x0
noncomputable def F93x0x20 (N : Nat) (w0 : Int) (w5 : Bool) (w8 : Int) (k0 : Int → R) : R :=
  bif w5 then
    k0 (max2 w0 w8)
  else
    k0 w0
noncomputable def V93x0x20 (w0 : Int) (w5 : Bool) (w8 : Int) : Int := F93x0x20 N w0 w5 w8 (fun p => p)
theorem tot93x0x20 (w0 : Int) (w5 : Bool) (w8 : Int) (k0 : Int → R) : F93x0x20 N w0 w5 w8 k0 = k0 (V93x0x20 N w0 w5 w8) := by
  unfold V93x0x20 F93x0x20
  repeat' (first | rfl | apply cond_k | (apply bnd_k; intro _))
noncomputable def sh93x0x20 : Sh := { tmps := [(3, .c (.i .i64)), (5, .c (.p 5 0)), (7, .c (.sl 68)), (8, .c (.i .i64)), (9, .c (.i .i64)), (15, .c (.b))], mem := [(5, .box (rI 5 ([.s])))] }
noncomputable def K93x0x20w0 (L : List Lf) (p : Int) : Ex × St := (.normal, mg (ofSh sh93x0x20 L) [3, 7, 8, 9] [(3, .c (.i .i64 p))] [] [])
noncomputable def A93x0x20 (L : List Lf) : List (Bool × (Ex × St)) := bnd (F93x0x20 N (li L 0) (lb L 5) (li L 8) (fun p => p)) fun q => [(true, K93x0x20w0 L q)]
theorem raw93x0x20 (L : List Lf) : pc Try.prog (T92x0 N) (h93x0s0 N).h 0 100 93 20 sh93x0x20 L [9, 8, 7, 3] [] = F93x0x20 N (li L 0) (lb L 5) (li L 8) (fun p => some (K93x0x20w0 L p)) := by kernel_rfl
noncomputable def h93x0s1 : Sg Try.prog 0 93 :=
  (h93x0s0 N).cut (A93x0x20 N) progOk (T92x0_ok N) fun L x hx => (raw93x0x20 N L).trans ((tot93x0x20 N ..).trans (alt0 _ _ hx))
noncomputable def S93x0x9 (w2 : LD) (w3 : Int) (w0 w4 : Int) (kr : Int → Int → Option R) (k0 : Int → Option R) : Option R :=
  bif (decide (w4 < w3)) then
    bif (inB w4 w2.length) then
      bnd (V93x0x20 N w0 (((w2.getD w4.toNat (.i 0)).cell 0).toI == 5) ((w2.getD w4.toNat (.i 0)).cell 2).toI) fun y0 =>
      kr y0 (IntKind.wrap .i64 (w4 + 1))
    else
      none
  else
    k0 w0
noncomputable def L93x0x9 (N : Nat) {R : Type} (w2 : LD) (w3 : Int) : Nat → Int → Int → (Int → Option R) → Option R
  | 0, _, _, _ => none
  | m + 1, w0, w4, k0 => S93x0x9 N w2 w3 w0 w4 (fun w0 w4 => L93x0x9 N w2 w3 m w0 w4 k0) k0
noncomputable def G93x0x9 (w2 : LD) (w3 : Int) (w0 w4 : Int) : Option (Int) := L93x0x9 N (R := (Int)) w2 w3 N w0 w4 (fun p => some p)
noncomputable def J93x0x9 (L x : List Lf) (kr : List Lf → Option R) (k0 : Int → Option R) : Option R := S93x0x9 N (ll L 2) (li L 3) (li x 0) (li x 1) (fun w0 w4 => kr [.i w0, .i w4]) k0
theorem sb93x0x9 (L x : List Lf) (kr : List Lf → Option R) (k0 : Int → Option R) : J93x0x9 N L x kr k0 = (J93x0x9 N L x (fun y => some (.inl y)) (fun p => some (.inr p))).bind (sumE kr k0) := by
  unfold J93x0x9 S93x0x9
  repeat' (first | rfl | apply cond_b | (apply bnd_b; intro _))
noncomputable def Q93x0x9 (L : List Lf) (m : Nat) (x : List Lf) : Option (Int) := L93x0x9 N (R := (Int)) (ll L 2) (li L 3) m (li x 0) (li x 1) (fun p => some p)
noncomputable def sh93x0x9 : Sh := { tmps := [(3, .c (.i .i64)), (7, .c (.sl 68)), (8, .c (.i .i64)), (9, .c (.i .i64))], mem := [] }
noncomputable def A93x0x9 (L : List Lf) : List (Bool × (Ex × St)) := bnd (Q93x0x9 N L N (pk sh93x0x9 [0, 4] L)) fun q => [(q.isSome, ((.exit 0), ⟨[(3, .c (.i .i64 (q.getD default)))], []⟩))]
theorem step93x0x9 (m : Nat) (kn : St → Option (Ex × St)) (L x : List Lf) : lpB Try.prog (T92x0 N) (h93x0s1 N).h 0 93 9 sh93x0x9 [0, 4] [2, 3] [] (m + 100) kn L x = J93x0x9 N L x (fun y => kn (ofSh sh93x0x9 (mx sh93x0x9 [0, 4] L y))) (fun p => some ((.exit 0), ⟨[(3, .c (.i .i64 p))], []⟩)) := by kernel_rfl
noncomputable def h93x0s2 : Sg Try.prog 0 93 :=
  (h93x0s1 N).lp (A93x0x9 N) N progOk (T92x0_ok N) (fun m kn L x => (step93x0x9 N m kn L x).trans (sb93x0x9 N L x _ _)) (fun L m x => sb93x0x9 N L x (Q93x0x9 N L m) some) fun L x hx => alt1 x hx
noncomputable def F93x0 (v6 : LD) (k0 : Int → Option R) : Option R :=
  bnd (G93x0x9 N v6 (v6.length : Int) 1 0) fun y0 =>
  bif y0.isSome then
    k0 (y0.getD default)
  else
    none
noncomputable def G93x0 (v6 : LD) : Option (Int) := F93x0 N v6 (fun p => some p)
theorem bind93x0 (v6 : LD) (k0 : Int → Option R) : F93x0 N v6 k0 = (G93x0 N v6).bind k0 := by
  unfold G93x0 F93x0
  repeat' (first | rfl | apply cond_b | (apply bnd_b; intro _))
noncomputable def sh93x0 : Sh := { tmps := [(0, .g ([.i .i64, .i .i64, .i .i64, .sl 66, .sl 68]))], mem := [] }
noncomputable def A93x0 (L : List Lf) : List (Bool × Res) := bnd (F93x0 N (ll L 6) (fun p => some p)) fun q => [(q.isSome, ([.c (.i .i64 (q.getD default))], []))]
theorem raw93x0 (L : List Lf) : bd Try.prog (T92x0 N) (h93x0s2 N).h 93 sh93x0 L = F93x0 N (ll L 6) (fun p => some ([.c (.i .i64 p)], [])) := by kernel_rfl
theorem ok93x0 : FnOk Try.prog 93 sh93x0 (A93x0 N) :=
  (h93x0s2 N).fn progOk (T92x0_ok N) fun L x hx => ((raw93x0 N L).trans ((bind93x0 N ..).trans (alt1 x hx)))
noncomputable def T93x0 : Oracle := ext 93 (spSh sh93x0 (A93x0 N)) (T92x0 N)
theorem T93x0_ok : OracleOk Try.prog (T93x0 N) := FnOk.to (ok93x0 N) (T92x0_ok N)
noncomputable def rg76x0 : List (Nat × List Nat) := [(0, [1, 0, 2]), (1, [0, 2, 4, 6]), (2, [4, 8, 0, 6, 2]), (3, [9, 8, 4, 0, 6, 2]), (4, [9, 8, 4, 0, 6, 2]), (5, [4, 9, 8, 0, 6, 2]), (6, [8, 0, 9, 6, 4, 2]), (7, [0, 9, 6, 4, 2, 8]), (8, [9, 0, 6, 4, 2, 8]), (9, [9, 0, 6, 10, 4, 2, 8]), (10, [0, 9, 6, 11, 10, 4, 2, 8]), (11, [69, 68, 67, 9, 6, 11, 10, 4, 2, 8, 0]), (12, [69, 67, 9, 6, 68, 11, 10, 4, 2, 8, 0]), (13, [13, 9, 6, 69, 68, 67, 11, 10, 4, 2, 8, 0, 12]), (14, [75, 9, 13, 6, 69, 68, 67, 11, 10, 4, 2, 8, 0, 12]), (17, [75, 11, 9, 13, 6, 69, 68, 67, 10, 4, 2, 8, 0, 12]), (20, [75, 10, 9, 13, 4, 6, 69, 68, 67, 11, 2, 8, 0, 12]), (23, [75, 2, 8, 13, 12, 9, 11, 6, 69, 68, 67, 10, 4, 0]), (30, [75, 4, 13, 12, 9, 8, 6, 69, 68, 67, 11, 10, 2, 0]), (31, [4, 13, 12, 9, 8, 6, 69, 68, 67, 11, 10, 2, 0]), (32, [12, 9, 8, 13, 6, 69, 68, 67, 11, 10, 4, 2, 0]), (33, [12, 9, 13, 6, 69, 68, 67, 11, 10, 4, 2, 8, 0]), (34, [9, 6]), (35, [9, 13, 12, 69, 68, 67, 6, 11, 10, 4, 2, 8, 0]), (36, [12, 9, 69, 68, 67, 6, 11, 10, 4, 2, 8, 0]), (24, [2, 8, 13, 12, 9, 11, 6, 69, 68, 67, 10, 4, 0]), (25, [12, 9, 13, 11, 6, 69, 68, 67, 10, 4, 2, 8, 0]), (26, [12, 9, 13, 11, 6, 69, 68, 67, 10, 4, 2, 8, 0]), (27, [9, 6]), (28, [11, 12, 9, 69, 68, 67, 6, 10, 4, 2, 8, 0]), (29, [12, 9, 69, 68, 67, 6, 11, 10, 4, 2, 8, 0]), (21, [10, 9, 13, 4, 6, 69, 68, 67, 11, 2, 8, 0]), (22, [9, 6]), (18, [11, 9, 13, 6, 69, 68, 67, 10, 4, 2, 8, 0]), (19, [9, 6]), (15, [9, 13, 6, 69, 68, 67, 11, 10, 4, 2, 8, 0]), (16, [9, 6]), (37, [69, 68, 67, 9, 6, 11, 10, 4, 2, 8, 0]), (38, [11, 9, 0, 6]), (39, [9, 0, 6]), (40, [0, 9, 6]), (41, [9, 0, 6]), (42, [9, 0, 6]), (43, [0, 9, 6]), (44, [9, 6]), (45, [9, 6])]
noncomputable def hd76x0 : Hints := [(23, [0, 9, 6, 4, 2, 8, 37], [11, 10, 8, 6, 1, 0], []), (25, [9, 0, 6, 4, 2, 8], [11, 10, 8, 6, 1, 0], []), (33, [69, 68, 67, 9, 6, 11, 10, 4, 2, 8, 0], [11, 10, 8, 6, 1, 0], []), (77, [12, 9, 13, 11, 6, 69, 68, 67, 10, 4, 2, 8, 0, 120], [15, 11, 10, 8, 6, 1, 0], []), (79, [12, 9, 13, 11, 6, 69, 68, 67, 10, 4, 2, 8, 0], [15, 11, 10, 8, 6, 1, 0], []), (89, [12, 9, 69, 68, 67, 6, 11, 10, 4, 2, 8, 0, 148], [11, 10, 8, 6, 1, 0], []), (98, [12, 9, 8, 13, 6, 69, 68, 67, 11, 10, 4, 2, 0, 168], [15, 11, 10, 8, 6, 1, 0], []), (110, [12, 9, 69, 68, 67, 6, 11, 10, 4, 2, 8, 0, 190], [11, 10, 8, 6, 1, 0], []), (95, [4, 13, 12, 9, 8, 6, 69, 68, 67, 11, 10, 2, 0, 152], [15, 11, 10, 8, 6, 1, 0], []), (90074, [2, 8, 13, 12, 9, 11, 6, 69, 68, 67, 10, 4, 0, 75, 110], [15, 11, 10, 8, 6, 1, 0], []), (69065, [10, 9, 13, 4, 6, 69, 68, 67, 11, 2, 8, 0, 75, 12, 95], [15, 11, 10, 8, 6, 1, 0], []), (60056, [11, 9, 13, 6, 69, 68, 67, 10, 4, 2, 8, 0, 75, 12, 84], [15, 11, 10, 8, 6, 1, 0], []), (51047, [9, 13, 6, 69, 68, 67, 11, 10, 4, 2, 8, 0, 75, 12, 76], [15, 11, 10, 8, 6, 1, 0], []), (125, [9, 0, 6, 202], [11, 8, 1, 0], []), (119, [9, 0, 6, 195], [11, 8, 1, 0], []), (134, [9, 6, 213], [11, 8, 0, 1], [])]
noncomputable def h76x0s0 (N : Nat) : Sg Try.prog 2 76 := .start hd76x0 rg76x0
noncomputable def F76x0x23 (w1 : Bool) (w8 : LD) (w78 : Int) (k0 : Int → Option R) : Option R :=
  bif w1 then
    bnd (G93x0 N w8) fun y0 =>
    bif y0.isSome then
      k0 (IntKind.wrap .i64 ((y0.getD default) - 1))
    else
      none
  else
    k0 w78
noncomputable def G76x0x23 (w1 : Bool) (w8 : LD) (w78 : Int) : Option (Int) := F76x0x23 N w1 w8 w78 (fun p => some p)
theorem bind76x0x23 (w1 : Bool) (w8 : LD) (w78 : Int) (k0 : Int → Option R) : F76x0x23 N w1 w8 w78 k0 = (G76x0x23 N w1 w8 w78).bind k0 := by
  unfold G76x0x23 F76x0x23
  repeat' (first | rfl | apply cond_b | (apply bnd_b; intro _))
noncomputable def sh76x0x23 : Sh := { tmps := [(0, .c (.p 0 0)), (2, .c (.i .i64)), (4, .c (.p 6 0)), (6, .c (.p 8 0)), (8, .c (.p 10 0)), (9, .c (.p 11 0)), (37, .c (.b))], mem := [(0, .box (.i .i64 :: .i .i64 :: [.i .i64, .sl 66, .sl 68, .sl 3, .sl 3, .m 1])), (1, .map 93 96), (6, .box (rI 28 ([]))), (8, .box (rI 28 ([]))), (10, .box ([.s, .i .i64, .i .i64, .i .i64, .b])), (11, .box (rI 28 ([])))] }
noncomputable def K76x0x23w0 (L : List Lf) (p : Int) : Ex × St := (.normal, mg (ofSh sh76x0x23 L) [0, 2, 4, 6, 8, 9] [] [0, 1, 6, 8, 10, 11] [(11, .box (.i .i64 (li L 75) :: .i .i64 (li L 76) :: .i .i64 (li L 77) :: .i .i64 p :: rL L 79 24 ([])))])
noncomputable def A76x0x23 (L : List Lf) : List (Bool × (Ex × St)) := bnd (F76x0x23 N (lb L 1) (ll L 8) (li L 78) (fun p => some p)) fun q => [(q.isSome, K76x0x23w0 L (q.getD default))]
theorem raw76x0x23 (L : List Lf) : pc Try.prog (T93x0 N) (h76x0s0 N).h 2 100 76 23 sh76x0x23 L [9, 0, 6, 4, 2, 8] [11, 10, 8, 6, 1, 0] = F76x0x23 N (lb L 1) (ll L 8) (li L 78) (fun p => some (K76x0x23w0 L p)) := by kernel_rfl
noncomputable def h76x0s1 : Sg Try.prog 2 76 :=
  (h76x0s0 N).cut (A76x0x23 N) progOk (T93x0_ok N) fun L x hx => (raw76x0x23 N L).trans ((bind76x0x23 N ..).trans (alt1 x hx))
noncomputable def F76x0x25 (N : Nat) (w2 w74 : Int) (k0 : Bool → R) : R :=
  bif ((w74.tmod 7) == 0) then
    k0 true
  else
    k0 (w74 == w2)
noncomputable def V76x0x25 (w2 w74 : Int) : Bool := F76x0x25 N w2 w74 (fun p => p)
theorem tot76x0x25 (w2 w74 : Int) (k0 : Bool → R) : F76x0x25 N w2 w74 k0 = k0 (V76x0x25 N w2 w74) := by
  unfold V76x0x25 F76x0x25
  repeat' (first | rfl | apply cond_k | (apply bnd_k; intro _))
noncomputable def sh76x0x25 : Sh := { tmps := [(0, .c (.p 0 0)), (2, .c (.i .i64)), (4, .c (.p 6 0)), (6, .c (.p 8 0)), (8, .c (.p 10 0)), (9, .c (.p 11 0))], mem := [(0, .box (.i .i64 :: .i .i64 :: [.i .i64, .sl 66, .sl 68, .sl 3, .sl 3, .m 1])), (1, .map 93 96), (6, .box (rI 28 ([]))), (8, .box (rI 28 ([]))), (10, .box ([.s, .i .i64, .i .i64, .i .i64, .b])), (11, .box (rI 28 ([])))] }
noncomputable def K76x0x25w0 (L : List Lf) (p : Bool) : Ex × St := (.normal, mg (ofSh sh76x0x25 L) [0, 2, 4, 6, 8, 9, 10] [(10, .c (.b p))] [0, 1, 6, 8, 10, 11] [])
noncomputable def A76x0x25 (L : List Lf) : List (Bool × (Ex × St)) := bnd (F76x0x25 N (li L 2) (li L 74) (fun p => p)) fun q => [(true, K76x0x25w0 L q)]
theorem raw76x0x25 (L : List Lf) : pc Try.prog (T93x0 N) (h76x0s1 N).h 2 100 76 25 sh76x0x25 L [9, 0, 6, 10, 4, 2, 8] [11, 10, 8, 6, 1, 0] = F76x0x25 N (li L 2) (li L 74) (fun p => some (K76x0x25w0 L p)) := by kernel_rfl
noncomputable def h76x0s2 : Sg Try.prog 2 76 :=
  (h76x0s1 N).cut (A76x0x25 N) progOk (T93x0_ok N) fun L x hx => (raw76x0x25 N L).trans ((tot76x0x25 N ..).trans (alt0 _ _ hx))
noncomputable def F76x0x77 (N : Nat) (w3 : Int) (w8 : Bool) (w86 w87 w88 w89 w90 w91 w92 w93 w94 w95 w96 w97 : Int) (k0 : Ty7 → Option R) : Option R :=
  bif w8 then
    bif (inB w3 12) then
      bnd (bif (Nat.beq w3.toNat 0) then w86 else (bif (Nat.beq w3.toNat 1) then w87 else (bif (Nat.beq w3.toNat 2) then w88 else (bif (Nat.beq w3.toNat 3) then w89 else (bif (Nat.beq w3.toNat 4) then w90 else (bif (Nat.beq w3.toNat 5) then w91 else (bif (Nat.beq w3.toNat 6) then w92 else (bif (Nat.beq w3.toNat 7) then w93 else (bif (Nat.beq w3.toNat 8) then w94 else (bif (Nat.beq w3.toNat 9) then w95 else (bif (Nat.beq w3.toNat 10) then w96 else w97))))))))))) fun y0 =>
      bif (inB w3 12) then
        bnd (bif (Nat.beq w3.toNat 0) then (IntKind.wrap .i64 (y0 + 1)) else w86) fun y1 =>
        bnd (bif (Nat.beq w3.toNat 1) then (IntKind.wrap .i64 (y0 + 1)) else w87) fun y2 =>
        bnd (bif (Nat.beq w3.toNat 2) then (IntKind.wrap .i64 (y0 + 1)) else w88) fun y3 =>
        bnd (bif (Nat.beq w3.toNat 3) then (IntKind.wrap .i64 (y0 + 1)) else w89) fun y4 =>
        bnd (bif (Nat.beq w3.toNat 4) then (IntKind.wrap .i64 (y0 + 1)) else w90) fun y5 =>
        bnd (bif (Nat.beq w3.toNat 5) then (IntKind.wrap .i64 (y0 + 1)) else w91) fun y6 =>
        bnd (bif (Nat.beq w3.toNat 6) then (IntKind.wrap .i64 (y0 + 1)) else w92) fun y7 =>
        bnd (bif (Nat.beq w3.toNat 7) then (IntKind.wrap .i64 (y0 + 1)) else w93) fun y8 =>
        bnd (bif (Nat.beq w3.toNat 8) then (IntKind.wrap .i64 (y0 + 1)) else w94) fun y9 =>
        bnd (bif (Nat.beq w3.toNat 9) then (IntKind.wrap .i64 (y0 + 1)) else w95) fun y10 =>
        bnd (bif (Nat.beq w3.toNat 10) then (IntKind.wrap .i64 (y0 + 1)) else w96) fun y11 =>
        bnd (bif (Nat.beq w3.toNat 11) then (IntKind.wrap .i64 (y0 + 1)) else w97) fun y12 =>
        k0 (y1, y2, y3, y4, y5, y6, y7, y8, y9, y10, y11, y12)
      else
        none
    else
      none
  else
    k0 (w86, w87, w88, w89, w90, w91, w92, w93, w94, w95, w96, w97)
noncomputable def G76x0x77 (w3 : Int) (w8 : Bool) (w86 w87 w88 w89 w90 w91 w92 w93 w94 w95 w96 w97 : Int) : Option (Ty7) := F76x0x77 N w3 w8 w86 w87 w88 w89 w90 w91 w92 w93 w94 w95 w96 w97 (fun p => some p)
theorem bind76x0x77 (w3 : Int) (w8 : Bool) (w86 w87 w88 w89 w90 w91 w92 w93 w94 w95 w96 w97 : Int) (k0 : Ty7 → Option R) : F76x0x77 N w3 w8 w86 w87 w88 w89 w90 w91 w92 w93 w94 w95 w96 w97 k0 = (G76x0x77 N w3 w8 w86 w87 w88 w89 w90 w91 w92 w93 w94 w95 w96 w97).bind k0 := by
  unfold G76x0x77 F76x0x77
  repeat' (first | rfl | apply cond_b | (apply bnd_b; intro _))
noncomputable def J76x0x77 (L : List Lf) (k0 : Ty7 → Option R) : Option R := F76x0x77 N (li L 3) (lb L 8) (li L 86) (li L 87) (li L 88) (li L 89) (li L 90) (li L 91) (li L 92) (li L 93) (li L 94) (li L 95) (li L 96) (li L 97) k0
noncomputable def sh76x0x77 : Sh := { tmps := [(0, .c (.p 0 0)), (2, .c (.i .i64)), (4, .c (.p 6 0)), (6, .c (.p 8 0)), (8, .c (.p 10 0)), (9, .c (.p 11 0)), (10, .c (.b)), (11, .c (.b)), (12, .c (.i .i64)), (13, .c (.p 15 0)), (67, .c (.sl 68)), (68, .c (.i .i64)), (69, .c (.i .i64)), (120, .c (.b))], mem := [(0, .box (.i .i64 :: .i .i64 :: [.i .i64, .sl 66, .sl 68, .sl 3, .sl 3, .m 1])), (1, .map 93 96), (6, .box (rI 28 ([]))), (8, .box (rI 28 ([]))), (10, .box ([.s, .i .i64, .i .i64, .i .i64, .b])), (11, .box (rI 28 ([]))), (15, .box (rI 5 ([.s])))] }
noncomputable def K76x0x77w0 (L : List Lf) (p : Ty7) : Ex × St := let p1 := p.2; let p2 := p1.2; let p3 := p2.2; let p4 := p3.2; let p5 := p4.2; let p6 := p5.2; let p7 := p6.2; let p8 := p7.2; let p9 := p8.2; let p10 := p9.2; let p11 := p10.2; (.normal, mg (ofSh sh76x0x77 L) [0, 2, 4, 6, 8, 9, 10, 11, 12, 13, 67, 68, 69] [] [0, 1, 6, 8, 10, 11, 15] [(11, .box (rL L 82 4 (.i .i64 p.1 :: .i .i64 p1.1 :: .i .i64 p2.1 :: .i .i64 p3.1 :: .i .i64 p4.1 :: .i .i64 p5.1 :: .i .i64 p6.1 :: .i .i64 p7.1 :: .i .i64 p8.1 :: .i .i64 p9.1 :: .i .i64 p10.1 :: .i .i64 p11 :: rL L 98 12 ([]))))])
noncomputable def A76x0x77 (L : List Lf) : List (Bool × (Ex × St)) := bnd (J76x0x77 N L (fun p => some p)) fun q => [(q.isSome, K76x0x77w0 L (q.getD default))]
theorem raw76x0x77 (L : List Lf) : pc Try.prog (T93x0 N) (h76x0s2 N).h 2 100 76 77 sh76x0x77 L [12, 9, 13, 11, 6, 69, 68, 67, 10, 4, 2, 8, 0] [15, 11, 10, 8, 6, 1, 0] = J76x0x77 N L (fun p => some (K76x0x77w0 L p)) := by kernel_rfl
noncomputable def h76x0s3 : Sg Try.prog 2 76 :=
  (h76x0s2 N).cut (A76x0x77 N) progOk (T93x0_ok N) fun L x hx => (raw76x0x77 N L).trans ((bind76x0x77 N ..).trans (alt1 x hx))
noncomputable def F76x0x79 (N : Nat) (w2 : Bool) (w3 w85 w86 w87 w88 w89 w90 w91 w92 w93 w94 w95 w96 w112 w113 : Int) (k0 : Bool → Option R) : Option R :=
  bif (inB w3 12) then
    bnd (bif (Nat.beq w3.toNat 0) then w85 else (bif (Nat.beq w3.toNat 1) then w86 else (bif (Nat.beq w3.toNat 2) then w87 else (bif (Nat.beq w3.toNat 3) then w88 else (bif (Nat.beq w3.toNat 4) then w89 else (bif (Nat.beq w3.toNat 5) then w90 else (bif (Nat.beq w3.toNat 6) then w91 else (bif (Nat.beq w3.toNat 7) then w92 else (bif (Nat.beq w3.toNat 8) then w93 else (bif (Nat.beq w3.toNat 9) then w94 else (bif (Nat.beq w3.toNat 10) then w95 else w96))))))))))) fun y0 =>
    bif (decide (y0 > w113)) then
      k0 true
    else
      bif w2 then
        bif (inB w3 12) then
          bnd (bif (Nat.beq w3.toNat 0) then w85 else (bif (Nat.beq w3.toNat 1) then w86 else (bif (Nat.beq w3.toNat 2) then w87 else (bif (Nat.beq w3.toNat 3) then w88 else (bif (Nat.beq w3.toNat 4) then w89 else (bif (Nat.beq w3.toNat 5) then w90 else (bif (Nat.beq w3.toNat 6) then w91 else (bif (Nat.beq w3.toNat 7) then w92 else (bif (Nat.beq w3.toNat 8) then w93 else (bif (Nat.beq w3.toNat 9) then w94 else (bif (Nat.beq w3.toNat 10) then w95 else w96))))))))))) fun y0 =>
          k0 (decide (y0 < w112))
        else
          none
      else
        k0 false
  else
    none
noncomputable def G76x0x79 (w2 : Bool) (w3 w85 w86 w87 w88 w89 w90 w91 w92 w93 w94 w95 w96 w112 w113 : Int) : Option (Bool) := F76x0x79 N w2 w3 w85 w86 w87 w88 w89 w90 w91 w92 w93 w94 w95 w96 w112 w113 (fun p => some p)
theorem bind76x0x79 (w2 : Bool) (w3 w85 w86 w87 w88 w89 w90 w91 w92 w93 w94 w95 w96 w112 w113 : Int) (k0 : Bool → Option R) : F76x0x79 N w2 w3 w85 w86 w87 w88 w89 w90 w91 w92 w93 w94 w95 w96 w112 w113 k0 = (G76x0x79 N w2 w3 w85 w86 w87 w88 w89 w90 w91 w92 w93 w94 w95 w96 w112 w113).bind k0 := by
  unfold G76x0x79 F76x0x79
  repeat' (first | rfl | apply cond_b | (apply bnd_b; intro _))
noncomputable def J76x0x79 (L : List Lf) (k0 : Bool → Option R) : Option R := F76x0x79 N (lb L 2) (li L 3) (li L 85) (li L 86) (li L 87) (li L 88) (li L 89) (li L 90) (li L 91) (li L 92) (li L 93) (li L 94) (li L 95) (li L 96) (li L 112) (li L 113) k0
noncomputable def sh76x0x79 : Sh := { tmps := [(0, .c (.p 0 0)), (2, .c (.i .i64)), (4, .c (.p 6 0)), (6, .c (.p 8 0)), (8, .c (.p 10 0)), (9, .c (.p 11 0)), (10, .c (.b)), (11, .c (.b)), (12, .c (.i .i64)), (13, .c (.p 15 0)), (67, .c (.sl 68)), (68, .c (.i .i64)), (69, .c (.i .i64))], mem := [(0, .box (.i .i64 :: .i .i64 :: [.i .i64, .sl 66, .sl 68, .sl 3, .sl 3, .m 1])), (1, .map 93 96), (6, .box (rI 28 ([]))), (8, .box (rI 28 ([]))), (10, .box ([.s, .i .i64, .i .i64, .i .i64, .b])), (11, .box (rI 28 ([]))), (15, .box (rI 5 ([.s])))] }
noncomputable def K76x0x79w0 (L : List Lf) (p : Bool) : Ex × St := (.normal, mg (ofSh sh76x0x79 L) [0, 2, 4, 6, 8, 9, 10, 11, 12, 67, 68, 69, 146] [(146, .c (.b p))] [0, 1, 6, 8, 10, 11] [])
noncomputable def A76x0x79 (L : List Lf) : List (Bool × (Ex × St)) := bnd (J76x0x79 N L (fun p => some p)) fun q => [(q.isSome, K76x0x79w0 L (q.getD default))]
theorem raw76x0x79 (L : List Lf) : pc Try.prog (T93x0 N) (h76x0s3 N).h 2 100 76 79 sh76x0x79 L [9, 6, 11, 12, 69, 68, 67, 10, 4, 2, 8, 0, 146] [11, 10, 8, 6, 1, 0] = J76x0x79 N L (fun p => some (K76x0x79w0 L p)) := by kernel_rfl
noncomputable def h76x0s4 : Sg Try.prog 2 76 :=
  (h76x0s3 N).cut (A76x0x79 N) progOk (T93x0_ok N) fun L x hx => (raw76x0x79 N L).trans ((bind76x0x79 N ..).trans (alt1 x hx))
noncomputable def F76x0x89 (N : Nat) (w3 : Int) (w8 : Bool) (w86 w87 w88 w89 w90 w91 w92 w93 w94 w95 w96 w97 : Int) (k0 : Ty7 → Option R) : Option R :=
  bif w8 then
    bif (inB w3 12) then
      k0 ((bif (Nat.beq w3.toNat 0) then 0 else w86), (bif (Nat.beq w3.toNat 1) then 0 else w87), (bif (Nat.beq w3.toNat 2) then 0 else w88), (bif (Nat.beq w3.toNat 3) then 0 else w89), (bif (Nat.beq w3.toNat 4) then 0 else w90), (bif (Nat.beq w3.toNat 5) then 0 else w91), (bif (Nat.beq w3.toNat 6) then 0 else w92), (bif (Nat.beq w3.toNat 7) then 0 else w93), (bif (Nat.beq w3.toNat 8) then 0 else w94), (bif (Nat.beq w3.toNat 9) then 0 else w95), (bif (Nat.beq w3.toNat 10) then 0 else w96), (bif (Nat.beq w3.toNat 11) then 0 else w97))
    else
      none
  else
    k0 (w86, w87, w88, w89, w90, w91, w92, w93, w94, w95, w96, w97)
noncomputable def G76x0x89 (w3 : Int) (w8 : Bool) (w86 w87 w88 w89 w90 w91 w92 w93 w94 w95 w96 w97 : Int) : Option (Ty7) := F76x0x89 N w3 w8 w86 w87 w88 w89 w90 w91 w92 w93 w94 w95 w96 w97 (fun p => some p)
theorem bind76x0x89 (w3 : Int) (w8 : Bool) (w86 w87 w88 w89 w90 w91 w92 w93 w94 w95 w96 w97 : Int) (k0 : Ty7 → Option R) : F76x0x89 N w3 w8 w86 w87 w88 w89 w90 w91 w92 w93 w94 w95 w96 w97 k0 = (G76x0x89 N w3 w8 w86 w87 w88 w89 w90 w91 w92 w93 w94 w95 w96 w97).bind k0 := by
  unfold G76x0x89 F76x0x89
  repeat' (first | rfl | apply cond_b | (apply bnd_b; intro _))
noncomputable def J76x0x89 (L : List Lf) (k0 : Ty7 → Option R) : Option R := F76x0x89 N (li L 3) (lb L 8) (li L 86) (li L 87) (li L 88) (li L 89) (li L 90) (li L 91) (li L 92) (li L 93) (li L 94) (li L 95) (li L 96) (li L 97) k0
noncomputable def sh76x0x89 : Sh := { tmps := [(0, .c (.p 0 0)), (2, .c (.i .i64)), (4, .c (.p 6 0)), (6, .c (.p 8 0)), (8, .c (.p 10 0)), (9, .c (.p 11 0)), (10, .c (.b)), (11, .c (.b)), (12, .c (.i .i64)), (67, .c (.sl 68)), (68, .c (.i .i64)), (69, .c (.i .i64)), (148, .c (.b))], mem := [(0, .box (.i .i64 :: .i .i64 :: [.i .i64, .sl 66, .sl 68, .sl 3, .sl 3, .m 1])), (1, .map 93 96), (6, .box (rI 28 ([]))), (8, .box (rI 28 ([]))), (10, .box ([.s, .i .i64, .i .i64, .i .i64, .b])), (11, .box (rI 28 ([])))] }
noncomputable def K76x0x89w0 (L : List Lf) (p : Ty7) : Ex × St := let p1 := p.2; let p2 := p1.2; let p3 := p2.2; let p4 := p3.2; let p5 := p4.2; let p6 := p5.2; let p7 := p6.2; let p8 := p7.2; let p9 := p8.2; let p10 := p9.2; let p11 := p10.2; (.normal, mg (ofSh sh76x0x89 L) [0, 2, 4, 6, 8, 9, 10, 11, 67, 68, 69] [] [0, 1, 6, 8, 10, 11] [(11, .box (rL L 82 4 (.i .i64 p.1 :: .i .i64 p1.1 :: .i .i64 p2.1 :: .i .i64 p3.1 :: .i .i64 p4.1 :: .i .i64 p5.1 :: .i .i64 p6.1 :: .i .i64 p7.1 :: .i .i64 p8.1 :: .i .i64 p9.1 :: .i .i64 p10.1 :: .i .i64 p11 :: rL L 98 12 ([]))))])
noncomputable def A76x0x89 (L : List Lf) : List (Bool × (Ex × St)) := bnd (J76x0x89 N L (fun p => some p)) fun q => [(q.isSome, K76x0x89w0 L (q.getD default))]
theorem raw76x0x89 (L : List Lf) : pc Try.prog (T93x0 N) (h76x0s4 N).h 2 100 76 89 sh76x0x89 L [69, 68, 67, 9, 6, 11, 10, 4, 2, 8, 0] [11, 10, 8, 6, 1, 0] = J76x0x89 N L (fun p => some (K76x0x89w0 L p)) := by kernel_rfl
noncomputable def h76x0s5 : Sg Try.prog 2 76 :=
  (h76x0s4 N).cut (A76x0x89 N) progOk (T93x0_ok N) fun L x hx => (raw76x0x89 N L).trans ((bind76x0x89 N ..).trans (alt1 x hx))
noncomputable def F76x0x98 (N : Nat) (w3 : Int) (w8 : Bool) (w78 w98 w99 w100 w101 w102 w103 w104 w105 w106 w107 w108 w109 : Int) (k0 : Ty7 → Option R) : Option R :=
  bif w8 then
    bif (inB w3 12) then
      bnd (bif (Nat.beq w3.toNat 0) then w98 else (bif (Nat.beq w3.toNat 1) then w99 else (bif (Nat.beq w3.toNat 2) then w100 else (bif (Nat.beq w3.toNat 3) then w101 else (bif (Nat.beq w3.toNat 4) then w102 else (bif (Nat.beq w3.toNat 5) then w103 else (bif (Nat.beq w3.toNat 6) then w104 else (bif (Nat.beq w3.toNat 7) then w105 else (bif (Nat.beq w3.toNat 8) then w106 else (bif (Nat.beq w3.toNat 9) then w107 else (bif (Nat.beq w3.toNat 10) then w108 else w109))))))))))) fun y0 =>
      bif (inB w3 12) then
        bnd (bif (Nat.beq w3.toNat 0) then (IntKind.wrap .i64 (y0 + w78)) else w98) fun y1 =>
        bnd (bif (Nat.beq w3.toNat 1) then (IntKind.wrap .i64 (y0 + w78)) else w99) fun y2 =>
        bnd (bif (Nat.beq w3.toNat 2) then (IntKind.wrap .i64 (y0 + w78)) else w100) fun y3 =>
        bnd (bif (Nat.beq w3.toNat 3) then (IntKind.wrap .i64 (y0 + w78)) else w101) fun y4 =>
        bnd (bif (Nat.beq w3.toNat 4) then (IntKind.wrap .i64 (y0 + w78)) else w102) fun y5 =>
        bnd (bif (Nat.beq w3.toNat 5) then (IntKind.wrap .i64 (y0 + w78)) else w103) fun y6 =>
        bnd (bif (Nat.beq w3.toNat 6) then (IntKind.wrap .i64 (y0 + w78)) else w104) fun y7 =>
        bnd (bif (Nat.beq w3.toNat 7) then (IntKind.wrap .i64 (y0 + w78)) else w105) fun y8 =>
        bnd (bif (Nat.beq w3.toNat 8) then (IntKind.wrap .i64 (y0 + w78)) else w106) fun y9 =>
        bnd (bif (Nat.beq w3.toNat 9) then (IntKind.wrap .i64 (y0 + w78)) else w107) fun y10 =>
        bnd (bif (Nat.beq w3.toNat 10) then (IntKind.wrap .i64 (y0 + w78)) else w108) fun y11 =>
        bnd (bif (Nat.beq w3.toNat 11) then (IntKind.wrap .i64 (y0 + w78)) else w109) fun y12 =>
        k0 (y1, y2, y3, y4, y5, y6, y7, y8, y9, y10, y11, y12)
      else
        none
    else
      none
  else
    k0 (w98, w99, w100, w101, w102, w103, w104, w105, w106, w107, w108, w109)
noncomputable def G76x0x98 (w3 : Int) (w8 : Bool) (w78 w98 w99 w100 w101 w102 w103 w104 w105 w106 w107 w108 w109 : Int) : Option (Ty7) := F76x0x98 N w3 w8 w78 w98 w99 w100 w101 w102 w103 w104 w105 w106 w107 w108 w109 (fun p => some p)
theorem bind76x0x98 (w3 : Int) (w8 : Bool) (w78 w98 w99 w100 w101 w102 w103 w104 w105 w106 w107 w108 w109 : Int) (k0 : Ty7 → Option R) : F76x0x98 N w3 w8 w78 w98 w99 w100 w101 w102 w103 w104 w105 w106 w107 w108 w109 k0 = (G76x0x98 N w3 w8 w78 w98 w99 w100 w101 w102 w103 w104 w105 w106 w107 w108 w109).bind k0 := by
  unfold G76x0x98 F76x0x98
  repeat' (first | rfl | apply cond_b | (apply bnd_b; intro _))
noncomputable def J76x0x98 (L : List Lf) (k0 : Ty7 → Option R) : Option R := F76x0x98 N (li L 3) (lb L 8) (li L 78) (li L 98) (li L 99) (li L 100) (li L 101) (li L 102) (li L 103) (li L 104) (li L 105) (li L 106) (li L 107) (li L 108) (li L 109) k0
noncomputable def sh76x0x98 : Sh := { tmps := [(0, .c (.p 0 0)), (2, .c (.i .i64)), (4, .c (.p 6 0)), (6, .c (.p 8 0)), (8, .c (.p 10 0)), (9, .c (.p 11 0)), (10, .c (.b)), (11, .c (.b)), (12, .c (.i .i64)), (13, .c (.p 15 0)), (67, .c (.sl 68)), (68, .c (.i .i64)), (69, .c (.i .i64)), (168, .c (.b))], mem := [(0, .box (.i .i64 :: .i .i64 :: [.i .i64, .sl 66, .sl 68, .sl 3, .sl 3, .m 1])), (1, .map 93 96), (6, .box (rI 28 ([]))), (8, .box (rI 28 ([]))), (10, .box ([.s, .i .i64, .i .i64, .i .i64, .b])), (11, .box (rI 28 ([]))), (15, .box (rI 5 ([.s])))] }
noncomputable def K76x0x98w0 (L : List Lf) (p : Ty7) : Ex × St := let p1 := p.2; let p2 := p1.2; let p3 := p2.2; let p4 := p3.2; let p5 := p4.2; let p6 := p5.2; let p7 := p6.2; let p8 := p7.2; let p9 := p8.2; let p10 := p9.2; let p11 := p10.2; (.normal, mg (ofSh sh76x0x98 L) [0, 2, 4, 6, 8, 9, 10, 11, 12, 13, 67, 68, 69] [] [0, 1, 6, 8, 10, 11, 15] [(11, .box (rL L 82 16 ([.i .i64 p.1, .i .i64 p1.1, .i .i64 p2.1, .i .i64 p3.1, .i .i64 p4.1, .i .i64 p5.1, .i .i64 p6.1, .i .i64 p7.1, .i .i64 p8.1, .i .i64 p9.1, .i .i64 p10.1, .i .i64 p11])))])
noncomputable def A76x0x98 (L : List Lf) : List (Bool × (Ex × St)) := bnd (J76x0x98 N L (fun p => some p)) fun q => [(q.isSome, K76x0x98w0 L (q.getD default))]
theorem raw76x0x98 (L : List Lf) : pc Try.prog (T93x0 N) (h76x0s5 N).h 2 100 76 98 sh76x0x98 L [12, 9, 13, 6, 69, 68, 67, 11, 10, 4, 2, 8, 0] [15, 11, 10, 8, 6, 1, 0] = J76x0x98 N L (fun p => some (K76x0x98w0 L p)) := by kernel_rfl
noncomputable def h76x0s6 : Sg Try.prog 2 76 :=
  (h76x0s5 N).cut (A76x0x98 N) progOk (T93x0_ok N) fun L x hx => (raw76x0x98 N L).trans ((bind76x0x98 N ..).trans (alt1 x hx))
noncomputable def F76x0x110 (N : Nat) (w3 : Int) (w8 : Bool) (w98 w99 w100 w101 w102 w103 w104 w105 w106 w107 w108 w109 : Int) (k0 : Ty7 → Option R) : Option R :=
  bif w8 then
    bif (inB w3 12) then
      k0 ((bif (Nat.beq w3.toNat 0) then 0 else w98), (bif (Nat.beq w3.toNat 1) then 0 else w99), (bif (Nat.beq w3.toNat 2) then 0 else w100), (bif (Nat.beq w3.toNat 3) then 0 else w101), (bif (Nat.beq w3.toNat 4) then 0 else w102), (bif (Nat.beq w3.toNat 5) then 0 else w103), (bif (Nat.beq w3.toNat 6) then 0 else w104), (bif (Nat.beq w3.toNat 7) then 0 else w105), (bif (Nat.beq w3.toNat 8) then 0 else w106), (bif (Nat.beq w3.toNat 9) then 0 else w107), (bif (Nat.beq w3.toNat 10) then 0 else w108), (bif (Nat.beq w3.toNat 11) then 0 else w109))
    else
      none
  else
    k0 (w98, w99, w100, w101, w102, w103, w104, w105, w106, w107, w108, w109)
noncomputable def G76x0x110 (w3 : Int) (w8 : Bool) (w98 w99 w100 w101 w102 w103 w104 w105 w106 w107 w108 w109 : Int) : Option (Ty7) := F76x0x110 N w3 w8 w98 w99 w100 w101 w102 w103 w104 w105 w106 w107 w108 w109 (fun p => some p)
theorem bind76x0x110 (w3 : Int) (w8 : Bool) (w98 w99 w100 w101 w102 w103 w104 w105 w106 w107 w108 w109 : Int) (k0 : Ty7 → Option R) : F76x0x110 N w3 w8 w98 w99 w100 w101 w102 w103 w104 w105 w106 w107 w108 w109 k0 = (G76x0x110 N w3 w8 w98 w99 w100 w101 w102 w103 w104 w105 w106 w107 w108 w109).bind k0 := by
  unfold G76x0x110 F76x0x110
  repeat' (first | rfl | apply cond_b | (apply bnd_b; intro _))
noncomputable def J76x0x110 (L : List Lf) (k0 : Ty7 → Option R) : Option R := F76x0x110 N (li L 3) (lb L 8) (li L 98) (li L 99) (li L 100) (li L 101) (li L 102) (li L 103) (li L 104) (li L 105) (li L 106) (li L 107) (li L 108) (li L 109) k0
noncomputable def sh76x0x110 : Sh := { tmps := [(0, .c (.p 0 0)), (2, .c (.i .i64)), (4, .c (.p 6 0)), (6, .c (.p 8 0)), (8, .c (.p 10 0)), (9, .c (.p 11 0)), (10, .c (.b)), (11, .c (.b)), (12, .c (.i .i64)), (67, .c (.sl 68)), (68, .c (.i .i64)), (69, .c (.i .i64)), (190, .c (.b))], mem := [(0, .box (.i .i64 :: .i .i64 :: [.i .i64, .sl 66, .sl 68, .sl 3, .sl 3, .m 1])), (1, .map 93 96), (6, .box (rI 28 ([]))), (8, .box (rI 28 ([]))), (10, .box ([.s, .i .i64, .i .i64, .i .i64, .b])), (11, .box (rI 28 ([])))] }
noncomputable def K76x0x110w0 (L : List Lf) (p : Ty7) : Ex × St := let p1 := p.2; let p2 := p1.2; let p3 := p2.2; let p4 := p3.2; let p5 := p4.2; let p6 := p5.2; let p7 := p6.2; let p8 := p7.2; let p9 := p8.2; let p10 := p9.2; let p11 := p10.2; (.normal, mg (ofSh sh76x0x110 L) [0, 2, 4, 6, 8, 9, 10, 11, 67, 68, 69] [] [0, 1, 6, 8, 10, 11] [(11, .box (rL L 82 16 ([.i .i64 p.1, .i .i64 p1.1, .i .i64 p2.1, .i .i64 p3.1, .i .i64 p4.1, .i .i64 p5.1, .i .i64 p6.1, .i .i64 p7.1, .i .i64 p8.1, .i .i64 p9.1, .i .i64 p10.1, .i .i64 p11])))])
noncomputable def A76x0x110 (L : List Lf) : List (Bool × (Ex × St)) := bnd (J76x0x110 N L (fun p => some p)) fun q => [(q.isSome, K76x0x110w0 L (q.getD default))]
theorem raw76x0x110 (L : List Lf) : pc Try.prog (T93x0 N) (h76x0s6 N).h 2 100 76 110 sh76x0x110 L [69, 68, 67, 9, 6, 11, 10, 4, 2, 8, 0] [11, 10, 8, 6, 1, 0] = J76x0x110 N L (fun p => some (K76x0x110w0 L p)) := by kernel_rfl
noncomputable def h76x0s7 : Sg Try.prog 2 76 :=
  (h76x0s6 N).cut (A76x0x110 N) progOk (T93x0_ok N) fun L x hx => (raw76x0x110 N L).trans ((bind76x0x110 N ..).trans (alt1 x hx))
noncomputable def F76x0x95 (w3 : Int) (w8 : Bool) (w21 w78 w82 w98 w99 w100 w101 w102 w103 w104 w105 w106 w107 w108 w109 w111 w112 w113 : Int) (k0 : Ty2 → Option R) (k1 : Ty7 → Option R) : Option R :=
  bif w8 then
    bnd (bif (decide (w21 ≥ (IntKind.wrap .i64 (w111 - w113)))) then (decide (w21 < w111)) else false) fun y0 =>
    bnd (G76x0x98 N w3 y0 w78 w98 w99 w100 w101 w102 w103 w104 w105 w106 w107 w108 w109) fun y1 =>
    bif y1.isSome then
      bif (inB w3 12) then
        bnd (bif (Nat.beq w3.toNat 0) then (y1.getD default).1 else (bif (Nat.beq w3.toNat 1) then (y1.getD default).2.1 else (bif (Nat.beq w3.toNat 2) then (y1.getD default).2.2.1 else (bif (Nat.beq w3.toNat 3) then (y1.getD default).2.2.2.1 else (bif (Nat.beq w3.toNat 4) then (y1.getD default).2.2.2.2.1 else (bif (Nat.beq w3.toNat 5) then (y1.getD default).2.2.2.2.2.1 else (bif (Nat.beq w3.toNat 6) then (y1.getD default).2.2.2.2.2.2.1 else (bif (Nat.beq w3.toNat 7) then (y1.getD default).2.2.2.2.2.2.2.1 else (bif (Nat.beq w3.toNat 8) then (y1.getD default).2.2.2.2.2.2.2.2.1 else (bif (Nat.beq w3.toNat 9) then (y1.getD default).2.2.2.2.2.2.2.2.2.1 else (bif (Nat.beq w3.toNat 10) then (y1.getD default).2.2.2.2.2.2.2.2.2.2.1 else (y1.getD default).2.2.2.2.2.2.2.2.2.2.2))))))))))) fun y2 =>
        bif (decide (y2 > w112)) then
          k0 ((y1.getD default).1, (y1.getD default).2.1, (y1.getD default).2.2.1, (y1.getD default).2.2.2.1, (y1.getD default).2.2.2.2.1, (y1.getD default).2.2.2.2.2.1, (y1.getD default).2.2.2.2.2.2.1, (y1.getD default).2.2.2.2.2.2.2.1, (y1.getD default).2.2.2.2.2.2.2.2.1, (y1.getD default).2.2.2.2.2.2.2.2.2.1, (y1.getD default).2.2.2.2.2.2.2.2.2.2.1, (y1.getD default).2.2.2.2.2.2.2.2.2.2.2, (y1.getD default).1, (y1.getD default).2.1, (y1.getD default).2.2.1, (y1.getD default).2.2.2.1, (y1.getD default).2.2.2.2.1, (y1.getD default).2.2.2.2.2.1, (y1.getD default).2.2.2.2.2.2.1, (y1.getD default).2.2.2.2.2.2.2.1, (y1.getD default).2.2.2.2.2.2.2.2.1, (y1.getD default).2.2.2.2.2.2.2.2.2.1, (y1.getD default).2.2.2.2.2.2.2.2.2.2.1, (y1.getD default).2.2.2.2.2.2.2.2.2.2.2)
        else
          bnd (G76x0x110 N w3 (decide (w82 ≥ w111)) (y1.getD default).1 (y1.getD default).2.1 (y1.getD default).2.2.1 (y1.getD default).2.2.2.1 (y1.getD default).2.2.2.2.1 (y1.getD default).2.2.2.2.2.1 (y1.getD default).2.2.2.2.2.2.1 (y1.getD default).2.2.2.2.2.2.2.1 (y1.getD default).2.2.2.2.2.2.2.2.1 (y1.getD default).2.2.2.2.2.2.2.2.2.1 (y1.getD default).2.2.2.2.2.2.2.2.2.2.1 (y1.getD default).2.2.2.2.2.2.2.2.2.2.2) fun y3 =>
          bif y3.isSome then
            k1 (y3.getD default)
          else
            none
      else
        none
    else
      none
  else
    k1 (w98, w99, w100, w101, w102, w103, w104, w105, w106, w107, w108, w109)
noncomputable def G76x0x95 (w3 : Int) (w8 : Bool) (w21 w78 w82 w98 w99 w100 w101 w102 w103 w104 w105 w106 w107 w108 w109 w111 w112 w113 : Int) : Option (Sum (Ty2) (Ty7)) := F76x0x95 N w3 w8 w21 w78 w82 w98 w99 w100 w101 w102 w103 w104 w105 w106 w107 w108 w109 w111 w112 w113 (fun p => some (.inl p)) (fun p => some (.inr p))
theorem bind76x0x95 (w3 : Int) (w8 : Bool) (w21 w78 w82 w98 w99 w100 w101 w102 w103 w104 w105 w106 w107 w108 w109 w111 w112 w113 : Int) (k0 : Ty2 → Option R) (k1 : Ty7 → Option R) : F76x0x95 N w3 w8 w21 w78 w82 w98 w99 w100 w101 w102 w103 w104 w105 w106 w107 w108 w109 w111 w112 w113 k0 k1 = (G76x0x95 N w3 w8 w21 w78 w82 w98 w99 w100 w101 w102 w103 w104 w105 w106 w107 w108 w109 w111 w112 w113).bind (sumE k0 k1) := by
  unfold G76x0x95 F76x0x95
  repeat' (first | rfl | apply cond_b | (apply bnd_b; intro _))
noncomputable def J76x0x95 (L : List Lf) (k0 : Ty2 → Option R) (k1 : Ty7 → Option R) : Option R := F76x0x95 N (li L 3) (lb L 8) (li L 21) (li L 78) (li L 82) (li L 98) (li L 99) (li L 100) (li L 101) (li L 102) (li L 103) (li L 104) (li L 105) (li L 106) (li L 107) (li L 108) (li L 109) (li L 111) (li L 112) (li L 113) k0 k1
noncomputable def sh76x0x95 : Sh := { tmps := [(0, .c (.p 0 0)), (2, .c (.i .i64)), (4, .c (.p 6 0)), (6, .c (.p 8 0)), (8, .c (.p 10 0)), (9, .c (.p 11 0)), (10, .c (.b)), (11, .c (.b)), (12, .c (.i .i64)), (13, .c (.p 15 0)), (67, .c (.sl 68)), (68, .c (.i .i64)), (69, .c (.i .i64)), (152, .c (.b))], mem := [(0, .box (.i .i64 :: .i .i64 :: [.i .i64, .sl 66, .sl 68, .sl 3, .sl 3, .m 1])), (1, .map 93 96), (6, .box (rI 28 ([]))), (8, .box (rI 28 ([]))), (10, .box ([.s, .i .i64, .i .i64, .i .i64, .b])), (11, .box (rI 28 ([]))), (15, .box (rI 5 ([.s])))] }
noncomputable def K76x0x95w0 (L : List Lf) (p : Ty2) : Ex × St := let p1 := p.2; let p2 := p1.2; let p3 := p2.2; let p4 := p3.2; let p5 := p4.2; let p6 := p5.2; let p7 := p6.2; let p8 := p7.2; let p9 := p8.2; let p10 := p9.2; let p11 := p10.2; let p12 := p11.2; let p13 := p12.2; let p14 := p13.2; let p15 := p14.2; let p16 := p15.2; let p17 := p16.2; let p18 := p17.2; let p19 := p18.2; let p20 := p19.2; let p21 := p20.2; let p22 := p21.2; let p23 := p22.2; (.ret, mg (ofSh sh76x0x95 L) [6, 7, 9] [(7, .c (.b false))] [0, 1, 6, 8, 10, 11] [(8, .box (rL L 82 16 ([.i .i64 p.1, .i .i64 p1.1, .i .i64 p2.1, .i .i64 p3.1, .i .i64 p4.1, .i .i64 p5.1, .i .i64 p6.1, .i .i64 p7.1, .i .i64 p8.1, .i .i64 p9.1, .i .i64 p10.1, .i .i64 p11.1]))), (11, .box (rL L 82 16 ([.i .i64 p12.1, .i .i64 p13.1, .i .i64 p14.1, .i .i64 p15.1, .i .i64 p16.1, .i .i64 p17.1, .i .i64 p18.1, .i .i64 p19.1, .i .i64 p20.1, .i .i64 p21.1, .i .i64 p22.1, .i .i64 p23])))])
noncomputable def K76x0x95w1 (L : List Lf) (p : Ty7) : Ex × St := let p1 := p.2; let p2 := p1.2; let p3 := p2.2; let p4 := p3.2; let p5 := p4.2; let p6 := p5.2; let p7 := p6.2; let p8 := p7.2; let p9 := p8.2; let p10 := p9.2; let p11 := p10.2; (.normal, mg (ofSh sh76x0x95 L) [0, 2, 4, 6, 8, 9, 10, 11, 67, 68, 69] [] [0, 1, 6, 8, 10, 11] [(11, .box (rL L 82 16 ([.i .i64 p.1, .i .i64 p1.1, .i .i64 p2.1, .i .i64 p3.1, .i .i64 p4.1, .i .i64 p5.1, .i .i64 p6.1, .i .i64 p7.1, .i .i64 p8.1, .i .i64 p9.1, .i .i64 p10.1, .i .i64 p11])))])
noncomputable def A76x0x95 (L : List Lf) : List (Bool × (Ex × St)) := bnd (J76x0x95 N L (fun p => some (.inl p)) (fun p => some (.inr p))) fun q => [((inlB q), K76x0x95w0 L (inlV q)), ((inrQ q).isSome, K76x0x95w1 L ((inrQ q).getD default))]
theorem raw76x0x95 (L : List Lf) : pc Try.prog (T93x0 N) (h76x0s7 N).h 2 100 76 95 sh76x0x95 L [69, 68, 67, 9, 6, 11, 10, 4, 2, 8, 0, 7] [11, 8, 0, 1, 10, 6] = J76x0x95 N L (fun p => some (K76x0x95w0 L p)) (fun p => some (K76x0x95w1 L p)) := by kernel_rfl
noncomputable def h76x0s8 : Sg Try.prog 2 76 :=
  (h76x0s7 N).cut (A76x0x95 N) progOk (T93x0_ok N) fun L x hx => (raw76x0x95 N L).trans ((bind76x0x95 N ..).trans ((altS alt1) x hx))
noncomputable def F76x0x90074 (w0 : Int) (w2 : Bool) (w3 w8 : Int) (w9 : Bool) (w22 : Int) (w78 : LB) (w79 w83 w87 w88 w89 w90 w91 w92 w93 w94 w95 w96 w97 w98 w99 w100 w101 w102 w103 w104 w105 w106 w107 w108 w109 w110 w112 w113 w114 w115 : Int) (w116 : LB) (k0 : Ty0 → Option R) (k1 : Ty2 → Option R) : Option R :=
  bif w9 then
    bnd (G76x0x77 N w3 (bif (decide (w0 ≥ 0)) then (w78 == w116) else false) w87 w88 w89 w90 w91 w92 w93 w94 w95 w96 w97 w98) fun y0 =>
    bif y0.isSome then
      bnd (G76x0x79 N w2 w3 (y0.getD default).1 (y0.getD default).2.1 (y0.getD default).2.2.1 (y0.getD default).2.2.2.1 (y0.getD default).2.2.2.2.1 (y0.getD default).2.2.2.2.2.1 (y0.getD default).2.2.2.2.2.2.1 (y0.getD default).2.2.2.2.2.2.2.1 (y0.getD default).2.2.2.2.2.2.2.2.1 (y0.getD default).2.2.2.2.2.2.2.2.2.1 (y0.getD default).2.2.2.2.2.2.2.2.2.2.1 (y0.getD default).2.2.2.2.2.2.2.2.2.2.2 w114 w115) fun y1 =>
      bif y1.isSome then
        bif (y1.getD default) then
          k0 ((y0.getD default).1, (y0.getD default).2.1, (y0.getD default).2.2.1, (y0.getD default).2.2.2.1, (y0.getD default).2.2.2.2.1, (y0.getD default).2.2.2.2.2.1, (y0.getD default).2.2.2.2.2.2.1, (y0.getD default).2.2.2.2.2.2.2.1, (y0.getD default).2.2.2.2.2.2.2.2.1, (y0.getD default).2.2.2.2.2.2.2.2.2.1, (y0.getD default).2.2.2.2.2.2.2.2.2.2.1, (y0.getD default).2.2.2.2.2.2.2.2.2.2.2, w99, w100, w101, w102, w103, w104, w105, w106, w107, w108, w109, w110, (y0.getD default).1, (y0.getD default).2.1, (y0.getD default).2.2.1, (y0.getD default).2.2.2.1, (y0.getD default).2.2.2.2.1, (y0.getD default).2.2.2.2.2.1, (y0.getD default).2.2.2.2.2.2.1, (y0.getD default).2.2.2.2.2.2.2.1, (y0.getD default).2.2.2.2.2.2.2.2.1, (y0.getD default).2.2.2.2.2.2.2.2.2.1, (y0.getD default).2.2.2.2.2.2.2.2.2.2.1, (y0.getD default).2.2.2.2.2.2.2.2.2.2.2, w99, w100, w101, w102, w103, w104, w105, w106, w107, w108, w109, w110)
        else
          bnd (G76x0x89 N w3 w2 (y0.getD default).1 (y0.getD default).2.1 (y0.getD default).2.2.1 (y0.getD default).2.2.2.1 (y0.getD default).2.2.2.2.1 (y0.getD default).2.2.2.2.2.1 (y0.getD default).2.2.2.2.2.2.1 (y0.getD default).2.2.2.2.2.2.2.1 (y0.getD default).2.2.2.2.2.2.2.2.1 (y0.getD default).2.2.2.2.2.2.2.2.2.1 (y0.getD default).2.2.2.2.2.2.2.2.2.2.1 (y0.getD default).2.2.2.2.2.2.2.2.2.2.2) fun y2 =>
          bif y2.isSome then
            k1 ((y2.getD default).1, (y2.getD default).2.1, (y2.getD default).2.2.1, (y2.getD default).2.2.2.1, (y2.getD default).2.2.2.2.1, (y2.getD default).2.2.2.2.2.1, (y2.getD default).2.2.2.2.2.2.1, (y2.getD default).2.2.2.2.2.2.2.1, (y2.getD default).2.2.2.2.2.2.2.2.1, (y2.getD default).2.2.2.2.2.2.2.2.2.1, (y2.getD default).2.2.2.2.2.2.2.2.2.2.1, (y2.getD default).2.2.2.2.2.2.2.2.2.2.2, w99, w100, w101, w102, w103, w104, w105, w106, w107, w108, w109, w110)
          else
            none
      else
        none
    else
      none
  else
    bnd (G76x0x95 N w3 (w8 == 9) w22 w79 w83 w99 w100 w101 w102 w103 w104 w105 w106 w107 w108 w109 w110 w112 w113 w114) fun y3 =>
    bif (inlB y3) then
      k0 (w87, w88, w89, w90, w91, w92, w93, w94, w95, w96, w97, w98, (inlV y3).1, (inlV y3).2.1, (inlV y3).2.2.1, (inlV y3).2.2.2.1, (inlV y3).2.2.2.2.1, (inlV y3).2.2.2.2.2.1, (inlV y3).2.2.2.2.2.2.1, (inlV y3).2.2.2.2.2.2.2.1, (inlV y3).2.2.2.2.2.2.2.2.1, (inlV y3).2.2.2.2.2.2.2.2.2.1, (inlV y3).2.2.2.2.2.2.2.2.2.2.1, (inlV y3).2.2.2.2.2.2.2.2.2.2.2.1, w87, w88, w89, w90, w91, w92, w93, w94, w95, w96, w97, w98, (inlV y3).2.2.2.2.2.2.2.2.2.2.2.2.1, (inlV y3).2.2.2.2.2.2.2.2.2.2.2.2.2.1, (inlV y3).2.2.2.2.2.2.2.2.2.2.2.2.2.2.1, (inlV y3).2.2.2.2.2.2.2.2.2.2.2.2.2.2.2.1, (inlV y3).2.2.2.2.2.2.2.2.2.2.2.2.2.2.2.2.1, (inlV y3).2.2.2.2.2.2.2.2.2.2.2.2.2.2.2.2.2.1, (inlV y3).2.2.2.2.2.2.2.2.2.2.2.2.2.2.2.2.2.2.1, (inlV y3).2.2.2.2.2.2.2.2.2.2.2.2.2.2.2.2.2.2.2.1, (inlV y3).2.2.2.2.2.2.2.2.2.2.2.2.2.2.2.2.2.2.2.2.1, (inlV y3).2.2.2.2.2.2.2.2.2.2.2.2.2.2.2.2.2.2.2.2.2.1, (inlV y3).2.2.2.2.2.2.2.2.2.2.2.2.2.2.2.2.2.2.2.2.2.2.1, (inlV y3).2.2.2.2.2.2.2.2.2.2.2.2.2.2.2.2.2.2.2.2.2.2.2)
    else
      bif (inrQ y3).isSome then
        k1 (w87, w88, w89, w90, w91, w92, w93, w94, w95, w96, w97, w98, ((inrQ y3).getD default).1, ((inrQ y3).getD default).2.1, ((inrQ y3).getD default).2.2.1, ((inrQ y3).getD default).2.2.2.1, ((inrQ y3).getD default).2.2.2.2.1, ((inrQ y3).getD default).2.2.2.2.2.1, ((inrQ y3).getD default).2.2.2.2.2.2.1, ((inrQ y3).getD default).2.2.2.2.2.2.2.1, ((inrQ y3).getD default).2.2.2.2.2.2.2.2.1, ((inrQ y3).getD default).2.2.2.2.2.2.2.2.2.1, ((inrQ y3).getD default).2.2.2.2.2.2.2.2.2.2.1, ((inrQ y3).getD default).2.2.2.2.2.2.2.2.2.2.2)
      else
        none
noncomputable def G76x0x90074 (w0 : Int) (w2 : Bool) (w3 w8 : Int) (w9 : Bool) (w22 : Int) (w78 : LB) (w79 w83 w87 w88 w89 w90 w91 w92 w93 w94 w95 w96 w97 w98 w99 w100 w101 w102 w103 w104 w105 w106 w107 w108 w109 w110 w112 w113 w114 w115 : Int) (w116 : LB) : Option (Sum (Ty0) (Ty2)) := F76x0x90074 N w0 w2 w3 w8 w9 w22 w78 w79 w83 w87 w88 w89 w90 w91 w92 w93 w94 w95 w96 w97 w98 w99 w100 w101 w102 w103 w104 w105 w106 w107 w108 w109 w110 w112 w113 w114 w115 w116 (fun p => some (.inl p)) (fun p => some (.inr p))
theorem bind76x0x90074 (w0 : Int) (w2 : Bool) (w3 w8 : Int) (w9 : Bool) (w22 : Int) (w78 : LB) (w79 w83 w87 w88 w89 w90 w91 w92 w93 w94 w95 w96 w97 w98 w99 w100 w101 w102 w103 w104 w105 w106 w107 w108 w109 w110 w112 w113 w114 w115 : Int) (w116 : LB) (k0 : Ty0 → Option R) (k1 : Ty2 → Option R) : F76x0x90074 N w0 w2 w3 w8 w9 w22 w78 w79 w83 w87 w88 w89 w90 w91 w92 w93 w94 w95 w96 w97 w98 w99 w100 w101 w102 w103 w104 w105 w106 w107 w108 w109 w110 w112 w113 w114 w115 w116 k0 k1 = (G76x0x90074 N w0 w2 w3 w8 w9 w22 w78 w79 w83 w87 w88 w89 w90 w91 w92 w93 w94 w95 w96 w97 w98 w99 w100 w101 w102 w103 w104 w105 w106 w107 w108 w109 w110 w112 w113 w114 w115 w116).bind (sumE k0 k1) := by
  unfold G76x0x90074 F76x0x90074
  repeat' (first | rfl | apply cond_b | (apply bnd_b; intro _))
noncomputable def J76x0x90074 (L : List Lf) (k0 : Ty0 → Option R) (k1 : Ty2 → Option R) : Option R := F76x0x90074 N (li L 0) (lb L 2) (li L 3) (li L 8) (lb L 9) (li L 22) (ls L 78) (li L 79) (li L 83) (li L 87) (li L 88) (li L 89) (li L 90) (li L 91) (li L 92) (li L 93) (li L 94) (li L 95) (li L 96) (li L 97) (li L 98) (li L 99) (li L 100) (li L 101) (li L 102) (li L 103) (li L 104) (li L 105) (li L 106) (li L 107) (li L 108) (li L 109) (li L 110) (li L 112) (li L 113) (li L 114) (li L 115) (ls L 116) k0 k1
noncomputable def sh76x0x90074 : Sh := { tmps := [(0, .c (.p 0 0)), (2, .c (.i .i64)), (4, .c (.p 6 0)), (6, .c (.p 8 0)), (8, .c (.p 10 0)), (9, .c (.p 11 0)), (10, .c (.b)), (11, .c (.b)), (12, .c (.i .i64)), (13, .c (.p 15 0)), (67, .c (.sl 68)), (68, .c (.i .i64)), (69, .c (.i .i64)), (75, .c (.i .i64)), (110, .c (.b))], mem := [(0, .box (.i .i64 :: .i .i64 :: [.i .i64, .sl 66, .sl 68, .sl 3, .sl 3, .m 1])), (1, .map 93 96), (6, .box (rI 28 ([]))), (8, .box (rI 28 ([]))), (10, .box ([.s, .i .i64, .i .i64, .i .i64, .b])), (11, .box (rI 28 ([]))), (15, .box (rI 5 ([.s])))] }
noncomputable def K76x0x90074w0 (L : List Lf) (p : Ty0) : Ex × St := let p1 := p.2; let p2 := p1.2; let p3 := p2.2; let p4 := p3.2; let p5 := p4.2; let p6 := p5.2; let p7 := p6.2; let p8 := p7.2; let p9 := p8.2; let p10 := p9.2; let p11 := p10.2; let p12 := p11.2; let p13 := p12.2; let p14 := p13.2; let p15 := p14.2; let p16 := p15.2; let p17 := p16.2; let p18 := p17.2; let p19 := p18.2; let p20 := p19.2; let p21 := p20.2; let p22 := p21.2; let p23 := p22.2; let p24 := p23.2; let p25 := p24.2; let p26 := p25.2; let p27 := p26.2; let p28 := p27.2; let p29 := p28.2; let p30 := p29.2; let p31 := p30.2; let p32 := p31.2; let p33 := p32.2; let p34 := p33.2; let p35 := p34.2; let p36 := p35.2; let p37 := p36.2; let p38 := p37.2; let p39 := p38.2; let p40 := p39.2; let p41 := p40.2; let p42 := p41.2; let p43 := p42.2; let p44 := p43.2; let p45 := p44.2; let p46 := p45.2; let p47 := p46.2; (.ret, mg (ofSh sh76x0x90074 L) [6, 7, 9] [(7, .c (.b false))] [0, 1, 6, 8, 10, 11] [(8, .box (rL L 83 4 ([.i .i64 p.1, .i .i64 p1.1, .i .i64 p2.1, .i .i64 p3.1, .i .i64 p4.1, .i .i64 p5.1, .i .i64 p6.1, .i .i64 p7.1, .i .i64 p8.1, .i .i64 p9.1, .i .i64 p10.1, .i .i64 p11.1, .i .i64 p12.1, .i .i64 p13.1, .i .i64 p14.1, .i .i64 p15.1, .i .i64 p16.1, .i .i64 p17.1, .i .i64 p18.1, .i .i64 p19.1, .i .i64 p20.1, .i .i64 p21.1, .i .i64 p22.1, .i .i64 p23.1]))), (11, .box (rL L 83 4 ([.i .i64 p24.1, .i .i64 p25.1, .i .i64 p26.1, .i .i64 p27.1, .i .i64 p28.1, .i .i64 p29.1, .i .i64 p30.1, .i .i64 p31.1, .i .i64 p32.1, .i .i64 p33.1, .i .i64 p34.1, .i .i64 p35.1, .i .i64 p36.1, .i .i64 p37.1, .i .i64 p38.1, .i .i64 p39.1, .i .i64 p40.1, .i .i64 p41.1, .i .i64 p42.1, .i .i64 p43.1, .i .i64 p44.1, .i .i64 p45.1, .i .i64 p46.1, .i .i64 p47])))])
noncomputable def K76x0x90074w1 (L : List Lf) (p : Ty2) : Ex × St := let p1 := p.2; let p2 := p1.2; let p3 := p2.2; let p4 := p3.2; let p5 := p4.2; let p6 := p5.2; let p7 := p6.2; let p8 := p7.2; let p9 := p8.2; let p10 := p9.2; let p11 := p10.2; let p12 := p11.2; let p13 := p12.2; let p14 := p13.2; let p15 := p14.2; let p16 := p15.2; let p17 := p16.2; let p18 := p17.2; let p19 := p18.2; let p20 := p19.2; let p21 := p20.2; let p22 := p21.2; let p23 := p22.2; (.normal, mg (ofSh sh76x0x90074 L) [0, 2, 4, 6, 8, 9, 10, 11, 67, 68, 69] [] [0, 1, 6, 8, 10, 11] [(11, .box (rL L 83 4 ([.i .i64 p.1, .i .i64 p1.1, .i .i64 p2.1, .i .i64 p3.1, .i .i64 p4.1, .i .i64 p5.1, .i .i64 p6.1, .i .i64 p7.1, .i .i64 p8.1, .i .i64 p9.1, .i .i64 p10.1, .i .i64 p11.1, .i .i64 p12.1, .i .i64 p13.1, .i .i64 p14.1, .i .i64 p15.1, .i .i64 p16.1, .i .i64 p17.1, .i .i64 p18.1, .i .i64 p19.1, .i .i64 p20.1, .i .i64 p21.1, .i .i64 p22.1, .i .i64 p23])))])
noncomputable def A76x0x90074 (L : List Lf) : List (Bool × (Ex × St)) := bnd (J76x0x90074 N L (fun p => some (.inl p)) (fun p => some (.inr p))) fun q => [((inlB q), K76x0x90074w0 L (inlV q)), ((inrQ q).isSome, K76x0x90074w1 L ((inrQ q).getD default))]
theorem raw76x0x90074 (L : List Lf) : pc Try.prog (T93x0 N) (h76x0s8 N).h 2 100 76 90074 sh76x0x90074 L [69, 68, 67, 9, 6, 11, 10, 4, 2, 8, 0, 7] [11, 8, 0, 1, 10, 6] = J76x0x90074 N L (fun p => some (K76x0x90074w0 L p)) (fun p => some (K76x0x90074w1 L p)) := by kernel_rfl
noncomputable def h76x0s9 : Sg Try.prog 2 76 :=
  (h76x0s8 N).cut (A76x0x90074 N) progOk (T93x0_ok N) fun L x hx => (raw76x0x90074 N L).trans ((bind76x0x90074 N ..).trans ((altS alt1) x hx))
noncomputable def F76x0x69065 (w0 : Int) (w1 w2 : Bool) (w3 w8 : Int) (w9 : Bool) (w22 w24 : Int) (w78 : LB) (w79 w83 w84 w87 w88 w89 w90 w91 w92 w93 w94 w95 w96 w97 w98 w99 w100 w101 w102 w103 w104 w105 w106 w107 w108 w109 w110 w112 w113 w114 w115 : Int) (w116 : LB) (k0 : Ty0 → Option R) (k1 : Ty2 → Option R) : Option R :=
  bif w9 then
    bnd (bif w1 then (decide ((IntKind.wrap .i64 (w84 * 100)) > (IntKind.wrap .i64 (w113 * w24)))) else false) fun y0 =>
    bif y0 then
      k0 (w87, w88, w89, w90, w91, w92, w93, w94, w95, w96, w97, w98, w99, w100, w101, w102, w103, w104, w105, w106, w107, w108, w109, w110, w87, w88, w89, w90, w91, w92, w93, w94, w95, w96, w97, w98, w99, w100, w101, w102, w103, w104, w105, w106, w107, w108, w109, w110)
    else
      k1 (w87, w88, w89, w90, w91, w92, w93, w94, w95, w96, w97, w98, w99, w100, w101, w102, w103, w104, w105, w106, w107, w108, w109, w110)
  else
    bnd (G76x0x90074 N w0 w2 w3 w8 (w8 == 6) w22 w78 w79 w83 w87 w88 w89 w90 w91 w92 w93 w94 w95 w96 w97 w98 w99 w100 w101 w102 w103 w104 w105 w106 w107 w108 w109 w110 w112 w113 w114 w115 w116) fun y1 =>
    bif (inlB y1) then
      k0 (inlV y1)
    else
      bif (inrQ y1).isSome then
        k1 ((inrQ y1).getD default)
      else
        none
noncomputable def G76x0x69065 (w0 : Int) (w1 w2 : Bool) (w3 w8 : Int) (w9 : Bool) (w22 w24 : Int) (w78 : LB) (w79 w83 w84 w87 w88 w89 w90 w91 w92 w93 w94 w95 w96 w97 w98 w99 w100 w101 w102 w103 w104 w105 w106 w107 w108 w109 w110 w112 w113 w114 w115 : Int) (w116 : LB) : Option (Sum (Ty0) (Ty2)) := F76x0x69065 N w0 w1 w2 w3 w8 w9 w22 w24 w78 w79 w83 w84 w87 w88 w89 w90 w91 w92 w93 w94 w95 w96 w97 w98 w99 w100 w101 w102 w103 w104 w105 w106 w107 w108 w109 w110 w112 w113 w114 w115 w116 (fun p => some (.inl p)) (fun p => some (.inr p))
theorem bind76x0x69065 (w0 : Int) (w1 w2 : Bool) (w3 w8 : Int) (w9 : Bool) (w22 w24 : Int) (w78 : LB) (w79 w83 w84 w87 w88 w89 w90 w91 w92 w93 w94 w95 w96 w97 w98 w99 w100 w101 w102 w103 w104 w105 w106 w107 w108 w109 w110 w112 w113 w114 w115 : Int) (w116 : LB) (k0 : Ty0 → Option R) (k1 : Ty2 → Option R) : F76x0x69065 N w0 w1 w2 w3 w8 w9 w22 w24 w78 w79 w83 w84 w87 w88 w89 w90 w91 w92 w93 w94 w95 w96 w97 w98 w99 w100 w101 w102 w103 w104 w105 w106 w107 w108 w109 w110 w112 w113 w114 w115 w116 k0 k1 = (G76x0x69065 N w0 w1 w2 w3 w8 w9 w22 w24 w78 w79 w83 w84 w87 w88 w89 w90 w91 w92 w93 w94 w95 w96 w97 w98 w99 w100 w101 w102 w103 w104 w105 w106 w107 w108 w109 w110 w112 w113 w114 w115 w116).bind (sumE k0 k1) := by
  unfold G76x0x69065 F76x0x69065
  repeat' (first | rfl | apply cond_b | (apply bnd_b; intro _))
noncomputable def J76x0x69065 (L : List Lf) (k0 : Ty0 → Option R) (k1 : Ty2 → Option R) : Option R := F76x0x69065 N (li L 0) (lb L 1) (lb L 2) (li L 3) (li L 8) (lb L 9) (li L 22) (li L 24) (ls L 78) (li L 79) (li L 83) (li L 84) (li L 87) (li L 88) (li L 89) (li L 90) (li L 91) (li L 92) (li L 93) (li L 94) (li L 95) (li L 96) (li L 97) (li L 98) (li L 99) (li L 100) (li L 101) (li L 102) (li L 103) (li L 104) (li L 105) (li L 106) (li L 107) (li L 108) (li L 109) (li L 110) (li L 112) (li L 113) (li L 114) (li L 115) (ls L 116) k0 k1
noncomputable def sh76x0x69065 : Sh := { tmps := [(0, .c (.p 0 0)), (2, .c (.i .i64)), (4, .c (.p 6 0)), (6, .c (.p 8 0)), (8, .c (.p 10 0)), (9, .c (.p 11 0)), (10, .c (.b)), (11, .c (.b)), (12, .c (.i .i64)), (13, .c (.p 15 0)), (67, .c (.sl 68)), (68, .c (.i .i64)), (69, .c (.i .i64)), (75, .c (.i .i64)), (95, .c (.b))], mem := [(0, .box (.i .i64 :: .i .i64 :: [.i .i64, .sl 66, .sl 68, .sl 3, .sl 3, .m 1])), (1, .map 93 96), (6, .box (rI 28 ([]))), (8, .box (rI 28 ([]))), (10, .box ([.s, .i .i64, .i .i64, .i .i64, .b])), (11, .box (rI 28 ([]))), (15, .box (rI 5 ([.s])))] }
noncomputable def K76x0x69065w0 (L : List Lf) (p : Ty0) : Ex × St := let p1 := p.2; let p2 := p1.2; let p3 := p2.2; let p4 := p3.2; let p5 := p4.2; let p6 := p5.2; let p7 := p6.2; let p8 := p7.2; let p9 := p8.2; let p10 := p9.2; let p11 := p10.2; let p12 := p11.2; let p13 := p12.2; let p14 := p13.2; let p15 := p14.2; let p16 := p15.2; let p17 := p16.2; let p18 := p17.2; let p19 := p18.2; let p20 := p19.2; let p21 := p20.2; let p22 := p21.2; let p23 := p22.2; let p24 := p23.2; let p25 := p24.2; let p26 := p25.2; let p27 := p26.2; let p28 := p27.2; let p29 := p28.2; let p30 := p29.2; let p31 := p30.2; let p32 := p31.2; let p33 := p32.2; let p34 := p33.2; let p35 := p34.2; let p36 := p35.2; let p37 := p36.2; let p38 := p37.2; let p39 := p38.2; let p40 := p39.2; let p41 := p40.2; let p42 := p41.2; let p43 := p42.2; let p44 := p43.2; let p45 := p44.2; let p46 := p45.2; let p47 := p46.2; (.ret, mg (ofSh sh76x0x69065 L) [6, 7, 9] [(7, .c (.b false))] [0, 1, 6, 8, 10, 11] [(8, .box (rL L 83 4 ([.i .i64 p.1, .i .i64 p1.1, .i .i64 p2.1, .i .i64 p3.1, .i .i64 p4.1, .i .i64 p5.1, .i .i64 p6.1, .i .i64 p7.1, .i .i64 p8.1, .i .i64 p9.1, .i .i64 p10.1, .i .i64 p11.1, .i .i64 p12.1, .i .i64 p13.1, .i .i64 p14.1, .i .i64 p15.1, .i .i64 p16.1, .i .i64 p17.1, .i .i64 p18.1, .i .i64 p19.1, .i .i64 p20.1, .i .i64 p21.1, .i .i64 p22.1, .i .i64 p23.1]))), (11, .box (rL L 83 4 ([.i .i64 p24.1, .i .i64 p25.1, .i .i64 p26.1, .i .i64 p27.1, .i .i64 p28.1, .i .i64 p29.1, .i .i64 p30.1, .i .i64 p31.1, .i .i64 p32.1, .i .i64 p33.1, .i .i64 p34.1, .i .i64 p35.1, .i .i64 p36.1, .i .i64 p37.1, .i .i64 p38.1, .i .i64 p39.1, .i .i64 p40.1, .i .i64 p41.1, .i .i64 p42.1, .i .i64 p43.1, .i .i64 p44.1, .i .i64 p45.1, .i .i64 p46.1, .i .i64 p47])))])
noncomputable def K76x0x69065w1 (L : List Lf) (p : Ty2) : Ex × St := let p1 := p.2; let p2 := p1.2; let p3 := p2.2; let p4 := p3.2; let p5 := p4.2; let p6 := p5.2; let p7 := p6.2; let p8 := p7.2; let p9 := p8.2; let p10 := p9.2; let p11 := p10.2; let p12 := p11.2; let p13 := p12.2; let p14 := p13.2; let p15 := p14.2; let p16 := p15.2; let p17 := p16.2; let p18 := p17.2; let p19 := p18.2; let p20 := p19.2; let p21 := p20.2; let p22 := p21.2; let p23 := p22.2; (.normal, mg (ofSh sh76x0x69065 L) [0, 2, 4, 6, 8, 9, 10, 11, 67, 68, 69] [] [0, 1, 6, 8, 10, 11] [(11, .box (rL L 83 4 ([.i .i64 p.1, .i .i64 p1.1, .i .i64 p2.1, .i .i64 p3.1, .i .i64 p4.1, .i .i64 p5.1, .i .i64 p6.1, .i .i64 p7.1, .i .i64 p8.1, .i .i64 p9.1, .i .i64 p10.1, .i .i64 p11.1, .i .i64 p12.1, .i .i64 p13.1, .i .i64 p14.1, .i .i64 p15.1, .i .i64 p16.1, .i .i64 p17.1, .i .i64 p18.1, .i .i64 p19.1, .i .i64 p20.1, .i .i64 p21.1, .i .i64 p22.1, .i .i64 p23])))])
noncomputable def A76x0x69065 (L : List Lf) : List (Bool × (Ex × St)) := bnd (J76x0x69065 N L (fun p => some (.inl p)) (fun p => some (.inr p))) fun q => [((inlB q), K76x0x69065w0 L (inlV q)), ((inrQ q).isSome, K76x0x69065w1 L ((inrQ q).getD default))]
theorem raw76x0x69065 (L : List Lf) : pc Try.prog (T93x0 N) (h76x0s9 N).h 2 100 76 69065 sh76x0x69065 L [69, 68, 67, 9, 6, 11, 10, 4, 2, 8, 0, 7] [11, 8, 0, 1, 10, 6] = J76x0x69065 N L (fun p => some (K76x0x69065w0 L p)) (fun p => some (K76x0x69065w1 L p)) := by kernel_rfl
noncomputable def h76x0s10 : Sg Try.prog 2 76 :=
  (h76x0s9 N).cut (A76x0x69065 N) progOk (T93x0_ok N) fun L x hx => (raw76x0x69065 N L).trans ((bind76x0x69065 N ..).trans ((altS alt1) x hx))
noncomputable def F76x0x60056 (w0 : Int) (w1 w2 : Bool) (w3 w8 : Int) (w9 : Bool) (w22 w24 : Int) (w78 : LB) (w79 w83 w84 w87 w88 w89 w90 w91 w92 w93 w94 w95 w96 w97 w98 w99 w100 w101 w102 w103 w104 w105 w106 w107 w108 w109 w110 w112 w113 w114 w115 : Int) (w116 : LB) (k0 : Ty0 → Option R) (k1 : Ty2 → Option R) : Option R :=
  bif w9 then
    bif (bif w2 then (decide (w84 < w113)) else false) then
      k0 (w87, w88, w89, w90, w91, w92, w93, w94, w95, w96, w97, w98, w99, w100, w101, w102, w103, w104, w105, w106, w107, w108, w109, w110, w87, w88, w89, w90, w91, w92, w93, w94, w95, w96, w97, w98, w99, w100, w101, w102, w103, w104, w105, w106, w107, w108, w109, w110)
    else
      k1 (w87, w88, w89, w90, w91, w92, w93, w94, w95, w96, w97, w98, w99, w100, w101, w102, w103, w104, w105, w106, w107, w108, w109, w110)
  else
    bnd (G76x0x69065 N w0 w1 w2 w3 w8 (w8 == 7) w22 w24 w78 w79 w83 w84 w87 w88 w89 w90 w91 w92 w93 w94 w95 w96 w97 w98 w99 w100 w101 w102 w103 w104 w105 w106 w107 w108 w109 w110 w112 w113 w114 w115 w116) fun y0 =>
    bif (inlB y0) then
      k0 (inlV y0)
    else
      bif (inrQ y0).isSome then
        k1 ((inrQ y0).getD default)
      else
        none
noncomputable def G76x0x60056 (w0 : Int) (w1 w2 : Bool) (w3 w8 : Int) (w9 : Bool) (w22 w24 : Int) (w78 : LB) (w79 w83 w84 w87 w88 w89 w90 w91 w92 w93 w94 w95 w96 w97 w98 w99 w100 w101 w102 w103 w104 w105 w106 w107 w108 w109 w110 w112 w113 w114 w115 : Int) (w116 : LB) : Option (Sum (Ty0) (Ty2)) := F76x0x60056 N w0 w1 w2 w3 w8 w9 w22 w24 w78 w79 w83 w84 w87 w88 w89 w90 w91 w92 w93 w94 w95 w96 w97 w98 w99 w100 w101 w102 w103 w104 w105 w106 w107 w108 w109 w110 w112 w113 w114 w115 w116 (fun p => some (.inl p)) (fun p => some (.inr p))
theorem bind76x0x60056 (w0 : Int) (w1 w2 : Bool) (w3 w8 : Int) (w9 : Bool) (w22 w24 : Int) (w78 : LB) (w79 w83 w84 w87 w88 w89 w90 w91 w92 w93 w94 w95 w96 w97 w98 w99 w100 w101 w102 w103 w104 w105 w106 w107 w108 w109 w110 w112 w113 w114 w115 : Int) (w116 : LB) (k0 : Ty0 → Option R) (k1 : Ty2 → Option R) : F76x0x60056 N w0 w1 w2 w3 w8 w9 w22 w24 w78 w79 w83 w84 w87 w88 w89 w90 w91 w92 w93 w94 w95 w96 w97 w98 w99 w100 w101 w102 w103 w104 w105 w106 w107 w108 w109 w110 w112 w113 w114 w115 w116 k0 k1 = (G76x0x60056 N w0 w1 w2 w3 w8 w9 w22 w24 w78 w79 w83 w84 w87 w88 w89 w90 w91 w92 w93 w94 w95 w96 w97 w98 w99 w100 w101 w102 w103 w104 w105 w106 w107 w108 w109 w110 w112 w113 w114 w115 w116).bind (sumE k0 k1) := by
  unfold G76x0x60056 F76x0x60056
  repeat' (first | rfl | apply cond_b | (apply bnd_b; intro _))
noncomputable def J76x0x60056 (L : List Lf) (k0 : Ty0 → Option R) (k1 : Ty2 → Option R) : Option R := F76x0x60056 N (li L 0) (lb L 1) (lb L 2) (li L 3) (li L 8) (lb L 9) (li L 22) (li L 24) (ls L 78) (li L 79) (li L 83) (li L 84) (li L 87) (li L 88) (li L 89) (li L 90) (li L 91) (li L 92) (li L 93) (li L 94) (li L 95) (li L 96) (li L 97) (li L 98) (li L 99) (li L 100) (li L 101) (li L 102) (li L 103) (li L 104) (li L 105) (li L 106) (li L 107) (li L 108) (li L 109) (li L 110) (li L 112) (li L 113) (li L 114) (li L 115) (ls L 116) k0 k1
noncomputable def sh76x0x60056 : Sh := { tmps := [(0, .c (.p 0 0)), (2, .c (.i .i64)), (4, .c (.p 6 0)), (6, .c (.p 8 0)), (8, .c (.p 10 0)), (9, .c (.p 11 0)), (10, .c (.b)), (11, .c (.b)), (12, .c (.i .i64)), (13, .c (.p 15 0)), (67, .c (.sl 68)), (68, .c (.i .i64)), (69, .c (.i .i64)), (75, .c (.i .i64)), (84, .c (.b))], mem := [(0, .box (.i .i64 :: .i .i64 :: [.i .i64, .sl 66, .sl 68, .sl 3, .sl 3, .m 1])), (1, .map 93 96), (6, .box (rI 28 ([]))), (8, .box (rI 28 ([]))), (10, .box ([.s, .i .i64, .i .i64, .i .i64, .b])), (11, .box (rI 28 ([]))), (15, .box (rI 5 ([.s])))] }
noncomputable def K76x0x60056w0 (L : List Lf) (p : Ty0) : Ex × St := let p1 := p.2; let p2 := p1.2; let p3 := p2.2; let p4 := p3.2; let p5 := p4.2; let p6 := p5.2; let p7 := p6.2; let p8 := p7.2; let p9 := p8.2; let p10 := p9.2; let p11 := p10.2; let p12 := p11.2; let p13 := p12.2; let p14 := p13.2; let p15 := p14.2; let p16 := p15.2; let p17 := p16.2; let p18 := p17.2; let p19 := p18.2; let p20 := p19.2; let p21 := p20.2; let p22 := p21.2; let p23 := p22.2; let p24 := p23.2; let p25 := p24.2; let p26 := p25.2; let p27 := p26.2; let p28 := p27.2; let p29 := p28.2; let p30 := p29.2; let p31 := p30.2; let p32 := p31.2; let p33 := p32.2; let p34 := p33.2; let p35 := p34.2; let p36 := p35.2; let p37 := p36.2; let p38 := p37.2; let p39 := p38.2; let p40 := p39.2; let p41 := p40.2; let p42 := p41.2; let p43 := p42.2; let p44 := p43.2; let p45 := p44.2; let p46 := p45.2; let p47 := p46.2; (.ret, mg (ofSh sh76x0x60056 L) [6, 7, 9] [(7, .c (.b false))] [0, 1, 6, 8, 10, 11] [(8, .box (rL L 83 4 ([.i .i64 p.1, .i .i64 p1.1, .i .i64 p2.1, .i .i64 p3.1, .i .i64 p4.1, .i .i64 p5.1, .i .i64 p6.1, .i .i64 p7.1, .i .i64 p8.1, .i .i64 p9.1, .i .i64 p10.1, .i .i64 p11.1, .i .i64 p12.1, .i .i64 p13.1, .i .i64 p14.1, .i .i64 p15.1, .i .i64 p16.1, .i .i64 p17.1, .i .i64 p18.1, .i .i64 p19.1, .i .i64 p20.1, .i .i64 p21.1, .i .i64 p22.1, .i .i64 p23.1]))), (11, .box (rL L 83 4 ([.i .i64 p24.1, .i .i64 p25.1, .i .i64 p26.1, .i .i64 p27.1, .i .i64 p28.1, .i .i64 p29.1, .i .i64 p30.1, .i .i64 p31.1, .i .i64 p32.1, .i .i64 p33.1, .i .i64 p34.1, .i .i64 p35.1, .i .i64 p36.1, .i .i64 p37.1, .i .i64 p38.1, .i .i64 p39.1, .i .i64 p40.1, .i .i64 p41.1, .i .i64 p42.1, .i .i64 p43.1, .i .i64 p44.1, .i .i64 p45.1, .i .i64 p46.1, .i .i64 p47])))])
noncomputable def K76x0x60056w1 (L : List Lf) (p : Ty2) : Ex × St := let p1 := p.2; let p2 := p1.2; let p3 := p2.2; let p4 := p3.2; let p5 := p4.2; let p6 := p5.2; let p7 := p6.2; let p8 := p7.2; let p9 := p8.2; let p10 := p9.2; let p11 := p10.2; let p12 := p11.2; let p13 := p12.2; let p14 := p13.2; let p15 := p14.2; let p16 := p15.2; let p17 := p16.2; let p18 := p17.2; let p19 := p18.2; let p20 := p19.2; let p21 := p20.2; let p22 := p21.2; let p23 := p22.2; (.normal, mg (ofSh sh76x0x60056 L) [0, 2, 4, 6, 8, 9, 10, 11, 67, 68, 69] [] [0, 1, 6, 8, 10, 11] [(11, .box (rL L 83 4 ([.i .i64 p.1, .i .i64 p1.1, .i .i64 p2.1, .i .i64 p3.1, .i .i64 p4.1, .i .i64 p5.1, .i .i64 p6.1, .i .i64 p7.1, .i .i64 p8.1, .i .i64 p9.1, .i .i64 p10.1, .i .i64 p11.1, .i .i64 p12.1, .i .i64 p13.1, .i .i64 p14.1, .i .i64 p15.1, .i .i64 p16.1, .i .i64 p17.1, .i .i64 p18.1, .i .i64 p19.1, .i .i64 p20.1, .i .i64 p21.1, .i .i64 p22.1, .i .i64 p23])))])
noncomputable def A76x0x60056 (L : List Lf) : List (Bool × (Ex × St)) := bnd (J76x0x60056 N L (fun p => some (.inl p)) (fun p => some (.inr p))) fun q => [((inlB q), K76x0x60056w0 L (inlV q)), ((inrQ q).isSome, K76x0x60056w1 L ((inrQ q).getD default))]
theorem raw76x0x60056 (L : List Lf) : pc Try.prog (T93x0 N) (h76x0s10 N).h 2 100 76 60056 sh76x0x60056 L [69, 68, 67, 9, 6, 11, 10, 4, 2, 8, 0, 7] [11, 8, 0, 1, 10, 6] = J76x0x60056 N L (fun p => some (K76x0x60056w0 L p)) (fun p => some (K76x0x60056w1 L p)) := by kernel_rfl
noncomputable def h76x0s11 : Sg Try.prog 2 76 :=
  (h76x0s10 N).cut (A76x0x60056 N) progOk (T93x0_ok N) fun L x hx => (raw76x0x60056 N L).trans ((bind76x0x60056 N ..).trans ((altS alt1) x hx))
noncomputable def F76x0x51047 (w0 : Int) (w1 w2 : Bool) (w3 w8 : Int) (w9 : Bool) (w22 w24 : Int) (w78 : LB) (w79 w83 w84 w87 w88 w89 w90 w91 w92 w93 w94 w95 w96 w97 w98 w99 w100 w101 w102 w103 w104 w105 w106 w107 w108 w109 w110 w112 w113 w114 w115 : Int) (w116 : LB) (k0 : Ty0 → Option R) (k1 : Ty2 → Option R) : Option R :=
  bif w9 then
    bif (decide (w84 > w113)) then
      k0 (w87, w88, w89, w90, w91, w92, w93, w94, w95, w96, w97, w98, w99, w100, w101, w102, w103, w104, w105, w106, w107, w108, w109, w110, w87, w88, w89, w90, w91, w92, w93, w94, w95, w96, w97, w98, w99, w100, w101, w102, w103, w104, w105, w106, w107, w108, w109, w110)
    else
      k1 (w87, w88, w89, w90, w91, w92, w93, w94, w95, w96, w97, w98, w99, w100, w101, w102, w103, w104, w105, w106, w107, w108, w109, w110)
  else
    bnd (G76x0x60056 N w0 w1 w2 w3 w8 (w8 == 4) w22 w24 w78 w79 w83 w84 w87 w88 w89 w90 w91 w92 w93 w94 w95 w96 w97 w98 w99 w100 w101 w102 w103 w104 w105 w106 w107 w108 w109 w110 w112 w113 w114 w115 w116) fun y0 =>
    bif (inlB y0) then
      k0 (inlV y0)
    else
      bif (inrQ y0).isSome then
        k1 ((inrQ y0).getD default)
      else
        none
noncomputable def G76x0x51047 (w0 : Int) (w1 w2 : Bool) (w3 w8 : Int) (w9 : Bool) (w22 w24 : Int) (w78 : LB) (w79 w83 w84 w87 w88 w89 w90 w91 w92 w93 w94 w95 w96 w97 w98 w99 w100 w101 w102 w103 w104 w105 w106 w107 w108 w109 w110 w112 w113 w114 w115 : Int) (w116 : LB) : Option (Sum (Ty0) (Ty2)) := F76x0x51047 N w0 w1 w2 w3 w8 w9 w22 w24 w78 w79 w83 w84 w87 w88 w89 w90 w91 w92 w93 w94 w95 w96 w97 w98 w99 w100 w101 w102 w103 w104 w105 w106 w107 w108 w109 w110 w112 w113 w114 w115 w116 (fun p => some (.inl p)) (fun p => some (.inr p))
theorem bind76x0x51047 (w0 : Int) (w1 w2 : Bool) (w3 w8 : Int) (w9 : Bool) (w22 w24 : Int) (w78 : LB) (w79 w83 w84 w87 w88 w89 w90 w91 w92 w93 w94 w95 w96 w97 w98 w99 w100 w101 w102 w103 w104 w105 w106 w107 w108 w109 w110 w112 w113 w114 w115 : Int) (w116 : LB) (k0 : Ty0 → Option R) (k1 : Ty2 → Option R) : F76x0x51047 N w0 w1 w2 w3 w8 w9 w22 w24 w78 w79 w83 w84 w87 w88 w89 w90 w91 w92 w93 w94 w95 w96 w97 w98 w99 w100 w101 w102 w103 w104 w105 w106 w107 w108 w109 w110 w112 w113 w114 w115 w116 k0 k1 = (G76x0x51047 N w0 w1 w2 w3 w8 w9 w22 w24 w78 w79 w83 w84 w87 w88 w89 w90 w91 w92 w93 w94 w95 w96 w97 w98 w99 w100 w101 w102 w103 w104 w105 w106 w107 w108 w109 w110 w112 w113 w114 w115 w116).bind (sumE k0 k1) := by
  unfold G76x0x51047 F76x0x51047
  repeat' (first | rfl | apply cond_b | (apply bnd_b; intro _))
noncomputable def J76x0x51047 (L : List Lf) (k0 : Ty0 → Option R) (k1 : Ty2 → Option R) : Option R := F76x0x51047 N (li L 0) (lb L 1) (lb L 2) (li L 3) (li L 8) (lb L 9) (li L 22) (li L 24) (ls L 78) (li L 79) (li L 83) (li L 84) (li L 87) (li L 88) (li L 89) (li L 90) (li L 91) (li L 92) (li L 93) (li L 94) (li L 95) (li L 96) (li L 97) (li L 98) (li L 99) (li L 100) (li L 101) (li L 102) (li L 103) (li L 104) (li L 105) (li L 106) (li L 107) (li L 108) (li L 109) (li L 110) (li L 112) (li L 113) (li L 114) (li L 115) (ls L 116) k0 k1
noncomputable def sh76x0x51047 : Sh := { tmps := [(0, .c (.p 0 0)), (2, .c (.i .i64)), (4, .c (.p 6 0)), (6, .c (.p 8 0)), (8, .c (.p 10 0)), (9, .c (.p 11 0)), (10, .c (.b)), (11, .c (.b)), (12, .c (.i .i64)), (13, .c (.p 15 0)), (67, .c (.sl 68)), (68, .c (.i .i64)), (69, .c (.i .i64)), (75, .c (.i .i64)), (76, .c (.b))], mem := [(0, .box (.i .i64 :: .i .i64 :: [.i .i64, .sl 66, .sl 68, .sl 3, .sl 3, .m 1])), (1, .map 93 96), (6, .box (rI 28 ([]))), (8, .box (rI 28 ([]))), (10, .box ([.s, .i .i64, .i .i64, .i .i64, .b])), (11, .box (rI 28 ([]))), (15, .box (rI 5 ([.s])))] }
noncomputable def K76x0x51047w0 (L : List Lf) (p : Ty0) : Ex × St := let p1 := p.2; let p2 := p1.2; let p3 := p2.2; let p4 := p3.2; let p5 := p4.2; let p6 := p5.2; let p7 := p6.2; let p8 := p7.2; let p9 := p8.2; let p10 := p9.2; let p11 := p10.2; let p12 := p11.2; let p13 := p12.2; let p14 := p13.2; let p15 := p14.2; let p16 := p15.2; let p17 := p16.2; let p18 := p17.2; let p19 := p18.2; let p20 := p19.2; let p21 := p20.2; let p22 := p21.2; let p23 := p22.2; let p24 := p23.2; let p25 := p24.2; let p26 := p25.2; let p27 := p26.2; let p28 := p27.2; let p29 := p28.2; let p30 := p29.2; let p31 := p30.2; let p32 := p31.2; let p33 := p32.2; let p34 := p33.2; let p35 := p34.2; let p36 := p35.2; let p37 := p36.2; let p38 := p37.2; let p39 := p38.2; let p40 := p39.2; let p41 := p40.2; let p42 := p41.2; let p43 := p42.2; let p44 := p43.2; let p45 := p44.2; let p46 := p45.2; let p47 := p46.2; (.ret, mg (ofSh sh76x0x51047 L) [6, 7, 9] [(7, .c (.b false))] [0, 1, 6, 8, 10, 11] [(8, .box (rL L 83 4 ([.i .i64 p.1, .i .i64 p1.1, .i .i64 p2.1, .i .i64 p3.1, .i .i64 p4.1, .i .i64 p5.1, .i .i64 p6.1, .i .i64 p7.1, .i .i64 p8.1, .i .i64 p9.1, .i .i64 p10.1, .i .i64 p11.1, .i .i64 p12.1, .i .i64 p13.1, .i .i64 p14.1, .i .i64 p15.1, .i .i64 p16.1, .i .i64 p17.1, .i .i64 p18.1, .i .i64 p19.1, .i .i64 p20.1, .i .i64 p21.1, .i .i64 p22.1, .i .i64 p23.1]))), (11, .box (rL L 83 4 ([.i .i64 p24.1, .i .i64 p25.1, .i .i64 p26.1, .i .i64 p27.1, .i .i64 p28.1, .i .i64 p29.1, .i .i64 p30.1, .i .i64 p31.1, .i .i64 p32.1, .i .i64 p33.1, .i .i64 p34.1, .i .i64 p35.1, .i .i64 p36.1, .i .i64 p37.1, .i .i64 p38.1, .i .i64 p39.1, .i .i64 p40.1, .i .i64 p41.1, .i .i64 p42.1, .i .i64 p43.1, .i .i64 p44.1, .i .i64 p45.1, .i .i64 p46.1, .i .i64 p47])))])
noncomputable def K76x0x51047w1 (L : List Lf) (p : Ty2) : Ex × St := let p1 := p.2; let p2 := p1.2; let p3 := p2.2; let p4 := p3.2; let p5 := p4.2; let p6 := p5.2; let p7 := p6.2; let p8 := p7.2; let p9 := p8.2; let p10 := p9.2; let p11 := p10.2; let p12 := p11.2; let p13 := p12.2; let p14 := p13.2; let p15 := p14.2; let p16 := p15.2; let p17 := p16.2; let p18 := p17.2; let p19 := p18.2; let p20 := p19.2; let p21 := p20.2; let p22 := p21.2; let p23 := p22.2; (.normal, mg (ofSh sh76x0x51047 L) [0, 2, 4, 6, 8, 9, 10, 11, 67, 68, 69] [] [0, 1, 6, 8, 10, 11] [(11, .box (rL L 83 4 ([.i .i64 p.1, .i .i64 p1.1, .i .i64 p2.1, .i .i64 p3.1, .i .i64 p4.1, .i .i64 p5.1, .i .i64 p6.1, .i .i64 p7.1, .i .i64 p8.1, .i .i64 p9.1, .i .i64 p10.1, .i .i64 p11.1, .i .i64 p12.1, .i .i64 p13.1, .i .i64 p14.1, .i .i64 p15.1, .i .i64 p16.1, .i .i64 p17.1, .i .i64 p18.1, .i .i64 p19.1, .i .i64 p20.1, .i .i64 p21.1, .i .i64 p22.1, .i .i64 p23])))])
noncomputable def A76x0x51047 (L : List Lf) : List (Bool × (Ex × St)) := bnd (J76x0x51047 N L (fun p => some (.inl p)) (fun p => some (.inr p))) fun q => [((inlB q), K76x0x51047w0 L (inlV q)), ((inrQ q).isSome, K76x0x51047w1 L ((inrQ q).getD default))]
theorem raw76x0x51047 (L : List Lf) : pc Try.prog (T93x0 N) (h76x0s11 N).h 2 100 76 51047 sh76x0x51047 L [69, 68, 67, 9, 6, 11, 10, 4, 2, 8, 0, 7] [11, 8, 0, 1, 10, 6] = J76x0x51047 N L (fun p => some (K76x0x51047w0 L p)) (fun p => some (K76x0x51047w1 L p)) := by kernel_rfl
noncomputable def h76x0s12 : Sg Try.prog 2 76 :=
  (h76x0s11 N).cut (A76x0x51047 N) progOk (T93x0_ok N) fun L x hx => (raw76x0x51047 N L).trans ((bind76x0x51047 N ..).trans ((altS alt1) x hx))
noncomputable def S76x0x33 (w0 : Int) (w1 w2 : Bool) (w4 : LD) (w5 w19 w21 : Int) (w75 : LB) (w76 w80 w81 : Int) (w6 w84 w85 w86 w87 w88 w89 w90 w91 w92 w93 w94 w95 w96 w97 w98 w99 w100 w101 w102 w103 w104 w105 w106 w107 : Int) (kr : Int → Int → Int → Int → Int → Int → Int → Int → Int → Int → Int → Int → Int → Int → Int → Int → Int → Int → Int → Int → Int → Int → Int → Int → Int → Option R) (k0 : Ty0 → Option R) (k1 : Ty2 → Option R) : Option R :=
  bif (decide (w6 < w5)) then
    bif (inB w6 w4.length) then
      bnd (G76x0x51047 N w0 w1 w2 w6 ((w4.getD w6.toNat (.i 0)).cell 0).toI (((w4.getD w6.toNat (.i 0)).cell 0).toI == 3) w19 w21 w75 w76 w80 w81 w84 w85 w86 w87 w88 w89 w90 w91 w92 w93 w94 w95 w96 w97 w98 w99 w100 w101 w102 w103 w104 w105 w106 w107 ((w4.getD w6.toNat (.i 0)).cell 1).toI ((w4.getD w6.toNat (.i 0)).cell 2).toI ((w4.getD w6.toNat (.i 0)).cell 3).toI ((w4.getD w6.toNat (.i 0)).cell 4).toI ((w4.getD w6.toNat (.i 0)).cell 5).toS) fun y0 =>
      bif (inlB y0) then
        k0 (inlV y0)
      else
        bif (inrQ y0).isSome then
          kr (IntKind.wrap .i64 (w6 + 1)) ((inrQ y0).getD default).1 ((inrQ y0).getD default).2.1 ((inrQ y0).getD default).2.2.1 ((inrQ y0).getD default).2.2.2.1 ((inrQ y0).getD default).2.2.2.2.1 ((inrQ y0).getD default).2.2.2.2.2.1 ((inrQ y0).getD default).2.2.2.2.2.2.1 ((inrQ y0).getD default).2.2.2.2.2.2.2.1 ((inrQ y0).getD default).2.2.2.2.2.2.2.2.1 ((inrQ y0).getD default).2.2.2.2.2.2.2.2.2.1 ((inrQ y0).getD default).2.2.2.2.2.2.2.2.2.2.1 ((inrQ y0).getD default).2.2.2.2.2.2.2.2.2.2.2.1 ((inrQ y0).getD default).2.2.2.2.2.2.2.2.2.2.2.2.1 ((inrQ y0).getD default).2.2.2.2.2.2.2.2.2.2.2.2.2.1 ((inrQ y0).getD default).2.2.2.2.2.2.2.2.2.2.2.2.2.2.1 ((inrQ y0).getD default).2.2.2.2.2.2.2.2.2.2.2.2.2.2.2.1 ((inrQ y0).getD default).2.2.2.2.2.2.2.2.2.2.2.2.2.2.2.2.1 ((inrQ y0).getD default).2.2.2.2.2.2.2.2.2.2.2.2.2.2.2.2.2.1 ((inrQ y0).getD default).2.2.2.2.2.2.2.2.2.2.2.2.2.2.2.2.2.2.1 ((inrQ y0).getD default).2.2.2.2.2.2.2.2.2.2.2.2.2.2.2.2.2.2.2.1 ((inrQ y0).getD default).2.2.2.2.2.2.2.2.2.2.2.2.2.2.2.2.2.2.2.2.1 ((inrQ y0).getD default).2.2.2.2.2.2.2.2.2.2.2.2.2.2.2.2.2.2.2.2.2.1 ((inrQ y0).getD default).2.2.2.2.2.2.2.2.2.2.2.2.2.2.2.2.2.2.2.2.2.2.1 ((inrQ y0).getD default).2.2.2.2.2.2.2.2.2.2.2.2.2.2.2.2.2.2.2.2.2.2.2
        else
          none
    else
      none
  else
    k1 (w84, w85, w86, w87, w88, w89, w90, w91, w92, w93, w94, w95, w96, w97, w98, w99, w100, w101, w102, w103, w104, w105, w106, w107)
noncomputable def L76x0x33 (N : Nat) {R : Type} (w0 : Int) (w1 w2 : Bool) (w4 : LD) (w5 w19 w21 : Int) (w75 : LB) (w76 w80 w81 : Int) : Nat → Int → Int → Int → Int → Int → Int → Int → Int → Int → Int → Int → Int → Int → Int → Int → Int → Int → Int → Int → Int → Int → Int → Int → Int → Int → (Ty0 → Option R) → (Ty2 → Option R) → Option R
  | 0, _, _, _, _, _, _, _, _, _, _, _, _, _, _, _, _, _, _, _, _, _, _, _, _, _, _, _ => none
  | m + 1, w6, w84, w85, w86, w87, w88, w89, w90, w91, w92, w93, w94, w95, w96, w97, w98, w99, w100, w101, w102, w103, w104, w105, w106, w107, k0, k1 => S76x0x33 N w0 w1 w2 w4 w5 w19 w21 w75 w76 w80 w81 w6 w84 w85 w86 w87 w88 w89 w90 w91 w92 w93 w94 w95 w96 w97 w98 w99 w100 w101 w102 w103 w104 w105 w106 w107 (fun w6 w84 w85 w86 w87 w88 w89 w90 w91 w92 w93 w94 w95 w96 w97 w98 w99 w100 w101 w102 w103 w104 w105 w106 w107 => L76x0x33 N w0 w1 w2 w4 w5 w19 w21 w75 w76 w80 w81 m w6 w84 w85 w86 w87 w88 w89 w90 w91 w92 w93 w94 w95 w96 w97 w98 w99 w100 w101 w102 w103 w104 w105 w106 w107 k0 k1) k0 k1
noncomputable def G76x0x33 (w0 : Int) (w1 w2 : Bool) (w4 : LD) (w5 w19 w21 : Int) (w75 : LB) (w76 w80 w81 : Int) (w6 w84 w85 w86 w87 w88 w89 w90 w91 w92 w93 w94 w95 w96 w97 w98 w99 w100 w101 w102 w103 w104 w105 w106 w107 : Int) : Option (Sum (Ty0) (Ty2)) := L76x0x33 N (R := (Sum (Ty0) (Ty2))) w0 w1 w2 w4 w5 w19 w21 w75 w76 w80 w81 N w6 w84 w85 w86 w87 w88 w89 w90 w91 w92 w93 w94 w95 w96 w97 w98 w99 w100 w101 w102 w103 w104 w105 w106 w107 (fun p => some (.inl p)) (fun p => some (.inr p))
noncomputable def J76x0x33 (L x : List Lf) (kr : List Lf → Option R) (k0 : Ty0 → Option R) (k1 : Ty2 → Option R) : Option R := S76x0x33 N (li L 0) (lb L 1) (lb L 2) (ll L 4) (li L 5) (li L 19) (li L 21) (ls L 75) (li L 76) (li L 80) (li L 81) (li x 0) (li x 1) (li x 2) (li x 3) (li x 4) (li x 5) (li x 6) (li x 7) (li x 8) (li x 9) (li x 10) (li x 11) (li x 12) (li x 13) (li x 14) (li x 15) (li x 16) (li x 17) (li x 18) (li x 19) (li x 20) (li x 21) (li x 22) (li x 23) (li x 24) (fun w6 w84 w85 w86 w87 w88 w89 w90 w91 w92 w93 w94 w95 w96 w97 w98 w99 w100 w101 w102 w103 w104 w105 w106 w107 => kr [.i w6, .i w84, .i w85, .i w86, .i w87, .i w88, .i w89, .i w90, .i w91, .i w92, .i w93, .i w94, .i w95, .i w96, .i w97, .i w98, .i w99, .i w100, .i w101, .i w102, .i w103, .i w104, .i w105, .i w106, .i w107]) k0 k1
theorem sb76x0x33 (L x : List Lf) (kr : List Lf → Option R) (k0 : Ty0 → Option R) (k1 : Ty2 → Option R) : J76x0x33 N L x kr k0 k1 = (J76x0x33 N L x (fun y => some (.inl y)) (fun p => some (.inr (.inl p))) (fun p => some (.inr (.inr p)))).bind (sumE kr (sumE k0 k1)) := by
  unfold J76x0x33 S76x0x33
  repeat' (first | rfl | apply cond_b | (apply bnd_b; intro _))
noncomputable def Q76x0x33 (L : List Lf) (m : Nat) (x : List Lf) : Option (Sum (Ty0) (Ty2)) := L76x0x33 N (R := (Sum (Ty0) (Ty2))) (li L 0) (lb L 1) (lb L 2) (ll L 4) (li L 5) (li L 19) (li L 21) (ls L 75) (li L 76) (li L 80) (li L 81) m (li x 0) (li x 1) (li x 2) (li x 3) (li x 4) (li x 5) (li x 6) (li x 7) (li x 8) (li x 9) (li x 10) (li x 11) (li x 12) (li x 13) (li x 14) (li x 15) (li x 16) (li x 17) (li x 18) (li x 19) (li x 20) (li x 21) (li x 22) (li x 23) (li x 24) (fun p => some (.inl p)) (fun p => some (.inr p))
noncomputable def sh76x0x33 : Sh := { tmps := [(0, .c (.p 0 0)), (2, .c (.i .i64)), (4, .c (.p 6 0)), (6, .c (.p 8 0)), (8, .c (.p 10 0)), (9, .c (.p 11 0)), (10, .c (.b)), (11, .c (.b)), (67, .c (.sl 68)), (68, .c (.i .i64)), (69, .c (.i .i64))], mem := [(0, .box (.i .i64 :: .i .i64 :: [.i .i64, .sl 66, .sl 68, .sl 3, .sl 3, .m 1])), (1, .map 93 96), (6, .box (rI 28 ([]))), (8, .box (rI 28 ([]))), (10, .box ([.s, .i .i64, .i .i64, .i .i64, .b])), (11, .box (rI 28 ([])))] }
noncomputable def K76x0x33w0 (L : List Lf) (p : Ty0) : Ex × St := let p1 := p.2; let p2 := p1.2; let p3 := p2.2; let p4 := p3.2; let p5 := p4.2; let p6 := p5.2; let p7 := p6.2; let p8 := p7.2; let p9 := p8.2; let p10 := p9.2; let p11 := p10.2; let p12 := p11.2; let p13 := p12.2; let p14 := p13.2; let p15 := p14.2; let p16 := p15.2; let p17 := p16.2; let p18 := p17.2; let p19 := p18.2; let p20 := p19.2; let p21 := p20.2; let p22 := p21.2; let p23 := p22.2; let p24 := p23.2; let p25 := p24.2; let p26 := p25.2; let p27 := p26.2; let p28 := p27.2; let p29 := p28.2; let p30 := p29.2; let p31 := p30.2; let p32 := p31.2; let p33 := p32.2; let p34 := p33.2; let p35 := p34.2; let p36 := p35.2; let p37 := p36.2; let p38 := p37.2; let p39 := p38.2; let p40 := p39.2; let p41 := p40.2; let p42 := p41.2; let p43 := p42.2; let p44 := p43.2; let p45 := p44.2; let p46 := p45.2; let p47 := p46.2; (.ret, mg (ofSh sh76x0x33 L) [6, 7, 9] [(7, .c (.b false))] [0, 1, 8, 11] [(8, .box (rL L 80 4 ([.i .i64 p.1, .i .i64 p1.1, .i .i64 p2.1, .i .i64 p3.1, .i .i64 p4.1, .i .i64 p5.1, .i .i64 p6.1, .i .i64 p7.1, .i .i64 p8.1, .i .i64 p9.1, .i .i64 p10.1, .i .i64 p11.1, .i .i64 p12.1, .i .i64 p13.1, .i .i64 p14.1, .i .i64 p15.1, .i .i64 p16.1, .i .i64 p17.1, .i .i64 p18.1, .i .i64 p19.1, .i .i64 p20.1, .i .i64 p21.1, .i .i64 p22.1, .i .i64 p23.1]))), (11, .box (rL L 80 4 ([.i .i64 p24.1, .i .i64 p25.1, .i .i64 p26.1, .i .i64 p27.1, .i .i64 p28.1, .i .i64 p29.1, .i .i64 p30.1, .i .i64 p31.1, .i .i64 p32.1, .i .i64 p33.1, .i .i64 p34.1, .i .i64 p35.1, .i .i64 p36.1, .i .i64 p37.1, .i .i64 p38.1, .i .i64 p39.1, .i .i64 p40.1, .i .i64 p41.1, .i .i64 p42.1, .i .i64 p43.1, .i .i64 p44.1, .i .i64 p45.1, .i .i64 p46.1, .i .i64 p47])))])
noncomputable def K76x0x33w1 (L : List Lf) (p : Ty2) : Ex × St := let p1 := p.2; let p2 := p1.2; let p3 := p2.2; let p4 := p3.2; let p5 := p4.2; let p6 := p5.2; let p7 := p6.2; let p8 := p7.2; let p9 := p8.2; let p10 := p9.2; let p11 := p10.2; let p12 := p11.2; let p13 := p12.2; let p14 := p13.2; let p15 := p14.2; let p16 := p15.2; let p17 := p16.2; let p18 := p17.2; let p19 := p18.2; let p20 := p19.2; let p21 := p20.2; let p22 := p21.2; let p23 := p22.2; ((.exit 0), mg (ofSh sh76x0x33 L) [0, 6, 9, 11] [] [0, 1, 8, 11] [(11, .box (rL L 80 4 ([.i .i64 p.1, .i .i64 p1.1, .i .i64 p2.1, .i .i64 p3.1, .i .i64 p4.1, .i .i64 p5.1, .i .i64 p6.1, .i .i64 p7.1, .i .i64 p8.1, .i .i64 p9.1, .i .i64 p10.1, .i .i64 p11.1, .i .i64 p12.1, .i .i64 p13.1, .i .i64 p14.1, .i .i64 p15.1, .i .i64 p16.1, .i .i64 p17.1, .i .i64 p18.1, .i .i64 p19.1, .i .i64 p20.1, .i .i64 p21.1, .i .i64 p22.1, .i .i64 p23])))])
noncomputable def A76x0x33 (L : List Lf) : List (Bool × (Ex × St)) := bnd (Q76x0x33 N L N (pk sh76x0x33 [6, 84, 85, 86, 87, 88, 89, 90, 91, 92, 93, 94, 95, 96, 97, 98, 99, 100, 101, 102, 103, 104, 105, 106, 107] L)) fun q => [((inlB q), K76x0x33w0 L (inlV q)), ((inrQ q).isSome, K76x0x33w1 L ((inrQ q).getD default))]
theorem step76x0x33 (m : Nat) (kn : St → Option (Ex × St)) (L x : List Lf) : lpB Try.prog (T93x0 N) (h76x0s12 N).h 2 76 33 sh76x0x33 [6, 84, 85, 86, 87, 88, 89, 90, 91, 92, 93, 94, 95, 96, 97, 98, 99, 100, 101, 102, 103, 104, 105, 106, 107] [6, 7, 11, 9, 0] [11, 8, 0, 1] (m + 100) kn L x = J76x0x33 N L x (fun y => kn (ofSh sh76x0x33 (mx sh76x0x33 [6, 84, 85, 86, 87, 88, 89, 90, 91, 92, 93, 94, 95, 96, 97, 98, 99, 100, 101, 102, 103, 104, 105, 106, 107] L y))) (fun p => some (K76x0x33w0 L p)) (fun p => some (K76x0x33w1 L p)) := by kernel_rfl
noncomputable def h76x0s13 : Sg Try.prog 2 76 :=
  (h76x0s12 N).lp (A76x0x33 N) N progOk (T93x0_ok N) (fun m kn L x => (step76x0x33 N m kn L x).trans (sb76x0x33 N L x _ _ _)) (fun L m x => sb76x0x33 N L x (Q76x0x33 N L m) (fun p => some (.inl p)) (fun p => some (.inr p))) fun L x hx => (altS alt1) x hx
noncomputable def F76x0x125 (N : Nat) (w0 : Bool) (w42 w43 : Int) (k0 : Int → R) : R :=
  bif w0 then
    k0 w42
  else
    k0 w43
noncomputable def V76x0x125 (w0 : Bool) (w42 w43 : Int) : Int := F76x0x125 N w0 w42 w43 (fun p => p)
theorem tot76x0x125 (w0 : Bool) (w42 w43 : Int) (k0 : Int → R) : F76x0x125 N w0 w42 w43 k0 = k0 (V76x0x125 N w0 w42 w43) := by
  unfold V76x0x125 F76x0x125
  repeat' (first | rfl | apply cond_k | (apply bnd_k; intro _))
noncomputable def sh76x0x125 : Sh := { tmps := [(0, .c (.p 0 0)), (6, .c (.p 8 0)), (9, .c (.p 11 0)), (202, .c (.b))], mem := [(0, .box (.i .i64 :: .i .i64 :: [.i .i64, .sl 66, .sl 68, .sl 3, .sl 3, .m 1])), (1, .map 93 96), (8, .box (rI 28 ([]))), (11, .box (rI 28 ([])))] }
noncomputable def K76x0x125w0 (L : List Lf) (p : Int) : Ex × St := (.normal, mg (ofSh sh76x0x125 L) [0, 6, 9] [] [0, 1, 8, 11] [(11, .box (.i .i64 (li L 41) :: .i .i64 (li L 42) :: .i .i64 p :: rL L 44 25 ([])))])
noncomputable def A76x0x125 (L : List Lf) : List (Bool × (Ex × St)) := bnd (F76x0x125 N (lb L 0) (li L 42) (li L 43) (fun p => p)) fun q => [(true, K76x0x125w0 L q)]
theorem raw76x0x125 (L : List Lf) : pc Try.prog (T93x0 N) (h76x0s13 N).h 2 100 76 125 sh76x0x125 L [9, 0, 6] [11, 8, 1, 0] = F76x0x125 N (lb L 0) (li L 42) (li L 43) (fun p => some (K76x0x125w0 L p)) := by kernel_rfl
noncomputable def h76x0s14 : Sg Try.prog 2 76 :=
  (h76x0s13 N).cut (A76x0x125 N) progOk (T93x0_ok N) fun L x hx => (raw76x0x125 N L).trans ((tot76x0x125 N ..).trans (alt0 _ _ hx))
noncomputable def F76x0x119 (w0 : Bool) (w7 : LD) (w42 w43 : Int) (k0 : Int × Int → Option R) : Option R :=
  bif w0 then
    bnd (G74x0 N w7 [(.i 7)]) fun y0 =>
    bif y0.isSome then
      bnd (V76x0x125 N (y0.getD default) w42 0) fun y1 =>
      k0 (0, y1)
    else
      none
  else
    k0 (w42, w43)
noncomputable def G76x0x119 (w0 : Bool) (w7 : LD) (w42 w43 : Int) : Option (Int × Int) := F76x0x119 N w0 w7 w42 w43 (fun p => some p)
theorem bind76x0x119 (w0 : Bool) (w7 : LD) (w42 w43 : Int) (k0 : Int × Int → Option R) : F76x0x119 N w0 w7 w42 w43 k0 = (G76x0x119 N w0 w7 w42 w43).bind k0 := by
  unfold G76x0x119 F76x0x119
  repeat' (first | rfl | apply cond_b | (apply bnd_b; intro _))
noncomputable def J76x0x119 (L : List Lf) (k0 : Int × Int → Option R) : Option R := F76x0x119 N (lb L 0) (ll L 7) (li L 42) (li L 43) k0
noncomputable def sh76x0x119 : Sh := { tmps := [(0, .c (.p 0 0)), (6, .c (.p 8 0)), (9, .c (.p 11 0)), (195, .c (.b))], mem := [(0, .box (.i .i64 :: .i .i64 :: [.i .i64, .sl 66, .sl 68, .sl 3, .sl 3, .m 1])), (1, .map 93 96), (8, .box (rI 28 ([]))), (11, .box (rI 28 ([])))] }
noncomputable def K76x0x119w0 (L : List Lf) (p : Int × Int) : Ex × St := (.normal, mg (ofSh sh76x0x119 L) [0, 6, 9] [] [0, 1, 8, 11] [(11, .box (.i .i64 (li L 41) :: .i .i64 p.1 :: .i .i64 p.2 :: rL L 44 25 ([])))])
noncomputable def A76x0x119 (L : List Lf) : List (Bool × (Ex × St)) := bnd (J76x0x119 N L (fun p => some p)) fun q => [(q.isSome, K76x0x119w0 L (q.getD default))]
theorem raw76x0x119 (L : List Lf) : pc Try.prog (T93x0 N) (h76x0s14 N).h 2 100 76 119 sh76x0x119 L [0, 9, 6] [11, 8, 1, 0] = J76x0x119 N L (fun p => some (K76x0x119w0 L p)) := by kernel_rfl
noncomputable def h76x0s15 : Sg Try.prog 2 76 :=
  (h76x0s14 N).cut (A76x0x119 N) progOk (T93x0_ok N) fun L x hx => (raw76x0x119 N L).trans ((bind76x0x119 N ..).trans (alt1 x hx))
noncomputable def F76x0x134 (N : Nat) (w0 : Bool) (w42 : Int) (k0 : Int → R) : R :=
  bif w0 then
    k0 0
  else
    k0 w42
noncomputable def V76x0x134 (w0 : Bool) (w42 : Int) : Int := F76x0x134 N w0 w42 (fun p => p)
theorem tot76x0x134 (w0 : Bool) (w42 : Int) (k0 : Int → R) : F76x0x134 N w0 w42 k0 = k0 (V76x0x134 N w0 w42) := by
  unfold V76x0x134 F76x0x134
  repeat' (first | rfl | apply cond_k | (apply bnd_k; intro _))
noncomputable def sh76x0x134 : Sh := { tmps := [(6, .c (.p 8 0)), (9, .c (.p 11 0)), (213, .c (.b))], mem := [(0, .box (.i .i64 :: .i .i64 :: [.i .i64, .sl 66, .sl 68, .sl 3, .sl 3, .m 1])), (1, .map 93 96), (8, .box (rI 28 ([]))), (11, .box (rI 28 ([])))] }
noncomputable def K76x0x134w0 (L : List Lf) (p : Int) : Ex × St := (.normal, mg (ofSh sh76x0x134 L) [6, 9] [] [0, 1, 8, 11] [(11, .box (.i .i64 (li L 41) :: .i .i64 p :: rL L 43 26 ([])))])
noncomputable def A76x0x134 (L : List Lf) : List (Bool × (Ex × St)) := bnd (F76x0x134 N (lb L 0) (li L 42) (fun p => p)) fun q => [(true, K76x0x134w0 L q)]
theorem raw76x0x134 (L : List Lf) : pc Try.prog (T93x0 N) (h76x0s15 N).h 2 100 76 134 sh76x0x134 L [9, 6] [11, 8, 0, 1] = F76x0x134 N (lb L 0) (li L 42) (fun p => some (K76x0x134w0 L p)) := by kernel_rfl
noncomputable def h76x0s16 : Sg Try.prog 2 76 :=
  (h76x0s15 N).cut (A76x0x134 N) progOk (T93x0_ok N) fun L x hx => (raw76x0x134 N L).trans ((tot76x0x134 N ..).trans (alt0 _ _ hx))
noncomputable def F76x0 (v0 v1 v2 v3 v4 v5 v6 v7 v8 v9 v10 v11 v12 v13 v14 v15 v16 v17 v18 v19 v20 v21 v22 v23 v24 v25 v26 v27 v28 v30 : Int) (v33 v35 : LD) (k0 : Ty1 → Option R) : Option R :=
  bnd (G63x0 N v33 v28) fun y0 =>
  bif y0.isSome then
    bnd (G76x0x23 N (y0.getD default).2.2.2.2 v35 (max2 0 (IntKind.wrap .i64 (v3 - 1)))) fun y1 =>
    bif y1.isSome then
      bnd (V76x0x25 N v30 (IntKind.wrap .i64 (v0 + 1))) fun y2 =>
      bnd (G76x0x33 N v28 y2 (((IntKind.wrap .i64 (v0 + 1)).tmod 7) == 0) v35 (v35.length : Int) v0 v2 (y0.getD default).1 (y0.getD default).2.1 (IntKind.wrap .i64 (v0 + 1)) (IntKind.wrap .i64 (v1 + (y0.getD default).2.1)) 0 v4 v5 v6 v7 v8 v9 v10 v11 v12 v13 v14 v15 v16 v17 v18 v19 v20 v21 v22 v23 v24 v25 v26 v27) fun y3 =>
      bif (inlB y3) then
        k0 ((IntKind.wrap .i64 (v0 + 1)), (IntKind.wrap .i64 (v1 + (y0.getD default).2.1)), v2, (y1.getD default), (inlV y3).1, (inlV y3).2.1, (inlV y3).2.2.1, (inlV y3).2.2.2.1, (inlV y3).2.2.2.2.1, (inlV y3).2.2.2.2.2.1, (inlV y3).2.2.2.2.2.2.1, (inlV y3).2.2.2.2.2.2.2.1, (inlV y3).2.2.2.2.2.2.2.2.1, (inlV y3).2.2.2.2.2.2.2.2.2.1, (inlV y3).2.2.2.2.2.2.2.2.2.2.1, (inlV y3).2.2.2.2.2.2.2.2.2.2.2.1, (inlV y3).2.2.2.2.2.2.2.2.2.2.2.2.1, (inlV y3).2.2.2.2.2.2.2.2.2.2.2.2.2.1, (inlV y3).2.2.2.2.2.2.2.2.2.2.2.2.2.2.1, (inlV y3).2.2.2.2.2.2.2.2.2.2.2.2.2.2.2.1, (inlV y3).2.2.2.2.2.2.2.2.2.2.2.2.2.2.2.2.1, (inlV y3).2.2.2.2.2.2.2.2.2.2.2.2.2.2.2.2.2.1, (inlV y3).2.2.2.2.2.2.2.2.2.2.2.2.2.2.2.2.2.2.1, (inlV y3).2.2.2.2.2.2.2.2.2.2.2.2.2.2.2.2.2.2.2.1, (inlV y3).2.2.2.2.2.2.2.2.2.2.2.2.2.2.2.2.2.2.2.2.1, (inlV y3).2.2.2.2.2.2.2.2.2.2.2.2.2.2.2.2.2.2.2.2.2.1, (inlV y3).2.2.2.2.2.2.2.2.2.2.2.2.2.2.2.2.2.2.2.2.2.2.1, (inlV y3).2.2.2.2.2.2.2.2.2.2.2.2.2.2.2.2.2.2.2.2.2.2.2.1, false)
      else
        bif (inrQ y3).isSome then
          bnd (G76x0x119 N (((IntKind.wrap .i64 (v0 + 1)).tmod 7) == 0) v35 (IntKind.wrap .i64 (v1 + (y0.getD default).2.1)) v2) fun y4 =>
          bif y4.isSome then
            bnd (G74x0 N v35 [(.i 7), (.i 3), (.i 4)]) fun y5 =>
            bif y5.isSome then
              bnd (V76x0x134 N (!(y5.getD default)) (y4.getD default).1) fun y6 =>
              bnd ((inrQ y3).getD default).2.2.2.2.2.2.2.2.2.2.2.2.2.2.1 fun y7 =>
              bnd ((inrQ y3).getD default).2.2.2.2.2.2.2.2.2.2.2.2.2.2.2.1 fun y8 =>
              bnd ((inrQ y3).getD default).2.2.2.2.2.2.2.2.2.2.2.2.2.2.2.2.1 fun y9 =>
              bnd ((inrQ y3).getD default).2.2.2.2.2.2.2.2.2.2.2.2.2.2.2.2.2.1 fun y10 =>
              bnd ((inrQ y3).getD default).2.2.2.2.2.2.2.2.2.2.2.2.2.2.2.2.2.2.1 fun y11 =>
              bnd ((inrQ y3).getD default).2.2.2.2.2.2.2.2.2.2.2.2.2.2.2.2.2.2.2.1 fun y12 =>
              bnd ((inrQ y3).getD default).2.2.2.2.2.2.2.2.2.2.2.2.2.2.2.2.2.2.2.2.1 fun y13 =>
              bnd ((inrQ y3).getD default).2.2.2.2.2.2.2.2.2.2.2.2.2.2.2.2.2.2.2.2.2.1 fun y14 =>
              bnd ((inrQ y3).getD default).2.2.2.2.2.2.2.2.2.2.2.2.2.2.2.2.2.2.2.2.2.2.1 fun y15 =>
              bnd ((inrQ y3).getD default).2.2.2.2.2.2.2.2.2.2.2.2.2.2.2.2.2.2.2.2.2.2.2 fun y16 =>
              k0 ((IntKind.wrap .i64 (v0 + 1)), y6, (y4.getD default).2, (y1.getD default), ((inrQ y3).getD default).1, ((inrQ y3).getD default).2.1, ((inrQ y3).getD default).2.2.1, ((inrQ y3).getD default).2.2.2.1, ((inrQ y3).getD default).2.2.2.2.1, ((inrQ y3).getD default).2.2.2.2.2.1, ((inrQ y3).getD default).2.2.2.2.2.2.1, ((inrQ y3).getD default).2.2.2.2.2.2.2.1, ((inrQ y3).getD default).2.2.2.2.2.2.2.2.1, ((inrQ y3).getD default).2.2.2.2.2.2.2.2.2.1, ((inrQ y3).getD default).2.2.2.2.2.2.2.2.2.2.1, ((inrQ y3).getD default).2.2.2.2.2.2.2.2.2.2.2.1, ((inrQ y3).getD default).2.2.2.2.2.2.2.2.2.2.2.2.1, ((inrQ y3).getD default).2.2.2.2.2.2.2.2.2.2.2.2.2.1, y7, y8, y9, y10, y11, y12, y13, y14, y15, y16, true)
            else
              none
          else
            none
        else
          none
    else
      none
  else
    none
noncomputable def G76x0 (v0 v1 v2 v3 v4 v5 v6 v7 v8 v9 v10 v11 v12 v13 v14 v15 v16 v17 v18 v19 v20 v21 v22 v23 v24 v25 v26 v27 v28 v30 : Int) (v33 v35 : LD) : Option (Ty1) := F76x0 N v0 v1 v2 v3 v4 v5 v6 v7 v8 v9 v10 v11 v12 v13 v14 v15 v16 v17 v18 v19 v20 v21 v22 v23 v24 v25 v26 v27 v28 v30 v33 v35 (fun p => some p)
theorem bind76x0 (v0 v1 v2 v3 v4 v5 v6 v7 v8 v9 v10 v11 v12 v13 v14 v15 v16 v17 v18 v19 v20 v21 v22 v23 v24 v25 v26 v27 v28 v30 : Int) (v33 v35 : LD) (k0 : Ty1 → Option R) : F76x0 N v0 v1 v2 v3 v4 v5 v6 v7 v8 v9 v10 v11 v12 v13 v14 v15 v16 v17 v18 v19 v20 v21 v22 v23 v24 v25 v26 v27 v28 v30 v33 v35 k0 = (G76x0 N v0 v1 v2 v3 v4 v5 v6 v7 v8 v9 v10 v11 v12 v13 v14 v15 v16 v17 v18 v19 v20 v21 v22 v23 v24 v25 v26 v27 v28 v30 v33 v35).bind k0 := by
  unfold G76x0 F76x0
  repeat' (first | rfl | apply cond_b | (apply bnd_b; intro _))
noncomputable def J76x0 (L : List Lf) (k0 : Ty1 → Option R) : Option R := F76x0 N (li L 0) (li L 1) (li L 2) (li L 3) (li L 4) (li L 5) (li L 6) (li L 7) (li L 8) (li L 9) (li L 10) (li L 11) (li L 12) (li L 13) (li L 14) (li L 15) (li L 16) (li L 17) (li L 18) (li L 19) (li L 20) (li L 21) (li L 22) (li L 23) (li L 24) (li L 25) (li L 26) (li L 27) (li L 28) (li L 30) (ll L 33) (ll L 35) k0
noncomputable def sh76x0 : Sh := { tmps := [(0, .c (.p 0 0)), (1, .g (rI 28 ([]))), (2, .c (.i .i64))], mem := [(0, .box (.i .i64 :: .i .i64 :: [.i .i64, .sl 66, .sl 68, .sl 3, .sl 3, .m 1])), (1, .map 93 96)] }
noncomputable def K76x0w0 (L : List Lf) (p : Ty1) : Res := let p1 := p.2; let p2 := p1.2; let p3 := p2.2; let p4 := p3.2; let p5 := p4.2; let p6 := p5.2; let p7 := p6.2; let p8 := p7.2; let p9 := p8.2; let p10 := p9.2; let p11 := p10.2; let p12 := p11.2; let p13 := p12.2; let p14 := p13.2; let p15 := p14.2; let p16 := p15.2; let p17 := p16.2; let p18 := p17.2; let p19 := p18.2; let p20 := p19.2; let p21 := p20.2; let p22 := p21.2; let p23 := p22.2; let p24 := p23.2; let p25 := p24.2; let p26 := p25.2; let p27 := p26.2; let p28 := p27.2; ([.g [.i .i64 p.1, .i .i64 p1.1, .i .i64 p2.1, .i .i64 p3.1, .i .i64 p4.1, .i .i64 p5.1, .i .i64 p6.1, .i .i64 p7.1, .i .i64 p8.1, .i .i64 p9.1, .i .i64 p10.1, .i .i64 p11.1, .i .i64 p12.1, .i .i64 p13.1, .i .i64 p14.1, .i .i64 p15.1, .i .i64 p16.1, .i .i64 p17.1, .i .i64 p18.1, .i .i64 p19.1, .i .i64 p20.1, .i .i64 p21.1, .i .i64 p22.1, .i .i64 p23.1, .i .i64 p24.1, .i .i64 p25.1, .i .i64 p26.1, .i .i64 p27.1], .c (.b p28)], mgA (ofSh sh76x0 L).mem [] [0, 1])
noncomputable def A76x0 (L : List Lf) : List (Bool × Res) := bnd (J76x0 N L (fun p => some p)) fun q => [(q.isSome, K76x0w0 L (q.getD default))]
theorem raw76x0 (L : List Lf) : bd Try.prog (T93x0 N) (h76x0s16 N).h 76 sh76x0 L = J76x0 N L (fun p => some (K76x0w0 L p)) := by kernel_rfl
theorem ok76x0 : FnOk Try.prog 76 sh76x0 (A76x0 N) :=
  (h76x0s16 N).fn progOk (T93x0_ok N) fun L x hx => ((raw76x0 N L).trans ((bind76x0 N ..).trans (alt1 x hx)))
noncomputable def T76x0 : Oracle := ext 76 (spSh sh76x0 (A76x0 N)) (T93x0 N)
theorem T76x0_ok : OracleOk Try.prog (T76x0 N) := FnOk.to (ok76x0 N) (T93x0_ok N)
abbrev Rc75x1 : Type := Int → Int → Int → Int → Int → Int → Int → Int → Int → Int → Int → Int → Int → Int → Int → Int → Int → Int → Int → Int → Int → Int → Int → Int → Int → Int → Int → Int → Int → Int → Int → Bool → LD → Bool → LD → Bool → LD → Bool → LD → (List (D × D)) → Option (Ty10)
noncomputable def sh75x1 : Sh := { tmps := [(0, .c (.p 0 0)), (1, .g (rI 28 ([])))], mem := [(0, .box (.i .i64 :: .i .i64 :: [.i .i64, .sl 66, .sl 68, .sl 3, .sl 3, .m 1])), (1, .map 93 96)] }
noncomputable def B75x1 (N : Nat) (rc : Rc75x1) (L : List Lf) : List (Bool × Res) := bnd (rc (li L 0) (li L 1) (li L 2) (li L 3) (li L 4) (li L 5) (li L 6) (li L 7) (li L 8) (li L 9) (li L 10) (li L 11) (li L 12) (li L 13) (li L 14) (li L 15) (li L 16) (li L 17) (li L 18) (li L 19) (li L 20) (li L 21) (li L 22) (li L 23) (li L 24) (li L 25) (li L 26) (li L 27) (li L 28) (li L 29) (li L 30) (lb L 31) (ll L 32) (lb L 33) (ll L 34) (lb L 35) (ll L 36) (lb L 37) (ll L 38) (lm L 39)) fun q => [(q.isSome, ([.g [.i .i64 (q.getD default).1, .i .i64 (q.getD default).2.1, .i .i64 (q.getD default).2.2.1, .i .i64 (q.getD default).2.2.2.1]], [(0, .box [.i .i64 (li L 28), .i .i64 (li L 29), .i .i64 (li L 30), .sl 66 (lb L 31) (ll L 32), .sl 68 (lb L 33) (ll L 34), .sl 3 (lb L 35) (ll L 36), .sl 3 (lb L 37) (ll L 38), .m 1]), (1, .map 93 96 (q.getD default).2.2.2.2)]))]
noncomputable def O75x1 (rc : Rc75x1) : Oracle := ext 75 (spSh sh75x1 ((B75x1 N) rc)) (T76x0 N)
noncomputable def rg75x1 : List (Nat × List Nat) := [(0, [1, 0]), (1, [3, 0, 4]), (2, [4]), (3, [0, 3, 4]), (4, [6, 5, 4, 0, 3]), (5, [5, 4]), (6, [0, 3, 4]), (7, [0, 3, 7, 4]), (8, [8, 0, 3, 7, 4]), (10, [3, 0, 8, 7, 4]), (11, [0, 3, 8, 7, 4]), (12, [10, 8, 0, 3, 7, 4, 9]), (13, [0, 9, 8, 3, 7, 4]), (14, [11, 8, 0, 3, 7, 4]), (15, [11, 0, 8, 3, 7, 4]), (16, [0, 3, 8, 11, 7, 4]), (17, [11, 7, 8, 0, 3, 4]), (18, [7, 11, 8, 0, 3, 4]), (19, [7, 11, 12, 8, 0, 3, 4]), (20, [12, 11, 8, 7, 13, 0, 3, 4]), (21, [11, 8, 7, 13, 0, 3, 4]), (22, [13, 7, 8, 0, 3, 4]), (9, [8, 0, 3, 7, 4]), (23, [0, 3, 7, 4]), (24, [7, 4])]
noncomputable def hd75x1 : Hints := [(24, [8, 0, 3, 7, 4], [9, 6, 5, 1, 0], []), (31, [3, 0, 8, 7, 4], [9, 6, 5, 1, 0], []), (49, [0, 3, 8, 11, 7, 4], [13, 9, 6, 5, 1, 0], []), (53, [11, 7, 8, 0, 3, 4, 124], [13, 9, 6, 5, 1, 0], []), (65, [11, 8, 7, 13, 0, 3, 4, 158], [13, 9, 6, 5, 1, 0], [])]
noncomputable def h75x1s0 (rc : Rc75x1) (hR : OracleOk Try.prog ((O75x1 N) rc)) : Sg Try.prog 2 75 := .start hd75x1 rg75x1
noncomputable def F75x1x31 (rc : Rc75x1) (w0 w1 : Int) (w5 w7 w9 : LD) (w13 w16 : Int) (k0 : Bool → Option R) : Option R :=
  bif (decide (w13 < (w9.length : Int))) then
    bif (inB w13 w9.length) then
      bif ((w9.getD w13.toNat (.i 0)).toI != w0) then
        k0 true
      else
        bnd (G92x0 N w13 w16 w0 w1 w5 w7) fun y0 =>
        bif y0.isSome then
          k0 (!(y0.getD default))
        else
          none
    else
      none
  else
    bnd (G92x0 N w13 w16 w0 w1 w5 w7) fun y0 =>
    bif y0.isSome then
      k0 (!(y0.getD default))
    else
      none
noncomputable def G75x1x31 (rc : Rc75x1) (w0 w1 : Int) (w5 w7 w9 : LD) (w13 w16 : Int) : Option (Bool) := F75x1x31 N rc w0 w1 w5 w7 w9 w13 w16 (fun p => some p)
theorem bind75x1x31 (rc : Rc75x1) (w0 w1 : Int) (w5 w7 w9 : LD) (w13 w16 : Int) (k0 : Bool → Option R) : F75x1x31 N rc w0 w1 w5 w7 w9 w13 w16 k0 = (G75x1x31 N rc w0 w1 w5 w7 w9 w13 w16).bind k0 := by
  unfold G75x1x31 F75x1x31
  repeat' (first | rfl | apply cond_b | (apply bnd_b; intro _))
noncomputable def J75x1x31 (rc : Rc75x1) (L : List Lf) (k0 : Bool → Option R) : Option R := F75x1x31 N rc (li L 0) (li L 1) (ll L 5) (ll L 7) (ll L 9) (li L 13) (li L 16) k0
noncomputable def sh75x1x31 : Sh := { tmps := [(0, .c (.p 0 0)), (3, .c (.p 5 0)), (4, .c (.p 6 0)), (7, .c (.p 9 0)), (8, .c (.i .i64))], mem := [(0, .box (.i .i64 :: .i .i64 :: [.i .i64, .sl 66, .sl 68, .sl 3, .sl 3, .m 1])), (1, .map 93 96), (5, .box (rI 28 ([]))), (6, .box ([.i .i64, .i .i64, .i .i64, .i .i64])), (9, .box ([.i .i64, .i .i64, .i .i64, .i .i64]))] }
noncomputable def K75x1x31w0 (L : List Lf) (p : Bool) : Ex × St := (.normal, mg (ofSh sh75x1x31 L) [0, 3, 4, 7, 8, 71] [(71, .c (.b p))] [0, 1, 5, 6, 9] [])
noncomputable def A75x1x31 (rc : Rc75x1) (L : List Lf) : List (Bool × (Ex × St)) := bnd (J75x1x31 N rc L (fun p => some p)) fun q => [(q.isSome, K75x1x31w0 L (q.getD default))]
theorem raw75x1x31 (rc : Rc75x1) (hR : OracleOk Try.prog ((O75x1 N) rc)) (L : List Lf) : pc Try.prog ((O75x1 N) rc) ((h75x1s0 N) rc hR).h 2 100 75 31 sh75x1x31 L [8, 0, 3, 7, 4, 71] [9, 6, 5, 1, 0] = J75x1x31 N rc L (fun p => some (K75x1x31w0 L p)) := by kernel_rfl
noncomputable def h75x1s1 (rc : Rc75x1) (hR : OracleOk Try.prog ((O75x1 N) rc)) : Sg Try.prog 2 75 :=
  ((h75x1s0 N) rc hR).cut ((A75x1x31 N) rc) progOk hR fun L x hx => (raw75x1x31 N rc hR L).trans ((bind75x1x31 N rc ..).trans (alt1 x hx))
noncomputable def F75x1x49 (N : Nat) (rc : Rc75x1) (w0 : Int) (w9 : LD) (w10 : Bool) (w11 : LD) (w13 : Int) (k0 : Bool → Option R) : Option R :=
  bif (!w10) then
    bif (decide (w13 ≥ (w9.length : Int))) then
      bif (inB w13 w11.length) then
        k0 ((w11.getD w13.toNat (.i 0)).toI != w0)
      else
        none
    else
      k0 false
  else
    k0 false
noncomputable def G75x1x49 (rc : Rc75x1) (w0 : Int) (w9 : LD) (w10 : Bool) (w11 : LD) (w13 : Int) : Option (Bool) := F75x1x49 N rc w0 w9 w10 w11 w13 (fun p => some p)
theorem bind75x1x49 (rc : Rc75x1) (w0 : Int) (w9 : LD) (w10 : Bool) (w11 : LD) (w13 : Int) (k0 : Bool → Option R) : F75x1x49 N rc w0 w9 w10 w11 w13 k0 = (G75x1x49 N rc w0 w9 w10 w11 w13).bind k0 := by
  unfold G75x1x49 F75x1x49
  repeat' (first | rfl | apply cond_b | (apply bnd_b; intro _))
noncomputable def J75x1x49 (rc : Rc75x1) (L : List Lf) (k0 : Bool → Option R) : Option R := F75x1x49 N rc (li L 0) (ll L 9) (lb L 10) (ll L 11) (li L 13) k0
noncomputable def sh75x1x49 : Sh := { tmps := [(0, .c (.p 0 0)), (3, .c (.p 5 0)), (4, .c (.p 6 0)), (7, .c (.p 9 0)), (8, .c (.i .i64)), (11, .c (.p 13 0))], mem := [(0, .box (.i .i64 :: .i .i64 :: [.i .i64, .sl 66, .sl 68, .sl 3, .sl 3, .m 1])), (1, .map 93 96), (5, .box (rI 28 ([]))), (6, .box ([.i .i64, .i .i64, .i .i64, .i .i64])), (9, .box ([.i .i64, .i .i64, .i .i64, .i .i64])), (13, .box ([.i .i64, .i .i64, .i .i64, .i .i64]))] }
noncomputable def K75x1x49w0 (L : List Lf) (p : Bool) : Ex × St := (.normal, mg (ofSh sh75x1x49 L) [0, 3, 4, 7, 8, 11, 124] [(124, .c (.b p))] [0, 1, 5, 6, 9, 13] [])
noncomputable def A75x1x49 (rc : Rc75x1) (L : List Lf) : List (Bool × (Ex × St)) := bnd (J75x1x49 N rc L (fun p => some p)) fun q => [(q.isSome, K75x1x49w0 L (q.getD default))]
theorem raw75x1x49 (rc : Rc75x1) (hR : OracleOk Try.prog ((O75x1 N) rc)) (L : List Lf) : pc Try.prog ((O75x1 N) rc) ((h75x1s1 N) rc hR).h 2 100 75 49 sh75x1x49 L [11, 7, 8, 0, 3, 4, 124] [13, 9, 6, 5, 1, 0] = J75x1x49 N rc L (fun p => some (K75x1x49w0 L p)) := by kernel_rfl
noncomputable def h75x1s2 (rc : Rc75x1) (hR : OracleOk Try.prog ((O75x1 N) rc)) : Sg Try.prog 2 75 :=
  ((h75x1s1 N) rc hR).cut ((A75x1x49 N) rc) progOk hR fun L x hx => (raw75x1x49 N rc hR L).trans ((bind75x1x49 N rc ..).trans (alt1 x hx))
noncomputable def F75x1x53 (N : Nat) (rc : Rc75x1) (w1 : Bool) (w51 : Int) (k0 : Int → R) : R :=
  bif w1 then
    k0 (IntKind.wrap .i64 (w51 + 1))
  else
    k0 w51
noncomputable def V75x1x53 (rc : Rc75x1) (w1 : Bool) (w51 : Int) : Int := F75x1x53 N rc w1 w51 (fun p => p)
theorem tot75x1x53 (rc : Rc75x1) (w1 : Bool) (w51 : Int) (k0 : Int → R) : F75x1x53 N rc w1 w51 k0 = k0 (V75x1x53 N rc w1 w51) := by
  unfold V75x1x53 F75x1x53
  repeat' (first | rfl | apply cond_k | (apply bnd_k; intro _))
noncomputable def sh75x1x53 : Sh := { tmps := [(0, .c (.p 0 0)), (3, .c (.p 5 0)), (4, .c (.p 6 0)), (7, .c (.p 9 0)), (8, .c (.i .i64)), (11, .c (.p 13 0)), (124, .c (.b))], mem := [(0, .box (.i .i64 :: .i .i64 :: [.i .i64, .sl 66, .sl 68, .sl 3, .sl 3, .m 1])), (1, .map 93 96), (5, .box (rI 28 ([]))), (6, .box ([.i .i64, .i .i64, .i .i64, .i .i64])), (9, .box ([.i .i64, .i .i64, .i .i64, .i .i64])), (13, .box ([.i .i64, .i .i64, .i .i64, .i .i64]))] }
noncomputable def K75x1x53w0 (L : List Lf) (p : Int) : Ex × St := (.normal, mg (ofSh sh75x1x53 L) [0, 3, 4, 7, 8, 11] [] [0, 1, 5, 6, 9, 13] [(13, .box [.i .i64 (li L 50), .i .i64 p, .i .i64 (li L 52), .i .i64 (li L 53)])])
noncomputable def A75x1x53 (rc : Rc75x1) (L : List Lf) : List (Bool × (Ex × St)) := bnd (F75x1x53 N rc (lb L 1) (li L 51) (fun p => p)) fun q => [(true, K75x1x53w0 L q)]
theorem raw75x1x53 (rc : Rc75x1) (hR : OracleOk Try.prog ((O75x1 N) rc)) (L : List Lf) : pc Try.prog ((O75x1 N) rc) ((h75x1s2 N) rc hR).h 2 100 75 53 sh75x1x53 L [7, 11, 8, 0, 3, 4] [13, 9, 6, 5, 1, 0] = F75x1x53 N rc (lb L 1) (li L 51) (fun p => some (K75x1x53w0 L p)) := by kernel_rfl
noncomputable def h75x1s3 (rc : Rc75x1) (hR : OracleOk Try.prog ((O75x1 N) rc)) : Sg Try.prog 2 75 :=
  ((h75x1s2 N) rc hR).cut ((A75x1x53 N) rc) progOk hR fun L x hx => (raw75x1x53 N rc hR L).trans ((tot75x1x53 N rc ..).trans (alt0 _ _ hx))
noncomputable def F75x1x65 (N : Nat) (rc : Rc75x1) (w0 : Int) (w2 : Bool) (w47 w48 w49 w50 w52 w53 : Int) (k0 : Int × Int × Int × Int → R) : R :=
  bif w2 then
    k0 (0, w52, w53, w0)
  else
    k0 (w47, w48, w49, w50)
noncomputable def V75x1x65 (rc : Rc75x1) (w0 : Int) (w2 : Bool) (w47 w48 w49 w50 w52 w53 : Int) : Int × Int × Int × Int := F75x1x65 N rc w0 w2 w47 w48 w49 w50 w52 w53 (fun p => p)
theorem tot75x1x65 (rc : Rc75x1) (w0 : Int) (w2 : Bool) (w47 w48 w49 w50 w52 w53 : Int) (k0 : Int × Int × Int × Int → R) : F75x1x65 N rc w0 w2 w47 w48 w49 w50 w52 w53 k0 = k0 (V75x1x65 N rc w0 w2 w47 w48 w49 w50 w52 w53) := by
  unfold V75x1x65 F75x1x65
  repeat' (first | rfl | apply cond_k | (apply bnd_k; intro _))
noncomputable def J75x1x65 (rc : Rc75x1) (L : List Lf) (k0 : Int × Int × Int × Int → R) : R := F75x1x65 N rc (li L 0) (lb L 2) (li L 47) (li L 48) (li L 49) (li L 50) (li L 52) (li L 53) k0
noncomputable def sh75x1x65 : Sh := { tmps := [(0, .c (.p 0 0)), (3, .c (.p 5 0)), (4, .c (.p 6 0)), (7, .c (.p 9 0)), (8, .c (.i .i64)), (11, .c (.p 13 0)), (13, .c (.i .i64)), (158, .c (.b))], mem := [(0, .box (.i .i64 :: .i .i64 :: [.i .i64, .sl 66, .sl 68, .sl 3, .sl 3, .m 1])), (1, .map 93 96), (5, .box (rI 28 ([]))), (6, .box ([.i .i64, .i .i64, .i .i64, .i .i64])), (9, .box ([.i .i64, .i .i64, .i .i64, .i .i64])), (13, .box ([.i .i64, .i .i64, .i .i64, .i .i64]))] }
noncomputable def K75x1x65w0 (L : List Lf) (p : Int × Int × Int × Int) : Ex × St := (.normal, mg (ofSh sh75x1x65 L) [0, 3, 4, 7, 8, 13] [] [0, 1, 5, 6, 9] [(9, .box [.i .i64 p.1, .i .i64 p.2.1, .i .i64 p.2.2.1, .i .i64 p.2.2.2])])
noncomputable def A75x1x65 (rc : Rc75x1) (L : List Lf) : List (Bool × (Ex × St)) := bnd (J75x1x65 N rc L (fun p => p)) fun q => [(true, K75x1x65w0 L q)]
theorem raw75x1x65 (rc : Rc75x1) (hR : OracleOk Try.prog ((O75x1 N) rc)) (L : List Lf) : pc Try.prog ((O75x1 N) rc) ((h75x1s3 N) rc hR).h 2 100 75 65 sh75x1x65 L [13, 7, 8, 0, 3, 4] [9, 6, 5, 1, 0] = J75x1x65 N rc L (fun p => some (K75x1x65w0 L p)) := by kernel_rfl
noncomputable def h75x1s4 (rc : Rc75x1) (hR : OracleOk Try.prog ((O75x1 N) rc)) : Sg Try.prog 2 75 :=
  ((h75x1s3 N) rc hR).cut ((A75x1x65 N) rc) progOk hR fun L x hx => (raw75x1x65 N rc hR L).trans ((tot75x1x65 N rc ..).trans (alt0 _ _ hx))
noncomputable def S75x1x24 (rc : Rc75x1) (w1 w2 w3 : Int) (w4 : Bool) (w5 : LD) (w6 : Bool) (w7 : LD) (w8 : Bool) (w9 : LD) (w10 : Bool) (w11 : LD) (w13 w14 w15 w16 w17 w18 w19 w20 w21 w22 w23 w24 w25 w26 w27 w28 w29 w30 w31 w32 w33 w34 w35 w36 w37 w38 w39 w40 : Int) (w0 : Int) (w12 : (List (D × D))) (w45 w46 w47 w48 : Int) (kr : Int → (List (D × D)) → Int → Int → Int → Int → Option R) (k0 : Ty11 → Option R) : Option R :=
  bif (decide (w0 < (w5.length : Int))) then
    bnd (G75x1x31 N rc w0 w1 w5 w7 w9 w13 w16) fun y0 =>
    bif y0.isSome then
      bif (y0.getD default) then
        kr (IntKind.wrap .i64 (w0 + 1)) w12 w45 w46 w47 w48
      else
        bnd (G76x0 N w13 w14 w15 w16 w17 w18 w19 w20 w21 w22 w23 w24 w25 w26 w27 w28 w29 w30 w31 w32 w33 w34 w35 w36 w37 w38 w39 w40 w0 w2 w5 w7) fun y1 =>
        bif y1.isSome then
          bnd (y1.getD default).2.2.2.2.2.2.2.2.2.2.2.2.2.2.2.2.2.2.1 fun y2 =>
          bnd (y1.getD default).2.2.2.2.2.2.2.2.2.2.2.2.2.2.2.2.2.2.2.1 fun y3 =>
          bnd (y1.getD default).2.2.2.2.2.2.2.2.2.2.2.2.2.2.2.2.2.2.2.2.1 fun y4 =>
          bnd (y1.getD default).2.2.2.2.2.2.2.2.2.2.2.2.2.2.2.2.2.2.2.2.2.1 fun y5 =>
          bnd (y1.getD default).2.2.2.2.2.2.2.2.2.2.2.2.2.2.2.2.2.2.2.2.2.2.1 fun y6 =>
          bnd (y1.getD default).2.2.2.2.2.2.2.2.2.2.2.2.2.2.2.2.2.2.2.2.2.2.2.1 fun y7 =>
          bnd (y1.getD default).2.2.2.2.2.2.2.2.2.2.2.2.2.2.2.2.2.2.2.2.2.2.2.2.1 fun y8 =>
          bnd (y1.getD default).2.2.2.2.2.2.2.2.2.2.2.2.2.2.2.2.2.2.2.2.2.2.2.2.2.1 fun y9 =>
          bnd (y1.getD default).2.2.2.2.2.2.2.2.2.2.2.2.2.2.2.2.2.2.2.2.2.2.2.2.2.2.1 fun y10 =>
          bnd (y1.getD default).2.2.2.2.2.2.2.2.2.2.2.2.2.2.2.2.2.2.2.2.2.2.2.2.2.2.2.1 fun y11 =>
          bnd (y1.getD default).2.2.2.2.2.2.2.2.2.2.2.2.2.2.2.2.2.2.2.2.2.2.2.2.2.2.2.2 fun y12 =>
          bif (!y12) then
            kr (IntKind.wrap .i64 (w0 + 1)) w12 w45 w46 w47 w48
          else
            bnd (rc (y1.getD default).1 (y1.getD default).2.1 (y1.getD default).2.2.1 (y1.getD default).2.2.2.1 (y1.getD default).2.2.2.2.1 (y1.getD default).2.2.2.2.2.1 (y1.getD default).2.2.2.2.2.2.1 (y1.getD default).2.2.2.2.2.2.2.1 (y1.getD default).2.2.2.2.2.2.2.2.1 (y1.getD default).2.2.2.2.2.2.2.2.2.1 (y1.getD default).2.2.2.2.2.2.2.2.2.2.1 (y1.getD default).2.2.2.2.2.2.2.2.2.2.2.1 (y1.getD default).2.2.2.2.2.2.2.2.2.2.2.2.1 (y1.getD default).2.2.2.2.2.2.2.2.2.2.2.2.2.1 (y1.getD default).2.2.2.2.2.2.2.2.2.2.2.2.2.2.1 (y1.getD default).2.2.2.2.2.2.2.2.2.2.2.2.2.2.2.1 (y1.getD default).2.2.2.2.2.2.2.2.2.2.2.2.2.2.2.2.1 (y1.getD default).2.2.2.2.2.2.2.2.2.2.2.2.2.2.2.2.2.1 y2 y3 y4 y5 y6 y7 y8 y9 y10 y11 w1 w2 w3 w4 w5 w6 w7 w8 w9 w10 w11 w12) fun y13 =>
            bif y13.isSome then
              bif ((y13.getD default).1 == 0) then
                kr (IntKind.wrap .i64 (w0 + 1)) (y13.getD default).2.2.2.2 w45 w46 w47 w48
              else
                bnd (G63x0 N w5 w0) fun y14 =>
                bif y14.isSome then
                  bnd (IntKind.wrap .i64 ((y13.getD default).2.2.1 + (y14.getD default).2.2.2.1)) fun y15 =>
                  bnd (G75x1x49 N rc w0 w9 w10 w11 w13) fun y16 =>
                  bif y16.isSome then
                    bnd (V75x1x53 N rc (y16.getD default) (y13.getD default).2.1) fun y17 =>
                    bnd (bif (bif (w45 == 0) then true else (decide (y17 < w46))) then true else (bif (y17 == w46) then (decide (y15 > w47)) else false)) fun y18 =>
                    bnd (V75x1x65 N rc w0 y18 w45 w46 w47 w48 y17 y15) fun y19 =>
                    kr (IntKind.wrap .i64 (w0 + 1)) (y13.getD default).2.2.2.2 (IntKind.wrap .i64 (w45 + (y13.getD default).1)) y19.2.1 y19.2.2.1 y19.2.2.2
                  else
                    none
                else
                  none
            else
              none
        else
          none
    else
      none
  else
    k0 (w12, w45, w46, w47, w48)
noncomputable def L75x1x24 (N : Nat) (rc : Rc75x1) {R : Type} (w1 w2 w3 : Int) (w4 : Bool) (w5 : LD) (w6 : Bool) (w7 : LD) (w8 : Bool) (w9 : LD) (w10 : Bool) (w11 : LD) (w13 w14 w15 w16 w17 w18 w19 w20 w21 w22 w23 w24 w25 w26 w27 w28 w29 w30 w31 w32 w33 w34 w35 w36 w37 w38 w39 w40 : Int) : Nat → Int → (List (D × D)) → Int → Int → Int → Int → (Ty11 → Option R) → Option R
  | 0, _, _, _, _, _, _, _ => none
  | m + 1, w0, w12, w45, w46, w47, w48, k0 => S75x1x24 N rc w1 w2 w3 w4 w5 w6 w7 w8 w9 w10 w11 w13 w14 w15 w16 w17 w18 w19 w20 w21 w22 w23 w24 w25 w26 w27 w28 w29 w30 w31 w32 w33 w34 w35 w36 w37 w38 w39 w40 w0 w12 w45 w46 w47 w48 (fun w0 w12 w45 w46 w47 w48 => L75x1x24 N rc w1 w2 w3 w4 w5 w6 w7 w8 w9 w10 w11 w13 w14 w15 w16 w17 w18 w19 w20 w21 w22 w23 w24 w25 w26 w27 w28 w29 w30 w31 w32 w33 w34 w35 w36 w37 w38 w39 w40 m w0 w12 w45 w46 w47 w48 k0) k0
noncomputable def G75x1x24 (rc : Rc75x1) (w1 w2 w3 : Int) (w4 : Bool) (w5 : LD) (w6 : Bool) (w7 : LD) (w8 : Bool) (w9 : LD) (w10 : Bool) (w11 : LD) (w13 w14 w15 w16 w17 w18 w19 w20 w21 w22 w23 w24 w25 w26 w27 w28 w29 w30 w31 w32 w33 w34 w35 w36 w37 w38 w39 w40 : Int) (w0 : Int) (w12 : (List (D × D))) (w45 w46 w47 w48 : Int) : Option (Ty11) := L75x1x24 N rc (R := (Ty11)) w1 w2 w3 w4 w5 w6 w7 w8 w9 w10 w11 w13 w14 w15 w16 w17 w18 w19 w20 w21 w22 w23 w24 w25 w26 w27 w28 w29 w30 w31 w32 w33 w34 w35 w36 w37 w38 w39 w40 N w0 w12 w45 w46 w47 w48 (fun p => some p)
noncomputable def J75x1x24 (rc : Rc75x1) (L x : List Lf) (kr : List Lf → Option R) (k0 : Ty11 → Option R) : Option R := S75x1x24 N rc (li L 1) (li L 2) (li L 3) (lb L 4) (ll L 5) (lb L 6) (ll L 7) (lb L 8) (ll L 9) (lb L 10) (ll L 11) (li L 13) (li L 14) (li L 15) (li L 16) (li L 17) (li L 18) (li L 19) (li L 20) (li L 21) (li L 22) (li L 23) (li L 24) (li L 25) (li L 26) (li L 27) (li L 28) (li L 29) (li L 30) (li L 31) (li L 32) (li L 33) (li L 34) (li L 35) (li L 36) (li L 37) (li L 38) (li L 39) (li L 40) (li x 0) (lm x 1) (li x 2) (li x 3) (li x 4) (li x 5) (fun w0 w12 w45 w46 w47 w48 => kr [.i w0, .m w12, .i w45, .i w46, .i w47, .i w48]) k0
theorem sb75x1x24 (rc : Rc75x1) (L x : List Lf) (kr : List Lf → Option R) (k0 : Ty11 → Option R) : J75x1x24 N rc L x kr k0 = (J75x1x24 N rc L x (fun y => some (.inl y)) (fun p => some (.inr p))).bind (sumE kr k0) := by
  unfold J75x1x24 S75x1x24
  repeat' (first | rfl | apply cond_b | (apply bnd_b; intro _))
noncomputable def Q75x1x24 (rc : Rc75x1) (L : List Lf) (m : Nat) (x : List Lf) : Option (Ty11) := L75x1x24 N rc (R := (Ty11)) (li L 1) (li L 2) (li L 3) (lb L 4) (ll L 5) (lb L 6) (ll L 7) (lb L 8) (ll L 9) (lb L 10) (ll L 11) (li L 13) (li L 14) (li L 15) (li L 16) (li L 17) (li L 18) (li L 19) (li L 20) (li L 21) (li L 22) (li L 23) (li L 24) (li L 25) (li L 26) (li L 27) (li L 28) (li L 29) (li L 30) (li L 31) (li L 32) (li L 33) (li L 34) (li L 35) (li L 36) (li L 37) (li L 38) (li L 39) (li L 40) m (li x 0) (lm x 1) (li x 2) (li x 3) (li x 4) (li x 5) (fun p => some p)
noncomputable def sh75x1x24 : Sh := { tmps := [(0, .c (.p 0 0)), (3, .c (.p 5 0)), (4, .c (.p 6 0)), (7, .c (.p 9 0)), (8, .c (.i .i64))], mem := [(0, .box (.i .i64 :: .i .i64 :: [.i .i64, .sl 66, .sl 68, .sl 3, .sl 3, .m 1])), (1, .map 93 96), (5, .box (rI 28 ([]))), (6, .box ([.i .i64, .i .i64, .i .i64, .i .i64])), (9, .box ([.i .i64, .i .i64, .i .i64, .i .i64]))] }
noncomputable def K75x1x24w0 (L : List Lf) (p : Ty11) : Ex × St := ((.exit 0), mg (ofSh sh75x1x24 L) [0, 3, 4, 7] [] [0, 1, 5, 6, 9] [(1, .map 93 96 p.1), (9, .box [.i .i64 p.2.1, .i .i64 p.2.2.1, .i .i64 p.2.2.2.1, .i .i64 p.2.2.2.2])])
noncomputable def A75x1x24 (rc : Rc75x1) (L : List Lf) : List (Bool × (Ex × St)) := bnd (Q75x1x24 N rc L N (pk sh75x1x24 [0, 12, 45, 46, 47, 48] L)) fun q => [(q.isSome, K75x1x24w0 L (q.getD default))]
theorem step75x1x24 (rc : Rc75x1) (hR : OracleOk Try.prog ((O75x1 N) rc)) (m : Nat) (kn : St → Option (Ex × St)) (L x : List Lf) : lpB Try.prog ((O75x1 N) rc) ((h75x1s4 N) rc hR).h 2 75 24 sh75x1x24 [0, 12, 45, 46, 47, 48] [4, 0, 3, 7] [9, 6, 5, 1, 0] (m + 100) kn L x = J75x1x24 N rc L x (fun y => kn (ofSh sh75x1x24 (mx sh75x1x24 [0, 12, 45, 46, 47, 48] L y))) (fun p => some (K75x1x24w0 L p)) := by kernel_rfl
noncomputable def h75x1s5 (rc : Rc75x1) (hR : OracleOk Try.prog ((O75x1 N) rc)) : Sg Try.prog 2 75 :=
  ((h75x1s4 N) rc hR).lp ((A75x1x24 N) rc) N progOk hR (fun m kn L x => (step75x1x24 N rc hR m kn L x).trans (sb75x1x24 N rc L x _ _)) (fun L m x => sb75x1x24 N rc L x (Q75x1x24 N rc L m) some) fun L x hx => alt1 x hx
noncomputable def F75x1 (rc : Rc75x1) (v0 v1 v2 v3 v4 v5 v6 v7 v8 v9 v10 v11 v12 v13 v14 v15 v16 v17 v18 v19 v20 v21 v22 v23 v24 v25 v26 v27 v28 v29 v30 : Int) (v31 : Bool) (v32 : LD) (v33 : Bool) (v34 : LD) (v35 : Bool) (v36 : LD) (v37 : Bool) (v38 : LD) (v39 : (List (D × D))) (k0 : Ty10 → Option R) : Option R :=
  bif (v0 == v29) then
    k0 (1, 0, 0, (-2), v39)
  else
    bnd (((findB Try.prog 93 (.a [(.i v0), (.i v1), (.i v2), (.i v3), (.i v4), (.i v5), (.i v6), (.i v7), (.i v8), (.i v9), (.i v10), (.i v11), (.i v12), (.i v13), (.i v14), (.i v15), (.i v16), (.i v17), (.i v18), (.i v19), (.i v20), (.i v21), (.i v22), (.i v23), (.i v24), (.i v25), (.i v26), (.i v27)]) v39).getD (.a [(.i 0), (.i 0), (.i 0), (.i 0)])).cell 0).toI fun y0 =>
    bnd (((findB Try.prog 93 (.a [(.i v0), (.i v1), (.i v2), (.i v3), (.i v4), (.i v5), (.i v6), (.i v7), (.i v8), (.i v9), (.i v10), (.i v11), (.i v12), (.i v13), (.i v14), (.i v15), (.i v16), (.i v17), (.i v18), (.i v19), (.i v20), (.i v21), (.i v22), (.i v23), (.i v24), (.i v25), (.i v26), (.i v27)]) v39).getD (.a [(.i 0), (.i 0), (.i 0), (.i 0)])).cell 1).toI fun y1 =>
    bnd (((findB Try.prog 93 (.a [(.i v0), (.i v1), (.i v2), (.i v3), (.i v4), (.i v5), (.i v6), (.i v7), (.i v8), (.i v9), (.i v10), (.i v11), (.i v12), (.i v13), (.i v14), (.i v15), (.i v16), (.i v17), (.i v18), (.i v19), (.i v20), (.i v21), (.i v22), (.i v23), (.i v24), (.i v25), (.i v26), (.i v27)]) v39).getD (.a [(.i 0), (.i 0), (.i 0), (.i 0)])).cell 2).toI fun y2 =>
    bnd (((findB Try.prog 93 (.a [(.i v0), (.i v1), (.i v2), (.i v3), (.i v4), (.i v5), (.i v6), (.i v7), (.i v8), (.i v9), (.i v10), (.i v11), (.i v12), (.i v13), (.i v14), (.i v15), (.i v16), (.i v17), (.i v18), (.i v19), (.i v20), (.i v21), (.i v22), (.i v23), (.i v24), (.i v25), (.i v26), (.i v27)]) v39).getD (.a [(.i 0), (.i 0), (.i 0), (.i 0)])).cell 3).toI fun y3 =>
    bnd (findB Try.prog 93 (.a [(.i v0), (.i v1), (.i v2), (.i v3), (.i v4), (.i v5), (.i v6), (.i v7), (.i v8), (.i v9), (.i v10), (.i v11), (.i v12), (.i v13), (.i v14), (.i v15), (.i v16), (.i v17), (.i v18), (.i v19), (.i v20), (.i v21), (.i v22), (.i v23), (.i v24), (.i v25), (.i v26), (.i v27)]) v39).isSome fun y4 =>
    bif y4 then
      k0 (y0, y1, y2, y3, v39)
    else
      bnd (G75x1x24 N rc v28 v29 v30 v31 v32 v33 v34 v35 v36 v37 v38 v0 v1 v2 v3 v4 v5 v6 v7 v8 v9 v10 v11 v12 v13 v14 v15 v16 v17 v18 v19 v20 v21 v22 v23 v24 v25 v26 v27 (-1) v39 0 0 0 (-2)) fun y5 =>
      bif y5.isSome then
        bnd (putB Try.prog 93 (.a [(.i v0), (.i v1), (.i v2), (.i v3), (.i v4), (.i v5), (.i v6), (.i v7), (.i v8), (.i v9), (.i v10), (.i v11), (.i v12), (.i v13), (.i v14), (.i v15), (.i v16), (.i v17), (.i v18), (.i v19), (.i v20), (.i v21), (.i v22), (.i v23), (.i v24), (.i v25), (.i v26), (.i v27)]) (.a [(.i (y5.getD default).2.1), (.i (y5.getD default).2.2.1), (.i (y5.getD default).2.2.2.1), (.i (y5.getD default).2.2.2.2)]) (y5.getD default).1) fun y6 =>
        k0 ((y5.getD default).2.1, (y5.getD default).2.2.1, (y5.getD default).2.2.2.1, (y5.getD default).2.2.2.2, y6)
      else
        none
noncomputable def G75x1 (rc : Rc75x1) (v0 v1 v2 v3 v4 v5 v6 v7 v8 v9 v10 v11 v12 v13 v14 v15 v16 v17 v18 v19 v20 v21 v22 v23 v24 v25 v26 v27 v28 v29 v30 : Int) (v31 : Bool) (v32 : LD) (v33 : Bool) (v34 : LD) (v35 : Bool) (v36 : LD) (v37 : Bool) (v38 : LD) (v39 : (List (D × D))) : Option (Ty10) := F75x1 N rc v0 v1 v2 v3 v4 v5 v6 v7 v8 v9 v10 v11 v12 v13 v14 v15 v16 v17 v18 v19 v20 v21 v22 v23 v24 v25 v26 v27 v28 v29 v30 v31 v32 v33 v34 v35 v36 v37 v38 v39 (fun p => some p)
theorem bind75x1 (rc : Rc75x1) (v0 v1 v2 v3 v4 v5 v6 v7 v8 v9 v10 v11 v12 v13 v14 v15 v16 v17 v18 v19 v20 v21 v22 v23 v24 v25 v26 v27 v28 v29 v30 : Int) (v31 : Bool) (v32 : LD) (v33 : Bool) (v34 : LD) (v35 : Bool) (v36 : LD) (v37 : Bool) (v38 : LD) (v39 : (List (D × D))) (k0 : Ty10 → Option R) : F75x1 N rc v0 v1 v2 v3 v4 v5 v6 v7 v8 v9 v10 v11 v12 v13 v14 v15 v16 v17 v18 v19 v20 v21 v22 v23 v24 v25 v26 v27 v28 v29 v30 v31 v32 v33 v34 v35 v36 v37 v38 v39 k0 = (G75x1 N rc v0 v1 v2 v3 v4 v5 v6 v7 v8 v9 v10 v11 v12 v13 v14 v15 v16 v17 v18 v19 v20 v21 v22 v23 v24 v25 v26 v27 v28 v29 v30 v31 v32 v33 v34 v35 v36 v37 v38 v39).bind k0 := by
  unfold G75x1 F75x1
  repeat' (first | rfl | apply cond_b | (apply bnd_b; intro _))
noncomputable def J75x1 (rc : Rc75x1) (L : List Lf) (k0 : Ty10 → Option R) : Option R := F75x1 N rc (li L 0) (li L 1) (li L 2) (li L 3) (li L 4) (li L 5) (li L 6) (li L 7) (li L 8) (li L 9) (li L 10) (li L 11) (li L 12) (li L 13) (li L 14) (li L 15) (li L 16) (li L 17) (li L 18) (li L 19) (li L 20) (li L 21) (li L 22) (li L 23) (li L 24) (li L 25) (li L 26) (li L 27) (li L 28) (li L 29) (li L 30) (lb L 31) (ll L 32) (lb L 33) (ll L 34) (lb L 35) (ll L 36) (lb L 37) (ll L 38) (lm L 39) k0
noncomputable def K75x1w0 (L : List Lf) (p : Ty10) : Res := ([.g [.i .i64 p.1, .i .i64 p.2.1, .i .i64 p.2.2.1, .i .i64 p.2.2.2.1]], mgA (ofSh sh75x1 L).mem [(1, .map 93 96 p.2.2.2.2)] [0, 1])
theorem raw75x1 (rc : Rc75x1) (hR : OracleOk Try.prog ((O75x1 N) rc)) (L : List Lf) : bd Try.prog ((O75x1 N) rc) ((h75x1s5 N) rc hR).h 75 sh75x1 L = J75x1 N rc L (fun p => some (K75x1w0 L p)) := by kernel_rfl
theorem fin75x1 (rc : Rc75x1) (hR : OracleOk Try.prog ((O75x1 N) rc)) (L : List Lf) (x : Res) (hx : altK ((B75x1 N) (fun v0 v1 v2 v3 v4 v5 v6 v7 v8 v9 v10 v11 v12 v13 v14 v15 v16 v17 v18 v19 v20 v21 v22 v23 v24 v25 v26 v27 v28 v29 v30 v31 v32 v33 v34 v35 v36 v37 v38 v39 => G75x1 N rc v0 v1 v2 v3 v4 v5 v6 v7 v8 v9 v10 v11 v12 v13 v14 v15 v16 v17 v18 v19 v20 v21 v22 v23 v24 v25 v26 v27 v28 v29 v30 v31 v32 v33 v34 v35 v36 v37 v38 v39) L) some = some x) : CallOk Try.prog 75 (valsOf (ofSh sh75x1 L).tmps) (ofSh sh75x1 L).mem x :=
  callOk_of (n := 200) progOk hR ((h75x1s5 N) rc hR).ok rfl ((raw75x1 N rc hR L).trans ((bind75x1 N rc ..).trans (alt1 x hx)))
noncomputable def R75x1 (N : Nat) : Nat → Rc75x1
  | 0 => fun _ _ _ _ _ _ _ _ _ _ _ _ _ _ _ _ _ _ _ _ _ _ _ _ _ _ _ _ _ _ _ _ _ _ _ _ _ _ _ _ => none
  | m + 1 => fun v0 v1 v2 v3 v4 v5 v6 v7 v8 v9 v10 v11 v12 v13 v14 v15 v16 v17 v18 v19 v20 v21 v22 v23 v24 v25 v26 v27 v28 v29 v30 v31 v32 v33 v34 v35 v36 v37 v38 v39 => G75x1 N (R75x1 N m) v0 v1 v2 v3 v4 v5 v6 v7 v8 v9 v10 v11 v12 v13 v14 v15 v16 v17 v18 v19 v20 v21 v22 v23 v24 v25 v26 v27 v28 v29 v30 v31 v32 v33 v34 v35 v36 v37 v38 v39
theorem Rok75x1 (N : Nat) : ∀ m, OracleOk Try.prog ((O75x1 N) (R75x1 N m))
  | 0 => ext_ok (T76x0_ok N) (enters_of (by kernel_rfl)) (spSh_law fun L x hx => by
    have h : (none : Option Res) = some x := hx
    cases h)
  | m + 1 => ext_ok (T76x0_ok N) (enters_of (by kernel_rfl)) (spSh_law fun L x hx => fin75x1 N (R75x1 N m) (Rok75x1 N m) L x hx)
noncomputable def T75x1 : Oracle := (O75x1 N) (R75x1 N N)
theorem T75x1_ok : OracleOk Try.prog (T75x1 N) := Rok75x1 N N
noncomputable def rg45x0 : List (Nat × List Nat) := [(0, [0, 1, 2]), (1, [3, 1, 2]), (2, [3, 8]), (3, [3, 9, 8]), (4, [3, 9, 8]), (5, [8, 9, 3]), (6, [10, 9, 3, 8]), (7, []), (8, [9, 3, 8, 10]), (9, [9, 3, 8, 11, 10]), (10, [8, 9, 11, 3, 10]), (11, [11, 12, 8, 9, 3, 10]), (12, [8, 9, 12, 3, 11, 10]), (13, [10, 11])]
noncomputable def hd45x0 : Hints := [(14, [3, 9, 8, 22], [9, 16, 18, 3], []), (27, [9, 3, 8, 11, 10], [9, 16, 18, 3, 11], [11])]
noncomputable def h45x0s0 (N : Nat) : Sg Try.prog 0 45 := .start hd45x0 rg45x0
noncomputable def F45x0x14 (N : Nat) (w0 : Bool) (w3 w10 : Int) (k0 : Int → R) : R :=
  bif w0 then
    k0 w3
  else
    k0 w10
noncomputable def V45x0x14 (w0 : Bool) (w3 w10 : Int) : Int := F45x0x14 N w0 w3 w10 (fun p => p)
theorem tot45x0x14 (w0 : Bool) (w3 w10 : Int) (k0 : Int → R) : F45x0x14 N w0 w3 w10 k0 = k0 (V45x0x14 N w0 w3 w10) := by
  unfold V45x0x14 F45x0x14
  repeat' (first | rfl | apply cond_k | (apply bnd_k; intro _))
noncomputable def sh45x0x14 : Sh := { tmps := [(3, .c (.p 3 0)), (8, .c (.p 18 0)), (9, .c (.p 9 0)), (22, .c (.b))], mem := [(3, .box ([.i .i64, .i .i64, .i .i64, .sl 66, .sl 68])), (9, .box (rI 28 ([]))), (16, .map 93 96), (18, .box (.i .i64 :: .i .i64 :: [.i .i64, .sl 66, .sl 68, .sl 3, .sl 3, .m 16]))] }
noncomputable def K45x0x14w0 (L : List Lf) (p : Int) : Ex × St := (.normal, mg (ofSh sh45x0x14 L) [3, 8, 9] [] [3, 9, 16, 18] [(9, .box (.i .i64 (li L 8) :: .i .i64 (li L 9) :: .i .i64 p :: rL L 11 25 ([])))])
noncomputable def A45x0x14 (L : List Lf) : List (Bool × (Ex × St)) := bnd (F45x0x14 N (lb L 0) (li L 3) (li L 10) (fun p => p)) fun q => [(true, K45x0x14w0 L q)]
theorem raw45x0x14 (L : List Lf) : pc Try.prog (T75x1 N) (h45x0s0 N).h 0 100 45 14 sh45x0x14 L [8, 9, 3] [9, 16, 18, 3] = F45x0x14 N (lb L 0) (li L 3) (li L 10) (fun p => some (K45x0x14w0 L p)) := by kernel_rfl
noncomputable def h45x0s1 : Sg Try.prog 0 45 :=
  (h45x0s0 N).cut (A45x0x14 N) progOk (T75x1_ok N) fun L x hx => (raw45x0x14 N L).trans ((tot45x0x14 N ..).trans (alt0 _ _ hx))
noncomputable def S45x0x27 (w2 w39 w40 w41 : Int) (w42 : Bool) (w43 : LD) (w44 : Bool) (w45 : LD) (w46 : Bool) (w47 : LD) (w48 : Bool) (w49 : LD) (w8 w9 w10 w11 w12 w13 w14 w15 w16 w17 w18 w19 w20 w21 w22 w23 w24 w25 w26 w27 w28 w29 w30 w31 w32 w33 w34 w35 : Int) (w36 : Bool) (w37 : LD) (w38 : (List (D × D))) (kr : Int → Int → Int → Int → Int → Int → Int → Int → Int → Int → Int → Int → Int → Int → Int → Int → Int → Int → Int → Int → Int → Int → Int → Int → Int → Int → Int → Int → Bool → LD → (List (D × D)) → Option R) (k0 : Bool × LD → Option R) : Option R :=
  bif (decide (w8 < w2)) then
    bnd (R75x1 N N w8 w9 w10 w11 w12 w13 w14 w15 w16 w17 w18 w19 w20 w21 w22 w23 w24 w25 w26 w27 w28 w29 w30 w31 w32 w33 w34 w35 w39 w40 w41 w42 w43 w44 w45 w46 w47 w48 w49 w38) fun y0 =>
    bif y0.isSome then
      bif (decide ((w37.length + 1) * 8 ≤ room) && decide ((w37.length + 1) ≤ strMax)) then
        bnd (G76x0 N w8 w9 w10 w11 w12 w13 w14 w15 w16 w17 w18 w19 w20 w21 w22 w23 w24 w25 w26 w27 w28 w29 w30 w31 w32 w33 w34 w35 (y0.getD default).2.2.2.1 w40 w43 w45) fun y1 =>
        bif y1.isSome then
          bnd (y1.getD default).2.2.2.2.2.2.2.2.2.2.2.2.2.2.2.2.2.2.1 fun y2 =>
          bnd (y1.getD default).2.2.2.2.2.2.2.2.2.2.2.2.2.2.2.2.2.2.2.1 fun y3 =>
          bnd (y1.getD default).2.2.2.2.2.2.2.2.2.2.2.2.2.2.2.2.2.2.2.2.1 fun y4 =>
          bnd (y1.getD default).2.2.2.2.2.2.2.2.2.2.2.2.2.2.2.2.2.2.2.2.2.1 fun y5 =>
          bnd (y1.getD default).2.2.2.2.2.2.2.2.2.2.2.2.2.2.2.2.2.2.2.2.2.2.1 fun y6 =>
          bnd (y1.getD default).2.2.2.2.2.2.2.2.2.2.2.2.2.2.2.2.2.2.2.2.2.2.2.1 fun y7 =>
          bnd (y1.getD default).2.2.2.2.2.2.2.2.2.2.2.2.2.2.2.2.2.2.2.2.2.2.2.2.1 fun y8 =>
          bnd (y1.getD default).2.2.2.2.2.2.2.2.2.2.2.2.2.2.2.2.2.2.2.2.2.2.2.2.2.1 fun y9 =>
          bnd (y1.getD default).2.2.2.2.2.2.2.2.2.2.2.2.2.2.2.2.2.2.2.2.2.2.2.2.2.2.1 fun y10 =>
          bnd (y1.getD default).2.2.2.2.2.2.2.2.2.2.2.2.2.2.2.2.2.2.2.2.2.2.2.2.2.2.2.1 fun y11 =>
          bnd (y1.getD default).2.2.2.2.2.2.2.2.2.2.2.2.2.2.2.2.2.2.2.2.2.2.2.2.2.2.2.2 fun y12 =>
          kr (y1.getD default).1 (y1.getD default).2.1 (y1.getD default).2.2.1 (y1.getD default).2.2.2.1 (y1.getD default).2.2.2.2.1 (y1.getD default).2.2.2.2.2.1 (y1.getD default).2.2.2.2.2.2.1 (y1.getD default).2.2.2.2.2.2.2.1 (y1.getD default).2.2.2.2.2.2.2.2.1 (y1.getD default).2.2.2.2.2.2.2.2.2.1 (y1.getD default).2.2.2.2.2.2.2.2.2.2.1 (y1.getD default).2.2.2.2.2.2.2.2.2.2.2.1 (y1.getD default).2.2.2.2.2.2.2.2.2.2.2.2.1 (y1.getD default).2.2.2.2.2.2.2.2.2.2.2.2.2.1 (y1.getD default).2.2.2.2.2.2.2.2.2.2.2.2.2.2.1 (y1.getD default).2.2.2.2.2.2.2.2.2.2.2.2.2.2.2.1 (y1.getD default).2.2.2.2.2.2.2.2.2.2.2.2.2.2.2.2.1 (y1.getD default).2.2.2.2.2.2.2.2.2.2.2.2.2.2.2.2.2.1 y2 y3 y4 y5 y6 y7 y8 y9 y10 y11 false (w37 ++ [(.i (y0.getD default).2.2.2.1)]) (y0.getD default).2.2.2.2
        else
          none
      else
        none
    else
      none
  else
    k0 (w36, w37)
noncomputable def L45x0x27 (N : Nat) {R : Type} (w2 w39 w40 w41 : Int) (w42 : Bool) (w43 : LD) (w44 : Bool) (w45 : LD) (w46 : Bool) (w47 : LD) (w48 : Bool) (w49 : LD) : Nat → Int → Int → Int → Int → Int → Int → Int → Int → Int → Int → Int → Int → Int → Int → Int → Int → Int → Int → Int → Int → Int → Int → Int → Int → Int → Int → Int → Int → Bool → LD → (List (D × D)) → (Bool × LD → Option R) → Option R
  | 0, _, _, _, _, _, _, _, _, _, _, _, _, _, _, _, _, _, _, _, _, _, _, _, _, _, _, _, _, _, _, _, _ => none
  | m + 1, w8, w9, w10, w11, w12, w13, w14, w15, w16, w17, w18, w19, w20, w21, w22, w23, w24, w25, w26, w27, w28, w29, w30, w31, w32, w33, w34, w35, w36, w37, w38, k0 => S45x0x27 N w2 w39 w40 w41 w42 w43 w44 w45 w46 w47 w48 w49 w8 w9 w10 w11 w12 w13 w14 w15 w16 w17 w18 w19 w20 w21 w22 w23 w24 w25 w26 w27 w28 w29 w30 w31 w32 w33 w34 w35 w36 w37 w38 (fun w8 w9 w10 w11 w12 w13 w14 w15 w16 w17 w18 w19 w20 w21 w22 w23 w24 w25 w26 w27 w28 w29 w30 w31 w32 w33 w34 w35 w36 w37 w38 => L45x0x27 N w2 w39 w40 w41 w42 w43 w44 w45 w46 w47 w48 w49 m w8 w9 w10 w11 w12 w13 w14 w15 w16 w17 w18 w19 w20 w21 w22 w23 w24 w25 w26 w27 w28 w29 w30 w31 w32 w33 w34 w35 w36 w37 w38 k0) k0
noncomputable def G45x0x27 (w2 w39 w40 w41 : Int) (w42 : Bool) (w43 : LD) (w44 : Bool) (w45 : LD) (w46 : Bool) (w47 : LD) (w48 : Bool) (w49 : LD) (w8 w9 w10 w11 w12 w13 w14 w15 w16 w17 w18 w19 w20 w21 w22 w23 w24 w25 w26 w27 w28 w29 w30 w31 w32 w33 w34 w35 : Int) (w36 : Bool) (w37 : LD) (w38 : (List (D × D))) : Option (Bool × LD) := L45x0x27 N (R := (Bool × LD)) w2 w39 w40 w41 w42 w43 w44 w45 w46 w47 w48 w49 N w8 w9 w10 w11 w12 w13 w14 w15 w16 w17 w18 w19 w20 w21 w22 w23 w24 w25 w26 w27 w28 w29 w30 w31 w32 w33 w34 w35 w36 w37 w38 (fun p => some p)
noncomputable def J45x0x27 (L x : List Lf) (kr : List Lf → Option R) (k0 : Bool × LD → Option R) : Option R := S45x0x27 N (li L 2) (li L 39) (li L 40) (li L 41) (lb L 42) (ll L 43) (lb L 44) (ll L 45) (lb L 46) (ll L 47) (lb L 48) (ll L 49) (li x 0) (li x 1) (li x 2) (li x 3) (li x 4) (li x 5) (li x 6) (li x 7) (li x 8) (li x 9) (li x 10) (li x 11) (li x 12) (li x 13) (li x 14) (li x 15) (li x 16) (li x 17) (li x 18) (li x 19) (li x 20) (li x 21) (li x 22) (li x 23) (li x 24) (li x 25) (li x 26) (li x 27) (lb x 28) (ll x 29) (lm x 30) (fun w8 w9 w10 w11 w12 w13 w14 w15 w16 w17 w18 w19 w20 w21 w22 w23 w24 w25 w26 w27 w28 w29 w30 w31 w32 w33 w34 w35 w36 w37 w38 => kr [.i w8, .i w9, .i w10, .i w11, .i w12, .i w13, .i w14, .i w15, .i w16, .i w17, .i w18, .i w19, .i w20, .i w21, .i w22, .i w23, .i w24, .i w25, .i w26, .i w27, .i w28, .i w29, .i w30, .i w31, .i w32, .i w33, .i w34, .i w35, .b w36, .l w37, .m w38]) k0
theorem sb45x0x27 (L x : List Lf) (kr : List Lf → Option R) (k0 : Bool × LD → Option R) : J45x0x27 N L x kr k0 = (J45x0x27 N L x (fun y => some (.inl y)) (fun p => some (.inr p))).bind (sumE kr k0) := by
  unfold J45x0x27 S45x0x27
  repeat' (first | rfl | apply cond_b | (apply bnd_b; intro _))
noncomputable def Q45x0x27 (L : List Lf) (m : Nat) (x : List Lf) : Option (Bool × LD) := L45x0x27 N (R := (Bool × LD)) (li L 2) (li L 39) (li L 40) (li L 41) (lb L 42) (ll L 43) (lb L 44) (ll L 45) (lb L 46) (ll L 47) (lb L 48) (ll L 49) m (li x 0) (li x 1) (li x 2) (li x 3) (li x 4) (li x 5) (li x 6) (li x 7) (li x 8) (li x 9) (li x 10) (li x 11) (li x 12) (li x 13) (li x 14) (li x 15) (li x 16) (li x 17) (li x 18) (li x 19) (li x 20) (li x 21) (li x 22) (li x 23) (li x 24) (li x 25) (li x 26) (li x 27) (lb x 28) (ll x 29) (lm x 30) (fun p => some p)
noncomputable def sh45x0x27 : Sh := { tmps := [(3, .c (.p 3 0)), (8, .c (.p 18 0)), (9, .c (.p 9 0)), (10, .c (.i .i64)), (11, .c (.o 11))], mem := [(3, .box ([.i .i64, .i .i64, .i .i64, .sl 66, .sl 68])), (9, .box (rI 28 ([]))), (11, .row 3 true), (16, .map 93 96), (18, .box (.i .i64 :: .i .i64 :: [.i .i64, .sl 66, .sl 68, .sl 3, .sl 3, .m 16]))] }
noncomputable def K45x0x27w0 (L : List Lf) (p : Bool × LD) : Ex × St := ((.exit 0), mg (ofSh sh45x0x27 L) [10, 11] [] [11] [(11, .row 3 true p.1 p.2)])
noncomputable def A45x0x27 (L : List Lf) : List (Bool × (Ex × St)) := bnd (Q45x0x27 N L N (pk sh45x0x27 [8, 9, 10, 11, 12, 13, 14, 15, 16, 17, 18, 19, 20, 21, 22, 23, 24, 25, 26, 27, 28, 29, 30, 31, 32, 33, 34, 35, 36, 37, 38] L)) fun q => [(q.isSome, K45x0x27w0 L (q.getD default))]
theorem step45x0x27 (m : Nat) (kn : St → Option (Ex × St)) (L x : List Lf) : lpB Try.prog (T75x1 N) (h45x0s1 N).h 0 45 27 sh45x0x27 [8, 9, 10, 11, 12, 13, 14, 15, 16, 17, 18, 19, 20, 21, 22, 23, 24, 25, 26, 27, 28, 29, 30, 31, 32, 33, 34, 35, 36, 37, 38] [6, 7, 10, 11] [11] (m + 100) kn L x = J45x0x27 N L x (fun y => kn (ofSh sh45x0x27 (mx sh45x0x27 [8, 9, 10, 11, 12, 13, 14, 15, 16, 17, 18, 19, 20, 21, 22, 23, 24, 25, 26, 27, 28, 29, 30, 31, 32, 33, 34, 35, 36, 37, 38] L y))) (fun p => some (K45x0x27w0 L p)) := by kernel_rfl
noncomputable def h45x0s2 : Sg Try.prog 0 45 :=
  (h45x0s1 N).lp (A45x0x27 N) N progOk (T75x1_ok N) (fun m kn L x => (step45x0x27 N m kn L x).trans (sb45x0x27 N L x _ _)) (fun L m x => sb45x0x27 N L x (Q45x0x27 N L m) some) fun L x hx => alt1 x hx
noncomputable def F45x0 (v0 v1 v2 : Int) (v3 : Bool) (v4 : LD) (v5 : Bool) (v6 : LD) (v7 : Bool) (v8 : LD) (v9 : Bool) (v10 : LD) (k0 : Int × Bool × LD → Option R) : Option R :=
  bnd (G74x0 N v6 [(.i 7)]) fun y0 =>
  bif y0.isSome then
    bnd (V45x0x14 N (y0.getD default) v2 0) fun y1 =>
    bnd (R75x1 N N 0 0 y1 0 0 0 0 0 0 0 0 0 0 0 0 0 0 0 0 0 0 0 0 0 0 0 0 0 v0 v1 v2 v3 v4 v5 v6 v7 v8 v9 v10 []) fun y2 =>
    bif y2.isSome then
      bif ((y2.getD default).1 == 0) then
        k0 (0, true, [])
      else
        bnd (G45x0x27 N v1 v0 v1 v2 v3 v4 v5 v6 v7 v8 v9 v10 0 0 y1 0 0 0 0 0 0 0 0 0 0 0 0 0 0 0 0 0 0 0 0 0 0 0 0 0 true [] (y2.getD default).2.2.2.2) fun y3 =>
        bif y3.isSome then
          k0 ((y2.getD default).1, (y3.getD default).1, (y3.getD default).2)
        else
          none
    else
      none
  else
    none
noncomputable def G45x0 (v0 v1 v2 : Int) (v3 : Bool) (v4 : LD) (v5 : Bool) (v6 : LD) (v7 : Bool) (v8 : LD) (v9 : Bool) (v10 : LD) : Option (Int × Bool × LD) := F45x0 N v0 v1 v2 v3 v4 v5 v6 v7 v8 v9 v10 (fun p => some p)
theorem bind45x0 (v0 v1 v2 : Int) (v3 : Bool) (v4 : LD) (v5 : Bool) (v6 : LD) (v7 : Bool) (v8 : LD) (v9 : Bool) (v10 : LD) (k0 : Int × Bool × LD → Option R) : F45x0 N v0 v1 v2 v3 v4 v5 v6 v7 v8 v9 v10 k0 = (G45x0 N v0 v1 v2 v3 v4 v5 v6 v7 v8 v9 v10).bind k0 := by
  unfold G45x0 F45x0
  repeat' (first | rfl | apply cond_b | (apply bnd_b; intro _))
noncomputable def J45x0 (L : List Lf) (k0 : Int × Bool × LD → Option R) : Option R := F45x0 N (li L 0) (li L 1) (li L 2) (lb L 3) (ll L 4) (lb L 5) (ll L 6) (lb L 7) (ll L 8) (lb L 9) (ll L 10) k0
noncomputable def sh45x0 : Sh := { tmps := [(0, .g ([.i .i64, .i .i64, .i .i64, .sl 66, .sl 68])), (1, .c (.sl 3)), (2, .c (.sl 3))], mem := [] }
noncomputable def A45x0 (L : List Lf) : List (Bool × Res) := bnd (J45x0 N L (fun p => some p)) fun q => [(q.isSome, ([.c (.i .i64 (q.getD default).1), .c (.sl 3 (q.getD default).2.1 (q.getD default).2.2)], []))]
theorem raw45x0 (L : List Lf) : bd Try.prog (T75x1 N) (h45x0s2 N).h 45 sh45x0 L = J45x0 N L (fun p => some ([.c (.i .i64 p.1), .c (.sl 3 p.2.1 p.2.2)], [])) := by kernel_rfl
theorem ok45x0 : FnOk Try.prog 45 sh45x0 (A45x0 N) :=
  (h45x0s2 N).fn progOk (T75x1_ok N) fun L x hx => ((raw45x0 N L).trans ((bind45x0 N ..).trans (alt1 x hx)))
noncomputable def T45x0 : Oracle := ext 45 (spSh sh45x0 (A45x0 N)) (T75x1 N)
theorem T45x0_ok : OracleOk Try.prog (T45x0 N) := FnOk.to (ok45x0 N) (T75x1_ok N)
noncomputable def rg59x0 : List (Nat × List Nat) := [(0, [0]), (1, [0]), (2, [0, 3]), (3, [6, 5, 3]), (4, [6, 3, 5]), (5, [3, 4, 6, 5]), (6, [6, 5, 3]), (7, [3])]
noncomputable def hd59x0 : Hints := [(9, [6, 5, 3], [3], [3])]
noncomputable def h59x0s0 (N : Nat) : Sg Try.prog 0 59 := .start hd59x0 rg59x0
noncomputable def S59x0x9 (N : Nat) (w0 : Int) (w1 : Int) (w2 : Bool) (w3 : LD) (kr : Int → Bool → LD → Option R) (k0 : Bool × LD → Option R) : Option R :=
  bif (decide (w1 < w0)) then
    bif (decide ((w3.length + 1) * 8 ≤ room) && decide ((w3.length + 1) ≤ strMax)) then
      kr (IntKind.wrap .i64 (w1 + 1)) false (w3 ++ [(.i w1)])
    else
      none
  else
    k0 (w2, w3)
noncomputable def L59x0x9 (N : Nat) {R : Type} (w0 : Int) : Nat → Int → Bool → LD → (Bool × LD → Option R) → Option R
  | 0, _, _, _, _ => none
  | m + 1, w1, w2, w3, k0 => S59x0x9 N w0 w1 w2 w3 (fun w1 w2 w3 => L59x0x9 N w0 m w1 w2 w3 k0) k0
noncomputable def G59x0x9 (w0 : Int) (w1 : Int) (w2 : Bool) (w3 : LD) : Option (Bool × LD) := L59x0x9 N (R := (Bool × LD)) w0 N w1 w2 w3 (fun p => some p)
noncomputable def J59x0x9 (L x : List Lf) (kr : List Lf → Option R) (k0 : Bool × LD → Option R) : Option R := S59x0x9 N (li L 0) (li x 0) (lb x 1) (ll x 2) (fun w1 w2 w3 => kr [.i w1, .b w2, .l w3]) k0
theorem sb59x0x9 (L x : List Lf) (kr : List Lf → Option R) (k0 : Bool × LD → Option R) : J59x0x9 N L x kr k0 = (J59x0x9 N L x (fun y => some (.inl y)) (fun p => some (.inr p))).bind (sumE kr k0) := by
  unfold J59x0x9 S59x0x9
  repeat' (first | rfl | apply cond_b | (apply bnd_b; intro _))
noncomputable def Q59x0x9 (L : List Lf) (m : Nat) (x : List Lf) : Option (Bool × LD) := L59x0x9 N (R := (Bool × LD)) (li L 0) m (li x 0) (lb x 1) (ll x 2) (fun p => some p)
noncomputable def sh59x0x9 : Sh := { tmps := [(3, .c (.o 3)), (5, .c (.i .i64)), (6, .c (.i .i64))], mem := [(3, .row 3 true)] }
noncomputable def A59x0x9 (L : List Lf) : List (Bool × (Ex × St)) := bnd (Q59x0x9 N L N (pk sh59x0x9 [1, 2, 3] L)) fun q => [(q.isSome, ((.exit 0), ⟨[(3, .c (.o 3))], [(3, .row 3 true (q.getD default).1 (q.getD default).2)]⟩))]
theorem step59x0x9 (m : Nat) (kn : St → Option (Ex × St)) (L x : List Lf) : lpB Try.prog (T45x0 N) (h59x0s0 N).h 0 59 9 sh59x0x9 [1, 2, 3] [2, 3] [3] (m + 100) kn L x = J59x0x9 N L x (fun y => kn (ofSh sh59x0x9 (mx sh59x0x9 [1, 2, 3] L y))) (fun p => some ((.exit 0), ⟨[(3, .c (.o 3))], [(3, .row 3 true p.1 p.2)]⟩)) := by kernel_rfl
noncomputable def h59x0s1 : Sg Try.prog 0 59 :=
  (h59x0s0 N).lp (A59x0x9 N) N progOk (T45x0_ok N) (fun m kn L x => (step59x0x9 N m kn L x).trans (sb59x0x9 N L x _ _)) (fun L m x => sb59x0x9 N L x (Q59x0x9 N L m) some) fun L x hx => alt1 x hx
noncomputable def F59x0 (v0 : Int) (k0 : Bool × LD → Option R) : Option R :=
  bnd (G59x0x9 N v0 0 true []) fun y0 =>
  bif y0.isSome then
    k0 (y0.getD default)
  else
    none
noncomputable def G59x0 (v0 : Int) : Option (Bool × LD) := F59x0 N v0 (fun p => some p)
theorem bind59x0 (v0 : Int) (k0 : Bool × LD → Option R) : F59x0 N v0 k0 = (G59x0 N v0).bind k0 := by
  unfold G59x0 F59x0
  repeat' (first | rfl | apply cond_b | (apply bnd_b; intro _))
noncomputable def sh59x0 : Sh := { tmps := [(0, .c (.i .i64))], mem := [] }
noncomputable def A59x0 (L : List Lf) : List (Bool × Res) := bnd (F59x0 N (li L 0) (fun p => some p)) fun q => [(q.isSome, ([.c (.sl 3 (q.getD default).1 (q.getD default).2)], []))]
theorem raw59x0 (L : List Lf) : bd Try.prog (T45x0 N) (h59x0s1 N).h 59 sh59x0 L = F59x0 N (li L 0) (fun p => some ([.c (.sl 3 p.1 p.2)], [])) := by kernel_rfl
theorem ok59x0 : FnOk Try.prog 59 sh59x0 (A59x0 N) :=
  (h59x0s1 N).fn progOk (T45x0_ok N) fun L x hx => ((raw59x0 N L).trans ((bind59x0 N ..).trans (alt1 x hx)))
noncomputable def T59x0 : Oracle := ext 59 (spSh sh59x0 (A59x0 N)) (T45x0 N)
theorem T59x0_ok : OracleOk Try.prog (T59x0 N) := FnOk.to (ok59x0 N) (T45x0_ok N)
noncomputable def rg60x0 : List (Nat × List Nat) := [(0, [0, 1]), (1, [0, 1]), (2, [0, 1, 5]), (3, [10, 9, 8, 1, 5]), (4, [8, 10, 1, 5, 9]), (5, [7, 1, 5, 10, 9, 8]), (6, [5, 7, 10, 9, 8, 1]), (7, [10, 9, 8, 1, 5]), (8, [5])]
noncomputable def hd60x0 : Hints := [(9, [10, 9, 8, 1, 5], [5], [5]), (20, [5, 7, 10, 9, 8, 1, 16], [5], [])]
noncomputable def h60x0s0 (N : Nat) : Sg Try.prog 0 60 := .start hd60x0 rg60x0
noncomputable def F60x0x20 (N : Nat) (w1 : Int) (w6 : Bool) (w8 : LD) (k0 : LD → Option R) (k1 : Unit → Option R) : Option R :=
  bif w6 then
    bif (decide ((w8.length + 1) * 8 ≤ room) && decide ((w8.length + 1) ≤ strMax)) then
      k0 (w8 ++ [(.i w1)])
    else
      none
  else
    k1 ()
noncomputable def G60x0x20 (w1 : Int) (w6 : Bool) (w8 : LD) : Option (Sum (LD) (Unit)) := F60x0x20 N w1 w6 w8 (fun p => some (.inl p)) (fun p => some (.inr p))
theorem bind60x0x20 (w1 : Int) (w6 : Bool) (w8 : LD) (k0 : LD → Option R) (k1 : Unit → Option R) : F60x0x20 N w1 w6 w8 k0 k1 = (G60x0x20 N w1 w6 w8).bind (sumE k0 k1) := by
  unfold G60x0x20 F60x0x20
  repeat' (first | rfl | apply cond_b | (apply bnd_b; intro _))
noncomputable def sh60x0x20 : Sh := { tmps := [(1, .c (.i .i64)), (5, .c (.o 5)), (7, .c (.i .i64)), (8, .c (.sl 3)), (9, .c (.i .i64)), (10, .c (.i .i64)), (16, .c (.b))], mem := [(5, .row 3 true)] }
noncomputable def K60x0x20w0 (L : List Lf) (p : LD) : Ex × St := (.normal, mg (ofSh sh60x0x20 L) [1, 5, 8, 9, 10] [(5, .c (.o 20))] [20] [(20, .row 3 true false p)])
noncomputable def A60x0x20 (L : List Lf) : List (Bool × (Ex × St)) := bnd (F60x0x20 N (li L 1) (lb L 6) (ll L 8) (fun p => some (.inl p)) (fun p => some (.inr p))) fun q => [((inlB q), K60x0x20w0 L (inlV q)), ((inrQ q).isSome, (.normal, mg (ofSh sh60x0x20 L) [1, 5, 8, 9, 10] [] [5] []))]
theorem raw60x0x20 (L : List Lf) : pc Try.prog (T59x0 N) (h60x0s0 N).h 0 100 60 20 sh60x0x20 L [10, 9, 8, 1, 5] [20, 5] = F60x0x20 N (li L 1) (lb L 6) (ll L 8) (fun p => some (K60x0x20w0 L p)) (fun _ => some (.normal, mg (ofSh sh60x0x20 L) [1, 5, 8, 9, 10] [] [5] [])) := by kernel_rfl
noncomputable def h60x0s1 : Sg Try.prog 0 60 :=
  (h60x0s0 N).cut (A60x0x20 N) progOk (T59x0_ok N) fun L x hx => (raw60x0x20 N L).trans ((bind60x0x20 N ..).trans ((altS alt1) x hx))
noncomputable def S60x0x9 (w0 : Int) (w2 : LD) (w3 : Int) (w4 : Int) (w5 : Bool) (w6 : LD) (kr : Int → Bool → LD → Option R) (k0 : Bool × LD → Option R) : Option R :=
  bif (decide (w4 < w3)) then
    bif (inB w4 w2.length) then
      bnd (G60x0x20 N (w2.getD w4.toNat (.i 0)).toI ((w2.getD w4.toNat (.i 0)).toI != w0) w6) fun y0 =>
      bif (inlB y0) then
        kr (IntKind.wrap .i64 (w4 + 1)) false (inlV y0)
      else
        bif (inrQ y0).isSome then
          kr (IntKind.wrap .i64 (w4 + 1)) w5 w6
        else
          none
    else
      none
  else
    k0 (w5, w6)
noncomputable def L60x0x9 (N : Nat) {R : Type} (w0 : Int) (w2 : LD) (w3 : Int) : Nat → Int → Bool → LD → (Bool × LD → Option R) → Option R
  | 0, _, _, _, _ => none
  | m + 1, w4, w5, w6, k0 => S60x0x9 N w0 w2 w3 w4 w5 w6 (fun w4 w5 w6 => L60x0x9 N w0 w2 w3 m w4 w5 w6 k0) k0
noncomputable def G60x0x9 (w0 : Int) (w2 : LD) (w3 : Int) (w4 : Int) (w5 : Bool) (w6 : LD) : Option (Bool × LD) := L60x0x9 N (R := (Bool × LD)) w0 w2 w3 N w4 w5 w6 (fun p => some p)
noncomputable def J60x0x9 (L x : List Lf) (kr : List Lf → Option R) (k0 : Bool × LD → Option R) : Option R := S60x0x9 N (li L 0) (ll L 2) (li L 3) (li x 0) (lb x 1) (ll x 2) (fun w4 w5 w6 => kr [.i w4, .b w5, .l w6]) k0
theorem sb60x0x9 (L x : List Lf) (kr : List Lf → Option R) (k0 : Bool × LD → Option R) : J60x0x9 N L x kr k0 = (J60x0x9 N L x (fun y => some (.inl y)) (fun p => some (.inr p))).bind (sumE kr k0) := by
  unfold J60x0x9 S60x0x9
  repeat' (first | rfl | apply cond_b | (apply bnd_b; intro _))
noncomputable def Q60x0x9 (L : List Lf) (m : Nat) (x : List Lf) : Option (Bool × LD) := L60x0x9 N (R := (Bool × LD)) (li L 0) (ll L 2) (li L 3) m (li x 0) (lb x 1) (ll x 2) (fun p => some p)
noncomputable def sh60x0x9 : Sh := { tmps := [(1, .c (.i .i64)), (5, .c (.o 5)), (8, .c (.sl 3)), (9, .c (.i .i64)), (10, .c (.i .i64))], mem := [(5, .row 3 true)] }
noncomputable def A60x0x9 (L : List Lf) : List (Bool × (Ex × St)) := bnd (Q60x0x9 N L N (pk sh60x0x9 [4, 5, 6] L)) fun q => [(q.isSome, ((.exit 0), ⟨[(5, .c (.o 5))], [(5, .row 3 true (q.getD default).1 (q.getD default).2)]⟩))]
theorem step60x0x9 (m : Nat) (kn : St → Option (Ex × St)) (L x : List Lf) : lpB Try.prog (T59x0 N) (h60x0s1 N).h 0 60 9 sh60x0x9 [4, 5, 6] [4, 5] [5] (m + 100) kn L x = J60x0x9 N L x (fun y => kn (ofSh sh60x0x9 (mx sh60x0x9 [4, 5, 6] L y))) (fun p => some ((.exit 0), ⟨[(5, .c (.o 5))], [(5, .row 3 true p.1 p.2)]⟩)) := by kernel_rfl
noncomputable def h60x0s2 : Sg Try.prog 0 60 :=
  (h60x0s1 N).lp (A60x0x9 N) N progOk (T59x0_ok N) (fun m kn L x => (step60x0x9 N m kn L x).trans (sb60x0x9 N L x _ _)) (fun L m x => sb60x0x9 N L x (Q60x0x9 N L m) some) fun L x hx => alt1 x hx
noncomputable def F60x0 (v1 : LD) (v2 : Int) (k0 : Bool × LD → Option R) : Option R :=
  bnd (G60x0x9 N v2 v1 (v1.length : Int) 0 true []) fun y0 =>
  bif y0.isSome then
    k0 (y0.getD default)
  else
    none
noncomputable def G60x0 (v1 : LD) (v2 : Int) : Option (Bool × LD) := F60x0 N v1 v2 (fun p => some p)
theorem bind60x0 (v1 : LD) (v2 : Int) (k0 : Bool × LD → Option R) : F60x0 N v1 v2 k0 = (G60x0 N v1 v2).bind k0 := by
  unfold G60x0 F60x0
  repeat' (first | rfl | apply cond_b | (apply bnd_b; intro _))
noncomputable def sh60x0 : Sh := { tmps := [(0, .c (.sl 3)), (1, .c (.i .i64))], mem := [] }
noncomputable def A60x0 (L : List Lf) : List (Bool × Res) := bnd (F60x0 N (ll L 1) (li L 2) (fun p => some p)) fun q => [(q.isSome, ([.c (.sl 3 (q.getD default).1 (q.getD default).2)], []))]
theorem raw60x0 (L : List Lf) : bd Try.prog (T59x0 N) (h60x0s2 N).h 60 sh60x0 L = F60x0 N (ll L 1) (li L 2) (fun p => some ([.c (.sl 3 p.1 p.2)], [])) := by kernel_rfl
theorem ok60x0 : FnOk Try.prog 60 sh60x0 (A60x0 N) :=
  (h60x0s2 N).fn progOk (T59x0_ok N) fun L x hx => ((raw60x0 N L).trans ((bind60x0 N ..).trans (alt1 x hx)))
noncomputable def T60x0 : Oracle := ext 60 (spSh sh60x0 (A60x0 N)) (T59x0 N)
theorem T60x0_ok : OracleOk Try.prog (T60x0 N) := FnOk.to (ok60x0 N) (T59x0_ok N)
noncomputable def rg61x0 : List (Nat × List Nat) := [(0, [0, 1]), (1, [2, 1, 4]), (2, [5, 1, 2, 4]), (3, [1, 5, 2, 4]), (4, [12, 11, 10, 5, 2, 4]), (5, [10, 12, 5, 2, 11, 4]), (6, [5, 2, 7, 12, 11, 10, 4]), (7, [12, 11, 10, 5, 2, 4]), (8, [5, 4])]
noncomputable def hd61x0 : Hints := [(12, [12, 11, 10, 5, 2, 4], [5, 4, 2, 50005004], [50005004])]
noncomputable def h61x0s0 (N : Nat) : Sg Try.prog 0 61 := .start hd61x0 rg61x0
noncomputable def S61x0x12 (N : Nat) (w1 : LD) (w2 : Int) (w10 : LD) (w3 : Int) (w23 : Bool) (w24 : LD) (kr : Int → Bool → LD → Option R) (k0 : Bool × LD → Option R) : Option R :=
  bif (decide (w3 < w2)) then
    bif (inB w3 w1.length) then
      bif (inB (w1.getD w3.toNat (.i 0)).toI w10.length) then
        bnd ((w10.getD (w1.getD w3.toNat (.i 0)).toI.toNat (.i 0)).cell 0).toI fun y0 =>
        bnd ((w10.getD (w1.getD w3.toNat (.i 0)).toI.toNat (.i 0)).cell 1).toI fun y1 =>
        bnd ((w10.getD (w1.getD w3.toNat (.i 0)).toI.toNat (.i 0)).cell 2).toI fun y2 =>
        bnd ((w10.getD (w1.getD w3.toNat (.i 0)).toI.toNat (.i 0)).cell 3).toI fun y3 =>
        bnd ((w10.getD (w1.getD w3.toNat (.i 0)).toI.toNat (.i 0)).cell 4).toI fun y4 =>
        bnd ((w10.getD (w1.getD w3.toNat (.i 0)).toI.toNat (.i 0)).cell 5).toS fun y5 =>
        bif (decide ((w24.length + 1) * 56 ≤ room) && decide ((w24.length + 1) ≤ strMax)) then
          bnd ((w24 ++ [(.a [(.i y0), (.i y1), (.i y2), (.i y3), (.i y4), (.s y5)])]) : List D) fun y6 =>
          kr (IntKind.wrap .i64 (w3 + 1)) false y6
        else
          none
      else
        none
    else
      none
  else
    k0 (w23, w24)
noncomputable def L61x0x12 (N : Nat) {R : Type} (w1 : LD) (w2 : Int) (w10 : LD) : Nat → Int → Bool → LD → (Bool × LD → Option R) → Option R
  | 0, _, _, _, _ => none
  | m + 1, w3, w23, w24, k0 => S61x0x12 N w1 w2 w10 w3 w23 w24 (fun w3 w23 w24 => L61x0x12 N w1 w2 w10 m w3 w23 w24 k0) k0
noncomputable def G61x0x12 (w1 : LD) (w2 : Int) (w10 : LD) (w3 : Int) (w23 : Bool) (w24 : LD) : Option (Bool × LD) := L61x0x12 N (R := (Bool × LD)) w1 w2 w10 N w3 w23 w24 (fun p => some p)
noncomputable def J61x0x12 (L x : List Lf) (kr : List Lf → Option R) (k0 : Bool × LD → Option R) : Option R := S61x0x12 N (ll L 1) (li L 2) (ll L 10) (li x 0) (lb x 1) (ll x 2) (fun w3 w23 w24 => kr [.i w3, .b w23, .l w24]) k0
theorem sb61x0x12 (L x : List Lf) (kr : List Lf → Option R) (k0 : Bool × LD → Option R) : J61x0x12 N L x kr k0 = (J61x0x12 N L x (fun y => some (.inl y)) (fun p => some (.inr p))).bind (sumE kr k0) := by
  unfold J61x0x12 S61x0x12
  repeat' (first | rfl | apply cond_b | (apply bnd_b; intro _))
noncomputable def Q61x0x12 (L : List Lf) (m : Nat) (x : List Lf) : Option (Bool × LD) := L61x0x12 N (R := (Bool × LD)) (ll L 1) (li L 2) (ll L 10) m (li x 0) (lb x 1) (ll x 2) (fun p => some p)
noncomputable def sh61x0x12 : Sh := { tmps := [(2, .c (.p 2 0)), (4, .c (.p 4 0)), (5, .c (.p 5 0)), (10, .c (.sl 3)), (11, .c (.i .i64)), (12, .c (.i .i64))], mem := [(2, .box ([.i .i64, .i .i64, .i .i64, .sl 66, .sl 68])), (4, .box ([.i .i64, .i .i64, .i .i64, .sl 66, .sl 68])), (5, .box ([.i .i64, .i .i64, .i .i64, .sl 66, .o 50005004])), (50005004, .row 68 true)] }
noncomputable def K61x0x12w0 (L : List Lf) (p : Bool × LD) : Ex × St := ((.exit 0), mg (ofSh sh61x0x12 L) [4, 5] [] [4, 5, 50005004] [(50005004, .row 68 true p.1 p.2)])
noncomputable def A61x0x12 (L : List Lf) : List (Bool × (Ex × St)) := bnd (Q61x0x12 N L N (pk sh61x0x12 [3, 23, 24] L)) fun q => [(q.isSome, K61x0x12w0 L (q.getD default))]
theorem step61x0x12 (m : Nat) (kn : St → Option (Ex × St)) (L x : List Lf) : lpB Try.prog (T60x0 N) (h61x0s0 N).h 0 61 12 sh61x0x12 [3, 23, 24] [4, 5] [50005004, 5, 4] (m + 100) kn L x = J61x0x12 N L x (fun y => kn (ofSh sh61x0x12 (mx sh61x0x12 [3, 23, 24] L y))) (fun p => some (K61x0x12w0 L p)) := by kernel_rfl
noncomputable def h61x0s1 : Sg Try.prog 0 61 :=
  (h61x0s0 N).lp (A61x0x12 N) N progOk (T60x0_ok N) (fun m kn L x => (step61x0x12 N m kn L x).trans (sb61x0x12 N L x _ _)) (fun L m x => sb61x0x12 N L x (Q61x0x12 N L m) some) fun L x hx => alt1 x hx
noncomputable def F61x0 (v6 v8 : LD) (k0 : Bool × LD → Option R) : Option R :=
  bnd (G61x0x12 N v8 (v8.length : Int) v6 0 true []) fun y0 =>
  bif y0.isSome then
    k0 (y0.getD default)
  else
    none
noncomputable def G61x0 (v6 v8 : LD) : Option (Bool × LD) := F61x0 N v6 v8 (fun p => some p)
theorem bind61x0 (v6 v8 : LD) (k0 : Bool × LD → Option R) : F61x0 N v6 v8 k0 = (G61x0 N v6 v8).bind k0 := by
  unfold G61x0 F61x0
  repeat' (first | rfl | apply cond_b | (apply bnd_b; intro _))
noncomputable def sh61x0 : Sh := { tmps := [(0, .g ([.i .i64, .i .i64, .i .i64, .sl 66, .sl 68])), (1, .c (.sl 3))], mem := [] }
noncomputable def K61x0w0 (L : List Lf) (p : Bool × LD) : Res := ([.g [.i .i64 (li L 0), .i .i64 (li L 1), .i .i64 (li L 2), .sl 66 (lb L 3) (ll L 4), .sl 68 p.1 p.2]], [])
noncomputable def A61x0 (L : List Lf) : List (Bool × Res) := bnd (F61x0 N (ll L 6) (ll L 8) (fun p => some p)) fun q => [(q.isSome, K61x0w0 L (q.getD default))]
theorem raw61x0 (L : List Lf) : bd Try.prog (T60x0 N) (h61x0s1 N).h 61 sh61x0 L = F61x0 N (ll L 6) (ll L 8) (fun p => some (K61x0w0 L p)) := by kernel_rfl
theorem ok61x0 : FnOk Try.prog 61 sh61x0 (A61x0 N) :=
  (h61x0s1 N).fn progOk (T60x0_ok N) fun L x hx => ((raw61x0 N L).trans ((bind61x0 N ..).trans (alt1 x hx)))
noncomputable def T61x0 : Oracle := ext 61 (spSh sh61x0 (A61x0 N)) (T60x0 N)
theorem T61x0_ok : OracleOk Try.prog (T61x0 N) := FnOk.to (ok61x0 N) (T60x0_ok N)
noncomputable def rg24x0 : List (Nat × List Nat) := [(0, [0, 1]), (1, [2, 1]), (2, [7, 2, 1]), (3, [7]), (4, [2, 1]), (5, [8, 2, 1]), (6, []), (7, [2, 1]), (8, [2, 10, 1]), (9, [36, 35, 10, 2, 1]), (10, [36, 10, 2, 1, 35]), (11, [10, 11, 2, 1, 36, 35]), (12, [2, 12, 1, 36, 35, 10]), (13, [13, 12, 36, 35, 2, 1, 10]), (14, [12, 36, 35, 2, 1]), (15, [36, 35, 10, 2, 1]), (16, [10])]
noncomputable def hd24x0 : Hints := [(27, [36, 35, 10, 2, 1], [2], []), (44, [12, 36, 35, 2, 1, 10, 51], [2], [])]
noncomputable def h24x0s0 (N : Nat) : Sg Try.prog 0 24 := .start hd24x0 rg24x0
noncomputable def F24x0x44 (N : Nat) (w2 : Bool) (w3 : LD) (w4 : Bool) (w5 : LD) (w8 : Bool) (k0 : Bool × LD → R) : R :=
  bif w8 then
    k0 (w4, w5)
  else
    k0 (w2, w3)
noncomputable def V24x0x44 (w2 : Bool) (w3 : LD) (w4 : Bool) (w5 : LD) (w8 : Bool) : Bool × LD := F24x0x44 N w2 w3 w4 w5 w8 (fun p => p)
theorem tot24x0x44 (w2 : Bool) (w3 : LD) (w4 : Bool) (w5 : LD) (w8 : Bool) (k0 : Bool × LD → R) : F24x0x44 N w2 w3 w4 w5 w8 k0 = k0 (V24x0x44 N w2 w3 w4 w5 w8) := by
  unfold V24x0x44 F24x0x44
  repeat' (first | rfl | apply cond_k | (apply bnd_k; intro _))
noncomputable def J24x0x44 (L : List Lf) (k0 : Bool × LD → R) : R := F24x0x44 N (lb L 2) (ll L 3) (lb L 4) (ll L 5) (lb L 8) k0
noncomputable def sh24x0x44 : Sh := { tmps := [(1, .c (.sl 3)), (2, .c (.p 2 0)), (10, .c (.sl 3)), (12, .c (.sl 3)), (35, .c (.i .i64)), (36, .c (.i .i64)), (51, .c (.b))], mem := [(2, .box ([.i .i64, .i .i64, .i .i64, .sl 66, .sl 68]))] }
noncomputable def K24x0x44w0 (L : List Lf) (p : Bool × LD) : Ex × St := (.normal, mg (ofSh sh24x0x44 L) [1, 2, 10, 35, 36] [(10, .c (.sl 3 p.1 p.2))] [2] [])
noncomputable def A24x0x44 (L : List Lf) : List (Bool × (Ex × St)) := bnd (J24x0x44 N L (fun p => p)) fun q => [(true, K24x0x44w0 L q)]
theorem raw24x0x44 (L : List Lf) : pc Try.prog (T61x0 N) (h24x0s0 N).h 0 100 24 44 sh24x0x44 L [36, 35, 10, 2, 1] [2] = J24x0x44 N L (fun p => some (K24x0x44w0 L p)) := by kernel_rfl
noncomputable def h24x0s1 : Sg Try.prog 0 24 :=
  (h24x0s0 N).cut (A24x0x44 N) progOk (T61x0_ok N) fun L x hx => (raw24x0x44 N L).trans ((tot24x0x44 N ..).trans (alt0 _ _ hx))
noncomputable def S24x0x27 (w0 : Bool) (w1 : LD) (w4 w6 w7 w8 : Int) (w9 : Bool) (w10 w12 : LD) (w2 : Bool) (w3 : LD) (w5 : Int) (kr : Bool → LD → Int → Option R) (k0 : Bool × LD → Option R) : Option R :=
  bif (decide (w5 < w4)) then
    bnd (G60x0 N w3 w5) fun y0 =>
    bif y0.isSome then
      bnd (G61x0 N w12 (y0.getD default).2) fun y1 =>
      bif y1.isSome then
        bnd (G45x0 N w6 w7 w8 w9 w10 (y1.getD default).1 (y1.getD default).2 w0 w1 true []) fun y2 =>
        bif y2.isSome then
          bnd (V24x0x44 N w2 w3 (y0.getD default).1 (y0.getD default).2 ((y2.getD default).1 == 0)) fun y3 =>
          kr y3.1 y3.2 (IntKind.wrap .i64 (w5 + 1))
        else
          none
      else
        none
    else
      none
  else
    k0 (w2, w3)
noncomputable def L24x0x27 (N : Nat) {R : Type} (w0 : Bool) (w1 : LD) (w4 w6 w7 w8 : Int) (w9 : Bool) (w10 w12 : LD) : Nat → Bool → LD → Int → (Bool × LD → Option R) → Option R
  | 0, _, _, _, _ => none
  | m + 1, w2, w3, w5, k0 => S24x0x27 N w0 w1 w4 w6 w7 w8 w9 w10 w12 w2 w3 w5 (fun w2 w3 w5 => L24x0x27 N w0 w1 w4 w6 w7 w8 w9 w10 w12 m w2 w3 w5 k0) k0
noncomputable def G24x0x27 (w0 : Bool) (w1 : LD) (w4 w6 w7 w8 : Int) (w9 : Bool) (w10 w12 : LD) (w2 : Bool) (w3 : LD) (w5 : Int) : Option (Bool × LD) := L24x0x27 N (R := (Bool × LD)) w0 w1 w4 w6 w7 w8 w9 w10 w12 N w2 w3 w5 (fun p => some p)
noncomputable def J24x0x27 (L x : List Lf) (kr : List Lf → Option R) (k0 : Bool × LD → Option R) : Option R := S24x0x27 N (lb L 0) (ll L 1) (li L 4) (li L 6) (li L 7) (li L 8) (lb L 9) (ll L 10) (ll L 12) (lb x 0) (ll x 1) (li x 2) (fun w2 w3 w5 => kr [.b w2, .l w3, .i w5]) k0
theorem sb24x0x27 (L x : List Lf) (kr : List Lf → Option R) (k0 : Bool × LD → Option R) : J24x0x27 N L x kr k0 = (J24x0x27 N L x (fun y => some (.inl y)) (fun p => some (.inr p))).bind (sumE kr k0) := by
  unfold J24x0x27 S24x0x27
  repeat' (first | rfl | apply cond_b | (apply bnd_b; intro _))
noncomputable def Q24x0x27 (L : List Lf) (m : Nat) (x : List Lf) : Option (Bool × LD) := L24x0x27 N (R := (Bool × LD)) (lb L 0) (ll L 1) (li L 4) (li L 6) (li L 7) (li L 8) (lb L 9) (ll L 10) (ll L 12) m (lb x 0) (ll x 1) (li x 2) (fun p => some p)
noncomputable def sh24x0x27 : Sh := { tmps := [(1, .c (.sl 3)), (2, .c (.p 2 0)), (10, .c (.sl 3)), (35, .c (.i .i64)), (36, .c (.i .i64))], mem := [(2, .box ([.i .i64, .i .i64, .i .i64, .sl 66, .sl 68]))] }
noncomputable def A24x0x27 (L : List Lf) : List (Bool × (Ex × St)) := bnd (Q24x0x27 N L N (pk sh24x0x27 [2, 3, 5] L)) fun q => [(q.isSome, ((.exit 0), ⟨[(10, .c (.sl 3 (q.getD default).1 (q.getD default).2))], []⟩))]
theorem step24x0x27 (m : Nat) (kn : St → Option (Ex × St)) (L x : List Lf) : lpB Try.prog (T61x0 N) (h24x0s1 N).h 0 24 27 sh24x0x27 [2, 3, 5] [4, 5, 6, 10] [] (m + 100) kn L x = J24x0x27 N L x (fun y => kn (ofSh sh24x0x27 (mx sh24x0x27 [2, 3, 5] L y))) (fun p => some ((.exit 0), ⟨[(10, .c (.sl 3 p.1 p.2))], []⟩)) := by kernel_rfl
noncomputable def h24x0s2 : Sg Try.prog 0 24 :=
  (h24x0s1 N).lp (A24x0x27 N) N progOk (T61x0_ok N) (fun m kn L x => (step24x0x27 N m kn L x).trans (sb24x0x27 N L x _ _)) (fun L m x => sb24x0x27 N L x (Q24x0x27 N L m) some) fun L x hx => alt1 x hx
noncomputable def F24x0 (v0 v1 v2 : Int) (v3 : Bool) (v4 : LD) (v5 : Bool) (v6 : LD) (v7 : Bool) (v8 : LD) (k0 : Ty16 → Option R) : Option R :=
  bnd (G44x0 N v0 v1 v2 v4 v6 v8) fun y0 =>
  bif y0.isSome then
    bif ((y0.getD default) != 0) then
      k0 (true, [], false, (y0.getD default))
    else
      bnd (G45x0 N v0 v1 v2 v3 v4 v5 v6 v7 v8 true []) fun y1 =>
      bif y1.isSome then
        bif (decide ((y1.getD default).1 > 0)) then
          k0 (true, [], false, 0)
        else
          bnd (G59x0 N (v6.length : Int)) fun y2 =>
          bif y2.isSome then
            bnd (G24x0x27 N v7 v8 (v6.length : Int) v0 v1 v2 v3 v4 v6 (y2.getD default).1 (y2.getD default).2 0) fun y3 =>
            bif y3.isSome then
              k0 ((y3.getD default).1, (y3.getD default).2, true, 0)
            else
              none
          else
            none
      else
        none
  else
    none
noncomputable def G24x0 (v0 v1 v2 : Int) (v3 : Bool) (v4 : LD) (v5 : Bool) (v6 : LD) (v7 : Bool) (v8 : LD) : Option (Ty16) := F24x0 N v0 v1 v2 v3 v4 v5 v6 v7 v8 (fun p => some p)
theorem bind24x0 (v0 v1 v2 : Int) (v3 : Bool) (v4 : LD) (v5 : Bool) (v6 : LD) (v7 : Bool) (v8 : LD) (k0 : Ty16 → Option R) : F24x0 N v0 v1 v2 v3 v4 v5 v6 v7 v8 k0 = (G24x0 N v0 v1 v2 v3 v4 v5 v6 v7 v8).bind k0 := by
  unfold G24x0 F24x0
  repeat' (first | rfl | apply cond_b | (apply bnd_b; intro _))
noncomputable def J24x0 (L : List Lf) (k0 : Ty16 → Option R) : Option R := F24x0 N (li L 0) (li L 1) (li L 2) (lb L 3) (ll L 4) (lb L 5) (ll L 6) (lb L 7) (ll L 8) k0
noncomputable def sh24x0 : Sh := { tmps := [(0, .g ([.i .i64, .i .i64, .i .i64, .sl 66, .sl 68])), (1, .c (.sl 3))], mem := [] }
noncomputable def K24x0w0 (L : List Lf) (p : Ty16) : Res := ([.c (.sl 3 p.1 p.2.1), .c (.b p.2.2.1), .c (.i .i64 p.2.2.2)], [])
noncomputable def A24x0 (L : List Lf) : List (Bool × Res) := bnd (J24x0 N L (fun p => some p)) fun q => [(q.isSome, K24x0w0 L (q.getD default))]
theorem raw24x0 (L : List Lf) : bd Try.prog (T61x0 N) (h24x0s2 N).h 24 sh24x0 L = J24x0 N L (fun p => some (K24x0w0 L p)) := by kernel_rfl
theorem ok24x0 : FnOk Try.prog 24 sh24x0 (A24x0 N) :=
  (h24x0s2 N).fn progOk (T61x0_ok N) fun L x hx => ((raw24x0 N L).trans ((bind24x0 N ..).trans (alt1 x hx)))
noncomputable def T24x0 : Oracle := ext 24 (spSh sh24x0 (A24x0 N)) (T61x0 N)
theorem T24x0_ok : OracleOk Try.prog (T24x0 N) := FnOk.to (ok24x0 N) (T61x0_ok N)
noncomputable def rg90x2 : List (Nat × List Nat) := [(0, [1, 0, 2]), (1, [0, 4, 2, 6]), (2, [8, 6, 0, 7, 2, 4]), (3, [6]), (4, [0, 7, 6, 2, 4]), (5, [9, 6, 0, 2, 4]), (6, [9, 6]), (7, [9, 0, 2, 4, 6]), (8, [4, 0, 2, 9, 6]), (9, [9, 6]), (10, [9, 6])]
noncomputable def hd90x2 : Hints := [(25, [4, 0, 2, 9, 6], [11, 8, 6, 1, 0], []), (29, [9, 6, 70], [11, 8, 0, 1], [])]
noncomputable def h90x2s0 (N : Nat) : Sg Try.prog 2 90 := .start hd90x2 rg90x2
noncomputable def F90x2x25 (N : Nat) (w0 : Int) (w21 w23 : LD) (w25 : Int) (k0 : Bool → Option R) : Option R :=
  bif (decide (w25 ≥ (w21.length : Int))) then
    bif (decide (w25 < (w23.length : Int))) then
      bif (inB w25 w23.length) then
        k0 ((w23.getD w25.toNat (.i 0)).toI != w0)
      else
        none
    else
      k0 false
  else
    k0 false
noncomputable def G90x2x25 (w0 : Int) (w21 w23 : LD) (w25 : Int) : Option (Bool) := F90x2x25 N w0 w21 w23 w25 (fun p => some p)
theorem bind90x2x25 (w0 : Int) (w21 w23 : LD) (w25 : Int) (k0 : Bool → Option R) : F90x2x25 N w0 w21 w23 w25 k0 = (G90x2x25 N w0 w21 w23 w25).bind k0 := by
  unfold G90x2x25 F90x2x25
  repeat' (first | rfl | apply cond_b | (apply bnd_b; intro _))
noncomputable def J90x2x25 (L : List Lf) (k0 : Bool → Option R) : Option R := F90x2x25 N (li L 0) (ll L 21) (ll L 23) (li L 25) k0
noncomputable def sh90x2x25 : Sh := { tmps := [(0, .c (.p 0 0)), (2, .c (.i .i64)), (4, .c (.p 6 0)), (6, .c (.p 8 0)), (9, .c (.p 11 0))], mem := [(0, .box (.i .i64 :: .i .i64 :: .i .i64 :: .sl 66 :: .sl 68 :: rB 12 ([.sl 3, .sl 3, .m 1]))), (1, .map 106 59), (6, .box (rI 20 ([]))), (8, .box ([.i .i64, .i .i64, .i .i64])), (11, .box ([.i .i64, .i .i64, .i .i64]))] }
noncomputable def K90x2x25w0 (L : List Lf) (p : Bool) : Ex × St := (.normal, mg (ofSh sh90x2x25 L) [6, 9, 70] [(70, .c (.b p))] [0, 1, 8, 11] [])
noncomputable def A90x2x25 (L : List Lf) : List (Bool × (Ex × St)) := bnd (J90x2x25 N L (fun p => some p)) fun q => [(q.isSome, K90x2x25w0 L (q.getD default))]
theorem raw90x2x25 (L : List Lf) : pc Try.prog (T24x0 N) (h90x2s0 N).h 2 100 90 25 sh90x2x25 L [9, 6, 70] [11, 8, 0, 1] = J90x2x25 N L (fun p => some (K90x2x25w0 L p)) := by kernel_rfl
noncomputable def h90x2s1 : Sg Try.prog 2 90 :=
  (h90x2s0 N).cut (A90x2x25 N) progOk (T24x0_ok N) fun L x hx => (raw90x2x25 N L).trans ((bind90x2x25 N ..).trans (alt1 x hx))
noncomputable def F90x2x29 (N : Nat) (w0 : Bool) (w29 : Int) (k0 : Int → R) : R :=
  bif w0 then
    k0 (IntKind.wrap .i64 (w29 + 1))
  else
    k0 w29
noncomputable def V90x2x29 (w0 : Bool) (w29 : Int) : Int := F90x2x29 N w0 w29 (fun p => p)
theorem tot90x2x29 (w0 : Bool) (w29 : Int) (k0 : Int → R) : F90x2x29 N w0 w29 k0 = k0 (V90x2x29 N w0 w29) := by
  unfold V90x2x29 F90x2x29
  repeat' (first | rfl | apply cond_k | (apply bnd_k; intro _))
noncomputable def sh90x2x29 : Sh := { tmps := [(6, .c (.p 8 0)), (9, .c (.p 11 0)), (70, .c (.b))], mem := [(0, .box (.i .i64 :: .i .i64 :: .i .i64 :: .sl 66 :: .sl 68 :: rB 12 ([.sl 3, .sl 3, .m 1]))), (1, .map 106 59), (8, .box ([.i .i64, .i .i64, .i .i64])), (11, .box ([.i .i64, .i .i64, .i .i64]))] }
noncomputable def K90x2x29w0 (L : List Lf) (p : Int) : Ex × St := (.normal, mg (ofSh sh90x2x29 L) [6, 9] [] [0, 1, 8, 11] [(11, .box [.i .i64 (li L 28), .i .i64 p, .i .i64 (li L 30)])])
noncomputable def A90x2x29 (L : List Lf) : List (Bool × (Ex × St)) := bnd (F90x2x29 N (lb L 0) (li L 29) (fun p => p)) fun q => [(true, K90x2x29w0 L q)]
theorem raw90x2x29 (L : List Lf) : pc Try.prog (T24x0 N) (h90x2s1 N).h 2 100 90 29 sh90x2x29 L [9, 6] [11, 8, 0, 1] = F90x2x29 N (lb L 0) (li L 29) (fun p => some (K90x2x29w0 L p)) := by kernel_rfl
noncomputable def h90x2s2 : Sg Try.prog 2 90 :=
  (h90x2s1 N).cut (A90x2x29 N) progOk (T24x0_ok N) fun L x hx => (raw90x2x29 N L).trans ((tot90x2x29 N ..).trans (alt0 _ _ hx))
noncomputable def F90x2 (v0 v1 v2 v3 v4 v5 v6 v7 v8 v9 v10 v11 v12 v13 v14 v15 v16 v17 v18 v19 v20 v21 v22 v23 : Int) (v24 : Bool) (v25 : LD) (v26 : Bool) (v27 : LD) (v28 v29 v30 v31 v32 v33 v34 v35 v36 v37 v38 v39 v40 : Bool) (v41 : LD) (v42 : Bool) (v43 : LD) (v44 : (List (D × D))) (k0 : Ty14 → Option R) : Option R :=
  bnd (G88x0 N v0 v1 v2 v3 v4 v5 v6 v7 v8 v9 v10 v11 v12 v13 v14 v15 v16 v17 v18 v19 v20 v21 v22 v25 v27 v28 v29 v30 v31 v32 v33 v34 v35 v36 v37 v38 v39) fun y0 =>
  bif y0.isSome then
    bnd (y0.getD default).2.2.2.2.2.2.2.2.2.2.2.2.2.2.2.2.2.2.1 fun y1 =>
    bnd (y0.getD default).2.2.2.2.2.2.2.2.2.2.2.2.2.2.2.2.2.2.2.1 fun y2 =>
    bnd (y0.getD default).2.2.2.2.2.2.2.2.2.2.2.2.2.2.2.2.2.2.2.2 fun y3 =>
    bif (!y3) then
      k0 (0, 0, 0, v44)
    else
      bnd (R78x1 N N (y0.getD default).1 (y0.getD default).2.1 (y0.getD default).2.2.1 (y0.getD default).2.2.2.1 (y0.getD default).2.2.2.2.1 (y0.getD default).2.2.2.2.2.1 (y0.getD default).2.2.2.2.2.2.1 (y0.getD default).2.2.2.2.2.2.2.1 (y0.getD default).2.2.2.2.2.2.2.2.1 (y0.getD default).2.2.2.2.2.2.2.2.2.1 (y0.getD default).2.2.2.2.2.2.2.2.2.2.1 (y0.getD default).2.2.2.2.2.2.2.2.2.2.2.1 (y0.getD default).2.2.2.2.2.2.2.2.2.2.2.2.1 (y0.getD default).2.2.2.2.2.2.2.2.2.2.2.2.2.1 (y0.getD default).2.2.2.2.2.2.2.2.2.2.2.2.2.2.1 (y0.getD default).2.2.2.2.2.2.2.2.2.2.2.2.2.2.2.1 (y0.getD default).2.2.2.2.2.2.2.2.2.2.2.2.2.2.2.2.1 (y0.getD default).2.2.2.2.2.2.2.2.2.2.2.2.2.2.2.2.2.1 y1 y2 v21 v22 v23 v24 v25 v26 v27 v28 v29 v30 v31 v32 v33 v34 v35 v36 v37 v38 v39 v40 v41 v42 v43 v44) fun y4 =>
      bif y4.isSome then
        bif ((y4.getD default).1 == 0) then
          k0 (y4.getD default)
        else
          bnd (G70x0 N v25 v20) fun y5 =>
          bif y5.isSome then
            bnd (IntKind.wrap .i64 ((y4.getD default).2.2.1 + (y5.getD default).2.2.2.1)) fun y6 =>
            bnd (G90x2x25 N v20 v41 v43 v0) fun y7 =>
            bif y7.isSome then
              bnd (V90x2x29 N (y7.getD default) (y4.getD default).2.1) fun y8 =>
              k0 ((y4.getD default).1, y8, y6, (y4.getD default).2.2.2)
            else
              none
          else
            none
      else
        none
  else
    none
noncomputable def G90x2 (v0 v1 v2 v3 v4 v5 v6 v7 v8 v9 v10 v11 v12 v13 v14 v15 v16 v17 v18 v19 v20 v21 v22 v23 : Int) (v24 : Bool) (v25 : LD) (v26 : Bool) (v27 : LD) (v28 v29 v30 v31 v32 v33 v34 v35 v36 v37 v38 v39 v40 : Bool) (v41 : LD) (v42 : Bool) (v43 : LD) (v44 : (List (D × D))) : Option (Ty14) := F90x2 N v0 v1 v2 v3 v4 v5 v6 v7 v8 v9 v10 v11 v12 v13 v14 v15 v16 v17 v18 v19 v20 v21 v22 v23 v24 v25 v26 v27 v28 v29 v30 v31 v32 v33 v34 v35 v36 v37 v38 v39 v40 v41 v42 v43 v44 (fun p => some p)
theorem bind90x2 (v0 v1 v2 v3 v4 v5 v6 v7 v8 v9 v10 v11 v12 v13 v14 v15 v16 v17 v18 v19 v20 v21 v22 v23 : Int) (v24 : Bool) (v25 : LD) (v26 : Bool) (v27 : LD) (v28 v29 v30 v31 v32 v33 v34 v35 v36 v37 v38 v39 v40 : Bool) (v41 : LD) (v42 : Bool) (v43 : LD) (v44 : (List (D × D))) (k0 : Ty14 → Option R) : F90x2 N v0 v1 v2 v3 v4 v5 v6 v7 v8 v9 v10 v11 v12 v13 v14 v15 v16 v17 v18 v19 v20 v21 v22 v23 v24 v25 v26 v27 v28 v29 v30 v31 v32 v33 v34 v35 v36 v37 v38 v39 v40 v41 v42 v43 v44 k0 = (G90x2 N v0 v1 v2 v3 v4 v5 v6 v7 v8 v9 v10 v11 v12 v13 v14 v15 v16 v17 v18 v19 v20 v21 v22 v23 v24 v25 v26 v27 v28 v29 v30 v31 v32 v33 v34 v35 v36 v37 v38 v39 v40 v41 v42 v43 v44).bind k0 := by
  unfold G90x2 F90x2
  repeat' (first | rfl | apply cond_b | (apply bnd_b; intro _))
noncomputable def J90x2 (L : List Lf) (k0 : Ty14 → Option R) : Option R := F90x2 N (li L 0) (li L 1) (li L 2) (li L 3) (li L 4) (li L 5) (li L 6) (li L 7) (li L 8) (li L 9) (li L 10) (li L 11) (li L 12) (li L 13) (li L 14) (li L 15) (li L 16) (li L 17) (li L 18) (li L 19) (li L 20) (li L 21) (li L 22) (li L 23) (lb L 24) (ll L 25) (lb L 26) (ll L 27) (lb L 28) (lb L 29) (lb L 30) (lb L 31) (lb L 32) (lb L 33) (lb L 34) (lb L 35) (lb L 36) (lb L 37) (lb L 38) (lb L 39) (lb L 40) (ll L 41) (lb L 42) (ll L 43) (lm L 44) k0
noncomputable def sh90x2 : Sh := { tmps := [(0, .c (.p 0 0)), (1, .g (rI 20 ([]))), (2, .c (.i .i64))], mem := [(0, .box (.i .i64 :: .i .i64 :: .i .i64 :: .sl 66 :: .sl 68 :: rB 12 ([.sl 3, .sl 3, .m 1]))), (1, .map 106 59)] }
noncomputable def K90x2w0 (L : List Lf) (p : Ty14) : Res := ([.g [.i .i64 p.1, .i .i64 p.2.1, .i .i64 p.2.2.1]], mgA (ofSh sh90x2 L).mem [(1, .map 106 59 p.2.2.2)] [0, 1])
noncomputable def A90x2 (L : List Lf) : List (Bool × Res) := bnd (J90x2 N L (fun p => some p)) fun q => [(q.isSome, K90x2w0 L (q.getD default))]
theorem raw90x2 (L : List Lf) : bd Try.prog (T24x0 N) (h90x2s2 N).h 90 sh90x2 L = J90x2 N L (fun p => some (K90x2w0 L p)) := by kernel_rfl
theorem ok90x2 : FnOk Try.prog 90 sh90x2 (A90x2 N) :=
  (h90x2s2 N).fn progOk (T24x0_ok N) fun L x hx => ((raw90x2 N L).trans ((bind90x2 N ..).trans (alt1 x hx)))
noncomputable def T90x2 : Oracle := ext 90 (spSh sh90x2 (A90x2 N)) (T24x0 N)
theorem T90x2_ok : OracleOk Try.prog (T90x2 N) := FnOk.to (ok90x2 N) (T24x0_ok N)
noncomputable def rg91x1 : List (Nat × List Nat) := [(0, [0, 1]), (1, [2, 3])]
noncomputable def hd91x1 : Hints := []
noncomputable def h91x1s0 (N : Nat) : Sg Try.prog 0 91 := .start hd91x1 rg91x1
noncomputable def F91x1 (N : Nat) (v0 v1 v2 v3 v4 v5 : Int) (k0 : Bool → R) : R :=
  bnd (bif (decide (v0 > 0)) then (bif (bif (v3 == 0) then true else (decide (v1 < v4))) then true else (bif (v1 == v4) then (decide (v2 > v5)) else false)) else false) fun y0 =>
  k0 y0
noncomputable def V91x1 (v0 v1 v2 v3 v4 v5 : Int) : Bool := F91x1 N v0 v1 v2 v3 v4 v5 (fun p => p)
theorem tot91x1 (v0 v1 v2 v3 v4 v5 : Int) (k0 : Bool → R) : F91x1 N v0 v1 v2 v3 v4 v5 k0 = k0 (V91x1 N v0 v1 v2 v3 v4 v5) := by
  unfold V91x1 F91x1
  repeat' (first | rfl | apply cond_k | (apply bnd_k; intro _))
noncomputable def J91x1 (L : List Lf) (k0 : Bool → R) : R := F91x1 N (li L 0) (li L 1) (li L 2) (li L 3) (li L 4) (li L 5) k0
noncomputable def sh91x1 : Sh := { tmps := [(0, .g ([.i .i64, .i .i64, .i .i64])), (1, .g ([.i .i64, .i .i64, .i .i64]))], mem := [] }
noncomputable def A91x1 (L : List Lf) : List (Bool × Res) := bnd (J91x1 N L (fun p => p)) fun q => [(true, ([.c (.b q)], []))]
theorem raw91x1 (L : List Lf) : bd Try.prog (T90x2 N) (h91x1s0 N).h 91 sh91x1 L = J91x1 N L (fun p => some ([.c (.b p)], [])) := by kernel_rfl
theorem ok91x1 : FnOk Try.prog 91 sh91x1 (A91x1 N) :=
  (h91x1s0 N).fn progOk (T90x2_ok N) fun L x hx => ((raw91x1 N L).trans ((tot91x1 N ..).trans (alt0 _ _ hx)))
noncomputable def T91x1 : Oracle := ext 91 (spSh sh91x1 (A91x1 N)) (T90x2 N)
theorem T91x1_ok : OracleOk Try.prog (T91x1 N) := FnOk.to (ok91x1 N) (T90x2_ok N)
noncomputable def rg72x0 : List (Nat × List Nat) := [(0, [0]), (1, [0]), (2, [0, 3]), (3, [4, 0, 3]), (4, [0, 4, 3]), (5, [0, 4, 5, 3]), (6, [6, 7, 0, 4, 5, 3]), (7, [8, 7, 0, 4, 5, 3]), (9, [0, 4, 8, 5, 3, 7]), (10, [9, 5, 3, 8, 0, 4, 7]), (8, [8, 7, 0, 4, 5, 3]), (11, [3, 8, 0, 4]), (12, [0, 4, 8, 3]), (13, [4, 0, 3]), (14, [65, 0, 3]), (15, [3])]
noncomputable def hd72x0 : Hints := [(9, [4, 0, 3], [6, 1, 0, 5], [3]), (21, [8, 7, 0, 4, 5, 3], [7, 6, 5, 1, 0], [3]), (31, [9, 5, 3, 8, 0, 4, 7], [11, 7, 6, 5, 1, 0], [])]
noncomputable def h72x0s0 (N : Nat) : Sg Try.prog 2 72 := .start hd72x0 rg72x0
noncomputable def F72x0x31 (w48 w49 w50 w51 w52 w53 : Int) (k0 : Bool → R) : R :=
  bif (decide (w51 > 0)) then
    bnd (V91x1 N w48 w49 w50 w51 w52 w53) fun y0 =>
    k0 (!y0)
  else
    k0 false
noncomputable def V72x0x31 (w48 w49 w50 w51 w52 w53 : Int) : Bool := F72x0x31 N w48 w49 w50 w51 w52 w53 (fun p => p)
theorem tot72x0x31 (w48 w49 w50 w51 w52 w53 : Int) (k0 : Bool → R) : F72x0x31 N w48 w49 w50 w51 w52 w53 k0 = k0 (V72x0x31 N w48 w49 w50 w51 w52 w53) := by
  unfold V72x0x31 F72x0x31
  repeat' (first | rfl | apply cond_k | (apply bnd_k; intro _))
noncomputable def J72x0x31 (L : List Lf) (k0 : Bool → R) : R := F72x0x31 N (li L 48) (li L 49) (li L 50) (li L 51) (li L 52) (li L 53) k0
noncomputable def sh72x0x31 : Sh := { tmps := [(0, .c (.p 0 0)), (3, .c (.o 5)), (4, .c (.p 6 0)), (5, .c (.p 7 0)), (7, .c (.i .i64)), (8, .c (.i .i64)), (9, .c (.p 11 0))], mem := [(0, .box (.i .i64 :: .i .i64 :: .i .i64 :: .sl 66 :: .sl 68 :: rB 12 ([.sl 3, .sl 3, .m 1]))), (1, .map 106 59), (5, .row 3 true), (6, .box (rI 20 ([]))), (7, .box ([.i .i64, .i .i64, .i .i64])), (11, .box ([.i .i64, .i .i64, .i .i64]))] }
noncomputable def K72x0x31w0 (L : List Lf) (p : Bool) : Ex × St := (.normal, mg (ofSh sh72x0x31 L) [0, 3, 4, 5, 7, 8, 51] [(51, .c (.b p))] [0, 1, 5, 6, 7] [])
noncomputable def A72x0x31 (L : List Lf) : List (Bool × (Ex × St)) := bnd (J72x0x31 N L (fun p => p)) fun q => [(true, K72x0x31w0 L q)]
theorem raw72x0x31 (L : List Lf) : pc Try.prog (T91x1 N) (h72x0s0 N).h 2 100 72 31 sh72x0x31 L [3, 8, 0, 4, 7, 5, 51] [7, 6, 5, 1, 0] = J72x0x31 N L (fun p => some (K72x0x31w0 L p)) := by kernel_rfl
noncomputable def h72x0s1 : Sg Try.prog 2 72 :=
  (h72x0s0 N).cut (A72x0x31 N) progOk (T91x1_ok N) fun L x hx => (raw72x0x31 N L).trans ((tot72x0x31 N ..).trans (alt0 _ _ hx))
noncomputable def S72x0x21 (w0 w2 w3 w4 : Int) (w5 : Bool) (w6 : LD) (w7 : Bool) (w8 : LD) (w9 w10 w11 w12 w13 w14 w15 w16 w17 w18 w19 w20 w21 : Bool) (w22 : LD) (w23 : Bool) (w24 : LD) (w28 w29 w30 w31 w32 w33 w34 w35 w36 w37 w38 w39 w40 w41 w42 w43 w44 w45 w46 w47 w48 w49 w50 : Int) (w1 : Int) (w25 : (List (D × D))) (kr : Int → (List (D × D)) → Option R) (k0 : Int × (List (D × D)) → Option R) : Option R :=
  bif (decide (w1 < w0)) then
    bnd (G90x2 N w28 w29 w30 w31 w32 w33 w34 w35 w36 w37 w38 w39 w40 w41 w42 w43 w44 w45 w46 w47 w1 w2 w3 w4 w5 w6 w7 w8 w9 w10 w11 w12 w13 w14 w15 w16 w17 w18 w19 w20 w21 w22 w23 w24 w25) fun y0 =>
    bif y0.isSome then
      bnd (V72x0x31 N w48 w49 w50 (y0.getD default).1 (y0.getD default).2.1 (y0.getD default).2.2.1) fun y1 =>
      bif y1 then
        k0 (w1, (y0.getD default).2.2.2)
      else
        kr (IntKind.wrap .i64 (w1 + 1)) (y0.getD default).2.2.2
    else
      none
  else
    k0 (w1, w25)
noncomputable def L72x0x21 (N : Nat) {R : Type} (w0 w2 w3 w4 : Int) (w5 : Bool) (w6 : LD) (w7 : Bool) (w8 : LD) (w9 w10 w11 w12 w13 w14 w15 w16 w17 w18 w19 w20 w21 : Bool) (w22 : LD) (w23 : Bool) (w24 : LD) (w28 w29 w30 w31 w32 w33 w34 w35 w36 w37 w38 w39 w40 w41 w42 w43 w44 w45 w46 w47 w48 w49 w50 : Int) : Nat → Int → (List (D × D)) → (Int × (List (D × D)) → Option R) → Option R
  | 0, _, _, _ => none
  | m + 1, w1, w25, k0 => S72x0x21 N w0 w2 w3 w4 w5 w6 w7 w8 w9 w10 w11 w12 w13 w14 w15 w16 w17 w18 w19 w20 w21 w22 w23 w24 w28 w29 w30 w31 w32 w33 w34 w35 w36 w37 w38 w39 w40 w41 w42 w43 w44 w45 w46 w47 w48 w49 w50 w1 w25 (fun w1 w25 => L72x0x21 N w0 w2 w3 w4 w5 w6 w7 w8 w9 w10 w11 w12 w13 w14 w15 w16 w17 w18 w19 w20 w21 w22 w23 w24 w28 w29 w30 w31 w32 w33 w34 w35 w36 w37 w38 w39 w40 w41 w42 w43 w44 w45 w46 w47 w48 w49 w50 m w1 w25 k0) k0
noncomputable def G72x0x21 (w0 w2 w3 w4 : Int) (w5 : Bool) (w6 : LD) (w7 : Bool) (w8 : LD) (w9 w10 w11 w12 w13 w14 w15 w16 w17 w18 w19 w20 w21 : Bool) (w22 : LD) (w23 : Bool) (w24 : LD) (w28 w29 w30 w31 w32 w33 w34 w35 w36 w37 w38 w39 w40 w41 w42 w43 w44 w45 w46 w47 w48 w49 w50 : Int) (w1 : Int) (w25 : (List (D × D))) : Option (Int × (List (D × D))) := L72x0x21 N (R := (Int × (List (D × D)))) w0 w2 w3 w4 w5 w6 w7 w8 w9 w10 w11 w12 w13 w14 w15 w16 w17 w18 w19 w20 w21 w22 w23 w24 w28 w29 w30 w31 w32 w33 w34 w35 w36 w37 w38 w39 w40 w41 w42 w43 w44 w45 w46 w47 w48 w49 w50 N w1 w25 (fun p => some p)
noncomputable def J72x0x21 (L x : List Lf) (kr : List Lf → Option R) (k0 : Int × (List (D × D)) → Option R) : Option R := S72x0x21 N (li L 0) (li L 2) (li L 3) (li L 4) (lb L 5) (ll L 6) (lb L 7) (ll L 8) (lb L 9) (lb L 10) (lb L 11) (lb L 12) (lb L 13) (lb L 14) (lb L 15) (lb L 16) (lb L 17) (lb L 18) (lb L 19) (lb L 20) (lb L 21) (ll L 22) (lb L 23) (ll L 24) (li L 28) (li L 29) (li L 30) (li L 31) (li L 32) (li L 33) (li L 34) (li L 35) (li L 36) (li L 37) (li L 38) (li L 39) (li L 40) (li L 41) (li L 42) (li L 43) (li L 44) (li L 45) (li L 46) (li L 47) (li L 48) (li L 49) (li L 50) (li x 0) (lm x 1) (fun w1 w25 => kr [.i w1, .m w25]) k0
theorem sb72x0x21 (L x : List Lf) (kr : List Lf → Option R) (k0 : Int × (List (D × D)) → Option R) : J72x0x21 N L x kr k0 = (J72x0x21 N L x (fun y => some (.inl y)) (fun p => some (.inr p))).bind (sumE kr k0) := by
  unfold J72x0x21 S72x0x21
  repeat' (first | rfl | apply cond_b | (apply bnd_b; intro _))
noncomputable def Q72x0x21 (L : List Lf) (m : Nat) (x : List Lf) : Option (Int × (List (D × D))) := L72x0x21 N (R := (Int × (List (D × D)))) (li L 0) (li L 2) (li L 3) (li L 4) (lb L 5) (ll L 6) (lb L 7) (ll L 8) (lb L 9) (lb L 10) (lb L 11) (lb L 12) (lb L 13) (lb L 14) (lb L 15) (lb L 16) (lb L 17) (lb L 18) (lb L 19) (lb L 20) (lb L 21) (ll L 22) (lb L 23) (ll L 24) (li L 28) (li L 29) (li L 30) (li L 31) (li L 32) (li L 33) (li L 34) (li L 35) (li L 36) (li L 37) (li L 38) (li L 39) (li L 40) (li L 41) (li L 42) (li L 43) (li L 44) (li L 45) (li L 46) (li L 47) (li L 48) (li L 49) (li L 50) m (li x 0) (lm x 1) (fun p => some p)
noncomputable def sh72x0x21 : Sh := { tmps := [(0, .c (.p 0 0)), (3, .c (.o 5)), (4, .c (.p 6 0)), (5, .c (.p 7 0)), (7, .c (.i .i64)), (8, .c (.i .i64))], mem := [(0, .box (.i .i64 :: .i .i64 :: .i .i64 :: .sl 66 :: .sl 68 :: rB 12 ([.sl 3, .sl 3, .m 1]))), (1, .map 106 59), (5, .row 3 true), (6, .box (rI 20 ([]))), (7, .box ([.i .i64, .i .i64, .i .i64]))] }
noncomputable def K72x0x21w0 (L : List Lf) (p : Int × (List (D × D))) : Ex × St := ((.exit 2), mg (ofSh sh72x0x21 L) [0, 3, 4, 8] [(8, .c (.i .i64 p.1))] [0, 1, 5, 6] [(1, .map 106 59 p.2)])
noncomputable def A72x0x21 (L : List Lf) : List (Bool × (Ex × St)) := bnd (Q72x0x21 N L N (pk sh72x0x21 [1, 25] L)) fun q => [(q.isSome, K72x0x21w0 L (q.getD default))]
theorem step72x0x21 (m : Nat) (kn : St → Option (Ex × St)) (L x : List Lf) : lpB Try.prog (T91x1 N) (h72x0s1 N).h 2 72 21 sh72x0x21 [1, 25] [2, 3, 8, 0, 4] [6, 5, 1, 0] (m + 100) kn L x = J72x0x21 N L x (fun y => kn (ofSh sh72x0x21 (mx sh72x0x21 [1, 25] L y))) (fun p => some (K72x0x21w0 L p)) := by kernel_rfl
noncomputable def h72x0s2 : Sg Try.prog 2 72 :=
  (h72x0s1 N).lp (A72x0x21 N) N progOk (T91x1_ok N) (fun m kn L x => (step72x0x21 N m kn L x).trans (sb72x0x21 N L x _ _)) (fun L m x => sb72x0x21 N L x (Q72x0x21 N L m) some) fun L x hx => alt1 x hx
noncomputable def S72x0x9 (w0 w1 w2 : Int) (w3 : Bool) (w4 : LD) (w5 : Bool) (w6 : LD) (w7 w8 w9 w10 w11 w12 w13 w14 w15 w16 w17 w18 w19 : Bool) (w20 : LD) (w21 : Bool) (w22 : LD) (w23 : (List (D × D))) (w24 : Bool) (w25 : LD) (w26 w27 w28 w29 w30 w31 w32 w33 w34 w35 w36 w37 w38 w39 w40 w41 w42 w43 w44 w45 : Int) (kr : (List (D × D)) → Bool → LD → Int → Int → Int → Int → Int → Int → Int → Int → Int → Int → Int → Int → Int → Int → Int → Int → Int → Int → Int → Int → Option R) (k0 : Ty15 → Option R) : Option R :=
  bif (decide (w26 < w1)) then
    bnd (R78x1 N N w26 w27 w28 w29 w30 w31 w32 w33 w34 w35 w36 w37 w38 w39 w40 w41 w42 w43 w44 w45 w0 w1 w2 w3 w4 w5 w6 w7 w8 w9 w10 w11 w12 w13 w14 w15 w16 w17 w18 w19 w20 w21 w22 w23) fun y0 =>
    bif y0.isSome then
      bnd (G89x0 N w26 w4 w20) fun y1 =>
      bif y1.isSome then
        bnd (G72x0x21 N (y1.getD default).2 w0 w1 w2 w3 w4 w5 w6 w7 w8 w9 w10 w11 w12 w13 w14 w15 w16 w17 w18 w19 w20 w21 w22 w26 w27 w28 w29 w30 w31 w32 w33 w34 w35 w36 w37 w38 w39 w40 w41 w42 w43 w44 w45 (y0.getD default).1 (y0.getD default).2.1 (y0.getD default).2.2.1 (y1.getD default).1 (y0.getD default).2.2.2) fun y2 =>
        bif y2.isSome then
          bif (decide ((w25.length + 1) * 8 ≤ room) && decide ((w25.length + 1) ≤ strMax)) then
            bnd (G88x0 N w26 w27 w28 w29 w30 w31 w32 w33 w34 w35 w36 w37 w38 w39 w40 w41 w42 w43 w44 w45 (y2.getD default).1 w0 w1 w4 w6 w7 w8 w9 w10 w11 w12 w13 w14 w15 w16 w17 w18) fun y3 =>
            bif y3.isSome then
              bnd (y3.getD default).2.2.2.2.2.2.2.2.2.2.2.2.2.2.2.2.2.2.1 fun y4 =>
              bnd (y3.getD default).2.2.2.2.2.2.2.2.2.2.2.2.2.2.2.2.2.2.2.1 fun y5 =>
              bnd (y3.getD default).2.2.2.2.2.2.2.2.2.2.2.2.2.2.2.2.2.2.2.2 fun y6 =>
              kr (y2.getD default).2 false (w25 ++ [(.i (y2.getD default).1)]) (y3.getD default).1 (y3.getD default).2.1 (y3.getD default).2.2.1 (y3.getD default).2.2.2.1 (y3.getD default).2.2.2.2.1 (y3.getD default).2.2.2.2.2.1 (y3.getD default).2.2.2.2.2.2.1 (y3.getD default).2.2.2.2.2.2.2.1 (y3.getD default).2.2.2.2.2.2.2.2.1 (y3.getD default).2.2.2.2.2.2.2.2.2.1 (y3.getD default).2.2.2.2.2.2.2.2.2.2.1 (y3.getD default).2.2.2.2.2.2.2.2.2.2.2.1 (y3.getD default).2.2.2.2.2.2.2.2.2.2.2.2.1 (y3.getD default).2.2.2.2.2.2.2.2.2.2.2.2.2.1 (y3.getD default).2.2.2.2.2.2.2.2.2.2.2.2.2.2.1 (y3.getD default).2.2.2.2.2.2.2.2.2.2.2.2.2.2.2.1 (y3.getD default).2.2.2.2.2.2.2.2.2.2.2.2.2.2.2.2.1 (y3.getD default).2.2.2.2.2.2.2.2.2.2.2.2.2.2.2.2.2.1 y4 y5
            else
              none
          else
            none
        else
          none
      else
        none
    else
      none
  else
    k0 (w23, w24, w25)
noncomputable def L72x0x9 (N : Nat) {R : Type} (w0 w1 w2 : Int) (w3 : Bool) (w4 : LD) (w5 : Bool) (w6 : LD) (w7 w8 w9 w10 w11 w12 w13 w14 w15 w16 w17 w18 w19 : Bool) (w20 : LD) (w21 : Bool) (w22 : LD) : Nat → (List (D × D)) → Bool → LD → Int → Int → Int → Int → Int → Int → Int → Int → Int → Int → Int → Int → Int → Int → Int → Int → Int → Int → Int → Int → (Ty15 → Option R) → Option R
  | 0, _, _, _, _, _, _, _, _, _, _, _, _, _, _, _, _, _, _, _, _, _, _, _, _ => none
  | m + 1, w23, w24, w25, w26, w27, w28, w29, w30, w31, w32, w33, w34, w35, w36, w37, w38, w39, w40, w41, w42, w43, w44, w45, k0 => S72x0x9 N w0 w1 w2 w3 w4 w5 w6 w7 w8 w9 w10 w11 w12 w13 w14 w15 w16 w17 w18 w19 w20 w21 w22 w23 w24 w25 w26 w27 w28 w29 w30 w31 w32 w33 w34 w35 w36 w37 w38 w39 w40 w41 w42 w43 w44 w45 (fun w23 w24 w25 w26 w27 w28 w29 w30 w31 w32 w33 w34 w35 w36 w37 w38 w39 w40 w41 w42 w43 w44 w45 => L72x0x9 N w0 w1 w2 w3 w4 w5 w6 w7 w8 w9 w10 w11 w12 w13 w14 w15 w16 w17 w18 w19 w20 w21 w22 m w23 w24 w25 w26 w27 w28 w29 w30 w31 w32 w33 w34 w35 w36 w37 w38 w39 w40 w41 w42 w43 w44 w45 k0) k0
noncomputable def G72x0x9 (w0 w1 w2 : Int) (w3 : Bool) (w4 : LD) (w5 : Bool) (w6 : LD) (w7 w8 w9 w10 w11 w12 w13 w14 w15 w16 w17 w18 w19 : Bool) (w20 : LD) (w21 : Bool) (w22 : LD) (w23 : (List (D × D))) (w24 : Bool) (w25 : LD) (w26 w27 w28 w29 w30 w31 w32 w33 w34 w35 w36 w37 w38 w39 w40 w41 w42 w43 w44 w45 : Int) : Option (Ty15) := L72x0x9 N (R := (Ty15)) w0 w1 w2 w3 w4 w5 w6 w7 w8 w9 w10 w11 w12 w13 w14 w15 w16 w17 w18 w19 w20 w21 w22 N w23 w24 w25 w26 w27 w28 w29 w30 w31 w32 w33 w34 w35 w36 w37 w38 w39 w40 w41 w42 w43 w44 w45 (fun p => some p)
noncomputable def J72x0x9 (L x : List Lf) (kr : List Lf → Option R) (k0 : Ty15 → Option R) : Option R := S72x0x9 N (li L 0) (li L 1) (li L 2) (lb L 3) (ll L 4) (lb L 5) (ll L 6) (lb L 7) (lb L 8) (lb L 9) (lb L 10) (lb L 11) (lb L 12) (lb L 13) (lb L 14) (lb L 15) (lb L 16) (lb L 17) (lb L 18) (lb L 19) (ll L 20) (lb L 21) (ll L 22) (lm x 0) (lb x 1) (ll x 2) (li x 3) (li x 4) (li x 5) (li x 6) (li x 7) (li x 8) (li x 9) (li x 10) (li x 11) (li x 12) (li x 13) (li x 14) (li x 15) (li x 16) (li x 17) (li x 18) (li x 19) (li x 20) (li x 21) (li x 22) (fun w23 w24 w25 w26 w27 w28 w29 w30 w31 w32 w33 w34 w35 w36 w37 w38 w39 w40 w41 w42 w43 w44 w45 => kr [.m w23, .b w24, .l w25, .i w26, .i w27, .i w28, .i w29, .i w30, .i w31, .i w32, .i w33, .i w34, .i w35, .i w36, .i w37, .i w38, .i w39, .i w40, .i w41, .i w42, .i w43, .i w44, .i w45]) k0
theorem sb72x0x9 (L x : List Lf) (kr : List Lf → Option R) (k0 : Ty15 → Option R) : J72x0x9 N L x kr k0 = (J72x0x9 N L x (fun y => some (.inl y)) (fun p => some (.inr p))).bind (sumE kr k0) := by
  unfold J72x0x9 S72x0x9
  repeat' (first | rfl | apply cond_b | (apply bnd_b; intro _))
noncomputable def Q72x0x9 (L : List Lf) (m : Nat) (x : List Lf) : Option (Ty15) := L72x0x9 N (R := (Ty15)) (li L 0) (li L 1) (li L 2) (lb L 3) (ll L 4) (lb L 5) (ll L 6) (lb L 7) (lb L 8) (lb L 9) (lb L 10) (lb L 11) (lb L 12) (lb L 13) (lb L 14) (lb L 15) (lb L 16) (lb L 17) (lb L 18) (lb L 19) (ll L 20) (lb L 21) (ll L 22) m (lm x 0) (lb x 1) (ll x 2) (li x 3) (li x 4) (li x 5) (li x 6) (li x 7) (li x 8) (li x 9) (li x 10) (li x 11) (li x 12) (li x 13) (li x 14) (li x 15) (li x 16) (li x 17) (li x 18) (li x 19) (li x 20) (li x 21) (li x 22) (fun p => some p)
noncomputable def sh72x0x9 : Sh := { tmps := [(0, .c (.p 0 0)), (3, .c (.o 5)), (4, .c (.p 6 0))], mem := [(0, .box (.i .i64 :: .i .i64 :: .i .i64 :: .sl 66 :: .sl 68 :: rB 12 ([.sl 3, .sl 3, .m 1]))), (1, .map 106 59), (5, .row 3 true), (6, .box (rI 20 ([])))] }
noncomputable def K72x0x9w0 (L : List Lf) (p : Ty15) : Ex × St := ((.exit 0), mg (ofSh sh72x0x9 L) [3] [] [0, 1, 5] [(1, .map 106 59 p.1), (5, .row 3 true p.2.1 p.2.2)])
noncomputable def A72x0x9 (L : List Lf) : List (Bool × (Ex × St)) := bnd (Q72x0x9 N L N (pk sh72x0x9 [23, 24, 25, 26, 27, 28, 29, 30, 31, 32, 33, 34, 35, 36, 37, 38, 39, 40, 41, 42, 43, 44, 45] L)) fun q => [(q.isSome, K72x0x9w0 L (q.getD default))]
theorem step72x0x9 (m : Nat) (kn : St → Option (Ex × St)) (L x : List Lf) : lpB Try.prog (T91x1 N) (h72x0s2 N).h 2 72 9 sh72x0x9 [23, 24, 25, 26, 27, 28, 29, 30, 31, 32, 33, 34, 35, 36, 37, 38, 39, 40, 41, 42, 43, 44, 45] [2, 3] [5, 0, 1] (m + 100) kn L x = J72x0x9 N L x (fun y => kn (ofSh sh72x0x9 (mx sh72x0x9 [23, 24, 25, 26, 27, 28, 29, 30, 31, 32, 33, 34, 35, 36, 37, 38, 39, 40, 41, 42, 43, 44, 45] L y))) (fun p => some (K72x0x9w0 L p)) := by kernel_rfl
noncomputable def h72x0s3 : Sg Try.prog 2 72 :=
  (h72x0s2 N).lp (A72x0x9 N) N progOk (T91x1_ok N) (fun m kn L x => (step72x0x9 N m kn L x).trans (sb72x0x9 N L x _ _)) (fun L m x => sb72x0x9 N L x (Q72x0x9 N L m) some) fun L x hx => alt1 x hx
noncomputable def F72x0 (v0 v1 v2 : Int) (v3 : Bool) (v4 : LD) (v5 : Bool) (v6 : LD) (v7 v8 v9 v10 v11 v12 v13 v14 v15 v16 v17 v18 v19 : Bool) (v20 : LD) (v21 : Bool) (v22 : LD) (v23 : (List (D × D))) (k0 : Bool × LD × (List (D × D)) → Option R) : Option R :=
  bnd (G72x0x9 N v0 v1 v2 v3 v4 v5 v6 v7 v8 v9 v10 v11 v12 v13 v14 v15 v16 v17 v18 v19 v20 v21 v22 v23 true [] 0 0 v2 0 0 0 0 0 0 0 0 0 0 0 0 0 0 0 0 0) fun y0 =>
  bif y0.isSome then
    k0 ((y0.getD default).2.1, (y0.getD default).2.2, (y0.getD default).1)
  else
    none
noncomputable def G72x0 (v0 v1 v2 : Int) (v3 : Bool) (v4 : LD) (v5 : Bool) (v6 : LD) (v7 v8 v9 v10 v11 v12 v13 v14 v15 v16 v17 v18 v19 : Bool) (v20 : LD) (v21 : Bool) (v22 : LD) (v23 : (List (D × D))) : Option (Bool × LD × (List (D × D))) := F72x0 N v0 v1 v2 v3 v4 v5 v6 v7 v8 v9 v10 v11 v12 v13 v14 v15 v16 v17 v18 v19 v20 v21 v22 v23 (fun p => some p)
theorem bind72x0 (v0 v1 v2 : Int) (v3 : Bool) (v4 : LD) (v5 : Bool) (v6 : LD) (v7 v8 v9 v10 v11 v12 v13 v14 v15 v16 v17 v18 v19 : Bool) (v20 : LD) (v21 : Bool) (v22 : LD) (v23 : (List (D × D))) (k0 : Bool × LD × (List (D × D)) → Option R) : F72x0 N v0 v1 v2 v3 v4 v5 v6 v7 v8 v9 v10 v11 v12 v13 v14 v15 v16 v17 v18 v19 v20 v21 v22 v23 k0 = (G72x0 N v0 v1 v2 v3 v4 v5 v6 v7 v8 v9 v10 v11 v12 v13 v14 v15 v16 v17 v18 v19 v20 v21 v22 v23).bind k0 := by
  unfold G72x0 F72x0
  repeat' (first | rfl | apply cond_b | (apply bnd_b; intro _))
noncomputable def J72x0 (L : List Lf) (k0 : Bool × LD × (List (D × D)) → Option R) : Option R := F72x0 N (li L 0) (li L 1) (li L 2) (lb L 3) (ll L 4) (lb L 5) (ll L 6) (lb L 7) (lb L 8) (lb L 9) (lb L 10) (lb L 11) (lb L 12) (lb L 13) (lb L 14) (lb L 15) (lb L 16) (lb L 17) (lb L 18) (lb L 19) (ll L 20) (lb L 21) (ll L 22) (lm L 23) k0
noncomputable def sh72x0 : Sh := { tmps := [(0, .c (.p 0 0))], mem := [(0, .box (.i .i64 :: .i .i64 :: .i .i64 :: .sl 66 :: .sl 68 :: rB 12 ([.sl 3, .sl 3, .m 1]))), (1, .map 106 59)] }
noncomputable def K72x0w0 (L : List Lf) (p : Bool × LD × (List (D × D))) : Res := ([.c (.sl 3 p.1 p.2.1)], mgA (ofSh sh72x0 L).mem [(1, .map 106 59 p.2.2)] [0, 1])
noncomputable def A72x0 (L : List Lf) : List (Bool × Res) := bnd (J72x0 N L (fun p => some p)) fun q => [(q.isSome, K72x0w0 L (q.getD default))]
theorem raw72x0 (L : List Lf) : bd Try.prog (T91x1 N) (h72x0s3 N).h 72 sh72x0 L = J72x0 N L (fun p => some (K72x0w0 L p)) := by kernel_rfl
theorem ok72x0 : FnOk Try.prog 72 sh72x0 (A72x0 N) :=
  (h72x0s3 N).fn progOk (T91x1_ok N) fun L x hx => ((raw72x0 N L).trans ((bind72x0 N ..).trans (alt1 x hx)))
noncomputable def T72x0 : Oracle := ext 72 (spSh sh72x0 (A72x0 N)) (T91x1 N)
theorem T72x0_ok : OracleOk Try.prog (T72x0 N) := FnOk.to (ok72x0 N) (T91x1_ok N)
noncomputable def rg43x0 : List (Nat × List Nat) := [(0, [0, 1, 2]), (1, [3, 1, 2]), (2, [9, 3, 1, 2]), (3, [9]), (4, [3, 1, 2]), (5, [11, 10]), (6, []), (7, [10])]
noncomputable def hd43x0 : Hints := []
noncomputable def h43x0s0 (N : Nat) : Sg Try.prog 0 43 := .start hd43x0 rg43x0
noncomputable def F43x0 (v0 v1 v2 : Int) (v3 : Bool) (v4 : LD) (v5 : Bool) (v6 : LD) (v7 : Bool) (v8 : LD) (v9 : Bool) (v10 : LD) (k0 : Ty16 → Option R) : Option R :=
  bnd (G46x0 N v0 v1 v2 v4 v6 v8) fun y0 =>
  bif y0.isSome then
    bif ((y0.getD default) != 0) then
      k0 (true, [], false, (y0.getD default))
    else
      bnd (G47x0 N v0 v1 v2 v3 v4 v5 v6 false false false false false false false false false false false false v7 v8 v9 v10) fun y1 =>
      bif y1.isSome then
        bif ((y1.getD default).1 == 0) then
          k0 (true, [], false, 0)
        else
          bnd (G72x0 N v0 v1 v2 v3 v4 v5 v6 false false false false false false false false false false false false v7 v8 v9 v10 (y1.getD default).2.2.2) fun y2 =>
          bif y2.isSome then
            k0 ((y2.getD default).1, (y2.getD default).2.1, true, 0)
          else
            none
      else
        none
  else
    none
noncomputable def G43x0 (v0 v1 v2 : Int) (v3 : Bool) (v4 : LD) (v5 : Bool) (v6 : LD) (v7 : Bool) (v8 : LD) (v9 : Bool) (v10 : LD) : Option (Ty16) := F43x0 N v0 v1 v2 v3 v4 v5 v6 v7 v8 v9 v10 (fun p => some p)
theorem bind43x0 (v0 v1 v2 : Int) (v3 : Bool) (v4 : LD) (v5 : Bool) (v6 : LD) (v7 : Bool) (v8 : LD) (v9 : Bool) (v10 : LD) (k0 : Ty16 → Option R) : F43x0 N v0 v1 v2 v3 v4 v5 v6 v7 v8 v9 v10 k0 = (G43x0 N v0 v1 v2 v3 v4 v5 v6 v7 v8 v9 v10).bind k0 := by
  unfold G43x0 F43x0
  repeat' (first | rfl | apply cond_b | (apply bnd_b; intro _))
noncomputable def J43x0 (L : List Lf) (k0 : Ty16 → Option R) : Option R := F43x0 N (li L 0) (li L 1) (li L 2) (lb L 3) (ll L 4) (lb L 5) (ll L 6) (lb L 7) (ll L 8) (lb L 9) (ll L 10) k0
noncomputable def sh43x0 : Sh := { tmps := [(0, .g ([.i .i64, .i .i64, .i .i64, .sl 66, .sl 68])), (1, .c (.sl 3)), (2, .c (.sl 3))], mem := [] }
noncomputable def K43x0w0 (L : List Lf) (p : Ty16) : Res := ([.c (.sl 3 p.1 p.2.1), .c (.b p.2.2.1), .c (.i .i64 p.2.2.2)], [])
noncomputable def A43x0 (L : List Lf) : List (Bool × Res) := bnd (J43x0 N L (fun p => some p)) fun q => [(q.isSome, K43x0w0 L (q.getD default))]
theorem raw43x0 (L : List Lf) : bd Try.prog (T72x0 N) (h43x0s0 N).h 43 sh43x0 L = J43x0 N L (fun p => some (K43x0w0 L p)) := by kernel_rfl
theorem ok43x0 : FnOk Try.prog 43 sh43x0 (A43x0 N) :=
  (h43x0s0 N).fn progOk (T72x0_ok N) fun L x hx => ((raw43x0 N L).trans ((bind43x0 N ..).trans (alt1 x hx)))
noncomputable def T43x0 : Oracle := ext 43 (spSh sh43x0 (A43x0 N)) (T72x0 N)
theorem T43x0_ok : OracleOk Try.prog (T43x0 N) := FnOk.to (ok43x0 N) (T72x0_ok N)
noncomputable def rg11x0 : List (Nat × List Nat) := [(0, [0, 1]), (1, [2, 1])]
noncomputable def hd11x0 : Hints := []
noncomputable def h11x0s0 (N : Nat) : Sg Try.prog 0 11 := .start hd11x0 rg11x0
noncomputable def F11x0 (v0 v1 v2 : Int) (v3 : Bool) (v4 : LD) (v5 : Bool) (v6 : LD) (v7 : Bool) (v8 : LD) (k0 : Ty16 → Option R) : Option R :=
  bnd (G43x0 N v0 v1 v2 v3 v4 v5 v6 v7 v8 true []) fun y0 =>
  bif y0.isSome then
    k0 (y0.getD default)
  else
    none
noncomputable def G11x0 (v0 v1 v2 : Int) (v3 : Bool) (v4 : LD) (v5 : Bool) (v6 : LD) (v7 : Bool) (v8 : LD) : Option (Ty16) := F11x0 N v0 v1 v2 v3 v4 v5 v6 v7 v8 (fun p => some p)
theorem bind11x0 (v0 v1 v2 : Int) (v3 : Bool) (v4 : LD) (v5 : Bool) (v6 : LD) (v7 : Bool) (v8 : LD) (k0 : Ty16 → Option R) : F11x0 N v0 v1 v2 v3 v4 v5 v6 v7 v8 k0 = (G11x0 N v0 v1 v2 v3 v4 v5 v6 v7 v8).bind k0 := by
  unfold G11x0 F11x0
  repeat' (first | rfl | apply cond_b | (apply bnd_b; intro _))
noncomputable def J11x0 (L : List Lf) (k0 : Ty16 → Option R) : Option R := F11x0 N (li L 0) (li L 1) (li L 2) (lb L 3) (ll L 4) (lb L 5) (ll L 6) (lb L 7) (ll L 8) k0
noncomputable def sh11x0 : Sh := { tmps := [(0, .g ([.i .i64, .i .i64, .i .i64, .sl 66, .sl 68])), (1, .c (.sl 3))], mem := [] }
noncomputable def K11x0w0 (L : List Lf) (p : Ty16) : Res := ([.c (.sl 3 p.1 p.2.1), .c (.b p.2.2.1), .c (.i .i64 p.2.2.2)], [])
noncomputable def A11x0 (L : List Lf) : List (Bool × Res) := bnd (J11x0 N L (fun p => some p)) fun q => [(q.isSome, K11x0w0 L (q.getD default))]
theorem raw11x0 (L : List Lf) : bd Try.prog (T43x0 N) (h11x0s0 N).h 11 sh11x0 L = J11x0 N L (fun p => some (K11x0w0 L p)) := by kernel_rfl
theorem ok11x0 : FnOk Try.prog 11 sh11x0 (A11x0 N) :=
  (h11x0s0 N).fn progOk (T43x0_ok N) fun L x hx => ((raw11x0 N L).trans ((bind11x0 N ..).trans (alt1 x hx)))
noncomputable def T11x0 : Oracle := ext 11 (spSh sh11x0 (A11x0 N)) (T43x0 N)
theorem T11x0_ok : OracleOk Try.prog (T11x0 N) := FnOk.to (ok11x0 N) (T43x0_ok N)
noncomputable def rg15x0 : List (Nat × List Nat) := [(0, [0, 1]), (1, [0, 1]), (2, []), (3, [0, 1]), (4, [13, 12, 0, 1]), (5, [13, 0, 1, 12]), (6, [0, 5, 1, 13, 12]), (7, []), (8, [13, 12, 0, 1]), (9, [])]
noncomputable def hd15x0 : Hints := [(12, [13, 12, 0, 1], [], [])]
noncomputable def h15x0s0 (N : Nat) : Sg Try.prog 0 15 := .start hd15x0 rg15x0
noncomputable def S15x0x12 (N : Nat) (w1 w3 : LD) (w4 : Int) (w5 : Int) (kr : Int → Option R) (k0 : Unit → Option R) (k1 : Unit → Option R) : Option R :=
  bif (decide (w5 < w4)) then
    bif (inB w5 w1.length) then
      bif (inB w5 w3.length) then
        bnd ((w1.getD w5.toNat (.i 0)).toI != (w3.getD w5.toNat (.i 0)).toI) fun y0 =>
        bif y0 then
          k0 ()
        else
          kr (IntKind.wrap .i64 (w5 + 1))
      else
        none
    else
      none
  else
    k1 ()
noncomputable def L15x0x12 (N : Nat) {R : Type} (w1 w3 : LD) (w4 : Int) : Nat → Int → (Unit → Option R) → (Unit → Option R) → Option R
  | 0, _, _, _ => none
  | m + 1, w5, k0, k1 => S15x0x12 N w1 w3 w4 w5 (fun w5 => L15x0x12 N w1 w3 w4 m w5 k0 k1) k0 k1
noncomputable def G15x0x12 (w1 w3 : LD) (w4 : Int) (w5 : Int) : Option (Sum (Unit) (Unit)) := L15x0x12 N (R := (Sum (Unit) (Unit))) w1 w3 w4 N w5 (fun p => some (.inl p)) (fun p => some (.inr p))
noncomputable def J15x0x12 (L x : List Lf) (kr : List Lf → Option R) (k0 : Unit → Option R) (k1 : Unit → Option R) : Option R := S15x0x12 N (ll L 1) (ll L 3) (li L 4) (li x 0) (fun w5 => kr [.i w5]) k0 k1
theorem sb15x0x12 (L x : List Lf) (kr : List Lf → Option R) (k0 : Unit → Option R) (k1 : Unit → Option R) : J15x0x12 N L x kr k0 k1 = (J15x0x12 N L x (fun y => some (.inl y)) (fun p => some (.inr (.inl p))) (fun p => some (.inr (.inr p)))).bind (sumE kr (sumE k0 k1)) := by
  unfold J15x0x12 S15x0x12
  repeat' (first | rfl | apply cond_b | (apply bnd_b; intro _))
noncomputable def Q15x0x12 (L : List Lf) (m : Nat) (x : List Lf) : Option (Sum (Unit) (Unit)) := L15x0x12 N (R := (Sum (Unit) (Unit))) (ll L 1) (ll L 3) (li L 4) m (li x 0) (fun p => some (.inl p)) (fun p => some (.inr p))
noncomputable def sh15x0x12 : Sh := { tmps := [(0, .c (.sl 3)), (1, .c (.sl 3)), (12, .c (.i .i64)), (13, .c (.i .i64))], mem := [] }
noncomputable def A15x0x12 (L : List Lf) : List (Bool × (Ex × St)) := bnd (Q15x0x12 N L N (pk sh15x0x12 [5] L)) fun q => [((inlB q), (.ret, ⟨[(4, .c (.b false))], []⟩)), ((inrQ q).isSome, ((.exit 0), ⟨[], []⟩))]
theorem step15x0x12 (m : Nat) (kn : St → Option (Ex × St)) (L x : List Lf) : lpB Try.prog (T11x0 N) (h15x0s0 N).h 0 15 12 sh15x0x12 [5] [4] [] (m + 100) kn L x = J15x0x12 N L x (fun y => kn (ofSh sh15x0x12 (mx sh15x0x12 [5] L y))) (fun _ => some (.ret, ⟨[(4, .c (.b false))], []⟩)) (fun _ => some ((.exit 0), ⟨[], []⟩)) := by kernel_rfl
noncomputable def h15x0s1 : Sg Try.prog 0 15 :=
  (h15x0s0 N).lp (A15x0x12 N) N progOk (T11x0_ok N) (fun m kn L x => (step15x0x12 N m kn L x).trans (sb15x0x12 N L x _ _ _)) (fun L m x => sb15x0x12 N L x (Q15x0x12 N L m) (fun p => some (.inl p)) (fun p => some (.inr p))) fun L x hx => (altS alt1) x hx
noncomputable def F15x0 (v1 v3 : LD) (k0 : Bool → Option R) : Option R :=
  bif ((v1.length : Int) != (v3.length : Int)) then
    k0 false
  else
    bnd (G15x0x12 N v1 v3 (v1.length : Int) 0) fun y0 =>
    bif (inlB y0) then
      k0 false
    else
      bif (inrQ y0).isSome then
        k0 true
      else
        none
noncomputable def G15x0 (v1 v3 : LD) : Option (Bool) := F15x0 N v1 v3 (fun p => some p)
theorem bind15x0 (v1 v3 : LD) (k0 : Bool → Option R) : F15x0 N v1 v3 k0 = (G15x0 N v1 v3).bind k0 := by
  unfold G15x0 F15x0
  repeat' (first | rfl | apply cond_b | (apply bnd_b; intro _))
noncomputable def sh15x0 : Sh := { tmps := [(0, .c (.sl 3)), (1, .c (.sl 3))], mem := [] }
noncomputable def A15x0 (L : List Lf) : List (Bool × Res) := bnd (F15x0 N (ll L 1) (ll L 3) (fun p => some p)) fun q => [(q.isSome, ([.c (.b (q.getD default))], []))]
theorem raw15x0 (L : List Lf) : bd Try.prog (T11x0 N) (h15x0s1 N).h 15 sh15x0 L = F15x0 N (ll L 1) (ll L 3) (fun p => some ([.c (.b p)], [])) := by kernel_rfl
theorem ok15x0 : FnOk Try.prog 15 sh15x0 (A15x0 N) :=
  (h15x0s1 N).fn progOk (T11x0_ok N) fun L x hx => ((raw15x0 N L).trans ((bind15x0 N ..).trans (alt1 x hx)))
noncomputable def T15x0 : Oracle := ext 15 (spSh sh15x0 (A15x0 N)) (T11x0 N)
theorem T15x0_ok : OracleOk Try.prog (T15x0 N) := FnOk.to (ok15x0 N) (T11x0_ok N)
noncomputable def rg16x0 : List (Nat × List Nat) := [(0, []), (1, []), (2, [1]), (3, [4, 3, 2])]
noncomputable def hd16x0 : Hints := [(10, [4, 3, 2], [], [])]
noncomputable def h16x0s0 (N : Nat) : Sg Try.prog 0 16 := .start hd16x0 rg16x0
noncomputable def F16x0x10 (w1 : LD) (w2 : Bool) (w3 : Int) (k0 : Bool → Option R) : Option R :=
  bif (bif (w3 == 0) then w2 else false) then
    bnd (G15x0 N w1 [(.i 0), (.i (-1)), (.i 0)]) fun y0 =>
    bif y0.isSome then
      k0 (y0.getD default)
    else
      none
  else
    k0 false
noncomputable def G16x0x10 (w1 : LD) (w2 : Bool) (w3 : Int) : Option (Bool) := F16x0x10 N w1 w2 w3 (fun p => some p)
theorem bind16x0x10 (w1 : LD) (w2 : Bool) (w3 : Int) (k0 : Bool → Option R) : F16x0x10 N w1 w2 w3 k0 = (G16x0x10 N w1 w2 w3).bind k0 := by
  unfold G16x0x10 F16x0x10
  repeat' (first | rfl | apply cond_b | (apply bnd_b; intro _))
noncomputable def sh16x0x10 : Sh := { tmps := [(2, .c (.sl 3)), (3, .c (.b)), (4, .c (.i .i64))], mem := [] }
noncomputable def A16x0x10 (L : List Lf) : List (Bool × (Ex × St)) := bnd (F16x0x10 N (ll L 1) (lb L 2) (li L 3) (fun p => some p)) fun q => [(q.isSome, (.normal, ⟨[(0, .c (.b (q.getD default)))], []⟩))]
theorem raw16x0x10 (L : List Lf) : pc Try.prog (T15x0 N) (h16x0s0 N).h 0 100 16 10 sh16x0x10 L [0] [] = F16x0x10 N (ll L 1) (lb L 2) (li L 3) (fun p => some (.normal, ⟨[(0, .c (.b p))], []⟩)) := by kernel_rfl
noncomputable def h16x0s1 : Sg Try.prog 0 16 :=
  (h16x0s0 N).cut (A16x0x10 N) progOk (T15x0_ok N) fun L x hx => (raw16x0x10 N L).trans ((bind16x0x10 N ..).trans (alt1 x hx))
noncomputable def F16x0 (k0 : Bool → Option R) : Option R :=
  bnd (G11x0 N 0 3 0 false [(.a [(.s ([102, 97, 115, 116] : List UInt8)), (.i 0), (.i 0), (.i 5), (.b true)])] false [(.a [(.i 5), (.i 0), (.i 2), (.i 0), (.i 0), (.s ([] : List UInt8))])] true []) fun y0 =>
  bif y0.isSome then
    bnd (G16x0x10 N (y0.getD default).2.1 (y0.getD default).2.2.1 (y0.getD default).2.2.2) fun y1 =>
    bif y1.isSome then
      k0 (y1.getD default)
    else
      none
  else
    none
noncomputable def G16x0 : Option (Bool) := F16x0 N (fun p => some p)
theorem bind16x0 (k0 : Bool → Option R) : F16x0 N k0 = (G16x0 N).bind k0 := by
  unfold G16x0 F16x0
  repeat' (first | rfl | apply cond_b | (apply bnd_b; intro _))
noncomputable def sh16x0 : Sh := { tmps := [], mem := [] }
noncomputable def A16x0 (L : List Lf) : List (Bool × Res) := bnd (F16x0 N (fun p => some p)) fun q => [(q.isSome, ([.c (.b (q.getD default))], []))]
theorem raw16x0 (L : List Lf) : bd Try.prog (T15x0 N) (h16x0s1 N).h 16 sh16x0 L = F16x0 N (fun p => some ([.c (.b p)], [])) := by kernel_rfl
theorem ok16x0 : FnOk Try.prog 16 sh16x0 (A16x0 N) :=
  (h16x0s1 N).fn progOk (T15x0_ok N) fun L x hx => ((raw16x0 N L).trans ((bind16x0 N ..).trans (alt1 x hx)))
noncomputable def T16x0 : Oracle := ext 16 (spSh sh16x0 (A16x0 N)) (T15x0 N)
theorem T16x0_ok : OracleOk Try.prog (T16x0 N) := FnOk.to (ok16x0 N) (T15x0_ok N)
noncomputable def rg13x0 : List (Nat × List Nat) := [(0, [0, 1]), (1, [2, 1]), (2, [6, 2, 1]), (3, [6]), (4, [2, 1]), (5, [8])]
noncomputable def hd13x0 : Hints := []
noncomputable def h13x0s0 (N : Nat) : Sg Try.prog 0 13 := .start hd13x0 rg13x0
noncomputable def F13x0 (v0 v1 v2 : Int) (v3 : Bool) (v4 : LD) (v5 : Bool) (v6 : LD) (v7 : Bool) (v8 : LD) (k0 : Int × Int → Option R) : Option R :=
  bnd (G46x0 N v0 v1 v2 v4 v6 v8) fun y0 =>
  bif y0.isSome then
    bif ((y0.getD default) != 0) then
      k0 (0, (y0.getD default))
    else
      bnd (G47x0 N v0 v1 v2 v3 v4 v5 v6 false false false false false false false false false false false false v7 v8 true []) fun y1 =>
      bif y1.isSome then
        k0 ((y1.getD default).1, 0)
      else
        none
  else
    none
noncomputable def G13x0 (v0 v1 v2 : Int) (v3 : Bool) (v4 : LD) (v5 : Bool) (v6 : LD) (v7 : Bool) (v8 : LD) : Option (Int × Int) := F13x0 N v0 v1 v2 v3 v4 v5 v6 v7 v8 (fun p => some p)
theorem bind13x0 (v0 v1 v2 : Int) (v3 : Bool) (v4 : LD) (v5 : Bool) (v6 : LD) (v7 : Bool) (v8 : LD) (k0 : Int × Int → Option R) : F13x0 N v0 v1 v2 v3 v4 v5 v6 v7 v8 k0 = (G13x0 N v0 v1 v2 v3 v4 v5 v6 v7 v8).bind k0 := by
  unfold G13x0 F13x0
  repeat' (first | rfl | apply cond_b | (apply bnd_b; intro _))
noncomputable def J13x0 (L : List Lf) (k0 : Int × Int → Option R) : Option R := F13x0 N (li L 0) (li L 1) (li L 2) (lb L 3) (ll L 4) (lb L 5) (ll L 6) (lb L 7) (ll L 8) k0
noncomputable def sh13x0 : Sh := { tmps := [(0, .g ([.i .i64, .i .i64, .i .i64, .sl 66, .sl 68])), (1, .c (.sl 3))], mem := [] }
noncomputable def A13x0 (L : List Lf) : List (Bool × Res) := bnd (J13x0 N L (fun p => some p)) fun q => [(q.isSome, ([.c (.i .i64 (q.getD default).1), .c (.i .i64 (q.getD default).2)], []))]
theorem raw13x0 (L : List Lf) : bd Try.prog (T16x0 N) (h13x0s0 N).h 13 sh13x0 L = J13x0 N L (fun p => some ([.c (.i .i64 p.1), .c (.i .i64 p.2)], [])) := by kernel_rfl
theorem ok13x0 : FnOk Try.prog 13 sh13x0 (A13x0 N) :=
  (h13x0s0 N).fn progOk (T16x0_ok N) fun L x hx => ((raw13x0 N L).trans ((bind13x0 N ..).trans (alt1 x hx)))
noncomputable def T13x0 : Oracle := ext 13 (spSh sh13x0 (A13x0 N)) (T16x0 N)
theorem T13x0_ok : OracleOk Try.prog (T13x0 N) := FnOk.to (ok13x0 N) (T16x0_ok N)
noncomputable def rg25x0 : List (Nat × List Nat) := [(0, [0, 1, 2]), (1, [3, 1, 2, 6]), (2, [7, 1, 2, 3, 6]), (3, [1, 2, 3, 7, 6]), (4, [14, 13, 12, 2, 3, 7, 6]), (5, [12, 14, 2, 3, 7, 13, 6]), (6, [9, 2, 3, 7, 14, 13, 12, 6]), (7, [7, 3, 9, 14, 13, 12, 2, 6]), (8, [14, 13, 12, 2, 3, 7, 6]), (9, [7, 6])]
noncomputable def hd25x0 : Hints := [(12, [14, 13, 12, 2, 3, 7, 6], [7, 6, 3, 50007004], [50007004]), (23, [7, 3, 9, 14, 13, 12, 2, 6, 31], [50007004, 7, 6, 3], [])]
noncomputable def h25x0s0 (N : Nat) : Sg Try.prog 0 25 := .start hd25x0 rg25x0
noncomputable def F25x0x23 (N : Nat) (w1 : Int) (w6 : Bool) (w13 w27 : LD) (k0 : LD → Option R) (k1 : Unit → Option R) : Option R :=
  bif w6 then
    bif (inB w1 w13.length) then
      bif (decide ((w27.length + 1) * 56 ≤ room) && decide ((w27.length + 1) ≤ strMax)) then
        bnd ((w27 ++ [(.a [(.i ((w13.getD w1.toNat (.i 0)).cell 0).toI), (.i ((w13.getD w1.toNat (.i 0)).cell 1).toI), (.i ((w13.getD w1.toNat (.i 0)).cell 2).toI), (.i ((w13.getD w1.toNat (.i 0)).cell 3).toI), (.i ((w13.getD w1.toNat (.i 0)).cell 4).toI), (.s ((w13.getD w1.toNat (.i 0)).cell 5).toS)])]) : List D) fun y0 =>
        k0 y0
      else
        none
    else
      none
  else
    k1 ()
noncomputable def G25x0x23 (w1 : Int) (w6 : Bool) (w13 w27 : LD) : Option (Sum (LD) (Unit)) := F25x0x23 N w1 w6 w13 w27 (fun p => some (.inl p)) (fun p => some (.inr p))
theorem bind25x0x23 (w1 : Int) (w6 : Bool) (w13 w27 : LD) (k0 : LD → Option R) (k1 : Unit → Option R) : F25x0x23 N w1 w6 w13 w27 k0 k1 = (G25x0x23 N w1 w6 w13 w27).bind (sumE k0 k1) := by
  unfold G25x0x23 F25x0x23
  repeat' (first | rfl | apply cond_b | (apply bnd_b; intro _))
noncomputable def J25x0x23 (L : List Lf) (k0 : LD → Option R) (k1 : Unit → Option R) : Option R := F25x0x23 N (li L 1) (lb L 6) (ll L 13) (ll L 27) k0 k1
noncomputable def sh25x0x23 : Sh := { tmps := [(2, .c (.i .i64)), (3, .c (.p 3 0)), (6, .c (.p 6 0)), (7, .c (.p 7 0)), (9, .c (.i .i64)), (12, .c (.sl 3)), (13, .c (.i .i64)), (14, .c (.i .i64)), (31, .c (.b))], mem := [(3, .box ([.i .i64, .i .i64, .i .i64, .sl 66, .sl 68])), (6, .box ([.i .i64, .i .i64, .i .i64, .sl 66, .sl 68])), (7, .box ([.i .i64, .i .i64, .i .i64, .sl 66, .o 50007004])), (50007004, .row 68 true)] }
noncomputable def K25x0x23w0 (L : List Lf) (p : LD) : Ex × St := (.normal, mg (ofSh sh25x0x23 L) [2, 3, 6, 7, 12, 13, 14] [] [3, 6, 7, 40] [(7, .box [.i .i64 (li L 21), .i .i64 (li L 22), .i .i64 (li L 23), .sl 66 (lb L 24) (ll L 25), .o 40]), (40, .row 68 true false p)])
noncomputable def K25x0x23w1 (L : List Lf) (_ : Unit) : Ex × St := (.normal, mg (ofSh sh25x0x23 L) [2, 3, 6, 7, 12, 13, 14] [] [3, 6, 7, 50007004] [])
noncomputable def A25x0x23 (L : List Lf) : List (Bool × (Ex × St)) := bnd (J25x0x23 N L (fun p => some (.inl p)) (fun p => some (.inr p))) fun q => [((inlB q), K25x0x23w0 L (inlV q)), ((inrQ q).isSome, K25x0x23w1 L ())]
theorem raw25x0x23 (L : List Lf) : pc Try.prog (T13x0 N) (h25x0s0 N).h 0 100 25 23 sh25x0x23 L [14, 13, 12, 2, 3, 7, 6] [40, 7, 6, 3, 50007004] = J25x0x23 N L (fun p => some (K25x0x23w0 L p)) (fun _ => some (K25x0x23w1 L ())) := by kernel_rfl
noncomputable def h25x0s1 : Sg Try.prog 0 25 :=
  (h25x0s0 N).cut (A25x0x23 N) progOk (T13x0_ok N) fun L x hx => (raw25x0x23 N L).trans ((bind25x0x23 N ..).trans ((altS alt1) x hx))
noncomputable def S25x0x12 (w0 : Int) (w2 : LD) (w3 : Int) (w11 : LD) (w4 : Int) (w24 : Bool) (w25 : LD) (kr : Int → Bool → LD → Option R) (k0 : Bool × LD → Option R) : Option R :=
  bif (decide (w4 < w3)) then
    bif (inB w4 w2.length) then
      bnd (bif ((w2.getD w4.toNat (.i 0)).toI != w0) then (decide ((w2.getD w4.toNat (.i 0)).toI ≥ 0)) else false) fun y0 =>
      bnd (bif y0 then (decide ((w2.getD w4.toNat (.i 0)).toI < (w11.length : Int))) else false) fun y1 =>
      bnd (G25x0x23 N (w2.getD w4.toNat (.i 0)).toI y1 w11 w25) fun y2 =>
      bif (inlB y2) then
        kr (IntKind.wrap .i64 (w4 + 1)) false (inlV y2)
      else
        bif (inrQ y2).isSome then
          kr (IntKind.wrap .i64 (w4 + 1)) w24 w25
        else
          none
    else
      none
  else
    k0 (w24, w25)
noncomputable def L25x0x12 (N : Nat) {R : Type} (w0 : Int) (w2 : LD) (w3 : Int) (w11 : LD) : Nat → Int → Bool → LD → (Bool × LD → Option R) → Option R
  | 0, _, _, _, _ => none
  | m + 1, w4, w24, w25, k0 => S25x0x12 N w0 w2 w3 w11 w4 w24 w25 (fun w4 w24 w25 => L25x0x12 N w0 w2 w3 w11 m w4 w24 w25 k0) k0
noncomputable def G25x0x12 (w0 : Int) (w2 : LD) (w3 : Int) (w11 : LD) (w4 : Int) (w24 : Bool) (w25 : LD) : Option (Bool × LD) := L25x0x12 N (R := (Bool × LD)) w0 w2 w3 w11 N w4 w24 w25 (fun p => some p)
noncomputable def J25x0x12 (L x : List Lf) (kr : List Lf → Option R) (k0 : Bool × LD → Option R) : Option R := S25x0x12 N (li L 0) (ll L 2) (li L 3) (ll L 11) (li x 0) (lb x 1) (ll x 2) (fun w4 w24 w25 => kr [.i w4, .b w24, .l w25]) k0
theorem sb25x0x12 (L x : List Lf) (kr : List Lf → Option R) (k0 : Bool × LD → Option R) : J25x0x12 N L x kr k0 = (J25x0x12 N L x (fun y => some (.inl y)) (fun p => some (.inr p))).bind (sumE kr k0) := by
  unfold J25x0x12 S25x0x12
  repeat' (first | rfl | apply cond_b | (apply bnd_b; intro _))
noncomputable def Q25x0x12 (L : List Lf) (m : Nat) (x : List Lf) : Option (Bool × LD) := L25x0x12 N (R := (Bool × LD)) (li L 0) (ll L 2) (li L 3) (ll L 11) m (li x 0) (lb x 1) (ll x 2) (fun p => some p)
noncomputable def sh25x0x12 : Sh := { tmps := [(2, .c (.i .i64)), (3, .c (.p 3 0)), (6, .c (.p 6 0)), (7, .c (.p 7 0)), (12, .c (.sl 3)), (13, .c (.i .i64)), (14, .c (.i .i64))], mem := [(3, .box ([.i .i64, .i .i64, .i .i64, .sl 66, .sl 68])), (6, .box ([.i .i64, .i .i64, .i .i64, .sl 66, .sl 68])), (7, .box ([.i .i64, .i .i64, .i .i64, .sl 66, .o 50007004])), (50007004, .row 68 true)] }
noncomputable def K25x0x12w0 (L : List Lf) (p : Bool × LD) : Ex × St := ((.exit 0), mg (ofSh sh25x0x12 L) [6, 7] [] [6, 7, 50007004] [(50007004, .row 68 true p.1 p.2)])
noncomputable def A25x0x12 (L : List Lf) : List (Bool × (Ex × St)) := bnd (Q25x0x12 N L N (pk sh25x0x12 [4, 24, 25] L)) fun q => [(q.isSome, K25x0x12w0 L (q.getD default))]
theorem step25x0x12 (m : Nat) (kn : St → Option (Ex × St)) (L x : List Lf) : lpB Try.prog (T13x0 N) (h25x0s1 N).h 0 25 12 sh25x0x12 [4, 24, 25] [6, 7] [50007004, 7, 6] (m + 100) kn L x = J25x0x12 N L x (fun y => kn (ofSh sh25x0x12 (mx sh25x0x12 [4, 24, 25] L y))) (fun p => some (K25x0x12w0 L p)) := by kernel_rfl
noncomputable def h25x0s2 : Sg Try.prog 0 25 :=
  (h25x0s1 N).lp (A25x0x12 N) N progOk (T13x0_ok N) (fun m kn L x => (step25x0x12 N m kn L x).trans (sb25x0x12 N L x _ _)) (fun L m x => sb25x0x12 N L x (Q25x0x12 N L m) some) fun L x hx => alt1 x hx
noncomputable def F25x0 (v6 v8 : LD) (v9 : Int) (k0 : Bool × LD → Option R) : Option R :=
  bnd (G25x0x12 N v9 v8 (v8.length : Int) v6 0 true []) fun y0 =>
  bif y0.isSome then
    k0 (y0.getD default)
  else
    none
noncomputable def G25x0 (v6 v8 : LD) (v9 : Int) : Option (Bool × LD) := F25x0 N v6 v8 v9 (fun p => some p)
theorem bind25x0 (v6 v8 : LD) (v9 : Int) (k0 : Bool × LD → Option R) : F25x0 N v6 v8 v9 k0 = (G25x0 N v6 v8 v9).bind k0 := by
  unfold G25x0 F25x0
  repeat' (first | rfl | apply cond_b | (apply bnd_b; intro _))
noncomputable def sh25x0 : Sh := { tmps := [(0, .g ([.i .i64, .i .i64, .i .i64, .sl 66, .sl 68])), (1, .c (.sl 3)), (2, .c (.i .i64))], mem := [] }
noncomputable def K25x0w0 (L : List Lf) (p : Bool × LD) : Res := ([.g [.i .i64 (li L 0), .i .i64 (li L 1), .i .i64 (li L 2), .sl 66 (lb L 3) (ll L 4), .sl 68 p.1 p.2]], [])
noncomputable def A25x0 (L : List Lf) : List (Bool × Res) := bnd (F25x0 N (ll L 6) (ll L 8) (li L 9) (fun p => some p)) fun q => [(q.isSome, K25x0w0 L (q.getD default))]
theorem raw25x0 (L : List Lf) : bd Try.prog (T13x0 N) (h25x0s2 N).h 25 sh25x0 L = F25x0 N (ll L 6) (ll L 8) (li L 9) (fun p => some (K25x0w0 L p)) := by kernel_rfl
theorem ok25x0 : FnOk Try.prog 25 sh25x0 (A25x0 N) :=
  (h25x0s2 N).fn progOk (T13x0_ok N) fun L x hx => ((raw25x0 N L).trans ((bind25x0 N ..).trans (alt1 x hx)))
noncomputable def T25x0 : Oracle := ext 25 (spSh sh25x0 (A25x0 N)) (T13x0 N)
theorem T25x0_ok : OracleOk Try.prog (T25x0 N) := FnOk.to (ok25x0 N) (T13x0_ok N)
noncomputable def rg6x0 : List (Nat × List Nat) := [(0, [0, 1]), (1, [2, 1]), (2, [7, 2, 1, 6, 5]), (3, [2, 1, 7]), (4, [7, 10]), (5, [2, 1, 6, 5]), (6, [7, 6, 11, 2, 5, 1]), (7, []), (8, [6, 2, 5, 1]), (9, []), (10, [2, 5, 1]), (11, [13, 12, 5, 2, 1]), (12, []), (13, [5, 2, 1]), (14, [73, 72, 71, 2, 5, 1]), (15, [71, 73, 2, 5, 1, 72]), (16, [2, 5, 15, 1, 73, 72, 71]), (17, [17, 16, 73, 72, 71, 2, 5, 1]), (18, []), (19, [73, 72, 71, 2, 5, 1]), (20, [])]
noncomputable def hd6x0 : Hints := [(13, [7, 10], [], []), (42, [73, 72, 71, 2, 5, 1], [2], [])]
noncomputable def h6x0s0 (N : Nat) : Sg Try.prog 0 6 := .start hd6x0 rg6x0
noncomputable def F6x0x13 (w0 w1 : Int) (k0 : Bool → Option R) : Option R :=
  bif (w0 == w1) then
    bnd (G16x0 N) fun y0 =>
    bif y0.isSome then
      k0 (y0.getD default)
    else
      none
  else
    k0 false
noncomputable def G6x0x13 (w0 w1 : Int) : Option (Bool) := F6x0x13 N w0 w1 (fun p => some p)
theorem bind6x0x13 (w0 w1 : Int) (k0 : Bool → Option R) : F6x0x13 N w0 w1 k0 = (G6x0x13 N w0 w1).bind k0 := by
  unfold G6x0x13 F6x0x13
  repeat' (first | rfl | apply cond_b | (apply bnd_b; intro _))
noncomputable def sh6x0x13 : Sh := { tmps := [(7, .c (.i .i64)), (10, .c (.i .i64))], mem := [] }
noncomputable def A6x0x13 (L : List Lf) : List (Bool × (Ex × St)) := bnd (F6x0x13 N (li L 0) (li L 1) (fun p => some p)) fun q => [(q.isSome, (.normal, ⟨[(4, .c (.b (q.getD default)))], []⟩))]
theorem raw6x0x13 (L : List Lf) : pc Try.prog (T25x0 N) (h6x0s0 N).h 0 100 6 13 sh6x0x13 L [4] [] = F6x0x13 N (li L 0) (li L 1) (fun p => some (.normal, ⟨[(4, .c (.b p))], []⟩)) := by kernel_rfl
noncomputable def h6x0s1 : Sg Try.prog 0 6 :=
  (h6x0s0 N).cut (A6x0x13 N) progOk (T25x0_ok N) fun L x hx => (raw6x0x13 N L).trans ((bind6x0x13 N ..).trans (alt1 x hx))
noncomputable def S6x0x42 (w0 : Bool) (w1 w3 w5 : LD) (w6 w8 w9 w10 : Int) (w11 : Bool) (w12 w14 : LD) (w7 : Int) (kr : Int → Option R) (k0 : Unit → Option R) (k1 : Unit → Option R) : Option R :=
  bif (decide (w7 < w6)) then
    bif (inB w7 w5.length) then
      bnd (G25x0 N w14 w3 (w5.getD w7.toNat (.i 0)).toI) fun y0 =>
      bif y0.isSome then
        bnd (G13x0 N w8 w9 w10 w11 w12 (y0.getD default).1 (y0.getD default).2 w0 w1) fun y1 =>
        bif y1.isSome then
          bnd (bif ((y1.getD default).2 != 0) then true else ((y1.getD default).1 == 0)) fun y2 =>
          bif y2 then
            k0 ()
          else
            kr (IntKind.wrap .i64 (w7 + 1))
        else
          none
      else
        none
    else
      none
  else
    k1 ()
noncomputable def L6x0x42 (N : Nat) {R : Type} (w0 : Bool) (w1 w3 w5 : LD) (w6 w8 w9 w10 : Int) (w11 : Bool) (w12 w14 : LD) : Nat → Int → (Unit → Option R) → (Unit → Option R) → Option R
  | 0, _, _, _ => none
  | m + 1, w7, k0, k1 => S6x0x42 N w0 w1 w3 w5 w6 w8 w9 w10 w11 w12 w14 w7 (fun w7 => L6x0x42 N w0 w1 w3 w5 w6 w8 w9 w10 w11 w12 w14 m w7 k0 k1) k0 k1
noncomputable def G6x0x42 (w0 : Bool) (w1 w3 w5 : LD) (w6 w8 w9 w10 : Int) (w11 : Bool) (w12 w14 : LD) (w7 : Int) : Option (Sum (Unit) (Unit)) := L6x0x42 N (R := (Sum (Unit) (Unit))) w0 w1 w3 w5 w6 w8 w9 w10 w11 w12 w14 N w7 (fun p => some (.inl p)) (fun p => some (.inr p))
noncomputable def J6x0x42 (L x : List Lf) (kr : List Lf → Option R) (k0 : Unit → Option R) (k1 : Unit → Option R) : Option R := S6x0x42 N (lb L 0) (ll L 1) (ll L 3) (ll L 5) (li L 6) (li L 8) (li L 9) (li L 10) (lb L 11) (ll L 12) (ll L 14) (li x 0) (fun w7 => kr [.i w7]) k0 k1
theorem sb6x0x42 (L x : List Lf) (kr : List Lf → Option R) (k0 : Unit → Option R) (k1 : Unit → Option R) : J6x0x42 N L x kr k0 k1 = (J6x0x42 N L x (fun y => some (.inl y)) (fun p => some (.inr (.inl p))) (fun p => some (.inr (.inr p)))).bind (sumE kr (sumE k0 k1)) := by
  unfold J6x0x42 S6x0x42
  repeat' (first | rfl | apply cond_b | (apply bnd_b; intro _))
noncomputable def Q6x0x42 (L : List Lf) (m : Nat) (x : List Lf) : Option (Sum (Unit) (Unit)) := L6x0x42 N (R := (Sum (Unit) (Unit))) (lb L 0) (ll L 1) (ll L 3) (ll L 5) (li L 6) (li L 8) (li L 9) (li L 10) (lb L 11) (ll L 12) (ll L 14) m (li x 0) (fun p => some (.inl p)) (fun p => some (.inr p))
noncomputable def sh6x0x42 : Sh := { tmps := [(1, .c (.sl 3)), (2, .c (.p 2 0)), (5, .c (.sl 3)), (71, .c (.sl 3)), (72, .c (.i .i64)), (73, .c (.i .i64))], mem := [(2, .box ([.i .i64, .i .i64, .i .i64, .sl 66, .sl 68]))] }
noncomputable def A6x0x42 (L : List Lf) : List (Bool × (Ex × St)) := bnd (Q6x0x42 N L N (pk sh6x0x42 [7] L)) fun q => [((inlB q), (.ret, ⟨[(4, .c (.b false))], []⟩)), ((inrQ q).isSome, ((.exit 0), ⟨[], []⟩))]
theorem step6x0x42 (m : Nat) (kn : St → Option (Ex × St)) (L x : List Lf) : lpB Try.prog (T25x0 N) (h6x0s1 N).h 0 6 42 sh6x0x42 [7] [4] [] (m + 100) kn L x = J6x0x42 N L x (fun y => kn (ofSh sh6x0x42 (mx sh6x0x42 [7] L y))) (fun _ => some (.ret, ⟨[(4, .c (.b false))], []⟩)) (fun _ => some ((.exit 0), ⟨[], []⟩)) := by kernel_rfl
noncomputable def h6x0s2 : Sg Try.prog 0 6 :=
  (h6x0s1 N).lp (A6x0x42 N) N progOk (T25x0_ok N) (fun m kn L x => (step6x0x42 N m kn L x).trans (sb6x0x42 N L x _ _ _)) (fun L m x => sb6x0x42 N L x (Q6x0x42 N L m) (fun p => some (.inl p)) (fun p => some (.inr p))) fun L x hx => (altS alt1) x hx
noncomputable def F6x0 (v0 v1 v2 : Int) (v3 : Bool) (v4 : LD) (v5 : Bool) (v6 : LD) (v7 : Bool) (v8 : LD) (k0 : Bool → Option R) : Option R :=
  bnd (G23x0 N v0 v1 v2 v3 v4 v5 v6 v7 v8) fun y0 =>
  bif y0.isSome then
    bif ((y0.getD default).2.2.2 != 0) then
      bnd (G24x0 N v0 v1 v2 v3 v4 v5 v6 v7 v8) fun y1 =>
      bif y1.isSome then
        bnd (G6x0x13 N (y0.getD default).2.2.2 (y1.getD default).2.2.2) fun y2 =>
        bif y2.isSome then
          k0 (y2.getD default)
        else
          none
      else
        none
    else
      bnd (G13x0 N v0 v1 v2 v3 v4 v5 v6 v7 v8) fun y3 =>
      bif y3.isSome then
        bnd (bif ((y3.getD default).2 != 0) then true else (!((y0.getD default).2.2.1 == ((y3.getD default).1 == 0)))) fun y4 =>
        bif y4 then
          k0 false
        else
          bif (!(y0.getD default).2.2.1) then
            bnd (G16x0 N) fun y5 =>
            bif y5.isSome then
              k0 (y5.getD default)
            else
              none
          else
            bnd (G25x0 N v6 (y0.getD default).2.1 (-1)) fun y6 =>
            bif y6.isSome then
              bnd (G13x0 N v0 v1 v2 v3 v4 (y6.getD default).1 (y6.getD default).2 v7 v8) fun y7 =>
              bif y7.isSome then
                bnd (bif ((y7.getD default).2 != 0) then true else ((y7.getD default).1 != 0)) fun y8 =>
                bif y8 then
                  k0 false
                else
                  bnd (G6x0x42 N v7 v8 (y0.getD default).2.1 (y0.getD default).2.1 ((y0.getD default).2.1.length : Int) v0 v1 v2 v3 v4 v6 0) fun y9 =>
                  bif (inlB y9) then
                    k0 false
                  else
                    bif (inrQ y9).isSome then
                      bnd (G16x0 N) fun y5 =>
                      bif y5.isSome then
                        k0 (y5.getD default)
                      else
                        none
                    else
                      none
              else
                none
            else
              none
      else
        none
  else
    none
noncomputable def G6x0 (v0 v1 v2 : Int) (v3 : Bool) (v4 : LD) (v5 : Bool) (v6 : LD) (v7 : Bool) (v8 : LD) : Option (Bool) := F6x0 N v0 v1 v2 v3 v4 v5 v6 v7 v8 (fun p => some p)
theorem bind6x0 (v0 v1 v2 : Int) (v3 : Bool) (v4 : LD) (v5 : Bool) (v6 : LD) (v7 : Bool) (v8 : LD) (k0 : Bool → Option R) : F6x0 N v0 v1 v2 v3 v4 v5 v6 v7 v8 k0 = (G6x0 N v0 v1 v2 v3 v4 v5 v6 v7 v8).bind k0 := by
  unfold G6x0 F6x0
  repeat' (first | rfl | apply cond_b | (apply bnd_b; intro _))
noncomputable def J6x0 (L : List Lf) (k0 : Bool → Option R) : Option R := F6x0 N (li L 0) (li L 1) (li L 2) (lb L 3) (ll L 4) (lb L 5) (ll L 6) (lb L 7) (ll L 8) k0
noncomputable def sh6x0 : Sh := { tmps := [(0, .g ([.i .i64, .i .i64, .i .i64, .sl 66, .sl 68])), (1, .c (.sl 3))], mem := [] }
noncomputable def A6x0 (L : List Lf) : List (Bool × Res) := bnd (J6x0 N L (fun p => some p)) fun q => [(q.isSome, ([.c (.b (q.getD default))], []))]
theorem raw6x0 (L : List Lf) : bd Try.prog (T25x0 N) (h6x0s2 N).h 6 sh6x0 L = J6x0 N L (fun p => some ([.c (.b p)], [])) := by kernel_rfl
theorem ok6x0 : FnOk Try.prog 6 sh6x0 (A6x0 N) :=
  (h6x0s2 N).fn progOk (T25x0_ok N) fun L x hx => ((raw6x0 N L).trans ((bind6x0 N ..).trans (alt1 x hx)))
noncomputable def T6x0 : Oracle := ext 6 (spSh sh6x0 (A6x0 N)) (T25x0 N)
theorem T6x0_ok : OracleOk Try.prog (T6x0 N) := FnOk.to (ok6x0 N) (T25x0_ok N)
end Go.Proofs.Ytefmjfcdgadggaa
