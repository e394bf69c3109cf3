/- Functions of the program as plain Lean definitions, each with the proof that the program computes it. No condition. Printed by a program of the prover, part 2. -/
import Derived.Test.YtefmjfcdgadggaaG8p1
import Derived.KernelRfl
set_option linter.all false
set_option maxRecDepth 100000
namespace Go.Proofs.Ytefmjfcdgadggaa
open Go Go.AM
variable (N : Nat) {R : Type}
theorem step74x0x6 (m : Nat) (kn : St → Option (Ex × St)) (L x : List Lf) : lpB Try.prog (T44x0 N) (h74x0s1 N).h 0 74 6 sh74x0x6 [5] [4] [] (m + 100) kn L x = J74x0x6 N L x (fun y => kn (ofSh sh74x0x6 (mx sh74x0x6 [5] L y))) (fun _ => some (.ret, ⟨[(4, .c (.b true))], []⟩)) (fun _ => some ((.exit 0), ⟨[], []⟩)) := by kernel_rfl
noncomputable def h74x0s2 : Sg Try.prog 0 74 :=
  (h74x0s1 N).lp (A74x0x6 N) N progOk (T44x0_ok N) (fun m kn L x => (step74x0x6 N m kn L x).trans (sb74x0x6 N L x _ _ _)) (fun L m x => sb74x0x6 N L x (Q74x0x6 N L m) (fun p => some (.inl p)) (fun p => some (.inr p))) fun L x hx => (altS alt1) x hx
noncomputable def F74x0 (v6 v8 : LD) (k0 : Bool → Option R) : Option R :=
  bnd (G74x0x6 N v8 v6 (v6.length : Int) 0) fun y0 =>
  bif (inlB y0) then
    k0 true
  else
    bif (inrQ y0).isSome then
      k0 false
    else
      none
noncomputable def G74x0 (v6 v8 : LD) : Option (Bool) := F74x0 N v6 v8 (fun p => some p)
theorem bind74x0 (v6 v8 : LD) (k0 : Bool → Option R) : F74x0 N v6 v8 k0 = (G74x0 N v6 v8).bind k0 := by
  unfold G74x0 F74x0
  repeat' (first | rfl | apply cond_b | (apply bnd_b; intro _))
noncomputable def sh74x0 : Sh := { tmps := [(0, .g ([.i .i64, .i .i64, .i .i64, .sl 66, .sl 68])), (1, .c (.sl 3))], mem := [] }
noncomputable def A74x0 (L : List Lf) : List (Bool × Res) := bnd (F74x0 N (ll L 6) (ll L 8) (fun p => some p)) fun q => [(q.isSome, ([.c (.b (q.getD default))], []))]
theorem raw74x0 (L : List Lf) : bd Try.prog (T44x0 N) (h74x0s2 N).h 74 sh74x0 L = F74x0 N (ll L 6) (ll L 8) (fun p => some ([.c (.b p)], [])) := by kernel_rfl
theorem ok74x0 : FnOk Try.prog 74 sh74x0 (A74x0 N) :=
  (h74x0s2 N).fn progOk (T44x0_ok N) fun L x hx => ((raw74x0 N L).trans ((bind74x0 N ..).trans (alt1 x hx)))
noncomputable def T74x0 : Oracle := ext 74 (spSh sh74x0 (A74x0 N)) (T44x0 N)
theorem T74x0_ok : OracleOk Try.prog (T74x0 N) := FnOk.to (ok74x0 N) (T44x0_ok N)
noncomputable def rg63x0 : List (Nat × List Nat) := [(0, [0, 1]), (1, [1, 4, 2]), (2, [4]), (3, [2, 1, 4])]
noncomputable def hd63x0 : Hints := []
noncomputable def h63x0s0 (N : Nat) : Sg Try.prog 0 63 := .start hd63x0 rg63x0
noncomputable def F63x0 (N : Nat) (v4 : LD) (v7 : Int) (k0 : Ty11 → Option R) : Option R :=
  bif (decide (v7 < 0)) then
    k0 (([] : List UInt8), 0, 0, 0, false)
  else
    bif (inB v7 v4.length) then
      k0 (((v4.getD v7.toNat (.i 0)).cell 0).toS, ((v4.getD v7.toNat (.i 0)).cell 1).toI, ((v4.getD v7.toNat (.i 0)).cell 2).toI, ((v4.getD v7.toNat (.i 0)).cell 3).toI, ((v4.getD v7.toNat (.i 0)).cell 4).toB)
    else
      none
noncomputable def G63x0 (v4 : LD) (v7 : Int) : Option (Ty11) := F63x0 N v4 v7 (fun p => some p)
theorem bind63x0 (v4 : LD) (v7 : Int) (k0 : Ty11 → Option R) : F63x0 N v4 v7 k0 = (G63x0 N v4 v7).bind k0 := by
  unfold G63x0 F63x0
  repeat' (first | rfl | apply cond_b | (apply bnd_b; intro _))
noncomputable def sh63x0 : Sh := { tmps := [(0, .g ([.i .i64, .i .i64, .i .i64, .sl 66, .sl 68])), (1, .c (.i .i64))], mem := [] }
noncomputable def K63x0w0 (L : List Lf) (p : Ty11) : Res := ([.g [.s p.1, .i .i64 p.2.1, .i .i64 p.2.2.1, .i .i64 p.2.2.2.1, .b p.2.2.2.2]], [])
noncomputable def A63x0 (L : List Lf) : List (Bool × Res) := bnd (F63x0 N (ll L 4) (li L 7) (fun p => some p)) fun q => [(q.isSome, K63x0w0 L (q.getD default))]
theorem raw63x0 (L : List Lf) : bd Try.prog (T74x0 N) (h63x0s0 N).h 63 sh63x0 L = F63x0 N (ll L 4) (li L 7) (fun p => some (K63x0w0 L p)) := by kernel_rfl
theorem ok63x0 : FnOk Try.prog 63 sh63x0 (A63x0 N) :=
  (h63x0s0 N).fn progOk (T74x0_ok N) fun L x hx => ((raw63x0 N L).trans ((bind63x0 N ..).trans (alt1 x hx)))
noncomputable def T63x0 : Oracle := ext 63 (spSh sh63x0 (A63x0 N)) (T74x0 N)
theorem T63x0_ok : OracleOk Try.prog (T63x0 N) := FnOk.to (ok63x0 N) (T74x0_ok N)
noncomputable def rg92x0 : List (Nat × List Nat) := [(0, [1, 0, 2]), (1, [0, 2, 4]), (2, [7, 4, 0, 2]), (3, []), (4, [0, 4, 2, 7]), (5, [29, 28, 27, 0, 4, 2, 7]), (6, [27, 29, 0, 4, 2, 28, 7]), (7, [9, 0, 4, 2, 29, 28, 27, 7]), (8, [34, 0, 4, 9, 2, 29, 28, 27, 7]), (11, [34, 0, 4, 9, 7, 29, 28, 27, 2]), (14, [34, 4, 9, 7, 29, 28, 27, 0, 2]), (15, [4, 9, 7, 29, 28, 27, 0, 2]), (16, []), (12, [0, 4, 9, 7, 29, 28, 27, 2]), (13, []), (9, [0, 4, 9, 2, 29, 28, 27, 7]), (10, []), (17, [29, 28, 27, 0, 4, 2, 7]), (18, [])]
noncomputable def hd92x0 : Hints := [(15, [29, 28, 27, 0, 4, 2, 7], [9, 6, 1, 0], []), (28, [0, 4, 9, 2, 29, 28, 27, 7], [11, 9, 6, 1, 0], []), (37, [0, 4, 9, 7, 29, 28, 27, 2], [11, 9, 6, 1, 0], []), (47, [4, 9, 7, 29, 28, 27, 0, 2, 74], [11, 9, 6, 1, 0], []), (42038, [0, 4, 9, 7, 29, 28, 27, 2, 34, 53], [11, 9, 6, 1, 0], []), (33029, [0, 4, 9, 2, 29, 28, 27, 7, 34, 35], [11, 9, 6, 1, 0], [])]
noncomputable def h92x0s0 (N : Nat) : Sg Try.prog 2 92 := .start hd92x0 rg92x0
noncomputable def F92x0x28 (N : Nat) (w0 w5 w17 w51 : Int) (k0 : Bool → R) : R :=
  bif (((IntKind.wrap .i64 (w5 + w17)).tmod 7) == w51) then
    k0 (decide (w0 ≥ 0))
  else
    k0 false
noncomputable def V92x0x28 (w0 w5 w17 w51 : Int) : Bool := F92x0x28 N w0 w5 w17 w51 (fun p => p)
theorem tot92x0x28 (w0 w5 w17 w51 : Int) (k0 : Bool → R) : F92x0x28 N w0 w5 w17 w51 k0 = k0 (V92x0x28 N w0 w5 w17 w51) := by
  unfold V92x0x28 F92x0x28
  repeat' (first | rfl | apply cond_k | (apply bnd_k; intro _))
noncomputable def J92x0x28 (L : List Lf) (k0 : Bool → R) : R := F92x0x28 N (li L 0) (li L 5) (li L 17) (li L 51) k0
noncomputable def sh92x0x28 : Sh := { tmps := [(0, .c (.p 0 0)), (2, .c (.i .i64)), (4, .c (.p 6 0)), (7, .c (.p 9 0)), (9, .c (.p 11 0)), (27, .c (.sl 68)), (28, .c (.i .i64)), (29, .c (.i .i64))], mem := [(0, .box (.i .i64 :: .i .i64 :: [.i .i64, .sl 66, .sl 68, .sl 3, .sl 3, .m 1])), (1, .map 93 96), (6, .box (rI 28 ([]))), (9, .box ([.s, .i .i64, .i .i64, .i .i64, .b])), (11, .box (rI 5 ([.s])))] }
noncomputable def K92x0x28w0 (L : List Lf) (p : Bool) : Ex × St := (.normal, mg (ofSh sh92x0x28 L) [0, 2, 4, 7, 27, 28, 29, 52] [(52, .c (.b p))] [0, 1, 6, 9] [])
noncomputable def A92x0x28 (L : List Lf) : List (Bool × (Ex × St)) := bnd (J92x0x28 N L (fun p => p)) fun q => [(true, K92x0x28w0 L q)]
theorem raw92x0x28 (L : List Lf) : pc Try.prog (T63x0 N) (h92x0s0 N).h 2 100 92 28 sh92x0x28 L [29, 28, 27, 0, 4, 2, 7, 52] [9, 6, 1, 0] = J92x0x28 N L (fun p => some (K92x0x28w0 L p)) := by kernel_rfl
noncomputable def h92x0s1 : Sg Try.prog 2 92 :=
  (h92x0s0 N).cut (A92x0x28 N) progOk (T63x0_ok N) fun L x hx => (raw92x0x28 N L).trans ((tot92x0x28 N ..).trans (alt0 _ _ hx))
noncomputable def F92x0x37 (N : Nat) (w5 w17 w47 w51 w52 : Int) (k0 : Bool → R) : R :=
  bif (((IntKind.wrap .i64 (w5 + w17)).tmod 7) == w51) then
    k0 (decide (w47 > w52))
  else
    k0 false
noncomputable def V92x0x37 (w5 w17 w47 w51 w52 : Int) : Bool := F92x0x37 N w5 w17 w47 w51 w52 (fun p => p)
theorem tot92x0x37 (w5 w17 w47 w51 w52 : Int) (k0 : Bool → R) : F92x0x37 N w5 w17 w47 w51 w52 k0 = k0 (V92x0x37 N w5 w17 w47 w51 w52) := by
  unfold V92x0x37 F92x0x37
  repeat' (first | rfl | apply cond_k | (apply bnd_k; intro _))
noncomputable def J92x0x37 (L : List Lf) (k0 : Bool → R) : R := F92x0x37 N (li L 5) (li L 17) (li L 47) (li L 51) (li L 52) k0
noncomputable def sh92x0x37 : Sh := { tmps := [(0, .c (.p 0 0)), (2, .c (.i .i64)), (4, .c (.p 6 0)), (7, .c (.p 9 0)), (9, .c (.p 11 0)), (27, .c (.sl 68)), (28, .c (.i .i64)), (29, .c (.i .i64))], mem := [(0, .box (.i .i64 :: .i .i64 :: [.i .i64, .sl 66, .sl 68, .sl 3, .sl 3, .m 1])), (1, .map 93 96), (6, .box (rI 28 ([]))), (9, .box ([.s, .i .i64, .i .i64, .i .i64, .b])), (11, .box (rI 5 ([.s])))] }
noncomputable def K92x0x37w0 (L : List Lf) (p : Bool) : Ex × St := (.normal, mg (ofSh sh92x0x37 L) [0, 2, 4, 7, 27, 28, 29, 73] [(73, .c (.b p))] [0, 1, 6, 9] [])
noncomputable def A92x0x37 (L : List Lf) : List (Bool × (Ex × St)) := bnd (J92x0x37 N L (fun p => p)) fun q => [(true, K92x0x37w0 L q)]
theorem raw92x0x37 (L : List Lf) : pc Try.prog (T63x0 N) (h92x0s1 N).h 2 100 92 37 sh92x0x37 L [29, 28, 27, 0, 4, 2, 7, 73] [9, 6, 1, 0] = J92x0x37 N L (fun p => some (K92x0x37w0 L p)) := by kernel_rfl
noncomputable def h92x0s2 : Sg Try.prog 2 92 :=
  (h92x0s1 N).cut (A92x0x37 N) progOk (T63x0_ok N) fun L x hx => (raw92x0x37 N L).trans ((tot92x0x37 N ..).trans (alt0 _ _ hx))
noncomputable def F92x0x47 (N : Nat) (w5 : Bool) (w18 : Int) (w46 : LB) (w52 : Int) (w56 : LB) (k0 : Unit → Option R) (k1 : Unit → Option R) : Option R :=
  bif w5 then
    bif (bif (w18 == w52) then (!(w46 == w56)) else false) then
      k0 ()
    else
      k1 ()
  else
    k1 ()
noncomputable def G92x0x47 (w5 : Bool) (w18 : Int) (w46 : LB) (w52 : Int) (w56 : LB) : Option (Sum (Unit) (Unit)) := F92x0x47 N w5 w18 w46 w52 w56 (fun p => some (.inl p)) (fun p => some (.inr p))
theorem bind92x0x47 (w5 : Bool) (w18 : Int) (w46 : LB) (w52 : Int) (w56 : LB) (k0 : Unit → Option R) (k1 : Unit → Option R) : F92x0x47 N w5 w18 w46 w52 w56 k0 k1 = (G92x0x47 N w5 w18 w46 w52 w56).bind (sumE k0 k1) := by
  unfold G92x0x47 F92x0x47
  repeat' (first | rfl | apply cond_b | (apply bnd_b; intro _))
noncomputable def J92x0x47 (L : List Lf) (k0 : Unit → Option R) (k1 : Unit → Option R) : Option R := F92x0x47 N (lb L 5) (li L 18) (ls L 46) (li L 52) (ls L 56) k0 k1
noncomputable def sh92x0x47 : Sh := { tmps := [(0, .c (.p 0 0)), (2, .c (.i .i64)), (4, .c (.p 6 0)), (7, .c (.p 9 0)), (9, .c (.p 11 0)), (27, .c (.sl 68)), (28, .c (.i .i64)), (29, .c (.i .i64)), (74, .c (.b))], mem := [(0, .box (.i .i64 :: .i .i64 :: [.i .i64, .sl 66, .sl 68, .sl 3, .sl 3, .m 1])), (1, .map 93 96), (6, .box (rI 28 ([]))), (9, .box ([.s, .i .i64, .i .i64, .i .i64, .b])), (11, .box (rI 5 ([.s])))] }
noncomputable def K92x0x47w0 (L : List Lf) (_ : Unit) : Ex × St := (.ret, mg (ofSh sh92x0x47 L) [6] [(6, .c (.b false))] [0, 1, 6, 9] [])
noncomputable def K92x0x47w1 (L : List Lf) (_ : Unit) : Ex × St := (.normal, mg (ofSh sh92x0x47 L) [0, 2, 4, 7, 27, 28, 29] [] [0, 1, 6, 9] [])
noncomputable def A92x0x47 (L : List Lf) : List (Bool × (Ex × St)) := bnd (J92x0x47 N L (fun p => some (.inl p)) (fun p => some (.inr p))) fun q => [((inlB q), K92x0x47w0 L ()), ((inrQ q).isSome, K92x0x47w1 L ())]
theorem raw92x0x47 (L : List Lf) : pc Try.prog (T63x0 N) (h92x0s2 N).h 2 100 92 47 sh92x0x47 L [29, 28, 27, 0, 4, 2, 7, 6] [0, 1, 9, 6] = J92x0x47 N L (fun _ => some (K92x0x47w0 L ())) (fun _ => some (K92x0x47w1 L ())) := by kernel_rfl
noncomputable def h92x0s3 : Sg Try.prog 2 92 :=
  (h92x0s2 N).cut (A92x0x47 N) progOk (T63x0_ok N) fun L x hx => (raw92x0x47 N L).trans ((bind92x0x47 N ..).trans ((altS alt1) x hx))
noncomputable def F92x0x42038 (w5 : Int) (w6 : Bool) (w7 w19 : Int) (w47 : LB) (w49 w53 w54 : Int) (w57 : LB) (k0 : Unit → Option R) (k1 : Unit → Option R) : Option R :=
  bif w6 then
    bnd (V92x0x37 N w7 w19 w49 w53 w54) fun y0 =>
    bif y0 then
      k0 ()
    else
      k1 ()
  else
    bnd (G92x0x47 N (w5 == 8) w19 w47 w53 w57) fun y1 =>
    bif (inlB y1) then
      k0 ()
    else
      bif (inrQ y1).isSome then
        k1 ()
      else
        none
noncomputable def G92x0x42038 (w5 : Int) (w6 : Bool) (w7 w19 : Int) (w47 : LB) (w49 w53 w54 : Int) (w57 : LB) : Option (Sum (Unit) (Unit)) := F92x0x42038 N w5 w6 w7 w19 w47 w49 w53 w54 w57 (fun p => some (.inl p)) (fun p => some (.inr p))
theorem bind92x0x42038 (w5 : Int) (w6 : Bool) (w7 w19 : Int) (w47 : LB) (w49 w53 w54 : Int) (w57 : LB) (k0 : Unit → Option R) (k1 : Unit → Option R) : F92x0x42038 N w5 w6 w7 w19 w47 w49 w53 w54 w57 k0 k1 = (G92x0x42038 N w5 w6 w7 w19 w47 w49 w53 w54 w57).bind (sumE k0 k1) := by
  unfold G92x0x42038 F92x0x42038
  repeat' (first | rfl | apply cond_b | (apply bnd_b; intro _))
noncomputable def J92x0x42038 (L : List Lf) (k0 : Unit → Option R) (k1 : Unit → Option R) : Option R := F92x0x42038 N (li L 5) (lb L 6) (li L 7) (li L 19) (ls L 47) (li L 49) (li L 53) (li L 54) (ls L 57) k0 k1
noncomputable def sh92x0x42038 : Sh := { tmps := [(0, .c (.p 0 0)), (2, .c (.i .i64)), (4, .c (.p 6 0)), (7, .c (.p 9 0)), (9, .c (.p 11 0)), (27, .c (.sl 68)), (28, .c (.i .i64)), (29, .c (.i .i64)), (34, .c (.i .i64)), (53, .c (.b))], mem := [(0, .box (.i .i64 :: .i .i64 :: [.i .i64, .sl 66, .sl 68, .sl 3, .sl 3, .m 1])), (1, .map 93 96), (6, .box (rI 28 ([]))), (9, .box ([.s, .i .i64, .i .i64, .i .i64, .b])), (11, .box (rI 5 ([.s])))] }
noncomputable def K92x0x42038w0 (L : List Lf) (_ : Unit) : Ex × St := (.ret, mg (ofSh sh92x0x42038 L) [6] [(6, .c (.b false))] [0, 1, 6, 9] [])
noncomputable def K92x0x42038w1 (L : List Lf) (_ : Unit) : Ex × St := (.normal, mg (ofSh sh92x0x42038 L) [0, 2, 4, 7, 27, 28, 29] [] [0, 1, 6, 9] [])
noncomputable def A92x0x42038 (L : List Lf) : List (Bool × (Ex × St)) := bnd (J92x0x42038 N L (fun p => some (.inl p)) (fun p => some (.inr p))) fun q => [((inlB q), K92x0x42038w0 L ()), ((inrQ q).isSome, K92x0x42038w1 L ())]
theorem raw92x0x42038 (L : List Lf) : pc Try.prog (T63x0 N) (h92x0s3 N).h 2 100 92 42038 sh92x0x42038 L [29, 28, 27, 0, 4, 2, 7, 6] [0, 1, 9, 6] = J92x0x42038 N L (fun _ => some (K92x0x42038w0 L ())) (fun _ => some (K92x0x42038w1 L ())) := by kernel_rfl
noncomputable def h92x0s4 : Sg Try.prog 2 92 :=
  (h92x0s3 N).cut (A92x0x42038 N) progOk (T63x0_ok N) fun L x hx => (raw92x0x42038 N L).trans ((bind92x0x42038 N ..).trans ((altS alt1) x hx))
noncomputable def F92x0x33029 (w0 w5 : Int) (w6 : Bool) (w7 w19 : Int) (w47 : LB) (w49 w53 w54 : Int) (w57 : LB) (k0 : Unit → Option R) (k1 : Unit → Option R) : Option R :=
  bif w6 then
    bnd (V92x0x28 N w0 w7 w19 w53) fun y0 =>
    bif y0 then
      k0 ()
    else
      k1 ()
  else
    bnd (G92x0x42038 N w5 (w5 == 2) w7 w19 w47 w49 w53 w54 w57) fun y1 =>
    bif (inlB y1) then
      k0 ()
    else
      bif (inrQ y1).isSome then
        k1 ()
      else
        none
noncomputable def G92x0x33029 (w0 w5 : Int) (w6 : Bool) (w7 w19 : Int) (w47 : LB) (w49 w53 w54 : Int) (w57 : LB) : Option (Sum (Unit) (Unit)) := F92x0x33029 N w0 w5 w6 w7 w19 w47 w49 w53 w54 w57 (fun p => some (.inl p)) (fun p => some (.inr p))
theorem bind92x0x33029 (w0 w5 : Int) (w6 : Bool) (w7 w19 : Int) (w47 : LB) (w49 w53 w54 : Int) (w57 : LB) (k0 : Unit → Option R) (k1 : Unit → Option R) : F92x0x33029 N w0 w5 w6 w7 w19 w47 w49 w53 w54 w57 k0 k1 = (G92x0x33029 N w0 w5 w6 w7 w19 w47 w49 w53 w54 w57).bind (sumE k0 k1) := by
  unfold G92x0x33029 F92x0x33029
  repeat' (first | rfl | apply cond_b | (apply bnd_b; intro _))
noncomputable def J92x0x33029 (L : List Lf) (k0 : Unit → Option R) (k1 : Unit → Option R) : Option R := F92x0x33029 N (li L 0) (li L 5) (lb L 6) (li L 7) (li L 19) (ls L 47) (li L 49) (li L 53) (li L 54) (ls L 57) k0 k1
noncomputable def sh92x0x33029 : Sh := { tmps := [(0, .c (.p 0 0)), (2, .c (.i .i64)), (4, .c (.p 6 0)), (7, .c (.p 9 0)), (9, .c (.p 11 0)), (27, .c (.sl 68)), (28, .c (.i .i64)), (29, .c (.i .i64)), (34, .c (.i .i64)), (35, .c (.b))], mem := [(0, .box (.i .i64 :: .i .i64 :: [.i .i64, .sl 66, .sl 68, .sl 3, .sl 3, .m 1])), (1, .map 93 96), (6, .box (rI 28 ([]))), (9, .box ([.s, .i .i64, .i .i64, .i .i64, .b])), (11, .box (rI 5 ([.s])))] }
noncomputable def K92x0x33029w0 (L : List Lf) (_ : Unit) : Ex × St := (.ret, mg (ofSh sh92x0x33029 L) [6] [(6, .c (.b false))] [0, 1, 6, 9] [])
noncomputable def K92x0x33029w1 (L : List Lf) (_ : Unit) : Ex × St := (.normal, mg (ofSh sh92x0x33029 L) [0, 2, 4, 7, 27, 28, 29] [] [0, 1, 6, 9] [])
noncomputable def A92x0x33029 (L : List Lf) : List (Bool × (Ex × St)) := bnd (J92x0x33029 N L (fun p => some (.inl p)) (fun p => some (.inr p))) fun q => [((inlB q), K92x0x33029w0 L ()), ((inrQ q).isSome, K92x0x33029w1 L ())]
theorem raw92x0x33029 (L : List Lf) : pc Try.prog (T63x0 N) (h92x0s4 N).h 2 100 92 33029 sh92x0x33029 L [29, 28, 27, 0, 4, 2, 7, 6] [0, 1, 9, 6] = J92x0x33029 N L (fun _ => some (K92x0x33029w0 L ())) (fun _ => some (K92x0x33029w1 L ())) := by kernel_rfl
noncomputable def h92x0s5 : Sg Try.prog 2 92 :=
  (h92x0s4 N).cut (A92x0x33029 N) progOk (T63x0_ok N) fun L x hx => (raw92x0x33029 N L).trans ((bind92x0x33029 N ..).trans ((altS alt1) x hx))
noncomputable def S92x0x15 (w0 : Int) (w2 : LD) (w3 w5 w17 : Int) (w45 : LB) (w47 : Int) (w4 : Int) (kr : Int → Option R) (k0 : Unit → Option R) (k1 : Unit → Option R) : Option R :=
  bif (decide (w4 < w3)) then
    bif (inB w4 w2.length) then
      bnd (G92x0x33029 N w0 ((w2.getD w4.toNat (.i 0)).cell 0).toI (((w2.getD w4.toNat (.i 0)).cell 0).toI == 1) w5 w17 w45 w47 ((w2.getD w4.toNat (.i 0)).cell 1).toI ((w2.getD w4.toNat (.i 0)).cell 2).toI ((w2.getD w4.toNat (.i 0)).cell 5).toS) fun y0 =>
      bif (inlB y0) then
        k0 ()
      else
        bif (inrQ y0).isSome then
          kr (IntKind.wrap .i64 (w4 + 1))
        else
          none
    else
      none
  else
    k1 ()
noncomputable def L92x0x15 (N : Nat) {R : Type} (w0 : Int) (w2 : LD) (w3 w5 w17 : Int) (w45 : LB) (w47 : Int) : Nat → Int → (Unit → Option R) → (Unit → Option R) → Option R
  | 0, _, _, _ => none
  | m + 1, w4, k0, k1 => S92x0x15 N w0 w2 w3 w5 w17 w45 w47 w4 (fun w4 => L92x0x15 N w0 w2 w3 w5 w17 w45 w47 m w4 k0 k1) k0 k1
noncomputable def G92x0x15 (w0 : Int) (w2 : LD) (w3 w5 w17 : Int) (w45 : LB) (w47 : Int) (w4 : Int) : Option (Sum (Unit) (Unit)) := L92x0x15 N (R := (Sum (Unit) (Unit))) w0 w2 w3 w5 w17 w45 w47 N w4 (fun p => some (.inl p)) (fun p => some (.inr p))
noncomputable def J92x0x15 (L x : List Lf) (kr : List Lf → Option R) (k0 : Unit → Option R) (k1 : Unit → Option R) : Option R := S92x0x15 N (li L 0) (ll L 2) (li L 3) (li L 5) (li L 17) (ls L 45) (li L 47) (li x 0) (fun w4 => kr [.i w4]) k0 k1
theorem sb92x0x15 (L x : List Lf) (kr : List Lf → Option R) (k0 : Unit → Option R) (k1 : Unit → Option R) : J92x0x15 N L x kr k0 k1 = (J92x0x15 N L x (fun y => some (.inl y)) (fun p => some (.inr (.inl p))) (fun p => some (.inr (.inr p)))).bind (sumE kr (sumE k0 k1)) := by
  unfold J92x0x15 S92x0x15
  repeat' (first | rfl | apply cond_b | (apply bnd_b; intro _))
noncomputable def Q92x0x15 (L : List Lf) (m : Nat) (x : List Lf) : Option (Sum (Unit) (Unit)) := L92x0x15 N (R := (Sum (Unit) (Unit))) (li L 0) (ll L 2) (li L 3) (li L 5) (li L 17) (ls L 45) (li L 47) m (li x 0) (fun p => some (.inl p)) (fun p => some (.inr p))
noncomputable def sh92x0x15 : Sh := { tmps := [(0, .c (.p 0 0)), (2, .c (.i .i64)), (4, .c (.p 6 0)), (7, .c (.p 9 0)), (27, .c (.sl 68)), (28, .c (.i .i64)), (29, .c (.i .i64))], mem := [(0, .box (.i .i64 :: .i .i64 :: [.i .i64, .sl 66, .sl 68, .sl 3, .sl 3, .m 1])), (1, .map 93 96), (6, .box (rI 28 ([]))), (9, .box ([.s, .i .i64, .i .i64, .i .i64, .b]))] }
noncomputable def K92x0x15w0 (L : List Lf) (_ : Unit) : Ex × St := (.ret, mg (ofSh sh92x0x15 L) [6] [(6, .c (.b false))] [0, 1] [])
noncomputable def A92x0x15 (L : List Lf) : List (Bool × (Ex × St)) := bnd (Q92x0x15 N L N (pk sh92x0x15 [4] L)) fun q => [((inlB q), K92x0x15w0 L ()), ((inrQ q).isSome, ((.exit 0), mg (ofSh sh92x0x15 L) [] [] [0, 1] []))]
theorem step92x0x15 (m : Nat) (kn : St → Option (Ex × St)) (L x : List Lf) : lpB Try.prog (T63x0 N) (h92x0s5 N).h 2 92 15 sh92x0x15 [4] [6] [0, 1] (m + 100) kn L x = J92x0x15 N L x (fun y => kn (ofSh sh92x0x15 (mx sh92x0x15 [4] L y))) (fun _ => some (K92x0x15w0 L ())) (fun _ => some ((.exit 0), mg (ofSh sh92x0x15 L) [] [] [0, 1] [])) := by kernel_rfl
noncomputable def h92x0s6 : Sg Try.prog 2 92 :=
  (h92x0s5 N).lp (A92x0x15 N) N progOk (T63x0_ok N) (fun m kn L x => (step92x0x15 N m kn L x).trans (sb92x0x15 N L x _ _ _)) (fun L m x => sb92x0x15 N L x (Q92x0x15 N L m) (fun p => some (.inl p)) (fun p => some (.inr p))) fun L x hx => (altS alt1) x hx
noncomputable def F92x0 (v0 v3 v28 v29 : Int) (v33 v35 : LD) (k0 : Bool → Option R) : Option R :=
  bnd (G63x0 N v33 v28) fun y0 =>
  bif y0.isSome then
    bnd (bif (y0.getD default).2.2.2.2 then (decide (v3 > 0)) else false) fun y1 =>
    bif y1 then
      k0 false
    else
      bnd (G92x0x15 N v28 v35 (v35.length : Int) v29 v0 (y0.getD default).1 (y0.getD default).2.2.1 0) fun y2 =>
      bif (inlB y2) then
        k0 false
      else
        bif (inrQ y2).isSome then
          k0 true
        else
          none
  else
    none
noncomputable def G92x0 (v0 v3 v28 v29 : Int) (v33 v35 : LD) : Option (Bool) := F92x0 N v0 v3 v28 v29 v33 v35 (fun p => some p)
theorem bind92x0 (v0 v3 v28 v29 : Int) (v33 v35 : LD) (k0 : Bool → Option R) : F92x0 N v0 v3 v28 v29 v33 v35 k0 = (G92x0 N v0 v3 v28 v29 v33 v35).bind k0 := by
  unfold G92x0 F92x0
  repeat' (first | rfl | apply cond_b | (apply bnd_b; intro _))
noncomputable def J92x0 (L : List Lf) (k0 : Bool → Option R) : Option R := F92x0 N (li L 0) (li L 3) (li L 28) (li L 29) (ll L 33) (ll L 35) k0
noncomputable def sh92x0 : Sh := { tmps := [(0, .c (.p 0 0)), (1, .g (rI 28 ([]))), (2, .c (.i .i64))], mem := [(0, .box (.i .i64 :: .i .i64 :: [.i .i64, .sl 66, .sl 68, .sl 3, .sl 3, .m 1])), (1, .map 93 96)] }
noncomputable def A92x0 (L : List Lf) : List (Bool × Res) := bnd (J92x0 N L (fun p => some p)) fun q => [(q.isSome, ([.c (.b (q.getD default))], mgA (ofSh sh92x0 L).mem [] [0, 1]))]
theorem raw92x0 (L : List Lf) : bd Try.prog (T63x0 N) (h92x0s6 N).h 92 sh92x0 L = J92x0 N L (fun p => some ([.c (.b p)], mgA (ofSh sh92x0 L).mem [] [0, 1])) := by kernel_rfl
theorem ok92x0 : FnOk Try.prog 92 sh92x0 (A92x0 N) :=
  (h92x0s6 N).fn progOk (T63x0_ok N) fun L x hx => ((raw92x0 N L).trans ((bind92x0 N ..).trans (alt1 x hx)))
noncomputable def T92x0 : Oracle := ext 92 (spSh sh92x0 (A92x0 N)) (T63x0 N)
theorem T92x0_ok : OracleOk Try.prog (T92x0 N) := FnOk.to (ok92x0 N) (T63x0_ok N)
noncomputable def rg93x0 : List (Nat × List Nat) := [(0, [0]), (1, [1]), (2, [1, 3]), (3, [9, 8, 7, 3]), (4, [7, 9, 3, 8]), (5, [5, 3, 9, 8, 7]), (6, [3, 5, 9, 8, 7]), (7, [9, 8, 7, 3]), (8, [3])]
noncomputable def hd93x0 : Hints := [(9, [9, 8, 7, 3], [], []), (20, [3, 5, 9, 8, 7, 15], [5], [])]
noncomputable def h93x0s0 (N : Nat) : Sg Try.prog 0 93 := .start hd93x0 rg93x0
noncomputable def F93x0x20 (N : Nat) (w0 : Int) (w5 : Bool) (w8 : Int) (k0 : Int → R) : R :=
  bif w5 then
    k0 (max2 w0 w8)
  else
    k0 w0
noncomputable def V93x0x20 (w0 : Int) (w5 : Bool) (w8 : Int) : Int := F93x0x20 N w0 w5 w8 (fun p => p)
theorem tot93x0x20 (w0 : Int) (w5 : Bool) (w8 : Int) (k0 : Int → R) : F93x0x20 N w0 w5 w8 k0 = k0 (V93x0x20 N w0 w5 w8) := by
  unfold V93x0x20 F93x0x20
  repeat' (first | rfl | apply cond_k | (apply bnd_k; intro _))
noncomputable def sh93x0x20 : Sh := { tmps := [(3, .c (.i .i64)), (5, .c (.p 5 0)), (7, .c (.sl 68)), (8, .c (.i .i64)), (9, .c (.i .i64)), (15, .c (.b))], mem := [(5, .box (rI 5 ([.s])))] }
noncomputable def K93x0x20w0 (L : List Lf) (p : Int) : Ex × St := (.normal, mg (ofSh sh93x0x20 L) [3, 7, 8, 9] [(3, .c (.i .i64 p))] [] [])
noncomputable def A93x0x20 (L : List Lf) : List (Bool × (Ex × St)) := bnd (F93x0x20 N (li L 0) (lb L 5) (li L 8) (fun p => p)) fun q => [(true, K93x0x20w0 L q)]
theorem raw93x0x20 (L : List Lf) : pc Try.prog (T92x0 N) (h93x0s0 N).h 0 100 93 20 sh93x0x20 L [9, 8, 7, 3] [] = F93x0x20 N (li L 0) (lb L 5) (li L 8) (fun p => some (K93x0x20w0 L p)) := by kernel_rfl
noncomputable def h93x0s1 : Sg Try.prog 0 93 :=
  (h93x0s0 N).cut (A93x0x20 N) progOk (T92x0_ok N) fun L x hx => (raw93x0x20 N L).trans ((tot93x0x20 N ..).trans (alt0 _ _ hx))
noncomputable def S93x0x9 (w2 : LD) (w3 : Int) (w0 w4 : Int) (kr : Int → Int → Option R) (k0 : Int → Option R) : Option R :=
  bif (decide (w4 < w3)) then
    bif (inB w4 w2.length) then
      bnd (V93x0x20 N w0 (((w2.getD w4.toNat (.i 0)).cell 0).toI == 5) ((w2.getD w4.toNat (.i 0)).cell 2).toI) fun y0 =>
      kr y0 (IntKind.wrap .i64 (w4 + 1))
    else
      none
  else
    k0 w0
noncomputable def L93x0x9 (N : Nat) {R : Type} (w2 : LD) (w3 : Int) : Nat → Int → Int → (Int → Option R) → Option R
  | 0, _, _, _ => none
  | m + 1, w0, w4, k0 => S93x0x9 N w2 w3 w0 w4 (fun w0 w4 => L93x0x9 N w2 w3 m w0 w4 k0) k0
noncomputable def G93x0x9 (w2 : LD) (w3 : Int) (w0 w4 : Int) : Option (Int) := L93x0x9 N (R := (Int)) w2 w3 N w0 w4 (fun p => some p)
noncomputable def J93x0x9 (L x : List Lf) (kr : List Lf → Option R) (k0 : Int → Option R) : Option R := S93x0x9 N (ll L 2) (li L 3) (li x 0) (li x 1) (fun w0 w4 => kr [.i w0, .i w4]) k0
theorem sb93x0x9 (L x : List Lf) (kr : List Lf → Option R) (k0 : Int → Option R) : J93x0x9 N L x kr k0 = (J93x0x9 N L x (fun y => some (.inl y)) (fun p => some (.inr p))).bind (sumE kr k0) := by
  unfold J93x0x9 S93x0x9
  repeat' (first | rfl | apply cond_b | (apply bnd_b; intro _))
noncomputable def Q93x0x9 (L : List Lf) (m : Nat) (x : List Lf) : Option (Int) := L93x0x9 N (R := (Int)) (ll L 2) (li L 3) m (li x 0) (li x 1) (fun p => some p)
noncomputable def sh93x0x9 : Sh := { tmps := [(3, .c (.i .i64)), (7, .c (.sl 68)), (8, .c (.i .i64)), (9, .c (.i .i64))], mem := [] }
noncomputable def A93x0x9 (L : List Lf) : List (Bool × (Ex × St)) := bnd (Q93x0x9 N L N (pk sh93x0x9 [0, 4] L)) fun q => [(q.isSome, ((.exit 0), ⟨[(3, .c (.i .i64 (q.getD default)))], []⟩))]
theorem step93x0x9 (m : Nat) (kn : St → Option (Ex × St)) (L x : List Lf) : lpB Try.prog (T92x0 N) (h93x0s1 N).h 0 93 9 sh93x0x9 [0, 4] [2, 3] [] (m + 100) kn L x = J93x0x9 N L x (fun y => kn (ofSh sh93x0x9 (mx sh93x0x9 [0, 4] L y))) (fun p => some ((.exit 0), ⟨[(3, .c (.i .i64 p))], []⟩)) := by kernel_rfl
noncomputable def h93x0s2 : Sg Try.prog 0 93 :=
  (h93x0s1 N).lp (A93x0x9 N) N progOk (T92x0_ok N) (fun m kn L x => (step93x0x9 N m kn L x).trans (sb93x0x9 N L x _ _)) (fun L m x => sb93x0x9 N L x (Q93x0x9 N L m) some) fun L x hx => alt1 x hx
noncomputable def F93x0 (v6 : LD) (k0 : Int → Option R) : Option R :=
  bnd (G93x0x9 N v6 (v6.length : Int) 1 0) fun y0 =>
  bif y0.isSome then
    k0 (y0.getD default)
  else
    none
noncomputable def G93x0 (v6 : LD) : Option (Int) := F93x0 N v6 (fun p => some p)
theorem bind93x0 (v6 : LD) (k0 : Int → Option R) : F93x0 N v6 k0 = (G93x0 N v6).bind k0 := by
  unfold G93x0 F93x0
  repeat' (first | rfl | apply cond_b | (apply bnd_b; intro _))
noncomputable def sh93x0 : Sh := { tmps := [(0, .g ([.i .i64, .i .i64, .i .i64, .sl 66, .sl 68]))], mem := [] }
noncomputable def A93x0 (L : List Lf) : List (Bool × Res) := bnd (F93x0 N (ll L 6) (fun p => some p)) fun q => [(q.isSome, ([.c (.i .i64 (q.getD default))], []))]
theorem raw93x0 (L : List Lf) : bd Try.prog (T92x0 N) (h93x0s2 N).h 93 sh93x0 L = F93x0 N (ll L 6) (fun p => some ([.c (.i .i64 p)], [])) := by kernel_rfl
theorem ok93x0 : FnOk Try.prog 93 sh93x0 (A93x0 N) :=
  (h93x0s2 N).fn progOk (T92x0_ok N) fun L x hx => ((raw93x0 N L).trans ((bind93x0 N ..).trans (alt1 x hx)))
noncomputable def T93x0 : Oracle := ext 93 (spSh sh93x0 (A93x0 N)) (T92x0 N)
theorem T93x0_ok : OracleOk Try.prog (T93x0 N) := FnOk.to (ok93x0 N) (T92x0_ok N)
noncomputable def rg76x0 : List (Nat × List Nat) := [(0, [1, 0, 2]), (1, [0, 2, 4, 6]), (2, [4, 8, 0, 6, 2]), (3, [9, 8, 4, 0, 6, 2]), (4, [9, 8, 4, 0, 6, 2]), (5, [4, 9, 8, 0, 6, 2]), (6, [8, 0, 9, 6, 4, 2]), (7, [0, 9, 6, 4, 2, 8]), (8, [9, 0, 6, 4, 2, 8]), (9, [9, 0, 6, 10, 4, 2, 8]), (10, [0, 9, 6, 11, 10, 4, 2, 8]), (11, [69, 68, 67, 9, 6, 11, 10, 4, 2, 8, 0]), (12, [69, 67, 9, 6, 68, 11, 10, 4, 2, 8, 0]), (13, [13, 9, 6, 69, 68, 67, 11, 10, 4, 2, 8, 0, 12]), (14, [75, 9, 13, 6, 69, 68, 67, 11, 10, 4, 2, 8, 0, 12]), (17, [75, 11, 9, 13, 6, 69, 68, 67, 10, 4, 2, 8, 0, 12]), (20, [75, 10, 9, 13, 4, 6, 69, 68, 67, 11, 2, 8, 0, 12]), (23, [75, 2, 8, 13, 12, 9, 11, 6, 69, 68, 67, 10, 4, 0]), (30, [75, 4, 13, 12, 9, 8, 6, 69, 68, 67, 11, 10, 2, 0]), (31, [4, 13, 12, 9, 8, 6, 69, 68, 67, 11, 10, 2, 0]), (32, [12, 9, 8, 13, 6, 69, 68, 67, 11, 10, 4, 2, 0]), (33, [12, 9, 13, 6, 69, 68, 67, 11, 10, 4, 2, 8, 0]), (34, [9, 6]), (35, [9, 13, 12, 69, 68, 67, 6, 11, 10, 4, 2, 8, 0]), (36, [12, 9, 69, 68, 67, 6, 11, 10, 4, 2, 8, 0]), (24, [2, 8, 13, 12, 9, 11, 6, 69, 68, 67, 10, 4, 0]), (25, [12, 9, 13, 11, 6, 69, 68, 67, 10, 4, 2, 8, 0]), (26, [12, 9, 13, 11, 6, 69, 68, 67, 10, 4, 2, 8, 0]), (27, [9, 6]), (28, [11, 12, 9, 69, 68, 67, 6, 10, 4, 2, 8, 0]), (29, [12, 9, 69, 68, 67, 6, 11, 10, 4, 2, 8, 0]), (21, [10, 9, 13, 4, 6, 69, 68, 67, 11, 2, 8, 0]), (22, [9, 6]), (18, [11, 9, 13, 6, 69, 68, 67, 10, 4, 2, 8, 0]), (19, [9, 6]), (15, [9, 13, 6, 69, 68, 67, 11, 10, 4, 2, 8, 0]), (16, [9, 6]), (37, [69, 68, 67, 9, 6, 11, 10, 4, 2, 8, 0]), (38, [11, 9, 0, 6]), (39, [9, 0, 6]), (40, [0, 9, 6]), (41, [9, 0, 6]), (42, [9, 0, 6]), (43, [0, 9, 6]), (44, [9, 6]), (45, [9, 6])]
noncomputable def hd76x0 : Hints := [(23, [0, 9, 6, 4, 2, 8, 37], [11, 10, 8, 6, 1, 0], []), (25, [9, 0, 6, 4, 2, 8], [11, 10, 8, 6, 1, 0], []), (33, [69, 68, 67, 9, 6, 11, 10, 4, 2, 8, 0], [11, 10, 8, 6, 1, 0], []), (77, [12, 9, 13, 11, 6, 69, 68, 67, 10, 4, 2, 8, 0, 120], [15, 11, 10, 8, 6, 1, 0], []), (79, [12, 9, 13, 11, 6, 69, 68, 67, 10, 4, 2, 8, 0], [15, 11, 10, 8, 6, 1, 0], []), (89, [12, 9, 69, 68, 67, 6, 11, 10, 4, 2, 8, 0, 148], [11, 10, 8, 6, 1, 0], []), (98, [12, 9, 8, 13, 6, 69, 68, 67, 11, 10, 4, 2, 0, 168], [15, 11, 10, 8, 6, 1, 0], []), (110, [12, 9, 69, 68, 67, 6, 11, 10, 4, 2, 8, 0, 190], [11, 10, 8, 6, 1, 0], []), (95, [4, 13, 12, 9, 8, 6, 69, 68, 67, 11, 10, 2, 0, 152], [15, 11, 10, 8, 6, 1, 0], []), (90074, [2, 8, 13, 12, 9, 11, 6, 69, 68, 67, 10, 4, 0, 75, 110], [15, 11, 10, 8, 6, 1, 0], []), (69065, [10, 9, 13, 4, 6, 69, 68, 67, 11, 2, 8, 0, 75, 12, 95], [15, 11, 10, 8, 6, 1, 0], []), (60056, [11, 9, 13, 6, 69, 68, 67, 10, 4, 2, 8, 0, 75, 12, 84], [15, 11, 10, 8, 6, 1, 0], []), (51047, [9, 13, 6, 69, 68, 67, 11, 10, 4, 2, 8, 0, 75, 12, 76], [15, 11, 10, 8, 6, 1, 0], []), (125, [9, 0, 6, 202], [11, 8, 1, 0], []), (119, [9, 0, 6, 195], [11, 8, 1, 0], []), (134, [9, 6, 213], [11, 8, 0, 1], [])]
noncomputable def h76x0s0 (N : Nat) : Sg Try.prog 2 76 := .start hd76x0 rg76x0
noncomputable def F76x0x23 (w1 : Bool) (w8 : LD) (w78 : Int) (k0 : Int → Option R) : Option R :=
  bif w1 then
    bnd (G93x0 N w8) fun y0 =>
    bif y0.isSome then
      k0 (IntKind.wrap .i64 ((y0.getD default) - 1))
    else
      none
  else
    k0 w78
noncomputable def G76x0x23 (w1 : Bool) (w8 : LD) (w78 : Int) : Option (Int) := F76x0x23 N w1 w8 w78 (fun p => some p)
theorem bind76x0x23 (w1 : Bool) (w8 : LD) (w78 : Int) (k0 : Int → Option R) : F76x0x23 N w1 w8 w78 k0 = (G76x0x23 N w1 w8 w78).bind k0 := by
  unfold G76x0x23 F76x0x23
  repeat' (first | rfl | apply cond_b | (apply bnd_b; intro _))
noncomputable def sh76x0x23 : Sh := { tmps := [(0, .c (.p 0 0)), (2, .c (.i .i64)), (4, .c (.p 6 0)), (6, .c (.p 8 0)), (8, .c (.p 10 0)), (9, .c (.p 11 0)), (37, .c (.b))], mem := [(0, .box (.i .i64 :: .i .i64 :: [.i .i64, .sl 66, .sl 68, .sl 3, .sl 3, .m 1])), (1, .map 93 96), (6, .box (rI 28 ([]))), (8, .box (rI 28 ([]))), (10, .box ([.s, .i .i64, .i .i64, .i .i64, .b])), (11, .box (rI 28 ([])))] }
noncomputable def K76x0x23w0 (L : List Lf) (p : Int) : Ex × St := (.normal, mg (ofSh sh76x0x23 L) [0, 2, 4, 6, 8, 9] [] [0, 1, 6, 8, 10, 11] [(11, .box (.i .i64 (li L 75) :: .i .i64 (li L 76) :: .i .i64 (li L 77) :: .i .i64 p :: rL L 79 24 ([])))])
noncomputable def A76x0x23 (L : List Lf) : List (Bool × (Ex × St)) := bnd (F76x0x23 N (lb L 1) (ll L 8) (li L 78) (fun p => some p)) fun q => [(q.isSome, K76x0x23w0 L (q.getD default))]
theorem raw76x0x23 (L : List Lf) : pc Try.prog (T93x0 N) (h76x0s0 N).h 2 100 76 23 sh76x0x23 L [9, 0, 6, 4, 2, 8] [11, 10, 8, 6, 1, 0] = F76x0x23 N (lb L 1) (ll L 8) (li L 78) (fun p => some (K76x0x23w0 L p)) := by kernel_rfl
noncomputable def h76x0s1 : Sg Try.prog 2 76 :=
  (h76x0s0 N).cut (A76x0x23 N) progOk (T93x0_ok N) fun L x hx => (raw76x0x23 N L).trans ((bind76x0x23 N ..).trans (alt1 x hx))
noncomputable def F76x0x25 (N : Nat) (w2 w74 : Int) (k0 : Bool → R) : R :=
  bif ((w74.tmod 7) == 0) then
    k0 true
  else
    k0 (w74 == w2)
noncomputable def V76x0x25 (w2 w74 : Int) : Bool := F76x0x25 N w2 w74 (fun p => p)
theorem tot76x0x25 (w2 w74 : Int) (k0 : Bool → R) : F76x0x25 N w2 w74 k0 = k0 (V76x0x25 N w2 w74) := by
  unfold V76x0x25 F76x0x25
  repeat' (first | rfl | apply cond_k | (apply bnd_k; intro _))
noncomputable def sh76x0x25 : Sh := { tmps := [(0, .c (.p 0 0)), (2, .c (.i .i64)), (4, .c (.p 6 0)), (6, .c (.p 8 0)), (8, .c (.p 10 0)), (9, .c (.p 11 0))], mem := [(0, .box (.i .i64 :: .i .i64 :: [.i .i64, .sl 66, .sl 68, .sl 3, .sl 3, .m 1])), (1, .map 93 96), (6, .box (rI 28 ([]))), (8, .box (rI 28 ([]))), (10, .box ([.s, .i .i64, .i .i64, .i .i64, .b])), (11, .box (rI 28 ([])))] }
noncomputable def K76x0x25w0 (L : List Lf) (p : Bool) : Ex × St := (.normal, mg (ofSh sh76x0x25 L) [0, 2, 4, 6, 8, 9, 10] [(10, .c (.b p))] [0, 1, 6, 8, 10, 11] [])
noncomputable def A76x0x25 (L : List Lf) : List (Bool × (Ex × St)) := bnd (F76x0x25 N (li L 2) (li L 74) (fun p => p)) fun q => [(true, K76x0x25w0 L q)]
theorem raw76x0x25 (L : List Lf) : pc Try.prog (T93x0 N) (h76x0s1 N).h 2 100 76 25 sh76x0x25 L [9, 0, 6, 10, 4, 2, 8] [11, 10, 8, 6, 1, 0] = F76x0x25 N (li L 2) (li L 74) (fun p => some (K76x0x25w0 L p)) := by kernel_rfl
noncomputable def h76x0s2 : Sg Try.prog 2 76 :=
  (h76x0s1 N).cut (A76x0x25 N) progOk (T93x0_ok N) fun L x hx => (raw76x0x25 N L).trans ((tot76x0x25 N ..).trans (alt0 _ _ hx))
noncomputable def F76x0x77 (N : Nat) (w3 : Int) (w8 : Bool) (w86 w87 w88 w89 w90 w91 w92 w93 w94 w95 w96 w97 : Int) (k0 : Ty6 → Option R) : Option R :=
  bif w8 then
    bif (inB w3 12) then
      bnd (bif (Nat.beq w3.toNat 0) then w86 else (bif (Nat.beq w3.toNat 1) then w87 else (bif (Nat.beq w3.toNat 2) then w88 else (bif (Nat.beq w3.toNat 3) then w89 else (bif (Nat.beq w3.toNat 4) then w90 else (bif (Nat.beq w3.toNat 5) then w91 else (bif (Nat.beq w3.toNat 6) then w92 else (bif (Nat.beq w3.toNat 7) then w93 else (bif (Nat.beq w3.toNat 8) then w94 else (bif (Nat.beq w3.toNat 9) then w95 else (bif (Nat.beq w3.toNat 10) then w96 else w97))))))))))) fun y0 =>
      bif (inB w3 12) then
        bnd (bif (Nat.beq w3.toNat 0) then (IntKind.wrap .i64 (y0 + 1)) else w86) fun y1 =>
        bnd (bif (Nat.beq w3.toNat 1) then (IntKind.wrap .i64 (y0 + 1)) else w87) fun y2 =>
        bnd (bif (Nat.beq w3.toNat 2) then (IntKind.wrap .i64 (y0 + 1)) else w88) fun y3 =>
        bnd (bif (Nat.beq w3.toNat 3) then (IntKind.wrap .i64 (y0 + 1)) else w89) fun y4 =>
        bnd (bif (Nat.beq w3.toNat 4) then (IntKind.wrap .i64 (y0 + 1)) else w90) fun y5 =>
        bnd (bif (Nat.beq w3.toNat 5) then (IntKind.wrap .i64 (y0 + 1)) else w91) fun y6 =>
        bnd (bif (Nat.beq w3.toNat 6) then (IntKind.wrap .i64 (y0 + 1)) else w92) fun y7 =>
        bnd (bif (Nat.beq w3.toNat 7) then (IntKind.wrap .i64 (y0 + 1)) else w93) fun y8 =>
        bnd (bif (Nat.beq w3.toNat 8) then (IntKind.wrap .i64 (y0 + 1)) else w94) fun y9 =>
        bnd (bif (Nat.beq w3.toNat 9) then (IntKind.wrap .i64 (y0 + 1)) else w95) fun y10 =>
        bnd (bif (Nat.beq w3.toNat 10) then (IntKind.wrap .i64 (y0 + 1)) else w96) fun y11 =>
        bnd (bif (Nat.beq w3.toNat 11) then (IntKind.wrap .i64 (y0 + 1)) else w97) fun y12 =>
        k0 (y1, y2, y3, y4, y5, y6, y7, y8, y9, y10, y11, y12)
      else
        none
    else
      none
  else
    k0 (w86, w87, w88, w89, w90, w91, w92, w93, w94, w95, w96, w97)
noncomputable def G76x0x77 (w3 : Int) (w8 : Bool) (w86 w87 w88 w89 w90 w91 w92 w93 w94 w95 w96 w97 : Int) : Option (Ty6) := F76x0x77 N w3 w8 w86 w87 w88 w89 w90 w91 w92 w93 w94 w95 w96 w97 (fun p => some p)
theorem bind76x0x77 (w3 : Int) (w8 : Bool) (w86 w87 w88 w89 w90 w91 w92 w93 w94 w95 w96 w97 : Int) (k0 : Ty6 → Option R) : F76x0x77 N w3 w8 w86 w87 w88 w89 w90 w91 w92 w93 w94 w95 w96 w97 k0 = (G76x0x77 N w3 w8 w86 w87 w88 w89 w90 w91 w92 w93 w94 w95 w96 w97).bind k0 := by
  unfold G76x0x77 F76x0x77
  repeat' (first | rfl | apply cond_b | (apply bnd_b; intro _))
noncomputable def J76x0x77 (L : List Lf) (k0 : Ty6 → Option R) : Option R := F76x0x77 N (li L 3) (lb L 8) (li L 86) (li L 87) (li L 88) (li L 89) (li L 90) (li L 91) (li L 92) (li L 93) (li L 94) (li L 95) (li L 96) (li L 97) k0
noncomputable def sh76x0x77 : Sh := { tmps := [(0, .c (.p 0 0)), (2, .c (.i .i64)), (4, .c (.p 6 0)), (6, .c (.p 8 0)), (8, .c (.p 10 0)), (9, .c (.p 11 0)), (10, .c (.b)), (11, .c (.b)), (12, .c (.i .i64)), (13, .c (.p 15 0)), (67, .c (.sl 68)), (68, .c (.i .i64)), (69, .c (.i .i64)), (120, .c (.b))], mem := [(0, .box (.i .i64 :: .i .i64 :: [.i .i64, .sl 66, .sl 68, .sl 3, .sl 3, .m 1])), (1, .map 93 96), (6, .box (rI 28 ([]))), (8, .box (rI 28 ([]))), (10, .box ([.s, .i .i64, .i .i64, .i .i64, .b])), (11, .box (rI 28 ([]))), (15, .box (rI 5 ([.s])))] }
noncomputable def K76x0x77w0 (L : List Lf) (p : Ty6) : Ex × St := let p1 := p.2; let p2 := p1.2; let p3 := p2.2; let p4 := p3.2; let p5 := p4.2; let p6 := p5.2; let p7 := p6.2; let p8 := p7.2; let p9 := p8.2; let p10 := p9.2; let p11 := p10.2; (.normal, mg (ofSh sh76x0x77 L) [0, 2, 4, 6, 8, 9, 10, 11, 12, 13, 67, 68, 69] [] [0, 1, 6, 8, 10, 11, 15] [(11, .box (rL L 82 4 (.i .i64 p.1 :: .i .i64 p1.1 :: .i .i64 p2.1 :: .i .i64 p3.1 :: .i .i64 p4.1 :: .i .i64 p5.1 :: .i .i64 p6.1 :: .i .i64 p7.1 :: .i .i64 p8.1 :: .i .i64 p9.1 :: .i .i64 p10.1 :: .i .i64 p11 :: rL L 98 12 ([]))))])
noncomputable def A76x0x77 (L : List Lf) : List (Bool × (Ex × St)) := bnd (J76x0x77 N L (fun p => some p)) fun q => [(q.isSome, K76x0x77w0 L (q.getD default))]
theorem raw76x0x77 (L : List Lf) : pc Try.prog (T93x0 N) (h76x0s2 N).h 2 100 76 77 sh76x0x77 L [12, 9, 13, 11, 6, 69, 68, 67, 10, 4, 2, 8, 0] [15, 11, 10, 8, 6, 1, 0] = J76x0x77 N L (fun p => some (K76x0x77w0 L p)) := by kernel_rfl
noncomputable def h76x0s3 : Sg Try.prog 2 76 :=
  (h76x0s2 N).cut (A76x0x77 N) progOk (T93x0_ok N) fun L x hx => (raw76x0x77 N L).trans ((bind76x0x77 N ..).trans (alt1 x hx))
noncomputable def F76x0x79 (N : Nat) (w2 : Bool) (w3 w85 w86 w87 w88 w89 w90 w91 w92 w93 w94 w95 w96 w112 w113 : Int) (k0 : Bool → Option R) : Option R :=
  bif (inB w3 12) then
    bnd (bif (Nat.beq w3.toNat 0) then w85 else (bif (Nat.beq w3.toNat 1) then w86 else (bif (Nat.beq w3.toNat 2) then w87 else (bif (Nat.beq w3.toNat 3) then w88 else (bif (Nat.beq w3.toNat 4) then w89 else (bif (Nat.beq w3.toNat 5) then w90 else (bif (Nat.beq w3.toNat 6) then w91 else (bif (Nat.beq w3.toNat 7) then w92 else (bif (Nat.beq w3.toNat 8) then w93 else (bif (Nat.beq w3.toNat 9) then w94 else (bif (Nat.beq w3.toNat 10) then w95 else w96))))))))))) fun y0 =>
    bif (decide (y0 > w113)) then
      k0 true
    else
      bif w2 then
        bif (inB w3 12) then
          bnd (bif (Nat.beq w3.toNat 0) then w85 else (bif (Nat.beq w3.toNat 1) then w86 else (bif (Nat.beq w3.toNat 2) then w87 else (bif (Nat.beq w3.toNat 3) then w88 else (bif (Nat.beq w3.toNat 4) then w89 else (bif (Nat.beq w3.toNat 5) then w90 else (bif (Nat.beq w3.toNat 6) then w91 else (bif (Nat.beq w3.toNat 7) then w92 else (bif (Nat.beq w3.toNat 8) then w93 else (bif (Nat.beq w3.toNat 9) then w94 else (bif (Nat.beq w3.toNat 10) then w95 else w96))))))))))) fun y0 =>
          k0 (decide (y0 < w112))
        else
          none
      else
        k0 false
  else
    none
noncomputable def G76x0x79 (w2 : Bool) (w3 w85 w86 w87 w88 w89 w90 w91 w92 w93 w94 w95 w96 w112 w113 : Int) : Option (Bool) := F76x0x79 N w2 w3 w85 w86 w87 w88 w89 w90 w91 w92 w93 w94 w95 w96 w112 w113 (fun p => some p)
theorem bind76x0x79 (w2 : Bool) (w3 w85 w86 w87 w88 w89 w90 w91 w92 w93 w94 w95 w96 w112 w113 : Int) (k0 : Bool → Option R) : F76x0x79 N w2 w3 w85 w86 w87 w88 w89 w90 w91 w92 w93 w94 w95 w96 w112 w113 k0 = (G76x0x79 N w2 w3 w85 w86 w87 w88 w89 w90 w91 w92 w93 w94 w95 w96 w112 w113).bind k0 := by
  unfold G76x0x79 F76x0x79
  repeat' (first | rfl | apply cond_b | (apply bnd_b; intro _))
noncomputable def J76x0x79 (L : List Lf) (k0 : Bool → Option R) : Option R := F76x0x79 N (lb L 2) (li L 3) (li L 85) (li L 86) (li L 87) (li L 88) (li L 89) (li L 90) (li L 91) (li L 92) (li L 93) (li L 94) (li L 95) (li L 96) (li L 112) (li L 113) k0
noncomputable def sh76x0x79 : Sh := { tmps := [(0, .c (.p 0 0)), (2, .c (.i .i64)), (4, .c (.p 6 0)), (6, .c (.p 8 0)), (8, .c (.p 10 0)), (9, .c (.p 11 0)), (10, .c (.b)), (11, .c (.b)), (12, .c (.i .i64)), (13, .c (.p 15 0)), (67, .c (.sl 68)), (68, .c (.i .i64)), (69, .c (.i .i64))], mem := [(0, .box (.i .i64 :: .i .i64 :: [.i .i64, .sl 66, .sl 68, .sl 3, .sl 3, .m 1])), (1, .map 93 96), (6, .box (rI 28 ([]))), (8, .box (rI 28 ([]))), (10, .box ([.s, .i .i64, .i .i64, .i .i64, .b])), (11, .box (rI 28 ([]))), (15, .box (rI 5 ([.s])))] }
noncomputable def K76x0x79w0 (L : List Lf) (p : Bool) : Ex × St := (.normal, mg (ofSh sh76x0x79 L) [0, 2, 4, 6, 8, 9, 10, 11, 12, 67, 68, 69, 146] [(146, .c (.b p))] [0, 1, 6, 8, 10, 11] [])
noncomputable def A76x0x79 (L : List Lf) : List (Bool × (Ex × St)) := bnd (J76x0x79 N L (fun p => some p)) fun q => [(q.isSome, K76x0x79w0 L (q.getD default))]
theorem raw76x0x79 (L : List Lf) : pc Try.prog (T93x0 N) (h76x0s3 N).h 2 100 76 79 sh76x0x79 L [9, 6, 11, 12, 69, 68, 67, 10, 4, 2, 8, 0, 146] [11, 10, 8, 6, 1, 0] = J76x0x79 N L (fun p => some (K76x0x79w0 L p)) := by kernel_rfl
noncomputable def h76x0s4 : Sg Try.prog 2 76 :=
  (h76x0s3 N).cut (A76x0x79 N) progOk (T93x0_ok N) fun L x hx => (raw76x0x79 N L).trans ((bind76x0x79 N ..).trans (alt1 x hx))
noncomputable def F76x0x89 (N : Nat) (w3 : Int) (w8 : Bool) (w86 w87 w88 w89 w90 w91 w92 w93 w94 w95 w96 w97 : Int) (k0 : Ty6 → Option R) : Option R :=
  bif w8 then
    bif (inB w3 12) then
      k0 ((bif (Nat.beq w3.toNat 0) then 0 else w86), (bif (Nat.beq w3.toNat 1) then 0 else w87), (bif (Nat.beq w3.toNat 2) then 0 else w88), (bif (Nat.beq w3.toNat 3) then 0 else w89), (bif (Nat.beq w3.toNat 4) then 0 else w90), (bif (Nat.beq w3.toNat 5) then 0 else w91), (bif (Nat.beq w3.toNat 6) then 0 else w92), (bif (Nat.beq w3.toNat 7) then 0 else w93), (bif (Nat.beq w3.toNat 8) then 0 else w94), (bif (Nat.beq w3.toNat 9) then 0 else w95), (bif (Nat.beq w3.toNat 10) then 0 else w96), (bif (Nat.beq w3.toNat 11) then 0 else w97))
    else
      none
  else
    k0 (w86, w87, w88, w89, w90, w91, w92, w93, w94, w95, w96, w97)
noncomputable def G76x0x89 (w3 : Int) (w8 : Bool) (w86 w87 w88 w89 w90 w91 w92 w93 w94 w95 w96 w97 : Int) : Option (Ty6) := F76x0x89 N w3 w8 w86 w87 w88 w89 w90 w91 w92 w93 w94 w95 w96 w97 (fun p => some p)
theorem bind76x0x89 (w3 : Int) (w8 : Bool) (w86 w87 w88 w89 w90 w91 w92 w93 w94 w95 w96 w97 : Int) (k0 : Ty6 → Option R) : F76x0x89 N w3 w8 w86 w87 w88 w89 w90 w91 w92 w93 w94 w95 w96 w97 k0 = (G76x0x89 N w3 w8 w86 w87 w88 w89 w90 w91 w92 w93 w94 w95 w96 w97).bind k0 := by
  unfold G76x0x89 F76x0x89
  repeat' (first | rfl | apply cond_b | (apply bnd_b; intro _))
noncomputable def J76x0x89 (L : List Lf) (k0 : Ty6 → Option R) : Option R := F76x0x89 N (li L 3) (lb L 8) (li L 86) (li L 87) (li L 88) (li L 89) (li L 90) (li L 91) (li L 92) (li L 93) (li L 94) (li L 95) (li L 96) (li L 97) k0
noncomputable def sh76x0x89 : Sh := { tmps := [(0, .c (.p 0 0)), (2, .c (.i .i64)), (4, .c (.p 6 0)), (6, .c (.p 8 0)), (8, .c (.p 10 0)), (9, .c (.p 11 0)), (10, .c (.b)), (11, .c (.b)), (12, .c (.i .i64)), (67, .c (.sl 68)), (68, .c (.i .i64)), (69, .c (.i .i64)), (148, .c (.b))], mem := [(0, .box (.i .i64 :: .i .i64 :: [.i .i64, .sl 66, .sl 68, .sl 3, .sl 3, .m 1])), (1, .map 93 96), (6, .box (rI 28 ([]))), (8, .box (rI 28 ([]))), (10, .box ([.s, .i .i64, .i .i64, .i .i64, .b])), (11, .box (rI 28 ([])))] }
noncomputable def K76x0x89w0 (L : List Lf) (p : Ty6) : Ex × St := let p1 := p.2; let p2 := p1.2; let p3 := p2.2; let p4 := p3.2; let p5 := p4.2; let p6 := p5.2; let p7 := p6.2; let p8 := p7.2; let p9 := p8.2; let p10 := p9.2; let p11 := p10.2; (.normal, mg (ofSh sh76x0x89 L) [0, 2, 4, 6, 8, 9, 10, 11, 67, 68, 69] [] [0, 1, 6, 8, 10, 11] [(11, .box (rL L 82 4 (.i .i64 p.1 :: .i .i64 p1.1 :: .i .i64 p2.1 :: .i .i64 p3.1 :: .i .i64 p4.1 :: .i .i64 p5.1 :: .i .i64 p6.1 :: .i .i64 p7.1 :: .i .i64 p8.1 :: .i .i64 p9.1 :: .i .i64 p10.1 :: .i .i64 p11 :: rL L 98 12 ([]))))])
noncomputable def A76x0x89 (L : List Lf) : List (Bool × (Ex × St)) := bnd (J76x0x89 N L (fun p => some p)) fun q => [(q.isSome, K76x0x89w0 L (q.getD default))]
theorem raw76x0x89 (L : List Lf) : pc Try.prog (T93x0 N) (h76x0s4 N).h 2 100 76 89 sh76x0x89 L [69, 68, 67, 9, 6, 11, 10, 4, 2, 8, 0] [11, 10, 8, 6, 1, 0] = J76x0x89 N L (fun p => some (K76x0x89w0 L p)) := by kernel_rfl
noncomputable def h76x0s5 : Sg Try.prog 2 76 :=
  (h76x0s4 N).cut (A76x0x89 N) progOk (T93x0_ok N) fun L x hx => (raw76x0x89 N L).trans ((bind76x0x89 N ..).trans (alt1 x hx))
noncomputable def F76x0x98 (N : Nat) (w3 : Int) (w8 : Bool) (w78 w98 w99 w100 w101 w102 w103 w104 w105 w106 w107 w108 w109 : Int) (k0 : Ty6 → Option R) : Option R :=
  bif w8 then
    bif (inB w3 12) then
      bnd (bif (Nat.beq w3.toNat 0) then w98 else (bif (Nat.beq w3.toNat 1) then w99 else (bif (Nat.beq w3.toNat 2) then w100 else (bif (Nat.beq w3.toNat 3) then w101 else (bif (Nat.beq w3.toNat 4) then w102 else (bif (Nat.beq w3.toNat 5) then w103 else (bif (Nat.beq w3.toNat 6) then w104 else (bif (Nat.beq w3.toNat 7) then w105 else (bif (Nat.beq w3.toNat 8) then w106 else (bif (Nat.beq w3.toNat 9) then w107 else (bif (Nat.beq w3.toNat 10) then w108 else w109))))))))))) fun y0 =>
      bif (inB w3 12) then
        bnd (bif (Nat.beq w3.toNat 0) then (IntKind.wrap .i64 (y0 + w78)) else w98) fun y1 =>
        bnd (bif (Nat.beq w3.toNat 1) then (IntKind.wrap .i64 (y0 + w78)) else w99) fun y2 =>
        bnd (bif (Nat.beq w3.toNat 2) then (IntKind.wrap .i64 (y0 + w78)) else w100) fun y3 =>
        bnd (bif (Nat.beq w3.toNat 3) then (IntKind.wrap .i64 (y0 + w78)) else w101) fun y4 =>
        bnd (bif (Nat.beq w3.toNat 4) then (IntKind.wrap .i64 (y0 + w78)) else w102) fun y5 =>
        bnd (bif (Nat.beq w3.toNat 5) then (IntKind.wrap .i64 (y0 + w78)) else w103) fun y6 =>
        bnd (bif (Nat.beq w3.toNat 6) then (IntKind.wrap .i64 (y0 + w78)) else w104) fun y7 =>
        bnd (bif (Nat.beq w3.toNat 7) then (IntKind.wrap .i64 (y0 + w78)) else w105) fun y8 =>
        bnd (bif (Nat.beq w3.toNat 8) then (IntKind.wrap .i64 (y0 + w78)) else w106) fun y9 =>
        bnd (bif (Nat.beq w3.toNat 9) then (IntKind.wrap .i64 (y0 + w78)) else w107) fun y10 =>
        bnd (bif (Nat.beq w3.toNat 10) then (IntKind.wrap .i64 (y0 + w78)) else w108) fun y11 =>
        bnd (bif (Nat.beq w3.toNat 11) then (IntKind.wrap .i64 (y0 + w78)) else w109) fun y12 =>
        k0 (y1, y2, y3, y4, y5, y6, y7, y8, y9, y10, y11, y12)
      else
        none
    else
      none
  else
    k0 (w98, w99, w100, w101, w102, w103, w104, w105, w106, w107, w108, w109)
noncomputable def G76x0x98 (w3 : Int) (w8 : Bool) (w78 w98 w99 w100 w101 w102 w103 w104 w105 w106 w107 w108 w109 : Int) : Option (Ty6) := F76x0x98 N w3 w8 w78 w98 w99 w100 w101 w102 w103 w104 w105 w106 w107 w108 w109 (fun p => some p)
theorem bind76x0x98 (w3 : Int) (w8 : Bool) (w78 w98 w99 w100 w101 w102 w103 w104 w105 w106 w107 w108 w109 : Int) (k0 : Ty6 → Option R) : F76x0x98 N w3 w8 w78 w98 w99 w100 w101 w102 w103 w104 w105 w106 w107 w108 w109 k0 = (G76x0x98 N w3 w8 w78 w98 w99 w100 w101 w102 w103 w104 w105 w106 w107 w108 w109).bind k0 := by
  unfold G76x0x98 F76x0x98
  repeat' (first | rfl | apply cond_b | (apply bnd_b; intro _))
noncomputable def J76x0x98 (L : List Lf) (k0 : Ty6 → Option R) : Option R := F76x0x98 N (li L 3) (lb L 8) (li L 78) (li L 98) (li L 99) (li L 100) (li L 101) (li L 102) (li L 103) (li L 104) (li L 105) (li L 106) (li L 107) (li L 108) (li L 109) k0
noncomputable def sh76x0x98 : Sh := { tmps := [(0, .c (.p 0 0)), (2, .c (.i .i64)), (4, .c (.p 6 0)), (6, .c (.p 8 0)), (8, .c (.p 10 0)), (9, .c (.p 11 0)), (10, .c (.b)), (11, .c (.b)), (12, .c (.i .i64)), (13, .c (.p 15 0)), (67, .c (.sl 68)), (68, .c (.i .i64)), (69, .c (.i .i64)), (168, .c (.b))], mem := [(0, .box (.i .i64 :: .i .i64 :: [.i .i64, .sl 66, .sl 68, .sl 3, .sl 3, .m 1])), (1, .map 93 96), (6, .box (rI 28 ([]))), (8, .box (rI 28 ([]))), (10, .box ([.s, .i .i64, .i .i64, .i .i64, .b])), (11, .box (rI 28 ([]))), (15, .box (rI 5 ([.s])))] }
noncomputable def K76x0x98w0 (L : List Lf) (p : Ty6) : Ex × St := let p1 := p.2; let p2 := p1.2; let p3 := p2.2; let p4 := p3.2; let p5 := p4.2; let p6 := p5.2; let p7 := p6.2; let p8 := p7.2; let p9 := p8.2; let p10 := p9.2; let p11 := p10.2; (.normal, mg (ofSh sh76x0x98 L) [0, 2, 4, 6, 8, 9, 10, 11, 12, 13, 67, 68, 69] [] [0, 1, 6, 8, 10, 11, 15] [(11, .box (rL L 82 16 ([.i .i64 p.1, .i .i64 p1.1, .i .i64 p2.1, .i .i64 p3.1, .i .i64 p4.1, .i .i64 p5.1, .i .i64 p6.1, .i .i64 p7.1, .i .i64 p8.1, .i .i64 p9.1, .i .i64 p10.1, .i .i64 p11])))])
noncomputable def A76x0x98 (L : List Lf) : List (Bool × (Ex × St)) := bnd (J76x0x98 N L (fun p => some p)) fun q => [(q.isSome, K76x0x98w0 L (q.getD default))]
theorem raw76x0x98 (L : List Lf) : pc Try.prog (T93x0 N) (h76x0s5 N).h 2 100 76 98 sh76x0x98 L [12, 9, 13, 6, 69, 68, 67, 11, 10, 4, 2, 8, 0] [15, 11, 10, 8, 6, 1, 0] = J76x0x98 N L (fun p => some (K76x0x98w0 L p)) := by kernel_rfl
noncomputable def h76x0s6 : Sg Try.prog 2 76 :=
  (h76x0s5 N).cut (A76x0x98 N) progOk (T93x0_ok N) fun L x hx => (raw76x0x98 N L).trans ((bind76x0x98 N ..).trans (alt1 x hx))
noncomputable def F76x0x110 (N : Nat) (w3 : Int) (w8 : Bool) (w98 w99 w100 w101 w102 w103 w104 w105 w106 w107 w108 w109 : Int) (k0 : Ty6 → Option R) : Option R :=
  bif w8 then
    bif (inB w3 12) then
      k0 ((bif (Nat.beq w3.toNat 0) then 0 else w98), (bif (Nat.beq w3.toNat 1) then 0 else w99), (bif (Nat.beq w3.toNat 2) then 0 else w100), (bif (Nat.beq w3.toNat 3) then 0 else w101), (bif (Nat.beq w3.toNat 4) then 0 else w102), (bif (Nat.beq w3.toNat 5) then 0 else w103), (bif (Nat.beq w3.toNat 6) then 0 else w104), (bif (Nat.beq w3.toNat 7) then 0 else w105), (bif (Nat.beq w3.toNat 8) then 0 else w106), (bif (Nat.beq w3.toNat 9) then 0 else w107), (bif (Nat.beq w3.toNat 10) then 0 else w108), (bif (Nat.beq w3.toNat 11) then 0 else w109))
    else
      none
  else
    k0 (w98, w99, w100, w101, w102, w103, w104, w105, w106, w107, w108, w109)
noncomputable def G76x0x110 (w3 : Int) (w8 : Bool) (w98 w99 w100 w101 w102 w103 w104 w105 w106 w107 w108 w109 : Int) : Option (Ty6) := F76x0x110 N w3 w8 w98 w99 w100 w101 w102 w103 w104 w105 w106 w107 w108 w109 (fun p => some p)
theorem bind76x0x110 (w3 : Int) (w8 : Bool) (w98 w99 w100 w101 w102 w103 w104 w105 w106 w107 w108 w109 : Int) (k0 : Ty6 → Option R) : F76x0x110 N w3 w8 w98 w99 w100 w101 w102 w103 w104 w105 w106 w107 w108 w109 k0 = (G76x0x110 N w3 w8 w98 w99 w100 w101 w102 w103 w104 w105 w106 w107 w108 w109).bind k0 := by
  unfold G76x0x110 F76x0x110
  repeat' (first | rfl | apply cond_b | (apply bnd_b; intro _))
noncomputable def J76x0x110 (L : List Lf) (k0 : Ty6 → Option R) : Option R := F76x0x110 N (li L 3) (lb L 8) (li L 98) (li L 99) (li L 100) (li L 101) (li L 102) (li L 103) (li L 104) (li L 105) (li L 106) (li L 107) (li L 108) (li L 109) k0
noncomputable def sh76x0x110 : Sh := { tmps := [(0, .c (.p 0 0)), (2, .c (.i .i64)), (4, .c (.p 6 0)), (6, .c (.p 8 0)), (8, .c (.p 10 0)), (9, .c (.p 11 0)), (10, .c (.b)), (11, .c (.b)), (12, .c (.i .i64)), (67, .c (.sl 68)), (68, .c (.i .i64)), (69, .c (.i .i64)), (190, .c (.b))], mem := [(0, .box (.i .i64 :: .i .i64 :: [.i .i64, .sl 66, .sl 68, .sl 3, .sl 3, .m 1])), (1, .map 93 96), (6, .box (rI 28 ([]))), (8, .box (rI 28 ([]))), (10, .box ([.s, .i .i64, .i .i64, .i .i64, .b])), (11, .box (rI 28 ([])))] }
noncomputable def K76x0x110w0 (L : List Lf) (p : Ty6) : Ex × St := let p1 := p.2; let p2 := p1.2; let p3 := p2.2; let p4 := p3.2; let p5 := p4.2; let p6 := p5.2; let p7 := p6.2; let p8 := p7.2; let p9 := p8.2; let p10 := p9.2; let p11 := p10.2; (.normal, mg (ofSh sh76x0x110 L) [0, 2, 4, 6, 8, 9, 10, 11, 67, 68, 69] [] [0, 1, 6, 8, 10, 11] [(11, .box (rL L 82 16 ([.i .i64 p.1, .i .i64 p1.1, .i .i64 p2.1, .i .i64 p3.1, .i .i64 p4.1, .i .i64 p5.1, .i .i64 p6.1, .i .i64 p7.1, .i .i64 p8.1, .i .i64 p9.1, .i .i64 p10.1, .i .i64 p11])))])
noncomputable def A76x0x110 (L : List Lf) : List (Bool × (Ex × St)) := bnd (J76x0x110 N L (fun p => some p)) fun q => [(q.isSome, K76x0x110w0 L (q.getD default))]
theorem raw76x0x110 (L : List Lf) : pc Try.prog (T93x0 N) (h76x0s6 N).h 2 100 76 110 sh76x0x110 L [69, 68, 67, 9, 6, 11, 10, 4, 2, 8, 0] [11, 10, 8, 6, 1, 0] = J76x0x110 N L (fun p => some (K76x0x110w0 L p)) := by kernel_rfl
noncomputable def h76x0s7 : Sg Try.prog 2 76 :=
  (h76x0s6 N).cut (A76x0x110 N) progOk (T93x0_ok N) fun L x hx => (raw76x0x110 N L).trans ((bind76x0x110 N ..).trans (alt1 x hx))
noncomputable def F76x0x95 (w3 : Int) (w8 : Bool) (w21 w78 w82 w98 w99 w100 w101 w102 w103 w104 w105 w106 w107 w108 w109 w111 w112 w113 : Int) (k0 : Ty2 → Option R) (k1 : Ty6 → Option R) : Option R :=
  bif w8 then
    bnd (bif (decide (w21 ≥ (IntKind.wrap .i64 (w111 - w113)))) then (decide (w21 < w111)) else false) fun y0 =>
    bnd (G76x0x98 N w3 y0 w78 w98 w99 w100 w101 w102 w103 w104 w105 w106 w107 w108 w109) fun y1 =>
    bif y1.isSome then
      bif (inB w3 12) then
        bnd (bif (Nat.beq w3.toNat 0) then (y1.getD default).1 else (bif (Nat.beq w3.toNat 1) then (y1.getD default).2.1 else (bif (Nat.beq w3.toNat 2) then (y1.getD default).2.2.1 else (bif (Nat.beq w3.toNat 3) then (y1.getD default).2.2.2.1 else (bif (Nat.beq w3.toNat 4) then (y1.getD default).2.2.2.2.1 else (bif (Nat.beq w3.toNat 5) then (y1.getD default).2.2.2.2.2.1 else (bif (Nat.beq w3.toNat 6) then (y1.getD default).2.2.2.2.2.2.1 else (bif (Nat.beq w3.toNat 7) then (y1.getD default).2.2.2.2.2.2.2.1 else (bif (Nat.beq w3.toNat 8) then (y1.getD default).2.2.2.2.2.2.2.2.1 else (bif (Nat.beq w3.toNat 9) then (y1.getD default).2.2.2.2.2.2.2.2.2.1 else (bif (Nat.beq w3.toNat 10) then (y1.getD default).2.2.2.2.2.2.2.2.2.2.1 else (y1.getD default).2.2.2.2.2.2.2.2.2.2.2))))))))))) fun y2 =>
        bif (decide (y2 > w112)) then
          k0 ((y1.getD default).1, (y1.getD default).2.1, (y1.getD default).2.2.1, (y1.getD default).2.2.2.1, (y1.getD default).2.2.2.2.1, (y1.getD default).2.2.2.2.2.1, (y1.getD default).2.2.2.2.2.2.1, (y1.getD default).2.2.2.2.2.2.2.1, (y1.getD default).2.2.2.2.2.2.2.2.1, (y1.getD default).2.2.2.2.2.2.2.2.2.1, (y1.getD default).2.2.2.2.2.2.2.2.2.2.1, (y1.getD default).2.2.2.2.2.2.2.2.2.2.2, (y1.getD default).1, (y1.getD default).2.1, (y1.getD default).2.2.1, (y1.getD default).2.2.2.1, (y1.getD default).2.2.2.2.1, (y1.getD default).2.2.2.2.2.1, (y1.getD default).2.2.2.2.2.2.1, (y1.getD default).2.2.2.2.2.2.2.1, (y1.getD default).2.2.2.2.2.2.2.2.1, (y1.getD default).2.2.2.2.2.2.2.2.2.1, (y1.getD default).2.2.2.2.2.2.2.2.2.2.1, (y1.getD default).2.2.2.2.2.2.2.2.2.2.2)
        else
          bnd (G76x0x110 N w3 (decide (w82 ≥ w111)) (y1.getD default).1 (y1.getD default).2.1 (y1.getD default).2.2.1 (y1.getD default).2.2.2.1 (y1.getD default).2.2.2.2.1 (y1.getD default).2.2.2.2.2.1 (y1.getD default).2.2.2.2.2.2.1 (y1.getD default).2.2.2.2.2.2.2.1 (y1.getD default).2.2.2.2.2.2.2.2.1 (y1.getD default).2.2.2.2.2.2.2.2.2.1 (y1.getD default).2.2.2.2.2.2.2.2.2.2.1 (y1.getD default).2.2.2.2.2.2.2.2.2.2.2) fun y3 =>
          bif y3.isSome then
            k1 (y3.getD default)
          else
            none
      else
        none
    else
      none
  else
    k1 (w98, w99, w100, w101, w102, w103, w104, w105, w106, w107, w108, w109)
noncomputable def G76x0x95 (w3 : Int) (w8 : Bool) (w21 w78 w82 w98 w99 w100 w101 w102 w103 w104 w105 w106 w107 w108 w109 w111 w112 w113 : Int) : Option (Sum (Ty2) (Ty6)) := F76x0x95 N w3 w8 w21 w78 w82 w98 w99 w100 w101 w102 w103 w104 w105 w106 w107 w108 w109 w111 w112 w113 (fun p => some (.inl p)) (fun p => some (.inr p))
theorem bind76x0x95 (w3 : Int) (w8 : Bool) (w21 w78 w82 w98 w99 w100 w101 w102 w103 w104 w105 w106 w107 w108 w109 w111 w112 w113 : Int) (k0 : Ty2 → Option R) (k1 : Ty6 → Option R) : F76x0x95 N w3 w8 w21 w78 w82 w98 w99 w100 w101 w102 w103 w104 w105 w106 w107 w108 w109 w111 w112 w113 k0 k1 = (G76x0x95 N w3 w8 w21 w78 w82 w98 w99 w100 w101 w102 w103 w104 w105 w106 w107 w108 w109 w111 w112 w113).bind (sumE k0 k1) := by
  unfold G76x0x95 F76x0x95
  repeat' (first | rfl | apply cond_b | (apply bnd_b; intro _))
noncomputable def J76x0x95 (L : List Lf) (k0 : Ty2 → Option R) (k1 : Ty6 → Option R) : Option R := F76x0x95 N (li L 3) (lb L 8) (li L 21) (li L 78) (li L 82) (li L 98) (li L 99) (li L 100) (li L 101) (li L 102) (li L 103) (li L 104) (li L 105) (li L 106) (li L 107) (li L 108) (li L 109) (li L 111) (li L 112) (li L 113) k0 k1
noncomputable def sh76x0x95 : Sh := { tmps := [(0, .c (.p 0 0)), (2, .c (.i .i64)), (4, .c (.p 6 0)), (6, .c (.p 8 0)), (8, .c (.p 10 0)), (9, .c (.p 11 0)), (10, .c (.b)), (11, .c (.b)), (12, .c (.i .i64)), (13, .c (.p 15 0)), (67, .c (.sl 68)), (68, .c (.i .i64)), (69, .c (.i .i64)), (152, .c (.b))], mem := [(0, .box (.i .i64 :: .i .i64 :: [.i .i64, .sl 66, .sl 68, .sl 3, .sl 3, .m 1])), (1, .map 93 96), (6, .box (rI 28 ([]))), (8, .box (rI 28 ([]))), (10, .box ([.s, .i .i64, .i .i64, .i .i64, .b])), (11, .box (rI 28 ([]))), (15, .box (rI 5 ([.s])))] }
noncomputable def K76x0x95w0 (L : List Lf) (p : Ty2) : Ex × St := let p1 := p.2; let p2 := p1.2; let p3 := p2.2; let p4 := p3.2; let p5 := p4.2; let p6 := p5.2; let p7 := p6.2; let p8 := p7.2; let p9 := p8.2; let p10 := p9.2; let p11 := p10.2; let p12 := p11.2; let p13 := p12.2; let p14 := p13.2; let p15 := p14.2; let p16 := p15.2; let p17 := p16.2; let p18 := p17.2; let p19 := p18.2; let p20 := p19.2; let p21 := p20.2; let p22 := p21.2; let p23 := p22.2; (.ret, mg (ofSh sh76x0x95 L) [6, 7, 9] [(7, .c (.b false))] [0, 1, 6, 8, 10, 11] [(8, .box (rL L 82 16 ([.i .i64 p.1, .i .i64 p1.1, .i .i64 p2.1, .i .i64 p3.1, .i .i64 p4.1, .i .i64 p5.1, .i .i64 p6.1, .i .i64 p7.1, .i .i64 p8.1, .i .i64 p9.1, .i .i64 p10.1, .i .i64 p11.1]))), (11, .box (rL L 82 16 ([.i .i64 p12.1, .i .i64 p13.1, .i .i64 p14.1, .i .i64 p15.1, .i .i64 p16.1, .i .i64 p17.1, .i .i64 p18.1, .i .i64 p19.1, .i .i64 p20.1, .i .i64 p21.1, .i .i64 p22.1, .i .i64 p23])))])
noncomputable def K76x0x95w1 (L : List Lf) (p : Ty6) : Ex × St := let p1 := p.2; let p2 := p1.2; let p3 := p2.2; let p4 := p3.2; let p5 := p4.2; let p6 := p5.2; let p7 := p6.2; let p8 := p7.2; let p9 := p8.2; let p10 := p9.2; let p11 := p10.2; (.normal, mg (ofSh sh76x0x95 L) [0, 2, 4, 6, 8, 9, 10, 11, 67, 68, 69] [] [0, 1, 6, 8, 10, 11] [(11, .box (rL L 82 16 ([.i .i64 p.1, .i .i64 p1.1, .i .i64 p2.1, .i .i64 p3.1, .i .i64 p4.1, .i .i64 p5.1, .i .i64 p6.1, .i .i64 p7.1, .i .i64 p8.1, .i .i64 p9.1, .i .i64 p10.1, .i .i64 p11])))])
noncomputable def A76x0x95 (L : List Lf) : List (Bool × (Ex × St)) := bnd (J76x0x95 N L (fun p => some (.inl p)) (fun p => some (.inr p))) fun q => [((inlB q), K76x0x95w0 L (inlV q)), ((inrQ q).isSome, K76x0x95w1 L ((inrQ q).getD default))]
theorem raw76x0x95 (L : List Lf) : pc Try.prog (T93x0 N) (h76x0s7 N).h 2 100 76 95 sh76x0x95 L [69, 68, 67, 9, 6, 11, 10, 4, 2, 8, 0, 7] [11, 8, 0, 1, 10, 6] = J76x0x95 N L (fun p => some (K76x0x95w0 L p)) (fun p => some (K76x0x95w1 L p)) := by kernel_rfl
noncomputable def h76x0s8 : Sg Try.prog 2 76 :=
  (h76x0s7 N).cut (A76x0x95 N) progOk (T93x0_ok N) fun L x hx => (raw76x0x95 N L).trans ((bind76x0x95 N ..).trans ((altS alt1) x hx))
noncomputable def F76x0x90074 (w0 : Int) (w2 : Bool) (w3 w8 : Int) (w9 : Bool) (w22 : Int) (w78 : LB) (w79 w83 w87 w88 w89 w90 w91 w92 w93 w94 w95 w96 w97 w98 w99 w100 w101 w102 w103 w104 w105 w106 w107 w108 w109 w110 w112 w113 w114 w115 : Int) (w116 : LB) (k0 : Ty0 → Option R) (k1 : Ty2 → Option R) : Option R :=
  bif w9 then
    bnd (G76x0x77 N w3 (bif (decide (w0 ≥ 0)) then (w78 == w116) else false) w87 w88 w89 w90 w91 w92 w93 w94 w95 w96 w97 w98) fun y0 =>
    bif y0.isSome then
      bnd (G76x0x79 N w2 w3 (y0.getD default).1 (y0.getD default).2.1 (y0.getD default).2.2.1 (y0.getD default).2.2.2.1 (y0.getD default).2.2.2.2.1 (y0.getD default).2.2.2.2.2.1 (y0.getD default).2.2.2.2.2.2.1 (y0.getD default).2.2.2.2.2.2.2.1 (y0.getD default).2.2.2.2.2.2.2.2.1 (y0.getD default).2.2.2.2.2.2.2.2.2.1 (y0.getD default).2.2.2.2.2.2.2.2.2.2.1 (y0.getD default).2.2.2.2.2.2.2.2.2.2.2 w114 w115) fun y1 =>
      bif y1.isSome then
        bif (y1.getD default) then
          k0 ((y0.getD default).1, (y0.getD default).2.1, (y0.getD default).2.2.1, (y0.getD default).2.2.2.1, (y0.getD default).2.2.2.2.1, (y0.getD default).2.2.2.2.2.1, (y0.getD default).2.2.2.2.2.2.1, (y0.getD default).2.2.2.2.2.2.2.1, (y0.getD default).2.2.2.2.2.2.2.2.1, (y0.getD default).2.2.2.2.2.2.2.2.2.1, (y0.getD default).2.2.2.2.2.2.2.2.2.2.1, (y0.getD default).2.2.2.2.2.2.2.2.2.2.2, w99, w100, w101, w102, w103, w104, w105, w106, w107, w108, w109, w110, (y0.getD default).1, (y0.getD default).2.1, (y0.getD default).2.2.1, (y0.getD default).2.2.2.1, (y0.getD default).2.2.2.2.1, (y0.getD default).2.2.2.2.2.1, (y0.getD default).2.2.2.2.2.2.1, (y0.getD default).2.2.2.2.2.2.2.1, (y0.getD default).2.2.2.2.2.2.2.2.1, (y0.getD default).2.2.2.2.2.2.2.2.2.1, (y0.getD default).2.2.2.2.2.2.2.2.2.2.1, (y0.getD default).2.2.2.2.2.2.2.2.2.2.2, w99, w100, w101, w102, w103, w104, w105, w106, w107, w108, w109, w110)
        else
          bnd (G76x0x89 N w3 w2 (y0.getD default).1 (y0.getD default).2.1 (y0.getD default).2.2.1 (y0.getD default).2.2.2.1 (y0.getD default).2.2.2.2.1 (y0.getD default).2.2.2.2.2.1 (y0.getD default).2.2.2.2.2.2.1 (y0.getD default).2.2.2.2.2.2.2.1 (y0.getD default).2.2.2.2.2.2.2.2.1 (y0.getD default).2.2.2.2.2.2.2.2.2.1 (y0.getD default).2.2.2.2.2.2.2.2.2.2.1 (y0.getD default).2.2.2.2.2.2.2.2.2.2.2) fun y2 =>
          bif y2.isSome then
            k1 ((y2.getD default).1, (y2.getD default).2.1, (y2.getD default).2.2.1, (y2.getD default).2.2.2.1, (y2.getD default).2.2.2.2.1, (y2.getD default).2.2.2.2.2.1, (y2.getD default).2.2.2.2.2.2.1, (y2.getD default).2.2.2.2.2.2.2.1, (y2.getD default).2.2.2.2.2.2.2.2.1, (y2.getD default).2.2.2.2.2.2.2.2.2.1, (y2.getD default).2.2.2.2.2.2.2.2.2.2.1, (y2.getD default).2.2.2.2.2.2.2.2.2.2.2, w99, w100, w101, w102, w103, w104, w105, w106, w107, w108, w109, w110)
          else
            none
      else
        none
    else
      none
  else
    bnd (G76x0x95 N w3 (w8 == 9) w22 w79 w83 w99 w100 w101 w102 w103 w104 w105 w106 w107 w108 w109 w110 w112 w113 w114) fun y3 =>
    bif (inlB y3) then
      k0 (w87, w88, w89, w90, w91, w92, w93, w94, w95, w96, w97, w98, (inlV y3).1, (inlV y3).2.1, (inlV y3).2.2.1, (inlV y3).2.2.2.1, (inlV y3).2.2.2.2.1, (inlV y3).2.2.2.2.2.1, (inlV y3).2.2.2.2.2.2.1, (inlV y3).2.2.2.2.2.2.2.1, (inlV y3).2.2.2.2.2.2.2.2.1, (inlV y3).2.2.2.2.2.2.2.2.2.1, (inlV y3).2.2.2.2.2.2.2.2.2.2.1, (inlV y3).2.2.2.2.2.2.2.2.2.2.2.1, w87, w88, w89, w90, w91, w92, w93, w94, w95, w96, w97, w98, (inlV y3).2.2.2.2.2.2.2.2.2.2.2.2.1, (inlV y3).2.2.2.2.2.2.2.2.2.2.2.2.2.1, (inlV y3).2.2.2.2.2.2.2.2.2.2.2.2.2.2.1, (inlV y3).2.2.2.2.2.2.2.2.2.2.2.2.2.2.2.1, (inlV y3).2.2.2.2.2.2.2.2.2.2.2.2.2.2.2.2.1, (inlV y3).2.2.2.2.2.2.2.2.2.2.2.2.2.2.2.2.2.1, (inlV y3).2.2.2.2.2.2.2.2.2.2.2.2.2.2.2.2.2.2.1, (inlV y3).2.2.2.2.2.2.2.2.2.2.2.2.2.2.2.2.2.2.2.1, (inlV y3).2.2.2.2.2.2.2.2.2.2.2.2.2.2.2.2.2.2.2.2.1, (inlV y3).2.2.2.2.2.2.2.2.2.2.2.2.2.2.2.2.2.2.2.2.2.1, (inlV y3).2.2.2.2.2.2.2.2.2.2.2.2.2.2.2.2.2.2.2.2.2.2.1, (inlV y3).2.2.2.2.2.2.2.2.2.2.2.2.2.2.2.2.2.2.2.2.2.2.2)
    else
      bif (inrQ y3).isSome then
        k1 (w87, w88, w89, w90, w91, w92, w93, w94, w95, w96, w97, w98, ((inrQ y3).getD default).1, ((inrQ y3).getD default).2.1, ((inrQ y3).getD default).2.2.1, ((inrQ y3).getD default).2.2.2.1, ((inrQ y3).getD default).2.2.2.2.1, ((inrQ y3).getD default).2.2.2.2.2.1, ((inrQ y3).getD default).2.2.2.2.2.2.1, ((inrQ y3).getD default).2.2.2.2.2.2.2.1, ((inrQ y3).getD default).2.2.2.2.2.2.2.2.1, ((inrQ y3).getD default).2.2.2.2.2.2.2.2.2.1, ((inrQ y3).getD default).2.2.2.2.2.2.2.2.2.2.1, ((inrQ y3).getD default).2.2.2.2.2.2.2.2.2.2.2)
      else
        none
noncomputable def G76x0x90074 (w0 : Int) (w2 : Bool) (w3 w8 : Int) (w9 : Bool) (w22 : Int) (w78 : LB) (w79 w83 w87 w88 w89 w90 w91 w92 w93 w94 w95 w96 w97 w98 w99 w100 w101 w102 w103 w104 w105 w106 w107 w108 w109 w110 w112 w113 w114 w115 : Int) (w116 : LB) : Option (Sum (Ty0) (Ty2)) := F76x0x90074 N w0 w2 w3 w8 w9 w22 w78 w79 w83 w87 w88 w89 w90 w91 w92 w93 w94 w95 w96 w97 w98 w99 w100 w101 w102 w103 w104 w105 w106 w107 w108 w109 w110 w112 w113 w114 w115 w116 (fun p => some (.inl p)) (fun p => some (.inr p))
theorem bind76x0x90074 (w0 : Int) (w2 : Bool) (w3 w8 : Int) (w9 : Bool) (w22 : Int) (w78 : LB) (w79 w83 w87 w88 w89 w90 w91 w92 w93 w94 w95 w96 w97 w98 w99 w100 w101 w102 w103 w104 w105 w106 w107 w108 w109 w110 w112 w113 w114 w115 : Int) (w116 : LB) (k0 : Ty0 → Option R) (k1 : Ty2 → Option R) : F76x0x90074 N w0 w2 w3 w8 w9 w22 w78 w79 w83 w87 w88 w89 w90 w91 w92 w93 w94 w95 w96 w97 w98 w99 w100 w101 w102 w103 w104 w105 w106 w107 w108 w109 w110 w112 w113 w114 w115 w116 k0 k1 = (G76x0x90074 N w0 w2 w3 w8 w9 w22 w78 w79 w83 w87 w88 w89 w90 w91 w92 w93 w94 w95 w96 w97 w98 w99 w100 w101 w102 w103 w104 w105 w106 w107 w108 w109 w110 w112 w113 w114 w115 w116).bind (sumE k0 k1) := by
  unfold G76x0x90074 F76x0x90074
  repeat' (first | rfl | apply cond_b | (apply bnd_b; intro _))
noncomputable def J76x0x90074 (L : List Lf) (k0 : Ty0 → Option R) (k1 : Ty2 → Option R) : Option R := F76x0x90074 N (li L 0) (lb L 2) (li L 3) (li L 8) (lb L 9) (li L 22) (ls L 78) (li L 79) (li L 83) (li L 87) (li L 88) (li L 89) (li L 90) (li L 91) (li L 92) (li L 93) (li L 94) (li L 95) (li L 96) (li L 97) (li L 98) (li L 99) (li L 100) (li L 101) (li L 102) (li L 103) (li L 104) (li L 105) (li L 106) (li L 107) (li L 108) (li L 109) (li L 110) (li L 112) (li L 113) (li L 114) (li L 115) (ls L 116) k0 k1
noncomputable def sh76x0x90074 : Sh := { tmps := [(0, .c (.p 0 0)), (2, .c (.i .i64)), (4, .c (.p 6 0)), (6, .c (.p 8 0)), (8, .c (.p 10 0)), (9, .c (.p 11 0)), (10, .c (.b)), (11, .c (.b)), (12, .c (.i .i64)), (13, .c (.p 15 0)), (67, .c (.sl 68)), (68, .c (.i .i64)), (69, .c (.i .i64)), (75, .c (.i .i64)), (110, .c (.b))], mem := [(0, .box (.i .i64 :: .i .i64 :: [.i .i64, .sl 66, .sl 68, .sl 3, .sl 3, .m 1])), (1, .map 93 96), (6, .box (rI 28 ([]))), (8, .box (rI 28 ([]))), (10, .box ([.s, .i .i64, .i .i64, .i .i64, .b])), (11, .box (rI 28 ([]))), (15, .box (rI 5 ([.s])))] }
noncomputable def K76x0x90074w0 (L : List Lf) (p : Ty0) : Ex × St := let p1 := p.2; let p2 := p1.2; let p3 := p2.2; let p4 := p3.2; let p5 := p4.2; let p6 := p5.2; let p7 := p6.2; let p8 := p7.2; let p9 := p8.2; let p10 := p9.2; let p11 := p10.2; let p12 := p11.2; let p13 := p12.2; let p14 := p13.2; let p15 := p14.2; let p16 := p15.2; let p17 := p16.2; let p18 := p17.2; let p19 := p18.2; let p20 := p19.2; let p21 := p20.2; let p22 := p21.2; let p23 := p22.2; let p24 := p23.2; let p25 := p24.2; let p26 := p25.2; let p27 := p26.2; let p28 := p27.2; let p29 := p28.2; let p30 := p29.2; let p31 := p30.2; let p32 := p31.2; let p33 := p32.2; let p34 := p33.2; let p35 := p34.2; let p36 := p35.2; let p37 := p36.2; let p38 := p37.2; let p39 := p38.2; let p40 := p39.2; let p41 := p40.2; let p42 := p41.2; let p43 := p42.2; let p44 := p43.2; let p45 := p44.2; let p46 := p45.2; let p47 := p46.2; (.ret, mg (ofSh sh76x0x90074 L) [6, 7, 9] [(7, .c (.b false))] [0, 1, 6, 8, 10, 11] [(8, .box (rL L 83 4 ([.i .i64 p.1, .i .i64 p1.1, .i .i64 p2.1, .i .i64 p3.1, .i .i64 p4.1, .i .i64 p5.1, .i .i64 p6.1, .i .i64 p7.1, .i .i64 p8.1, .i .i64 p9.1, .i .i64 p10.1, .i .i64 p11.1, .i .i64 p12.1, .i .i64 p13.1, .i .i64 p14.1, .i .i64 p15.1, .i .i64 p16.1, .i .i64 p17.1, .i .i64 p18.1, .i .i64 p19.1, .i .i64 p20.1, .i .i64 p21.1, .i .i64 p22.1, .i .i64 p23.1]))), (11, .box (rL L 83 4 ([.i .i64 p24.1, .i .i64 p25.1, .i .i64 p26.1, .i .i64 p27.1, .i .i64 p28.1, .i .i64 p29.1, .i .i64 p30.1, .i .i64 p31.1, .i .i64 p32.1, .i .i64 p33.1, .i .i64 p34.1, .i .i64 p35.1, .i .i64 p36.1, .i .i64 p37.1, .i .i64 p38.1, .i .i64 p39.1, .i .i64 p40.1, .i .i64 p41.1, .i .i64 p42.1, .i .i64 p43.1, .i .i64 p44.1, .i .i64 p45.1, .i .i64 p46.1, .i .i64 p47])))])
noncomputable def K76x0x90074w1 (L : List Lf) (p : Ty2) : Ex × St := let p1 := p.2; let p2 := p1.2; let p3 := p2.2; let p4 := p3.2; let p5 := p4.2; let p6 := p5.2; let p7 := p6.2; let p8 := p7.2; let p9 := p8.2; let p10 := p9.2; let p11 := p10.2; let p12 := p11.2; let p13 := p12.2; let p14 := p13.2; let p15 := p14.2; let p16 := p15.2; let p17 := p16.2; let p18 := p17.2; let p19 := p18.2; let p20 := p19.2; let p21 := p20.2; let p22 := p21.2; let p23 := p22.2; (.normal, mg (ofSh sh76x0x90074 L) [0, 2, 4, 6, 8, 9, 10, 11, 67, 68, 69] [] [0, 1, 6, 8, 10, 11] [(11, .box (rL L 83 4 ([.i .i64 p.1, .i .i64 p1.1, .i .i64 p2.1, .i .i64 p3.1, .i .i64 p4.1, .i .i64 p5.1, .i .i64 p6.1, .i .i64 p7.1, .i .i64 p8.1, .i .i64 p9.1, .i .i64 p10.1, .i .i64 p11.1, .i .i64 p12.1, .i .i64 p13.1, .i .i64 p14.1, .i .i64 p15.1, .i .i64 p16.1, .i .i64 p17.1, .i .i64 p18.1, .i .i64 p19.1, .i .i64 p20.1, .i .i64 p21.1, .i .i64 p22.1, .i .i64 p23])))])
noncomputable def A76x0x90074 (L : List Lf) : List (Bool × (Ex × St)) := bnd (J76x0x90074 N L (fun p => some (.inl p)) (fun p => some (.inr p))) fun q => [((inlB q), K76x0x90074w0 L (inlV q)), ((inrQ q).isSome, K76x0x90074w1 L ((inrQ q).getD default))]
theorem raw76x0x90074 (L : List Lf) : pc Try.prog (T93x0 N) (h76x0s8 N).h 2 100 76 90074 sh76x0x90074 L [69, 68, 67, 9, 6, 11, 10, 4, 2, 8, 0, 7] [11, 8, 0, 1, 10, 6] = J76x0x90074 N L (fun p => some (K76x0x90074w0 L p)) (fun p => some (K76x0x90074w1 L p)) := by kernel_rfl
noncomputable def h76x0s9 : Sg Try.prog 2 76 :=
  (h76x0s8 N).cut (A76x0x90074 N) progOk (T93x0_ok N) fun L x hx => (raw76x0x90074 N L).trans ((bind76x0x90074 N ..).trans ((altS alt1) x hx))
noncomputable def F76x0x69065 (w0 : Int) (w1 w2 : Bool) (w3 w8 : Int) (w9 : Bool) (w22 w24 : Int) (w78 : LB) (w79 w83 w84 w87 w88 w89 w90 w91 w92 w93 w94 w95 w96 w97 w98 w99 w100 w101 w102 w103 w104 w105 w106 w107 w108 w109 w110 w112 w113 w114 w115 : Int) (w116 : LB) (k0 : Ty0 → Option R) (k1 : Ty2 → Option R) : Option R :=
  bif w9 then
    bnd (bif w1 then (decide ((IntKind.wrap .i64 (w84 * 100)) > (IntKind.wrap .i64 (w113 * w24)))) else false) fun y0 =>
    bif y0 then
      k0 (w87, w88, w89, w90, w91, w92, w93, w94, w95, w96, w97, w98, w99, w100, w101, w102, w103, w104, w105, w106, w107, w108, w109, w110, w87, w88, w89, w90, w91, w92, w93, w94, w95, w96, w97, w98, w99, w100, w101, w102, w103, w104, w105, w106, w107, w108, w109, w110)
    else
      k1 (w87, w88, w89, w90, w91, w92, w93, w94, w95, w96, w97, w98, w99, w100, w101, w102, w103, w104, w105, w106, w107, w108, w109, w110)
  else
    bnd (G76x0x90074 N w0 w2 w3 w8 (w8 == 6) w22 w78 w79 w83 w87 w88 w89 w90 w91 w92 w93 w94 w95 w96 w97 w98 w99 w100 w101 w102 w103 w104 w105 w106 w107 w108 w109 w110 w112 w113 w114 w115 w116) fun y1 =>
    bif (inlB y1) then
      k0 (inlV y1)
    else
      bif (inrQ y1).isSome then
        k1 ((inrQ y1).getD default)
      else
        none
noncomputable def G76x0x69065 (w0 : Int) (w1 w2 : Bool) (w3 w8 : Int) (w9 : Bool) (w22 w24 : Int) (w78 : LB) (w79 w83 w84 w87 w88 w89 w90 w91 w92 w93 w94 w95 w96 w97 w98 w99 w100 w101 w102 w103 w104 w105 w106 w107 w108 w109 w110 w112 w113 w114 w115 : Int) (w116 : LB) : Option (Sum (Ty0) (Ty2)) := F76x0x69065 N w0 w1 w2 w3 w8 w9 w22 w24 w78 w79 w83 w84 w87 w88 w89 w90 w91 w92 w93 w94 w95 w96 w97 w98 w99 w100 w101 w102 w103 w104 w105 w106 w107 w108 w109 w110 w112 w113 w114 w115 w116 (fun p => some (.inl p)) (fun p => some (.inr p))
theorem bind76x0x69065 (w0 : Int) (w1 w2 : Bool) (w3 w8 : Int) (w9 : Bool) (w22 w24 : Int) (w78 : LB) (w79 w83 w84 w87 w88 w89 w90 w91 w92 w93 w94 w95 w96 w97 w98 w99 w100 w101 w102 w103 w104 w105 w106 w107 w108 w109 w110 w112 w113 w114 w115 : Int) (w116 : LB) (k0 : Ty0 → Option R) (k1 : Ty2 → Option R) : F76x0x69065 N w0 w1 w2 w3 w8 w9 w22 w24 w78 w79 w83 w84 w87 w88 w89 w90 w91 w92 w93 w94 w95 w96 w97 w98 w99 w100 w101 w102 w103 w104 w105 w106 w107 w108 w109 w110 w112 w113 w114 w115 w116 k0 k1 = (G76x0x69065 N w0 w1 w2 w3 w8 w9 w22 w24 w78 w79 w83 w84 w87 w88 w89 w90 w91 w92 w93 w94 w95 w96 w97 w98 w99 w100 w101 w102 w103 w104 w105 w106 w107 w108 w109 w110 w112 w113 w114 w115 w116).bind (sumE k0 k1) := by
  unfold G76x0x69065 F76x0x69065
  repeat' (first | rfl | apply cond_b | (apply bnd_b; intro _))
noncomputable def J76x0x69065 (L : List Lf) (k0 : Ty0 → Option R) (k1 : Ty2 → Option R) : Option R := F76x0x69065 N (li L 0) (lb L 1) (lb L 2) (li L 3) (li L 8) (lb L 9) (li L 22) (li L 24) (ls L 78) (li L 79) (li L 83) (li L 84) (li L 87) (li L 88) (li L 89) (li L 90) (li L 91) (li L 92) (li L 93) (li L 94) (li L 95) (li L 96) (li L 97) (li L 98) (li L 99) (li L 100) (li L 101) (li L 102) (li L 103) (li L 104) (li L 105) (li L 106) (li L 107) (li L 108) (li L 109) (li L 110) (li L 112) (li L 113) (li L 114) (li L 115) (ls L 116) k0 k1
noncomputable def sh76x0x69065 : Sh := { tmps := [(0, .c (.p 0 0)), (2, .c (.i .i64)), (4, .c (.p 6 0)), (6, .c (.p 8 0)), (8, .c (.p 10 0)), (9, .c (.p 11 0)), (10, .c (.b)), (11, .c (.b)), (12, .c (.i .i64)), (13, .c (.p 15 0)), (67, .c (.sl 68)), (68, .c (.i .i64)), (69, .c (.i .i64)), (75, .c (.i .i64)), (95, .c (.b))], mem := [(0, .box (.i .i64 :: .i .i64 :: [.i .i64, .sl 66, .sl 68, .sl 3, .sl 3, .m 1])), (1, .map 93 96), (6, .box (rI 28 ([]))), (8, .box (rI 28 ([]))), (10, .box ([.s, .i .i64, .i .i64, .i .i64, .b])), (11, .box (rI 28 ([]))), (15, .box (rI 5 ([.s])))] }
noncomputable def K76x0x69065w0 (L : List Lf) (p : Ty0) : Ex × St := let p1 := p.2; let p2 := p1.2; let p3 := p2.2; let p4 := p3.2; let p5 := p4.2; let p6 := p5.2; let p7 := p6.2; let p8 := p7.2; let p9 := p8.2; let p10 := p9.2; let p11 := p10.2; let p12 := p11.2; let p13 := p12.2; let p14 := p13.2; let p15 := p14.2; let p16 := p15.2; let p17 := p16.2; let p18 := p17.2; let p19 := p18.2; let p20 := p19.2; let p21 := p20.2; let p22 := p21.2; let p23 := p22.2; let p24 := p23.2; let p25 := p24.2; let p26 := p25.2; let p27 := p26.2; let p28 := p27.2; let p29 := p28.2; let p30 := p29.2; let p31 := p30.2; let p32 := p31.2; let p33 := p32.2; let p34 := p33.2; let p35 := p34.2; let p36 := p35.2; let p37 := p36.2; let p38 := p37.2; let p39 := p38.2; let p40 := p39.2; let p41 := p40.2; let p42 := p41.2; let p43 := p42.2; let p44 := p43.2; let p45 := p44.2; let p46 := p45.2; let p47 := p46.2; (.ret, mg (ofSh sh76x0x69065 L) [6, 7, 9] [(7, .c (.b false))] [0, 1, 6, 8, 10, 11] [(8, .box (rL L 83 4 ([.i .i64 p.1, .i .i64 p1.1, .i .i64 p2.1, .i .i64 p3.1, .i .i64 p4.1, .i .i64 p5.1, .i .i64 p6.1, .i .i64 p7.1, .i .i64 p8.1, .i .i64 p9.1, .i .i64 p10.1, .i .i64 p11.1, .i .i64 p12.1, .i .i64 p13.1, .i .i64 p14.1, .i .i64 p15.1, .i .i64 p16.1, .i .i64 p17.1, .i .i64 p18.1, .i .i64 p19.1, .i .i64 p20.1, .i .i64 p21.1, .i .i64 p22.1, .i .i64 p23.1]))), (11, .box (rL L 83 4 ([.i .i64 p24.1, .i .i64 p25.1, .i .i64 p26.1, .i .i64 p27.1, .i .i64 p28.1, .i .i64 p29.1, .i .i64 p30.1, .i .i64 p31.1, .i .i64 p32.1, .i .i64 p33.1, .i .i64 p34.1, .i .i64 p35.1, .i .i64 p36.1, .i .i64 p37.1, .i .i64 p38.1, .i .i64 p39.1, .i .i64 p40.1, .i .i64 p41.1, .i .i64 p42.1, .i .i64 p43.1, .i .i64 p44.1, .i .i64 p45.1, .i .i64 p46.1, .i .i64 p47])))])
noncomputable def K76x0x69065w1 (L : List Lf) (p : Ty2) : Ex × St := let p1 := p.2; let p2 := p1.2; let p3 := p2.2; let p4 := p3.2; let p5 := p4.2; let p6 := p5.2; let p7 := p6.2; let p8 := p7.2; let p9 := p8.2; let p10 := p9.2; let p11 := p10.2; let p12 := p11.2; let p13 := p12.2; let p14 := p13.2; let p15 := p14.2; let p16 := p15.2; let p17 := p16.2; let p18 := p17.2; let p19 := p18.2; let p20 := p19.2; let p21 := p20.2; let p22 := p21.2; let p23 := p22.2; (.normal, mg (ofSh sh76x0x69065 L) [0, 2, 4, 6, 8, 9, 10, 11, 67, 68, 69] [] [0, 1, 6, 8, 10, 11] [(11, .box (rL L 83 4 ([.i .i64 p.1, .i .i64 p1.1, .i .i64 p2.1, .i .i64 p3.1, .i .i64 p4.1, .i .i64 p5.1, .i .i64 p6.1, .i .i64 p7.1, .i .i64 p8.1, .i .i64 p9.1, .i .i64 p10.1, .i .i64 p11.1, .i .i64 p12.1, .i .i64 p13.1, .i .i64 p14.1, .i .i64 p15.1, .i .i64 p16.1, .i .i64 p17.1, .i .i64 p18.1, .i .i64 p19.1, .i .i64 p20.1, .i .i64 p21.1, .i .i64 p22.1, .i .i64 p23])))])
noncomputable def A76x0x69065 (L : List Lf) : List (Bool × (Ex × St)) := bnd (J76x0x69065 N L (fun p => some (.inl p)) (fun p => some (.inr p))) fun q => [((inlB q), K76x0x69065w0 L (inlV q)), ((inrQ q).isSome, K76x0x69065w1 L ((inrQ q).getD default))]
theorem raw76x0x69065 (L : List Lf) : pc Try.prog (T93x0 N) (h76x0s9 N).h 2 100 76 69065 sh76x0x69065 L [69, 68, 67, 9, 6, 11, 10, 4, 2, 8, 0, 7] [11, 8, 0, 1, 10, 6] = J76x0x69065 N L (fun p => some (K76x0x69065w0 L p)) (fun p => some (K76x0x69065w1 L p)) := by kernel_rfl
noncomputable def h76x0s10 : Sg Try.prog 2 76 :=
  (h76x0s9 N).cut (A76x0x69065 N) progOk (T93x0_ok N) fun L x hx => (raw76x0x69065 N L).trans ((bind76x0x69065 N ..).trans ((altS alt1) x hx))
noncomputable def F76x0x60056 (w0 : Int) (w1 w2 : Bool) (w3 w8 : Int) (w9 : Bool) (w22 w24 : Int) (w78 : LB) (w79 w83 w84 w87 w88 w89 w90 w91 w92 w93 w94 w95 w96 w97 w98 w99 w100 w101 w102 w103 w104 w105 w106 w107 w108 w109 w110 w112 w113 w114 w115 : Int) (w116 : LB) (k0 : Ty0 → Option R) (k1 : Ty2 → Option R) : Option R :=
  bif w9 then
    bif (bif w2 then (decide (w84 < w113)) else false) then
      k0 (w87, w88, w89, w90, w91, w92, w93, w94, w95, w96, w97, w98, w99, w100, w101, w102, w103, w104, w105, w106, w107, w108, w109, w110, w87, w88, w89, w90, w91, w92, w93, w94, w95, w96, w97, w98, w99, w100, w101, w102, w103, w104, w105, w106, w107, w108, w109, w110)
    else
      k1 (w87, w88, w89, w90, w91, w92, w93, w94, w95, w96, w97, w98, w99, w100, w101, w102, w103, w104, w105, w106, w107, w108, w109, w110)
  else
    bnd (G76x0x69065 N w0 w1 w2 w3 w8 (w8 == 7) w22 w24 w78 w79 w83 w84 w87 w88 w89 w90 w91 w92 w93 w94 w95 w96 w97 w98 w99 w100 w101 w102 w103 w104 w105 w106 w107 w108 w109 w110 w112 w113 w114 w115 w116) fun y0 =>
    bif (inlB y0) then
      k0 (inlV y0)
    else
      bif (inrQ y0).isSome then
        k1 ((inrQ y0).getD default)
      else
        none
noncomputable def G76x0x60056 (w0 : Int) (w1 w2 : Bool) (w3 w8 : Int) (w9 : Bool) (w22 w24 : Int) (w78 : LB) (w79 w83 w84 w87 w88 w89 w90 w91 w92 w93 w94 w95 w96 w97 w98 w99 w100 w101 w102 w103 w104 w105 w106 w107 w108 w109 w110 w112 w113 w114 w115 : Int) (w116 : LB) : Option (Sum (Ty0) (Ty2)) := F76x0x60056 N w0 w1 w2 w3 w8 w9 w22 w24 w78 w79 w83 w84 w87 w88 w89 w90 w91 w92 w93 w94 w95 w96 w97 w98 w99 w100 w101 w102 w103 w104 w105 w106 w107 w108 w109 w110 w112 w113 w114 w115 w116 (fun p => some (.inl p)) (fun p => some (.inr p))
theorem bind76x0x60056 (w0 : Int) (w1 w2 : Bool) (w3 w8 : Int) (w9 : Bool) (w22 w24 : Int) (w78 : LB) (w79 w83 w84 w87 w88 w89 w90 w91 w92 w93 w94 w95 w96 w97 w98 w99 w100 w101 w102 w103 w104 w105 w106 w107 w108 w109 w110 w112 w113 w114 w115 : Int) (w116 : LB) (k0 : Ty0 → Option R) (k1 : Ty2 → Option R) : F76x0x60056 N w0 w1 w2 w3 w8 w9 w22 w24 w78 w79 w83 w84 w87 w88 w89 w90 w91 w92 w93 w94 w95 w96 w97 w98 w99 w100 w101 w102 w103 w104 w105 w106 w107 w108 w109 w110 w112 w113 w114 w115 w116 k0 k1 = (G76x0x60056 N w0 w1 w2 w3 w8 w9 w22 w24 w78 w79 w83 w84 w87 w88 w89 w90 w91 w92 w93 w94 w95 w96 w97 w98 w99 w100 w101 w102 w103 w104 w105 w106 w107 w108 w109 w110 w112 w113 w114 w115 w116).bind (sumE k0 k1) := by
  unfold G76x0x60056 F76x0x60056
  repeat' (first | rfl | apply cond_b | (apply bnd_b; intro _))
noncomputable def J76x0x60056 (L : List Lf) (k0 : Ty0 → Option R) (k1 : Ty2 → Option R) : Option R := F76x0x60056 N (li L 0) (lb L 1) (lb L 2) (li L 3) (li L 8) (lb L 9) (li L 22) (li L 24) (ls L 78) (li L 79) (li L 83) (li L 84) (li L 87) (li L 88) (li L 89) (li L 90) (li L 91) (li L 92) (li L 93) (li L 94) (li L 95) (li L 96) (li L 97) (li L 98) (li L 99) (li L 100) (li L 101) (li L 102) (li L 103) (li L 104) (li L 105) (li L 106) (li L 107) (li L 108) (li L 109) (li L 110) (li L 112) (li L 113) (li L 114) (li L 115) (ls L 116) k0 k1
noncomputable def sh76x0x60056 : Sh := { tmps := [(0, .c (.p 0 0)), (2, .c (.i .i64)), (4, .c (.p 6 0)), (6, .c (.p 8 0)), (8, .c (.p 10 0)), (9, .c (.p 11 0)), (10, .c (.b)), (11, .c (.b)), (12, .c (.i .i64)), (13, .c (.p 15 0)), (67, .c (.sl 68)), (68, .c (.i .i64)), (69, .c (.i .i64)), (75, .c (.i .i64)), (84, .c (.b))], mem := [(0, .box (.i .i64 :: .i .i64 :: [.i .i64, .sl 66, .sl 68, .sl 3, .sl 3, .m 1])), (1, .map 93 96), (6, .box (rI 28 ([]))), (8, .box (rI 28 ([]))), (10, .box ([.s, .i .i64, .i .i64, .i .i64, .b])), (11, .box (rI 28 ([]))), (15, .box (rI 5 ([.s])))] }
noncomputable def K76x0x60056w0 (L : List Lf) (p : Ty0) : Ex × St := let p1 := p.2; let p2 := p1.2; let p3 := p2.2; let p4 := p3.2; let p5 := p4.2; let p6 := p5.2; let p7 := p6.2; let p8 := p7.2; let p9 := p8.2; let p10 := p9.2; let p11 := p10.2; let p12 := p11.2; let p13 := p12.2; let p14 := p13.2; let p15 := p14.2; let p16 := p15.2; let p17 := p16.2; let p18 := p17.2; let p19 := p18.2; let p20 := p19.2; let p21 := p20.2; let p22 := p21.2; let p23 := p22.2; let p24 := p23.2; let p25 := p24.2; let p26 := p25.2; let p27 := p26.2; let p28 := p27.2; let p29 := p28.2; let p30 := p29.2; let p31 := p30.2; let p32 := p31.2; let p33 := p32.2; let p34 := p33.2; let p35 := p34.2; let p36 := p35.2; let p37 := p36.2; let p38 := p37.2; let p39 := p38.2; let p40 := p39.2; let p41 := p40.2; let p42 := p41.2; let p43 := p42.2; let p44 := p43.2; let p45 := p44.2; let p46 := p45.2; let p47 := p46.2; (.ret, mg (ofSh sh76x0x60056 L) [6, 7, 9] [(7, .c (.b false))] [0, 1, 6, 8, 10, 11] [(8, .box (rL L 83 4 ([.i .i64 p.1, .i .i64 p1.1, .i .i64 p2.1, .i .i64 p3.1, .i .i64 p4.1, .i .i64 p5.1, .i .i64 p6.1, .i .i64 p7.1, .i .i64 p8.1, .i .i64 p9.1, .i .i64 p10.1, .i .i64 p11.1, .i .i64 p12.1, .i .i64 p13.1, .i .i64 p14.1, .i .i64 p15.1, .i .i64 p16.1, .i .i64 p17.1, .i .i64 p18.1, .i .i64 p19.1, .i .i64 p20.1, .i .i64 p21.1, .i .i64 p22.1, .i .i64 p23.1]))), (11, .box (rL L 83 4 ([.i .i64 p24.1, .i .i64 p25.1, .i .i64 p26.1, .i .i64 p27.1, .i .i64 p28.1, .i .i64 p29.1, .i .i64 p30.1, .i .i64 p31.1, .i .i64 p32.1, .i .i64 p33.1, .i .i64 p34.1, .i .i64 p35.1, .i .i64 p36.1, .i .i64 p37.1, .i .i64 p38.1, .i .i64 p39.1, .i .i64 p40.1, .i .i64 p41.1, .i .i64 p42.1, .i .i64 p43.1, .i .i64 p44.1, .i .i64 p45.1, .i .i64 p46.1, .i .i64 p47])))])
noncomputable def K76x0x60056w1 (L : List Lf) (p : Ty2) : Ex × St := let p1 := p.2; let p2 := p1.2; let p3 := p2.2; let p4 := p3.2; let p5 := p4.2; let p6 := p5.2; let p7 := p6.2; let p8 := p7.2; let p9 := p8.2; let p10 := p9.2; let p11 := p10.2; let p12 := p11.2; let p13 := p12.2; let p14 := p13.2; let p15 := p14.2; let p16 := p15.2; let p17 := p16.2; let p18 := p17.2; let p19 := p18.2; let p20 := p19.2; let p21 := p20.2; let p22 := p21.2; let p23 := p22.2; (.normal, mg (ofSh sh76x0x60056 L) [0, 2, 4, 6, 8, 9, 10, 11, 67, 68, 69] [] [0, 1, 6, 8, 10, 11] [(11, .box (rL L 83 4 ([.i .i64 p.1, .i .i64 p1.1, .i .i64 p2.1, .i .i64 p3.1, .i .i64 p4.1, .i .i64 p5.1, .i .i64 p6.1, .i .i64 p7.1, .i .i64 p8.1, .i .i64 p9.1, .i .i64 p10.1, .i .i64 p11.1, .i .i64 p12.1, .i .i64 p13.1, .i .i64 p14.1, .i .i64 p15.1, .i .i64 p16.1, .i .i64 p17.1, .i .i64 p18.1, .i .i64 p19.1, .i .i64 p20.1, .i .i64 p21.1, .i .i64 p22.1, .i .i64 p23])))])
noncomputable def A76x0x60056 (L : List Lf) : List (Bool × (Ex × St)) := bnd (J76x0x60056 N L (fun p => some (.inl p)) (fun p => some (.inr p))) fun q => [((inlB q), K76x0x60056w0 L (inlV q)), ((inrQ q).isSome, K76x0x60056w1 L ((inrQ q).getD default))]
theorem raw76x0x60056 (L : List Lf) : pc Try.prog (T93x0 N) (h76x0s10 N).h 2 100 76 60056 sh76x0x60056 L [69, 68, 67, 9, 6, 11, 10, 4, 2, 8, 0, 7] [11, 8, 0, 1, 10, 6] = J76x0x60056 N L (fun p => some (K76x0x60056w0 L p)) (fun p => some (K76x0x60056w1 L p)) := by kernel_rfl
noncomputable def h76x0s11 : Sg Try.prog 2 76 :=
  (h76x0s10 N).cut (A76x0x60056 N) progOk (T93x0_ok N) fun L x hx => (raw76x0x60056 N L).trans ((bind76x0x60056 N ..).trans ((altS alt1) x hx))
noncomputable def F76x0x51047 (w0 : Int) (w1 w2 : Bool) (w3 w8 : Int) (w9 : Bool) (w22 w24 : Int) (w78 : LB) (w79 w83 w84 w87 w88 w89 w90 w91 w92 w93 w94 w95 w96 w97 w98 w99 w100 w101 w102 w103 w104 w105 w106 w107 w108 w109 w110 w112 w113 w114 w115 : Int) (w116 : LB) (k0 : Ty0 → Option R) (k1 : Ty2 → Option R) : Option R :=
  bif w9 then
    bif (decide (w84 > w113)) then
      k0 (w87, w88, w89, w90, w91, w92, w93, w94, w95, w96, w97, w98, w99, w100, w101, w102, w103, w104, w105, w106, w107, w108, w109, w110, w87, w88, w89, w90, w91, w92, w93, w94, w95, w96, w97, w98, w99, w100, w101, w102, w103, w104, w105, w106, w107, w108, w109, w110)
    else
      k1 (w87, w88, w89, w90, w91, w92, w93, w94, w95, w96, w97, w98, w99, w100, w101, w102, w103, w104, w105, w106, w107, w108, w109, w110)
  else
    bnd (G76x0x60056 N w0 w1 w2 w3 w8 (w8 == 4) w22 w24 w78 w79 w83 w84 w87 w88 w89 w90 w91 w92 w93 w94 w95 w96 w97 w98 w99 w100 w101 w102 w103 w104 w105 w106 w107 w108 w109 w110 w112 w113 w114 w115 w116) fun y0 =>
    bif (inlB y0) then
      k0 (inlV y0)
    else
      bif (inrQ y0).isSome then
        k1 ((inrQ y0).getD default)
      else
        none
noncomputable def G76x0x51047 (w0 : Int) (w1 w2 : Bool) (w3 w8 : Int) (w9 : Bool) (w22 w24 : Int) (w78 : LB) (w79 w83 w84 w87 w88 w89 w90 w91 w92 w93 w94 w95 w96 w97 w98 w99 w100 w101 w102 w103 w104 w105 w106 w107 w108 w109 w110 w112 w113 w114 w115 : Int) (w116 : LB) : Option (Sum (Ty0) (Ty2)) := F76x0x51047 N w0 w1 w2 w3 w8 w9 w22 w24 w78 w79 w83 w84 w87 w88 w89 w90 w91 w92 w93 w94 w95 w96 w97 w98 w99 w100 w101 w102 w103 w104 w105 w106 w107 w108 w109 w110 w112 w113 w114 w115 w116 (fun p => some (.inl p)) (fun p => some (.inr p))
theorem bind76x0x51047 (w0 : Int) (w1 w2 : Bool) (w3 w8 : Int) (w9 : Bool) (w22 w24 : Int) (w78 : LB) (w79 w83 w84 w87 w88 w89 w90 w91 w92 w93 w94 w95 w96 w97 w98 w99 w100 w101 w102 w103 w104 w105 w106 w107 w108 w109 w110 w112 w113 w114 w115 : Int) (w116 : LB) (k0 : Ty0 → Option R) (k1 : Ty2 → Option R) : F76x0x51047 N w0 w1 w2 w3 w8 w9 w22 w24 w78 w79 w83 w84 w87 w88 w89 w90 w91 w92 w93 w94 w95 w96 w97 w98 w99 w100 w101 w102 w103 w104 w105 w106 w107 w108 w109 w110 w112 w113 w114 w115 w116 k0 k1 = (G76x0x51047 N w0 w1 w2 w3 w8 w9 w22 w24 w78 w79 w83 w84 w87 w88 w89 w90 w91 w92 w93 w94 w95 w96 w97 w98 w99 w100 w101 w102 w103 w104 w105 w106 w107 w108 w109 w110 w112 w113 w114 w115 w116).bind (sumE k0 k1) := by
  unfold G76x0x51047 F76x0x51047
  repeat' (first | rfl | apply cond_b | (apply bnd_b; intro _))
noncomputable def J76x0x51047 (L : List Lf) (k0 : Ty0 → Option R) (k1 : Ty2 → Option R) : Option R := F76x0x51047 N (li L 0) (lb L 1) (lb L 2) (li L 3) (li L 8) (lb L 9) (li L 22) (li L 24) (ls L 78) (li L 79) (li L 83) (li L 84) (li L 87) (li L 88) (li L 89) (li L 90) (li L 91) (li L 92) (li L 93) (li L 94) (li L 95) (li L 96) (li L 97) (li L 98) (li L 99) (li L 100) (li L 101) (li L 102) (li L 103) (li L 104) (li L 105) (li L 106) (li L 107) (li L 108) (li L 109) (li L 110) (li L 112) (li L 113) (li L 114) (li L 115) (ls L 116) k0 k1
noncomputable def sh76x0x51047 : Sh := { tmps := [(0, .c (.p 0 0)), (2, .c (.i .i64)), (4, .c (.p 6 0)), (6, .c (.p 8 0)), (8, .c (.p 10 0)), (9, .c (.p 11 0)), (10, .c (.b)), (11, .c (.b)), (12, .c (.i .i64)), (13, .c (.p 15 0)), (67, .c (.sl 68)), (68, .c (.i .i64)), (69, .c (.i .i64)), (75, .c (.i .i64)), (76, .c (.b))], mem := [(0, .box (.i .i64 :: .i .i64 :: [.i .i64, .sl 66, .sl 68, .sl 3, .sl 3, .m 1])), (1, .map 93 96), (6, .box (rI 28 ([]))), (8, .box (rI 28 ([]))), (10, .box ([.s, .i .i64, .i .i64, .i .i64, .b])), (11, .box (rI 28 ([]))), (15, .box (rI 5 ([.s])))] }
noncomputable def K76x0x51047w0 (L : List Lf) (p : Ty0) : Ex × St := let p1 := p.2; let p2 := p1.2; let p3 := p2.2; let p4 := p3.2; let p5 := p4.2; let p6 := p5.2; let p7 := p6.2; let p8 := p7.2; let p9 := p8.2; let p10 := p9.2; let p11 := p10.2; let p12 := p11.2; let p13 := p12.2; let p14 := p13.2; let p15 := p14.2; let p16 := p15.2; let p17 := p16.2; let p18 := p17.2; let p19 := p18.2; let p20 := p19.2; let p21 := p20.2; let p22 := p21.2; let p23 := p22.2; let p24 := p23.2; let p25 := p24.2; let p26 := p25.2; let p27 := p26.2; let p28 := p27.2; let p29 := p28.2; let p30 := p29.2; let p31 := p30.2; let p32 := p31.2; let p33 := p32.2; let p34 := p33.2; let p35 := p34.2; let p36 := p35.2; let p37 := p36.2; let p38 := p37.2; let p39 := p38.2; let p40 := p39.2; let p41 := p40.2; let p42 := p41.2; let p43 := p42.2; let p44 := p43.2; let p45 := p44.2; let p46 := p45.2; let p47 := p46.2; (.ret, mg (ofSh sh76x0x51047 L) [6, 7, 9] [(7, .c (.b false))] [0, 1, 6, 8, 10, 11] [(8, .box (rL L 83 4 ([.i .i64 p.1, .i .i64 p1.1, .i .i64 p2.1, .i .i64 p3.1, .i .i64 p4.1, .i .i64 p5.1, .i .i64 p6.1, .i .i64 p7.1, .i .i64 p8.1, .i .i64 p9.1, .i .i64 p10.1, .i .i64 p11.1, .i .i64 p12.1, .i .i64 p13.1, .i .i64 p14.1, .i .i64 p15.1, .i .i64 p16.1, .i .i64 p17.1, .i .i64 p18.1, .i .i64 p19.1, .i .i64 p20.1, .i .i64 p21.1, .i .i64 p22.1, .i .i64 p23.1]))), (11, .box (rL L 83 4 ([.i .i64 p24.1, .i .i64 p25.1, .i .i64 p26.1, .i .i64 p27.1, .i .i64 p28.1, .i .i64 p29.1, .i .i64 p30.1, .i .i64 p31.1, .i .i64 p32.1, .i .i64 p33.1, .i .i64 p34.1, .i .i64 p35.1, .i .i64 p36.1, .i .i64 p37.1, .i .i64 p38.1, .i .i64 p39.1, .i .i64 p40.1, .i .i64 p41.1, .i .i64 p42.1, .i .i64 p43.1, .i .i64 p44.1, .i .i64 p45.1, .i .i64 p46.1, .i .i64 p47])))])
noncomputable def K76x0x51047w1 (L : List Lf) (p : Ty2) : Ex × St := let p1 := p.2; let p2 := p1.2; let p3 := p2.2; let p4 := p3.2; let p5 := p4.2; let p6 := p5.2; let p7 := p6.2; let p8 := p7.2; let p9 := p8.2; let p10 := p9.2; let p11 := p10.2; let p12 := p11.2; let p13 := p12.2; let p14 := p13.2; let p15 := p14.2; let p16 := p15.2; let p17 := p16.2; let p18 := p17.2; let p19 := p18.2; let p20 := p19.2; let p21 := p20.2; let p22 := p21.2; let p23 := p22.2; (.normal, mg (ofSh sh76x0x51047 L) [0, 2, 4, 6, 8, 9, 10, 11, 67, 68, 69] [] [0, 1, 6, 8, 10, 11] [(11, .box (rL L 83 4 ([.i .i64 p.1, .i .i64 p1.1, .i .i64 p2.1, .i .i64 p3.1, .i .i64 p4.1, .i .i64 p5.1, .i .i64 p6.1, .i .i64 p7.1, .i .i64 p8.1, .i .i64 p9.1, .i .i64 p10.1, .i .i64 p11.1, .i .i64 p12.1, .i .i64 p13.1, .i .i64 p14.1, .i .i64 p15.1, .i .i64 p16.1, .i .i64 p17.1, .i .i64 p18.1, .i .i64 p19.1, .i .i64 p20.1, .i .i64 p21.1, .i .i64 p22.1, .i .i64 p23])))])
noncomputable def A76x0x51047 (L : List Lf) : List (Bool × (Ex × St)) := bnd (J76x0x51047 N L (fun p => some (.inl p)) (fun p => some (.inr p))) fun q => [((inlB q), K76x0x51047w0 L (inlV q)), ((inrQ q).isSome, K76x0x51047w1 L ((inrQ q).getD default))]
theorem raw76x0x51047 (L : List Lf) : pc Try.prog (T93x0 N) (h76x0s11 N).h 2 100 76 51047 sh76x0x51047 L [69, 68, 67, 9, 6, 11, 10, 4, 2, 8, 0, 7] [11, 8, 0, 1, 10, 6] = J76x0x51047 N L (fun p => some (K76x0x51047w0 L p)) (fun p => some (K76x0x51047w1 L p)) := by kernel_rfl
noncomputable def h76x0s12 : Sg Try.prog 2 76 :=
  (h76x0s11 N).cut (A76x0x51047 N) progOk (T93x0_ok N) fun L x hx => (raw76x0x51047 N L).trans ((bind76x0x51047 N ..).trans ((altS alt1) x hx))
noncomputable def S76x0x33 (w0 : Int) (w1 w2 : Bool) (w4 : LD) (w5 w19 w21 : Int) (w75 : LB) (w76 w80 w81 : Int) (w6 w84 w85 w86 w87 w88 w89 w90 w91 w92 w93 w94 w95 w96 w97 w98 w99 w100 w101 w102 w103 w104 w105 w106 w107 : Int) (kr : Int → Int → Int → Int → Int → Int → Int → Int → Int → Int → Int → Int → Int → Int → Int → Int → Int → Int → Int → Int → Int → Int → Int → Int → Int → Option R) (k0 : Ty0 → Option R) (k1 : Ty2 → Option R) : Option R :=
  bif (decide (w6 < w5)) then
    bif (inB w6 w4.length) then
      bnd (G76x0x51047 N w0 w1 w2 w6 ((w4.getD w6.toNat (.i 0)).cell 0).toI (((w4.getD w6.toNat (.i 0)).cell 0).toI == 3) w19 w21 w75 w76 w80 w81 w84 w85 w86 w87 w88 w89 w90 w91 w92 w93 w94 w95 w96 w97 w98 w99 w100 w101 w102 w103 w104 w105 w106 w107 ((w4.getD w6.toNat (.i 0)).cell 1).toI ((w4.getD w6.toNat (.i 0)).cell 2).toI ((w4.getD w6.toNat (.i 0)).cell 3).toI ((w4.getD w6.toNat (.i 0)).cell 4).toI ((w4.getD w6.toNat (.i 0)).cell 5).toS) fun y0 =>
      bif (inlB y0) then
        k0 (inlV y0)
      else
        bif (inrQ y0).isSome then
          kr (IntKind.wrap .i64 (w6 + 1)) ((inrQ y0).getD default).1 ((inrQ y0).getD default).2.1 ((inrQ y0).getD default).2.2.1 ((inrQ y0).getD default).2.2.2.1 ((inrQ y0).getD default).2.2.2.2.1 ((inrQ y0).getD default).2.2.2.2.2.1 ((inrQ y0).getD default).2.2.2.2.2.2.1 ((inrQ y0).getD default).2.2.2.2.2.2.2.1 ((inrQ y0).getD default).2.2.2.2.2.2.2.2.1 ((inrQ y0).getD default).2.2.2.2.2.2.2.2.2.1 ((inrQ y0).getD default).2.2.2.2.2.2.2.2.2.2.1 ((inrQ y0).getD default).2.2.2.2.2.2.2.2.2.2.2.1 ((inrQ y0).getD default).2.2.2.2.2.2.2.2.2.2.2.2.1 ((inrQ y0).getD default).2.2.2.2.2.2.2.2.2.2.2.2.2.1 ((inrQ y0).getD default).2.2.2.2.2.2.2.2.2.2.2.2.2.2.1 ((inrQ y0).getD default).2.2.2.2.2.2.2.2.2.2.2.2.2.2.2.1 ((inrQ y0).getD default).2.2.2.2.2.2.2.2.2.2.2.2.2.2.2.2.1 ((inrQ y0).getD default).2.2.2.2.2.2.2.2.2.2.2.2.2.2.2.2.2.1 ((inrQ y0).getD default).2.2.2.2.2.2.2.2.2.2.2.2.2.2.2.2.2.2.1 ((inrQ y0).getD default).2.2.2.2.2.2.2.2.2.2.2.2.2.2.2.2.2.2.2.1 ((inrQ y0).getD default).2.2.2.2.2.2.2.2.2.2.2.2.2.2.2.2.2.2.2.2.1 ((inrQ y0).getD default).2.2.2.2.2.2.2.2.2.2.2.2.2.2.2.2.2.2.2.2.2.1 ((inrQ y0).getD default).2.2.2.2.2.2.2.2.2.2.2.2.2.2.2.2.2.2.2.2.2.2.1 ((inrQ y0).getD default).2.2.2.2.2.2.2.2.2.2.2.2.2.2.2.2.2.2.2.2.2.2.2
        else
          none
    else
      none
  else
    k1 (w84, w85, w86, w87, w88, w89, w90, w91, w92, w93, w94, w95, w96, w97, w98, w99, w100, w101, w102, w103, w104, w105, w106, w107)
noncomputable def L76x0x33 (N : Nat) {R : Type} (w0 : Int) (w1 w2 : Bool) (w4 : LD) (w5 w19 w21 : Int) (w75 : LB) (w76 w80 w81 : Int) : Nat → Int → Int → Int → Int → Int → Int → Int → Int → Int → Int → Int → Int → Int → Int → Int → Int → Int → Int → Int → Int → Int → Int → Int → Int → Int → (Ty0 → Option R) → (Ty2 → Option R) → Option R
  | 0, _, _, _, _, _, _, _, _, _, _, _, _, _, _, _, _, _, _, _, _, _, _, _, _, _, _, _ => none
  | m + 1, w6, w84, w85, w86, w87, w88, w89, w90, w91, w92, w93, w94, w95, w96, w97, w98, w99, w100, w101, w102, w103, w104, w105, w106, w107, k0, k1 => S76x0x33 N w0 w1 w2 w4 w5 w19 w21 w75 w76 w80 w81 w6 w84 w85 w86 w87 w88 w89 w90 w91 w92 w93 w94 w95 w96 w97 w98 w99 w100 w101 w102 w103 w104 w105 w106 w107 (fun w6 w84 w85 w86 w87 w88 w89 w90 w91 w92 w93 w94 w95 w96 w97 w98 w99 w100 w101 w102 w103 w104 w105 w106 w107 => L76x0x33 N w0 w1 w2 w4 w5 w19 w21 w75 w76 w80 w81 m w6 w84 w85 w86 w87 w88 w89 w90 w91 w92 w93 w94 w95 w96 w97 w98 w99 w100 w101 w102 w103 w104 w105 w106 w107 k0 k1) k0 k1
noncomputable def G76x0x33 (w0 : Int) (w1 w2 : Bool) (w4 : LD) (w5 w19 w21 : Int) (w75 : LB) (w76 w80 w81 : Int) (w6 w84 w85 w86 w87 w88 w89 w90 w91 w92 w93 w94 w95 w96 w97 w98 w99 w100 w101 w102 w103 w104 w105 w106 w107 : Int) : Option (Sum (Ty0) (Ty2)) := L76x0x33 N (R := (Sum (Ty0) (Ty2))) w0 w1 w2 w4 w5 w19 w21 w75 w76 w80 w81 N w6 w84 w85 w86 w87 w88 w89 w90 w91 w92 w93 w94 w95 w96 w97 w98 w99 w100 w101 w102 w103 w104 w105 w106 w107 (fun p => some (.inl p)) (fun p => some (.inr p))
noncomputable def J76x0x33 (L x : List Lf) (kr : List Lf → Option R) (k0 : Ty0 → Option R) (k1 : Ty2 → Option R) : Option R := S76x0x33 N (li L 0) (lb L 1) (lb L 2) (ll L 4) (li L 5) (li L 19) (li L 21) (ls L 75) (li L 76) (li L 80) (li L 81) (li x 0) (li x 1) (li x 2) (li x 3) (li x 4) (li x 5) (li x 6) (li x 7) (li x 8) (li x 9) (li x 10) (li x 11) (li x 12) (li x 13) (li x 14) (li x 15) (li x 16) (li x 17) (li x 18) (li x 19) (li x 20) (li x 21) (li x 22) (li x 23) (li x 24) (fun w6 w84 w85 w86 w87 w88 w89 w90 w91 w92 w93 w94 w95 w96 w97 w98 w99 w100 w101 w102 w103 w104 w105 w106 w107 => kr [.i w6, .i w84, .i w85, .i w86, .i w87, .i w88, .i w89, .i w90, .i w91, .i w92, .i w93, .i w94, .i w95, .i w96, .i w97, .i w98, .i w99, .i w100, .i w101, .i w102, .i w103, .i w104, .i w105, .i w106, .i w107]) k0 k1
theorem sb76x0x33 (L x : List Lf) (kr : List Lf → Option R) (k0 : Ty0 → Option R) (k1 : Ty2 → Option R) : J76x0x33 N L x kr k0 k1 = (J76x0x33 N L x (fun y => some (.inl y)) (fun p => some (.inr (.inl p))) (fun p => some (.inr (.inr p)))).bind (sumE kr (sumE k0 k1)) := by
  unfold J76x0x33 S76x0x33
  repeat' (first | rfl | apply cond_b | (apply bnd_b; intro _))
noncomputable def Q76x0x33 (L : List Lf) (m : Nat) (x : List Lf) : Option (Sum (Ty0) (Ty2)) := L76x0x33 N (R := (Sum (Ty0) (Ty2))) (li L 0) (lb L 1) (lb L 2) (ll L 4) (li L 5) (li L 19) (li L 21) (ls L 75) (li L 76) (li L 80) (li L 81) m (li x 0) (li x 1) (li x 2) (li x 3) (li x 4) (li x 5) (li x 6) (li x 7) (li x 8) (li x 9) (li x 10) (li x 11) (li x 12) (li x 13) (li x 14) (li x 15) (li x 16) (li x 17) (li x 18) (li x 19) (li x 20) (li x 21) (li x 22) (li x 23) (li x 24) (fun p => some (.inl p)) (fun p => some (.inr p))
noncomputable def sh76x0x33 : Sh := { tmps := [(0, .c (.p 0 0)), (2, .c (.i .i64)), (4, .c (.p 6 0)), (6, .c (.p 8 0)), (8, .c (.p 10 0)), (9, .c (.p 11 0)), (10, .c (.b)), (11, .c (.b)), (67, .c (.sl 68)), (68, .c (.i .i64)), (69, .c (.i .i64))], mem := [(0, .box (.i .i64 :: .i .i64 :: [.i .i64, .sl 66, .sl 68, .sl 3, .sl 3, .m 1])), (1, .map 93 96), (6, .box (rI 28 ([]))), (8, .box (rI 28 ([]))), (10, .box ([.s, .i .i64, .i .i64, .i .i64, .b])), (11, .box (rI 28 ([])))] }
noncomputable def K76x0x33w0 (L : List Lf) (p : Ty0) : Ex × St := let p1 := p.2; let p2 := p1.2; let p3 := p2.2; let p4 := p3.2; let p5 := p4.2; let p6 := p5.2; let p7 := p6.2; let p8 := p7.2; let p9 := p8.2; let p10 := p9.2; let p11 := p10.2; let p12 := p11.2; let p13 := p12.2; let p14 := p13.2; let p15 := p14.2; let p16 := p15.2; let p17 := p16.2; let p18 := p17.2; let p19 := p18.2; let p20 := p19.2; let p21 := p20.2; let p22 := p21.2; let p23 := p22.2; let p24 := p23.2; let p25 := p24.2; let p26 := p25.2; let p27 := p26.2; let p28 := p27.2; let p29 := p28.2; let p30 := p29.2; let p31 := p30.2; let p32 := p31.2; let p33 := p32.2; let p34 := p33.2; let p35 := p34.2; let p36 := p35.2; let p37 := p36.2; let p38 := p37.2; let p39 := p38.2; let p40 := p39.2; let p41 := p40.2; let p42 := p41.2; let p43 := p42.2; let p44 := p43.2; let p45 := p44.2; let p46 := p45.2; let p47 := p46.2; (.ret, mg (ofSh sh76x0x33 L) [6, 7, 9] [(7, .c (.b false))] [0, 1, 8, 11] [(8, .box (rL L 80 4 ([.i .i64 p.1, .i .i64 p1.1, .i .i64 p2.1, .i .i64 p3.1, .i .i64 p4.1, .i .i64 p5.1, .i .i64 p6.1, .i .i64 p7.1, .i .i64 p8.1, .i .i64 p9.1, .i .i64 p10.1, .i .i64 p11.1, .i .i64 p12.1, .i .i64 p13.1, .i .i64 p14.1, .i .i64 p15.1, .i .i64 p16.1, .i .i64 p17.1, .i .i64 p18.1, .i .i64 p19.1, .i .i64 p20.1, .i .i64 p21.1, .i .i64 p22.1, .i .i64 p23.1]))), (11, .box (rL L 80 4 ([.i .i64 p24.1, .i .i64 p25.1, .i .i64 p26.1, .i .i64 p27.1, .i .i64 p28.1, .i .i64 p29.1, .i .i64 p30.1, .i .i64 p31.1, .i .i64 p32.1, .i .i64 p33.1, .i .i64 p34.1, .i .i64 p35.1, .i .i64 p36.1, .i .i64 p37.1, .i .i64 p38.1, .i .i64 p39.1, .i .i64 p40.1, .i .i64 p41.1, .i .i64 p42.1, .i .i64 p43.1, .i .i64 p44.1, .i .i64 p45.1, .i .i64 p46.1, .i .i64 p47])))])
noncomputable def K76x0x33w1 (L : List Lf) (p : Ty2) : Ex × St := let p1 := p.2; let p2 := p1.2; let p3 := p2.2; let p4 := p3.2; let p5 := p4.2; let p6 := p5.2; let p7 := p6.2; let p8 := p7.2; let p9 := p8.2; let p10 := p9.2; let p11 := p10.2; let p12 := p11.2; let p13 := p12.2; let p14 := p13.2; let p15 := p14.2; let p16 := p15.2; let p17 := p16.2; let p18 := p17.2; let p19 := p18.2; let p20 := p19.2; let p21 := p20.2; let p22 := p21.2; let p23 := p22.2; ((.exit 0), mg (ofSh sh76x0x33 L) [0, 6, 9, 11] [] [0, 1, 8, 11] [(11, .box (rL L 80 4 ([.i .i64 p.1, .i .i64 p1.1, .i .i64 p2.1, .i .i64 p3.1, .i .i64 p4.1, .i .i64 p5.1, .i .i64 p6.1, .i .i64 p7.1, .i .i64 p8.1, .i .i64 p9.1, .i .i64 p10.1, .i .i64 p11.1, .i .i64 p12.1, .i .i64 p13.1, .i .i64 p14.1, .i .i64 p15.1, .i .i64 p16.1, .i .i64 p17.1, .i .i64 p18.1, .i .i64 p19.1, .i .i64 p20.1, .i .i64 p21.1, .i .i64 p22.1, .i .i64 p23])))])
noncomputable def A76x0x33 (L : List Lf) : List (Bool × (Ex × St)) := bnd (Q76x0x33 N L N (pk sh76x0x33 [6, 84, 85, 86, 87, 88, 89, 90, 91, 92, 93, 94, 95, 96, 97, 98, 99, 100, 101, 102, 103, 104, 105, 106, 107] L)) fun q => [((inlB q), K76x0x33w0 L (inlV q)), ((inrQ q).isSome, K76x0x33w1 L ((inrQ q).getD default))]
theorem step76x0x33 (m : Nat) (kn : St → Option (Ex × St)) (L x : List Lf) : lpB Try.prog (T93x0 N) (h76x0s12 N).h 2 76 33 sh76x0x33 [6, 84, 85, 86, 87, 88, 89, 90, 91, 92, 93, 94, 95, 96, 97, 98, 99, 100, 101, 102, 103, 104, 105, 106, 107] [6, 7, 11, 9, 0] [11, 8, 0, 1] (m + 100) kn L x = J76x0x33 N L x (fun y => kn (ofSh sh76x0x33 (mx sh76x0x33 [6, 84, 85, 86, 87, 88, 89, 90, 91, 92, 93, 94, 95, 96, 97, 98, 99, 100, 101, 102, 103, 104, 105, 106, 107] L y))) (fun p => some (K76x0x33w0 L p)) (fun p => some (K76x0x33w1 L p)) := by kernel_rfl
noncomputable def h76x0s13 : Sg Try.prog 2 76 :=
  (h76x0s12 N).lp (A76x0x33 N) N progOk (T93x0_ok N) (fun m kn L x => (step76x0x33 N m kn L x).trans (sb76x0x33 N L x _ _ _)) (fun L m x => sb76x0x33 N L x (Q76x0x33 N L m) (fun p => some (.inl p)) (fun p => some (.inr p))) fun L x hx => (altS alt1) x hx
noncomputable def F76x0x125 (N : Nat) (w0 : Bool) (w42 w43 : Int) (k0 : Int → R) : R :=
  bif w0 then
    k0 w42
  else
    k0 w43
noncomputable def V76x0x125 (w0 : Bool) (w42 w43 : Int) : Int := F76x0x125 N w0 w42 w43 (fun p => p)
theorem tot76x0x125 (w0 : Bool) (w42 w43 : Int) (k0 : Int → R) : F76x0x125 N w0 w42 w43 k0 = k0 (V76x0x125 N w0 w42 w43) := by
  unfold V76x0x125 F76x0x125
  repeat' (first | rfl | apply cond_k | (apply bnd_k; intro _))
noncomputable def sh76x0x125 : Sh := { tmps := [(0, .c (.p 0 0)), (6, .c (.p 8 0)), (9, .c (.p 11 0)), (202, .c (.b))], mem := [(0, .box (.i .i64 :: .i .i64 :: [.i .i64, .sl 66, .sl 68, .sl 3, .sl 3, .m 1])), (1, .map 93 96), (8, .box (rI 28 ([]))), (11, .box (rI 28 ([])))] }
noncomputable def K76x0x125w0 (L : List Lf) (p : Int) : Ex × St := (.normal, mg (ofSh sh76x0x125 L) [0, 6, 9] [] [0, 1, 8, 11] [(11, .box (.i .i64 (li L 41) :: .i .i64 (li L 42) :: .i .i64 p :: rL L 44 25 ([])))])
noncomputable def A76x0x125 (L : List Lf) : List (Bool × (Ex × St)) := bnd (F76x0x125 N (lb L 0) (li L 42) (li L 43) (fun p => p)) fun q => [(true, K76x0x125w0 L q)]
theorem raw76x0x125 (L : List Lf) : pc Try.prog (T93x0 N) (h76x0s13 N).h 2 100 76 125 sh76x0x125 L [9, 0, 6] [11, 8, 1, 0] = F76x0x125 N (lb L 0) (li L 42) (li L 43) (fun p => some (K76x0x125w0 L p)) := by kernel_rfl
noncomputable def h76x0s14 : Sg Try.prog 2 76 :=
  (h76x0s13 N).cut (A76x0x125 N) progOk (T93x0_ok N) fun L x hx => (raw76x0x125 N L).trans ((tot76x0x125 N ..).trans (alt0 _ _ hx))
noncomputable def F76x0x119 (w0 : Bool) (w7 : LD) (w42 w43 : Int) (k0 : Int × Int → Option R) : Option R :=
  bif w0 then
    bnd (G74x0 N w7 [(.i 7)]) fun y0 =>
    bif y0.isSome then
      bnd (V76x0x125 N (y0.getD default) w42 0) fun y1 =>
      k0 (0, y1)
    else
      none
  else
    k0 (w42, w43)
noncomputable def G76x0x119 (w0 : Bool) (w7 : LD) (w42 w43 : Int) : Option (Int × Int) := F76x0x119 N w0 w7 w42 w43 (fun p => some p)
theorem bind76x0x119 (w0 : Bool) (w7 : LD) (w42 w43 : Int) (k0 : Int × Int → Option R) : F76x0x119 N w0 w7 w42 w43 k0 = (G76x0x119 N w0 w7 w42 w43).bind k0 := by
  unfold G76x0x119 F76x0x119
  repeat' (first | rfl | apply cond_b | (apply bnd_b; intro _))
noncomputable def J76x0x119 (L : List Lf) (k0 : Int × Int → Option R) : Option R := F76x0x119 N (lb L 0) (ll L 7) (li L 42) (li L 43) k0
noncomputable def sh76x0x119 : Sh := { tmps := [(0, .c (.p 0 0)), (6, .c (.p 8 0)), (9, .c (.p 11 0)), (195, .c (.b))], mem := [(0, .box (.i .i64 :: .i .i64 :: [.i .i64, .sl 66, .sl 68, .sl 3, .sl 3, .m 1])), (1, .map 93 96), (8, .box (rI 28 ([]))), (11, .box (rI 28 ([])))] }
noncomputable def K76x0x119w0 (L : List Lf) (p : Int × Int) : Ex × St := (.normal, mg (ofSh sh76x0x119 L) [0, 6, 9] [] [0, 1, 8, 11] [(11, .box (.i .i64 (li L 41) :: .i .i64 p.1 :: .i .i64 p.2 :: rL L 44 25 ([])))])
noncomputable def A76x0x119 (L : List Lf) : List (Bool × (Ex × St)) := bnd (J76x0x119 N L (fun p => some p)) fun q => [(q.isSome, K76x0x119w0 L (q.getD default))]
theorem raw76x0x119 (L : List Lf) : pc Try.prog (T93x0 N) (h76x0s14 N).h 2 100 76 119 sh76x0x119 L [0, 9, 6] [11, 8, 1, 0] = J76x0x119 N L (fun p => some (K76x0x119w0 L p)) := by kernel_rfl
noncomputable def h76x0s15 : Sg Try.prog 2 76 :=
  (h76x0s14 N).cut (A76x0x119 N) progOk (T93x0_ok N) fun L x hx => (raw76x0x119 N L).trans ((bind76x0x119 N ..).trans (alt1 x hx))
noncomputable def F76x0x134 (N : Nat) (w0 : Bool) (w42 : Int) (k0 : Int → R) : R :=
  bif w0 then
    k0 0
  else
    k0 w42
noncomputable def V76x0x134 (w0 : Bool) (w42 : Int) : Int := F76x0x134 N w0 w42 (fun p => p)
theorem tot76x0x134 (w0 : Bool) (w42 : Int) (k0 : Int → R) : F76x0x134 N w0 w42 k0 = k0 (V76x0x134 N w0 w42) := by
  unfold V76x0x134 F76x0x134
  repeat' (first | rfl | apply cond_k | (apply bnd_k; intro _))
noncomputable def sh76x0x134 : Sh := { tmps := [(6, .c (.p 8 0)), (9, .c (.p 11 0)), (213, .c (.b))], mem := [(0, .box (.i .i64 :: .i .i64 :: [.i .i64, .sl 66, .sl 68, .sl 3, .sl 3, .m 1])), (1, .map 93 96), (8, .box (rI 28 ([]))), (11, .box (rI 28 ([])))] }
noncomputable def K76x0x134w0 (L : List Lf) (p : Int) : Ex × St := (.normal, mg (ofSh sh76x0x134 L) [6, 9] [] [0, 1, 8, 11] [(11, .box (.i .i64 (li L 41) :: .i .i64 p :: rL L 43 26 ([])))])
noncomputable def A76x0x134 (L : List Lf) : List (Bool × (Ex × St)) := bnd (F76x0x134 N (lb L 0) (li L 42) (fun p => p)) fun q => [(true, K76x0x134w0 L q)]
theorem raw76x0x134 (L : List Lf) : pc Try.prog (T93x0 N) (h76x0s15 N).h 2 100 76 134 sh76x0x134 L [9, 6] [11, 8, 0, 1] = F76x0x134 N (lb L 0) (li L 42) (fun p => some (K76x0x134w0 L p)) := by kernel_rfl
noncomputable def h76x0s16 : Sg Try.prog 2 76 :=
  (h76x0s15 N).cut (A76x0x134 N) progOk (T93x0_ok N) fun L x hx => (raw76x0x134 N L).trans ((tot76x0x134 N ..).trans (alt0 _ _ hx))
noncomputable def F76x0 (v0 v1 v2 v3 v4 v5 v6 v7 v8 v9 v10 v11 v12 v13 v14 v15 v16 v17 v18 v19 v20 v21 v22 v23 v24 v25 v26 v27 v28 v30 : Int) (v33 v35 : LD) (k0 : Ty1 → Option R) : Option R :=
  bnd (G63x0 N v33 v28) fun y0 =>
  bif y0.isSome then
    bnd (G76x0x23 N (y0.getD default).2.2.2.2 v35 (max2 0 (IntKind.wrap .i64 (v3 - 1)))) fun y1 =>
    bif y1.isSome then
      bnd (V76x0x25 N v30 (IntKind.wrap .i64 (v0 + 1))) fun y2 =>
      bnd (G76x0x33 N v28 y2 (((IntKind.wrap .i64 (v0 + 1)).tmod 7) == 0) v35 (v35.length : Int) v0 v2 (y0.getD default).1 (y0.getD default).2.1 (IntKind.wrap .i64 (v0 + 1)) (IntKind.wrap .i64 (v1 + (y0.getD default).2.1)) 0 v4 v5 v6 v7 v8 v9 v10 v11 v12 v13 v14 v15 v16 v17 v18 v19 v20 v21 v22 v23 v24 v25 v26 v27) fun y3 =>
      bif (inlB y3) then
        k0 ((IntKind.wrap .i64 (v0 + 1)), (IntKind.wrap .i64 (v1 + (y0.getD default).2.1)), v2, (y1.getD default), (inlV y3).1, (inlV y3).2.1, (inlV y3).2.2.1, (inlV y3).2.2.2.1, (inlV y3).2.2.2.2.1, (inlV y3).2.2.2.2.2.1, (inlV y3).2.2.2.2.2.2.1, (inlV y3).2.2.2.2.2.2.2.1, (inlV y3).2.2.2.2.2.2.2.2.1, (inlV y3).2.2.2.2.2.2.2.2.2.1, (inlV y3).2.2.2.2.2.2.2.2.2.2.1, (inlV y3).2.2.2.2.2.2.2.2.2.2.2.1, (inlV y3).2.2.2.2.2.2.2.2.2.2.2.2.1, (inlV y3).2.2.2.2.2.2.2.2.2.2.2.2.2.1, (inlV y3).2.2.2.2.2.2.2.2.2.2.2.2.2.2.1, (inlV y3).2.2.2.2.2.2.2.2.2.2.2.2.2.2.2.1, (inlV y3).2.2.2.2.2.2.2.2.2.2.2.2.2.2.2.2.1, (inlV y3).2.2.2.2.2.2.2.2.2.2.2.2.2.2.2.2.2.1, (inlV y3).2.2.2.2.2.2.2.2.2.2.2.2.2.2.2.2.2.2.1, (inlV y3).2.2.2.2.2.2.2.2.2.2.2.2.2.2.2.2.2.2.2.1, (inlV y3).2.2.2.2.2.2.2.2.2.2.2.2.2.2.2.2.2.2.2.2.1, (inlV y3).2.2.2.2.2.2.2.2.2.2.2.2.2.2.2.2.2.2.2.2.2.1, (inlV y3).2.2.2.2.2.2.2.2.2.2.2.2.2.2.2.2.2.2.2.2.2.2.1, (inlV y3).2.2.2.2.2.2.2.2.2.2.2.2.2.2.2.2.2.2.2.2.2.2.2.1, false)
      else
        bif (inrQ y3).isSome then
          bnd (G76x0x119 N (((IntKind.wrap .i64 (v0 + 1)).tmod 7) == 0) v35 (IntKind.wrap .i64 (v1 + (y0.getD default).2.1)) v2) fun y4 =>
          bif y4.isSome then
            bnd (G74x0 N v35 [(.i 7), (.i 3), (.i 4)]) fun y5 =>
            bif y5.isSome then
              bnd (V76x0x134 N (!(y5.getD default)) (y4.getD default).1) fun y6 =>
              bnd ((inrQ y3).getD default).2.2.2.2.2.2.2.2.2.2.2.2.2.2.1 fun y7 =>
              bnd ((inrQ y3).getD default).2.2.2.2.2.2.2.2.2.2.2.2.2.2.2.1 fun y8 =>
              bnd ((inrQ y3).getD default).2.2.2.2.2.2.2.2.2.2.2.2.2.2.2.2.1 fun y9 =>
              bnd ((inrQ y3).getD default).2.2.2.2.2.2.2.2.2.2.2.2.2.2.2.2.2.1 fun y10 =>
              bnd ((inrQ y3).getD default).2.2.2.2.2.2.2.2.2.2.2.2.2.2.2.2.2.2.1 fun y11 =>
              bnd ((inrQ y3).getD default).2.2.2.2.2.2.2.2.2.2.2.2.2.2.2.2.2.2.2.1 fun y12 =>
              bnd ((inrQ y3).getD default).2.2.2.2.2.2.2.2.2.2.2.2.2.2.2.2.2.2.2.2.1 fun y13 =>
              bnd ((inrQ y3).getD default).2.2.2.2.2.2.2.2.2.2.2.2.2.2.2.2.2.2.2.2.2.1 fun y14 =>
              bnd ((inrQ y3).getD default).2.2.2.2.2.2.2.2.2.2.2.2.2.2.2.2.2.2.2.2.2.2.1 fun y15 =>
              bnd ((inrQ y3).getD default).2.2.2.2.2.2.2.2.2.2.2.2.2.2.2.2.2.2.2.2.2.2.2 fun y16 =>
              k0 ((IntKind.wrap .i64 (v0 + 1)), y6, (y4.getD default).2, (y1.getD default), ((inrQ y3).getD default).1, ((inrQ y3).getD default).2.1, ((inrQ y3).getD default).2.2.1, ((inrQ y3).getD default).2.2.2.1, ((inrQ y3).getD default).2.2.2.2.1, ((inrQ y3).getD default).2.2.2.2.2.1, ((inrQ y3).getD default).2.2.2.2.2.2.1, ((inrQ y3).getD default).2.2.2.2.2.2.2.1, ((inrQ y3).getD default).2.2.2.2.2.2.2.2.1, ((inrQ y3).getD default).2.2.2.2.2.2.2.2.2.1, ((inrQ y3).getD default).2.2.2.2.2.2.2.2.2.2.1, ((inrQ y3).getD default).2.2.2.2.2.2.2.2.2.2.2.1, ((inrQ y3).getD default).2.2.2.2.2.2.2.2.2.2.2.2.1, ((inrQ y3).getD default).2.2.2.2.2.2.2.2.2.2.2.2.2.1, y7, y8, y9, y10, y11, y12, y13, y14, y15, y16, true)
            else
              none
          else
            none
        else
          none
    else
      none
  else
    none
noncomputable def G76x0 (v0 v1 v2 v3 v4 v5 v6 v7 v8 v9 v10 v11 v12 v13 v14 v15 v16 v17 v18 v19 v20 v21 v22 v23 v24 v25 v26 v27 v28 v30 : Int) (v33 v35 : LD) : Option (Ty1) := F76x0 N v0 v1 v2 v3 v4 v5 v6 v7 v8 v9 v10 v11 v12 v13 v14 v15 v16 v17 v18 v19 v20 v21 v22 v23 v24 v25 v26 v27 v28 v30 v33 v35 (fun p => some p)
theorem bind76x0 (v0 v1 v2 v3 v4 v5 v6 v7 v8 v9 v10 v11 v12 v13 v14 v15 v16 v17 v18 v19 v20 v21 v22 v23 v24 v25 v26 v27 v28 v30 : Int) (v33 v35 : LD) (k0 : Ty1 → Option R) : F76x0 N v0 v1 v2 v3 v4 v5 v6 v7 v8 v9 v10 v11 v12 v13 v14 v15 v16 v17 v18 v19 v20 v21 v22 v23 v24 v25 v26 v27 v28 v30 v33 v35 k0 = (G76x0 N v0 v1 v2 v3 v4 v5 v6 v7 v8 v9 v10 v11 v12 v13 v14 v15 v16 v17 v18 v19 v20 v21 v22 v23 v24 v25 v26 v27 v28 v30 v33 v35).bind k0 := by
  unfold G76x0 F76x0
  repeat' (first | rfl | apply cond_b | (apply bnd_b; intro _))
noncomputable def J76x0 (L : List Lf) (k0 : Ty1 → Option R) : Option R := F76x0 N (li L 0) (li L 1) (li L 2) (li L 3) (li L 4) (li L 5) (li L 6) (li L 7) (li L 8) (li L 9) (li L 10) (li L 11) (li L 12) (li L 13) (li L 14) (li L 15) (li L 16) (li L 17) (li L 18) (li L 19) (li L 20) (li L 21) (li L 22) (li L 23) (li L 24) (li L 25) (li L 26) (li L 27) (li L 28) (li L 30) (ll L 33) (ll L 35) k0
noncomputable def sh76x0 : Sh := { tmps := [(0, .c (.p 0 0)), (1, .g (rI 28 ([]))), (2, .c (.i .i64))], mem := [(0, .box (.i .i64 :: .i .i64 :: [.i .i64, .sl 66, .sl 68, .sl 3, .sl 3, .m 1])), (1, .map 93 96)] }
noncomputable def K76x0w0 (L : List Lf) (p : Ty1) : Res := let p1 := p.2; let p2 := p1.2; let p3 := p2.2; let p4 := p3.2; let p5 := p4.2; let p6 := p5.2; let p7 := p6.2; let p8 := p7.2; let p9 := p8.2; let p10 := p9.2; let p11 := p10.2; let p12 := p11.2; let p13 := p12.2; let p14 := p13.2; let p15 := p14.2; let p16 := p15.2; let p17 := p16.2; let p18 := p17.2; let p19 := p18.2; let p20 := p19.2; let p21 := p20.2; let p22 := p21.2; let p23 := p22.2; let p24 := p23.2; let p25 := p24.2; let p26 := p25.2; let p27 := p26.2; let p28 := p27.2; ([.g [.i .i64 p.1, .i .i64 p1.1, .i .i64 p2.1, .i .i64 p3.1, .i .i64 p4.1, .i .i64 p5.1, .i .i64 p6.1, .i .i64 p7.1, .i .i64 p8.1, .i .i64 p9.1, .i .i64 p10.1, .i .i64 p11.1, .i .i64 p12.1, .i .i64 p13.1, .i .i64 p14.1, .i .i64 p15.1, .i .i64 p16.1, .i .i64 p17.1, .i .i64 p18.1, .i .i64 p19.1, .i .i64 p20.1, .i .i64 p21.1, .i .i64 p22.1, .i .i64 p23.1, .i .i64 p24.1, .i .i64 p25.1, .i .i64 p26.1, .i .i64 p27.1], .c (.b p28)], mgA (ofSh sh76x0 L).mem [] [0, 1])
noncomputable def A76x0 (L : List Lf) : List (Bool × Res) := bnd (J76x0 N L (fun p => some p)) fun q => [(q.isSome, K76x0w0 L (q.getD default))]
theorem raw76x0 (L : List Lf) : bd Try.prog (T93x0 N) (h76x0s16 N).h 76 sh76x0 L = J76x0 N L (fun p => some (K76x0w0 L p)) := by kernel_rfl
theorem ok76x0 : FnOk Try.prog 76 sh76x0 (A76x0 N) :=
  (h76x0s16 N).fn progOk (T93x0_ok N) fun L x hx => ((raw76x0 N L).trans ((bind76x0 N ..).trans (alt1 x hx)))
noncomputable def T76x0 : Oracle := ext 76 (spSh sh76x0 (A76x0 N)) (T93x0 N)
theorem T76x0_ok : OracleOk Try.prog (T76x0 N) := FnOk.to (ok76x0 N) (T93x0_ok N)
abbrev Rc75x1 : Type := Int → Int → Int → Int → Int → Int → Int → Int → Int → Int → Int → Int → Int → Int → Int → Int → Int → Int → Int → Int → Int → Int → Int → Int → Int → Int → Int → Int → Int → Int → Int → Bool → LD → Bool → LD → Bool → LD → Bool → LD → (List (D × D)) → Option (Ty9)
noncomputable def sh75x1 : Sh := { tmps := [(0, .c (.p 0 0)), (1, .g (rI 28 ([])))], mem := [(0, .box (.i .i64 :: .i .i64 :: [.i .i64, .sl 66, .sl 68, .sl 3, .sl 3, .m 1])), (1, .map 93 96)] }
noncomputable def B75x1 (N : Nat) (rc : Rc75x1) (L : List Lf) : List (Bool × Res) := bnd (rc (li L 0) (li L 1) (li L 2) (li L 3) (li L 4) (li L 5) (li L 6) (li L 7) (li L 8) (li L 9) (li L 10) (li L 11) (li L 12) (li L 13) (li L 14) (li L 15) (li L 16) (li L 17) (li L 18) (li L 19) (li L 20) (li L 21) (li L 22) (li L 23) (li L 24) (li L 25) (li L 26) (li L 27) (li L 28) (li L 29) (li L 30) (lb L 31) (ll L 32) (lb L 33) (ll L 34) (lb L 35) (ll L 36) (lb L 37) (ll L 38) (lm L 39)) fun q => [(q.isSome, ([.g [.i .i64 (q.getD default).1, .i .i64 (q.getD default).2.1, .i .i64 (q.getD default).2.2.1, .i .i64 (q.getD default).2.2.2.1]], [(0, .box [.i .i64 (li L 28), .i .i64 (li L 29), .i .i64 (li L 30), .sl 66 (lb L 31) (ll L 32), .sl 68 (lb L 33) (ll L 34), .sl 3 (lb L 35) (ll L 36), .sl 3 (lb L 37) (ll L 38), .m 1]), (1, .map 93 96 (q.getD default).2.2.2.2)]))]
noncomputable def O75x1 (rc : Rc75x1) : Oracle := ext 75 (spSh sh75x1 ((B75x1 N) rc)) (T76x0 N)
noncomputable def rg75x1 : List (Nat × List Nat) := [(0, [1, 0]), (1, [3, 0, 4]), (2, [4]), (3, [0, 3, 4]), (4, [6, 5, 4, 0, 3]), (5, [5, 4]), (6, [0, 3, 4]), (7, [0, 3, 7, 4]), (8, [8, 0, 3, 7, 4]), (10, [3, 0, 8, 7, 4]), (11, [0, 3, 8, 7, 4]), (12, [10, 8, 0, 3, 7, 4, 9]), (13, [0, 9, 8, 3, 7, 4]), (14, [11, 8, 0, 3, 7, 4]), (15, [11, 0, 8, 3, 7, 4]), (16, [0, 3, 8, 11, 7, 4]), (17, [11, 7, 8, 0, 3, 4]), (18, [7, 11, 8, 0, 3, 4]), (19, [7, 11, 12, 8, 0, 3, 4]), (20, [12, 11, 8, 7, 13, 0, 3, 4]), (21, [11, 8, 7, 13, 0, 3, 4]), (22, [13, 7, 8, 0, 3, 4]), (9, [8, 0, 3, 7, 4]), (23, [0, 3, 7, 4]), (24, [7, 4])]
noncomputable def hd75x1 : Hints := [(24, [8, 0, 3, 7, 4], [9, 6, 5, 1, 0], []), (31, [3, 0, 8, 7, 4], [9, 6, 5, 1, 0], []), (49, [0, 3, 8, 11, 7, 4], [13, 9, 6, 5, 1, 0], []), (53, [11, 7, 8, 0, 3, 4, 124], [13, 9, 6, 5, 1, 0], []), (65, [11, 8, 7, 13, 0, 3, 4, 158], [13, 9, 6, 5, 1, 0], [])]
noncomputable def h75x1s0 (rc : Rc75x1) (hR : OracleOk Try.prog ((O75x1 N) rc)) : Sg Try.prog 2 75 := .start hd75x1 rg75x1
noncomputable def F75x1x31 (rc : Rc75x1) (w0 w1 : Int) (w5 w7 w9 : LD) (w13 w16 : Int) (k0 : Bool → Option R) : Option R :=
  bif (decide (w13 < (w9.length : Int))) then
    bif (inB w13 w9.length) then
      bif ((w9.getD w13.toNat (.i 0)).toI != w0) then
        k0 true
      else
        bnd (G92x0 N w13 w16 w0 w1 w5 w7) fun y0 =>
        bif y0.isSome then
          k0 (!(y0.getD default))
        else
          none
    else
      none
  else
    bnd (G92x0 N w13 w16 w0 w1 w5 w7) fun y0 =>
    bif y0.isSome then
      k0 (!(y0.getD default))
    else
      none
noncomputable def G75x1x31 (rc : Rc75x1) (w0 w1 : Int) (w5 w7 w9 : LD) (w13 w16 : Int) : Option (Bool) := F75x1x31 N rc w0 w1 w5 w7 w9 w13 w16 (fun p => some p)
theorem bind75x1x31 (rc : Rc75x1) (w0 w1 : Int) (w5 w7 w9 : LD) (w13 w16 : Int) (k0 : Bool → Option R) : F75x1x31 N rc w0 w1 w5 w7 w9 w13 w16 k0 = (G75x1x31 N rc w0 w1 w5 w7 w9 w13 w16).bind k0 := by
  unfold G75x1x31 F75x1x31
  repeat' (first | rfl | apply cond_b | (apply bnd_b; intro _))
noncomputable def J75x1x31 (rc : Rc75x1) (L : List Lf) (k0 : Bool → Option R) : Option R := F75x1x31 N rc (li L 0) (li L 1) (ll L 5) (ll L 7) (ll L 9) (li L 13) (li L 16) k0
noncomputable def sh75x1x31 : Sh := { tmps := [(0, .c (.p 0 0)), (3, .c (.p 5 0)), (4, .c (.p 6 0)), (7, .c (.p 9 0)), (8, .c (.i .i64))], mem := [(0, .box (.i .i64 :: .i .i64 :: [.i .i64, .sl 66, .sl 68, .sl 3, .sl 3, .m 1])), (1, .map 93 96), (5, .box (rI 28 ([]))), (6, .box ([.i .i64, .i .i64, .i .i64, .i .i64])), (9, .box ([.i .i64, .i .i64, .i .i64, .i .i64]))] }
noncomputable def K75x1x31w0 (L : List Lf) (p : Bool) : Ex × St := (.normal, mg (ofSh sh75x1x31 L) [0, 3, 4, 7, 8, 71] [(71, .c (.b p))] [0, 1, 5, 6, 9] [])
noncomputable def A75x1x31 (rc : Rc75x1) (L : List Lf) : List (Bool × (Ex × St)) := bnd (J75x1x31 N rc L (fun p => some p)) fun q => [(q.isSome, K75x1x31w0 L (q.getD default))]
theorem raw75x1x31 (rc : Rc75x1) (hR : OracleOk Try.prog ((O75x1 N) rc)) (L : List Lf) : pc Try.prog ((O75x1 N) rc) ((h75x1s0 N) rc hR).h 2 100 75 31 sh75x1x31 L [8, 0, 3, 7, 4, 71] [9, 6, 5, 1, 0] = J75x1x31 N rc L (fun p => some (K75x1x31w0 L p)) := by kernel_rfl
noncomputable def h75x1s1 (rc : Rc75x1) (hR : OracleOk Try.prog ((O75x1 N) rc)) : Sg Try.prog 2 75 :=
  ((h75x1s0 N) rc hR).cut ((A75x1x31 N) rc) progOk hR fun L x hx => (raw75x1x31 N rc hR L).trans ((bind75x1x31 N rc ..).trans (alt1 x hx))
noncomputable def F75x1x49 (N : Nat) (rc : Rc75x1) (w0 : Int) (w9 : LD) (w10 : Bool) (w11 : LD) (w13 : Int) (k0 : Bool → Option R) : Option R :=
  bif (!w10) then
    bif (decide (w13 ≥ (w9.length : Int))) then
      bif (inB w13 w11.length) then
        k0 ((w11.getD w13.toNat (.i 0)).toI != w0)
      else
        none
    else
      k0 false
  else
    k0 false
noncomputable def G75x1x49 (rc : Rc75x1) (w0 : Int) (w9 : LD) (w10 : Bool) (w11 : LD) (w13 : Int) : Option (Bool) := F75x1x49 N rc w0 w9 w10 w11 w13 (fun p => some p)
theorem bind75x1x49 (rc : Rc75x1) (w0 : Int) (w9 : LD) (w10 : Bool) (w11 : LD) (w13 : Int) (k0 : Bool → Option R) : F75x1x49 N rc w0 w9 w10 w11 w13 k0 = (G75x1x49 N rc w0 w9 w10 w11 w13).bind k0 := by
  unfold G75x1x49 F75x1x49
  repeat' (first | rfl | apply cond_b | (apply bnd_b; intro _))
noncomputable def J75x1x49 (rc : Rc75x1) (L : List Lf) (k0 : Bool → Option R) : Option R := F75x1x49 N rc (li L 0) (ll L 9) (lb L 10) (ll L 11) (li L 13) k0
noncomputable def sh75x1x49 : Sh := { tmps := [(0, .c (.p 0 0)), (3, .c (.p 5 0)), (4, .c (.p 6 0)), (7, .c (.p 9 0)), (8, .c (.i .i64)), (11, .c (.p 13 0))], mem := [(0, .box (.i .i64 :: .i .i64 :: [.i .i64, .sl 66, .sl 68, .sl 3, .sl 3, .m 1])), (1, .map 93 96), (5, .box (rI 28 ([]))), (6, .box ([.i .i64, .i .i64, .i .i64, .i .i64])), (9, .box ([.i .i64, .i .i64, .i .i64, .i .i64])), (13, .box ([.i .i64, .i .i64, .i .i64, .i .i64]))] }
noncomputable def K75x1x49w0 (L : List Lf) (p : Bool) : Ex × St := (.normal, mg (ofSh sh75x1x49 L) [0, 3, 4, 7, 8, 11, 124] [(124, .c (.b p))] [0, 1, 5, 6, 9, 13] [])
noncomputable def A75x1x49 (rc : Rc75x1) (L : List Lf) : List (Bool × (Ex × St)) := bnd (J75x1x49 N rc L (fun p => some p)) fun q => [(q.isSome, K75x1x49w0 L (q.getD default))]
theorem raw75x1x49 (rc : Rc75x1) (hR : OracleOk Try.prog ((O75x1 N) rc)) (L : List Lf) : pc Try.prog ((O75x1 N) rc) ((h75x1s1 N) rc hR).h 2 100 75 49 sh75x1x49 L [11, 7, 8, 0, 3, 4, 124] [13, 9, 6, 5, 1, 0] = J75x1x49 N rc L (fun p => some (K75x1x49w0 L p)) := by kernel_rfl
noncomputable def h75x1s2 (rc : Rc75x1) (hR : OracleOk Try.prog ((O75x1 N) rc)) : Sg Try.prog 2 75 :=
  ((h75x1s1 N) rc hR).cut ((A75x1x49 N) rc) progOk hR fun L x hx => (raw75x1x49 N rc hR L).trans ((bind75x1x49 N rc ..).trans (alt1 x hx))
noncomputable def F75x1x53 (N : Nat) (rc : Rc75x1) (w1 : Bool) (w51 : Int) (k0 : Int → R) : R :=
  bif w1 then
    k0 (IntKind.wrap .i64 (w51 + 1))
  else
    k0 w51
noncomputable def V75x1x53 (rc : Rc75x1) (w1 : Bool) (w51 : Int) : Int := F75x1x53 N rc w1 w51 (fun p => p)
theorem tot75x1x53 (rc : Rc75x1) (w1 : Bool) (w51 : Int) (k0 : Int → R) : F75x1x53 N rc w1 w51 k0 = k0 (V75x1x53 N rc w1 w51) := by
  unfold V75x1x53 F75x1x53
  repeat' (first | rfl | apply cond_k | (apply bnd_k; intro _))
noncomputable def sh75x1x53 : Sh := { tmps := [(0, .c (.p 0 0)), (3, .c (.p 5 0)), (4, .c (.p 6 0)), (7, .c (.p 9 0)), (8, .c (.i .i64)), (11, .c (.p 13 0)), (124, .c (.b))], mem := [(0, .box (.i .i64 :: .i .i64 :: [.i .i64, .sl 66, .sl 68, .sl 3, .sl 3, .m 1])), (1, .map 93 96), (5, .box (rI 28 ([]))), (6, .box ([.i .i64, .i .i64, .i .i64, .i .i64])), (9, .box ([.i .i64, .i .i64, .i .i64, .i .i64])), (13, .box ([.i .i64, .i .i64, .i .i64, .i .i64]))] }
noncomputable def K75x1x53w0 (L : List Lf) (p : Int) : Ex × St := (.normal, mg (ofSh sh75x1x53 L) [0, 3, 4, 7, 8, 11] [] [0, 1, 5, 6, 9, 13] [(13, .box [.i .i64 (li L 50), .i .i64 p, .i .i64 (li L 52), .i .i64 (li L 53)])])
noncomputable def A75x1x53 (rc : Rc75x1) (L : List Lf) : List (Bool × (Ex × St)) := bnd (F75x1x53 N rc (lb L 1) (li L 51) (fun p => p)) fun q => [(true, K75x1x53w0 L q)]
theorem raw75x1x53 (rc : Rc75x1) (hR : OracleOk Try.prog ((O75x1 N) rc)) (L : List Lf) : pc Try.prog ((O75x1 N) rc) ((h75x1s2 N) rc hR).h 2 100 75 53 sh75x1x53 L [7, 11, 8, 0, 3, 4] [13, 9, 6, 5, 1, 0] = F75x1x53 N rc (lb L 1) (li L 51) (fun p => some (K75x1x53w0 L p)) := by kernel_rfl
noncomputable def h75x1s3 (rc : Rc75x1) (hR : OracleOk Try.prog ((O75x1 N) rc)) : Sg Try.prog 2 75 :=
  ((h75x1s2 N) rc hR).cut ((A75x1x53 N) rc) progOk hR fun L x hx => (raw75x1x53 N rc hR L).trans ((tot75x1x53 N rc ..).trans (alt0 _ _ hx))
noncomputable def F75x1x65 (N : Nat) (rc : Rc75x1) (w0 : Int) (w2 : Bool) (w47 w48 w49 w50 w52 w53 : Int) (k0 : Int × Int × Int × Int → R) : R :=
  bif w2 then
    k0 (0, w52, w53, w0)
  else
    k0 (w47, w48, w49, w50)
noncomputable def V75x1x65 (rc : Rc75x1) (w0 : Int) (w2 : Bool) (w47 w48 w49 w50 w52 w53 : Int) : Int × Int × Int × Int := F75x1x65 N rc w0 w2 w47 w48 w49 w50 w52 w53 (fun p => p)
theorem tot75x1x65 (rc : Rc75x1) (w0 : Int) (w2 : Bool) (w47 w48 w49 w50 w52 w53 : Int) (k0 : Int × Int × Int × Int → R) : F75x1x65 N rc w0 w2 w47 w48 w49 w50 w52 w53 k0 = k0 (V75x1x65 N rc w0 w2 w47 w48 w49 w50 w52 w53) := by
  unfold V75x1x65 F75x1x65
  repeat' (first | rfl | apply cond_k | (apply bnd_k; intro _))
noncomputable def J75x1x65 (rc : Rc75x1) (L : List Lf) (k0 : Int × Int × Int × Int → R) : R := F75x1x65 N rc (li L 0) (lb L 2) (li L 47) (li L 48) (li L 49) (li L 50) (li L 52) (li L 53) k0
noncomputable def sh75x1x65 : Sh := { tmps := [(0, .c (.p 0 0)), (3, .c (.p 5 0)), (4, .c (.p 6 0)), (7, .c (.p 9 0)), (8, .c (.i .i64)), (11, .c (.p 13 0)), (13, .c (.i .i64)), (158, .c (.b))], mem := [(0, .box (.i .i64 :: .i .i64 :: [.i .i64, .sl 66, .sl 68, .sl 3, .sl 3, .m 1])), (1, .map 93 96), (5, .box (rI 28 ([]))), (6, .box ([.i .i64, .i .i64, .i .i64, .i .i64])), (9, .box ([.i .i64, .i .i64, .i .i64, .i .i64])), (13, .box ([.i .i64, .i .i64, .i .i64, .i .i64]))] }
noncomputable def K75x1x65w0 (L : List Lf) (p : Int × Int × Int × Int) : Ex × St := (.normal, mg (ofSh sh75x1x65 L) [0, 3, 4, 7, 8, 13] [] [0, 1, 5, 6, 9] [(9, .box [.i .i64 p.1, .i .i64 p.2.1, .i .i64 p.2.2.1, .i .i64 p.2.2.2])])
noncomputable def A75x1x65 (rc : Rc75x1) (L : List Lf) : List (Bool × (Ex × St)) := bnd (J75x1x65 N rc L (fun p => p)) fun q => [(true, K75x1x65w0 L q)]
theorem raw75x1x65 (rc : Rc75x1) (hR : OracleOk Try.prog ((O75x1 N) rc)) (L : List Lf) : pc Try.prog ((O75x1 N) rc) ((h75x1s3 N) rc hR).h 2 100 75 65 sh75x1x65 L [13, 7, 8, 0, 3, 4] [9, 6, 5, 1, 0] = J75x1x65 N rc L (fun p => some (K75x1x65w0 L p)) := by kernel_rfl
noncomputable def h75x1s4 (rc : Rc75x1) (hR : OracleOk Try.prog ((O75x1 N) rc)) : Sg Try.prog 2 75 :=
  ((h75x1s3 N) rc hR).cut ((A75x1x65 N) rc) progOk hR fun L x hx => (raw75x1x65 N rc hR L).trans ((tot75x1x65 N rc ..).trans (alt0 _ _ hx))
noncomputable def S75x1x24 (rc : Rc75x1) (w1 w2 w3 : Int) (w4 : Bool) (w5 : LD) (w6 : Bool) (w7 : LD) (w8 : Bool) (w9 : LD) (w10 : Bool) (w11 : LD) (w13 w14 w15 w16 w17 w18 w19 w20 w21 w22 w23 w24 w25 w26 w27 w28 w29 w30 w31 w32 w33 w34 w35 w36 w37 w38 w39 w40 : Int) (w0 : Int) (w12 : (List (D × D))) (w45 w46 w47 w48 : Int) (kr : Int → (List (D × D)) → Int → Int → Int → Int → Option R) (k0 : Ty10 → Option R) : Option R :=
  bif (decide (w0 < (w5.length : Int))) then
    bnd (G75x1x31 N rc w0 w1 w5 w7 w9 w13 w16) fun y0 =>
    bif y0.isSome then
      bif (y0.getD default) then
        kr (IntKind.wrap .i64 (w0 + 1)) w12 w45 w46 w47 w48
      else
        bnd (G76x0 N w13 w14 w15 w16 w17 w18 w19 w20 w21 w22 w23 w24 w25 w26 w27 w28 w29 w30 w31 w32 w33 w34 w35 w36 w37 w38 w39 w40 w0 w2 w5 w7) fun y1 =>
        bif y1.isSome then
          bnd (y1.getD default).2.2.2.2.2.2.2.2.2.2.2.2.2.2.2.2.2.2.1 fun y2 =>
          bnd (y1.getD default).2.2.2.2.2.2.2.2.2.2.2.2.2.2.2.2.2.2.2.1 fun y3 =>
          bnd (y1.getD default).2.2.2.2.2.2.2.2.2.2.2.2.2.2.2.2.2.2.2.2.1 fun y4 =>
          bnd (y1.getD default).2.2.2.2.2.2.2.2.2.2.2.2.2.2.2.2.2.2.2.2.2.1 fun y5 =>
          bnd (y1.getD default).2.2.2.2.2.2.2.2.2.2.2.2.2.2.2.2.2.2.2.2.2.2.1 fun y6 =>
          bnd (y1.getD default).2.2.2.2.2.2.2.2.2.2.2.2.2.2.2.2.2.2.2.2.2.2.2.1 fun y7 =>
          bnd (y1.getD default).2.2.2.2.2.2.2.2.2.2.2.2.2.2.2.2.2.2.2.2.2.2.2.2.1 fun y8 =>
          bnd (y1.getD default).2.2.2.2.2.2.2.2.2.2.2.2.2.2.2.2.2.2.2.2.2.2.2.2.2.1 fun y9 =>
          bnd (y1.getD default).2.2.2.2.2.2.2.2.2.2.2.2.2.2.2.2.2.2.2.2.2.2.2.2.2.2.1 fun y10 =>
          bnd (y1.getD default).2.2.2.2.2.2.2.2.2.2.2.2.2.2.2.2.2.2.2.2.2.2.2.2.2.2.2.1 fun y11 =>
          bnd (y1.getD default).2.2.2.2.2.2.2.2.2.2.2.2.2.2.2.2.2.2.2.2.2.2.2.2.2.2.2.2 fun y12 =>
          bif (!y12) then
            kr (IntKind.wrap .i64 (w0 + 1)) w12 w45 w46 w47 w48
          else
            bnd (rc (y1.getD default).1 (y1.getD default).2.1 (y1.getD default).2.2.1 (y1.getD default).2.2.2.1 (y1.getD default).2.2.2.2.1 (y1.getD default).2.2.2.2.2.1 (y1.getD default).2.2.2.2.2.2.1 (y1.getD default).2.2.2.2.2.2.2.1 (y1.getD default).2.2.2.2.2.2.2.2.1 (y1.getD default).2.2.2.2.2.2.2.2.2.1 (y1.getD default).2.2.2.2.2.2.2.2.2.2.1 (y1.getD default).2.2.2.2.2.2.2.2.2.2.2.1 (y1.getD default).2.2.2.2.2.2.2.2.2.2.2.2.1 (y1.getD default).2.2.2.2.2.2.2.2.2.2.2.2.2.1 (y1.getD default).2.2.2.2.2.2.2.2.2.2.2.2.2.2.1 (y1.getD default).2.2.2.2.2.2.2.2.2.2.2.2.2.2.2.1 (y1.getD default).2.2.2.2.2.2.2.2.2.2.2.2.2.2.2.2.1 (y1.getD default).2.2.2.2.2.2.2.2.2.2.2.2.2.2.2.2.2.1 y2 y3 y4 y5 y6 y7 y8 y9 y10 y11 w1 w2 w3 w4 w5 w6 w7 w8 w9 w10 w11 w12) fun y13 =>
            bif y13.isSome then
              bif ((y13.getD default).1 == 0) then
                kr (IntKind.wrap .i64 (w0 + 1)) (y13.getD default).2.2.2.2 w45 w46 w47 w48
              else
                bnd (G63x0 N w5 w0) fun y14 =>
                bif y14.isSome then
                  bnd (IntKind.wrap .i64 ((y13.getD default).2.2.1 + (y14.getD default).2.2.2.1)) fun y15 =>
                  bnd (G75x1x49 N rc w0 w9 w10 w11 w13) fun y16 =>
                  bif y16.isSome then
                    bnd (V75x1x53 N rc (y16.getD default) (y13.getD default).2.1) fun y17 =>
                    bnd (bif (bif (w45 == 0) then true else (decide (y17 < w46))) then true else (bif (y17 == w46) then (decide (y15 > w47)) else false)) fun y18 =>
                    bnd (V75x1x65 N rc w0 y18 w45 w46 w47 w48 y17 y15) fun y19 =>
                    kr (IntKind.wrap .i64 (w0 + 1)) (y13.getD default).2.2.2.2 (IntKind.wrap .i64 (w45 + (y13.getD default).1)) y19.2.1 y19.2.2.1 y19.2.2.2
                  else
                    none
                else
                  none
            else
              none
        else
          none
    else
      none
  else
    k0 (w12, w45, w46, w47, w48)
noncomputable def L75x1x24 (N : Nat) (rc : Rc75x1) {R : Type} (w1 w2 w3 : Int) (w4 : Bool) (w5 : LD) (w6 : Bool) (w7 : LD) (w8 : Bool) (w9 : LD) (w10 : Bool) (w11 : LD) (w13 w14 w15 w16 w17 w18 w19 w20 w21 w22 w23 w24 w25 w26 w27 w28 w29 w30 w31 w32 w33 w34 w35 w36 w37 w38 w39 w40 : Int) : Nat → Int → (List (D × D)) → Int → Int → Int → Int → (Ty10 → Option R) → Option R
  | 0, _, _, _, _, _, _, _ => none
  | m + 1, w0, w12, w45, w46, w47, w48, k0 => S75x1x24 N rc w1 w2 w3 w4 w5 w6 w7 w8 w9 w10 w11 w13 w14 w15 w16 w17 w18 w19 w20 w21 w22 w23 w24 w25 w26 w27 w28 w29 w30 w31 w32 w33 w34 w35 w36 w37 w38 w39 w40 w0 w12 w45 w46 w47 w48 (fun w0 w12 w45 w46 w47 w48 => L75x1x24 N rc w1 w2 w3 w4 w5 w6 w7 w8 w9 w10 w11 w13 w14 w15 w16 w17 w18 w19 w20 w21 w22 w23 w24 w25 w26 w27 w28 w29 w30 w31 w32 w33 w34 w35 w36 w37 w38 w39 w40 m w0 w12 w45 w46 w47 w48 k0) k0
noncomputable def G75x1x24 (rc : Rc75x1) (w1 w2 w3 : Int) (w4 : Bool) (w5 : LD) (w6 : Bool) (w7 : LD) (w8 : Bool) (w9 : LD) (w10 : Bool) (w11 : LD) (w13 w14 w15 w16 w17 w18 w19 w20 w21 w22 w23 w24 w25 w26 w27 w28 w29 w30 w31 w32 w33 w34 w35 w36 w37 w38 w39 w40 : Int) (w0 : Int) (w12 : (List (D × D))) (w45 w46 w47 w48 : Int) : Option (Ty10) := L75x1x24 N rc (R := (Ty10)) w1 w2 w3 w4 w5 w6 w7 w8 w9 w10 w11 w13 w14 w15 w16 w17 w18 w19 w20 w21 w22 w23 w24 w25 w26 w27 w28 w29 w30 w31 w32 w33 w34 w35 w36 w37 w38 w39 w40 N w0 w12 w45 w46 w47 w48 (fun p => some p)
noncomputable def J75x1x24 (rc : Rc75x1) (L x : List Lf) (kr : List Lf → Option R) (k0 : Ty10 → Option R) : Option R := S75x1x24 N rc (li L 1) (li L 2) (li L 3) (lb L 4) (ll L 5) (lb L 6) (ll L 7) (lb L 8) (ll L 9) (lb L 10) (ll L 11) (li L 13) (li L 14) (li L 15) (li L 16) (li L 17) (li L 18) (li L 19) (li L 20) (li L 21) (li L 22) (li L 23) (li L 24) (li L 25) (li L 26) (li L 27) (li L 28) (li L 29) (li L 30) (li L 31) (li L 32) (li L 33) (li L 34) (li L 35) (li L 36) (li L 37) (li L 38) (li L 39) (li L 40) (li x 0) (lm x 1) (li x 2) (li x 3) (li x 4) (li x 5) (fun w0 w12 w45 w46 w47 w48 => kr [.i w0, .m w12, .i w45, .i w46, .i w47, .i w48]) k0
theorem sb75x1x24 (rc : Rc75x1) (L x : List Lf) (kr : List Lf → Option R) (k0 : Ty10 → Option R) : J75x1x24 N rc L x kr k0 = (J75x1x24 N rc L x (fun y => some (.inl y)) (fun p => some (.inr p))).bind (sumE kr k0) := by
  unfold J75x1x24 S75x1x24
  repeat' (first | rfl | apply cond_b | (apply bnd_b; intro _))
noncomputable def Q75x1x24 (rc : Rc75x1) (L : List Lf) (m : Nat) (x : List Lf) : Option (Ty10) := L75x1x24 N rc (R := (Ty10)) (li L 1) (li L 2) (li L 3) (lb L 4) (ll L 5) (lb L 6) (ll L 7) (lb L 8) (ll L 9) (lb L 10) (ll L 11) (li L 13) (li L 14) (li L 15) (li L 16) (li L 17) (li L 18) (li L 19) (li L 20) (li L 21) (li L 22) (li L 23) (li L 24) (li L 25) (li L 26) (li L 27) (li L 28) (li L 29) (li L 30) (li L 31) (li L 32) (li L 33) (li L 34) (li L 35) (li L 36) (li L 37) (li L 38) (li L 39) (li L 40) m (li x 0) (lm x 1) (li x 2) (li x 3) (li x 4) (li x 5) (fun p => some p)
noncomputable def sh75x1x24 : Sh := { tmps := [(0, .c (.p 0 0)), (3, .c (.p 5 0)), (4, .c (.p 6 0)), (7, .c (.p 9 0)), (8, .c (.i .i64))], mem := [(0, .box (.i .i64 :: .i .i64 :: [.i .i64, .sl 66, .sl 68, .sl 3, .sl 3, .m 1])), (1, .map 93 96), (5, .box (rI 28 ([]))), (6, .box ([.i .i64, .i .i64, .i .i64, .i .i64])), (9, .box ([.i .i64, .i .i64, .i .i64, .i .i64]))] }
noncomputable def K75x1x24w0 (L : List Lf) (p : Ty10) : Ex × St := ((.exit 0), mg (ofSh sh75x1x24 L) [0, 3, 4, 7] [] [0, 1, 5, 6, 9] [(1, .map 93 96 p.1), (9, .box [.i .i64 p.2.1, .i .i64 p.2.2.1, .i .i64 p.2.2.2.1, .i .i64 p.2.2.2.2])])
noncomputable def A75x1x24 (rc : Rc75x1) (L : List Lf) : List (Bool × (Ex × St)) := bnd (Q75x1x24 N rc L N (pk sh75x1x24 [0, 12, 45, 46, 47, 48] L)) fun q => [(q.isSome, K75x1x24w0 L (q.getD default))]
theorem step75x1x24 (rc : Rc75x1) (hR : OracleOk Try.prog ((O75x1 N) rc)) (m : Nat) (kn : St → Option (Ex × St)) (L x : List Lf) : lpB Try.prog ((O75x1 N) rc) ((h75x1s4 N) rc hR).h 2 75 24 sh75x1x24 [0, 12, 45, 46, 47, 48] [4, 0, 3, 7] [9, 6, 5, 1, 0] (m + 100) kn L x = J75x1x24 N rc L x (fun y => kn (ofSh sh75x1x24 (mx sh75x1x24 [0, 12, 45, 46, 47, 48] L y))) (fun p => some (K75x1x24w0 L p)) := by kernel_rfl
noncomputable def h75x1s5 (rc : Rc75x1) (hR : OracleOk Try.prog ((O75x1 N) rc)) : Sg Try.prog 2 75 :=
  ((h75x1s4 N) rc hR).lp ((A75x1x24 N) rc) N progOk hR (fun m kn L x => (step75x1x24 N rc hR m kn L x).trans (sb75x1x24 N rc L x _ _)) (fun L m x => sb75x1x24 N rc L x (Q75x1x24 N rc L m) some) fun L x hx => alt1 x hx
noncomputable def F75x1 (rc : Rc75x1) (v0 v1 v2 v3 v4 v5 v6 v7 v8 v9 v10 v11 v12 v13 v14 v15 v16 v17 v18 v19 v20 v21 v22 v23 v24 v25 v26 v27 v28 v29 v30 : Int) (v31 : Bool) (v32 : LD) (v33 : Bool) (v34 : LD) (v35 : Bool) (v36 : LD) (v37 : Bool) (v38 : LD) (v39 : (List (D × D))) (k0 : Ty9 → Option R) : Option R :=
  bif (v0 == v29) then
    k0 (1, 0, 0, (-2), v39)
  else
    bnd (((findB Try.prog 93 (.a [(.i v0), (.i v1), (.i v2), (.i v3), (.i v4), (.i v5), (.i v6), (.i v7), (.i v8), (.i v9), (.i v10), (.i v11), (.i v12), (.i v13), (.i v14), (.i v15), (.i v16), (.i v17), (.i v18), (.i v19), (.i v20), (.i v21), (.i v22), (.i v23), (.i v24), (.i v25), (.i v26), (.i v27)]) v39).getD (.a [(.i 0), (.i 0), (.i 0), (.i 0)])).cell 0).toI fun y0 =>
    bnd (((findB Try.prog 93 (.a [(.i v0), (.i v1), (.i v2), (.i v3), (.i v4), (.i v5), (.i v6), (.i v7), (.i v8), (.i v9), (.i v10), (.i v11), (.i v12), (.i v13), (.i v14), (.i v15), (.i v16), (.i v17), (.i v18), (.i v19), (.i v20), (.i v21), (.i v22), (.i v23), (.i v24), (.i v25), (.i v26), (.i v27)]) v39).getD (.a [(.i 0), (.i 0), (.i 0), (.i 0)])).cell 1).toI fun y1 =>
    bnd (((findB Try.prog 93 (.a [(.i v0), (.i v1), (.i v2), (.i v3), (.i v4), (.i v5), (.i v6), (.i v7), (.i v8), (.i v9), (.i v10), (.i v11), (.i v12), (.i v13), (.i v14), (.i v15), (.i v16), (.i v17), (.i v18), (.i v19), (.i v20), (.i v21), (.i v22), (.i v23), (.i v24), (.i v25), (.i v26), (.i v27)]) v39).getD (.a [(.i 0), (.i 0), (.i 0), (.i 0)])).cell 2).toI fun y2 =>
    bnd (((findB Try.prog 93 (.a [(.i v0), (.i v1), (.i v2), (.i v3), (.i v4), (.i v5), (.i v6), (.i v7), (.i v8), (.i v9), (.i v10), (.i v11), (.i v12), (.i v13), (.i v14), (.i v15), (.i v16), (.i v17), (.i v18), (.i v19), (.i v20), (.i v21), (.i v22), (.i v23), (.i v24), (.i v25), (.i v26), (.i v27)]) v39).getD (.a [(.i 0), (.i 0), (.i 0), (.i 0)])).cell 3).toI fun y3 =>
    bnd (findB Try.prog 93 (.a [(.i v0), (.i v1), (.i v2), (.i v3), (.i v4), (.i v5), (.i v6), (.i v7), (.i v8), (.i v9), (.i v10), (.i v11), (.i v12), (.i v13), (.i v14), (.i v15), (.i v16), (.i v17), (.i v18), (.i v19), (.i v20), (.i v21), (.i v22), (.i v23), (.i v24), (.i v25), (.i v26), (.i v27)]) v39).isSome fun y4 =>
    bif y4 then
      k0 (y0, y1, y2, y3, v39)
    else
      bnd (G75x1x24 N rc v28 v29 v30 v31 v32 v33 v34 v35 v36 v37 v38 v0 v1 v2 v3 v4 v5 v6 v7 v8 v9 v10 v11 v12 v13 v14 v15 v16 v17 v18 v19 v20 v21 v22 v23 v24 v25 v26 v27 (-1) v39 0 0 0 (-2)) fun y5 =>
      bif y5.isSome then
        bnd (putB Try.prog 93 (.a [(.i v0), (.i v1), (.i v2), (.i v3), (.i v4), (.i v5), (.i v6), (.i v7), (.i v8), (.i v9), (.i v10), (.i v11), (.i v12), (.i v13), (.i v14), (.i v15), (.i v16), (.i v17), (.i v18), (.i v19), (.i v20), (.i v21), (.i v22), (.i v23), (.i v24), (.i v25), (.i v26), (.i v27)]) (.a [(.i (y5.getD default).2.1), (.i (y5.getD default).2.2.1), (.i (y5.getD default).2.2.2.1), (.i (y5.getD default).2.2.2.2)]) (y5.getD default).1) fun y6 =>
        k0 ((y5.getD default).2.1, (y5.getD default).2.2.1, (y5.getD default).2.2.2.1, (y5.getD default).2.2.2.2, y6)
      else
        none
noncomputable def G75x1 (rc : Rc75x1) (v0 v1 v2 v3 v4 v5 v6 v7 v8 v9 v10 v11 v12 v13 v14 v15 v16 v17 v18 v19 v20 v21 v22 v23 v24 v25 v26 v27 v28 v29 v30 : Int) (v31 : Bool) (v32 : LD) (v33 : Bool) (v34 : LD) (v35 : Bool) (v36 : LD) (v37 : Bool) (v38 : LD) (v39 : (List (D × D))) : Option (Ty9) := F75x1 N rc v0 v1 v2 v3 v4 v5 v6 v7 v8 v9 v10 v11 v12 v13 v14 v15 v16 v17 v18 v19 v20 v21 v22 v23 v24 v25 v26 v27 v28 v29 v30 v31 v32 v33 v34 v35 v36 v37 v38 v39 (fun p => some p)
theorem bind75x1 (rc : Rc75x1) (v0 v1 v2 v3 v4 v5 v6 v7 v8 v9 v10 v11 v12 v13 v14 v15 v16 v17 v18 v19 v20 v21 v22 v23 v24 v25 v26 v27 v28 v29 v30 : Int) (v31 : Bool) (v32 : LD) (v33 : Bool) (v34 : LD) (v35 : Bool) (v36 : LD) (v37 : Bool) (v38 : LD) (v39 : (List (D × D))) (k0 : Ty9 → Option R) : F75x1 N rc v0 v1 v2 v3 v4 v5 v6 v7 v8 v9 v10 v11 v12 v13 v14 v15 v16 v17 v18 v19 v20 v21 v22 v23 v24 v25 v26 v27 v28 v29 v30 v31 v32 v33 v34 v35 v36 v37 v38 v39 k0 = (G75x1 N rc v0 v1 v2 v3 v4 v5 v6 v7 v8 v9 v10 v11 v12 v13 v14 v15 v16 v17 v18 v19 v20 v21 v22 v23 v24 v25 v26 v27 v28 v29 v30 v31 v32 v33 v34 v35 v36 v37 v38 v39).bind k0 := by
  unfold G75x1 F75x1
  repeat' (first | rfl | apply cond_b | (apply bnd_b; intro _))
noncomputable def J75x1 (rc : Rc75x1) (L : List Lf) (k0 : Ty9 → Option R) : Option R := F75x1 N rc (li L 0) (li L 1) (li L 2) (li L 3) (li L 4) (li L 5) (li L 6) (li L 7) (li L 8) (li L 9) (li L 10) (li L 11) (li L 12) (li L 13) (li L 14) (li L 15) (li L 16) (li L 17) (li L 18) (li L 19) (li L 20) (li L 21) (li L 22) (li L 23) (li L 24) (li L 25) (li L 26) (li L 27) (li L 28) (li L 29) (li L 30) (lb L 31) (ll L 32) (lb L 33) (ll L 34) (lb L 35) (ll L 36) (lb L 37) (ll L 38) (lm L 39) k0
noncomputable def K75x1w0 (L : List Lf) (p : Ty9) : Res := ([.g [.i .i64 p.1, .i .i64 p.2.1, .i .i64 p.2.2.1, .i .i64 p.2.2.2.1]], mgA (ofSh sh75x1 L).mem [(1, .map 93 96 p.2.2.2.2)] [0, 1])
theorem raw75x1 (rc : Rc75x1) (hR : OracleOk Try.prog ((O75x1 N) rc)) (L : List Lf) : bd Try.prog ((O75x1 N) rc) ((h75x1s5 N) rc hR).h 75 sh75x1 L = J75x1 N rc L (fun p => some (K75x1w0 L p)) := by kernel_rfl
theorem fin75x1 (rc : Rc75x1) (hR : OracleOk Try.prog ((O75x1 N) rc)) (L : List Lf) (x : Res) (hx : altK ((B75x1 N) (fun v0 v1 v2 v3 v4 v5 v6 v7 v8 v9 v10 v11 v12 v13 v14 v15 v16 v17 v18 v19 v20 v21 v22 v23 v24 v25 v26 v27 v28 v29 v30 v31 v32 v33 v34 v35 v36 v37 v38 v39 => G75x1 N rc v0 v1 v2 v3 v4 v5 v6 v7 v8 v9 v10 v11 v12 v13 v14 v15 v16 v17 v18 v19 v20 v21 v22 v23 v24 v25 v26 v27 v28 v29 v30 v31 v32 v33 v34 v35 v36 v37 v38 v39) L) some = some x) : CallOk Try.prog 75 (valsOf (ofSh sh75x1 L).tmps) (ofSh sh75x1 L).mem x :=
  callOk_of (n := 200) progOk hR ((h75x1s5 N) rc hR).ok rfl ((raw75x1 N rc hR L).trans ((bind75x1 N rc ..).trans (alt1 x hx)))
noncomputable def R75x1 (N : Nat) : Nat → Rc75x1
  | 0 => fun _ _ _ _ _ _ _ _ _ _ _ _ _ _ _ _ _ _ _ _ _ _ _ _ _ _ _ _ _ _ _ _ _ _ _ _ _ _ _ _ => none
  | m + 1 => fun v0 v1 v2 v3 v4 v5 v6 v7 v8 v9 v10 v11 v12 v13 v14 v15 v16 v17 v18 v19 v20 v21 v22 v23 v24 v25 v26 v27 v28 v29 v30 v31 v32 v33 v34 v35 v36 v37 v38 v39 => G75x1 N (R75x1 N m) v0 v1 v2 v3 v4 v5 v6 v7 v8 v9 v10 v11 v12 v13 v14 v15 v16 v17 v18 v19 v20 v21 v22 v23 v24 v25 v26 v27 v28 v29 v30 v31 v32 v33 v34 v35 v36 v37 v38 v39
theorem Rok75x1 (N : Nat) : ∀ m, OracleOk Try.prog ((O75x1 N) (R75x1 N m))
  | 0 => ext_ok (T76x0_ok N) (enters_of (by kernel_rfl)) (spSh_law fun L x hx => by
    have h : (none : Option Res) = some x := hx
    cases h)
  | m + 1 => ext_ok (T76x0_ok N) (enters_of (by kernel_rfl)) (spSh_law fun L x hx => fin75x1 N (R75x1 N m) (Rok75x1 N m) L x hx)
noncomputable def T75x1 : Oracle := (O75x1 N) (R75x1 N N)
theorem T75x1_ok : OracleOk Try.prog (T75x1 N) := Rok75x1 N N
noncomputable def rg45x0 : List (Nat × List Nat) := [(0, [0, 1, 2]), (1, [3, 1, 2]), (2, [3, 8]), (3, [3, 9, 8]), (4, [3, 9, 8]), (5, [8, 9, 3]), (6, [10, 9, 3, 8]), (7, []), (8, [9, 3, 8, 10]), (9, [9, 3, 8, 11, 10]), (10, [8, 9, 11, 3, 10]), (11, [11, 12, 8, 9, 3, 10]), (12, [8, 9, 12, 3, 11, 10]), (13, [10, 11])]
noncomputable def hd45x0 : Hints := [(14, [3, 9, 8, 22], [9, 16, 18, 3], []), (27, [9, 3, 8, 11, 10], [9, 16, 18, 3, 11], [11])]
noncomputable def h45x0s0 (N : Nat) : Sg Try.prog 0 45 := .start hd45x0 rg45x0
noncomputable def F45x0x14 (N : Nat) (w0 : Bool) (w3 w10 : Int) (k0 : Int → R) : R :=
  bif w0 then
    k0 w3
  else
    k0 w10
noncomputable def V45x0x14 (w0 : Bool) (w3 w10 : Int) : Int := F45x0x14 N w0 w3 w10 (fun p => p)
theorem tot45x0x14 (w0 : Bool) (w3 w10 : Int) (k0 : Int → R) : F45x0x14 N w0 w3 w10 k0 = k0 (V45x0x14 N w0 w3 w10) := by
  unfold V45x0x14 F45x0x14
  repeat' (first | rfl | apply cond_k | (apply bnd_k; intro _))
noncomputable def sh45x0x14 : Sh := { tmps := [(3, .c (.p 3 0)), (8, .c (.p 18 0)), (9, .c (.p 9 0)), (22, .c (.b))], mem := [(3, .box ([.i .i64, .i .i64, .i .i64, .sl 66, .sl 68])), (9, .box (rI 28 ([]))), (16, .map 93 96), (18, .box (.i .i64 :: .i .i64 :: [.i .i64, .sl 66, .sl 68, .sl 3, .sl 3, .m 16]))] }
noncomputable def K45x0x14w0 (L : List Lf) (p : Int) : Ex × St := (.normal, mg (ofSh sh45x0x14 L) [3, 8, 9] [] [3, 9, 16, 18] [(9, .box (.i .i64 (li L 8) :: .i .i64 (li L 9) :: .i .i64 p :: rL L 11 25 ([])))])
noncomputable def A45x0x14 (L : List Lf) : List (Bool × (Ex × St)) := bnd (F45x0x14 N (lb L 0) (li L 3) (li L 10) (fun p => p)) fun q => [(true, K45x0x14w0 L q)]
theorem raw45x0x14 (L : List Lf) : pc Try.prog (T75x1 N) (h45x0s0 N).h 0 100 45 14 sh45x0x14 L [8, 9, 3] [9, 16, 18, 3] = F45x0x14 N (lb L 0) (li L 3) (li L 10) (fun p => some (K45x0x14w0 L p)) := by kernel_rfl
noncomputable def h45x0s1 : Sg Try.prog 0 45 :=
  (h45x0s0 N).cut (A45x0x14 N) progOk (T75x1_ok N) fun L x hx => (raw45x0x14 N L).trans ((tot45x0x14 N ..).trans (alt0 _ _ hx))
noncomputable def S45x0x27 (w2 w39 w40 w41 : Int) (w42 : Bool) (w43 : LD) (w44 : Bool) (w45 : LD) (w46 : Bool) (w47 : LD) (w48 : Bool) (w49 : LD) (w8 w9 w10 w11 w12 w13 w14 w15 w16 w17 w18 w19 w20 w21 w22 w23 w24 w25 w26 w27 w28 w29 w30 w31 w32 w33 w34 w35 : Int) (w36 : Bool) (w37 : LD) (w38 : (List (D × D))) (kr : Int → Int → Int → Int → Int → Int → Int → Int → Int → Int → Int → Int → Int → Int → Int → Int → Int → Int → Int → Int → Int → Int → Int → Int → Int → Int → Int → Int → Bool → LD → (List (D × D)) → Option R) (k0 : Bool × LD → Option R) : Option R :=
  bif (decide (w8 < w2)) then
    bnd (R75x1 N N w8 w9 w10 w11 w12 w13 w14 w15 w16 w17 w18 w19 w20 w21 w22 w23 w24 w25 w26 w27 w28 w29 w30 w31 w32 w33 w34 w35 w39 w40 w41 w42 w43 w44 w45 w46 w47 w48 w49 w38) fun y0 =>
    bif y0.isSome then
      bif (decide ((w37.length + 1) * 8 ≤ room) && decide ((w37.length + 1) ≤ strMax)) then
        bnd (G76x0 N w8 w9 w10 w11 w12 w13 w14 w15 w16 w17 w18 w19 w20 w21 w22 w23 w24 w25 w26 w27 w28 w29 w30 w31 w32 w33 w34 w35 (y0.getD default).2.2.2.1 w40 w43 w45) fun y1 =>
        bif y1.isSome then
          bnd (y1.getD default).2.2.2.2.2.2.2.2.2.2.2.2.2.2.2.2.2.2.1 fun y2 =>
          bnd (y1.getD default).2.2.2.2.2.2.2.2.2.2.2.2.2.2.2.2.2.2.2.1 fun y3 =>
          bnd (y1.getD default).2.2.2.2.2.2.2.2.2.2.2.2.2.2.2.2.2.2.2.2.1 fun y4 =>
          bnd (y1.getD default).2.2.2.2.2.2.2.2.2.2.2.2.2.2.2.2.2.2.2.2.2.1 fun y5 =>
          bnd (y1.getD default).2.2.2.2.2.2.2.2.2.2.2.2.2.2.2.2.2.2.2.2.2.2.1 fun y6 =>
          bnd (y1.getD default).2.2.2.2.2.2.2.2.2.2.2.2.2.2.2.2.2.2.2.2.2.2.2.1 fun y7 =>
          bnd (y1.getD default).2.2.2.2.2.2.2.2.2.2.2.2.2.2.2.2.2.2.2.2.2.2.2.2.1 fun y8 =>
          bnd (y1.getD default).2.2.2.2.2.2.2.2.2.2.2.2.2.2.2.2.2.2.2.2.2.2.2.2.2.1 fun y9 =>
          bnd (y1.getD default).2.2.2.2.2.2.2.2.2.2.2.2.2.2.2.2.2.2.2.2.2.2.2.2.2.2.1 fun y10 =>
          bnd (y1.getD default).2.2.2.2.2.2.2.2.2.2.2.2.2.2.2.2.2.2.2.2.2.2.2.2.2.2.2.1 fun y11 =>
          bnd (y1.getD default).2.2.2.2.2.2.2.2.2.2.2.2.2.2.2.2.2.2.2.2.2.2.2.2.2.2.2.2 fun y12 =>
          kr (y1.getD default).1 (y1.getD default).2.1 (y1.getD default).2.2.1 (y1.getD default).2.2.2.1 (y1.getD default).2.2.2.2.1 (y1.getD default).2.2.2.2.2.1 (y1.getD default).2.2.2.2.2.2.1 (y1.getD default).2.2.2.2.2.2.2.1 (y1.getD default).2.2.2.2.2.2.2.2.1 (y1.getD default).2.2.2.2.2.2.2.2.2.1 (y1.getD default).2.2.2.2.2.2.2.2.2.2.1 (y1.getD default).2.2.2.2.2.2.2.2.2.2.2.1 (y1.getD default).2.2.2.2.2.2.2.2.2.2.2.2.1 (y1.getD default).2.2.2.2.2.2.2.2.2.2.2.2.2.1 (y1.getD default).2.2.2.2.2.2.2.2.2.2.2.2.2.2.1 (y1.getD default).2.2.2.2.2.2.2.2.2.2.2.2.2.2.2.1 (y1.getD default).2.2.2.2.2.2.2.2.2.2.2.2.2.2.2.2.1 (y1.getD default).2.2.2.2.2.2.2.2.2.2.2.2.2.2.2.2.2.1 y2 y3 y4 y5 y6 y7 y8 y9 y10 y11 false (w37 ++ [(.i (y0.getD default).2.2.2.1)]) (y0.getD default).2.2.2.2
        else
          none
      else
        none
    else
      none
  else
    k0 (w36, w37)
noncomputable def L45x0x27 (N : Nat) {R : Type} (w2 w39 w40 w41 : Int) (w42 : Bool) (w43 : LD) (w44 : Bool) (w45 : LD) (w46 : Bool) (w47 : LD) (w48 : Bool) (w49 : LD) : Nat → Int → Int → Int → Int → Int → Int → Int → Int → Int → Int → Int → Int → Int → Int → Int → Int → Int → Int → Int → Int → Int → Int → Int → Int → Int → Int → Int → Int → Bool → LD → (List (D × D)) → (Bool × LD → Option R) → Option R
  | 0, _, _, _, _, _, _, _, _, _, _, _, _, _, _, _, _, _, _, _, _, _, _, _, _, _, _, _, _, _, _, _, _ => none
  | m + 1, w8, w9, w10, w11, w12, w13, w14, w15, w16, w17, w18, w19, w20, w21, w22, w23, w24, w25, w26, w27, w28, w29, w30, w31, w32, w33, w34, w35, w36, w37, w38, k0 => S45x0x27 N w2 w39 w40 w41 w42 w43 w44 w45 w46 w47 w48 w49 w8 w9 w10 w11 w12 w13 w14 w15 w16 w17 w18 w19 w20 w21 w22 w23 w24 w25 w26 w27 w28 w29 w30 w31 w32 w33 w34 w35 w36 w37 w38 (fun w8 w9 w10 w11 w12 w13 w14 w15 w16 w17 w18 w19 w20 w21 w22 w23 w24 w25 w26 w27 w28 w29 w30 w31 w32 w33 w34 w35 w36 w37 w38 => L45x0x27 N w2 w39 w40 w41 w42 w43 w44 w45 w46 w47 w48 w49 m w8 w9 w10 w11 w12 w13 w14 w15 w16 w17 w18 w19 w20 w21 w22 w23 w24 w25 w26 w27 w28 w29 w30 w31 w32 w33 w34 w35 w36 w37 w38 k0) k0
noncomputable def G45x0x27 (w2 w39 w40 w41 : Int) (w42 : Bool) (w43 : LD) (w44 : Bool) (w45 : LD) (w46 : Bool) (w47 : LD) (w48 : Bool) (w49 : LD) (w8 w9 w10 w11 w12 w13 w14 w15 w16 w17 w18 w19 w20 w21 w22 w23 w24 w25 w26 w27 w28 w29 w30 w31 w32 w33 w34 w35 : Int) (w36 : Bool) (w37 : LD) (w38 : (List (D × D))) : Option (Bool × LD) := L45x0x27 N (R := (Bool × LD)) w2 w39 w40 w41 w42 w43 w44 w45 w46 w47 w48 w49 N w8 w9 w10 w11 w12 w13 w14 w15 w16 w17 w18 w19 w20 w21 w22 w23 w24 w25 w26 w27 w28 w29 w30 w31 w32 w33 w34 w35 w36 w37 w38 (fun p => some p)
noncomputable def J45x0x27 (L x : List Lf) (kr : List Lf → Option R) (k0 : Bool × LD → Option R) : Option R := S45x0x27 N (li L 2) (li L 39) (li L 40) (li L 41) (lb L 42) (ll L 43) (lb L 44) (ll L 45) (lb L 46) (ll L 47) (lb L 48) (ll L 49) (li x 0) (li x 1) (li x 2) (li x 3) (li x 4) (li x 5) (li x 6) (li x 7) (li x 8) (li x 9) (li x 10) (li x 11) (li x 12) (li x 13) (li x 14) (li x 15) (li x 16) (li x 17) (li x 18) (li x 19) (li x 20) (li x 21) (li x 22) (li x 23) (li x 24) (li x 25) (li x 26) (li x 27) (lb x 28) (ll x 29) (lm x 30) (fun w8 w9 w10 w11 w12 w13 w14 w15 w16 w17 w18 w19 w20 w21 w22 w23 w24 w25 w26 w27 w28 w29 w30 w31 w32 w33 w34 w35 w36 w37 w38 => kr [.i w8, .i w9, .i w10, .i w11, .i w12, .i w13, .i w14, .i w15, .i w16, .i w17, .i w18, .i w19, .i w20, .i w21, .i w22, .i w23, .i w24, .i w25, .i w26, .i w27, .i w28, .i w29, .i w30, .i w31, .i w32, .i w33, .i w34, .i w35, .b w36, .l w37, .m w38]) k0
theorem sb45x0x27 (L x : List Lf) (kr : List Lf → Option R) (k0 : Bool × LD → Option R) : J45x0x27 N L x kr k0 = (J45x0x27 N L x (fun y => some (.inl y)) (fun p => some (.inr p))).bind (sumE kr k0) := by
  unfold J45x0x27 S45x0x27
  repeat' (first | rfl | apply cond_b | (apply bnd_b; intro _))
noncomputable def Q45x0x27 (L : List Lf) (m : Nat) (x : List Lf) : Option (Bool × LD) := L45x0x27 N (R := (Bool × LD)) (li L 2) (li L 39) (li L 40) (li L 41) (lb L 42) (ll L 43) (lb L 44) (ll L 45) (lb L 46) (ll L 47) (lb L 48) (ll L 49) m (li x 0) (li x 1) (li x 2) (li x 3) (li x 4) (li x 5) (li x 6) (li x 7) (li x 8) (li x 9) (li x 10) (li x 11) (li x 12) (li x 13) (li x 14) (li x 15) (li x 16) (li x 17) (li x 18) (li x 19) (li x 20) (li x 21) (li x 22) (li x 23) (li x 24) (li x 25) (li x 26) (li x 27) (lb x 28) (ll x 29) (lm x 30) (fun p => some p)
noncomputable def sh45x0x27 : Sh := { tmps := [(3, .c (.p 3 0)), (8, .c (.p 18 0)), (9, .c (.p 9 0)), (10, .c (.i .i64)), (11, .c (.o 11))], mem := [(3, .box ([.i .i64, .i .i64, .i .i64, .sl 66, .sl 68])), (9, .box (rI 28 ([]))), (11, .row 3 true), (16, .map 93 96), (18, .box (.i .i64 :: .i .i64 :: [.i .i64, .sl 66, .sl 68, .sl 3, .sl 3, .m 16]))] }
noncomputable def K45x0x27w0 (L : List Lf) (p : Bool × LD) : Ex × St := ((.exit 0), mg (ofSh sh45x0x27 L) [10, 11] [] [11] [(11, .row 3 true p.1 p.2)])
noncomputable def A45x0x27 (L : List Lf) : List (Bool × (Ex × St)) := bnd (Q45x0x27 N L N (pk sh45x0x27 [8, 9, 10, 11, 12, 13, 14, 15, 16, 17, 18, 19, 20, 21, 22, 23, 24, 25, 26, 27, 28, 29, 30, 31, 32, 33, 34, 35, 36, 37, 38] L)) fun q => [(q.isSome, K45x0x27w0 L (q.getD default))]
theorem step45x0x27 (m : Nat) (kn : St → Option (Ex × St)) (L x : List Lf) : lpB Try.prog (T75x1 N) (h45x0s1 N).h 0 45 27 sh45x0x27 [8, 9, 10, 11, 12, 13, 14, 15, 16, 17, 18, 19, 20, 21, 22, 23, 24, 25, 26, 27, 28, 29, 30, 31, 32, 33, 34, 35, 36, 37, 38] [6, 7, 10, 11] [11] (m + 100) kn L x = J45x0x27 N L x (fun y => kn (ofSh sh45x0x27 (mx sh45x0x27 [8, 9, 10, 11, 12, 13, 14, 15, 16, 17, 18, 19, 20, 21, 22, 23, 24, 25, 26, 27, 28, 29, 30, 31, 32, 33, 34, 35, 36, 37, 38] L y))) (fun p => some (K45x0x27w0 L p)) := by kernel_rfl
noncomputable def h45x0s2 : Sg Try.prog 0 45 :=
  (h45x0s1 N).lp (A45x0x27 N) N progOk (T75x1_ok N) (fun m kn L x => (step45x0x27 N m kn L x).trans (sb45x0x27 N L x _ _)) (fun L m x => sb45x0x27 N L x (Q45x0x27 N L m) some) fun L x hx => alt1 x hx
noncomputable def F45x0 (v0 v1 v2 : Int) (v3 : Bool) (v4 : LD) (v5 : Bool) (v6 : LD) (v7 : Bool) (v8 : LD) (v9 : Bool) (v10 : LD) (k0 : Int × Bool × LD → Option R) : Option R :=
  bnd (G74x0 N v6 [(.i 7)]) fun y0 =>
  bif y0.isSome then
    bnd (V45x0x14 N (y0.getD default) v2 0) fun y1 =>
    bnd (R75x1 N N 0 0 y1 0 0 0 0 0 0 0 0 0 0 0 0 0 0 0 0 0 0 0 0 0 0 0 0 0 v0 v1 v2 v3 v4 v5 v6 v7 v8 v9 v10 []) fun y2 =>
    bif y2.isSome then
      bif ((y2.getD default).1 == 0) then
        k0 (0, true, [])
      else
        bnd (G45x0x27 N v1 v0 v1 v2 v3 v4 v5 v6 v7 v8 v9 v10 0 0 y1 0 0 0 0 0 0 0 0 0 0 0 0 0 0 0 0 0 0 0 0 0 0 0 0 0 true [] (y2.getD default).2.2.2.2) fun y3 =>
        bif y3.isSome then
          k0 ((y2.getD default).1, (y3.getD default).1, (y3.getD default).2)
        else
          none
    else
      none
  else
    none
noncomputable def G45x0 (v0 v1 v2 : Int) (v3 : Bool) (v4 : LD) (v5 : Bool) (v6 : LD) (v7 : Bool) (v8 : LD) (v9 : Bool) (v10 : LD) : Option (Int × Bool × LD) := F45x0 N v0 v1 v2 v3 v4 v5 v6 v7 v8 v9 v10 (fun p => some p)
theorem bind45x0 (v0 v1 v2 : Int) (v3 : Bool) (v4 : LD) (v5 : Bool) (v6 : LD) (v7 : Bool) (v8 : LD) (v9 : Bool) (v10 : LD) (k0 : Int × Bool × LD → Option R) : F45x0 N v0 v1 v2 v3 v4 v5 v6 v7 v8 v9 v10 k0 = (G45x0 N v0 v1 v2 v3 v4 v5 v6 v7 v8 v9 v10).bind k0 := by
  unfold G45x0 F45x0
  repeat' (first | rfl | apply cond_b | (apply bnd_b; intro _))
noncomputable def J45x0 (L : List Lf) (k0 : Int × Bool × LD → Option R) : Option R := F45x0 N (li L 0) (li L 1) (li L 2) (lb L 3) (ll L 4) (lb L 5) (ll L 6) (lb L 7) (ll L 8) (lb L 9) (ll L 10) k0
noncomputable def sh45x0 : Sh := { tmps := [(0, .g ([.i .i64, .i .i64, .i .i64, .sl 66, .sl 68])), (1, .c (.sl 3)), (2, .c (.sl 3))], mem := [] }
noncomputable def A45x0 (L : List Lf) : List (Bool × Res) := bnd (J45x0 N L (fun p => some p)) fun q => [(q.isSome, ([.c (.i .i64 (q.getD default).1), .c (.sl 3 (q.getD default).2.1 (q.getD default).2.2)], []))]
theorem raw45x0 (L : List Lf) : bd Try.prog (T75x1 N) (h45x0s2 N).h 45 sh45x0 L = J45x0 N L (fun p => some ([.c (.i .i64 p.1), .c (.sl 3 p.2.1 p.2.2)], [])) := by kernel_rfl
theorem ok45x0 : FnOk Try.prog 45 sh45x0 (A45x0 N) :=
  (h45x0s2 N).fn progOk (T75x1_ok N) fun L x hx => ((raw45x0 N L).trans ((bind45x0 N ..).trans (alt1 x hx)))
noncomputable def T45x0 : Oracle := ext 45 (spSh sh45x0 (A45x0 N)) (T75x1 N)
theorem T45x0_ok : OracleOk Try.prog (T45x0 N) := FnOk.to (ok45x0 N) (T75x1_ok N)
noncomputable def rg12x0 : List (Nat × List Nat) := [(0, [0, 1]), (1, [2, 1]), (2, [7, 2, 1]), (3, [7]), (4, [2, 1]), (5, [9, 8])]
noncomputable def hd12x0 : Hints := []
noncomputable def h12x0s0 (N : Nat) : Sg Try.prog 0 12 := .start hd12x0 rg12x0
noncomputable def F12x0 (v0 v1 v2 : Int) (v3 : Bool) (v4 : LD) (v5 : Bool) (v6 : LD) (v7 : Bool) (v8 : LD) (k0 : Ty15 → Option R) : Option R :=
  bnd (G44x0 N v0 v1 v2 v4 v6 v8) fun y0 =>
  bif y0.isSome then
    bif ((y0.getD default) != 0) then
      k0 (true, [], false, (y0.getD default))
    else
      bnd (G45x0 N v0 v1 v2 v3 v4 v5 v6 v7 v8 true []) fun y1 =>
      bif y1.isSome then
        k0 ((y1.getD default).2.1, (y1.getD default).2.2, (decide ((y1.getD default).1 > 0)), 0)
      else
        none
  else
    none
noncomputable def G12x0 (v0 v1 v2 : Int) (v3 : Bool) (v4 : LD) (v5 : Bool) (v6 : LD) (v7 : Bool) (v8 : LD) : Option (Ty15) := F12x0 N v0 v1 v2 v3 v4 v5 v6 v7 v8 (fun p => some p)
theorem bind12x0 (v0 v1 v2 : Int) (v3 : Bool) (v4 : LD) (v5 : Bool) (v6 : LD) (v7 : Bool) (v8 : LD) (k0 : Ty15 → Option R) : F12x0 N v0 v1 v2 v3 v4 v5 v6 v7 v8 k0 = (G12x0 N v0 v1 v2 v3 v4 v5 v6 v7 v8).bind k0 := by
  unfold G12x0 F12x0
  repeat' (first | rfl | apply cond_b | (apply bnd_b; intro _))
noncomputable def J12x0 (L : List Lf) (k0 : Ty15 → Option R) : Option R := F12x0 N (li L 0) (li L 1) (li L 2) (lb L 3) (ll L 4) (lb L 5) (ll L 6) (lb L 7) (ll L 8) k0
noncomputable def sh12x0 : Sh := { tmps := [(0, .g ([.i .i64, .i .i64, .i .i64, .sl 66, .sl 68])), (1, .c (.sl 3))], mem := [] }
noncomputable def K12x0w0 (L : List Lf) (p : Ty15) : Res := ([.c (.sl 3 p.1 p.2.1), .c (.b p.2.2.1), .c (.i .i64 p.2.2.2)], [])
noncomputable def A12x0 (L : List Lf) : List (Bool × Res) := bnd (J12x0 N L (fun p => some p)) fun q => [(q.isSome, K12x0w0 L (q.getD default))]
theorem raw12x0 (L : List Lf) : bd Try.prog (T45x0 N) (h12x0s0 N).h 12 sh12x0 L = J12x0 N L (fun p => some (K12x0w0 L p)) := by kernel_rfl
theorem ok12x0 : FnOk Try.prog 12 sh12x0 (A12x0 N) :=
  (h12x0s0 N).fn progOk (T45x0_ok N) fun L x hx => ((raw12x0 N L).trans ((bind12x0 N ..).trans (alt1 x hx)))
noncomputable def T12x0 : Oracle := ext 12 (spSh sh12x0 (A12x0 N)) (T45x0 N)
theorem T12x0_ok : OracleOk Try.prog (T12x0 N) := FnOk.to (ok12x0 N) (T45x0_ok N)
noncomputable def rg15x0 : List (Nat × List Nat) := [(0, [0, 1]), (1, [0, 1]), (2, []), (3, [0, 1]), (4, [13, 12, 0, 1]), (5, [13, 0, 1, 12]), (6, [0, 5, 1, 13, 12]), (7, []), (8, [13, 12, 0, 1]), (9, [])]
noncomputable def hd15x0 : Hints := [(12, [13, 12, 0, 1], [], [])]
noncomputable def h15x0s0 (N : Nat) : Sg Try.prog 0 15 := .start hd15x0 rg15x0
noncomputable def S15x0x12 (N : Nat) (w1 w3 : LD) (w4 : Int) (w5 : Int) (kr : Int → Option R) (k0 : Unit → Option R) (k1 : Unit → Option R) : Option R :=
  bif (decide (w5 < w4)) then
    bif (inB w5 w1.length) then
      bif (inB w5 w3.length) then
        bnd ((w1.getD w5.toNat (.i 0)).toI != (w3.getD w5.toNat (.i 0)).toI) fun y0 =>
        bif y0 then
          k0 ()
        else
          kr (IntKind.wrap .i64 (w5 + 1))
      else
        none
    else
      none
  else
    k1 ()
noncomputable def L15x0x12 (N : Nat) {R : Type} (w1 w3 : LD) (w4 : Int) : Nat → Int → (Unit → Option R) → (Unit → Option R) → Option R
  | 0, _, _, _ => none
  | m + 1, w5, k0, k1 => S15x0x12 N w1 w3 w4 w5 (fun w5 => L15x0x12 N w1 w3 w4 m w5 k0 k1) k0 k1
noncomputable def G15x0x12 (w1 w3 : LD) (w4 : Int) (w5 : Int) : Option (Sum (Unit) (Unit)) := L15x0x12 N (R := (Sum (Unit) (Unit))) w1 w3 w4 N w5 (fun p => some (.inl p)) (fun p => some (.inr p))
noncomputable def J15x0x12 (L x : List Lf) (kr : List Lf → Option R) (k0 : Unit → Option R) (k1 : Unit → Option R) : Option R := S15x0x12 N (ll L 1) (ll L 3) (li L 4) (li x 0) (fun w5 => kr [.i w5]) k0 k1
theorem sb15x0x12 (L x : List Lf) (kr : List Lf → Option R) (k0 : Unit → Option R) (k1 : Unit → Option R) : J15x0x12 N L x kr k0 k1 = (J15x0x12 N L x (fun y => some (.inl y)) (fun p => some (.inr (.inl p))) (fun p => some (.inr (.inr p)))).bind (sumE kr (sumE k0 k1)) := by
  unfold J15x0x12 S15x0x12
  repeat' (first | rfl | apply cond_b | (apply bnd_b; intro _))
noncomputable def Q15x0x12 (L : List Lf) (m : Nat) (x : List Lf) : Option (Sum (Unit) (Unit)) := L15x0x12 N (R := (Sum (Unit) (Unit))) (ll L 1) (ll L 3) (li L 4) m (li x 0) (fun p => some (.inl p)) (fun p => some (.inr p))
noncomputable def sh15x0x12 : Sh := { tmps := [(0, .c (.sl 3)), (1, .c (.sl 3)), (12, .c (.i .i64)), (13, .c (.i .i64))], mem := [] }
noncomputable def A15x0x12 (L : List Lf) : List (Bool × (Ex × St)) := bnd (Q15x0x12 N L N (pk sh15x0x12 [5] L)) fun q => [((inlB q), (.ret, ⟨[(4, .c (.b false))], []⟩)), ((inrQ q).isSome, ((.exit 0), ⟨[], []⟩))]
theorem step15x0x12 (m : Nat) (kn : St → Option (Ex × St)) (L x : List Lf) : lpB Try.prog (T12x0 N) (h15x0s0 N).h 0 15 12 sh15x0x12 [5] [4] [] (m + 100) kn L x = J15x0x12 N L x (fun y => kn (ofSh sh15x0x12 (mx sh15x0x12 [5] L y))) (fun _ => some (.ret, ⟨[(4, .c (.b false))], []⟩)) (fun _ => some ((.exit 0), ⟨[], []⟩)) := by kernel_rfl
noncomputable def h15x0s1 : Sg Try.prog 0 15 :=
  (h15x0s0 N).lp (A15x0x12 N) N progOk (T12x0_ok N) (fun m kn L x => (step15x0x12 N m kn L x).trans (sb15x0x12 N L x _ _ _)) (fun L m x => sb15x0x12 N L x (Q15x0x12 N L m) (fun p => some (.inl p)) (fun p => some (.inr p))) fun L x hx => (altS alt1) x hx
noncomputable def F15x0 (v1 v3 : LD) (k0 : Bool → Option R) : Option R :=
  bif ((v1.length : Int) != (v3.length : Int)) then
    k0 false
  else
    bnd (G15x0x12 N v1 v3 (v1.length : Int) 0) fun y0 =>
    bif (inlB y0) then
      k0 false
    else
      bif (inrQ y0).isSome then
        k0 true
      else
        none
noncomputable def G15x0 (v1 v3 : LD) : Option (Bool) := F15x0 N v1 v3 (fun p => some p)
theorem bind15x0 (v1 v3 : LD) (k0 : Bool → Option R) : F15x0 N v1 v3 k0 = (G15x0 N v1 v3).bind k0 := by
  unfold G15x0 F15x0
  repeat' (first | rfl | apply cond_b | (apply bnd_b; intro _))
noncomputable def sh15x0 : Sh := { tmps := [(0, .c (.sl 3)), (1, .c (.sl 3))], mem := [] }
noncomputable def A15x0 (L : List Lf) : List (Bool × Res) := bnd (F15x0 N (ll L 1) (ll L 3) (fun p => some p)) fun q => [(q.isSome, ([.c (.b (q.getD default))], []))]
theorem raw15x0 (L : List Lf) : bd Try.prog (T12x0 N) (h15x0s1 N).h 15 sh15x0 L = F15x0 N (ll L 1) (ll L 3) (fun p => some ([.c (.b p)], [])) := by kernel_rfl
theorem ok15x0 : FnOk Try.prog 15 sh15x0 (A15x0 N) :=
  (h15x0s1 N).fn progOk (T12x0_ok N) fun L x hx => ((raw15x0 N L).trans ((bind15x0 N ..).trans (alt1 x hx)))
noncomputable def T15x0 : Oracle := ext 15 (spSh sh15x0 (A15x0 N)) (T12x0 N)
theorem T15x0_ok : OracleOk Try.prog (T15x0 N) := FnOk.to (ok15x0 N) (T12x0_ok N)
noncomputable def rg16x0 : List (Nat × List Nat) := [(0, []), (1, []), (2, [1]), (3, [4, 3, 2])]
noncomputable def hd16x0 : Hints := [(10, [4, 3, 2], [], [])]
noncomputable def h16x0s0 (N : Nat) : Sg Try.prog 0 16 := .start hd16x0 rg16x0
noncomputable def F16x0x10 (w1 : LD) (w2 : Bool) (w3 : Int) (k0 : Bool → Option R) : Option R :=
  bif (bif (w3 == 0) then w2 else false) then
    bnd (G15x0 N w1 [(.i 0), (.i (-1)), (.i 0)]) fun y0 =>
    bif y0.isSome then
      k0 (y0.getD default)
    else
      none
  else
    k0 false
noncomputable def G16x0x10 (w1 : LD) (w2 : Bool) (w3 : Int) : Option (Bool) := F16x0x10 N w1 w2 w3 (fun p => some p)
theorem bind16x0x10 (w1 : LD) (w2 : Bool) (w3 : Int) (k0 : Bool → Option R) : F16x0x10 N w1 w2 w3 k0 = (G16x0x10 N w1 w2 w3).bind k0 := by
  unfold G16x0x10 F16x0x10
  repeat' (first | rfl | apply cond_b | (apply bnd_b; intro _))
noncomputable def sh16x0x10 : Sh := { tmps := [(2, .c (.sl 3)), (3, .c (.b)), (4, .c (.i .i64))], mem := [] }
noncomputable def A16x0x10 (L : List Lf) : List (Bool × (Ex × St)) := bnd (F16x0x10 N (ll L 1) (lb L 2) (li L 3) (fun p => some p)) fun q => [(q.isSome, (.normal, ⟨[(0, .c (.b (q.getD default)))], []⟩))]
theorem raw16x0x10 (L : List Lf) : pc Try.prog (T15x0 N) (h16x0s0 N).h 0 100 16 10 sh16x0x10 L [0] [] = F16x0x10 N (ll L 1) (lb L 2) (li L 3) (fun p => some (.normal, ⟨[(0, .c (.b p))], []⟩)) := by kernel_rfl
noncomputable def h16x0s1 : Sg Try.prog 0 16 :=
  (h16x0s0 N).cut (A16x0x10 N) progOk (T15x0_ok N) fun L x hx => (raw16x0x10 N L).trans ((bind16x0x10 N ..).trans (alt1 x hx))
noncomputable def F16x0 (k0 : Bool → Option R) : Option R :=
  bnd (G11x0 N 0 3 0 false [(.a [(.s ([102, 97, 115, 116] : List UInt8)), (.i 0), (.i 0), (.i 5), (.b true)])] false [(.a [(.i 5), (.i 0), (.i 2), (.i 0), (.i 0), (.s ([] : List UInt8))])] true []) fun y0 =>
  bif y0.isSome then
    bnd (G16x0x10 N (y0.getD default).2.1 (y0.getD default).2.2.1 (y0.getD default).2.2.2) fun y1 =>
    bif y1.isSome then
      k0 (y1.getD default)
    else
      none
  else
    none
noncomputable def G16x0 : Option (Bool) := F16x0 N (fun p => some p)
theorem bind16x0 (k0 : Bool → Option R) : F16x0 N k0 = (G16x0 N).bind k0 := by
  unfold G16x0 F16x0
  repeat' (first | rfl | apply cond_b | (apply bnd_b; intro _))
noncomputable def sh16x0 : Sh := { tmps := [], mem := [] }
noncomputable def A16x0 (L : List Lf) : List (Bool × Res) := bnd (F16x0 N (fun p => some p)) fun q => [(q.isSome, ([.c (.b (q.getD default))], []))]
theorem raw16x0 (L : List Lf) : bd Try.prog (T15x0 N) (h16x0s1 N).h 16 sh16x0 L = F16x0 N (fun p => some ([.c (.b p)], [])) := by kernel_rfl
theorem ok16x0 : FnOk Try.prog 16 sh16x0 (A16x0 N) :=
  (h16x0s1 N).fn progOk (T15x0_ok N) fun L x hx => ((raw16x0 N L).trans ((bind16x0 N ..).trans (alt1 x hx)))
noncomputable def T16x0 : Oracle := ext 16 (spSh sh16x0 (A16x0 N)) (T15x0 N)
theorem T16x0_ok : OracleOk Try.prog (T16x0 N) := FnOk.to (ok16x0 N) (T15x0_ok N)
noncomputable def rg58x0 : List (Nat × List Nat) := [(0, [0, 1]), (1, [2, 1]), (2, [5, 1, 2]), (3, [5]), (4, [1, 2]), (5, []), (6, [2, 1])]
noncomputable def hd58x0 : Hints := []
noncomputable def h58x0s0 (N : Nat) : Sg Try.prog 0 58 := .start hd58x0 rg58x0
noncomputable def F58x0 (v0 v1 v2 : Int) (v4 v6 v8 : LD) (k0 : Int → Option R) : Option R :=
  bnd (G20x0 N v0 v1 v2 v4 v6) fun y0 =>
  bif y0.isSome then
    bif ((y0.getD default) != 0) then
      k0 (y0.getD default)
    else
      bif ((v8.length : Int) != v1) then
        k0 2
      else
        bnd (G73x0 N v4 v8) fun y1 =>
        bif y1.isSome then
          k0 (y1.getD default)
        else
          none
  else
    none
noncomputable def G58x0 (v0 v1 v2 : Int) (v4 v6 v8 : LD) : Option (Int) := F58x0 N v0 v1 v2 v4 v6 v8 (fun p => some p)
theorem bind58x0 (v0 v1 v2 : Int) (v4 v6 v8 : LD) (k0 : Int → Option R) : F58x0 N v0 v1 v2 v4 v6 v8 k0 = (G58x0 N v0 v1 v2 v4 v6 v8).bind k0 := by
  unfold G58x0 F58x0
  repeat' (first | rfl | apply cond_b | (apply bnd_b; intro _))
noncomputable def J58x0 (L : List Lf) (k0 : Int → Option R) : Option R := F58x0 N (li L 0) (li L 1) (li L 2) (ll L 4) (ll L 6) (ll L 8) k0
noncomputable def sh58x0 : Sh := { tmps := [(0, .g ([.i .i64, .i .i64, .i .i64, .sl 66, .sl 68])), (1, .c (.sl 3))], mem := [] }
noncomputable def A58x0 (L : List Lf) : List (Bool × Res) := bnd (J58x0 N L (fun p => some p)) fun q => [(q.isSome, ([.c (.i .i64 (q.getD default))], []))]
theorem raw58x0 (L : List Lf) : bd Try.prog (T16x0 N) (h58x0s0 N).h 58 sh58x0 L = J58x0 N L (fun p => some ([.c (.i .i64 p)], [])) := by kernel_rfl
theorem ok58x0 : FnOk Try.prog 58 sh58x0 (A58x0 N) :=
  (h58x0s0 N).fn progOk (T16x0_ok N) fun L x hx => ((raw58x0 N L).trans ((bind58x0 N ..).trans (alt1 x hx)))
noncomputable def T58x0 : Oracle := ext 58 (spSh sh58x0 (A58x0 N)) (T16x0 N)
theorem T58x0_ok : OracleOk Try.prog (T58x0 N) := FnOk.to (ok58x0 N) (T16x0_ok N)
noncomputable def rg71x0 : List (Nat × List Nat) := [(0, [0, 1]), (1, [1, 2]), (2, [1, 5, 2]), (3, [10, 9, 8, 5, 2]), (4, [10, 8, 5, 2, 9]), (5, [6, 5, 2, 7, 10, 9, 8]), (6, [5, 6, 2, 7, 10, 9, 8]), (7, [5, 6, 2, 7, 10, 9, 8]), (8, [10, 9, 8, 5, 2]), (9, [5])]
noncomputable def hd71x0 : Hints := [(9, [10, 9, 8, 5, 2], [2, 5], [5]), (20, [5, 6, 2, 7, 10, 9, 8, 17], [5, 2], [])]
noncomputable def h71x0s0 (N : Nat) : Sg Try.prog 0 71 := .start hd71x0 rg71x0
noncomputable def F71x0x20 (N : Nat) (w6 : Bool) (w15 : LD) (k0 : LD → Option R) (k1 : Unit → Option R) : Option R :=
  bif w6 then
    bif (decide ((w15.length + 1) * 8 ≤ room) && decide ((w15.length + 1) ≤ strMax)) then
      k0 (w15 ++ [(.i 0)])
    else
      none
  else
    k1 ()
noncomputable def G71x0x20 (w6 : Bool) (w15 : LD) : Option (Sum (LD) (Unit)) := F71x0x20 N w6 w15 (fun p => some (.inl p)) (fun p => some (.inr p))
theorem bind71x0x20 (w6 : Bool) (w15 : LD) (k0 : LD → Option R) (k1 : Unit → Option R) : F71x0x20 N w6 w15 k0 k1 = (G71x0x20 N w6 w15).bind (sumE k0 k1) := by
  unfold G71x0x20 F71x0x20
  repeat' (first | rfl | apply cond_b | (apply bnd_b; intro _))
noncomputable def sh71x0x20 : Sh := { tmps := [(2, .c (.p 2 0)), (5, .c (.o 5)), (6, .c (.i .i64)), (7, .c (.i .i64)), (8, .c (.sl 3)), (9, .c (.i .i64)), (10, .c (.i .i64)), (17, .c (.b))], mem := [(2, .box ([.i .i64, .i .i64, .i .i64, .sl 66, .sl 68])), (5, .row 3 true)] }
noncomputable def K71x0x20w0 (L : List Lf) (p : LD) : Ex × St := (.normal, mg (ofSh sh71x0x20 L) [2, 5, 6, 7, 8, 9, 10] [(5, .c (.o 20))] [2, 20] [(20, .row 3 true false p)])
noncomputable def K71x0x20w1 (L : List Lf) (_ : Unit) : Ex × St := (.normal, mg (ofSh sh71x0x20 L) [2, 5, 6, 7, 8, 9, 10] [] [2, 5] [])
noncomputable def A71x0x20 (L : List Lf) : List (Bool × (Ex × St)) := bnd (F71x0x20 N (lb L 6) (ll L 15) (fun p => some (.inl p)) (fun p => some (.inr p))) fun q => [((inlB q), K71x0x20w0 L (inlV q)), ((inrQ q).isSome, K71x0x20w1 L ())]
theorem raw71x0x20 (L : List Lf) : pc Try.prog (T58x0 N) (h71x0s0 N).h 0 100 71 20 sh71x0x20 L [5, 6, 2, 7, 10, 9, 8] [20, 2, 5] = F71x0x20 N (lb L 6) (ll L 15) (fun p => some (K71x0x20w0 L p)) (fun _ => some (K71x0x20w1 L ())) := by kernel_rfl
noncomputable def h71x0s1 : Sg Try.prog 0 71 :=
  (h71x0s0 N).cut (A71x0x20 N) progOk (T58x0_ok N) fun L x hx => (raw71x0x20 N L).trans ((bind71x0x20 N ..).trans ((altS alt1) x hx))
noncomputable def S71x0x9 (w1 : LD) (w2 : Int) (w8 : LD) (w3 : Int) (w11 : Bool) (w12 : LD) (kr : Int → Bool → LD → Option R) (k0 : Bool × LD → Option R) : Option R :=
  bif (decide (w3 < w2)) then
    bif (inB w3 w1.length) then
      bnd (G71x0x20 N ((w3.tmod 7) == 0) w12) fun y0 =>
      bif (inlB y0) then
        bif (inB (IntKind.wrap .i64 (w3.tdiv 7)) (inlV y0).length) then
          bif (decide ((IntKind.wrap .i64 (w3.tdiv 7)).toNat < (inlV y0).length)) then
            bnd ((inlV y0).getD (IntKind.wrap .i64 (w3.tdiv 7)).toNat (.i 0)).toI fun y1 =>
            bnd (G63x0 N w8 (w1.getD w3.toNat (.i 0)).toI) fun y2 =>
            bif y2.isSome then
              bnd (IntKind.wrap .i64 (y1 + (y2.getD default).2.1)) fun y3 =>
              bif (inB (IntKind.wrap .i64 (w3.tdiv 7)) (inlV y0).length) then
                bif (decide ((IntKind.wrap .i64 (w3.tdiv 7)).toNat < (inlV y0).length)) then
                  bnd (((inlV y0).set (IntKind.wrap .i64 (w3.tdiv 7)).toNat (.i y3)) : List D) fun y4 =>
                  kr (IntKind.wrap .i64 (w3 + 1)) false y4
                else
                  none
              else
                none
            else
              none
          else
            none
        else
          none
      else
        bif (inrQ y0).isSome then
          bif (inB (IntKind.wrap .i64 (w3.tdiv 7)) w12.length) then
            bif (decide ((IntKind.wrap .i64 (w3.tdiv 7)).toNat < w12.length)) then
              bnd (G63x0 N w8 (w1.getD w3.toNat (.i 0)).toI) fun y2 =>
              bif y2.isSome then
                bnd (IntKind.wrap .i64 ((w12.getD (IntKind.wrap .i64 (w3.tdiv 7)).toNat (.i 0)).toI + (y2.getD default).2.1)) fun y5 =>
                bif (inB (IntKind.wrap .i64 (w3.tdiv 7)) w12.length) then
                  bif (decide ((IntKind.wrap .i64 (w3.tdiv 7)).toNat < w12.length)) then
                    bnd ((w12.set (IntKind.wrap .i64 (w3.tdiv 7)).toNat (.i y5)) : List D) fun y6 =>
                    kr (IntKind.wrap .i64 (w3 + 1)) w11 y6
                  else
                    none
                else
                  none
              else
                none
            else
              none
          else
            none
        else
          none
    else
      none
  else
    k0 (w11, w12)
noncomputable def L71x0x9 (N : Nat) {R : Type} (w1 : LD) (w2 : Int) (w8 : LD) : Nat → Int → Bool → LD → (Bool × LD → Option R) → Option R
  | 0, _, _, _, _ => none
  | m + 1, w3, w11, w12, k0 => S71x0x9 N w1 w2 w8 w3 w11 w12 (fun w3 w11 w12 => L71x0x9 N w1 w2 w8 m w3 w11 w12 k0) k0
noncomputable def G71x0x9 (w1 : LD) (w2 : Int) (w8 : LD) (w3 : Int) (w11 : Bool) (w12 : LD) : Option (Bool × LD) := L71x0x9 N (R := (Bool × LD)) w1 w2 w8 N w3 w11 w12 (fun p => some p)
noncomputable def J71x0x9 (L x : List Lf) (kr : List Lf → Option R) (k0 : Bool × LD → Option R) : Option R := S71x0x9 N (ll L 1) (li L 2) (ll L 8) (li x 0) (lb x 1) (ll x 2) (fun w3 w11 w12 => kr [.i w3, .b w11, .l w12]) k0
theorem sb71x0x9 (L x : List Lf) (kr : List Lf → Option R) (k0 : Bool × LD → Option R) : J71x0x9 N L x kr k0 = (J71x0x9 N L x (fun y => some (.inl y)) (fun p => some (.inr p))).bind (sumE kr k0) := by
  unfold J71x0x9 S71x0x9
  repeat' (first | rfl | apply cond_b | (apply bnd_b; intro _))
noncomputable def Q71x0x9 (L : List Lf) (m : Nat) (x : List Lf) : Option (Bool × LD) := L71x0x9 N (R := (Bool × LD)) (ll L 1) (li L 2) (ll L 8) m (li x 0) (lb x 1) (ll x 2) (fun p => some p)
noncomputable def sh71x0x9 : Sh := { tmps := [(2, .c (.p 2 0)), (5, .c (.o 5)), (8, .c (.sl 3)), (9, .c (.i .i64)), (10, .c (.i .i64))], mem := [(2, .box ([.i .i64, .i .i64, .i .i64, .sl 66, .sl 68])), (5, .row 3 true)] }
noncomputable def A71x0x9 (L : List Lf) : List (Bool × (Ex × St)) := bnd (Q71x0x9 N L N (pk sh71x0x9 [3, 11, 12] L)) fun q => [(q.isSome, ((.exit 0), ⟨[(5, .c (.o 5))], [(5, .row 3 true (q.getD default).1 (q.getD default).2)]⟩))]
theorem step71x0x9 (m : Nat) (kn : St → Option (Ex × St)) (L x : List Lf) : lpB Try.prog (T58x0 N) (h71x0s1 N).h 0 71 9 sh71x0x9 [3, 11, 12] [4, 5] [5] (m + 100) kn L x = J71x0x9 N L x (fun y => kn (ofSh sh71x0x9 (mx sh71x0x9 [3, 11, 12] L y))) (fun p => some ((.exit 0), ⟨[(5, .c (.o 5))], [(5, .row 3 true p.1 p.2)]⟩)) := by kernel_rfl
noncomputable def h71x0s2 : Sg Try.prog 0 71 :=
  (h71x0s1 N).lp (A71x0x9 N) N progOk (T58x0_ok N) (fun m kn L x => (step71x0x9 N m kn L x).trans (sb71x0x9 N L x _ _)) (fun L m x => sb71x0x9 N L x (Q71x0x9 N L m) some) fun L x hx => alt1 x hx
noncomputable def F71x0 (v4 v8 : LD) (k0 : Bool × LD → Option R) : Option R :=
  bnd (G71x0x9 N v8 (v8.length : Int) v4 0 true []) fun y0 =>
  bif y0.isSome then
    k0 (y0.getD default)
  else
    none
noncomputable def G71x0 (v4 v8 : LD) : Option (Bool × LD) := F71x0 N v4 v8 (fun p => some p)
theorem bind71x0 (v4 v8 : LD) (k0 : Bool × LD → Option R) : F71x0 N v4 v8 k0 = (G71x0 N v4 v8).bind k0 := by
  unfold G71x0 F71x0
  repeat' (first | rfl | apply cond_b | (apply bnd_b; intro _))
noncomputable def sh71x0 : Sh := { tmps := [(0, .g ([.i .i64, .i .i64, .i .i64, .sl 66, .sl 68])), (1, .c (.sl 3))], mem := [] }
noncomputable def A71x0 (L : List Lf) : List (Bool × Res) := bnd (F71x0 N (ll L 4) (ll L 8) (fun p => some p)) fun q => [(q.isSome, ([.c (.sl 3 (q.getD default).1 (q.getD default).2)], []))]
theorem raw71x0 (L : List Lf) : bd Try.prog (T58x0 N) (h71x0s2 N).h 71 sh71x0 L = F71x0 N (ll L 4) (ll L 8) (fun p => some ([.c (.sl 3 p.1 p.2)], [])) := by kernel_rfl
theorem ok71x0 : FnOk Try.prog 71 sh71x0 (A71x0 N) :=
  (h71x0s2 N).fn progOk (T58x0_ok N) fun L x hx => ((raw71x0 N L).trans ((bind71x0 N ..).trans (alt1 x hx)))
noncomputable def T71x0 : Oracle := ext 71 (spSh sh71x0 (A71x0 N)) (T58x0 N)
theorem T71x0_ok : OracleOk Try.prog (T71x0 N) := FnOk.to (ok71x0 N) (T58x0_ok N)
noncomputable def rg62x0 : List (Nat × List Nat) := [(0, [0, 1, 2]), (1, [3, 2, 4]), (2, [4, 2, 3, 7]), (9, [28, 2, 3, 4, 7]), (10, [28, 2, 3, 4, 7]), (18, [28, 7, 4, 2, 3]), (25, [28, 7, 2, 4, 3]), (32, [28, 2, 3, 4, 7]), (43, [28, 7, 2, 3, 4]), (56, [28, 3, 7, 4, 2]), (65, [28, 3, 2, 4]), (3, [4, 3, 2]), (4, [4, 22, 3, 2]), (5, [23, 4, 22, 3, 2]), (7, [22, 3, 2, 23, 4]), (6, [23, 4, 22, 3, 2]), (8, [22, 4]), (66, [3, 2, 4]), (57, [3, 7, 4]), (58, [7, 4, 19]), (59, [221, 220, 219, 4, 19]), (60, [219, 221, 4, 19, 220]), (61, [21, 4, 19, 221, 220, 219]), (62, []), (63, [21, 221, 220, 219, 4]), (64, [221, 220, 219, 4, 19]), (44, [7, 2, 3, 4]), (45, [170, 169, 2, 3, 4]), (46, [170, 2, 3, 4, 169]), (47, [16, 2, 3, 4, 170, 169]), (48, [16, 2, 3, 4, 17, 170, 169]), (49, [18, 16, 2, 3, 4, 17, 170, 169]), (51, [2, 18, 3, 4, 17, 16, 170, 169]), (52, [17, 18, 16, 2, 3, 4, 170, 169]), (50, [18, 16, 2, 3, 4, 17, 170, 169]), (53, [17, 4, 16, 2, 170, 169, 3]), (54, []), (55, [170, 169, 2, 3, 4]), (33, [2, 3, 4]), (34, [133, 132, 3, 2, 4]), (35, [133, 3, 2, 4, 132]), (36, [14, 3, 2, 4, 133, 132]), (37, [137, 136, 3, 2, 14, 4, 133, 132]), (38, [137, 3, 2, 14, 4, 136, 133, 132]), (39, [3, 2, 14, 15, 4, 137, 136, 133, 132]), (40, []), (41, [137, 136, 3, 2, 14, 4, 133, 132]), (42, [133, 132, 3, 2, 4]), (26, [7, 2, 4]), (27, [111, 110, 109, 2, 4]), (28, [111, 109, 2, 4, 110]), (29, [12, 2, 13, 4, 111, 110, 109]), (30, []), (31, [111, 110, 109, 2, 4]), (19, [7, 4]), (20, [98, 97, 96, 4]), (21, [96, 98, 4, 97]), (22, [11, 4, 98, 97, 96]), (23, []), (24, [98, 97, 96, 4]), (11, [2, 3, 4]), (12, [59, 58, 57, 3, 4]), (13, [59, 57, 3, 4, 58]), (14, [3, 8, 4, 59, 58, 57, 9]), (15, [4, 9, 3, 59, 58, 57]), (16, []), (17, [59, 58, 57, 3, 4]), (67, [])]
noncomputable def hd62x0 : Hints := [(30002, [2, 3, 4, 28, 7, 54], [4, 3], []), (36, [59, 58, 57, 3, 4], [4, 3], []), (46, [4, 9, 3, 59, 58, 57], [4, 3], []), (60, [98, 97, 96, 4], [4], []), (81, [111, 110, 109, 2, 4], [4], []), (102, [133, 132, 3, 2, 4], [4, 3], []), (111, [137, 136, 3, 2, 14, 4, 133, 132], [4, 3], []), (118, [3, 2, 14, 15, 4, 137, 136, 133, 132], [4, 3], []), (135, [170, 169, 2, 3, 4], [4, 3], []), (147, [18, 16, 2, 3, 4, 17, 170, 169], [4, 3], []), (158, [17, 18, 16, 2, 3, 4, 170, 169, 193], [4, 3], []), (177, [221, 220, 219, 4, 19], [4], []), (15, [23, 4, 22, 3, 2], [4, 3], []), (168134, [7, 2, 3, 4, 28, 166], [4, 3], []), (129101, [2, 3, 4, 28, 7, 129], [4, 3], []), (96080, [7, 2, 4, 28, 3, 107], [4, 3], []), (75059, [7, 4, 28, 2, 3, 94], [4, 3], []), (54035, [2, 3, 4, 28, 7, 54], [4, 3], [])]
noncomputable def h62x0s0 (N : Nat) : Sg Try.prog 0 62 := .start hd62x0 rg62x0
noncomputable def F62x0x30002 (N : Nat) (w4 : Int) (w5 : Bool) (k0 : Bool → R) : R :=
  bif w5 then
    k0 true
  else
    k0 (w4 == 2)
noncomputable def V62x0x30002 (w4 : Int) (w5 : Bool) : Bool := F62x0x30002 N w4 w5 (fun p => p)
theorem tot62x0x30002 (w4 : Int) (w5 : Bool) (k0 : Bool → R) : F62x0x30002 N w4 w5 k0 = k0 (V62x0x30002 N w4 w5) := by
  unfold V62x0x30002 F62x0x30002
  repeat' (first | rfl | apply cond_k | (apply bnd_k; intro _))
noncomputable def sh62x0x30002 : Sh := { tmps := [(2, .c (.sl 3)), (3, .c (.p 3 0)), (4, .c (.p 4 0)), (7, .c (.sl 3)), (28, .c (.i .i64)), (54, .c (.b))], mem := [(3, .box ([.i .i64, .i .i64, .i .i64, .sl 66, .sl 68])), (4, .box (rI 5 ([.s])))] }
noncomputable def K62x0x30002w0 (L : List Lf) (p : Bool) : Ex × St := (.normal, mg (ofSh sh62x0x30002 L) [2, 3, 4, 7, 28, 54] [(54, .c (.b p))] [3, 4] [])
noncomputable def A62x0x30002 (L : List Lf) : List (Bool × (Ex × St)) := bnd (F62x0x30002 N (li L 4) (lb L 5) (fun p => p)) fun q => [(true, K62x0x30002w0 L q)]
theorem raw62x0x30002 (L : List Lf) : pc Try.prog (T71x0 N) (h62x0s0 N).h 0 100 62 30002 sh62x0x30002 L [2, 3, 4, 28, 7, 54] [4, 3] = F62x0x30002 N (li L 4) (lb L 5) (fun p => some (K62x0x30002w0 L p)) := by kernel_rfl
noncomputable def h62x0s1 : Sg Try.prog 0 62 :=
  (h62x0s0 N).cut (A62x0x30002 N) progOk (T71x0_ok N) fun L x hx => (raw62x0x30002 N L).trans ((tot62x0x30002 N ..).trans (alt0 _ _ hx))
noncomputable def F62x0x46 (w0 : Int) (w9 : LD) (w12 w14 : Int) (k0 : Bool → Option R) : Option R :=
  bif (w12 == 1) then
    bif (decide (w0 ≥ 0)) then
      k0 true
    else
      bif (w12 == 2) then
        bnd (G63x0 N w9 w0) fun y0 =>
        bif y0.isSome then
          k0 (decide ((y0.getD default).2.2.1 > w14))
        else
          none
      else
        k0 false
  else
    bif (w12 == 2) then
      bnd (G63x0 N w9 w0) fun y0 =>
      bif y0.isSome then
        k0 (decide ((y0.getD default).2.2.1 > w14))
      else
        none
    else
      k0 false
noncomputable def G62x0x46 (w0 : Int) (w9 : LD) (w12 w14 : Int) : Option (Bool) := F62x0x46 N w0 w9 w12 w14 (fun p => some p)
theorem bind62x0x46 (w0 : Int) (w9 : LD) (w12 w14 : Int) (k0 : Bool → Option R) : F62x0x46 N w0 w9 w12 w14 k0 = (G62x0x46 N w0 w9 w12 w14).bind k0 := by
  unfold G62x0x46 F62x0x46
  repeat' (first | rfl | apply cond_b | (apply bnd_b; intro _))
noncomputable def J62x0x46 (L : List Lf) (k0 : Bool → Option R) : Option R := F62x0x46 N (li L 0) (ll L 9) (li L 12) (li L 14) k0
noncomputable def sh62x0x46 : Sh := { tmps := [(3, .c (.p 3 0)), (4, .c (.p 4 0)), (9, .c (.i .i64)), (57, .c (.sl 3)), (58, .c (.i .i64)), (59, .c (.i .i64))], mem := [(3, .box ([.i .i64, .i .i64, .i .i64, .sl 66, .sl 68])), (4, .box (rI 5 ([.s])))] }
noncomputable def K62x0x46w0 (L : List Lf) (p : Bool) : Ex × St := (.normal, mg (ofSh sh62x0x46 L) [3, 4, 57, 58, 59, 92] [(92, .c (.b p))] [3, 4] [])
noncomputable def A62x0x46 (L : List Lf) : List (Bool × (Ex × St)) := bnd (J62x0x46 N L (fun p => some p)) fun q => [(q.isSome, K62x0x46w0 L (q.getD default))]
theorem raw62x0x46 (L : List Lf) : pc Try.prog (T71x0 N) (h62x0s1 N).h 0 100 62 46 sh62x0x46 L [59, 58, 57, 3, 4, 92] [4, 3] = J62x0x46 N L (fun p => some (K62x0x46w0 L p)) := by kernel_rfl
noncomputable def h62x0s2 : Sg Try.prog 0 62 :=
  (h62x0s1 N).cut (A62x0x46 N) progOk (T71x0_ok N) fun L x hx => (raw62x0x46 N L).trans ((bind62x0x46 N ..).trans (alt1 x hx))
noncomputable def S62x0x36 (w1 : LD) (w2 w4 : Int) (w8 : LD) (w11 w12 w13 : Int) (w3 : Int) (kr : Int → Option R) (k0 : Unit → Option R) (k1 : Unit → Option R) : Option R :=
  bif (decide (w3 < w2)) then
    bif (inB w3 w1.length) then
      bif (((IntKind.wrap .i64 (w4 + w3)).tmod 7) != w12) then
        kr (IntKind.wrap .i64 (w3 + 1))
      else
        bnd (G62x0x46 N (w1.getD w3.toNat (.i 0)).toI w8 w11 w13) fun y0 =>
        bif y0.isSome then
          bif (y0.getD default) then
            k0 ()
          else
            kr (IntKind.wrap .i64 (w3 + 1))
        else
          none
    else
      none
  else
    k1 ()
noncomputable def L62x0x36 (N : Nat) {R : Type} (w1 : LD) (w2 w4 : Int) (w8 : LD) (w11 w12 w13 : Int) : Nat → Int → (Unit → Option R) → (Unit → Option R) → Option R
  | 0, _, _, _ => none
  | m + 1, w3, k0, k1 => S62x0x36 N w1 w2 w4 w8 w11 w12 w13 w3 (fun w3 => L62x0x36 N w1 w2 w4 w8 w11 w12 w13 m w3 k0 k1) k0 k1
noncomputable def G62x0x36 (w1 : LD) (w2 w4 : Int) (w8 : LD) (w11 w12 w13 : Int) (w3 : Int) : Option (Sum (Unit) (Unit)) := L62x0x36 N (R := (Sum (Unit) (Unit))) w1 w2 w4 w8 w11 w12 w13 N w3 (fun p => some (.inl p)) (fun p => some (.inr p))
noncomputable def J62x0x36 (L x : List Lf) (kr : List Lf → Option R) (k0 : Unit → Option R) (k1 : Unit → Option R) : Option R := S62x0x36 N (ll L 1) (li L 2) (li L 4) (ll L 8) (li L 11) (li L 12) (li L 13) (li x 0) (fun w3 => kr [.i w3]) k0 k1
theorem sb62x0x36 (L x : List Lf) (kr : List Lf → Option R) (k0 : Unit → Option R) (k1 : Unit → Option R) : J62x0x36 N L x kr k0 k1 = (J62x0x36 N L x (fun y => some (.inl y)) (fun p => some (.inr (.inl p))) (fun p => some (.inr (.inr p)))).bind (sumE kr (sumE k0 k1)) := by
  unfold J62x0x36 S62x0x36
  repeat' (first | rfl | apply cond_b | (apply bnd_b; intro _))
noncomputable def Q62x0x36 (L : List Lf) (m : Nat) (x : List Lf) : Option (Sum (Unit) (Unit)) := L62x0x36 N (R := (Sum (Unit) (Unit))) (ll L 1) (li L 2) (li L 4) (ll L 8) (li L 11) (li L 12) (li L 13) m (li x 0) (fun p => some (.inl p)) (fun p => some (.inr p))
noncomputable def sh62x0x36 : Sh := { tmps := [(3, .c (.p 3 0)), (4, .c (.p 4 0)), (57, .c (.sl 3)), (58, .c (.i .i64)), (59, .c (.i .i64))], mem := [(3, .box ([.i .i64, .i .i64, .i .i64, .sl 66, .sl 68])), (4, .box (rI 5 ([.s])))] }
noncomputable def A62x0x36 (L : List Lf) : List (Bool × (Ex × St)) := bnd (Q62x0x36 N L N (pk sh62x0x36 [3] L)) fun q => [((inlB q), (.ret, ⟨[(6, .c (.b false))], []⟩)), ((inrQ q).isSome, ((.exit 3), ⟨[], []⟩))]
theorem step62x0x36 (m : Nat) (kn : St → Option (Ex × St)) (L x : List Lf) : lpB Try.prog (T71x0 N) (h62x0s2 N).h 0 62 36 sh62x0x36 [3] [6] [] (m + 100) kn L x = J62x0x36 N L x (fun y => kn (ofSh sh62x0x36 (mx sh62x0x36 [3] L y))) (fun _ => some (.ret, ⟨[(6, .c (.b false))], []⟩)) (fun _ => some ((.exit 3), ⟨[], []⟩)) := by kernel_rfl
noncomputable def h62x0s3 : Sg Try.prog 0 62 :=
  (h62x0s2 N).lp (A62x0x36 N) N progOk (T71x0_ok N) (fun m kn L x => (step62x0x36 N m kn L x).trans (sb62x0x36 N L x _ _ _)) (fun L m x => sb62x0x36 N L x (Q62x0x36 N L m) (fun p => some (.inl p)) (fun p => some (.inr p))) fun L x hx => (altS alt1) x hx
noncomputable def S62x0x60 (N : Nat) (w1 : LD) (w2 w6 : Int) (w3 : Int) (kr : Int → Option R) (k0 : Unit → Option R) (k1 : Unit → Option R) : Option R :=
  bif (decide (w3 < w2)) then
    bif (inB w3 w1.length) then
      bif (decide ((w1.getD w3.toNat (.i 0)).toI > w6)) then
        k0 ()
      else
        kr (IntKind.wrap .i64 (w3 + 1))
    else
      none
  else
    k1 ()
noncomputable def L62x0x60 (N : Nat) {R : Type} (w1 : LD) (w2 w6 : Int) : Nat → Int → (Unit → Option R) → (Unit → Option R) → Option R
  | 0, _, _, _ => none
  | m + 1, w3, k0, k1 => S62x0x60 N w1 w2 w6 w3 (fun w3 => L62x0x60 N w1 w2 w6 m w3 k0 k1) k0 k1
noncomputable def G62x0x60 (w1 : LD) (w2 w6 : Int) (w3 : Int) : Option (Sum (Unit) (Unit)) := L62x0x60 N (R := (Sum (Unit) (Unit))) w1 w2 w6 N w3 (fun p => some (.inl p)) (fun p => some (.inr p))
noncomputable def J62x0x60 (L x : List Lf) (kr : List Lf → Option R) (k0 : Unit → Option R) (k1 : Unit → Option R) : Option R := S62x0x60 N (ll L 1) (li L 2) (li L 6) (li x 0) (fun w3 => kr [.i w3]) k0 k1
theorem sb62x0x60 (L x : List Lf) (kr : List Lf → Option R) (k0 : Unit → Option R) (k1 : Unit → Option R) : J62x0x60 N L x kr k0 k1 = (J62x0x60 N L x (fun y => some (.inl y)) (fun p => some (.inr (.inl p))) (fun p => some (.inr (.inr p)))).bind (sumE kr (sumE k0 k1)) := by
  unfold J62x0x60 S62x0x60
  repeat' (first | rfl | apply cond_b | (apply bnd_b; intro _))
noncomputable def Q62x0x60 (L : List Lf) (m : Nat) (x : List Lf) : Option (Sum (Unit) (Unit)) := L62x0x60 N (R := (Sum (Unit) (Unit))) (ll L 1) (li L 2) (li L 6) m (li x 0) (fun p => some (.inl p)) (fun p => some (.inr p))
noncomputable def sh62x0x60 : Sh := { tmps := [(4, .c (.p 4 0)), (96, .c (.sl 3)), (97, .c (.i .i64)), (98, .c (.i .i64))], mem := [(4, .box (rI 5 ([.s])))] }
noncomputable def A62x0x60 (L : List Lf) : List (Bool × (Ex × St)) := bnd (Q62x0x60 N L N (pk sh62x0x60 [3] L)) fun q => [((inlB q), (.ret, ⟨[(6, .c (.b false))], []⟩)), ((inrQ q).isSome, ((.exit 5), ⟨[], []⟩))]
theorem step62x0x60 (m : Nat) (kn : St → Option (Ex × St)) (L x : List Lf) : lpB Try.prog (T71x0 N) (h62x0s3 N).h 0 62 60 sh62x0x60 [3] [6] [] (m + 100) kn L x = J62x0x60 N L x (fun y => kn (ofSh sh62x0x60 (mx sh62x0x60 [3] L y))) (fun _ => some (.ret, ⟨[(6, .c (.b false))], []⟩)) (fun _ => some ((.exit 5), ⟨[], []⟩)) := by kernel_rfl
noncomputable def h62x0s4 : Sg Try.prog 0 62 :=
  (h62x0s3 N).lp (A62x0x60 N) N progOk (T71x0_ok N) (fun m kn L x => (step62x0x60 N m kn L x).trans (sb62x0x60 N L x _ _ _)) (fun L m x => sb62x0x60 N L x (Q62x0x60 N L m) (fun p => some (.inl p)) (fun p => some (.inr p))) fun L x hx => (altS alt1) x hx
noncomputable def S62x0x81 (N : Nat) (w1 w3 : LD) (w4 w8 : Int) (w5 : Int) (kr : Int → Option R) (k0 : Unit → Option R) (k1 : Unit → Option R) : Option R :=
  bif (decide (w5 < w4)) then
    bif (inB w5 w3.length) then
      bnd (decide ((IntKind.wrap .i64 ((IntKind.wrap .i64 (7 * w5)) + 7)) ≤ (w1.length : Int))) fun y0 =>
      bnd (bif y0 then (decide ((w3.getD w5.toNat (.i 0)).toI < w8)) else false) fun y1 =>
      bif y1 then
        k0 ()
      else
        kr (IntKind.wrap .i64 (w5 + 1))
    else
      none
  else
    k1 ()
noncomputable def L62x0x81 (N : Nat) {R : Type} (w1 w3 : LD) (w4 w8 : Int) : Nat → Int → (Unit → Option R) → (Unit → Option R) → Option R
  | 0, _, _, _ => none
  | m + 1, w5, k0, k1 => S62x0x81 N w1 w3 w4 w8 w5 (fun w5 => L62x0x81 N w1 w3 w4 w8 m w5 k0 k1) k0 k1
noncomputable def G62x0x81 (w1 w3 : LD) (w4 w8 : Int) (w5 : Int) : Option (Sum (Unit) (Unit)) := L62x0x81 N (R := (Sum (Unit) (Unit))) w1 w3 w4 w8 N w5 (fun p => some (.inl p)) (fun p => some (.inr p))
noncomputable def J62x0x81 (L x : List Lf) (kr : List Lf → Option R) (k0 : Unit → Option R) (k1 : Unit → Option R) : Option R := S62x0x81 N (ll L 1) (ll L 3) (li L 4) (li L 8) (li x 0) (fun w5 => kr [.i w5]) k0 k1
theorem sb62x0x81 (L x : List Lf) (kr : List Lf → Option R) (k0 : Unit → Option R) (k1 : Unit → Option R) : J62x0x81 N L x kr k0 k1 = (J62x0x81 N L x (fun y => some (.inl y)) (fun p => some (.inr (.inl p))) (fun p => some (.inr (.inr p)))).bind (sumE kr (sumE k0 k1)) := by
  unfold J62x0x81 S62x0x81
  repeat' (first | rfl | apply cond_b | (apply bnd_b; intro _))
noncomputable def Q62x0x81 (L : List Lf) (m : Nat) (x : List Lf) : Option (Sum (Unit) (Unit)) := L62x0x81 N (R := (Sum (Unit) (Unit))) (ll L 1) (ll L 3) (li L 4) (li L 8) m (li x 0) (fun p => some (.inl p)) (fun p => some (.inr p))
noncomputable def sh62x0x81 : Sh := { tmps := [(2, .c (.sl 3)), (4, .c (.p 4 0)), (109, .c (.sl 3)), (110, .c (.i .i64)), (111, .c (.i .i64))], mem := [(4, .box (rI 5 ([.s])))] }
noncomputable def A62x0x81 (L : List Lf) : List (Bool × (Ex × St)) := bnd (Q62x0x81 N L N (pk sh62x0x81 [5] L)) fun q => [((inlB q), (.ret, ⟨[(6, .c (.b false))], []⟩)), ((inrQ q).isSome, ((.exit 7), ⟨[], []⟩))]
theorem step62x0x81 (m : Nat) (kn : St → Option (Ex × St)) (L x : List Lf) : lpB Try.prog (T71x0 N) (h62x0s4 N).h 0 62 81 sh62x0x81 [5] [6] [] (m + 100) kn L x = J62x0x81 N L x (fun y => kn (ofSh sh62x0x81 (mx sh62x0x81 [5] L y))) (fun _ => some (.ret, ⟨[(6, .c (.b false))], []⟩)) (fun _ => some ((.exit 7), ⟨[], []⟩)) := by kernel_rfl
noncomputable def h62x0s5 : Sg Try.prog 0 62 :=
  (h62x0s4 N).lp (A62x0x81 N) N progOk (T71x0_ok N) (fun m kn L x => (step62x0x81 N m kn L x).trans (sb62x0x81 N L x _ _ _)) (fun L m x => sb62x0x81 N L x (Q62x0x81 N L m) (fun p => some (.inl p)) (fun p => some (.inr p))) fun L x hx => (altS alt1) x hx
noncomputable def F62x0x118 (w1 : LD) (w2 w3 : Int) (w12 : LD) (w17 : Int) (k0 : Bool → Option R) : Option R :=
  bif (inB w2 w1.length) then
    bnd (G63x0 N w12 (w1.getD w2.toNat (.i 0)).toI) fun y0 =>
    bif y0.isSome then
      bif (y0.getD default).2.2.2.2 then
        bif (inB w3 w1.length) then
          bnd (G63x0 N w12 (w1.getD w3.toNat (.i 0)).toI) fun y1 =>
          bif y1.isSome then
            bif (y1.getD default).2.2.2.2 then
              k0 (decide ((IntKind.wrap .i64 (w2 - w3)) < w17))
            else
              k0 false
          else
            none
        else
          none
      else
        k0 false
    else
      none
  else
    none
noncomputable def G62x0x118 (w1 : LD) (w2 w3 : Int) (w12 : LD) (w17 : Int) : Option (Bool) := F62x0x118 N w1 w2 w3 w12 w17 (fun p => some p)
theorem bind62x0x118 (w1 : LD) (w2 w3 : Int) (w12 : LD) (w17 : Int) (k0 : Bool → Option R) : F62x0x118 N w1 w2 w3 w12 w17 k0 = (G62x0x118 N w1 w2 w3 w12 w17).bind k0 := by
  unfold G62x0x118 F62x0x118
  repeat' (first | rfl | apply cond_b | (apply bnd_b; intro _))
noncomputable def J62x0x118 (L : List Lf) (k0 : Bool → Option R) : Option R := F62x0x118 N (ll L 1) (li L 2) (li L 3) (ll L 12) (li L 17) k0
noncomputable def sh62x0x118 : Sh := { tmps := [(2, .c (.sl 3)), (3, .c (.p 3 0)), (4, .c (.p 4 0)), (14, .c (.i .i64)), (15, .c (.i .i64)), (132, .c (.i .i64)), (133, .c (.i .i64)), (136, .c (.i .i64)), (137, .c (.i .i64))], mem := [(3, .box ([.i .i64, .i .i64, .i .i64, .sl 66, .sl 68])), (4, .box (rI 5 ([.s])))] }
noncomputable def K62x0x118w0 (L : List Lf) (p : Bool) : Ex × St := (.normal, mg (ofSh sh62x0x118 L) [2, 3, 4, 14, 132, 133, 136, 137, 163] [(163, .c (.b p))] [3, 4] [])
noncomputable def A62x0x118 (L : List Lf) : List (Bool × (Ex × St)) := bnd (J62x0x118 N L (fun p => some p)) fun q => [(q.isSome, K62x0x118w0 L (q.getD default))]
theorem raw62x0x118 (L : List Lf) : pc Try.prog (T71x0 N) (h62x0s5 N).h 0 100 62 118 sh62x0x118 L [137, 136, 3, 2, 14, 4, 133, 132, 163] [4, 3] = J62x0x118 N L (fun p => some (K62x0x118w0 L p)) := by kernel_rfl
noncomputable def h62x0s6 : Sg Try.prog 0 62 :=
  (h62x0s5 N).cut (A62x0x118 N) progOk (T71x0_ok N) fun L x hx => (raw62x0x118 N L).trans ((bind62x0x118 N ..).trans (alt1 x hx))
noncomputable def S62x0x111 (w1 : LD) (w2 w5 : Int) (w11 : LD) (w16 : Int) (w6 : Int) (kr : Int → Option R) (k0 : Unit → Option R) (k1 : Unit → Option R) : Option R :=
  bif (decide (w6 < w5)) then
    bnd (G62x0x118 N w1 w2 w6 w11 w16) fun y0 =>
    bif y0.isSome then
      bif (y0.getD default) then
        k0 ()
      else
        kr (IntKind.wrap .i64 (w6 + 1))
    else
      none
  else
    k1 ()
noncomputable def L62x0x111 (N : Nat) {R : Type} (w1 : LD) (w2 w5 : Int) (w11 : LD) (w16 : Int) : Nat → Int → (Unit → Option R) → (Unit → Option R) → Option R
  | 0, _, _, _ => none
  | m + 1, w6, k0, k1 => S62x0x111 N w1 w2 w5 w11 w16 w6 (fun w6 => L62x0x111 N w1 w2 w5 w11 w16 m w6 k0 k1) k0 k1
noncomputable def G62x0x111 (w1 : LD) (w2 w5 : Int) (w11 : LD) (w16 : Int) (w6 : Int) : Option (Sum (Unit) (Unit)) := L62x0x111 N (R := (Sum (Unit) (Unit))) w1 w2 w5 w11 w16 N w6 (fun p => some (.inl p)) (fun p => some (.inr p))
noncomputable def J62x0x111 (L x : List Lf) (kr : List Lf → Option R) (k0 : Unit → Option R) (k1 : Unit → Option R) : Option R := S62x0x111 N (ll L 1) (li L 2) (li L 5) (ll L 11) (li L 16) (li x 0) (fun w6 => kr [.i w6]) k0 k1
theorem sb62x0x111 (L x : List Lf) (kr : List Lf → Option R) (k0 : Unit → Option R) (k1 : Unit → Option R) : J62x0x111 N L x kr k0 k1 = (J62x0x111 N L x (fun y => some (.inl y)) (fun p => some (.inr (.inl p))) (fun p => some (.inr (.inr p)))).bind (sumE kr (sumE k0 k1)) := by
  unfold J62x0x111 S62x0x111
  repeat' (first | rfl | apply cond_b | (apply bnd_b; intro _))
noncomputable def Q62x0x111 (L : List Lf) (m : Nat) (x : List Lf) : Option (Sum (Unit) (Unit)) := L62x0x111 N (R := (Sum (Unit) (Unit))) (ll L 1) (li L 2) (li L 5) (ll L 11) (li L 16) m (li x 0) (fun p => some (.inl p)) (fun p => some (.inr p))
noncomputable def sh62x0x111 : Sh := { tmps := [(2, .c (.sl 3)), (3, .c (.p 3 0)), (4, .c (.p 4 0)), (14, .c (.i .i64)), (132, .c (.i .i64)), (133, .c (.i .i64)), (136, .c (.i .i64)), (137, .c (.i .i64))], mem := [(3, .box ([.i .i64, .i .i64, .i .i64, .sl 66, .sl 68])), (4, .box (rI 5 ([.s])))] }
noncomputable def K62x0x111w0 (L : List Lf) (_ : Unit) : Ex × St := (.ret, mg (ofSh sh62x0x111 L) [6] [(6, .c (.b false))] [3, 4] [])
noncomputable def K62x0x111w1 (L : List Lf) (_ : Unit) : Ex × St := ((.exit 11), mg (ofSh sh62x0x111 L) [2, 3, 4, 132, 133] [] [3, 4] [])
noncomputable def A62x0x111 (L : List Lf) : List (Bool × (Ex × St)) := bnd (Q62x0x111 N L N (pk sh62x0x111 [6] L)) fun q => [((inlB q), K62x0x111w0 L ()), ((inrQ q).isSome, K62x0x111w1 L ())]
theorem step62x0x111 (m : Nat) (kn : St → Option (Ex × St)) (L x : List Lf) : lpB Try.prog (T71x0 N) (h62x0s6 N).h 0 62 111 sh62x0x111 [6] [6, 133, 132, 3, 2, 4] [4, 3] (m + 100) kn L x = J62x0x111 N L x (fun y => kn (ofSh sh62x0x111 (mx sh62x0x111 [6] L y))) (fun _ => some (K62x0x111w0 L ())) (fun _ => some (K62x0x111w1 L ())) := by kernel_rfl
noncomputable def h62x0s7 : Sg Try.prog 0 62 :=
  (h62x0s6 N).lp (A62x0x111 N) N progOk (T71x0_ok N) (fun m kn L x => (step62x0x111 N m kn L x).trans (sb62x0x111 N L x _ _ _)) (fun L m x => sb62x0x111 N L x (Q62x0x111 N L m) (fun p => some (.inl p)) (fun p => some (.inr p))) fun L x hx => (altS alt1) x hx
noncomputable def S62x0x102 (w1 : LD) (w2 : Int) (w8 : LD) (w13 : Int) (w3 : Int) (kr : Int → Option R) (k0 : Unit → Option R) (k1 : Unit → Option R) : Option R :=
  bif (decide (w3 < w2)) then
    bnd (G62x0x111 N w1 w3 w3 w8 w13 0) fun y0 =>
    bif (inlB y0) then
      k0 ()
    else
      bif (inrQ y0).isSome then
        kr (IntKind.wrap .i64 (w3 + 1))
      else
        none
  else
    k1 ()
noncomputable def L62x0x102 (N : Nat) {R : Type} (w1 : LD) (w2 : Int) (w8 : LD) (w13 : Int) : Nat → Int → (Unit → Option R) → (Unit → Option R) → Option R
  | 0, _, _, _ => none
  | m + 1, w3, k0, k1 => S62x0x102 N w1 w2 w8 w13 w3 (fun w3 => L62x0x102 N w1 w2 w8 w13 m w3 k0 k1) k0 k1
noncomputable def G62x0x102 (w1 : LD) (w2 : Int) (w8 : LD) (w13 : Int) (w3 : Int) : Option (Sum (Unit) (Unit)) := L62x0x102 N (R := (Sum (Unit) (Unit))) w1 w2 w8 w13 N w3 (fun p => some (.inl p)) (fun p => some (.inr p))
noncomputable def J62x0x102 (L x : List Lf) (kr : List Lf → Option R) (k0 : Unit → Option R) (k1 : Unit → Option R) : Option R := S62x0x102 N (ll L 1) (li L 2) (ll L 8) (li L 13) (li x 0) (fun w3 => kr [.i w3]) k0 k1
theorem sb62x0x102 (L x : List Lf) (kr : List Lf → Option R) (k0 : Unit → Option R) (k1 : Unit → Option R) : J62x0x102 N L x kr k0 k1 = (J62x0x102 N L x (fun y => some (.inl y)) (fun p => some (.inr (.inl p))) (fun p => some (.inr (.inr p)))).bind (sumE kr (sumE k0 k1)) := by
  unfold J62x0x102 S62x0x102
  repeat' (first | rfl | apply cond_b | (apply bnd_b; intro _))
noncomputable def Q62x0x102 (L : List Lf) (m : Nat) (x : List Lf) : Option (Sum (Unit) (Unit)) := L62x0x102 N (R := (Sum (Unit) (Unit))) (ll L 1) (li L 2) (ll L 8) (li L 13) m (li x 0) (fun p => some (.inl p)) (fun p => some (.inr p))
noncomputable def sh62x0x102 : Sh := { tmps := [(2, .c (.sl 3)), (3, .c (.p 3 0)), (4, .c (.p 4 0)), (132, .c (.i .i64)), (133, .c (.i .i64))], mem := [(3, .box ([.i .i64, .i .i64, .i .i64, .sl 66, .sl 68])), (4, .box (rI 5 ([.s])))] }
noncomputable def A62x0x102 (L : List Lf) : List (Bool × (Ex × St)) := bnd (Q62x0x102 N L N (pk sh62x0x102 [3] L)) fun q => [((inlB q), (.ret, ⟨[(6, .c (.b false))], []⟩)), ((inrQ q).isSome, ((.exit 9), ⟨[], []⟩))]
theorem step62x0x102 (m : Nat) (kn : St → Option (Ex × St)) (L x : List Lf) : lpB Try.prog (T71x0 N) (h62x0s7 N).h 0 62 102 sh62x0x102 [3] [6] [] (m + 100) kn L x = J62x0x102 N L x (fun y => kn (ofSh sh62x0x102 (mx sh62x0x102 [3] L y))) (fun _ => some (.ret, ⟨[(6, .c (.b false))], []⟩)) (fun _ => some ((.exit 9), ⟨[], []⟩)) := by kernel_rfl
noncomputable def h62x0s8 : Sg Try.prog 0 62 :=
  (h62x0s7 N).lp (A62x0x102 N) N progOk (T71x0_ok N) (fun m kn L x => (step62x0x102 N m kn L x).trans (sb62x0x102 N L x _ _ _)) (fun L m x => sb62x0x102 N L x (Q62x0x102 N L m) (fun p => some (.inl p)) (fun p => some (.inr p))) fun L x hx => (altS alt1) x hx
noncomputable def F62x0x158 (N : Nat) (w3 : Int) (w7 : Bool) (k0 : Int → R) : R :=
  bif w7 then
    k0 (IntKind.wrap .i64 (w3 + 1))
  else
    k0 w3
noncomputable def V62x0x158 (w3 : Int) (w7 : Bool) : Int := F62x0x158 N w3 w7 (fun p => p)
theorem tot62x0x158 (w3 : Int) (w7 : Bool) (k0 : Int → R) : F62x0x158 N w3 w7 k0 = k0 (V62x0x158 N w3 w7) := by
  unfold V62x0x158 F62x0x158
  repeat' (first | rfl | apply cond_k | (apply bnd_k; intro _))
noncomputable def sh62x0x158 : Sh := { tmps := [(2, .c (.sl 3)), (3, .c (.p 3 0)), (4, .c (.p 4 0)), (16, .c (.i .i64)), (17, .c (.i .i64)), (18, .c (.i .i64)), (169, .c (.i .i64)), (170, .c (.i .i64)), (193, .c (.b))], mem := [(3, .box ([.i .i64, .i .i64, .i .i64, .sl 66, .sl 68])), (4, .box (rI 5 ([.s])))] }
noncomputable def K62x0x158w0 (L : List Lf) (p : Int) : Ex × St := (.normal, mg (ofSh sh62x0x158 L) [2, 3, 4, 16, 17, 18, 169, 170] [(17, .c (.i .i64 p))] [3, 4] [])
noncomputable def A62x0x158 (L : List Lf) : List (Bool × (Ex × St)) := bnd (F62x0x158 N (li L 3) (lb L 7) (fun p => p)) fun q => [(true, K62x0x158w0 L q)]
theorem raw62x0x158 (L : List Lf) : pc Try.prog (T71x0 N) (h62x0s8 N).h 0 100 62 158 sh62x0x158 L [18, 16, 2, 3, 4, 17, 170, 169] [4, 3] = F62x0x158 N (li L 3) (lb L 7) (fun p => some (K62x0x158w0 L p)) := by kernel_rfl
noncomputable def h62x0s9 : Sg Try.prog 0 62 :=
  (h62x0s8 N).cut (A62x0x158 N) progOk (T71x0_ok N) fun L x hx => (raw62x0x158 N L).trans ((tot62x0x158 N ..).trans (alt0 _ _ hx))
noncomputable def S62x0x147 (w1 : LD) (w2 : Int) (w11 : LD) (w19 : LB) (w3 w4 : Int) (kr : Int → Int → Option R) (k0 : Int → Option R) : Option R :=
  bnd (min2 (IntKind.wrap .i64 ((IntKind.wrap .i64 (7 * w2)) + 7)) (w1.length : Int)) fun y0 =>
  bif (decide (w4 < y0)) then
    bif (inB w4 w1.length) then
      bnd (G55x0 N w11 w19) fun y1 =>
      bif y1.isSome then
        bnd (V62x0x158 N w3 ((w1.getD w4.toNat (.i 0)).toI == (y1.getD default))) fun y2 =>
        kr y2 (IntKind.wrap .i64 (w4 + 1))
      else
        none
    else
      none
  else
    k0 w3
noncomputable def L62x0x147 (N : Nat) {R : Type} (w1 : LD) (w2 : Int) (w11 : LD) (w19 : LB) : Nat → Int → Int → (Int → Option R) → Option R
  | 0, _, _, _ => none
  | m + 1, w3, w4, k0 => S62x0x147 N w1 w2 w11 w19 w3 w4 (fun w3 w4 => L62x0x147 N w1 w2 w11 w19 m w3 w4 k0) k0
noncomputable def G62x0x147 (w1 : LD) (w2 : Int) (w11 : LD) (w19 : LB) (w3 w4 : Int) : Option (Int) := L62x0x147 N (R := (Int)) w1 w2 w11 w19 N w3 w4 (fun p => some p)
noncomputable def J62x0x147 (L x : List Lf) (kr : List Lf → Option R) (k0 : Int → Option R) : Option R := S62x0x147 N (ll L 1) (li L 2) (ll L 11) (ls L 19) (li x 0) (li x 1) (fun w3 w4 => kr [.i w3, .i w4]) k0
theorem sb62x0x147 (L x : List Lf) (kr : List Lf → Option R) (k0 : Int → Option R) : J62x0x147 N L x kr k0 = (J62x0x147 N L x (fun y => some (.inl y)) (fun p => some (.inr p))).bind (sumE kr k0) := by
  unfold J62x0x147 S62x0x147
  repeat' (first | rfl | apply cond_b | (apply bnd_b; intro _))
noncomputable def Q62x0x147 (L : List Lf) (m : Nat) (x : List Lf) : Option (Int) := L62x0x147 N (R := (Int)) (ll L 1) (li L 2) (ll L 11) (ls L 19) m (li x 0) (li x 1) (fun p => some p)
noncomputable def sh62x0x147 : Sh := { tmps := [(2, .c (.sl 3)), (3, .c (.p 3 0)), (4, .c (.p 4 0)), (16, .c (.i .i64)), (17, .c (.i .i64)), (18, .c (.i .i64)), (169, .c (.i .i64)), (170, .c (.i .i64))], mem := [(3, .box ([.i .i64, .i .i64, .i .i64, .sl 66, .sl 68])), (4, .box (rI 5 ([.s])))] }
noncomputable def K62x0x147w0 (L : List Lf) (p : Int) : Ex × St := ((.exit 15), mg (ofSh sh62x0x147 L) [2, 3, 4, 16, 17, 169, 170] [(17, .c (.i .i64 p))] [3, 4] [])
noncomputable def A62x0x147 (L : List Lf) : List (Bool × (Ex × St)) := bnd (Q62x0x147 N L N (pk sh62x0x147 [3, 4] L)) fun q => [(q.isSome, K62x0x147w0 L (q.getD default))]
theorem step62x0x147 (m : Nat) (kn : St → Option (Ex × St)) (L x : List Lf) : lpB Try.prog (T71x0 N) (h62x0s9 N).h 0 62 147 sh62x0x147 [3, 4] [6, 17, 4, 16, 2, 170, 169, 3] [4, 3] (m + 100) kn L x = J62x0x147 N L x (fun y => kn (ofSh sh62x0x147 (mx sh62x0x147 [3, 4] L y))) (fun p => some (K62x0x147w0 L p)) := by kernel_rfl
noncomputable def h62x0s10 : Sg Try.prog 0 62 :=
  (h62x0s9 N).lp (A62x0x147 N) N progOk (T71x0_ok N) (fun m kn L x => (step62x0x147 N m kn L x).trans (sb62x0x147 N L x _ _)) (fun L m x => sb62x0x147 N L x (Q62x0x147 N L m) some) fun L x hx => alt1 x hx
noncomputable def S62x0x135 (w1 : LD) (w2 : Int) (w8 : LD) (w14 w15 : Int) (w16 : LB) (w3 : Int) (kr : Int → Option R) (k0 : Unit → Option R) (k1 : Unit → Option R) : Option R :=
  bif (decide (w3 < w2)) then
    bnd (G62x0x147 N w1 w3 w8 w16 0 (IntKind.wrap .i64 (7 * w3))) fun y0 =>
    bif y0.isSome then
      bnd (bif (decide ((y0.getD default) > w15)) then true else (bif (decide ((IntKind.wrap .i64 ((IntKind.wrap .i64 (7 * w3)) + 7)) ≤ (w1.length : Int))) then (decide ((y0.getD default) < w14)) else false)) fun y1 =>
      bif y1 then
        k0 ()
      else
        kr (IntKind.wrap .i64 (w3 + 1))
    else
      none
  else
    k1 ()
noncomputable def L62x0x135 (N : Nat) {R : Type} (w1 : LD) (w2 : Int) (w8 : LD) (w14 w15 : Int) (w16 : LB) : Nat → Int → (Unit → Option R) → (Unit → Option R) → Option R
  | 0, _, _, _ => none
  | m + 1, w3, k0, k1 => S62x0x135 N w1 w2 w8 w14 w15 w16 w3 (fun w3 => L62x0x135 N w1 w2 w8 w14 w15 w16 m w3 k0 k1) k0 k1
noncomputable def G62x0x135 (w1 : LD) (w2 : Int) (w8 : LD) (w14 w15 : Int) (w16 : LB) (w3 : Int) : Option (Sum (Unit) (Unit)) := L62x0x135 N (R := (Sum (Unit) (Unit))) w1 w2 w8 w14 w15 w16 N w3 (fun p => some (.inl p)) (fun p => some (.inr p))
noncomputable def J62x0x135 (L x : List Lf) (kr : List Lf → Option R) (k0 : Unit → Option R) (k1 : Unit → Option R) : Option R := S62x0x135 N (ll L 1) (li L 2) (ll L 8) (li L 14) (li L 15) (ls L 16) (li x 0) (fun w3 => kr [.i w3]) k0 k1
theorem sb62x0x135 (L x : List Lf) (kr : List Lf → Option R) (k0 : Unit → Option R) (k1 : Unit → Option R) : J62x0x135 N L x kr k0 k1 = (J62x0x135 N L x (fun y => some (.inl y)) (fun p => some (.inr (.inl p))) (fun p => some (.inr (.inr p)))).bind (sumE kr (sumE k0 k1)) := by
  unfold J62x0x135 S62x0x135
  repeat' (first | rfl | apply cond_b | (apply bnd_b; intro _))
noncomputable def Q62x0x135 (L : List Lf) (m : Nat) (x : List Lf) : Option (Sum (Unit) (Unit)) := L62x0x135 N (R := (Sum (Unit) (Unit))) (ll L 1) (li L 2) (ll L 8) (li L 14) (li L 15) (ls L 16) m (li x 0) (fun p => some (.inl p)) (fun p => some (.inr p))
noncomputable def sh62x0x135 : Sh := { tmps := [(2, .c (.sl 3)), (3, .c (.p 3 0)), (4, .c (.p 4 0)), (169, .c (.i .i64)), (170, .c (.i .i64))], mem := [(3, .box ([.i .i64, .i .i64, .i .i64, .sl 66, .sl 68])), (4, .box (rI 5 ([.s])))] }
noncomputable def A62x0x135 (L : List Lf) : List (Bool × (Ex × St)) := bnd (Q62x0x135 N L N (pk sh62x0x135 [3] L)) fun q => [((inlB q), (.ret, ⟨[(6, .c (.b false))], []⟩)), ((inrQ q).isSome, ((.exit 13), ⟨[], []⟩))]
theorem step62x0x135 (m : Nat) (kn : St → Option (Ex × St)) (L x : List Lf) : lpB Try.prog (T71x0 N) (h62x0s10 N).h 0 62 135 sh62x0x135 [3] [6] [] (m + 100) kn L x = J62x0x135 N L x (fun y => kn (ofSh sh62x0x135 (mx sh62x0x135 [3] L y))) (fun _ => some (.ret, ⟨[(6, .c (.b false))], []⟩)) (fun _ => some ((.exit 13), ⟨[], []⟩)) := by kernel_rfl
noncomputable def h62x0s11 : Sg Try.prog 0 62 :=
  (h62x0s10 N).lp (A62x0x135 N) N progOk (T71x0_ok N) (fun m kn L x => (step62x0x135 N m kn L x).trans (sb62x0x135 N L x _ _ _)) (fun L m x => sb62x0x135 N L x (Q62x0x135 N L m) (fun p => some (.inl p)) (fun p => some (.inr p))) fun L x hx => (altS alt1) x hx
noncomputable def S62x0x177 (N : Nat) (w2 : LD) (w3 w7 : Int) (w0 w4 : Int) (kr : Int → Int → Option R) (k0 : Unit → Option R) (k1 : Unit → Option R) : Option R :=
  bif (decide (w4 < w3)) then
    bif (inB w4 w2.length) then
      bnd (decide ((IntKind.wrap .i64 ((w2.getD w4.toNat (.i 0)).toI * 100)) > (IntKind.wrap .i64 (w7 * w0)))) fun y0 =>
      bif y0 then
        k0 ()
      else
        kr (w2.getD w4.toNat (.i 0)).toI (IntKind.wrap .i64 (w4 + 1))
    else
      none
  else
    k1 ()
noncomputable def L62x0x177 (N : Nat) {R : Type} (w2 : LD) (w3 w7 : Int) : Nat → Int → Int → (Unit → Option R) → (Unit → Option R) → Option R
  | 0, _, _, _, _ => none
  | m + 1, w0, w4, k0, k1 => S62x0x177 N w2 w3 w7 w0 w4 (fun w0 w4 => L62x0x177 N w2 w3 w7 m w0 w4 k0 k1) k0 k1
noncomputable def G62x0x177 (w2 : LD) (w3 w7 : Int) (w0 w4 : Int) : Option (Sum (Unit) (Unit)) := L62x0x177 N (R := (Sum (Unit) (Unit))) w2 w3 w7 N w0 w4 (fun p => some (.inl p)) (fun p => some (.inr p))
noncomputable def J62x0x177 (L x : List Lf) (kr : List Lf → Option R) (k0 : Unit → Option R) (k1 : Unit → Option R) : Option R := S62x0x177 N (ll L 2) (li L 3) (li L 7) (li x 0) (li x 1) (fun w0 w4 => kr [.i w0, .i w4]) k0 k1
theorem sb62x0x177 (L x : List Lf) (kr : List Lf → Option R) (k0 : Unit → Option R) (k1 : Unit → Option R) : J62x0x177 N L x kr k0 k1 = (J62x0x177 N L x (fun y => some (.inl y)) (fun p => some (.inr (.inl p))) (fun p => some (.inr (.inr p)))).bind (sumE kr (sumE k0 k1)) := by
  unfold J62x0x177 S62x0x177
  repeat' (first | rfl | apply cond_b | (apply bnd_b; intro _))
noncomputable def Q62x0x177 (L : List Lf) (m : Nat) (x : List Lf) : Option (Sum (Unit) (Unit)) := L62x0x177 N (R := (Sum (Unit) (Unit))) (ll L 2) (li L 3) (li L 7) m (li x 0) (li x 1) (fun p => some (.inl p)) (fun p => some (.inr p))
noncomputable def sh62x0x177 : Sh := { tmps := [(4, .c (.p 4 0)), (19, .c (.i .i64)), (219, .c (.sl 3)), (220, .c (.i .i64)), (221, .c (.i .i64))], mem := [(4, .box (rI 5 ([.s])))] }
noncomputable def A62x0x177 (L : List Lf) : List (Bool × (Ex × St)) := bnd (Q62x0x177 N L N (pk sh62x0x177 [0, 4] L)) fun q => [((inlB q), (.ret, ⟨[(6, .c (.b false))], []⟩)), ((inrQ q).isSome, ((.exit 17), ⟨[], []⟩))]
theorem step62x0x177 (m : Nat) (kn : St → Option (Ex × St)) (L x : List Lf) : lpB Try.prog (T71x0 N) (h62x0s11 N).h 0 62 177 sh62x0x177 [0, 4] [6] [] (m + 100) kn L x = J62x0x177 N L x (fun y => kn (ofSh sh62x0x177 (mx sh62x0x177 [0, 4] L y))) (fun _ => some (.ret, ⟨[(6, .c (.b false))], []⟩)) (fun _ => some ((.exit 17), ⟨[], []⟩)) := by kernel_rfl
noncomputable def h62x0s12 : Sg Try.prog 0 62 :=
  (h62x0s11 N).lp (A62x0x177 N) N progOk (T71x0_ok N) (fun m kn L x => (step62x0x177 N m kn L x).trans (sb62x0x177 N L x _ _ _)) (fun L m x => sb62x0x177 N L x (Q62x0x177 N L m) (fun p => some (.inl p)) (fun p => some (.inr p))) fun L x hx => (altS alt1) x hx
noncomputable def S62x0x15 (w1 w8 : LD) (w12 : Int) (w2 w3 : Int) (kr : Int → Int → Option R) (k0 : Int → Option R) : Option R :=
  bif (decide (w3 < w12)) then
    bif (inB w3 w1.length) then
      bnd (G63x0 N w8 (w1.getD w3.toNat (.i 0)).toI) fun y0 =>
      bif y0.isSome then
        kr (IntKind.wrap .i64 (w2 + (y0.getD default).2.1)) (IntKind.wrap .i64 (w3 + 1))
      else
        none
    else
      none
  else
    k0 w2
noncomputable def L62x0x15 (N : Nat) {R : Type} (w1 w8 : LD) (w12 : Int) : Nat → Int → Int → (Int → Option R) → Option R
  | 0, _, _, _ => none
  | m + 1, w2, w3, k0 => S62x0x15 N w1 w8 w12 w2 w3 (fun w2 w3 => L62x0x15 N w1 w8 w12 m w2 w3 k0) k0
noncomputable def G62x0x15 (w1 w8 : LD) (w12 : Int) (w2 w3 : Int) : Option (Int) := L62x0x15 N (R := (Int)) w1 w8 w12 N w2 w3 (fun p => some p)
noncomputable def J62x0x15 (L x : List Lf) (kr : List Lf → Option R) (k0 : Int → Option R) : Option R := S62x0x15 N (ll L 1) (ll L 8) (li L 12) (li x 0) (li x 1) (fun w2 w3 => kr [.i w2, .i w3]) k0
theorem sb62x0x15 (L x : List Lf) (kr : List Lf → Option R) (k0 : Int → Option R) : J62x0x15 N L x kr k0 = (J62x0x15 N L x (fun y => some (.inl y)) (fun p => some (.inr p))).bind (sumE kr k0) := by
  unfold J62x0x15 S62x0x15
  repeat' (first | rfl | apply cond_b | (apply bnd_b; intro _))
noncomputable def Q62x0x15 (L : List Lf) (m : Nat) (x : List Lf) : Option (Int) := L62x0x15 N (R := (Int)) (ll L 1) (ll L 8) (li L 12) m (li x 0) (li x 1) (fun p => some p)
noncomputable def sh62x0x15 : Sh := { tmps := [(2, .c (.sl 3)), (3, .c (.p 3 0)), (4, .c (.p 4 0)), (22, .c (.i .i64)), (23, .c (.i .i64))], mem := [(3, .box ([.i .i64, .i .i64, .i .i64, .sl 66, .sl 68])), (4, .box (rI 5 ([.s])))] }
noncomputable def K62x0x15w0 (L : List Lf) (p : Int) : Ex × St := ((.exit 1), mg (ofSh sh62x0x15 L) [4, 22] [(22, .c (.i .i64 p))] [4] [])
noncomputable def A62x0x15 (L : List Lf) : List (Bool × (Ex × St)) := bnd (Q62x0x15 N L N (pk sh62x0x15 [2, 3] L)) fun q => [(q.isSome, K62x0x15w0 L (q.getD default))]
theorem step62x0x15 (m : Nat) (kn : St → Option (Ex × St)) (L x : List Lf) : lpB Try.prog (T71x0 N) (h62x0s12 N).h 0 62 15 sh62x0x15 [2, 3] [6, 22, 4] [4] (m + 100) kn L x = J62x0x15 N L x (fun y => kn (ofSh sh62x0x15 (mx sh62x0x15 [2, 3] L y))) (fun p => some (K62x0x15w0 L p)) := by kernel_rfl
noncomputable def h62x0s13 : Sg Try.prog 0 62 :=
  (h62x0s12 N).lp (A62x0x15 N) N progOk (T71x0_ok N) (fun m kn L x => (step62x0x15 N m kn L x).trans (sb62x0x15 N L x _ _)) (fun L m x => sb62x0x15 N L x (Q62x0x15 N L m) some) fun L x hx => alt1 x hx
noncomputable def F62x0x168134 (w1 w3 : LD) (w4 : Int) (w5 : Bool) (w8 : Int) (w10 : LD) (w14 w15 w16 w17 : Int) (w18 : LB) (k0 : Bool → Option R) (k1 : Unit → Option R) : Option R :=
  bif w5 then
    bnd (G62x0x135 N w1 (w3.length : Int) w10 w16 w17 w18 0) fun y0 =>
    bif (inlB y0) then
      k0 false
    else
      bif (inrQ y0).isSome then
        k1 ()
      else
        none
  else
    bif (w4 == 7) then
      bnd (G62x0x177 N w3 (w3.length : Int) w15 w8 0) fun y1 =>
      bif (inlB y1) then
        k0 false
      else
        bif (inrQ y1).isSome then
          k1 ()
        else
          none
    else
      bif (w4 == 8) then
        bif (inB w14 w1.length) then
          bnd (G63x0 N w10 (w1.getD w14.toNat (.i 0)).toI) fun y2 =>
          bif y2.isSome then
            k0 ((y2.getD default).1 == w18)
          else
            none
        else
          none
      else
        bnd (G62x0x15 N w1 w10 w14 0 (max2 0 (IntKind.wrap .i64 (w14 - w16)))) fun y3 =>
        bif y3.isSome then
          k0 (decide ((y3.getD default) ≤ w15))
        else
          none
noncomputable def G62x0x168134 (w1 w3 : LD) (w4 : Int) (w5 : Bool) (w8 : Int) (w10 : LD) (w14 w15 w16 w17 : Int) (w18 : LB) : Option (Sum (Bool) (Unit)) := F62x0x168134 N w1 w3 w4 w5 w8 w10 w14 w15 w16 w17 w18 (fun p => some (.inl p)) (fun p => some (.inr p))
theorem bind62x0x168134 (w1 w3 : LD) (w4 : Int) (w5 : Bool) (w8 : Int) (w10 : LD) (w14 w15 w16 w17 : Int) (w18 : LB) (k0 : Bool → Option R) (k1 : Unit → Option R) : F62x0x168134 N w1 w3 w4 w5 w8 w10 w14 w15 w16 w17 w18 k0 k1 = (G62x0x168134 N w1 w3 w4 w5 w8 w10 w14 w15 w16 w17 w18).bind (sumE k0 k1) := by
  unfold G62x0x168134 F62x0x168134
  repeat' (first | rfl | apply cond_b | (apply bnd_b; intro _))
noncomputable def J62x0x168134 (L : List Lf) (k0 : Bool → Option R) (k1 : Unit → Option R) : Option R := F62x0x168134 N (ll L 1) (ll L 3) (li L 4) (lb L 5) (li L 8) (ll L 10) (li L 14) (li L 15) (li L 16) (li L 17) (ls L 18) k0 k1
noncomputable def sh62x0x168134 : Sh := { tmps := [(2, .c (.sl 3)), (3, .c (.p 3 0)), (4, .c (.p 4 0)), (7, .c (.sl 3)), (28, .c (.i .i64)), (166, .c (.b))], mem := [(3, .box ([.i .i64, .i .i64, .i .i64, .sl 66, .sl 68])), (4, .box (rI 5 ([.s])))] }
noncomputable def A62x0x168134 (L : List Lf) : List (Bool × (Ex × St)) := bnd (J62x0x168134 N L (fun p => some (.inl p)) (fun p => some (.inr p))) fun q => [((inlB q), (.ret, ⟨[(6, .c (.b (inlV q)))], []⟩)), ((inrQ q).isSome, (.normal, ⟨[], []⟩))]
theorem raw62x0x168134 (L : List Lf) : pc Try.prog (T71x0 N) (h62x0s13 N).h 0 100 62 168134 sh62x0x168134 L [6] [] = J62x0x168134 N L (fun p => some (.ret, ⟨[(6, .c (.b p))], []⟩)) (fun _ => some (.normal, ⟨[], []⟩)) := by kernel_rfl
noncomputable def h62x0s14 : Sg Try.prog 0 62 :=
  (h62x0s13 N).cut (A62x0x168134 N) progOk (T71x0_ok N) fun L x hx => (raw62x0x168134 N L).trans ((bind62x0x168134 N ..).trans ((altS alt1) x hx))
noncomputable def F62x0x129101 (w1 w3 : LD) (w4 : Int) (w5 : Bool) (w8 : Int) (w10 : LD) (w14 w15 w16 w17 : Int) (w18 : LB) (k0 : Bool → Option R) (k1 : Unit → Option R) : Option R :=
  bif w5 then
    bnd (G62x0x102 N w1 (w1.length : Int) w10 w15 0) fun y0 =>
    bif (inlB y0) then
      k0 false
    else
      bif (inrQ y0).isSome then
        k1 ()
      else
        none
  else
    bnd (G62x0x168134 N w1 w3 w4 (w4 == 6) w8 w10 w14 w15 w16 w17 w18) fun y1 =>
    bif (inlB y1) then
      k0 (inlV y1)
    else
      bif (inrQ y1).isSome then
        k1 ()
      else
        none
noncomputable def G62x0x129101 (w1 w3 : LD) (w4 : Int) (w5 : Bool) (w8 : Int) (w10 : LD) (w14 w15 w16 w17 : Int) (w18 : LB) : Option (Sum (Bool) (Unit)) := F62x0x129101 N w1 w3 w4 w5 w8 w10 w14 w15 w16 w17 w18 (fun p => some (.inl p)) (fun p => some (.inr p))
theorem bind62x0x129101 (w1 w3 : LD) (w4 : Int) (w5 : Bool) (w8 : Int) (w10 : LD) (w14 w15 w16 w17 : Int) (w18 : LB) (k0 : Bool → Option R) (k1 : Unit → Option R) : F62x0x129101 N w1 w3 w4 w5 w8 w10 w14 w15 w16 w17 w18 k0 k1 = (G62x0x129101 N w1 w3 w4 w5 w8 w10 w14 w15 w16 w17 w18).bind (sumE k0 k1) := by
  unfold G62x0x129101 F62x0x129101
  repeat' (first | rfl | apply cond_b | (apply bnd_b; intro _))
noncomputable def J62x0x129101 (L : List Lf) (k0 : Bool → Option R) (k1 : Unit → Option R) : Option R := F62x0x129101 N (ll L 1) (ll L 3) (li L 4) (lb L 5) (li L 8) (ll L 10) (li L 14) (li L 15) (li L 16) (li L 17) (ls L 18) k0 k1
noncomputable def sh62x0x129101 : Sh := { tmps := [(2, .c (.sl 3)), (3, .c (.p 3 0)), (4, .c (.p 4 0)), (7, .c (.sl 3)), (28, .c (.i .i64)), (129, .c (.b))], mem := [(3, .box ([.i .i64, .i .i64, .i .i64, .sl 66, .sl 68])), (4, .box (rI 5 ([.s])))] }
noncomputable def A62x0x129101 (L : List Lf) : List (Bool × (Ex × St)) := bnd (J62x0x129101 N L (fun p => some (.inl p)) (fun p => some (.inr p))) fun q => [((inlB q), (.ret, ⟨[(6, .c (.b (inlV q)))], []⟩)), ((inrQ q).isSome, (.normal, ⟨[], []⟩))]
theorem raw62x0x129101 (L : List Lf) : pc Try.prog (T71x0 N) (h62x0s14 N).h 0 100 62 129101 sh62x0x129101 L [6] [] = J62x0x129101 N L (fun p => some (.ret, ⟨[(6, .c (.b p))], []⟩)) (fun _ => some (.normal, ⟨[], []⟩)) := by kernel_rfl
noncomputable def h62x0s15 : Sg Try.prog 0 62 :=
  (h62x0s14 N).cut (A62x0x129101 N) progOk (T71x0_ok N) fun L x hx => (raw62x0x129101 N L).trans ((bind62x0x129101 N ..).trans ((altS alt1) x hx))
noncomputable def F62x0x96080 (w1 w3 : LD) (w4 : Int) (w5 : Bool) (w8 : Int) (w10 : LD) (w14 w15 w16 w17 : Int) (w18 : LB) (k0 : Bool → Option R) (k1 : Unit → Option R) : Option R :=
  bif w5 then
    bnd (G62x0x81 N w1 w3 (w3.length : Int) w15 0) fun y0 =>
    bif (inlB y0) then
      k0 false
    else
      bif (inrQ y0).isSome then
        k1 ()
      else
        none
  else
    bnd (G62x0x129101 N w1 w3 w4 (w4 == 5) w8 w10 w14 w15 w16 w17 w18) fun y1 =>
    bif (inlB y1) then
      k0 (inlV y1)
    else
      bif (inrQ y1).isSome then
        k1 ()
      else
        none
noncomputable def G62x0x96080 (w1 w3 : LD) (w4 : Int) (w5 : Bool) (w8 : Int) (w10 : LD) (w14 w15 w16 w17 : Int) (w18 : LB) : Option (Sum (Bool) (Unit)) := F62x0x96080 N w1 w3 w4 w5 w8 w10 w14 w15 w16 w17 w18 (fun p => some (.inl p)) (fun p => some (.inr p))
theorem bind62x0x96080 (w1 w3 : LD) (w4 : Int) (w5 : Bool) (w8 : Int) (w10 : LD) (w14 w15 w16 w17 : Int) (w18 : LB) (k0 : Bool → Option R) (k1 : Unit → Option R) : F62x0x96080 N w1 w3 w4 w5 w8 w10 w14 w15 w16 w17 w18 k0 k1 = (G62x0x96080 N w1 w3 w4 w5 w8 w10 w14 w15 w16 w17 w18).bind (sumE k0 k1) := by
  unfold G62x0x96080 F62x0x96080
  repeat' (first | rfl | apply cond_b | (apply bnd_b; intro _))
noncomputable def J62x0x96080 (L : List Lf) (k0 : Bool → Option R) (k1 : Unit → Option R) : Option R := F62x0x96080 N (ll L 1) (ll L 3) (li L 4) (lb L 5) (li L 8) (ll L 10) (li L 14) (li L 15) (li L 16) (li L 17) (ls L 18) k0 k1
noncomputable def sh62x0x96080 : Sh := { tmps := [(2, .c (.sl 3)), (3, .c (.p 3 0)), (4, .c (.p 4 0)), (7, .c (.sl 3)), (28, .c (.i .i64)), (107, .c (.b))], mem := [(3, .box ([.i .i64, .i .i64, .i .i64, .sl 66, .sl 68])), (4, .box (rI 5 ([.s])))] }
noncomputable def A62x0x96080 (L : List Lf) : List (Bool × (Ex × St)) := bnd (J62x0x96080 N L (fun p => some (.inl p)) (fun p => some (.inr p))) fun q => [((inlB q), (.ret, ⟨[(6, .c (.b (inlV q)))], []⟩)), ((inrQ q).isSome, (.normal, ⟨[], []⟩))]
theorem raw62x0x96080 (L : List Lf) : pc Try.prog (T71x0 N) (h62x0s15 N).h 0 100 62 96080 sh62x0x96080 L [6] [] = J62x0x96080 N L (fun p => some (.ret, ⟨[(6, .c (.b p))], []⟩)) (fun _ => some (.normal, ⟨[], []⟩)) := by kernel_rfl
noncomputable def h62x0s16 : Sg Try.prog 0 62 :=
  (h62x0s15 N).cut (A62x0x96080 N) progOk (T71x0_ok N) fun L x hx => (raw62x0x96080 N L).trans ((bind62x0x96080 N ..).trans ((altS alt1) x hx))
noncomputable def F62x0x75059 (w1 w3 : LD) (w4 : Int) (w5 : Bool) (w8 : Int) (w10 : LD) (w14 w15 w16 w17 : Int) (w18 : LB) (k0 : Bool → Option R) (k1 : Unit → Option R) : Option R :=
  bif w5 then
    bnd (G62x0x60 N w3 (w3.length : Int) w15 0) fun y0 =>
    bif (inlB y0) then
      k0 false
    else
      bif (inrQ y0).isSome then
        k1 ()
      else
        none
  else
    bnd (G62x0x96080 N w1 w3 w4 (w4 == 4) w8 w10 w14 w15 w16 w17 w18) fun y1 =>
    bif (inlB y1) then
      k0 (inlV y1)
    else
      bif (inrQ y1).isSome then
        k1 ()
      else
        none
noncomputable def G62x0x75059 (w1 w3 : LD) (w4 : Int) (w5 : Bool) (w8 : Int) (w10 : LD) (w14 w15 w16 w17 : Int) (w18 : LB) : Option (Sum (Bool) (Unit)) := F62x0x75059 N w1 w3 w4 w5 w8 w10 w14 w15 w16 w17 w18 (fun p => some (.inl p)) (fun p => some (.inr p))
theorem bind62x0x75059 (w1 w3 : LD) (w4 : Int) (w5 : Bool) (w8 : Int) (w10 : LD) (w14 w15 w16 w17 : Int) (w18 : LB) (k0 : Bool → Option R) (k1 : Unit → Option R) : F62x0x75059 N w1 w3 w4 w5 w8 w10 w14 w15 w16 w17 w18 k0 k1 = (G62x0x75059 N w1 w3 w4 w5 w8 w10 w14 w15 w16 w17 w18).bind (sumE k0 k1) := by
  unfold G62x0x75059 F62x0x75059
  repeat' (first | rfl | apply cond_b | (apply bnd_b; intro _))
noncomputable def J62x0x75059 (L : List Lf) (k0 : Bool → Option R) (k1 : Unit → Option R) : Option R := F62x0x75059 N (ll L 1) (ll L 3) (li L 4) (lb L 5) (li L 8) (ll L 10) (li L 14) (li L 15) (li L 16) (li L 17) (ls L 18) k0 k1
noncomputable def sh62x0x75059 : Sh := { tmps := [(2, .c (.sl 3)), (3, .c (.p 3 0)), (4, .c (.p 4 0)), (7, .c (.sl 3)), (28, .c (.i .i64)), (94, .c (.b))], mem := [(3, .box ([.i .i64, .i .i64, .i .i64, .sl 66, .sl 68])), (4, .box (rI 5 ([.s])))] }
noncomputable def A62x0x75059 (L : List Lf) : List (Bool × (Ex × St)) := bnd (J62x0x75059 N L (fun p => some (.inl p)) (fun p => some (.inr p))) fun q => [((inlB q), (.ret, ⟨[(6, .c (.b (inlV q)))], []⟩)), ((inrQ q).isSome, (.normal, ⟨[], []⟩))]
theorem raw62x0x75059 (L : List Lf) : pc Try.prog (T71x0 N) (h62x0s16 N).h 0 100 62 75059 sh62x0x75059 L [6] [] = J62x0x75059 N L (fun p => some (.ret, ⟨[(6, .c (.b p))], []⟩)) (fun _ => some (.normal, ⟨[], []⟩)) := by kernel_rfl
noncomputable def h62x0s17 : Sg Try.prog 0 62 :=
  (h62x0s16 N).cut (A62x0x75059 N) progOk (T71x0_ok N) fun L x hx => (raw62x0x75059 N L).trans ((bind62x0x75059 N ..).trans ((altS alt1) x hx))
noncomputable def F62x0x54035 (w1 w3 : LD) (w4 : Int) (w5 : Bool) (w6 w8 : Int) (w10 : LD) (w13 w14 w15 w16 w17 : Int) (w18 : LB) (k0 : Bool → Option R) (k1 : Unit → Option R) : Option R :=
  bif w5 then
    bnd (G62x0x36 N w1 (w1.length : Int) w6 w10 w13 w14 w15 0) fun y0 =>
    bif (inlB y0) then
      k0 false
    else
      bif (inrQ y0).isSome then
        k1 ()
      else
        none
  else
    bnd (G62x0x75059 N w1 w3 w4 (w4 == 3) w8 w10 w14 w15 w16 w17 w18) fun y1 =>
    bif (inlB y1) then
      k0 (inlV y1)
    else
      bif (inrQ y1).isSome then
        k1 ()
      else
        none
noncomputable def G62x0x54035 (w1 w3 : LD) (w4 : Int) (w5 : Bool) (w6 w8 : Int) (w10 : LD) (w13 w14 w15 w16 w17 : Int) (w18 : LB) : Option (Sum (Bool) (Unit)) := F62x0x54035 N w1 w3 w4 w5 w6 w8 w10 w13 w14 w15 w16 w17 w18 (fun p => some (.inl p)) (fun p => some (.inr p))
theorem bind62x0x54035 (w1 w3 : LD) (w4 : Int) (w5 : Bool) (w6 w8 : Int) (w10 : LD) (w13 w14 w15 w16 w17 : Int) (w18 : LB) (k0 : Bool → Option R) (k1 : Unit → Option R) : F62x0x54035 N w1 w3 w4 w5 w6 w8 w10 w13 w14 w15 w16 w17 w18 k0 k1 = (G62x0x54035 N w1 w3 w4 w5 w6 w8 w10 w13 w14 w15 w16 w17 w18).bind (sumE k0 k1) := by
  unfold G62x0x54035 F62x0x54035
  repeat' (first | rfl | apply cond_b | (apply bnd_b; intro _))
noncomputable def J62x0x54035 (L : List Lf) (k0 : Bool → Option R) (k1 : Unit → Option R) : Option R := F62x0x54035 N (ll L 1) (ll L 3) (li L 4) (lb L 5) (li L 6) (li L 8) (ll L 10) (li L 13) (li L 14) (li L 15) (li L 16) (li L 17) (ls L 18) k0 k1
noncomputable def sh62x0x54035 : Sh := { tmps := [(2, .c (.sl 3)), (3, .c (.p 3 0)), (4, .c (.p 4 0)), (7, .c (.sl 3)), (28, .c (.i .i64)), (54, .c (.b))], mem := [(3, .box ([.i .i64, .i .i64, .i .i64, .sl 66, .sl 68])), (4, .box (rI 5 ([.s])))] }
noncomputable def A62x0x54035 (L : List Lf) : List (Bool × (Ex × St)) := bnd (J62x0x54035 N L (fun p => some (.inl p)) (fun p => some (.inr p))) fun q => [((inlB q), (.ret, ⟨[(6, .c (.b (inlV q)))], []⟩)), ((inrQ q).isSome, (.normal, ⟨[], []⟩))]
theorem raw62x0x54035 (L : List Lf) : pc Try.prog (T71x0 N) (h62x0s17 N).h 0 100 62 54035 sh62x0x54035 L [6] [] = J62x0x54035 N L (fun p => some (.ret, ⟨[(6, .c (.b p))], []⟩)) (fun _ => some (.normal, ⟨[], []⟩)) := by kernel_rfl
noncomputable def h62x0s18 : Sg Try.prog 0 62 :=
  (h62x0s17 N).cut (A62x0x54035 N) progOk (T71x0_ok N) fun L x hx => (raw62x0x54035 N L).trans ((bind62x0x54035 N ..).trans ((altS alt1) x hx))
noncomputable def F62x0 (v0 v2 : Int) (v4 : LD) (v7 v8 v9 v10 v11 : Int) (v12 : LB) (v14 : LD) (k0 : Bool → Option R) : Option R :=
  bnd (G71x0 N v4 v14) fun y0 =>
  bif y0.isSome then
    bnd (V62x0x30002 N v7 (v7 == 1)) fun y1 =>
    bnd (G62x0x54035 N v14 (y0.getD default).2 v7 y1 v0 v2 v4 v7 v8 v9 v10 v11 v12) fun y2 =>
    bif (inlB y2) then
      k0 (inlV y2)
    else
      bif (inrQ y2).isSome then
        k0 true
      else
        none
  else
    none
noncomputable def G62x0 (v0 v2 : Int) (v4 : LD) (v7 v8 v9 v10 v11 : Int) (v12 : LB) (v14 : LD) : Option (Bool) := F62x0 N v0 v2 v4 v7 v8 v9 v10 v11 v12 v14 (fun p => some p)
theorem bind62x0 (v0 v2 : Int) (v4 : LD) (v7 v8 v9 v10 v11 : Int) (v12 : LB) (v14 : LD) (k0 : Bool → Option R) : F62x0 N v0 v2 v4 v7 v8 v9 v10 v11 v12 v14 k0 = (G62x0 N v0 v2 v4 v7 v8 v9 v10 v11 v12 v14).bind k0 := by
  unfold G62x0 F62x0
  repeat' (first | rfl | apply cond_b | (apply bnd_b; intro _))
noncomputable def J62x0 (L : List Lf) (k0 : Bool → Option R) : Option R := F62x0 N (li L 0) (li L 2) (ll L 4) (li L 7) (li L 8) (li L 9) (li L 10) (li L 11) (ls L 12) (ll L 14) k0
noncomputable def sh62x0 : Sh := { tmps := [(0, .g ([.i .i64, .i .i64, .i .i64, .sl 66, .sl 68])), (1, .g (rI 5 ([.s]))), (2, .c (.sl 3))], mem := [] }
noncomputable def A62x0 (L : List Lf) : List (Bool × Res) := bnd (J62x0 N L (fun p => some p)) fun q => [(q.isSome, ([.c (.b (q.getD default))], []))]
theorem raw62x0 (L : List Lf) : bd Try.prog (T71x0 N) (h62x0s18 N).h 62 sh62x0 L = J62x0 N L (fun p => some ([.c (.b p)], [])) := by kernel_rfl
theorem ok62x0 : FnOk Try.prog 62 sh62x0 (A62x0 N) :=
  (h62x0s18 N).fn progOk (T71x0_ok N) fun L x hx => ((raw62x0 N L).trans ((bind62x0 N ..).trans (alt1 x hx)))
noncomputable def T62x0 : Oracle := ext 62 (spSh sh62x0 (A62x0 N)) (T71x0 N)
theorem T62x0_ok : OracleOk Try.prog (T62x0 N) := FnOk.to (ok62x0 N) (T71x0_ok N)
noncomputable def rg28x0 : List (Nat × List Nat) := [(0, [0, 1]), (1, [2, 1]), (2, [6, 2, 1]), (3, [6]), (4, [2, 1]), (5, [2, 1, 7]), (6, [19, 18, 17, 2, 1, 7]), (7, [19, 17, 2, 1, 7, 18]), (8, [2, 9, 1, 7, 8, 19, 18, 17]), (9, [7, 8, 19, 18, 17, 2, 1]), (10, [19, 18, 17, 2, 1, 7]), (11, [7])]
noncomputable def hd28x0 : Hints := [(18, [19, 18, 17, 2, 1, 7], [2, 7], [7]), (29, [7, 8, 19, 18, 17, 2, 1, 28], [7, 2], [])]
noncomputable def h28x0s0 (N : Nat) : Sg Try.prog 0 28 := .start hd28x0 rg28x0
noncomputable def F28x0x29 (N : Nat) (w2 : Int) (w7 : Bool) (w16 : LD) (k0 : LD → Option R) (k1 : Unit → Option R) : Option R :=
  bif w7 then
    bif (decide ((w16.length + 1) * 8 ≤ room) && decide ((w16.length + 1) ≤ strMax)) then
      k0 (w16 ++ [(.i w2)])
    else
      none
  else
    k1 ()
noncomputable def G28x0x29 (w2 : Int) (w7 : Bool) (w16 : LD) : Option (Sum (LD) (Unit)) := F28x0x29 N w2 w7 w16 (fun p => some (.inl p)) (fun p => some (.inr p))
theorem bind28x0x29 (w2 : Int) (w7 : Bool) (w16 : LD) (k0 : LD → Option R) (k1 : Unit → Option R) : F28x0x29 N w2 w7 w16 k0 k1 = (G28x0x29 N w2 w7 w16).bind (sumE k0 k1) := by
  unfold G28x0x29 F28x0x29
  repeat' (first | rfl | apply cond_b | (apply bnd_b; intro _))
noncomputable def sh28x0x29 : Sh := { tmps := [(1, .c (.sl 3)), (2, .c (.p 2 0)), (7, .c (.o 7)), (8, .c (.i .i64)), (17, .c (.sl 68)), (18, .c (.i .i64)), (19, .c (.i .i64)), (28, .c (.b))], mem := [(2, .box ([.i .i64, .i .i64, .i .i64, .sl 66, .sl 68])), (7, .row 3 true)] }
noncomputable def K28x0x29w0 (L : List Lf) (p : LD) : Ex × St := (.normal, mg (ofSh sh28x0x29 L) [1, 2, 7, 17, 18, 19] [(7, .c (.o 32))] [2, 32] [(32, .row 3 true false p)])
noncomputable def K28x0x29w1 (L : List Lf) (_ : Unit) : Ex × St := (.normal, mg (ofSh sh28x0x29 L) [1, 2, 7, 17, 18, 19] [] [2, 7] [])
noncomputable def A28x0x29 (L : List Lf) : List (Bool × (Ex × St)) := bnd (F28x0x29 N (li L 2) (lb L 7) (ll L 16) (fun p => some (.inl p)) (fun p => some (.inr p))) fun q => [((inlB q), K28x0x29w0 L (inlV q)), ((inrQ q).isSome, K28x0x29w1 L ())]
theorem raw28x0x29 (L : List Lf) : pc Try.prog (T62x0 N) (h28x0s0 N).h 0 100 28 29 sh28x0x29 L [19, 18, 17, 2, 1, 7] [32, 2, 7] = F28x0x29 N (li L 2) (lb L 7) (ll L 16) (fun p => some (K28x0x29w0 L p)) (fun _ => some (K28x0x29w1 L ())) := by kernel_rfl
noncomputable def h28x0s1 : Sg Try.prog 0 28 :=
  (h28x0s0 N).cut (A28x0x29 N) progOk (T62x0_ok N) fun L x hx => (raw28x0x29 N L).trans ((bind28x0x29 N ..).trans ((altS alt1) x hx))
noncomputable def S28x0x18 (w1 w3 : LD) (w4 w6 w8 : Int) (w10 : LD) (w5 : Int) (w13 : Bool) (w14 : LD) (kr : Int → Bool → LD → Option R) (k0 : Bool × LD → Option R) : Option R :=
  bif (decide (w5 < w4)) then
    bif (inB w5 w3.length) then
      bnd (G62x0 N w6 w8 w10 ((w3.getD w5.toNat (.i 0)).cell 0).toI ((w3.getD w5.toNat (.i 0)).cell 1).toI ((w3.getD w5.toNat (.i 0)).cell 2).toI ((w3.getD w5.toNat (.i 0)).cell 3).toI ((w3.getD w5.toNat (.i 0)).cell 4).toI ((w3.getD w5.toNat (.i 0)).cell 5).toS w1) fun y0 =>
      bif y0.isSome then
        bnd (G28x0x29 N w5 (!(y0.getD default)) w14) fun y1 =>
        bif (inlB y1) then
          kr (IntKind.wrap .i64 (w5 + 1)) false (inlV y1)
        else
          bif (inrQ y1).isSome then
            kr (IntKind.wrap .i64 (w5 + 1)) w13 w14
          else
            none
      else
        none
    else
      none
  else
    k0 (w13, w14)
noncomputable def L28x0x18 (N : Nat) {R : Type} (w1 w3 : LD) (w4 w6 w8 : Int) (w10 : LD) : Nat → Int → Bool → LD → (Bool × LD → Option R) → Option R
  | 0, _, _, _, _ => none
  | m + 1, w5, w13, w14, k0 => S28x0x18 N w1 w3 w4 w6 w8 w10 w5 w13 w14 (fun w5 w13 w14 => L28x0x18 N w1 w3 w4 w6 w8 w10 m w5 w13 w14 k0) k0
noncomputable def G28x0x18 (w1 w3 : LD) (w4 w6 w8 : Int) (w10 : LD) (w5 : Int) (w13 : Bool) (w14 : LD) : Option (Bool × LD) := L28x0x18 N (R := (Bool × LD)) w1 w3 w4 w6 w8 w10 N w5 w13 w14 (fun p => some p)
noncomputable def J28x0x18 (L x : List Lf) (kr : List Lf → Option R) (k0 : Bool × LD → Option R) : Option R := S28x0x18 N (ll L 1) (ll L 3) (li L 4) (li L 6) (li L 8) (ll L 10) (li x 0) (lb x 1) (ll x 2) (fun w5 w13 w14 => kr [.i w5, .b w13, .l w14]) k0
theorem sb28x0x18 (L x : List Lf) (kr : List Lf → Option R) (k0 : Bool × LD → Option R) : J28x0x18 N L x kr k0 = (J28x0x18 N L x (fun y => some (.inl y)) (fun p => some (.inr p))).bind (sumE kr k0) := by
  unfold J28x0x18 S28x0x18
  repeat' (first | rfl | apply cond_b | (apply bnd_b; intro _))
noncomputable def Q28x0x18 (L : List Lf) (m : Nat) (x : List Lf) : Option (Bool × LD) := L28x0x18 N (R := (Bool × LD)) (ll L 1) (ll L 3) (li L 4) (li L 6) (li L 8) (ll L 10) m (li x 0) (lb x 1) (ll x 2) (fun p => some p)
noncomputable def sh28x0x18 : Sh := { tmps := [(1, .c (.sl 3)), (2, .c (.p 2 0)), (7, .c (.o 7)), (17, .c (.sl 68)), (18, .c (.i .i64)), (19, .c (.i .i64))], mem := [(2, .box ([.i .i64, .i .i64, .i .i64, .sl 66, .sl 68])), (7, .row 3 true)] }
noncomputable def A28x0x18 (L : List Lf) : List (Bool × (Ex × St)) := bnd (Q28x0x18 N L N (pk sh28x0x18 [5, 13, 14] L)) fun q => [(q.isSome, ((.exit 0), ⟨[(7, .c (.o 7))], [(7, .row 3 true (q.getD default).1 (q.getD default).2)]⟩))]
theorem step28x0x18 (m : Nat) (kn : St → Option (Ex × St)) (L x : List Lf) : lpB Try.prog (T62x0 N) (h28x0s1 N).h 0 28 18 sh28x0x18 [5, 13, 14] [4, 5, 7] [7] (m + 100) kn L x = J28x0x18 N L x (fun y => kn (ofSh sh28x0x18 (mx sh28x0x18 [5, 13, 14] L y))) (fun p => some ((.exit 0), ⟨[(7, .c (.o 7))], [(7, .row 3 true p.1 p.2)]⟩)) := by kernel_rfl
noncomputable def h28x0s2 : Sg Try.prog 0 28 :=
  (h28x0s1 N).lp (A28x0x18 N) N progOk (T62x0_ok N) (fun m kn L x => (step28x0x18 N m kn L x).trans (sb28x0x18 N L x _ _)) (fun L m x => sb28x0x18 N L x (Q28x0x18 N L m) some) fun L x hx => alt1 x hx
noncomputable def F28x0 (v0 v1 v2 : Int) (v4 v6 v8 : LD) (k0 : Bool × LD × Int → Option R) : Option R :=
  bnd (G58x0 N v0 v1 v2 v4 v6 v8) fun y0 =>
  bif y0.isSome then
    bif ((y0.getD default) != 0) then
      k0 (true, [], (y0.getD default))
    else
      bnd (G28x0x18 N v8 v6 (v6.length : Int) v0 v2 v4 0 true []) fun y1 =>
      bif y1.isSome then
        k0 ((y1.getD default).1, (y1.getD default).2, 0)
      else
        none
  else
    none
noncomputable def G28x0 (v0 v1 v2 : Int) (v4 v6 v8 : LD) : Option (Bool × LD × Int) := F28x0 N v0 v1 v2 v4 v6 v8 (fun p => some p)
theorem bind28x0 (v0 v1 v2 : Int) (v4 v6 v8 : LD) (k0 : Bool × LD × Int → Option R) : F28x0 N v0 v1 v2 v4 v6 v8 k0 = (G28x0 N v0 v1 v2 v4 v6 v8).bind k0 := by
  unfold G28x0 F28x0
  repeat' (first | rfl | apply cond_b | (apply bnd_b; intro _))
noncomputable def J28x0 (L : List Lf) (k0 : Bool × LD × Int → Option R) : Option R := F28x0 N (li L 0) (li L 1) (li L 2) (ll L 4) (ll L 6) (ll L 8) k0
noncomputable def sh28x0 : Sh := { tmps := [(0, .g ([.i .i64, .i .i64, .i .i64, .sl 66, .sl 68])), (1, .c (.sl 3))], mem := [] }
noncomputable def A28x0 (L : List Lf) : List (Bool × Res) := bnd (J28x0 N L (fun p => some p)) fun q => [(q.isSome, ([.c (.sl 3 (q.getD default).1 (q.getD default).2.1), .c (.i .i64 (q.getD default).2.2)], []))]
theorem raw28x0 (L : List Lf) : bd Try.prog (T62x0 N) (h28x0s2 N).h 28 sh28x0 L = J28x0 N L (fun p => some ([.c (.sl 3 p.1 p.2.1), .c (.i .i64 p.2.2)], [])) := by kernel_rfl
theorem ok28x0 : FnOk Try.prog 28 sh28x0 (A28x0 N) :=
  (h28x0s2 N).fn progOk (T62x0_ok N) fun L x hx => ((raw28x0 N L).trans ((bind28x0 N ..).trans (alt1 x hx)))
noncomputable def T28x0 : Oracle := ext 28 (spSh sh28x0 (A28x0 N)) (T62x0 N)
theorem T28x0_ok : OracleOk Try.prog (T28x0 N) := FnOk.to (ok28x0 N) (T62x0_ok N)
noncomputable def rg29x0 : List (Nat × List Nat) := [(0, [1, 0]), (1, [1, 0])]
noncomputable def hd29x0 : Hints := [(4, [1, 0], [], [])]
noncomputable def h29x0s0 (N : Nat) : Sg Try.prog 0 29 := .start hd29x0 rg29x0
noncomputable def F29x0x4 (w1 w3 : LD) (k0 : Bool → Option R) : Option R :=
  bif (bif ((decide (0 ≤ (w3.length : Int))) && (decide ((w3.length : Int) ≤ (w1.length : Int)))) then true else (!((decide ((w3.length : Int) ≤ (w1.length : Int))) == true))) then
    bif (decide ((w3.length : Int) ≤ (w1.length : Int))) then
      bnd (G15x0 N ((w1.take (w3.length : Int).toNat).drop 0) w3) fun y0 =>
      bif y0.isSome then
        k0 (y0.getD default)
      else
        none
    else
      k0 false
  else
    none
noncomputable def G29x0x4 (w1 w3 : LD) : Option (Bool) := F29x0x4 N w1 w3 (fun p => some p)
theorem bind29x0x4 (w1 w3 : LD) (k0 : Bool → Option R) : F29x0x4 N w1 w3 k0 = (G29x0x4 N w1 w3).bind k0 := by
  unfold G29x0x4 F29x0x4
  repeat' (first | rfl | apply cond_b | (apply bnd_b; intro _))
noncomputable def sh29x0x4 : Sh := { tmps := [(0, .c (.sl 3)), (1, .c (.sl 3))], mem := [] }
noncomputable def A29x0x4 (L : List Lf) : List (Bool × (Ex × St)) := bnd (F29x0x4 N (ll L 1) (ll L 3) (fun p => some p)) fun q => [(q.isSome, (.normal, ⟨[(4, .c (.b (q.getD default)))], []⟩))]
theorem raw29x0x4 (L : List Lf) : pc Try.prog (T28x0 N) (h29x0s0 N).h 0 100 29 4 sh29x0x4 L [4] [] = F29x0x4 N (ll L 1) (ll L 3) (fun p => some (.normal, ⟨[(4, .c (.b p))], []⟩)) := by kernel_rfl
noncomputable def h29x0s1 : Sg Try.prog 0 29 :=
  (h29x0s0 N).cut (A29x0x4 N) progOk (T28x0_ok N) fun L x hx => (raw29x0x4 N L).trans ((bind29x0x4 N ..).trans (alt1 x hx))
noncomputable def F29x0 (v1 v3 : LD) (k0 : Bool → Option R) : Option R :=
  bnd (G29x0x4 N v1 v3) fun y0 =>
  bif y0.isSome then
    k0 (y0.getD default)
  else
    none
noncomputable def G29x0 (v1 v3 : LD) : Option (Bool) := F29x0 N v1 v3 (fun p => some p)
theorem bind29x0 (v1 v3 : LD) (k0 : Bool → Option R) : F29x0 N v1 v3 k0 = (G29x0 N v1 v3).bind k0 := by
  unfold G29x0 F29x0
  repeat' (first | rfl | apply cond_b | (apply bnd_b; intro _))
noncomputable def sh29x0 : Sh := { tmps := [(0, .c (.sl 3)), (1, .c (.sl 3))], mem := [] }
noncomputable def A29x0 (L : List Lf) : List (Bool × Res) := bnd (F29x0 N (ll L 1) (ll L 3) (fun p => some p)) fun q => [(q.isSome, ([.c (.b (q.getD default))], []))]
theorem raw29x0 (L : List Lf) : bd Try.prog (T28x0 N) (h29x0s1 N).h 29 sh29x0 L = F29x0 N (ll L 1) (ll L 3) (fun p => some ([.c (.b p)], [])) := by kernel_rfl
theorem ok29x0 : FnOk Try.prog 29 sh29x0 (A29x0 N) :=
  (h29x0s1 N).fn progOk (T28x0_ok N) fun L x hx => ((raw29x0 N L).trans ((bind29x0 N ..).trans (alt1 x hx)))
noncomputable def T29x0 : Oracle := ext 29 (spSh sh29x0 (A29x0 N)) (T28x0 N)
theorem T29x0_ok : OracleOk Try.prog (T29x0 N) := FnOk.to (ok29x0 N) (T28x0_ok N)
noncomputable def rg30x0 : List (Nat × List Nat) := [(0, [0, 1]), (1, [2, 1]), (2, [6, 1, 2]), (3, [6]), (4, [1, 2]), (5, [1, 7, 2]), (6, [18, 17, 16, 7, 2]), (7, [16, 18, 7, 2, 17]), (8, [7, 2, 9, 18, 17, 16]), (9, [18, 17, 16, 7, 2]), (10, [7])]
noncomputable def hd30x0 : Hints := [(18, [18, 17, 16, 7, 2], [2], [])]
noncomputable def h30x0s0 (N : Nat) : Sg Try.prog 0 30 := .start hd30x0 rg30x0
noncomputable def S30x0x18 (w2 : LD) (w3 : Int) (w9 : LD) (w0 w4 : Int) (kr : Int → Int → Option R) (k0 : Int → Option R) : Option R :=
  bif (decide (w4 < w3)) then
    bif (inB w4 w2.length) then
      bnd (G63x0 N w9 (w2.getD w4.toNat (.i 0)).toI) fun y0 =>
      bif y0.isSome then
        kr (IntKind.wrap .i64 (w0 + (y0.getD default).2.2.2.1)) (IntKind.wrap .i64 (w4 + 1))
      else
        none
    else
      none
  else
    k0 w0
noncomputable def L30x0x18 (N : Nat) {R : Type} (w2 : LD) (w3 : Int) (w9 : LD) : Nat → Int → Int → (Int → Option R) → Option R
  | 0, _, _, _ => none
  | m + 1, w0, w4, k0 => S30x0x18 N w2 w3 w9 w0 w4 (fun w0 w4 => L30x0x18 N w2 w3 w9 m w0 w4 k0) k0
noncomputable def G30x0x18 (w2 : LD) (w3 : Int) (w9 : LD) (w0 w4 : Int) : Option (Int) := L30x0x18 N (R := (Int)) w2 w3 w9 N w0 w4 (fun p => some p)
noncomputable def J30x0x18 (L x : List Lf) (kr : List Lf → Option R) (k0 : Int → Option R) : Option R := S30x0x18 N (ll L 2) (li L 3) (ll L 9) (li x 0) (li x 1) (fun w0 w4 => kr [.i w0, .i w4]) k0
theorem sb30x0x18 (L x : List Lf) (kr : List Lf → Option R) (k0 : Int → Option R) : J30x0x18 N L x kr k0 = (J30x0x18 N L x (fun y => some (.inl y)) (fun p => some (.inr p))).bind (sumE kr k0) := by
  unfold J30x0x18 S30x0x18
  repeat' (first | rfl | apply cond_b | (apply bnd_b; intro _))
noncomputable def Q30x0x18 (L : List Lf) (m : Nat) (x : List Lf) : Option (Int) := L30x0x18 N (R := (Int)) (ll L 2) (li L 3) (ll L 9) m (li x 0) (li x 1) (fun p => some p)
noncomputable def sh30x0x18 : Sh := { tmps := [(2, .c (.p 2 0)), (7, .c (.i .i64)), (16, .c (.sl 3)), (17, .c (.i .i64)), (18, .c (.i .i64))], mem := [(2, .box ([.i .i64, .i .i64, .i .i64, .sl 66, .sl 68]))] }
noncomputable def A30x0x18 (L : List Lf) : List (Bool × (Ex × St)) := bnd (Q30x0x18 N L N (pk sh30x0x18 [0, 4] L)) fun q => [(q.isSome, ((.exit 0), ⟨[(7, .c (.i .i64 (q.getD default)))], []⟩))]
theorem step30x0x18 (m : Nat) (kn : St → Option (Ex × St)) (L x : List Lf) : lpB Try.prog (T29x0 N) (h30x0s0 N).h 0 30 18 sh30x0x18 [0, 4] [4, 5, 7] [] (m + 100) kn L x = J30x0x18 N L x (fun y => kn (ofSh sh30x0x18 (mx sh30x0x18 [0, 4] L y))) (fun p => some ((.exit 0), ⟨[(7, .c (.i .i64 p))], []⟩)) := by kernel_rfl
noncomputable def h30x0s1 : Sg Try.prog 0 30 :=
  (h30x0s0 N).lp (A30x0x18 N) N progOk (T29x0_ok N) (fun m kn L x => (step30x0x18 N m kn L x).trans (sb30x0x18 N L x _ _)) (fun L m x => sb30x0x18 N L x (Q30x0x18 N L m) some) fun L x hx => alt1 x hx
noncomputable def F30x0 (v0 v1 v2 : Int) (v4 v6 v8 : LD) (k0 : Int × Int → Option R) : Option R :=
  bnd (G58x0 N v0 v1 v2 v4 v6 v8) fun y0 =>
  bif y0.isSome then
    bif ((y0.getD default) != 0) then
      k0 (0, (y0.getD default))
    else
      bnd (G30x0x18 N v8 (v8.length : Int) v4 0 0) fun y1 =>
      bif y1.isSome then
        k0 ((y1.getD default), 0)
      else
        none
  else
    none
noncomputable def G30x0 (v0 v1 v2 : Int) (v4 v6 v8 : LD) : Option (Int × Int) := F30x0 N v0 v1 v2 v4 v6 v8 (fun p => some p)
theorem bind30x0 (v0 v1 v2 : Int) (v4 v6 v8 : LD) (k0 : Int × Int → Option R) : F30x0 N v0 v1 v2 v4 v6 v8 k0 = (G30x0 N v0 v1 v2 v4 v6 v8).bind k0 := by
  unfold G30x0 F30x0
  repeat' (first | rfl | apply cond_b | (apply bnd_b; intro _))
noncomputable def J30x0 (L : List Lf) (k0 : Int × Int → Option R) : Option R := F30x0 N (li L 0) (li L 1) (li L 2) (ll L 4) (ll L 6) (ll L 8) k0
noncomputable def sh30x0 : Sh := { tmps := [(0, .g ([.i .i64, .i .i64, .i .i64, .sl 66, .sl 68])), (1, .c (.sl 3))], mem := [] }
noncomputable def A30x0 (L : List Lf) : List (Bool × Res) := bnd (J30x0 N L (fun p => some p)) fun q => [(q.isSome, ([.c (.i .i64 (q.getD default).1), .c (.i .i64 (q.getD default).2)], []))]
theorem raw30x0 (L : List Lf) : bd Try.prog (T29x0 N) (h30x0s1 N).h 30 sh30x0 L = J30x0 N L (fun p => some ([.c (.i .i64 p.1), .c (.i .i64 p.2)], [])) := by kernel_rfl
theorem ok30x0 : FnOk Try.prog 30 sh30x0 (A30x0 N) :=
  (h30x0s1 N).fn progOk (T29x0_ok N) fun L x hx => ((raw30x0 N L).trans ((bind30x0 N ..).trans (alt1 x hx)))
noncomputable def T30x0 : Oracle := ext 30 (spSh sh30x0 (A30x0 N)) (T29x0 N)
theorem T30x0_ok : OracleOk Try.prog (T30x0 N) := FnOk.to (ok30x0 N) (T29x0_ok N)
noncomputable def rg85x0 : List (Nat × List Nat) := [(0, [0]), (1, [0])]
noncomputable def hd85x0 : Hints := []
noncomputable def h85x0s0 (N : Nat) : Sg Try.prog 0 85 := .start hd85x0 rg85x0
noncomputable def F85x0 (N : Nat) (v0 : Int) (k0 : Bool → R) : R :=
  k0 (v0 != v0)
noncomputable def V85x0 (v0 : Int) : Bool := F85x0 N v0 (fun p => p)
theorem tot85x0 (v0 : Int) (k0 : Bool → R) : F85x0 N v0 k0 = k0 (V85x0 N v0) := by
  unfold V85x0 F85x0
  repeat' (first | rfl | apply cond_k | (apply bnd_k; intro _))
noncomputable def sh85x0 : Sh := { tmps := [(0, .c (.i .i64))], mem := [] }
noncomputable def A85x0 (L : List Lf) : List (Bool × Res) := bnd (F85x0 N (li L 0) (fun p => p)) fun q => [(true, ([.c (.b q)], []))]
theorem raw85x0 (L : List Lf) : bd Try.prog (T30x0 N) (h85x0s0 N).h 85 sh85x0 L = F85x0 N (li L 0) (fun p => some ([.c (.b p)], [])) := by kernel_rfl
theorem ok85x0 : FnOk Try.prog 85 sh85x0 (A85x0 N) :=
  (h85x0s0 N).fn progOk (T30x0_ok N) fun L x hx => ((raw85x0 N L).trans ((tot85x0 N ..).trans (alt0 _ _ hx)))
noncomputable def T85x0 : Oracle := ext 85 (spSh sh85x0 (A85x0 N)) (T30x0 N)
theorem T85x0_ok : OracleOk Try.prog (T85x0 N) := FnOk.to (ok85x0 N) (T30x0_ok N)
noncomputable def rg64x0 : List (Nat × List Nat) := [(0, [0, 1]), (1, [0, 1]), (2, [1, 5, 0]), (3, [5, 6, 0, 1]), (4, [6]), (5, []), (6, []), (7, [6, 0, 1]), (8, []), (9, [0, 1]), (10, []), (11, [0, 1]), (12, []), (13, [])]
noncomputable def hd64x0 : Hints := []
noncomputable def h64x0s0 (N : Nat) : Sg Try.prog 0 64 := .start hd64x0 rg64x0
noncomputable def F64x0 (v0 v1 : Int) (k0 : Int → R) : R :=
  bnd (V85x0 N v0) fun y0 =>
  bnd (V85x0 N v1) fun y1 =>
  bif y0 then
    bif y1 then
      k0 0
    else
      k0 (-1)
  else
    bif y1 then
      k0 1
    else
      bif (decide (v0 < v1)) then
        k0 (-1)
      else
        bif (decide (v0 > v1)) then
          k0 1
        else
          k0 0
noncomputable def V64x0 (v0 v1 : Int) : Int := F64x0 N v0 v1 (fun p => p)
theorem tot64x0 (v0 v1 : Int) (k0 : Int → R) : F64x0 N v0 v1 k0 = k0 (V64x0 N v0 v1) := by
  unfold V64x0 F64x0
  repeat' (first | rfl | apply cond_k | (apply bnd_k; intro _))
noncomputable def sh64x0 : Sh := { tmps := [(0, .c (.i .i64)), (1, .c (.i .i64))], mem := [] }
noncomputable def A64x0 (L : List Lf) : List (Bool × Res) := bnd (F64x0 N (li L 0) (li L 1) (fun p => p)) fun q => [(true, ([.c (.i .i64 q)], []))]
theorem raw64x0 (L : List Lf) : bd Try.prog (T85x0 N) (h64x0s0 N).h 64 sh64x0 L = F64x0 N (li L 0) (li L 1) (fun p => some ([.c (.i .i64 p)], [])) := by kernel_rfl
theorem ok64x0 : FnOk Try.prog 64 sh64x0 (A64x0 N) :=
  (h64x0s0 N).fn progOk (T85x0_ok N) fun L x hx => ((raw64x0 N L).trans ((tot64x0 N ..).trans (alt0 _ _ hx)))
noncomputable def T64x0 : Oracle := ext 64 (spSh sh64x0 (A64x0 N)) (T85x0 N)
theorem T64x0_ok : OracleOk Try.prog (T64x0 N) := FnOk.to (ok64x0 N) (T85x0_ok N)
noncomputable def rg31x0 : List (Nat × List Nat) := [(0, [0, 1]), (1, [0, 1]), (2, [11, 10, 9, 1, 0]), (3, [11, 9, 1, 10, 0]), (4, [5, 1, 6, 11, 10, 9, 0]), (5, []), (6, [1, 5, 6, 11, 10, 9, 0]), (7, [6, 7, 11, 10, 9, 1, 0]), (8, [8, 11, 10, 9, 1, 0]), (9, [8]), (10, [11, 10, 9, 1, 0]), (11, [0, 1]), (12, []), (13, [])]
noncomputable def hd31x0 : Hints := [(6, [11, 10, 9, 1, 0], [], [])]
noncomputable def h31x0s0 (N : Nat) : Sg Try.prog 0 31 := .start hd31x0 rg31x0
noncomputable def S31x0x6 (w3 w5 : LD) (w6 : Int) (w7 : Int) (kr : Int → Option R) (k0 : Int → Option R) (k1 : Unit → Option R) : Option R :=
  bif (decide (w7 < w6)) then
    bif (inB w7 w5.length) then
      bif (decide (w7 ≥ (w3.length : Int))) then
        k0 1
      else
        bif (inB w7 w3.length) then
          bnd (V64x0 N (w5.getD w7.toNat (.i 0)).toI (w3.getD w7.toNat (.i 0)).toI) fun y0 =>
          bif (y0 != 0) then
            k0 y0
          else
            kr (IntKind.wrap .i64 (w7 + 1))
        else
          none
    else
      none
  else
    k1 ()
noncomputable def L31x0x6 (N : Nat) {R : Type} (w3 w5 : LD) (w6 : Int) : Nat → Int → (Int → Option R) → (Unit → Option R) → Option R
  | 0, _, _, _ => none
  | m + 1, w7, k0, k1 => S31x0x6 N w3 w5 w6 w7 (fun w7 => L31x0x6 N w3 w5 w6 m w7 k0 k1) k0 k1
noncomputable def G31x0x6 (w3 w5 : LD) (w6 : Int) (w7 : Int) : Option (Sum (Int) (Unit)) := L31x0x6 N (R := (Sum (Int) (Unit))) w3 w5 w6 N w7 (fun p => some (.inl p)) (fun p => some (.inr p))
noncomputable def J31x0x6 (L x : List Lf) (kr : List Lf → Option R) (k0 : Int → Option R) (k1 : Unit → Option R) : Option R := S31x0x6 N (ll L 3) (ll L 5) (li L 6) (li x 0) (fun w7 => kr [.i w7]) k0 k1
theorem sb31x0x6 (L x : List Lf) (kr : List Lf → Option R) (k0 : Int → Option R) (k1 : Unit → Option R) : J31x0x6 N L x kr k0 k1 = (J31x0x6 N L x (fun y => some (.inl y)) (fun p => some (.inr (.inl p))) (fun p => some (.inr (.inr p)))).bind (sumE kr (sumE k0 k1)) := by
  unfold J31x0x6 S31x0x6
  repeat' (first | rfl | apply cond_b | (apply bnd_b; intro _))
noncomputable def Q31x0x6 (L : List Lf) (m : Nat) (x : List Lf) : Option (Sum (Int) (Unit)) := L31x0x6 N (R := (Sum (Int) (Unit))) (ll L 3) (ll L 5) (li L 6) m (li x 0) (fun p => some (.inl p)) (fun p => some (.inr p))
noncomputable def sh31x0x6 : Sh := { tmps := [(0, .c (.sl 3)), (1, .c (.sl 3)), (9, .c (.sl 3)), (10, .c (.i .i64)), (11, .c (.i .i64))], mem := [] }
noncomputable def A31x0x6 (L : List Lf) : List (Bool × (Ex × St)) := bnd (Q31x0x6 N L N (pk sh31x0x6 [7] L)) fun q => [((inlB q), (.ret, ⟨[(4, .c (.i .i64 (inlV q)))], []⟩)), ((inrQ q).isSome, ((.exit 0), mg (ofSh sh31x0x6 L) [0, 1] [] [] []))]
theorem step31x0x6 (m : Nat) (kn : St → Option (Ex × St)) (L x : List Lf) : lpB Try.prog (T64x0 N) (h31x0s0 N).h 0 31 6 sh31x0x6 [7] [4, 0, 1] [] (m + 100) kn L x = J31x0x6 N L x (fun y => kn (ofSh sh31x0x6 (mx sh31x0x6 [7] L y))) (fun p => some (.ret, ⟨[(4, .c (.i .i64 p))], []⟩)) (fun _ => some ((.exit 0), mg (ofSh sh31x0x6 L) [0, 1] [] [] [])) := by kernel_rfl
noncomputable def h31x0s1 : Sg Try.prog 0 31 :=
  (h31x0s0 N).lp (A31x0x6 N) N progOk (T64x0_ok N) (fun m kn L x => (step31x0x6 N m kn L x).trans (sb31x0x6 N L x _ _ _)) (fun L m x => sb31x0x6 N L x (Q31x0x6 N L m) (fun p => some (.inl p)) (fun p => some (.inr p))) fun L x hx => (altS alt1) x hx
noncomputable def F31x0 (v1 v3 : LD) (k0 : Int → Option R) : Option R :=
  bnd (G31x0x6 N v3 v1 (v1.length : Int) 0) fun y0 =>
  bif (inlB y0) then
    k0 (inlV y0)
  else
    bif (inrQ y0).isSome then
      bif (decide ((v1.length : Int) < (v3.length : Int))) then
        k0 (-1)
      else
        k0 0
    else
      none
noncomputable def G31x0 (v1 v3 : LD) : Option (Int) := F31x0 N v1 v3 (fun p => some p)
theorem bind31x0 (v1 v3 : LD) (k0 : Int → Option R) : F31x0 N v1 v3 k0 = (G31x0 N v1 v3).bind k0 := by
  unfold G31x0 F31x0
  repeat' (first | rfl | apply cond_b | (apply bnd_b; intro _))
noncomputable def sh31x0 : Sh := { tmps := [(0, .c (.sl 3)), (1, .c (.sl 3))], mem := [] }
noncomputable def A31x0 (L : List Lf) : List (Bool × Res) := bnd (F31x0 N (ll L 1) (ll L 3) (fun p => some p)) fun q => [(q.isSome, ([.c (.i .i64 (q.getD default))], []))]
theorem raw31x0 (L : List Lf) : bd Try.prog (T64x0 N) (h31x0s1 N).h 31 sh31x0 L = F31x0 N (ll L 1) (ll L 3) (fun p => some ([.c (.i .i64 p)], [])) := by kernel_rfl
theorem ok31x0 : FnOk Try.prog 31 sh31x0 (A31x0 N) :=
  (h31x0s1 N).fn progOk (T64x0_ok N) fun L x hx => ((raw31x0 N L).trans ((bind31x0 N ..).trans (alt1 x hx)))
noncomputable def T31x0 : Oracle := ext 31 (spSh sh31x0 (A31x0 N)) (T64x0 N)
theorem T31x0_ok : OracleOk Try.prog (T31x0 N) := FnOk.to (ok31x0 N) (T64x0_ok N)
noncomputable def rg8x0 : List (Nat × List Nat) := [(0, [0, 1, 2]), (1, [3, 1, 2]), (2, [9, 3, 1, 2, 8, 7]), (3, [3, 1, 9]), (4, [9, 12]), (5, [3, 2, 1, 8, 7]), (6, [14, 13, 2, 1, 8, 3, 7]), (7, [8, 15, 3, 7, 1, 2]), (8, [15]), (9, [3, 7, 1, 15, 2]), (10, [17, 16, 7, 1, 15, 3, 2]), (11, []), (12, [15, 3, 7, 2]), (13, [3, 7, 2]), (14, [3, 2, 18, 7]), (15, [20, 18, 2, 7]), (16, []), (17, [])]
noncomputable def hd8x0 : Hints := [(13, [9, 12], [], []), (19, [14, 13, 2, 1, 8, 3, 7], [3], []), (25, [15], [], []), (31, [17, 16, 7, 1, 15, 3, 2], [3], []), (46, [20, 18, 2, 7], [], []), (41, [3, 7, 2, 88], [3], [])]
noncomputable def h8x0s0 (N : Nat) : Sg Try.prog 0 8 := .start hd8x0 rg8x0
noncomputable def F8x0x13 (w0 w1 : Int) (k0 : Bool → Option R) : Option R :=
  bif (w0 == w1) then
    bnd (G16x0 N) fun y0 =>
    bif y0.isSome then
      k0 (y0.getD default)
    else
      none
  else
    k0 false
noncomputable def G8x0x13 (w0 w1 : Int) : Option (Bool) := F8x0x13 N w0 w1 (fun p => some p)
theorem bind8x0x13 (w0 w1 : Int) (k0 : Bool → Option R) : F8x0x13 N w0 w1 k0 = (G8x0x13 N w0 w1).bind k0 := by
  unfold G8x0x13 F8x0x13
  repeat' (first | rfl | apply cond_b | (apply bnd_b; intro _))
noncomputable def sh8x0x13 : Sh := { tmps := [(9, .c (.i .i64)), (12, .c (.i .i64))], mem := [] }
noncomputable def A8x0x13 (L : List Lf) : List (Bool × (Ex × St)) := bnd (F8x0x13 N (li L 0) (li L 1) (fun p => some p)) fun q => [(q.isSome, (.normal, ⟨[(6, .c (.b (q.getD default)))], []⟩))]
theorem raw8x0x13 (L : List Lf) : pc Try.prog (T31x0 N) (h8x0s0 N).h 0 100 8 13 sh8x0x13 L [6] [] = F8x0x13 N (li L 0) (li L 1) (fun p => some (.normal, ⟨[(6, .c (.b p))], []⟩)) := by kernel_rfl
noncomputable def h8x0s1 : Sg Try.prog 0 8 :=
  (h8x0s0 N).cut (A8x0x13 N) progOk (T31x0_ok N) fun L x hx => (raw8x0x13 N L).trans ((bind8x0x13 N ..).trans (alt1 x hx))
noncomputable def F8x0x19 (w1 w3 w8 : LD) (w9 : Int) (k0 : Bool → Option R) : Option R :=
  bif (bif (w9 == 0) then ((w8.length : Int) == 0) else false) then
    bnd (G29x0 N w3 w1) fun y0 =>
    bif y0.isSome then
      k0 (y0.getD default)
    else
      none
  else
    k0 false
noncomputable def G8x0x19 (w1 w3 w8 : LD) (w9 : Int) : Option (Bool) := F8x0x19 N w1 w3 w8 w9 (fun p => some p)
theorem bind8x0x19 (w1 w3 w8 : LD) (w9 : Int) (k0 : Bool → Option R) : F8x0x19 N w1 w3 w8 w9 k0 = (G8x0x19 N w1 w3 w8 w9).bind k0 := by
  unfold G8x0x19 F8x0x19
  repeat' (first | rfl | apply cond_b | (apply bnd_b; intro _))
noncomputable def J8x0x19 (L : List Lf) (k0 : Bool → Option R) : Option R := F8x0x19 N (ll L 1) (ll L 3) (ll L 8) (li L 9) k0
noncomputable def sh8x0x19 : Sh := { tmps := [(1, .c (.sl 3)), (2, .c (.sl 3)), (3, .c (.p 3 0)), (7, .c (.sl 3)), (8, .c (.b)), (13, .c (.sl 3)), (14, .c (.i .i64))], mem := [(3, .box ([.i .i64, .i .i64, .i .i64, .sl 66, .sl 68]))] }
noncomputable def K8x0x19w0 (L : List Lf) (p : Bool) : Ex × St := (.normal, mg (ofSh sh8x0x19 L) [1, 2, 3, 7, 8, 15] [(15, .c (.b p))] [3] [])
noncomputable def A8x0x19 (L : List Lf) : List (Bool × (Ex × St)) := bnd (J8x0x19 N L (fun p => some p)) fun q => [(q.isSome, K8x0x19w0 L (q.getD default))]
theorem raw8x0x19 (L : List Lf) : pc Try.prog (T31x0 N) (h8x0s1 N).h 0 100 8 19 sh8x0x19 L [8, 15, 3, 7, 1, 2] [3] = J8x0x19 N L (fun p => some (K8x0x19w0 L p)) := by kernel_rfl
noncomputable def h8x0s2 : Sg Try.prog 0 8 :=
  (h8x0s1 N).cut (A8x0x19 N) progOk (T31x0_ok N) fun L x hx => (raw8x0x19 N L).trans ((bind8x0x19 N ..).trans (alt1 x hx))
noncomputable def F8x0x25 (w0 : Bool) (k0 : Bool → Option R) : Option R :=
  bif (!w0) then
    bnd (G16x0 N) fun y0 =>
    bif y0.isSome then
      k0 (y0.getD default)
    else
      none
  else
    k0 false
noncomputable def G8x0x25 (w0 : Bool) : Option (Bool) := F8x0x25 N w0 (fun p => some p)
theorem bind8x0x25 (w0 : Bool) (k0 : Bool → Option R) : F8x0x25 N w0 k0 = (G8x0x25 N w0).bind k0 := by
  unfold G8x0x25 F8x0x25
  repeat' (first | rfl | apply cond_b | (apply bnd_b; intro _))
noncomputable def sh8x0x25 : Sh := { tmps := [(15, .c (.b))], mem := [] }
noncomputable def A8x0x25 (L : List Lf) : List (Bool × (Ex × St)) := bnd (F8x0x25 N (lb L 0) (fun p => some p)) fun q => [(q.isSome, (.normal, ⟨[(6, .c (.b (q.getD default)))], []⟩))]
theorem raw8x0x25 (L : List Lf) : pc Try.prog (T31x0 N) (h8x0s2 N).h 0 100 8 25 sh8x0x25 L [6] [] = F8x0x25 N (lb L 0) (fun p => some (.normal, ⟨[(6, .c (.b p))], []⟩)) := by kernel_rfl
noncomputable def h8x0s3 : Sg Try.prog 0 8 :=
  (h8x0s2 N).cut (A8x0x25 N) progOk (T31x0_ok N) fun L x hx => (raw8x0x25 N L).trans ((bind8x0x25 N ..).trans (alt1 x hx))
noncomputable def F8x0x31 (w1 w5 w8 : LD) (w9 : Int) (k0 : Bool → Option R) : Option R :=
  bnd (bif (w9 != 0) then true else (decide ((w8.length : Int) > 0))) fun y0 =>
  bif y0 then
    k0 true
  else
    bnd (G29x0 N w5 w1) fun y1 =>
    bif y1.isSome then
      k0 (!(y1.getD default))
    else
      none
noncomputable def G8x0x31 (w1 w5 w8 : LD) (w9 : Int) : Option (Bool) := F8x0x31 N w1 w5 w8 w9 (fun p => some p)
theorem bind8x0x31 (w1 w5 w8 : LD) (w9 : Int) (k0 : Bool → Option R) : F8x0x31 N w1 w5 w8 w9 k0 = (G8x0x31 N w1 w5 w8 w9).bind k0 := by
  unfold G8x0x31 F8x0x31
  repeat' (first | rfl | apply cond_b | (apply bnd_b; intro _))
noncomputable def J8x0x31 (L : List Lf) (k0 : Bool → Option R) : Option R := F8x0x31 N (ll L 1) (ll L 5) (ll L 8) (li L 9) k0
noncomputable def sh8x0x31 : Sh := { tmps := [(1, .c (.sl 3)), (2, .c (.sl 3)), (3, .c (.p 3 0)), (7, .c (.sl 3)), (15, .c (.b)), (16, .c (.sl 3)), (17, .c (.i .i64))], mem := [(3, .box ([.i .i64, .i .i64, .i .i64, .sl 66, .sl 68]))] }
noncomputable def K8x0x31w0 (L : List Lf) (p : Bool) : Ex × St := (.normal, mg (ofSh sh8x0x31 L) [2, 3, 7, 15, 87] [(87, .c (.b p))] [3] [])
noncomputable def A8x0x31 (L : List Lf) : List (Bool × (Ex × St)) := bnd (J8x0x31 N L (fun p => some p)) fun q => [(q.isSome, K8x0x31w0 L (q.getD default))]
theorem raw8x0x31 (L : List Lf) : pc Try.prog (T31x0 N) (h8x0s3 N).h 0 100 8 31 sh8x0x31 L [15, 3, 7, 2, 87] [3] = J8x0x31 N L (fun p => some (K8x0x31w0 L p)) := by kernel_rfl
noncomputable def h8x0s4 : Sg Try.prog 0 8 :=
  (h8x0s3 N).cut (A8x0x31 N) progOk (T31x0_ok N) fun L x hx => (raw8x0x31 N L).trans ((bind8x0x31 N ..).trans (alt1 x hx))
noncomputable def F8x0x46 (w1 w3 : LD) (w4 w5 : Int) (k0 : Bool → Option R) : Option R :=
  bif (decide (w5 > w4)) then
    k0 true
  else
    bif (w5 == w4) then
      bnd (G31x0 N w1 w3) fun y0 =>
      bif y0.isSome then
        k0 (decide ((y0.getD default) < 0))
      else
        none
    else
      k0 false
noncomputable def G8x0x46 (w1 w3 : LD) (w4 w5 : Int) : Option (Bool) := F8x0x46 N w1 w3 w4 w5 (fun p => some p)
theorem bind8x0x46 (w1 w3 : LD) (w4 w5 : Int) (k0 : Bool → Option R) : F8x0x46 N w1 w3 w4 w5 k0 = (G8x0x46 N w1 w3 w4 w5).bind k0 := by
  unfold G8x0x46 F8x0x46
  repeat' (first | rfl | apply cond_b | (apply bnd_b; intro _))
noncomputable def J8x0x46 (L : List Lf) (k0 : Bool → Option R) : Option R := F8x0x46 N (ll L 1) (ll L 3) (li L 4) (li L 5) k0
noncomputable def sh8x0x46 : Sh := { tmps := [(2, .c (.sl 3)), (7, .c (.sl 3)), (18, .c (.i .i64)), (20, .c (.i .i64))], mem := [] }
noncomputable def A8x0x46 (L : List Lf) : List (Bool × (Ex × St)) := bnd (J8x0x46 N L (fun p => some p)) fun q => [(q.isSome, (.normal, ⟨[(114, .c (.b (q.getD default)))], []⟩))]
theorem raw8x0x46 (L : List Lf) : pc Try.prog (T31x0 N) (h8x0s4 N).h 0 100 8 46 sh8x0x46 L [114] [] = J8x0x46 N L (fun p => some (.normal, ⟨[(114, .c (.b p))], []⟩)) := by kernel_rfl
noncomputable def h8x0s5 : Sg Try.prog 0 8 :=
  (h8x0s4 N).cut (A8x0x46 N) progOk (T31x0_ok N) fun L x hx => (raw8x0x46 N L).trans ((bind8x0x46 N ..).trans (alt1 x hx))
noncomputable def F8x0x41 (w1 w3 : LD) (w4 : Bool) (w5 w6 w7 : Int) (w9 w11 : LD) (k0 : Unit → Option R) (k1 : Unit → Option R) : Option R :=
  bif w4 then
    bnd (G30x0 N w5 w6 w7 w9 w11 w3) fun y0 =>
    bif y0.isSome then
      bnd (G30x0 N w5 w6 w7 w9 w11 w1) fun y1 =>
      bif y1.isSome then
        bnd (G8x0x46 N w1 w3 (y0.getD default).1 (y1.getD default).1) fun y2 =>
        bif y2.isSome then
          bif (y2.getD default) then
            k0 ()
          else
            k1 ()
        else
          none
      else
        none
    else
      none
  else
    k1 ()
noncomputable def G8x0x41 (w1 w3 : LD) (w4 : Bool) (w5 w6 w7 : Int) (w9 w11 : LD) : Option (Sum (Unit) (Unit)) := F8x0x41 N w1 w3 w4 w5 w6 w7 w9 w11 (fun p => some (.inl p)) (fun p => some (.inr p))
theorem bind8x0x41 (w1 w3 : LD) (w4 : Bool) (w5 w6 w7 : Int) (w9 w11 : LD) (k0 : Unit → Option R) (k1 : Unit → Option R) : F8x0x41 N w1 w3 w4 w5 w6 w7 w9 w11 k0 k1 = (G8x0x41 N w1 w3 w4 w5 w6 w7 w9 w11).bind (sumE k0 k1) := by
  unfold G8x0x41 F8x0x41
  repeat' (first | rfl | apply cond_b | (apply bnd_b; intro _))
noncomputable def J8x0x41 (L : List Lf) (k0 : Unit → Option R) (k1 : Unit → Option R) : Option R := F8x0x41 N (ll L 1) (ll L 3) (lb L 4) (li L 5) (li L 6) (li L 7) (ll L 9) (ll L 11) k0 k1
noncomputable def sh8x0x41 : Sh := { tmps := [(2, .c (.sl 3)), (3, .c (.p 3 0)), (7, .c (.sl 3)), (88, .c (.b))], mem := [(3, .box ([.i .i64, .i .i64, .i .i64, .sl 66, .sl 68]))] }
noncomputable def A8x0x41 (L : List Lf) : List (Bool × (Ex × St)) := bnd (J8x0x41 N L (fun p => some (.inl p)) (fun p => some (.inr p))) fun q => [((inlB q), (.ret, ⟨[(6, .c (.b false))], []⟩)), ((inrQ q).isSome, (.normal, ⟨[], []⟩))]
theorem raw8x0x41 (L : List Lf) : pc Try.prog (T31x0 N) (h8x0s5 N).h 0 100 8 41 sh8x0x41 L [6] [] = J8x0x41 N L (fun _ => some (.ret, ⟨[(6, .c (.b false))], []⟩)) (fun _ => some (.normal, ⟨[], []⟩)) := by kernel_rfl
noncomputable def h8x0s6 : Sg Try.prog 0 8 :=
  (h8x0s5 N).cut (A8x0x41 N) progOk (T31x0_ok N) fun L x hx => (raw8x0x41 N L).trans ((bind8x0x41 N ..).trans ((altS alt1) x hx))
noncomputable def F8x0 (v0 v1 v2 : Int) (v3 : Bool) (v4 : LD) (v5 : Bool) (v6 : LD) (v7 : Bool) (v8 v10 : LD) (k0 : Bool → Option R) : Option R :=
  bnd (G11x0 N v0 v1 v2 v3 v4 v5 v6 v7 v8) fun y0 =>
  bif y0.isSome then
    bif ((y0.getD default).2.2.2 != 0) then
      bnd (G12x0 N v0 v1 v2 v3 v4 v5 v6 v7 v8) fun y1 =>
      bif y1.isSome then
        bnd (G8x0x13 N (y0.getD default).2.2.2 (y1.getD default).2.2.2) fun y2 =>
        bif y2.isSome then
          k0 (y2.getD default)
        else
          none
      else
        none
    else
      bnd (G28x0 N v0 v1 v2 v4 v6 v10) fun y3 =>
      bif y3.isSome then
        bnd (G8x0x19 N v8 v10 (y3.getD default).2.1 (y3.getD default).2.2) fun y4 =>
        bif y4.isSome then
          bif (!(y0.getD default).2.2.1) then
            bnd (G8x0x25 N (y4.getD default)) fun y5 =>
            bif y5.isSome then
              k0 (y5.getD default)
            else
              none
          else
            bnd (G28x0 N v0 v1 v2 v4 v6 (y0.getD default).2.1) fun y6 =>
            bif y6.isSome then
              bnd (G8x0x31 N v8 (y0.getD default).2.1 (y6.getD default).2.1 (y6.getD default).2.2) fun y7 =>
              bif y7.isSome then
                bif (y7.getD default) then
                  k0 false
                else
                  bnd (G8x0x41 N v10 (y0.getD default).2.1 (y4.getD default) v0 v1 v2 v4 v6) fun y8 =>
                  bif (inlB y8) then
                    k0 false
                  else
                    bif (inrQ y8).isSome then
                      bnd (G16x0 N) fun y9 =>
                      bif y9.isSome then
                        k0 (y9.getD default)
                      else
                        none
                    else
                      none
              else
                none
            else
              none
        else
          none
      else
        none
  else
    none
noncomputable def G8x0 (v0 v1 v2 : Int) (v3 : Bool) (v4 : LD) (v5 : Bool) (v6 : LD) (v7 : Bool) (v8 v10 : LD) : Option (Bool) := F8x0 N v0 v1 v2 v3 v4 v5 v6 v7 v8 v10 (fun p => some p)
theorem bind8x0 (v0 v1 v2 : Int) (v3 : Bool) (v4 : LD) (v5 : Bool) (v6 : LD) (v7 : Bool) (v8 v10 : LD) (k0 : Bool → Option R) : F8x0 N v0 v1 v2 v3 v4 v5 v6 v7 v8 v10 k0 = (G8x0 N v0 v1 v2 v3 v4 v5 v6 v7 v8 v10).bind k0 := by
  unfold G8x0 F8x0
  repeat' (first | rfl | apply cond_b | (apply bnd_b; intro _))
noncomputable def J8x0 (L : List Lf) (k0 : Bool → Option R) : Option R := F8x0 N (li L 0) (li L 1) (li L 2) (lb L 3) (ll L 4) (lb L 5) (ll L 6) (lb L 7) (ll L 8) (ll L 10) k0
noncomputable def sh8x0 : Sh := { tmps := [(0, .g ([.i .i64, .i .i64, .i .i64, .sl 66, .sl 68])), (1, .c (.sl 3)), (2, .c (.sl 3))], mem := [] }
noncomputable def A8x0 (L : List Lf) : List (Bool × Res) := bnd (J8x0 N L (fun p => some p)) fun q => [(q.isSome, ([.c (.b (q.getD default))], []))]
theorem raw8x0 (L : List Lf) : bd Try.prog (T31x0 N) (h8x0s6 N).h 8 sh8x0 L = J8x0 N L (fun p => some ([.c (.b p)], [])) := by kernel_rfl
theorem ok8x0 : FnOk Try.prog 8 sh8x0 (A8x0 N) :=
  (h8x0s6 N).fn progOk (T31x0_ok N) fun L x hx => ((raw8x0 N L).trans ((bind8x0 N ..).trans (alt1 x hx)))
noncomputable def T8x0 : Oracle := ext 8 (spSh sh8x0 (A8x0 N)) (T31x0 N)
theorem T8x0_ok : OracleOk Try.prog (T8x0 N) := FnOk.to (ok8x0 N) (T31x0_ok N)
end Go.Proofs.Ytefmjfcdgadggaa
