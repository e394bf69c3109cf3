/- Functions of the program as plain Lean definitions, each with the proof that the program computes it. No condition. Printed by a program of the prover, part 1. -/
import Derived.Test.YtngnemeafkmaoaaHk1
import Derived.Test.YtngnemeafkmaoaaChecked
import Derived.KernelRfl
set_option linter.all false
set_option maxRecDepth 100000
namespace Go.Proofs.Ytngnemeafkmaoaa
open Go Go.AM
variable (N : Nat) {R : Type}
abbrev LD : Type := List D
abbrev LB : Type := List UInt8
abbrev Ty0 : Type := LB × Int × Bool × LD × Bool × LD × Bool × LD
abbrev Ty1 : Type := Bool × Bool × Bool × Bool × Bool × Bool × Bool × Bool × LD
abbrev Ty2 : Type := Bool × Bool × Bool × Bool × Bool × Bool × LD × Bool × Bool
abbrev Ty3 : Type := Int × Int × Int × Int × Int × Int × LB
abbrev Ty4 : Type := Bool × Bool × Bool × Bool × Bool × Bool × Bool
abbrev Ty5 : Type := Bool × LD × Bool × LD
abbrev Ty6 : Type := (List (D × D)) × Bool × LD
abbrev Ty7 : Type := Int × Int × Int × LB
abbrev Ty8 : Type := Bool × LD × Bool × Int
noncomputable def rg64x0 : List (Nat × List Nat) := [(0, [0, 1, 2]), (1, [0, 1, 2])]
noncomputable def hd64x0 : Hints := []
noncomputable def h64x0s0 (N : Nat) : Sg Try.prog 0 64 := .start hd64x0 rg64x0
noncomputable def F64x0 (N : Nat) (v0 v1 v2 : Int) (k0 : Bool → R) : R :=
  k0 (bif (decide (v0 ≥ v1)) then (decide (v0 ≤ v2)) else false)
noncomputable def V64x0 (v0 v1 v2 : Int) : Bool := F64x0 N v0 v1 v2 (fun p => p)
theorem tot64x0 (v0 v1 v2 : Int) (k0 : Bool → R) : F64x0 N v0 v1 v2 k0 = k0 (V64x0 N v0 v1 v2) := by
  unfold V64x0 F64x0
  repeat' (first | rfl | apply cond_k | (apply bnd_k; intro _))
noncomputable def sh64x0 : Sh := { tmps := [(0, .c (.i .i64)), (1, .c (.i .i64)), (2, .c (.i .i64))], mem := [] }
noncomputable def A64x0 (L : List Lf) : List (Bool × Res) := bnd (F64x0 N (li L 0) (li L 1) (li L 2) (fun p => p)) fun q => [(true, ([.c (.b q)], []))]
theorem raw64x0 (L : List Lf) : bd Try.prog noOracle (h64x0s0 N).h 64 sh64x0 L = F64x0 N (li L 0) (li L 1) (li L 2) (fun p => some ([.c (.b p)], [])) := by kernel_rfl
theorem ok64x0 : FnOk Try.prog 64 sh64x0 (A64x0 N) :=
  (h64x0s0 N).fn progOk noOracle_ok fun L x hx => ((raw64x0 N L).trans ((tot64x0 N ..).trans (alt0 _ _ hx)))
noncomputable def T64x0 : Oracle := ext 64 (spSh sh64x0 (A64x0 N)) noOracle
theorem T64x0_ok : OracleOk Try.prog (T64x0 N) := FnOk.to (ok64x0 N) noOracle_ok
noncomputable def rg96x0 : List (Nat × List Nat) := [(0, [0]), (1, [0])]
noncomputable def hd96x0 : Hints := []
noncomputable def h96x0s0 (N : Nat) : Sg Try.prog 0 96 := .start hd96x0 rg96x0
noncomputable def F96x0 (N : Nat) (v0 : Int) (k0 : Bool → R) : R :=
  k0 (bif (decide (v0 ≥ 48)) then (decide (v0 ≤ 57)) else false)
noncomputable def V96x0 (v0 : Int) : Bool := F96x0 N v0 (fun p => p)
theorem tot96x0 (v0 : Int) (k0 : Bool → R) : F96x0 N v0 k0 = k0 (V96x0 N v0) := by
  unfold V96x0 F96x0
  repeat' (first | rfl | apply cond_k | (apply bnd_k; intro _))
noncomputable def sh96x0 : Sh := { tmps := [(0, .c (.i .u8))], mem := [] }
noncomputable def A96x0 (L : List Lf) : List (Bool × Res) := bnd (F96x0 N (li L 0) (fun p => p)) fun q => [(true, ([.c (.b q)], []))]
theorem raw96x0 (L : List Lf) : bd Try.prog (T64x0 N) (h96x0s0 N).h 96 sh96x0 L = F96x0 N (li L 0) (fun p => some ([.c (.b p)], [])) := by kernel_rfl
theorem ok96x0 : FnOk Try.prog 96 sh96x0 (A96x0 N) :=
  (h96x0s0 N).fn progOk (T64x0_ok N) fun L x hx => ((raw96x0 N L).trans ((tot96x0 N ..).trans (alt0 _ _ hx)))
noncomputable def T96x0 : Oracle := ext 96 (spSh sh96x0 (A96x0 N)) (T64x0 N)
theorem T96x0_ok : OracleOk Try.prog (T96x0 N) := FnOk.to (ok96x0 N) (T64x0_ok N)
noncomputable def rg82x0 : List (Nat × List Nat) := [(0, [0]), (1, [0]), (2, [8, 7, 0]), (3, [8, 0, 7]), (4, [0, 3, 8, 7]), (5, [4, 8, 7, 0]), (6, [5, 4, 8, 7, 0]), (7, []), (8, [8, 7, 0]), (9, [0])]
noncomputable def hd82x0 : Hints := [(6, [8, 7, 0], [], []), (19, [5, 4, 8, 7, 0], [], [])]
noncomputable def h82x0s0 (N : Nat) : Sg Try.prog 0 82 := .start hd82x0 rg82x0
noncomputable def F82x0x19 (w1 : Int) (w2 : Bool) (k0 : Bool → R) : R :=
  bif (!w2) then
    bnd (V96x0 N w1) fun y0 =>
    bnd (bif (bif (!y0) then (w1 != 45) else false) then (w1 != 95) else false) fun y1 =>
    k0 (bif y1 then (w1 != 46) else false)
  else
    k0 false
noncomputable def V82x0x19 (w1 : Int) (w2 : Bool) : Bool := F82x0x19 N w1 w2 (fun p => p)
theorem tot82x0x19 (w1 : Int) (w2 : Bool) (k0 : Bool → R) : F82x0x19 N w1 w2 k0 = k0 (V82x0x19 N w1 w2) := by
  unfold V82x0x19 F82x0x19
  repeat' (first | rfl | apply cond_k | (apply bnd_k; intro _))
noncomputable def sh82x0x19 : Sh := { tmps := [(0, .c (.s)), (4, .c (.i .u8)), (5, .c (.b)), (7, .c (.i .i64)), (8, .c (.i .i64))], mem := [] }
noncomputable def K82x0x19w0 (L : List Lf) (p : Bool) : Ex × St := (.normal, mg (ofSh sh82x0x19 L) [0, 7, 8, 46] [(46, .c (.b p))] [] [])
noncomputable def A82x0x19 (L : List Lf) : List (Bool × (Ex × St)) := bnd (F82x0x19 N (li L 1) (lb L 2) (fun p => p)) fun q => [(true, K82x0x19w0 L q)]
theorem raw82x0x19 (L : List Lf) : pc Try.prog (T96x0 N) (h82x0s0 N).h 0 100 82 19 sh82x0x19 L [8, 7, 0, 46] [] = F82x0x19 N (li L 1) (lb L 2) (fun p => some (K82x0x19w0 L p)) := by kernel_rfl
noncomputable def h82x0s1 : Sg Try.prog 0 82 :=
  (h82x0s0 N).cut (A82x0x19 N) progOk (T96x0_ok N) fun L x hx => (raw82x0x19 N L).trans ((tot82x0x19 N ..).trans (alt0 _ _ hx))
noncomputable def S82x0x6 (w0 : LB) (w1 : Int) (w2 : Int) (kr : Int → Option R) (k0 : Unit → Option R) (k1 : Unit → Option R) : Option R :=
  bif (decide (w2 < w1)) then
    bif (inB w2 w0.length) then
      bnd (bif (decide (((w0.getD w2.toNat 0).toNat : Int) ≥ 97)) then (decide (((w0.getD w2.toNat 0).toNat : Int) ≤ 122)) else false) fun y0 =>
      bnd (bif y0 then true else (bif (decide (((w0.getD w2.toNat 0).toNat : Int) ≥ 65)) then (decide (((w0.getD w2.toNat 0).toNat : Int) ≤ 90)) else false)) fun y1 =>
      bnd (V82x0x19 N ((w0.getD w2.toNat 0).toNat : Int) y1) fun y2 =>
      bif y2 then
        k0 ()
      else
        kr (IntKind.wrap .i64 (w2 + 1))
    else
      none
  else
    k1 ()
noncomputable def L82x0x6 (N : Nat) {R : Type} (w0 : LB) (w1 : Int) : Nat → Int → (Unit → Option R) → (Unit → Option R) → Option R
  | 0, _, _, _ => none
  | m + 1, w2, k0, k1 => S82x0x6 N w0 w1 w2 (fun w2 => L82x0x6 N w0 w1 m w2 k0 k1) k0 k1
noncomputable def G82x0x6 (w0 : LB) (w1 : Int) (w2 : Int) : Option (Sum (Unit) (Unit)) := L82x0x6 N (R := (Sum (Unit) (Unit))) w0 w1 N w2 (fun p => some (.inl p)) (fun p => some (.inr p))
noncomputable def J82x0x6 (L x : List Lf) (kr : List Lf → Option R) (k0 : Unit → Option R) (k1 : Unit → Option R) : Option R := S82x0x6 N (ls L 0) (li L 1) (li x 0) (fun w2 => kr [.i w2]) k0 k1
theorem sb82x0x6 (L x : List Lf) (kr : List Lf → Option R) (k0 : Unit → Option R) (k1 : Unit → Option R) : J82x0x6 N L x kr k0 k1 = (J82x0x6 N L x (fun y => some (.inl y)) (fun p => some (.inr (.inl p))) (fun p => some (.inr (.inr p)))).bind (sumE kr (sumE k0 k1)) := by
  unfold J82x0x6 S82x0x6
  repeat' (first | with_reducible apply cond_b | (with_reducible apply bnd_b; intro _) | rfl)
noncomputable def Q82x0x6 (L : List Lf) (m : Nat) (x : List Lf) : Option (Sum (Unit) (Unit)) := L82x0x6 N (R := (Sum (Unit) (Unit))) (ls L 0) (li L 1) m (li x 0) (fun p => some (.inl p)) (fun p => some (.inr p))
noncomputable def sh82x0x6 : Sh := { tmps := [(0, .c (.s)), (7, .c (.i .i64)), (8, .c (.i .i64))], mem := [] }
noncomputable def A82x0x6 (L : List Lf) : List (Bool × (Ex × St)) := bnd (Q82x0x6 N L N (pk sh82x0x6 [2] L)) fun q => [((inlB q), (.ret, ⟨[(2, .c (.b false))], []⟩)), ((inrQ q).isSome, ((.exit 0), ⟨[(0, .c (.s (ls L 0)))], []⟩))]
theorem step82x0x6 (m : Nat) (kn : St → Option (Ex × St)) (L x : List Lf) : lpB Try.prog (T96x0 N) (h82x0s1 N).h 0 82 6 sh82x0x6 [2] [2, 0] [] (m + 100) kn L x = J82x0x6 N L x (fun y => kn (ofSh sh82x0x6 (mx sh82x0x6 [2] L y))) (fun _ => some (.ret, ⟨[(2, .c (.b false))], []⟩)) (fun _ => some ((.exit 0), ⟨[(0, .c (.s (ls L 0)))], []⟩)) := by kernel_rfl
theorem ql82x0x6 (L : List Lf) (m : Nat) (x : List Lf) : Q82x0x6 N L (m + 1) x = J82x0x6 N L x (Q82x0x6 N L m) (fun p => some (.inl p)) (fun p => some (.inr p)) := by kernel_rfl
noncomputable def h82x0s2 : Sg Try.prog 0 82 :=
  (h82x0s1 N).lp (A82x0x6 N) N progOk (T96x0_ok N) (fun m kn L x => (step82x0x6 N m kn L x).trans (sb82x0x6 N L x _ _ _)) (fun L m x => (ql82x0x6 N L m x).trans (sb82x0x6 N L x (Q82x0x6 N L m) (fun p => some (.inl p)) (fun p => some (.inr p)))) fun L x hx => (altS alt1) x hx
noncomputable def F82x0 (v0 : LB) (k0 : Bool → Option R) : Option R :=
  bnd (G82x0x6 N v0 (v0.length : Int) 0) fun y0 =>
  bif (inlB y0) then
    k0 false
  else
    bif (inrQ y0).isSome then
      bnd (bif (decide ((v0.length : Int) ≥ 1)) then (decide ((v0.length : Int) ≤ 60)) else false) fun y1 =>
      k0 y1
    else
      none
noncomputable def G82x0 (v0 : LB) : Option (Bool) := F82x0 N v0 (fun p => some p)
theorem bind82x0 (v0 : LB) (k0 : Bool → Option R) : F82x0 N v0 k0 = (G82x0 N v0).bind k0 := by
  unfold G82x0 F82x0
  repeat' (first | with_reducible apply cond_b | (with_reducible apply bnd_b; intro _) | rfl)
noncomputable def sh82x0 : Sh := { tmps := [(0, .c (.s))], mem := [] }
noncomputable def A82x0 (L : List Lf) : List (Bool × Res) := bnd (F82x0 N (ls L 0) (fun p => some p)) fun q => [(q.isSome, ([.c (.b (q.getD default))], []))]
theorem raw82x0 (L : List Lf) : bd Try.prog (T96x0 N) (h82x0s2 N).h 82 sh82x0 L = F82x0 N (ls L 0) (fun p => some ([.c (.b p)], [])) := by kernel_rfl
theorem ok82x0 : FnOk Try.prog 82 sh82x0 (A82x0 N) :=
  (h82x0s2 N).fn progOk (T96x0_ok N) fun L x hx => ((raw82x0 N L).trans ((bind82x0 N ..).trans (alt1 x hx)))
noncomputable def T82x0 : Oracle := ext 82 (spSh sh82x0 (A82x0 N)) (T96x0 N)
theorem T82x0_ok : OracleOk Try.prog (T82x0 N) := FnOk.to (ok82x0 N) (T96x0_ok N)
noncomputable def rg58x0 : List (Nat × List Nat) := [(0, [0]), (1, [1]), (3, [1]), (4, []), (2, []), (5, [1]), (6, [3, 1]), (7, [1, 3]), (8, [18, 1, 3]), (12, [18, 1, 3]), (16, [18, 1, 3]), (20, [18, 1, 3]), (24, [18, 1, 3]), (28, [18, 1, 3]), (29, [1, 3]), (30, []), (31, [3]), (25, [1, 3]), (26, []), (27, [3]), (21, [1, 3]), (22, []), (23, [3]), (17, [1, 3]), (18, []), (19, [3]), (13, [1, 3]), (14, []), (15, [3]), (9, [1, 3]), (10, []), (11, [3]), (32, [3]), (33, []), (34, [])]
noncomputable def hd58x0 : Hints := [(28, [1, 3], [3, 1], []), (89, [1, 3, 84], [3, 1], []), (84077, [1, 3, 18, 77], [3, 1], []), (72065, [1, 3, 18, 70], [3, 1], []), (60053, [1, 3, 18, 63], [3, 1], []), (48041, [1, 3, 18, 40], [3, 1], []), (36029, [1, 3, 18, 19], [3, 1], [])]
noncomputable def h58x0s0 (N : Nat) : Sg Try.prog 0 58 := .start hd58x0 rg58x0
noncomputable def F58x0x28 (w2 w3 w4 : Int) (k0 : Bool → R) : R :=
  bnd (V64x0 N w2 (-100000000) 100000000) fun y0 =>
  bif (!y0) then
    k0 true
  else
    bnd (V64x0 N w3 (-100000000) 100000000) fun y1 =>
    bif (!y1) then
      k0 true
    else
      bnd (V64x0 N w4 0 1000000) fun y2 =>
      k0 (!y2)
noncomputable def V58x0x28 (w2 w3 w4 : Int) : Bool := F58x0x28 N w2 w3 w4 (fun p => p)
theorem tot58x0x28 (w2 w3 w4 : Int) (k0 : Bool → R) : F58x0x28 N w2 w3 w4 k0 = k0 (V58x0x28 N w2 w3 w4) := by
  unfold V58x0x28 F58x0x28
  repeat' (first | rfl | apply cond_k | (apply bnd_k; intro _))
noncomputable def sh58x0x28 : Sh := { tmps := [(1, .c (.p 1 0)), (3, .c (.p 3 0))], mem := [(1, .box (rI 8 ([.s]))), (3, .box (rI 8 ([.s])))] }
noncomputable def K58x0x28w0 (L : List Lf) (p : Bool) : Ex × St := (.normal, mg (ofSh sh58x0x28 L) [3, 36] [(36, .c (.b p))] [3] [])
noncomputable def A58x0x28 (L : List Lf) : List (Bool × (Ex × St)) := bnd (F58x0x28 N (li L 2) (li L 3) (li L 4) (fun p => p)) fun q => [(true, K58x0x28w0 L q)]
theorem raw58x0x28 (L : List Lf) : pc Try.prog (T82x0 N) (h58x0s0 N).h 0 100 58 28 sh58x0x28 L [3, 36] [3] = F58x0x28 N (li L 2) (li L 3) (li L 4) (fun p => some (K58x0x28w0 L p)) := by kernel_rfl
noncomputable def h58x0s1 : Sg Try.prog 0 58 :=
  (h58x0s0 N).cut (A58x0x28 N) progOk (T82x0_ok N) fun L x hx => (raw58x0x28 N L).trans ((tot58x0x28 N ..).trans (alt0 _ _ hx))
noncomputable def F58x0x89 (w0 : Bool) (w9 w18 : LB) (k0 : Unit → Option R) (k1 : LB → Option R) : Option R :=
  bif w0 then
    bnd (G82x0 N w9) fun y0 =>
    bif y0.isSome then
      bif (!(y0.getD default)) then
        k0 ()
      else
        k1 ([] : List UInt8)
    else
      none
  else
    k1 w18
noncomputable def G58x0x89 (w0 : Bool) (w9 w18 : LB) : Option (Sum (Unit) (LB)) := F58x0x89 N w0 w9 w18 (fun p => some (.inl p)) (fun p => some (.inr p))
theorem bind58x0x89 (w0 : Bool) (w9 w18 : LB) (k0 : Unit → Option R) (k1 : LB → Option R) : F58x0x89 N w0 w9 w18 k0 k1 = (G58x0x89 N w0 w9 w18).bind (sumE k0 k1) := by
  unfold G58x0x89 F58x0x89
  repeat' (first | with_reducible apply cond_b | (with_reducible apply bnd_b; intro _) | rfl)
noncomputable def sh58x0x89 : Sh := { tmps := [(1, .c (.p 1 0)), (3, .c (.p 3 0)), (84, .c (.b))], mem := [(1, .box (rI 8 ([.s]))), (3, .box (rI 8 ([.s])))] }
noncomputable def K58x0x89w0 (L : List Lf) (_ : Unit) : Ex × St := (.ret, mg (ofSh sh58x0x89 L) [2] [(2, .c (.i .i64 8))] [3] [])
noncomputable def K58x0x89w1 (L : List Lf) (p : LB) : Ex × St := (.normal, ⟨[(3, .c (.p 3 0))], [(3, .box (rL L 10 8 ([.s p])))]⟩)
noncomputable def A58x0x89 (L : List Lf) : List (Bool × (Ex × St)) := bnd (F58x0x89 N (lb L 0) (ls L 9) (ls L 18) (fun p => some (.inl p)) (fun p => some (.inr p))) fun q => [((inlB q), K58x0x89w0 L ()), ((inrQ q).isSome, K58x0x89w1 L ((inrQ q).getD default))]
theorem raw58x0x89 (L : List Lf) : pc Try.prog (T82x0 N) (h58x0s1 N).h 0 100 58 89 sh58x0x89 L [3, 2] [3] = F58x0x89 N (lb L 0) (ls L 9) (ls L 18) (fun _ => some (K58x0x89w0 L ())) (fun p => some (K58x0x89w1 L p)) := by kernel_rfl
noncomputable def h58x0s2 : Sg Try.prog 0 58 :=
  (h58x0s1 N).cut (A58x0x89 N) progOk (T82x0_ok N) fun L x hx => (raw58x0x89 N L).trans ((bind58x0x89 N ..).trans ((altS alt1) x hx))
noncomputable def F58x0x84077 (w0 : Int) (w1 : Bool) (w9 : Int) (w10 : LB) (w18 : Int) (w19 : LB) (k0 : Int → Option R) (k1 : Int × LB → Option R) : Option R :=
  bif w1 then
    bnd (V64x0 N w9 1 5) fun y0 =>
    bif (!y0) then
      k0 7
    else
      k1 (0, w19)
  else
    bnd (G58x0x89 N (w0 == 4) w10 w19) fun y1 =>
    bif (inlB y1) then
      k0 8
    else
      bif (inrQ y1).isSome then
        k1 (w18, ((inrQ y1).getD default))
      else
        none
noncomputable def G58x0x84077 (w0 : Int) (w1 : Bool) (w9 : Int) (w10 : LB) (w18 : Int) (w19 : LB) : Option (Sum (Int) (Int × LB)) := F58x0x84077 N w0 w1 w9 w10 w18 w19 (fun p => some (.inl p)) (fun p => some (.inr p))
theorem bind58x0x84077 (w0 : Int) (w1 : Bool) (w9 : Int) (w10 : LB) (w18 : Int) (w19 : LB) (k0 : Int → Option R) (k1 : Int × LB → Option R) : F58x0x84077 N w0 w1 w9 w10 w18 w19 k0 k1 = (G58x0x84077 N w0 w1 w9 w10 w18 w19).bind (sumE k0 k1) := by
  unfold G58x0x84077 F58x0x84077
  repeat' (first | with_reducible apply cond_b | (with_reducible apply bnd_b; intro _) | rfl)
noncomputable def J58x0x84077 (L : List Lf) (k0 : Int → Option R) (k1 : Int × LB → Option R) : Option R := F58x0x84077 N (li L 0) (lb L 1) (li L 9) (ls L 10) (li L 18) (ls L 19) k0 k1
noncomputable def sh58x0x84077 : Sh := { tmps := [(1, .c (.p 1 0)), (3, .c (.p 3 0)), (18, .c (.i .i64)), (77, .c (.b))], mem := [(1, .box (rI 8 ([.s]))), (3, .box (rI 8 ([.s])))] }
noncomputable def K58x0x84077w0 (L : List Lf) (p : Int) : Ex × St := (.ret, mg (ofSh sh58x0x84077 L) [2] [(2, .c (.i .i64 p))] [3] [])
noncomputable def K58x0x84077w1 (L : List Lf) (p : Int × LB) : Ex × St := (.normal, ⟨[(3, .c (.p 3 0))], [(3, .box (rL L 11 7 ([.i .i64 p.1, .s p.2])))]⟩)
noncomputable def A58x0x84077 (L : List Lf) : List (Bool × (Ex × St)) := bnd (J58x0x84077 N L (fun p => some (.inl p)) (fun p => some (.inr p))) fun q => [((inlB q), K58x0x84077w0 L (inlV q)), ((inrQ q).isSome, K58x0x84077w1 L ((inrQ q).getD default))]
theorem raw58x0x84077 (L : List Lf) : pc Try.prog (T82x0 N) (h58x0s2 N).h 0 100 58 84077 sh58x0x84077 L [3, 2] [3] = J58x0x84077 N L (fun p => some (K58x0x84077w0 L p)) (fun p => some (K58x0x84077w1 L p)) := by kernel_rfl
noncomputable def h58x0s3 : Sg Try.prog 0 58 :=
  (h58x0s2 N).cut (A58x0x84077 N) progOk (T82x0_ok N) fun L x hx => (raw58x0x84077 N L).trans ((bind58x0x84077 N ..).trans ((altS alt1) x hx))
noncomputable def F58x0x72065 (w0 : Int) (w1 : Bool) (w9 : Int) (w10 : LB) (w18 : Int) (w19 : LB) (k0 : Int → Option R) (k1 : Int × LB → Option R) : Option R :=
  bif w1 then
    bnd (V64x0 N w9 1 1000000) fun y0 =>
    bif (!y0) then
      k0 9
    else
      k1 (0, w19)
  else
    bnd (G58x0x84077 N w0 (w0 == 5) w9 w10 w18 w19) fun y1 =>
    bif (inlB y1) then
      k0 (inlV y1)
    else
      bif (inrQ y1).isSome then
        k1 ((inrQ y1).getD default)
      else
        none
noncomputable def G58x0x72065 (w0 : Int) (w1 : Bool) (w9 : Int) (w10 : LB) (w18 : Int) (w19 : LB) : Option (Sum (Int) (Int × LB)) := F58x0x72065 N w0 w1 w9 w10 w18 w19 (fun p => some (.inl p)) (fun p => some (.inr p))
theorem bind58x0x72065 (w0 : Int) (w1 : Bool) (w9 : Int) (w10 : LB) (w18 : Int) (w19 : LB) (k0 : Int → Option R) (k1 : Int × LB → Option R) : F58x0x72065 N w0 w1 w9 w10 w18 w19 k0 k1 = (G58x0x72065 N w0 w1 w9 w10 w18 w19).bind (sumE k0 k1) := by
  unfold G58x0x72065 F58x0x72065
  repeat' (first | with_reducible apply cond_b | (with_reducible apply bnd_b; intro _) | rfl)
noncomputable def J58x0x72065 (L : List Lf) (k0 : Int → Option R) (k1 : Int × LB → Option R) : Option R := F58x0x72065 N (li L 0) (lb L 1) (li L 9) (ls L 10) (li L 18) (ls L 19) k0 k1
noncomputable def sh58x0x72065 : Sh := { tmps := [(1, .c (.p 1 0)), (3, .c (.p 3 0)), (18, .c (.i .i64)), (70, .c (.b))], mem := [(1, .box (rI 8 ([.s]))), (3, .box (rI 8 ([.s])))] }
noncomputable def K58x0x72065w0 (L : List Lf) (p : Int) : Ex × St := (.ret, mg (ofSh sh58x0x72065 L) [2] [(2, .c (.i .i64 p))] [3] [])
noncomputable def K58x0x72065w1 (L : List Lf) (p : Int × LB) : Ex × St := (.normal, ⟨[(3, .c (.p 3 0))], [(3, .box (rL L 11 7 ([.i .i64 p.1, .s p.2])))]⟩)
noncomputable def A58x0x72065 (L : List Lf) : List (Bool × (Ex × St)) := bnd (J58x0x72065 N L (fun p => some (.inl p)) (fun p => some (.inr p))) fun q => [((inlB q), K58x0x72065w0 L (inlV q)), ((inrQ q).isSome, K58x0x72065w1 L ((inrQ q).getD default))]
theorem raw58x0x72065 (L : List Lf) : pc Try.prog (T82x0 N) (h58x0s3 N).h 0 100 58 72065 sh58x0x72065 L [3, 2] [3] = J58x0x72065 N L (fun p => some (K58x0x72065w0 L p)) (fun p => some (K58x0x72065w1 L p)) := by kernel_rfl
noncomputable def h58x0s4 : Sg Try.prog 0 58 :=
  (h58x0s3 N).cut (A58x0x72065 N) progOk (T82x0_ok N) fun L x hx => (raw58x0x72065 N L).trans ((bind58x0x72065 N ..).trans ((altS alt1) x hx))
noncomputable def F58x0x60053 (w0 : Int) (w1 : Bool) (w9 : Int) (w10 : LB) (w18 : Int) (w19 : LB) (k0 : Int → Option R) (k1 : Int × LB → Option R) : Option R :=
  bif w1 then
    bnd (V64x0 N w9 1 4) fun y0 =>
    bif (!y0) then
      k0 9
    else
      k1 (0, w19)
  else
    bnd (G58x0x72065 N w0 (w0 == 8) w9 w10 w18 w19) fun y1 =>
    bif (inlB y1) then
      k0 (inlV y1)
    else
      bif (inrQ y1).isSome then
        k1 ((inrQ y1).getD default)
      else
        none
noncomputable def G58x0x60053 (w0 : Int) (w1 : Bool) (w9 : Int) (w10 : LB) (w18 : Int) (w19 : LB) : Option (Sum (Int) (Int × LB)) := F58x0x60053 N w0 w1 w9 w10 w18 w19 (fun p => some (.inl p)) (fun p => some (.inr p))
theorem bind58x0x60053 (w0 : Int) (w1 : Bool) (w9 : Int) (w10 : LB) (w18 : Int) (w19 : LB) (k0 : Int → Option R) (k1 : Int × LB → Option R) : F58x0x60053 N w0 w1 w9 w10 w18 w19 k0 k1 = (G58x0x60053 N w0 w1 w9 w10 w18 w19).bind (sumE k0 k1) := by
  unfold G58x0x60053 F58x0x60053
  repeat' (first | with_reducible apply cond_b | (with_reducible apply bnd_b; intro _) | rfl)
noncomputable def J58x0x60053 (L : List Lf) (k0 : Int → Option R) (k1 : Int × LB → Option R) : Option R := F58x0x60053 N (li L 0) (lb L 1) (li L 9) (ls L 10) (li L 18) (ls L 19) k0 k1
noncomputable def sh58x0x60053 : Sh := { tmps := [(1, .c (.p 1 0)), (3, .c (.p 3 0)), (18, .c (.i .i64)), (63, .c (.b))], mem := [(1, .box (rI 8 ([.s]))), (3, .box (rI 8 ([.s])))] }
noncomputable def K58x0x60053w0 (L : List Lf) (p : Int) : Ex × St := (.ret, mg (ofSh sh58x0x60053 L) [2] [(2, .c (.i .i64 p))] [3] [])
noncomputable def K58x0x60053w1 (L : List Lf) (p : Int × LB) : Ex × St := (.normal, ⟨[(3, .c (.p 3 0))], [(3, .box (rL L 11 7 ([.i .i64 p.1, .s p.2])))]⟩)
noncomputable def A58x0x60053 (L : List Lf) : List (Bool × (Ex × St)) := bnd (J58x0x60053 N L (fun p => some (.inl p)) (fun p => some (.inr p))) fun q => [((inlB q), K58x0x60053w0 L (inlV q)), ((inrQ q).isSome, K58x0x60053w1 L ((inrQ q).getD default))]
theorem raw58x0x60053 (L : List Lf) : pc Try.prog (T82x0 N) (h58x0s4 N).h 0 100 58 60053 sh58x0x60053 L [3, 2] [3] = J58x0x60053 N L (fun p => some (K58x0x60053w0 L p)) (fun p => some (K58x0x60053w1 L p)) := by kernel_rfl
noncomputable def h58x0s5 : Sg Try.prog 0 58 :=
  (h58x0s4 N).cut (A58x0x60053 N) progOk (T82x0_ok N) fun L x hx => (raw58x0x60053 N L).trans ((bind58x0x60053 N ..).trans ((altS alt1) x hx))
noncomputable def F58x0x48041 (w0 : Int) (w1 : Bool) (w7 w8 w9 : Int) (w10 : LB) (w16 w17 w18 : Int) (w19 : LB) (k0 : Int → Option R) (k1 : Ty7 → Option R) : Option R :=
  bif w1 then
    bnd (bif (bif (decide (w7 < 0)) then true else (decide (w7 > w8))) then true else (decide (w8 ≥ 86400))) fun y0 =>
    bif y0 then
      k0 9
    else
      k1 (0, 0, w18, w19)
  else
    bnd (G58x0x60053 N w0 (w0 == 3) w9 w10 w18 w19) fun y1 =>
    bif (inlB y1) then
      k0 (inlV y1)
    else
      bif (inrQ y1).isSome then
        k1 (w16, w17, ((inrQ y1).getD default).1, ((inrQ y1).getD default).2)
      else
        none
noncomputable def G58x0x48041 (w0 : Int) (w1 : Bool) (w7 w8 w9 : Int) (w10 : LB) (w16 w17 w18 : Int) (w19 : LB) : Option (Sum (Int) (Ty7)) := F58x0x48041 N w0 w1 w7 w8 w9 w10 w16 w17 w18 w19 (fun p => some (.inl p)) (fun p => some (.inr p))
theorem bind58x0x48041 (w0 : Int) (w1 : Bool) (w7 w8 w9 : Int) (w10 : LB) (w16 w17 w18 : Int) (w19 : LB) (k0 : Int → Option R) (k1 : Ty7 → Option R) : F58x0x48041 N w0 w1 w7 w8 w9 w10 w16 w17 w18 w19 k0 k1 = (G58x0x48041 N w0 w1 w7 w8 w9 w10 w16 w17 w18 w19).bind (sumE k0 k1) := by
  unfold G58x0x48041 F58x0x48041
  repeat' (first | with_reducible apply cond_b | (with_reducible apply bnd_b; intro _) | rfl)
noncomputable def J58x0x48041 (L : List Lf) (k0 : Int → Option R) (k1 : Ty7 → Option R) : Option R := F58x0x48041 N (li L 0) (lb L 1) (li L 7) (li L 8) (li L 9) (ls L 10) (li L 16) (li L 17) (li L 18) (ls L 19) k0 k1
noncomputable def sh58x0x48041 : Sh := { tmps := [(1, .c (.p 1 0)), (3, .c (.p 3 0)), (18, .c (.i .i64)), (40, .c (.b))], mem := [(1, .box (rI 8 ([.s]))), (3, .box (rI 8 ([.s])))] }
noncomputable def K58x0x48041w0 (L : List Lf) (p : Int) : Ex × St := (.ret, mg (ofSh sh58x0x48041 L) [2] [(2, .c (.i .i64 p))] [3] [])
noncomputable def K58x0x48041w1 (L : List Lf) (p : Ty7) : Ex × St := (.normal, ⟨[(3, .c (.p 3 0))], [(3, .box (rL L 11 5 ([.i .i64 p.1, .i .i64 p.2.1, .i .i64 p.2.2.1, .s p.2.2.2])))]⟩)
noncomputable def A58x0x48041 (L : List Lf) : List (Bool × (Ex × St)) := bnd (J58x0x48041 N L (fun p => some (.inl p)) (fun p => some (.inr p))) fun q => [((inlB q), K58x0x48041w0 L (inlV q)), ((inrQ q).isSome, K58x0x48041w1 L ((inrQ q).getD default))]
theorem raw58x0x48041 (L : List Lf) : pc Try.prog (T82x0 N) (h58x0s5 N).h 0 100 58 48041 sh58x0x48041 L [3, 2] [3] = J58x0x48041 N L (fun p => some (K58x0x48041w0 L p)) (fun p => some (K58x0x48041w1 L p)) := by kernel_rfl
noncomputable def h58x0s6 : Sg Try.prog 0 58 :=
  (h58x0s5 N).cut (A58x0x48041 N) progOk (T82x0_ok N) fun L x hx => (raw58x0x48041 N L).trans ((bind58x0x48041 N ..).trans ((altS alt1) x hx))
noncomputable def F58x0x36029 (w0 : Int) (w1 : Bool) (w4 w5 w6 w7 w8 w9 : Int) (w10 : LB) (w13 w14 w15 w16 w17 w18 : Int) (w19 : LB) (k0 : Int → Option R) (k1 : Ty3 → Option R) : Option R :=
  bif w1 then
    bnd (V58x0x28 N w4 w5 w6) fun y0 =>
    bif y0 then
      k0 9
    else
      k1 (0, 0, 0, w16, w17, w18, w19)
  else
    bnd (G58x0x48041 N w0 (w0 == 2) w7 w8 w9 w10 w16 w17 w18 w19) fun y1 =>
    bif (inlB y1) then
      k0 (inlV y1)
    else
      bif (inrQ y1).isSome then
        k1 (w13, w14, w15, ((inrQ y1).getD default).1, ((inrQ y1).getD default).2.1, ((inrQ y1).getD default).2.2.1, ((inrQ y1).getD default).2.2.2)
      else
        none
noncomputable def G58x0x36029 (w0 : Int) (w1 : Bool) (w4 w5 w6 w7 w8 w9 : Int) (w10 : LB) (w13 w14 w15 w16 w17 w18 : Int) (w19 : LB) : Option (Sum (Int) (Ty3)) := F58x0x36029 N w0 w1 w4 w5 w6 w7 w8 w9 w10 w13 w14 w15 w16 w17 w18 w19 (fun p => some (.inl p)) (fun p => some (.inr p))
theorem bind58x0x36029 (w0 : Int) (w1 : Bool) (w4 w5 w6 w7 w8 w9 : Int) (w10 : LB) (w13 w14 w15 w16 w17 w18 : Int) (w19 : LB) (k0 : Int → Option R) (k1 : Ty3 → Option R) : F58x0x36029 N w0 w1 w4 w5 w6 w7 w8 w9 w10 w13 w14 w15 w16 w17 w18 w19 k0 k1 = (G58x0x36029 N w0 w1 w4 w5 w6 w7 w8 w9 w10 w13 w14 w15 w16 w17 w18 w19).bind (sumE k0 k1) := by
  unfold G58x0x36029 F58x0x36029
  repeat' (first | with_reducible apply cond_b | (with_reducible apply bnd_b; intro _) | rfl)
noncomputable def J58x0x36029 (L : List Lf) (k0 : Int → Option R) (k1 : Ty3 → Option R) : Option R := F58x0x36029 N (li L 0) (lb L 1) (li L 4) (li L 5) (li L 6) (li L 7) (li L 8) (li L 9) (ls L 10) (li L 13) (li L 14) (li L 15) (li L 16) (li L 17) (li L 18) (ls L 19) k0 k1
noncomputable def sh58x0x36029 : Sh := { tmps := [(1, .c (.p 1 0)), (3, .c (.p 3 0)), (18, .c (.i .i64)), (19, .c (.b))], mem := [(1, .box (rI 8 ([.s]))), (3, .box (rI 8 ([.s])))] }
noncomputable def K58x0x36029w0 (L : List Lf) (p : Int) : Ex × St := (.ret, mg (ofSh sh58x0x36029 L) [2] [(2, .c (.i .i64 p))] [3] [])
noncomputable def K58x0x36029w1 (L : List Lf) (p : Ty3) : Ex × St := let p1 := p.2; let p2 := p1.2; let p3 := p2.2; let p4 := p3.2; let p5 := p4.2; let p6 := p5.2; (.normal, ⟨[(3, .c (.p 3 0))], [(3, .box [.i .i64 (li L 11), .i .i64 (li L 12), .i .i64 p.1, .i .i64 p1.1, .i .i64 p2.1, .i .i64 p3.1, .i .i64 p4.1, .i .i64 p5.1, .s p6])]⟩)
noncomputable def A58x0x36029 (L : List Lf) : List (Bool × (Ex × St)) := bnd (J58x0x36029 N L (fun p => some (.inl p)) (fun p => some (.inr p))) fun q => [((inlB q), K58x0x36029w0 L (inlV q)), ((inrQ q).isSome, K58x0x36029w1 L ((inrQ q).getD default))]
theorem raw58x0x36029 (L : List Lf) : pc Try.prog (T82x0 N) (h58x0s6 N).h 0 100 58 36029 sh58x0x36029 L [3, 2] [3] = J58x0x36029 N L (fun p => some (K58x0x36029w0 L p)) (fun p => some (K58x0x36029w1 L p)) := by kernel_rfl
noncomputable def h58x0s7 : Sg Try.prog 0 58 :=
  (h58x0s6 N).cut (A58x0x36029 N) progOk (T82x0_ok N) fun L x hx => (raw58x0x36029 N L).trans ((bind58x0x36029 N ..).trans ((altS alt1) x hx))
noncomputable def F58x0 (v0 v1 v2 v3 v4 v5 v6 v7 : Int) (v8 : LB) (k0 : Int → Option R) : Option R :=
  bnd (V64x0 N v1 1 8) fun y0 =>
  bif (!y0) then
    k0 7
  else
    bnd (V64x0 N v0 1 3) fun y1 =>
    bif (!y1) then
      k0 9
    else
      bnd (G58x0x36029 N v1 (v1 == 1) v2 v3 v4 v5 v6 v7 v8 v2 v3 v4 v5 v6 v7 v8) fun y2 =>
      bif (inlB y2) then
        k0 (inlV y2)
      else
        bif (inrQ y2).isSome then
          bnd (!((((inrQ y2).getD default).1 == 0) && ((((inrQ y2).getD default).2.1 == 0) && ((((inrQ y2).getD default).2.2.1 == 0) && (((((inrQ y2).getD default).2.2.2.1 == 0) && ((((inrQ y2).getD default).2.2.2.2.1 == 0) && true)) && ((((inrQ y2).getD default).2.2.2.2.2.1 == 0) && ((((inrQ y2).getD default).2.2.2.2.2.2 == ([] : List UInt8)) && true))))))) fun y3 =>
          bif y3 then
            k0 2
          else
            k0 0
        else
          none
noncomputable def G58x0 (v0 v1 v2 v3 v4 v5 v6 v7 : Int) (v8 : LB) : Option (Int) := F58x0 N v0 v1 v2 v3 v4 v5 v6 v7 v8 (fun p => some p)
theorem bind58x0 (v0 v1 v2 v3 v4 v5 v6 v7 : Int) (v8 : LB) (k0 : Int → Option R) : F58x0 N v0 v1 v2 v3 v4 v5 v6 v7 v8 k0 = (G58x0 N v0 v1 v2 v3 v4 v5 v6 v7 v8).bind k0 := by
  unfold G58x0 F58x0
  repeat' (first | with_reducible apply cond_b | (with_reducible apply bnd_b; intro _) | rfl)
noncomputable def J58x0 (L : List Lf) (k0 : Int → Option R) : Option R := F58x0 N (li L 0) (li L 1) (li L 2) (li L 3) (li L 4) (li L 5) (li L 6) (li L 7) (ls L 8) k0
noncomputable def sh58x0 : Sh := { tmps := [(0, .g (rI 8 ([.s])))], mem := [] }
noncomputable def A58x0 (L : List Lf) : List (Bool × Res) := bnd (J58x0 N L (fun p => some p)) fun q => [(q.isSome, ([.c (.i .i64 (q.getD default))], []))]
theorem raw58x0 (L : List Lf) : bd Try.prog (T82x0 N) (h58x0s7 N).h 58 sh58x0 L = J58x0 N L (fun p => some ([.c (.i .i64 p)], [])) := by kernel_rfl
theorem ok58x0 : FnOk Try.prog 58 sh58x0 (A58x0 N) :=
  (h58x0s7 N).fn progOk (T82x0_ok N) fun L x hx => ((raw58x0 N L).trans ((bind58x0 N ..).trans (alt1 x hx)))
noncomputable def T58x0 : Oracle := ext 58 (spSh sh58x0 (A58x0 N)) (T82x0 N)
theorem T58x0_ok : OracleOk Try.prog (T58x0 N) := FnOk.to (ok58x0 N) (T82x0_ok N)
noncomputable def rg32x0 : List (Nat × List Nat) := [(0, [0]), (1, [1]), (2, []), (3, [1]), (4, [13, 12, 11]), (5, [11, 13, 12]), (6, [4, 13, 12, 11]), (7, [5, 13, 12, 11]), (8, [5]), (9, [13, 12, 11]), (10, [])]
noncomputable def hd32x0 : Hints := [(12, [13, 12, 11], [], [])]
noncomputable def h32x0s0 (N : Nat) : Sg Try.prog 0 32 := .start hd32x0 rg32x0
noncomputable def S32x0x12 (w1 : LD) (w2 : Int) (w3 : Int) (kr : Int → Option R) (k0 : Int → Option R) (k1 : Unit → Option R) : Option R :=
  bif (decide (w3 < w2)) then
    bif (inB w3 w1.length) then
      bnd (G58x0 N ((w1.getD w3.toNat (.i 0)).cell 0).toI ((w1.getD w3.toNat (.i 0)).cell 1).toI ((w1.getD w3.toNat (.i 0)).cell 2).toI ((w1.getD w3.toNat (.i 0)).cell 3).toI ((w1.getD w3.toNat (.i 0)).cell 4).toI ((w1.getD w3.toNat (.i 0)).cell 5).toI ((w1.getD w3.toNat (.i 0)).cell 6).toI ((w1.getD w3.toNat (.i 0)).cell 7).toI ((w1.getD w3.toNat (.i 0)).cell 8).toS) fun y0 =>
      bif y0.isSome then
        bif ((y0.getD default) != 0) then
          k0 (y0.getD default)
        else
          kr (IntKind.wrap .i64 (w3 + 1))
      else
        none
    else
      none
  else
    k1 ()
noncomputable def L32x0x12 (N : Nat) {R : Type} (w1 : LD) (w2 : Int) : Nat → Int → (Int → Option R) → (Unit → Option R) → Option R
  | 0, _, _, _ => none
  | m + 1, w3, k0, k1 => S32x0x12 N w1 w2 w3 (fun w3 => L32x0x12 N w1 w2 m w3 k0 k1) k0 k1
noncomputable def G32x0x12 (w1 : LD) (w2 : Int) (w3 : Int) : Option (Sum (Int) (Unit)) := L32x0x12 N (R := (Sum (Int) (Unit))) w1 w2 N w3 (fun p => some (.inl p)) (fun p => some (.inr p))
noncomputable def J32x0x12 (L x : List Lf) (kr : List Lf → Option R) (k0 : Int → Option R) (k1 : Unit → Option R) : Option R := S32x0x12 N (ll L 1) (li L 2) (li x 0) (fun w3 => kr [.i w3]) k0 k1
theorem sb32x0x12 (L x : List Lf) (kr : List Lf → Option R) (k0 : Int → Option R) (k1 : Unit → Option R) : J32x0x12 N L x kr k0 k1 = (J32x0x12 N L x (fun y => some (.inl y)) (fun p => some (.inr (.inl p))) (fun p => some (.inr (.inr p)))).bind (sumE kr (sumE k0 k1)) := by
  unfold J32x0x12 S32x0x12
  repeat' (first | with_reducible apply cond_b | (with_reducible apply bnd_b; intro _) | rfl)
noncomputable def Q32x0x12 (L : List Lf) (m : Nat) (x : List Lf) : Option (Sum (Int) (Unit)) := L32x0x12 N (R := (Sum (Int) (Unit))) (ll L 1) (li L 2) m (li x 0) (fun p => some (.inl p)) (fun p => some (.inr p))
noncomputable def sh32x0x12 : Sh := { tmps := [(11, .c (.sl 70)), (12, .c (.i .i64)), (13, .c (.i .i64))], mem := [] }
noncomputable def A32x0x12 (L : List Lf) : List (Bool × (Ex × St)) := bnd (Q32x0x12 N L N (pk sh32x0x12 [3] L)) fun q => [((inlB q), (.ret, ⟨[(2, .c (.i .i64 (inlV q)))], []⟩)), ((inrQ q).isSome, ((.exit 0), ⟨[], []⟩))]
theorem step32x0x12 (m : Nat) (kn : St → Option (Ex × St)) (L x : List Lf) : lpB Try.prog (T58x0 N) (h32x0s0 N).h 0 32 12 sh32x0x12 [3] [2] [] (m + 100) kn L x = J32x0x12 N L x (fun y => kn (ofSh sh32x0x12 (mx sh32x0x12 [3] L y))) (fun p => some (.ret, ⟨[(2, .c (.i .i64 p))], []⟩)) (fun _ => some ((.exit 0), ⟨[], []⟩)) := by kernel_rfl
theorem ql32x0x12 (L : List Lf) (m : Nat) (x : List Lf) : Q32x0x12 N L (m + 1) x = J32x0x12 N L x (Q32x0x12 N L m) (fun p => some (.inl p)) (fun p => some (.inr p)) := by kernel_rfl
noncomputable def h32x0s1 : Sg Try.prog 0 32 :=
  (h32x0s0 N).lp (A32x0x12 N) N progOk (T58x0_ok N) (fun m kn L x => (step32x0x12 N m kn L x).trans (sb32x0x12 N L x _ _ _)) (fun L m x => (ql32x0x12 N L m x).trans (sb32x0x12 N L x (Q32x0x12 N L m) (fun p => some (.inl p)) (fun p => some (.inr p)))) fun L x hx => (altS alt1) x hx
noncomputable def F32x0 (v1 : LD) (k0 : Int → Option R) : Option R :=
  bif (decide ((v1.length : Int) > 50)) then
    k0 3
  else
    bnd (G32x0x12 N v1 (v1.length : Int) 0) fun y0 =>
    bif (inlB y0) then
      k0 (inlV y0)
    else
      bif (inrQ y0).isSome then
        k0 0
      else
        none
noncomputable def G32x0 (v1 : LD) : Option (Int) := F32x0 N v1 (fun p => some p)
theorem bind32x0 (v1 : LD) (k0 : Int → Option R) : F32x0 N v1 k0 = (G32x0 N v1).bind k0 := by
  unfold G32x0 F32x0
  repeat' (first | with_reducible apply cond_b | (with_reducible apply bnd_b; intro _) | rfl)
noncomputable def sh32x0 : Sh := { tmps := [(0, .g ([.sl 70]))], mem := [] }
noncomputable def A32x0 (L : List Lf) : List (Bool × Res) := bnd (F32x0 N (ll L 1) (fun p => some p)) fun q => [(q.isSome, ([.c (.i .i64 (q.getD default))], []))]
theorem raw32x0 (L : List Lf) : bd Try.prog (T58x0 N) (h32x0s1 N).h 32 sh32x0 L = F32x0 N (ll L 1) (fun p => some ([.c (.i .i64 p)], [])) := by kernel_rfl
theorem ok32x0 : FnOk Try.prog 32 sh32x0 (A32x0 N) :=
  (h32x0s1 N).fn progOk (T58x0_ok N) fun L x hx => ((raw32x0 N L).trans ((bind32x0 N ..).trans (alt1 x hx)))
noncomputable def T32x0 : Oracle := ext 32 (spSh sh32x0 (A32x0 N)) (T58x0 N)
theorem T32x0_ok : OracleOk Try.prog (T32x0 N) := FnOk.to (ok32x0 N) (T58x0_ok N)
noncomputable def rg85x0 : List (Nat × List Nat) := [(0, [0, 1, 2]), (1, [0, 1, 2])]
noncomputable def hd85x0 : Hints := []
noncomputable def h85x0s0 (N : Nat) : Sg Try.prog 0 85 := .start hd85x0 rg85x0
noncomputable def F85x0 (N : Nat) (v0 v1 v2 : Int) (k0 : Bool → R) : R :=
  k0 (bif (decide (v0 ≥ v1)) then (decide (v0 ≤ v2)) else false)
noncomputable def V85x0 (v0 v1 v2 : Int) : Bool := F85x0 N v0 v1 v2 (fun p => p)
theorem tot85x0 (v0 v1 v2 : Int) (k0 : Bool → R) : F85x0 N v0 v1 v2 k0 = k0 (V85x0 N v0 v1 v2) := by
  unfold V85x0 F85x0
  repeat' (first | rfl | apply cond_k | (apply bnd_k; intro _))
noncomputable def sh85x0 : Sh := { tmps := [(0, .c (.i .i64)), (1, .c (.i .i64)), (2, .c (.i .i64))], mem := [] }
noncomputable def A85x0 (L : List Lf) : List (Bool × Res) := bnd (F85x0 N (li L 0) (li L 1) (li L 2) (fun p => p)) fun q => [(true, ([.c (.b q)], []))]
theorem raw85x0 (L : List Lf) : bd Try.prog (T32x0 N) (h85x0s0 N).h 85 sh85x0 L = F85x0 N (li L 0) (li L 1) (li L 2) (fun p => some ([.c (.b p)], [])) := by kernel_rfl
theorem ok85x0 : FnOk Try.prog 85 sh85x0 (A85x0 N) :=
  (h85x0s0 N).fn progOk (T32x0_ok N) fun L x hx => ((raw85x0 N L).trans ((tot85x0 N ..).trans (alt0 _ _ hx)))
noncomputable def T85x0 : Oracle := ext 85 (spSh sh85x0 (A85x0 N)) (T32x0 N)
theorem T85x0_ok : OracleOk Try.prog (T85x0 N) := FnOk.to (ok85x0 N) (T32x0_ok N)
noncomputable def rg86x0 : List (Nat × List Nat) := [(0, [0]), (1, [1]), (2, [3, 1])]
noncomputable def hd86x0 : Hints := [(4, [1], [1], []), (7, [3, 1], [1], [])]
noncomputable def h86x0s0 (N : Nat) : Sg Try.prog 0 86 := .start hd86x0 rg86x0
noncomputable def F86x0x4 (w1 w2 w3 : Int) (k0 : Bool → R) : R :=
  bnd (V85x0 N w1 (-100000000) 100000000) fun y0 =>
  bif y0 then
    bnd (V85x0 N w2 (-100000000) 100000000) fun y1 =>
    bif y1 then
      bnd (V85x0 N w3 (-100000) 100000) fun y2 =>
      k0 y2
    else
      k0 false
  else
    k0 false
noncomputable def V86x0x4 (w1 w2 w3 : Int) : Bool := F86x0x4 N w1 w2 w3 (fun p => p)
theorem tot86x0x4 (w1 w2 w3 : Int) (k0 : Bool → R) : F86x0x4 N w1 w2 w3 k0 = k0 (V86x0x4 N w1 w2 w3) := by
  unfold V86x0x4 F86x0x4
  repeat' (first | rfl | apply cond_k | (apply bnd_k; intro _))
noncomputable def sh86x0x4 : Sh := { tmps := [(1, .c (.p 1 0))], mem := [(1, .box (rI 7 ([])))] }
noncomputable def K86x0x4w0 (L : List Lf) (p : Bool) : Ex × St := (.normal, mg (ofSh sh86x0x4 L) [1, 3] [(3, .c (.b p))] [1] [])
noncomputable def A86x0x4 (L : List Lf) : List (Bool × (Ex × St)) := bnd (F86x0x4 N (li L 1) (li L 2) (li L 3) (fun p => p)) fun q => [(true, K86x0x4w0 L q)]
theorem raw86x0x4 (L : List Lf) : pc Try.prog (T85x0 N) (h86x0s0 N).h 0 100 86 4 sh86x0x4 L [3, 1] [1] = F86x0x4 N (li L 1) (li L 2) (li L 3) (fun p => some (K86x0x4w0 L p)) := by kernel_rfl
noncomputable def h86x0s1 : Sg Try.prog 0 86 :=
  (h86x0s0 N).cut (A86x0x4 N) progOk (T85x0_ok N) fun L x hx => (raw86x0x4 N L).trans ((tot86x0x4 N ..).trans (alt0 _ _ hx))
noncomputable def F86x0x7 (w0 : Bool) (w5 w6 w7 : Int) (k0 : Bool → R) : R :=
  bif w0 then
    bnd (V85x0 N w5 (-1) 300) fun y0 =>
    bif y0 then
      bnd (V85x0 N w6 (-1) 3000) fun y1 =>
      bif y1 then
        bnd (V85x0 N w7 (-1) 300) fun y2 =>
        k0 y2
      else
        k0 false
    else
      k0 false
  else
    k0 false
noncomputable def V86x0x7 (w0 : Bool) (w5 w6 w7 : Int) : Bool := F86x0x7 N w0 w5 w6 w7 (fun p => p)
theorem tot86x0x7 (w0 : Bool) (w5 w6 w7 : Int) (k0 : Bool → R) : F86x0x7 N w0 w5 w6 w7 k0 = k0 (V86x0x7 N w0 w5 w6 w7) := by
  unfold V86x0x7 F86x0x7
  repeat' (first | rfl | apply cond_k | (apply bnd_k; intro _))
noncomputable def J86x0x7 (L : List Lf) (k0 : Bool → R) : R := F86x0x7 N (lb L 0) (li L 5) (li L 6) (li L 7) k0
noncomputable def sh86x0x7 : Sh := { tmps := [(1, .c (.p 1 0)), (3, .c (.b))], mem := [(1, .box (rI 7 ([])))] }
noncomputable def A86x0x7 (L : List Lf) : List (Bool × (Ex × St)) := bnd (J86x0x7 N L (fun p => p)) fun q => [(true, (.normal, ⟨[(2, .c (.b q))], []⟩))]
theorem raw86x0x7 (L : List Lf) : pc Try.prog (T85x0 N) (h86x0s1 N).h 0 100 86 7 sh86x0x7 L [2] [] = J86x0x7 N L (fun p => some (.normal, ⟨[(2, .c (.b p))], []⟩)) := by kernel_rfl
noncomputable def h86x0s2 : Sg Try.prog 0 86 :=
  (h86x0s1 N).cut (A86x0x7 N) progOk (T85x0_ok N) fun L x hx => (raw86x0x7 N L).trans ((tot86x0x7 N ..).trans (alt0 _ _ hx))
noncomputable def F86x0 (v1 v2 v3 v4 v5 v6 : Int) (k0 : Bool → R) : R :=
  bnd (V86x0x4 N v1 v2 v3) fun y0 =>
  bnd (V86x0x7 N y0 v4 v5 v6) fun y1 =>
  k0 y1
noncomputable def V86x0 (v1 v2 v3 v4 v5 v6 : Int) : Bool := F86x0 N v1 v2 v3 v4 v5 v6 (fun p => p)
theorem tot86x0 (v1 v2 v3 v4 v5 v6 : Int) (k0 : Bool → R) : F86x0 N v1 v2 v3 v4 v5 v6 k0 = k0 (V86x0 N v1 v2 v3 v4 v5 v6) := by
  unfold V86x0 F86x0
  repeat' (first | rfl | apply cond_k | (apply bnd_k; intro _))
noncomputable def J86x0 (L : List Lf) (k0 : Bool → R) : R := F86x0 N (li L 1) (li L 2) (li L 3) (li L 4) (li L 5) (li L 6) k0
noncomputable def sh86x0 : Sh := { tmps := [(0, .g (rI 7 ([])))], mem := [] }
noncomputable def A86x0 (L : List Lf) : List (Bool × Res) := bnd (J86x0 N L (fun p => p)) fun q => [(true, ([.c (.b q)], []))]
theorem raw86x0 (L : List Lf) : bd Try.prog (T85x0 N) (h86x0s2 N).h 86 sh86x0 L = J86x0 N L (fun p => some ([.c (.b p)], [])) := by kernel_rfl
theorem ok86x0 : FnOk Try.prog 86 sh86x0 (A86x0 N) :=
  (h86x0s2 N).fn progOk (T85x0_ok N) fun L x hx => ((raw86x0 N L).trans ((tot86x0 N ..).trans (alt0 _ _ hx)))
noncomputable def T86x0 : Oracle := ext 86 (spSh sh86x0 (A86x0 N)) (T85x0 N)
theorem T86x0_ok : OracleOk Try.prog (T86x0 N) := FnOk.to (ok86x0 N) (T85x0_ok N)
noncomputable def rg87x0 : List (Nat × List Nat) := [(0, [0]), (1, [1]), (2, [3, 1]), (3, [1, 3]), (4, [])]
noncomputable def hd87x0 : Hints := []
noncomputable def h87x0s0 (N : Nat) : Sg Try.prog 0 87 := .start hd87x0 rg87x0
noncomputable def F87x0 (N : Nat) (v4 : LD) (k0 : Int → Option R) : Option R :=
  bif (decide ((v4.length : Int) > 0)) then
    bif (inB (IntKind.wrap .i64 ((v4.length : Int) - 1)) v4.length) then
      bnd ((v4.getD (IntKind.wrap .i64 ((v4.length : Int) - 1)).toNat (.i 0)) : D) fun y0 =>
      k0 (y0.cell 0).toI
    else
      none
  else
    k0 0
noncomputable def G87x0 (v4 : LD) : Option (Int) := F87x0 N v4 (fun p => some p)
theorem bind87x0 (v4 : LD) (k0 : Int → Option R) : F87x0 N v4 k0 = (G87x0 N v4).bind k0 := by
  unfold G87x0 F87x0
  repeat' (first | with_reducible apply cond_b | (with_reducible apply bnd_b; intro _) | rfl)
noncomputable def sh87x0 : Sh := { tmps := [(0, .g (.s :: [.i .i64, .i .i64, .sl 48, .sl 111, .sl 9]))], mem := [] }
noncomputable def A87x0 (L : List Lf) : List (Bool × Res) := bnd (F87x0 N (ll L 4) (fun p => some p)) fun q => [(q.isSome, ([.c (.i .i64 (q.getD default))], []))]
theorem raw87x0 (L : List Lf) : bd Try.prog (T86x0 N) (h87x0s0 N).h 87 sh87x0 L = F87x0 N (ll L 4) (fun p => some ([.c (.i .i64 p)], [])) := by kernel_rfl
theorem ok87x0 : FnOk Try.prog 87 sh87x0 (A87x0 N) :=
  (h87x0s0 N).fn progOk (T86x0_ok N) fun L x hx => ((raw87x0 N L).trans ((bind87x0 N ..).trans (alt1 x hx)))
noncomputable def T87x0 : Oracle := ext 87 (spSh sh87x0 (A87x0 N)) (T86x0 N)
theorem T87x0_ok : OracleOk Try.prog (T87x0 N) := FnOk.to (ok87x0 N) (T86x0_ok N)
noncomputable def rg88x0 : List (Nat × List Nat) := [(0, [0]), (1, [0]), (2, [6, 5, 0]), (3, [6, 0, 5]), (4, [0, 3, 6, 5]), (5, []), (6, [6, 5, 0]), (7, [0])]
noncomputable def hd88x0 : Hints := [(6, [6, 5, 0], [], [])]
noncomputable def h88x0s0 (N : Nat) : Sg Try.prog 0 88 := .start hd88x0 rg88x0
noncomputable def S88x0x6 (w0 : LB) (w1 : Int) (w2 : Int) (kr : Int → Option R) (k0 : Unit → Option R) (k1 : Unit → Option R) : Option R :=
  bif (decide (w2 < w1)) then
    bif (inB w2 w0.length) then
      bnd (V85x0 N (IntKind.wrap .i64 ((w0.getD w2.toNat 0).toNat : Int)) 32 126) fun y0 =>
      bif (!y0) then
        k0 ()
      else
        kr (IntKind.wrap .i64 (w2 + 1))
    else
      none
  else
    k1 ()
noncomputable def L88x0x6 (N : Nat) {R : Type} (w0 : LB) (w1 : Int) : Nat → Int → (Unit → Option R) → (Unit → Option R) → Option R
  | 0, _, _, _ => none
  | m + 1, w2, k0, k1 => S88x0x6 N w0 w1 w2 (fun w2 => L88x0x6 N w0 w1 m w2 k0 k1) k0 k1
noncomputable def G88x0x6 (w0 : LB) (w1 : Int) (w2 : Int) : Option (Sum (Unit) (Unit)) := L88x0x6 N (R := (Sum (Unit) (Unit))) w0 w1 N w2 (fun p => some (.inl p)) (fun p => some (.inr p))
noncomputable def J88x0x6 (L x : List Lf) (kr : List Lf → Option R) (k0 : Unit → Option R) (k1 : Unit → Option R) : Option R := S88x0x6 N (ls L 0) (li L 1) (li x 0) (fun w2 => kr [.i w2]) k0 k1
theorem sb88x0x6 (L x : List Lf) (kr : List Lf → Option R) (k0 : Unit → Option R) (k1 : Unit → Option R) : J88x0x6 N L x kr k0 k1 = (J88x0x6 N L x (fun y => some (.inl y)) (fun p => some (.inr (.inl p))) (fun p => some (.inr (.inr p)))).bind (sumE kr (sumE k0 k1)) := by
  unfold J88x0x6 S88x0x6
  repeat' (first | with_reducible apply cond_b | (with_reducible apply bnd_b; intro _) | rfl)
noncomputable def Q88x0x6 (L : List Lf) (m : Nat) (x : List Lf) : Option (Sum (Unit) (Unit)) := L88x0x6 N (R := (Sum (Unit) (Unit))) (ls L 0) (li L 1) m (li x 0) (fun p => some (.inl p)) (fun p => some (.inr p))
noncomputable def sh88x0x6 : Sh := { tmps := [(0, .c (.s)), (5, .c (.i .i64)), (6, .c (.i .i64))], mem := [] }
noncomputable def A88x0x6 (L : List Lf) : List (Bool × (Ex × St)) := bnd (Q88x0x6 N L N (pk sh88x0x6 [2] L)) fun q => [((inlB q), (.ret, ⟨[(2, .c (.b false))], []⟩)), ((inrQ q).isSome, ((.exit 0), ⟨[(0, .c (.s (ls L 0)))], []⟩))]
theorem step88x0x6 (m : Nat) (kn : St → Option (Ex × St)) (L x : List Lf) : lpB Try.prog (T87x0 N) (h88x0s0 N).h 0 88 6 sh88x0x6 [2] [2, 0] [] (m + 100) kn L x = J88x0x6 N L x (fun y => kn (ofSh sh88x0x6 (mx sh88x0x6 [2] L y))) (fun _ => some (.ret, ⟨[(2, .c (.b false))], []⟩)) (fun _ => some ((.exit 0), ⟨[(0, .c (.s (ls L 0)))], []⟩)) := by kernel_rfl
theorem ql88x0x6 (L : List Lf) (m : Nat) (x : List Lf) : Q88x0x6 N L (m + 1) x = J88x0x6 N L x (Q88x0x6 N L m) (fun p => some (.inl p)) (fun p => some (.inr p)) := by kernel_rfl
noncomputable def h88x0s1 : Sg Try.prog 0 88 :=
  (h88x0s0 N).lp (A88x0x6 N) N progOk (T87x0_ok N) (fun m kn L x => (step88x0x6 N m kn L x).trans (sb88x0x6 N L x _ _ _)) (fun L m x => (ql88x0x6 N L m x).trans (sb88x0x6 N L x (Q88x0x6 N L m) (fun p => some (.inl p)) (fun p => some (.inr p)))) fun L x hx => (altS alt1) x hx
noncomputable def F88x0 (v0 : LB) (k0 : Bool → Option R) : Option R :=
  bnd (G88x0x6 N v0 (v0.length : Int) 0) fun y0 =>
  bif (inlB y0) then
    k0 false
  else
    bif (inrQ y0).isSome then
      k0 (decide ((v0.length : Int) ≤ 60))
    else
      none
noncomputable def G88x0 (v0 : LB) : Option (Bool) := F88x0 N v0 (fun p => some p)
theorem bind88x0 (v0 : LB) (k0 : Bool → Option R) : F88x0 N v0 k0 = (G88x0 N v0).bind k0 := by
  unfold G88x0 F88x0
  repeat' (first | with_reducible apply cond_b | (with_reducible apply bnd_b; intro _) | rfl)
noncomputable def sh88x0 : Sh := { tmps := [(0, .c (.s))], mem := [] }
noncomputable def A88x0 (L : List Lf) : List (Bool × Res) := bnd (F88x0 N (ls L 0) (fun p => some p)) fun q => [(q.isSome, ([.c (.b (q.getD default))], []))]
theorem raw88x0 (L : List Lf) : bd Try.prog (T87x0 N) (h88x0s1 N).h 88 sh88x0 L = F88x0 N (ls L 0) (fun p => some ([.c (.b p)], [])) := by kernel_rfl
theorem ok88x0 : FnOk Try.prog 88 sh88x0 (A88x0 N) :=
  (h88x0s1 N).fn progOk (T87x0_ok N) fun L x hx => ((raw88x0 N L).trans ((bind88x0 N ..).trans (alt1 x hx)))
noncomputable def T88x0 : Oracle := ext 88 (spSh sh88x0 (A88x0 N)) (T87x0 N)
theorem T88x0_ok : OracleOk Try.prog (T88x0 N) := FnOk.to (ok88x0 N) (T87x0_ok N)
noncomputable def rg65x0 : List (Nat × List Nat) := [(0, [0]), (1, [1]), (3, [1]), (5, [1]), (7, [1]), (8, []), (6, []), (4, []), (2, []), (9, [1]), (10, [45, 44, 43, 1]), (11, [45, 43, 1, 44]), (12, [3, 4, 1, 45, 44, 43]), (13, [3, 4, 1, 45, 44, 43]), (15, [4, 1, 45, 44, 43]), (16, []), (14, []), (17, [45, 44, 43, 1]), (18, [1]), (19, [1, 5]), (20, [95, 94, 93, 5, 1]), (21, [95, 93, 5, 1, 94]), (22, [7, 5, 6, 1, 95, 94, 93]), (24, [6, 7, 1, 95, 94, 93, 5]), (26, [7, 95, 94, 93, 5, 1]), (27, []), (25, []), (23, []), (28, [95, 94, 93, 5, 1]), (29, [1]), (30, [141, 140, 139, 1]), (31, [141, 139, 1, 140]), (32, [9, 8, 1, 141, 140, 139]), (34, [8, 9, 1, 141, 140, 139]), (35, []), (33, []), (36, [141, 140, 139, 1]), (37, [])]
noncomputable def hd65x0 : Hints := [(30, [45, 44, 43, 1], [1], []), (40, [3, 4, 1, 45, 44, 43], [4, 1], []), (39002, [4, 1, 45, 44, 43, 50, 3], [4, 1], []), (46, [4, 1, 45, 44, 43], [4, 1], []), (60, [95, 94, 93, 5, 1], [1], []), (73, [6, 7, 1, 95, 94, 93, 5], [7, 1], []), (90, [141, 140, 139, 1], [1], [])]
noncomputable def h65x0s0 (N : Nat) : Sg Try.prog 0 65 := .start hd65x0 rg65x0
noncomputable def F65x0x40 (N : Nat) (w0 : Int) (w9 : LD) (w14 : Int) (k0 : Bool → Option R) : Option R :=
  bif (decide (w0 > 0)) then
    bif (inB (IntKind.wrap .i64 (w0 - 1)) w9.length) then
      bnd ((w9.getD (IntKind.wrap .i64 (w0 - 1)).toNat (.i 0)).cell 0).toI fun y0 =>
      k0 (decide (w14 ≤ y0))
    else
      none
  else
    k0 false
noncomputable def G65x0x40 (w0 : Int) (w9 : LD) (w14 : Int) : Option (Bool) := F65x0x40 N w0 w9 w14 (fun p => some p)
theorem bind65x0x40 (w0 : Int) (w9 : LD) (w14 : Int) (k0 : Bool → Option R) : F65x0x40 N w0 w9 w14 k0 = (G65x0x40 N w0 w9 w14).bind k0 := by
  unfold G65x0x40 F65x0x40
  repeat' (first | with_reducible apply cond_b | (with_reducible apply bnd_b; intro _) | rfl)
noncomputable def sh65x0x40 : Sh := { tmps := [(1, .c (.p 1 0)), (3, .c (.i .i64)), (4, .c (.p 4 0)), (43, .c (.sl 48)), (44, .c (.i .i64)), (45, .c (.i .i64))], mem := [(1, .box (.s :: [.i .i64, .i .i64, .sl 48, .sl 111, .sl 9])), (4, .box (rI 7 ([])))] }
noncomputable def K65x0x40w0 (L : List Lf) (p : Bool) : Ex × St := (.normal, mg (ofSh sh65x0x40 L) [1, 4, 43, 44, 45, 50] [(50, .c (.b p))] [1, 4] [])
noncomputable def A65x0x40 (L : List Lf) : List (Bool × (Ex × St)) := bnd (F65x0x40 N (li L 0) (ll L 9) (li L 14) (fun p => some p)) fun q => [(q.isSome, K65x0x40w0 L (q.getD default))]
theorem raw65x0x40 (L : List Lf) : pc Try.prog (T88x0 N) (h65x0s0 N).h 0 100 65 40 sh65x0x40 L [4, 1, 45, 44, 43, 50] [4, 1] = F65x0x40 N (li L 0) (ll L 9) (li L 14) (fun p => some (K65x0x40w0 L p)) := by kernel_rfl
noncomputable def h65x0s1 : Sg Try.prog 0 65 :=
  (h65x0s0 N).cut (A65x0x40 N) progOk (T88x0_ok N) fun L x hx => (raw65x0x40 N L).trans ((bind65x0x40 N ..).trans (alt1 x hx))
noncomputable def F65x0x39002 (w0 : Int) (w5 : Bool) (w10 : LD) (w15 : Int) (k0 : Bool → Option R) : Option R :=
  bif w5 then
    k0 true
  else
    bnd (G65x0x40 N w0 w10 w15) fun y0 =>
    bif y0.isSome then
      k0 (y0.getD default)
    else
      none
noncomputable def G65x0x39002 (w0 : Int) (w5 : Bool) (w10 : LD) (w15 : Int) : Option (Bool) := F65x0x39002 N w0 w5 w10 w15 (fun p => some p)
theorem bind65x0x39002 (w0 : Int) (w5 : Bool) (w10 : LD) (w15 : Int) (k0 : Bool → Option R) : F65x0x39002 N w0 w5 w10 w15 k0 = (G65x0x39002 N w0 w5 w10 w15).bind k0 := by
  unfold G65x0x39002 F65x0x39002
  repeat' (first | with_reducible apply cond_b | (with_reducible apply bnd_b; intro _) | rfl)
noncomputable def J65x0x39002 (L : List Lf) (k0 : Bool → Option R) : Option R := F65x0x39002 N (li L 0) (lb L 5) (ll L 10) (li L 15) k0
noncomputable def sh65x0x39002 : Sh := { tmps := [(1, .c (.p 1 0)), (3, .c (.i .i64)), (4, .c (.p 4 0)), (43, .c (.sl 48)), (44, .c (.i .i64)), (45, .c (.i .i64)), (50, .c (.b))], mem := [(1, .box (.s :: [.i .i64, .i .i64, .sl 48, .sl 111, .sl 9])), (4, .box (rI 7 ([])))] }
noncomputable def K65x0x39002w0 (L : List Lf) (p : Bool) : Ex × St := (.normal, mg (ofSh sh65x0x39002 L) [1, 4, 43, 44, 45, 50] [(50, .c (.b p))] [1, 4] [])
noncomputable def A65x0x39002 (L : List Lf) : List (Bool × (Ex × St)) := bnd (J65x0x39002 N L (fun p => some p)) fun q => [(q.isSome, K65x0x39002w0 L (q.getD default))]
theorem raw65x0x39002 (L : List Lf) : pc Try.prog (T88x0 N) (h65x0s1 N).h 0 100 65 39002 sh65x0x39002 L [4, 1, 45, 44, 43, 50] [4, 1] = J65x0x39002 N L (fun p => some (K65x0x39002w0 L p)) := by kernel_rfl
noncomputable def h65x0s2 : Sg Try.prog 0 65 :=
  (h65x0s1 N).cut (A65x0x39002 N) progOk (T88x0_ok N) fun L x hx => (raw65x0x39002 N L).trans ((bind65x0x39002 N ..).trans (alt1 x hx))
noncomputable def F65x0x46 (w6 w13 w14 w15 w16 w17 w18 w19 : Int) (k0 : Bool → R) : R :=
  bnd (bif (decide (w13 > 1000000)) then true else (decide ((IntKind.wrap .i64 (w6 + w13)) > 86399999999))) fun y0 =>
  bif y0 then
    k0 true
  else
    bnd (V86x0 N w14 w15 w16 w17 w18 w19) fun y1 =>
    k0 (!y1)
noncomputable def V65x0x46 (w6 w13 w14 w15 w16 w17 w18 w19 : Int) : Bool := F65x0x46 N w6 w13 w14 w15 w16 w17 w18 w19 (fun p => p)
theorem tot65x0x46 (w6 w13 w14 w15 w16 w17 w18 w19 : Int) (k0 : Bool → R) : F65x0x46 N w6 w13 w14 w15 w16 w17 w18 w19 k0 = k0 (V65x0x46 N w6 w13 w14 w15 w16 w17 w18 w19) := by
  unfold V65x0x46 F65x0x46
  repeat' (first | rfl | apply cond_k | (apply bnd_k; intro _))
noncomputable def J65x0x46 (L : List Lf) (k0 : Bool → R) : R := F65x0x46 N (li L 6) (li L 13) (li L 14) (li L 15) (li L 16) (li L 17) (li L 18) (li L 19) k0
noncomputable def sh65x0x46 : Sh := { tmps := [(1, .c (.p 1 0)), (4, .c (.p 4 0)), (43, .c (.sl 48)), (44, .c (.i .i64)), (45, .c (.i .i64))], mem := [(1, .box (.s :: [.i .i64, .i .i64, .sl 48, .sl 111, .sl 9])), (4, .box (rI 7 ([])))] }
noncomputable def K65x0x46w0 (L : List Lf) (p : Bool) : Ex × St := (.normal, mg (ofSh sh65x0x46 L) [1, 43, 44, 45, 72] [(72, .c (.b p))] [1] [])
noncomputable def A65x0x46 (L : List Lf) : List (Bool × (Ex × St)) := bnd (J65x0x46 N L (fun p => p)) fun q => [(true, K65x0x46w0 L q)]
theorem raw65x0x46 (L : List Lf) : pc Try.prog (T88x0 N) (h65x0s2 N).h 0 100 65 46 sh65x0x46 L [45, 44, 43, 1, 72] [1] = J65x0x46 N L (fun p => some (K65x0x46w0 L p)) := by kernel_rfl
noncomputable def h65x0s3 : Sg Try.prog 0 65 :=
  (h65x0s2 N).cut (A65x0x46 N) progOk (T88x0_ok N) fun L x hx => (raw65x0x46 N L).trans ((tot65x0x46 N ..).trans (alt0 _ _ hx))
noncomputable def S65x0x30 (w1 : LD) (w2 w6 : Int) (w8 : LD) (w3 : Int) (kr : Int → Option R) (k0 : Int → Option R) (k1 : Unit → Option R) : Option R :=
  bif (decide (w3 < w2)) then
    bif (inB w3 w1.length) then
      bnd (bif (w3 == 0) then (((w1.getD w3.toNat (.i 0)).cell 0).toI != 0) else false) fun y0 =>
      bnd (G65x0x39002 N w3 y0 w8 ((w1.getD w3.toNat (.i 0)).cell 0).toI) fun y1 =>
      bif y1.isSome then
        bif (y1.getD default) then
          k0 10
        else
          bnd (V65x0x46 N w6 ((w1.getD w3.toNat (.i 0)).cell 0).toI ((w1.getD w3.toNat (.i 0)).cell 1).toI ((w1.getD w3.toNat (.i 0)).cell 2).toI ((w1.getD w3.toNat (.i 0)).cell 3).toI ((w1.getD w3.toNat (.i 0)).cell 4).toI ((w1.getD w3.toNat (.i 0)).cell 5).toI ((w1.getD w3.toNat (.i 0)).cell 6).toI) fun y2 =>
          bif y2 then
            k0 9
          else
            kr (IntKind.wrap .i64 (w3 + 1))
      else
        none
    else
      none
  else
    k1 ()
noncomputable def L65x0x30 (N : Nat) {R : Type} (w1 : LD) (w2 w6 : Int) (w8 : LD) : Nat → Int → (Int → Option R) → (Unit → Option R) → Option R
  | 0, _, _, _ => none
  | m + 1, w3, k0, k1 => S65x0x30 N w1 w2 w6 w8 w3 (fun w3 => L65x0x30 N w1 w2 w6 w8 m w3 k0 k1) k0 k1
noncomputable def G65x0x30 (w1 : LD) (w2 w6 : Int) (w8 : LD) (w3 : Int) : Option (Sum (Int) (Unit)) := L65x0x30 N (R := (Sum (Int) (Unit))) w1 w2 w6 w8 N w3 (fun p => some (.inl p)) (fun p => some (.inr p))
noncomputable def J65x0x30 (L x : List Lf) (kr : List Lf → Option R) (k0 : Int → Option R) (k1 : Unit → Option R) : Option R := S65x0x30 N (ll L 1) (li L 2) (li L 6) (ll L 8) (li x 0) (fun w3 => kr [.i w3]) k0 k1
theorem sb65x0x30 (L x : List Lf) (kr : List Lf → Option R) (k0 : Int → Option R) (k1 : Unit → Option R) : J65x0x30 N L x kr k0 k1 = (J65x0x30 N L x (fun y => some (.inl y)) (fun p => some (.inr (.inl p))) (fun p => some (.inr (.inr p)))).bind (sumE kr (sumE k0 k1)) := by
  unfold J65x0x30 S65x0x30
  repeat' (first | with_reducible apply cond_b | (with_reducible apply bnd_b; intro _) | rfl)
noncomputable def Q65x0x30 (L : List Lf) (m : Nat) (x : List Lf) : Option (Sum (Int) (Unit)) := L65x0x30 N (R := (Sum (Int) (Unit))) (ll L 1) (li L 2) (li L 6) (ll L 8) m (li x 0) (fun p => some (.inl p)) (fun p => some (.inr p))
noncomputable def sh65x0x30 : Sh := { tmps := [(1, .c (.p 1 0)), (43, .c (.sl 48)), (44, .c (.i .i64)), (45, .c (.i .i64))], mem := [(1, .box (.s :: [.i .i64, .i .i64, .sl 48, .sl 111, .sl 9]))] }
noncomputable def K65x0x30w0 (L : List Lf) (p : Int) : Ex × St := (.ret, mg (ofSh sh65x0x30 L) [2] [(2, .c (.i .i64 p))] [1] [])
noncomputable def A65x0x30 (L : List Lf) : List (Bool × (Ex × St)) := bnd (Q65x0x30 N L N (pk sh65x0x30 [3] L)) fun q => [((inlB q), K65x0x30w0 L (inlV q)), ((inrQ q).isSome, ((.exit 1), mg (ofSh sh65x0x30 L) [1] [] [1] []))]
theorem step65x0x30 (m : Nat) (kn : St → Option (Ex × St)) (L x : List Lf) : lpB Try.prog (T88x0 N) (h65x0s3 N).h 0 65 30 sh65x0x30 [3] [2, 1] [1] (m + 100) kn L x = J65x0x30 N L x (fun y => kn (ofSh sh65x0x30 (mx sh65x0x30 [3] L y))) (fun p => some (K65x0x30w0 L p)) (fun _ => some ((.exit 1), mg (ofSh sh65x0x30 L) [1] [] [1] [])) := by kernel_rfl
theorem ql65x0x30 (L : List Lf) (m : Nat) (x : List Lf) : Q65x0x30 N L (m + 1) x = J65x0x30 N L x (Q65x0x30 N L m) (fun p => some (.inl p)) (fun p => some (.inr p)) := by kernel_rfl
noncomputable def h65x0s4 : Sg Try.prog 0 65 :=
  (h65x0s3 N).lp (A65x0x30 N) N progOk (T88x0_ok N) (fun m kn L x => (step65x0x30 N m kn L x).trans (sb65x0x30 N L x _ _ _)) (fun L m x => (ql65x0x30 N L m x).trans (sb65x0x30 N L x (Q65x0x30 N L m) (fun p => some (.inl p)) (fun p => some (.inr p)))) fun L x hx => (altS alt1) x hx
noncomputable def F65x0x73 (N : Nat) (w1 : Int) (w12 : LD) (w15 : Int) (k0 : Bool → Option R) : Option R :=
  bif (decide (w1 > 0)) then
    bif (inB (IntKind.wrap .i64 (w1 - 1)) w12.length) then
      bnd ((w12.getD (IntKind.wrap .i64 (w1 - 1)).toNat (.i 0)).cell 1).toI fun y0 =>
      k0 (decide (w15 < y0))
    else
      none
  else
    k0 false
noncomputable def G65x0x73 (w1 : Int) (w12 : LD) (w15 : Int) : Option (Bool) := F65x0x73 N w1 w12 w15 (fun p => some p)
theorem bind65x0x73 (w1 : Int) (w12 : LD) (w15 : Int) (k0 : Bool → Option R) : F65x0x73 N w1 w12 w15 k0 = (G65x0x73 N w1 w12 w15).bind k0 := by
  unfold G65x0x73 F65x0x73
  repeat' (first | with_reducible apply cond_b | (with_reducible apply bnd_b; intro _) | rfl)
noncomputable def sh65x0x73 : Sh := { tmps := [(1, .c (.p 1 0)), (5, .c (.i .i64)), (6, .c (.i .i64)), (7, .c (.p 7 0)), (93, .c (.sl 111)), (94, .c (.i .i64)), (95, .c (.i .i64))], mem := [(1, .box (.s :: [.i .i64, .i .i64, .sl 48, .sl 111, .sl 9])), (7, .box ([.i .i64, .i .i64, .s]))] }
noncomputable def K65x0x73w0 (L : List Lf) (p : Bool) : Ex × St := (.normal, mg (ofSh sh65x0x73 L) [1, 5, 7, 93, 94, 95, 117] [(117, .c (.b p))] [1, 7] [])
noncomputable def A65x0x73 (L : List Lf) : List (Bool × (Ex × St)) := bnd (F65x0x73 N (li L 1) (ll L 12) (li L 15) (fun p => some p)) fun q => [(q.isSome, K65x0x73w0 L (q.getD default))]
theorem raw65x0x73 (L : List Lf) : pc Try.prog (T88x0 N) (h65x0s4 N).h 0 100 65 73 sh65x0x73 L [7, 95, 94, 93, 5, 1, 117] [7, 1] = F65x0x73 N (li L 1) (ll L 12) (li L 15) (fun p => some (K65x0x73w0 L p)) := by kernel_rfl
noncomputable def h65x0s5 : Sg Try.prog 0 65 :=
  (h65x0s4 N).cut (A65x0x73 N) progOk (T88x0_ok N) fun L x hx => (raw65x0x73 N L).trans ((bind65x0x73 N ..).trans (alt1 x hx))
noncomputable def S65x0x60 (w0 : Int) (w2 : LD) (w3 : Int) (w11 : LD) (w4 : Int) (kr : Int → Option R) (k0 : Int → Option R) (k1 : Unit → Option R) : Option R :=
  bif (decide (w4 < w3)) then
    bif (inB w4 w2.length) then
      bnd (bif (decide (((w2.getD w4.toNat (.i 0)).cell 0).toI < 0)) then true else (decide (((w2.getD w4.toNat (.i 0)).cell 0).toI ≥ ((w2.getD w4.toNat (.i 0)).cell 1).toI))) fun y0 =>
      bnd (bif y0 then true else (decide (((w2.getD w4.toNat (.i 0)).cell 1).toI > w0))) fun y1 =>
      bif y1 then
        k0 9
      else
        bnd (G65x0x73 N w4 w11 ((w2.getD w4.toNat (.i 0)).cell 0).toI) fun y2 =>
        bif y2.isSome then
          bif (y2.getD default) then
            k0 10
          else
            bnd (G88x0 N ((w2.getD w4.toNat (.i 0)).cell 2).toS) fun y3 =>
            bif y3.isSome then
              bif (!(y3.getD default)) then
                k0 8
              else
                kr (IntKind.wrap .i64 (w4 + 1))
            else
              none
        else
          none
    else
      none
  else
    k1 ()
noncomputable def L65x0x60 (N : Nat) {R : Type} (w0 : Int) (w2 : LD) (w3 : Int) (w11 : LD) : Nat → Int → (Int → Option R) → (Unit → Option R) → Option R
  | 0, _, _, _ => none
  | m + 1, w4, k0, k1 => S65x0x60 N w0 w2 w3 w11 w4 (fun w4 => L65x0x60 N w0 w2 w3 w11 m w4 k0 k1) k0 k1
noncomputable def G65x0x60 (w0 : Int) (w2 : LD) (w3 : Int) (w11 : LD) (w4 : Int) : Option (Sum (Int) (Unit)) := L65x0x60 N (R := (Sum (Int) (Unit))) w0 w2 w3 w11 N w4 (fun p => some (.inl p)) (fun p => some (.inr p))
noncomputable def J65x0x60 (L x : List Lf) (kr : List Lf → Option R) (k0 : Int → Option R) (k1 : Unit → Option R) : Option R := S65x0x60 N (li L 0) (ll L 2) (li L 3) (ll L 11) (li x 0) (fun w4 => kr [.i w4]) k0 k1
theorem sb65x0x60 (L x : List Lf) (kr : List Lf → Option R) (k0 : Int → Option R) (k1 : Unit → Option R) : J65x0x60 N L x kr k0 k1 = (J65x0x60 N L x (fun y => some (.inl y)) (fun p => some (.inr (.inl p))) (fun p => some (.inr (.inr p)))).bind (sumE kr (sumE k0 k1)) := by
  unfold J65x0x60 S65x0x60
  repeat' (first | with_reducible apply cond_b | (with_reducible apply bnd_b; intro _) | rfl)
noncomputable def Q65x0x60 (L : List Lf) (m : Nat) (x : List Lf) : Option (Sum (Int) (Unit)) := L65x0x60 N (R := (Sum (Int) (Unit))) (li L 0) (ll L 2) (li L 3) (ll L 11) m (li x 0) (fun p => some (.inl p)) (fun p => some (.inr p))
noncomputable def sh65x0x60 : Sh := { tmps := [(1, .c (.p 1 0)), (5, .c (.i .i64)), (93, .c (.sl 111)), (94, .c (.i .i64)), (95, .c (.i .i64))], mem := [(1, .box (.s :: [.i .i64, .i .i64, .sl 48, .sl 111, .sl 9]))] }
noncomputable def K65x0x60w0 (L : List Lf) (p : Int) : Ex × St := (.ret, mg (ofSh sh65x0x60 L) [2] [(2, .c (.i .i64 p))] [1] [])
noncomputable def A65x0x60 (L : List Lf) : List (Bool × (Ex × St)) := bnd (Q65x0x60 N L N (pk sh65x0x60 [4] L)) fun q => [((inlB q), K65x0x60w0 L (inlV q)), ((inrQ q).isSome, ((.exit 4), mg (ofSh sh65x0x60 L) [1] [] [1] []))]
theorem step65x0x60 (m : Nat) (kn : St → Option (Ex × St)) (L x : List Lf) : lpB Try.prog (T88x0 N) (h65x0s5 N).h 0 65 60 sh65x0x60 [4] [2, 1] [1] (m + 100) kn L x = J65x0x60 N L x (fun y => kn (ofSh sh65x0x60 (mx sh65x0x60 [4] L y))) (fun p => some (K65x0x60w0 L p)) (fun _ => some ((.exit 4), mg (ofSh sh65x0x60 L) [1] [] [1] [])) := by kernel_rfl
theorem ql65x0x60 (L : List Lf) (m : Nat) (x : List Lf) : Q65x0x60 N L (m + 1) x = J65x0x60 N L x (Q65x0x60 N L m) (fun p => some (.inl p)) (fun p => some (.inr p)) := by kernel_rfl
noncomputable def h65x0s6 : Sg Try.prog 0 65 :=
  (h65x0s5 N).lp (A65x0x60 N) N progOk (T88x0_ok N) (fun m kn L x => (step65x0x60 N m kn L x).trans (sb65x0x60 N L x _ _ _)) (fun L m x => (ql65x0x60 N L m x).trans (sb65x0x60 N L x (Q65x0x60 N L m) (fun p => some (.inl p)) (fun p => some (.inr p)))) fun L x hx => (altS alt1) x hx
noncomputable def S65x0x90 (w1 : LD) (w2 : Int) (w12 : LD) (w3 : Int) (kr : Int → Option R) (k0 : Int → Option R) (k1 : Unit → Option R) : Option R :=
  bif (decide (w3 < w2)) then
    bif (inB w3 w1.length) then
      bnd (G82x0 N (w1.getD w3.toNat (.i 0)).toS) fun y0 =>
      bif y0.isSome then
        bif (!(y0.getD default)) then
          k0 8
        else
          bif (bif (inB (IntKind.wrap .i64 (w3 - 1)) w12.length) then true else (!((decide (w3 > 0)) == true))) then
            bnd (bif (decide (w3 > 0)) then ((Op.bytesLess (w1.getD w3.toNat (.i 0)).toS (w12.getD (IntKind.wrap .i64 (w3 - 1)).toNat (.i 0)).toS) || ((w1.getD w3.toNat (.i 0)).toS == (w12.getD (IntKind.wrap .i64 (w3 - 1)).toNat (.i 0)).toS)) else false) fun y1 =>
            bif y1 then
              k0 10
            else
              kr (IntKind.wrap .i64 (w3 + 1))
          else
            none
      else
        none
    else
      none
  else
    k1 ()
noncomputable def L65x0x90 (N : Nat) {R : Type} (w1 : LD) (w2 : Int) (w12 : LD) : Nat → Int → (Int → Option R) → (Unit → Option R) → Option R
  | 0, _, _, _ => none
  | m + 1, w3, k0, k1 => S65x0x90 N w1 w2 w12 w3 (fun w3 => L65x0x90 N w1 w2 w12 m w3 k0 k1) k0 k1
noncomputable def G65x0x90 (w1 : LD) (w2 : Int) (w12 : LD) (w3 : Int) : Option (Sum (Int) (Unit)) := L65x0x90 N (R := (Sum (Int) (Unit))) w1 w2 w12 N w3 (fun p => some (.inl p)) (fun p => some (.inr p))
noncomputable def J65x0x90 (L x : List Lf) (kr : List Lf → Option R) (k0 : Int → Option R) (k1 : Unit → Option R) : Option R := S65x0x90 N (ll L 1) (li L 2) (ll L 12) (li x 0) (fun w3 => kr [.i w3]) k0 k1
theorem sb65x0x90 (L x : List Lf) (kr : List Lf → Option R) (k0 : Int → Option R) (k1 : Unit → Option R) : J65x0x90 N L x kr k0 k1 = (J65x0x90 N L x (fun y => some (.inl y)) (fun p => some (.inr (.inl p))) (fun p => some (.inr (.inr p)))).bind (sumE kr (sumE k0 k1)) := by
  unfold J65x0x90 S65x0x90
  repeat' (first | with_reducible apply cond_b | (with_reducible apply bnd_b; intro _) | rfl)
noncomputable def Q65x0x90 (L : List Lf) (m : Nat) (x : List Lf) : Option (Sum (Int) (Unit)) := L65x0x90 N (R := (Sum (Int) (Unit))) (ll L 1) (li L 2) (ll L 12) m (li x 0) (fun p => some (.inl p)) (fun p => some (.inr p))
noncomputable def sh65x0x90 : Sh := { tmps := [(1, .c (.p 1 0)), (139, .c (.sl 9)), (140, .c (.i .i64)), (141, .c (.i .i64))], mem := [(1, .box (.s :: [.i .i64, .i .i64, .sl 48, .sl 111, .sl 9]))] }
noncomputable def A65x0x90 (L : List Lf) : List (Bool × (Ex × St)) := bnd (Q65x0x90 N L N (pk sh65x0x90 [3] L)) fun q => [((inlB q), (.ret, ⟨[(2, .c (.i .i64 (inlV q)))], []⟩)), ((inrQ q).isSome, ((.exit 7), ⟨[], []⟩))]
theorem step65x0x90 (m : Nat) (kn : St → Option (Ex × St)) (L x : List Lf) : lpB Try.prog (T88x0 N) (h65x0s6 N).h 0 65 90 sh65x0x90 [3] [2] [] (m + 100) kn L x = J65x0x90 N L x (fun y => kn (ofSh sh65x0x90 (mx sh65x0x90 [3] L y))) (fun p => some (.ret, ⟨[(2, .c (.i .i64 p))], []⟩)) (fun _ => some ((.exit 7), ⟨[], []⟩)) := by kernel_rfl
theorem ql65x0x90 (L : List Lf) (m : Nat) (x : List Lf) : Q65x0x90 N L (m + 1) x = J65x0x90 N L x (Q65x0x90 N L m) (fun p => some (.inl p)) (fun p => some (.inr p)) := by kernel_rfl
noncomputable def h65x0s7 : Sg Try.prog 0 65 :=
  (h65x0s6 N).lp (A65x0x90 N) N progOk (T88x0_ok N) (fun m kn L x => (step65x0x90 N m kn L x).trans (sb65x0x90 N L x _ _ _)) (fun L m x => (ql65x0x90 N L m x).trans (sb65x0x90 N L x (Q65x0x90 N L m) (fun p => some (.inl p)) (fun p => some (.inr p)))) fun L x hx => (altS alt1) x hx
noncomputable def F65x0 (v0 : LB) (v1 v2 : Int) (v4 v6 v8 : LD) (k0 : Int → Option R) : Option R :=
  bnd (G82x0 N v0) fun y0 =>
  bif y0.isSome then
    bif (!(y0.getD default)) then
      k0 8
    else
      bnd (V85x0 N v1 1 5) fun y1 =>
      bif (!y1) then
        k0 7
      else
        bnd (V85x0 N v2 0 86399999999) fun y2 =>
        bif (!y2) then
          k0 9
        else
          bnd (bif (decide ((v4.length : Int) > 20000)) then true else (decide ((v6.length : Int) > 200))) fun y3 =>
          bnd (bif y3 then true else (decide ((v8.length : Int) > 20))) fun y4 =>
          bif y4 then
            k0 3
          else
            bnd (G65x0x30 N v4 (v4.length : Int) v2 v4 0) fun y5 =>
            bif (inlB y5) then
              k0 (inlV y5)
            else
              bif (inrQ y5).isSome then
                bnd (G87x0 N v4) fun y6 =>
                bif y6.isSome then
                  bnd (G65x0x60 N (y6.getD default) v6 (v6.length : Int) v6 0) fun y7 =>
                  bif (inlB y7) then
                    k0 (inlV y7)
                  else
                    bif (inrQ y7).isSome then
                      bnd (G65x0x90 N v8 (v8.length : Int) v8 0) fun y8 =>
                      bif (inlB y8) then
                        k0 (inlV y8)
                      else
                        bif (inrQ y8).isSome then
                          k0 0
                        else
                          none
                    else
                      none
                else
                  none
              else
                none
  else
    none
noncomputable def G65x0 (v0 : LB) (v1 v2 : Int) (v4 v6 v8 : LD) : Option (Int) := F65x0 N v0 v1 v2 v4 v6 v8 (fun p => some p)
theorem bind65x0 (v0 : LB) (v1 v2 : Int) (v4 v6 v8 : LD) (k0 : Int → Option R) : F65x0 N v0 v1 v2 v4 v6 v8 k0 = (G65x0 N v0 v1 v2 v4 v6 v8).bind k0 := by
  unfold G65x0 F65x0
  repeat' (first | with_reducible apply cond_b | (with_reducible apply bnd_b; intro _) | rfl)
noncomputable def J65x0 (L : List Lf) (k0 : Int → Option R) : Option R := F65x0 N (ls L 0) (li L 1) (li L 2) (ll L 4) (ll L 6) (ll L 8) k0
noncomputable def sh65x0 : Sh := { tmps := [(0, .g (.s :: [.i .i64, .i .i64, .sl 48, .sl 111, .sl 9]))], mem := [] }
noncomputable def A65x0 (L : List Lf) : List (Bool × Res) := bnd (J65x0 N L (fun p => some p)) fun q => [(q.isSome, ([.c (.i .i64 (q.getD default))], []))]
theorem raw65x0 (L : List Lf) : bd Try.prog (T88x0 N) (h65x0s7 N).h 65 sh65x0 L = J65x0 N L (fun p => some ([.c (.i .i64 p)], [])) := by kernel_rfl
theorem ok65x0 : FnOk Try.prog 65 sh65x0 (A65x0 N) :=
  (h65x0s7 N).fn progOk (T88x0_ok N) fun L x hx => ((raw65x0 N L).trans ((bind65x0 N ..).trans (alt1 x hx)))
noncomputable def T65x0 : Oracle := ext 65 (spSh sh65x0 (A65x0 N)) (T88x0 N)
theorem T65x0_ok : OracleOk Try.prog (T65x0 N) := FnOk.to (ok65x0 N) (T88x0_ok N)
noncomputable def rg39x0 : List (Nat × List Nat) := [(0, [0, 1, 2]), (1, [3, 1, 2]), (2, [7, 1, 2]), (3, [7]), (4, [1, 2]), (5, []), (6, [2]), (7, [21, 20, 19]), (8, [19, 21, 20]), (9, [9, 21, 20, 19]), (10, [10, 21, 20, 19]), (11, [10]), (12, [21, 20, 19]), (13, [])]
noncomputable def hd39x0 : Hints := [(21, [21, 20, 19], [], [])]
noncomputable def h39x0s0 (N : Nat) : Sg Try.prog 0 39 := .start hd39x0 rg39x0
noncomputable def S39x0x21 (w1 : LD) (w2 : Int) (w3 : Int) (kr : Int → Option R) (k0 : Int → Option R) (k1 : Unit → Option R) : Option R :=
  bif (decide (w3 < w2)) then
    bif (inB w3 w1.length) then
      bnd (G65x0 N ((w1.getD w3.toNat (.i 0)).cell 0).toS ((w1.getD w3.toNat (.i 0)).cell 1).toI ((w1.getD w3.toNat (.i 0)).cell 2).toI ((w1.getD w3.toNat (.i 0)).cell 3).items ((w1.getD w3.toNat (.i 0)).cell 4).items ((w1.getD w3.toNat (.i 0)).cell 5).items) fun y0 =>
      bif y0.isSome then
        bif ((y0.getD default) != 0) then
          k0 (y0.getD default)
        else
          kr (IntKind.wrap .i64 (w3 + 1))
      else
        none
    else
      none
  else
    k1 ()
noncomputable def L39x0x21 (N : Nat) {R : Type} (w1 : LD) (w2 : Int) : Nat → Int → (Int → Option R) → (Unit → Option R) → Option R
  | 0, _, _, _ => none
  | m + 1, w3, k0, k1 => S39x0x21 N w1 w2 w3 (fun w3 => L39x0x21 N w1 w2 m w3 k0 k1) k0 k1
noncomputable def G39x0x21 (w1 : LD) (w2 : Int) (w3 : Int) : Option (Sum (Int) (Unit)) := L39x0x21 N (R := (Sum (Int) (Unit))) w1 w2 N w3 (fun p => some (.inl p)) (fun p => some (.inr p))
noncomputable def J39x0x21 (L x : List Lf) (kr : List Lf → Option R) (k0 : Int → Option R) (k1 : Unit → Option R) : Option R := S39x0x21 N (ll L 1) (li L 2) (li x 0) (fun w3 => kr [.i w3]) k0 k1
theorem sb39x0x21 (L x : List Lf) (kr : List Lf → Option R) (k0 : Int → Option R) (k1 : Unit → Option R) : J39x0x21 N L x kr k0 k1 = (J39x0x21 N L x (fun y => some (.inl y)) (fun p => some (.inr (.inl p))) (fun p => some (.inr (.inr p)))).bind (sumE kr (sumE k0 k1)) := by
  unfold J39x0x21 S39x0x21
  repeat' (first | with_reducible apply cond_b | (with_reducible apply bnd_b; intro _) | rfl)
noncomputable def Q39x0x21 (L : List Lf) (m : Nat) (x : List Lf) : Option (Sum (Int) (Unit)) := L39x0x21 N (R := (Sum (Int) (Unit))) (ll L 1) (li L 2) m (li x 0) (fun p => some (.inl p)) (fun p => some (.inr p))
noncomputable def sh39x0x21 : Sh := { tmps := [(19, .c (.sl 29)), (20, .c (.i .i64)), (21, .c (.i .i64))], mem := [] }
noncomputable def A39x0x21 (L : List Lf) : List (Bool × (Ex × St)) := bnd (Q39x0x21 N L N (pk sh39x0x21 [3] L)) fun q => [((inlB q), (.ret, ⟨[(6, .c (.i .i64 (inlV q)))], []⟩)), ((inrQ q).isSome, ((.exit 0), ⟨[], []⟩))]
theorem step39x0x21 (m : Nat) (kn : St → Option (Ex × St)) (L x : List Lf) : lpB Try.prog (T65x0 N) (h39x0s0 N).h 0 39 21 sh39x0x21 [3] [6] [] (m + 100) kn L x = J39x0x21 N L x (fun y => kn (ofSh sh39x0x21 (mx sh39x0x21 [3] L y))) (fun p => some (.ret, ⟨[(6, .c (.i .i64 p))], []⟩)) (fun _ => some ((.exit 0), ⟨[], []⟩)) := by kernel_rfl
theorem ql39x0x21 (L : List Lf) (m : Nat) (x : List Lf) : Q39x0x21 N L (m + 1) x = J39x0x21 N L x (Q39x0x21 N L m) (fun p => some (.inl p)) (fun p => some (.inr p)) := by kernel_rfl
noncomputable def h39x0s1 : Sg Try.prog 0 39 :=
  (h39x0s0 N).lp (A39x0x21 N) N progOk (T65x0_ok N) (fun m kn L x => (step39x0x21 N m kn L x).trans (sb39x0x21 N L x _ _ _)) (fun L m x => (ql39x0x21 N L m x).trans (sb39x0x21 N L x (Q39x0x21 N L m) (fun p => some (.inl p)) (fun p => some (.inr p)))) fun L x hx => (altS alt1) x hx
noncomputable def F39x0 (v1 : LD) (v2 : Int) (v4 : LD) (k0 : Int → Option R) : Option R :=
  bnd (G32x0 N v1) fun y0 =>
  bif y0.isSome then
    bif ((y0.getD default) != 0) then
      k0 (y0.getD default)
    else
      bnd (V64x0 N v2 0 3) fun y1 =>
      bif (!y1) then
        k0 9
      else
        bnd (G39x0x21 N v4 (v4.length : Int) 0) fun y2 =>
        bif (inlB y2) then
          k0 (inlV y2)
        else
          bif (inrQ y2).isSome then
            k0 0
          else
            none
  else
    none
noncomputable def G39x0 (v1 : LD) (v2 : Int) (v4 : LD) : Option (Int) := F39x0 N v1 v2 v4 (fun p => some p)
theorem bind39x0 (v1 : LD) (v2 : Int) (v4 : LD) (k0 : Int → Option R) : F39x0 N v1 v2 v4 k0 = (G39x0 N v1 v2 v4).bind k0 := by
  unfold G39x0 F39x0
  repeat' (first | with_reducible apply cond_b | (with_reducible apply bnd_b; intro _) | rfl)
noncomputable def sh39x0 : Sh := { tmps := [(0, .g ([.sl 70])), (1, .c (.i .i64)), (2, .c (.sl 29))], mem := [] }
noncomputable def A39x0 (L : List Lf) : List (Bool × Res) := bnd (F39x0 N (ll L 1) (li L 2) (ll L 4) (fun p => some p)) fun q => [(q.isSome, ([.c (.i .i64 (q.getD default))], []))]
theorem raw39x0 (L : List Lf) : bd Try.prog (T65x0 N) (h39x0s1 N).h 39 sh39x0 L = F39x0 N (ll L 1) (li L 2) (ll L 4) (fun p => some ([.c (.i .i64 p)], [])) := by kernel_rfl
theorem ok39x0 : FnOk Try.prog 39 sh39x0 (A39x0 N) :=
  (h39x0s1 N).fn progOk (T65x0_ok N) fun L x hx => ((raw39x0 N L).trans ((bind39x0 N ..).trans (alt1 x hx)))
noncomputable def T39x0 : Oracle := ext 39 (spSh sh39x0 (A39x0 N)) (T65x0 N)
theorem T39x0_ok : OracleOk Try.prog (T39x0 N) := FnOk.to (ok39x0 N) (T65x0_ok N)
noncomputable def rg41x0 : List (Nat × List Nat) := [(0, [0, 1]), (1, [2, 1]), (2, [2, 1, 5]), (3, [11, 10, 9, 1, 5]), (4, [9, 11, 1, 5, 10]), (5, [7, 1, 5, 11, 10, 9]), (6, [5, 7, 11, 10, 9, 1]), (7, [11, 10, 9, 1, 5]), (8, [5])]
noncomputable def hd41x0 : Hints := [(9, [11, 10, 9, 1, 5], [5], [5]), (20, [5, 7, 11, 10, 9, 1, 18], [7, 5], [])]
noncomputable def h41x0s0 (N : Nat) : Sg Try.prog 0 41 := .start hd41x0 rg41x0
noncomputable def F41x0x20 (N : Nat) (w5 : Bool) (w7 : LD) (w8 w9 w10 w11 w12 w13 w14 w15 : Int) (w16 : LB) (k0 : LD → Option R) (k1 : Unit → Option R) : Option R :=
  bif w5 then
    bif (decide ((w7.length + 1) * 80 ≤ room) && decide ((w7.length + 1) ≤ strMax)) then
      bnd ((w7 ++ [(.a [(.i w8), (.i w9), (.i w10), (.i w11), (.i w12), (.i w13), (.i w14), (.i w15), (.s w16)])]) : List D) fun y0 =>
      k0 y0
    else
      none
  else
    k1 ()
noncomputable def G41x0x20 (w5 : Bool) (w7 : LD) (w8 w9 w10 w11 w12 w13 w14 w15 : Int) (w16 : LB) : Option (Sum (LD) (Unit)) := F41x0x20 N w5 w7 w8 w9 w10 w11 w12 w13 w14 w15 w16 (fun p => some (.inl p)) (fun p => some (.inr p))
theorem bind41x0x20 (w5 : Bool) (w7 : LD) (w8 w9 w10 w11 w12 w13 w14 w15 : Int) (w16 : LB) (k0 : LD → Option R) (k1 : Unit → Option R) : F41x0x20 N w5 w7 w8 w9 w10 w11 w12 w13 w14 w15 w16 k0 k1 = (G41x0x20 N w5 w7 w8 w9 w10 w11 w12 w13 w14 w15 w16).bind (sumE k0 k1) := by
  unfold G41x0x20 F41x0x20
  repeat' (first | with_reducible apply cond_b | (with_reducible apply bnd_b; intro _) | rfl)
noncomputable def J41x0x20 (L : List Lf) (k0 : LD → Option R) (k1 : Unit → Option R) : Option R := F41x0x20 N (lb L 5) (ll L 7) (li L 8) (li L 9) (li L 10) (li L 11) (li L 12) (li L 13) (li L 14) (li L 15) (ls L 16) k0 k1
noncomputable def sh41x0x20 : Sh := { tmps := [(1, .c (.i .i64)), (5, .c (.o 5)), (7, .c (.p 7 0)), (9, .c (.sl 70)), (10, .c (.i .i64)), (11, .c (.i .i64)), (18, .c (.b))], mem := [(5, .row 70 true), (7, .box (rI 8 ([.s])))] }
noncomputable def K41x0x20w0 (L : List Lf) (p : LD) : Ex × St := (.normal, mg (ofSh sh41x0x20 L) [1, 5, 9, 10, 11] [(5, .c (.o 22))] [22] [(22, .row 70 true false p)])
noncomputable def A41x0x20 (L : List Lf) : List (Bool × (Ex × St)) := bnd (J41x0x20 N L (fun p => some (.inl p)) (fun p => some (.inr p))) fun q => [((inlB q), K41x0x20w0 L (inlV q)), ((inrQ q).isSome, (.normal, mg (ofSh sh41x0x20 L) [1, 5, 9, 10, 11] [] [5] []))]
theorem raw41x0x20 (L : List Lf) : pc Try.prog (T39x0 N) (h41x0s0 N).h 0 100 41 20 sh41x0x20 L [11, 10, 9, 1, 5] [22, 5] = J41x0x20 N L (fun p => some (K41x0x20w0 L p)) (fun _ => some (.normal, mg (ofSh sh41x0x20 L) [1, 5, 9, 10, 11] [] [5] [])) := by kernel_rfl
noncomputable def h41x0s1 : Sg Try.prog 0 41 :=
  (h41x0s0 N).cut (A41x0x20 N) progOk (T39x0_ok N) fun L x hx => (raw41x0x20 N L).trans ((bind41x0x20 N ..).trans ((altS alt1) x hx))
noncomputable def S41x0x9 (w0 : Int) (w2 : LD) (w3 : Int) (w4 : Int) (w5 : Bool) (w6 : LD) (kr : Int → Bool → LD → Option R) (k0 : Bool × LD → Option R) : Option R :=
  bif (decide (w4 < w3)) then
    bif (inB w4 w2.length) then
      bnd (G41x0x20 N (decide (((w2.getD w4.toNat (.i 0)).cell 0).toI ≤ w0)) w6 ((w2.getD w4.toNat (.i 0)).cell 0).toI ((w2.getD w4.toNat (.i 0)).cell 1).toI ((w2.getD w4.toNat (.i 0)).cell 2).toI ((w2.getD w4.toNat (.i 0)).cell 3).toI ((w2.getD w4.toNat (.i 0)).cell 4).toI ((w2.getD w4.toNat (.i 0)).cell 5).toI ((w2.getD w4.toNat (.i 0)).cell 6).toI ((w2.getD w4.toNat (.i 0)).cell 7).toI ((w2.getD w4.toNat (.i 0)).cell 8).toS) fun y0 =>
      bif (inlB y0) then
        kr (IntKind.wrap .i64 (w4 + 1)) false (inlV y0)
      else
        bif (inrQ y0).isSome then
          kr (IntKind.wrap .i64 (w4 + 1)) w5 w6
        else
          none
    else
      none
  else
    k0 (w5, w6)
noncomputable def L41x0x9 (N : Nat) {R : Type} (w0 : Int) (w2 : LD) (w3 : Int) : Nat → Int → Bool → LD → (Bool × LD → Option R) → Option R
  | 0, _, _, _, _ => none
  | m + 1, w4, w5, w6, k0 => S41x0x9 N w0 w2 w3 w4 w5 w6 (fun w4 w5 w6 => L41x0x9 N w0 w2 w3 m w4 w5 w6 k0) k0
noncomputable def G41x0x9 (w0 : Int) (w2 : LD) (w3 : Int) (w4 : Int) (w5 : Bool) (w6 : LD) : Option (Bool × LD) := L41x0x9 N (R := (Bool × LD)) w0 w2 w3 N w4 w5 w6 (fun p => some p)
noncomputable def J41x0x9 (L x : List Lf) (kr : List Lf → Option R) (k0 : Bool × LD → Option R) : Option R := S41x0x9 N (li L 0) (ll L 2) (li L 3) (li x 0) (lb x 1) (ll x 2) (fun w4 w5 w6 => kr [.i w4, .b w5, .l w6]) k0
theorem sb41x0x9 (L x : List Lf) (kr : List Lf → Option R) (k0 : Bool × LD → Option R) : J41x0x9 N L x kr k0 = (J41x0x9 N L x (fun y => some (.inl y)) (fun p => some (.inr p))).bind (sumE kr k0) := by
  unfold J41x0x9 S41x0x9
  repeat' (first | with_reducible apply cond_b | (with_reducible apply bnd_b; intro _) | rfl)
noncomputable def Q41x0x9 (L : List Lf) (m : Nat) (x : List Lf) : Option (Bool × LD) := L41x0x9 N (R := (Bool × LD)) (li L 0) (ll L 2) (li L 3) m (li x 0) (lb x 1) (ll x 2) (fun p => some p)
noncomputable def sh41x0x9 : Sh := { tmps := [(1, .c (.i .i64)), (5, .c (.o 5)), (9, .c (.sl 70)), (10, .c (.i .i64)), (11, .c (.i .i64))], mem := [(5, .row 70 true)] }
noncomputable def A41x0x9 (L : List Lf) : List (Bool × (Ex × St)) := bnd (Q41x0x9 N L N (pk sh41x0x9 [4, 5, 6] L)) fun q => [(q.isSome, ((.exit 0), ⟨[(5, .c (.o 5))], [(5, .row 70 true (q.getD default).1 (q.getD default).2)]⟩))]
theorem step41x0x9 (m : Nat) (kn : St → Option (Ex × St)) (L x : List Lf) : lpB Try.prog (T39x0 N) (h41x0s1 N).h 0 41 9 sh41x0x9 [4, 5, 6] [4, 5] [5] (m + 100) kn L x = J41x0x9 N L x (fun y => kn (ofSh sh41x0x9 (mx sh41x0x9 [4, 5, 6] L y))) (fun p => some ((.exit 0), ⟨[(5, .c (.o 5))], [(5, .row 70 true p.1 p.2)]⟩)) := by kernel_rfl
theorem ql41x0x9 (L : List Lf) (m : Nat) (x : List Lf) : Q41x0x9 N L (m + 1) x = J41x0x9 N L x (Q41x0x9 N L m) some := by kernel_rfl
noncomputable def h41x0s2 : Sg Try.prog 0 41 :=
  (h41x0s1 N).lp (A41x0x9 N) N progOk (T39x0_ok N) (fun m kn L x => (step41x0x9 N m kn L x).trans (sb41x0x9 N L x _ _)) (fun L m x => (ql41x0x9 N L m x).trans (sb41x0x9 N L x (Q41x0x9 N L m) some)) fun L x hx => alt1 x hx
noncomputable def F41x0 (v1 : LD) (v2 : Int) (k0 : Bool × LD → Option R) : Option R :=
  bnd (G41x0x9 N v2 v1 (v1.length : Int) 0 true []) fun y0 =>
  bif y0.isSome then
    k0 (y0.getD default)
  else
    none
noncomputable def G41x0 (v1 : LD) (v2 : Int) : Option (Bool × LD) := F41x0 N v1 v2 (fun p => some p)
theorem bind41x0 (v1 : LD) (v2 : Int) (k0 : Bool × LD → Option R) : F41x0 N v1 v2 k0 = (G41x0 N v1 v2).bind k0 := by
  unfold G41x0 F41x0
  repeat' (first | with_reducible apply cond_b | (with_reducible apply bnd_b; intro _) | rfl)
noncomputable def sh41x0 : Sh := { tmps := [(0, .g ([.sl 70])), (1, .c (.i .i64))], mem := [] }
noncomputable def A41x0 (L : List Lf) : List (Bool × Res) := bnd (F41x0 N (ll L 1) (li L 2) (fun p => some p)) fun q => [(q.isSome, ([.c (.sl 70 (q.getD default).1 (q.getD default).2)], []))]
theorem raw41x0 (L : List Lf) : bd Try.prog (T39x0 N) (h41x0s2 N).h 41 sh41x0 L = F41x0 N (ll L 1) (li L 2) (fun p => some ([.c (.sl 70 p.1 p.2)], [])) := by kernel_rfl
theorem ok41x0 : FnOk Try.prog 41 sh41x0 (A41x0 N) :=
  (h41x0s2 N).fn progOk (T39x0_ok N) fun L x hx => ((raw41x0 N L).trans ((bind41x0 N ..).trans (alt1 x hx)))
noncomputable def T41x0 : Oracle := ext 41 (spSh sh41x0 (A41x0 N)) (T39x0 N)
theorem T41x0_ok : OracleOk Try.prog (T41x0 N) := FnOk.to (ok41x0 N) (T39x0_ok N)
noncomputable def rg66x0 : List (Nat × List Nat) := [(0, [0, 1]), (1, [3, 2])]
noncomputable def hd66x0 : Hints := []
noncomputable def h66x0s0 (N : Nat) : Sg Try.prog 0 66 := .start hd66x0 rg66x0
noncomputable def F66x0 (N : Nat) (v7 v10 : Int) (k0 : Bool → R) : R :=
  k0 (v10 == v7)
noncomputable def V66x0 (v7 v10 : Int) : Bool := F66x0 N v7 v10 (fun p => p)
theorem tot66x0 (v7 v10 : Int) (k0 : Bool → R) : F66x0 N v7 v10 k0 = k0 (V66x0 N v7 v10) := by
  unfold V66x0 F66x0
  repeat' (first | rfl | apply cond_k | (apply bnd_k; intro _))
noncomputable def sh66x0 : Sh := { tmps := [(0, .g (rI 8 ([.s]))), (1, .g (.s :: [.i .i64, .i .i64, .sl 48, .sl 111, .sl 9]))], mem := [] }
noncomputable def A66x0 (L : List Lf) : List (Bool × Res) := bnd (F66x0 N (li L 7) (li L 10) (fun p => p)) fun q => [(true, ([.c (.b q)], []))]
theorem raw66x0 (L : List Lf) : bd Try.prog (T41x0 N) (h66x0s0 N).h 66 sh66x0 L = F66x0 N (li L 7) (li L 10) (fun p => some ([.c (.b p)], [])) := by kernel_rfl
theorem ok66x0 : FnOk Try.prog 66 sh66x0 (A66x0 N) :=
  (h66x0s0 N).fn progOk (T41x0_ok N) fun L x hx => ((raw66x0 N L).trans ((tot66x0 N ..).trans (alt0 _ _ hx)))
noncomputable def T66x0 : Oracle := ext 66 (spSh sh66x0 (A66x0 N)) (T41x0 N)
theorem T66x0_ok : OracleOk Try.prog (T66x0 N) := FnOk.to (ok66x0 N) (T41x0_ok N)
noncomputable def rg97x0 : List (Nat × List Nat) := [(0, [0, 1]), (1, [0, 1]), (2, [8, 7, 1, 0]), (3, [8, 1, 0, 7]), (4, [1, 0, 5, 8, 7]), (5, [5]), (6, [8, 7, 1, 0]), (7, [])]
noncomputable def hd97x0 : Hints := [(6, [8, 7, 1, 0], [], [])]
noncomputable def h97x0s0 (N : Nat) : Sg Try.prog 0 97 := .start hd97x0 rg97x0
noncomputable def S97x0x6 (N : Nat) (w1 : LD) (w2 : LB) (w3 : Int) (w4 : Int) (kr : Int → Option R) (k0 : Int → Option R) (k1 : Unit → Option R) : Option R :=
  bif (decide (w4 < w3)) then
    bif (inB w4 w1.length) then
      bif (w2 == (w1.getD w4.toNat (.i 0)).toS) then
        k0 w4
      else
        kr (IntKind.wrap .i64 (w4 + 1))
    else
      none
  else
    k1 ()
noncomputable def L97x0x6 (N : Nat) {R : Type} (w1 : LD) (w2 : LB) (w3 : Int) : Nat → Int → (Int → Option R) → (Unit → Option R) → Option R
  | 0, _, _, _ => none
  | m + 1, w4, k0, k1 => S97x0x6 N w1 w2 w3 w4 (fun w4 => L97x0x6 N w1 w2 w3 m w4 k0 k1) k0 k1
noncomputable def G97x0x6 (w1 : LD) (w2 : LB) (w3 : Int) (w4 : Int) : Option (Sum (Int) (Unit)) := L97x0x6 N (R := (Sum (Int) (Unit))) w1 w2 w3 N w4 (fun p => some (.inl p)) (fun p => some (.inr p))
noncomputable def J97x0x6 (L x : List Lf) (kr : List Lf → Option R) (k0 : Int → Option R) (k1 : Unit → Option R) : Option R := S97x0x6 N (ll L 1) (ls L 2) (li L 3) (li x 0) (fun w4 => kr [.i w4]) k0 k1
theorem sb97x0x6 (L x : List Lf) (kr : List Lf → Option R) (k0 : Int → Option R) (k1 : Unit → Option R) : J97x0x6 N L x kr k0 k1 = (J97x0x6 N L x (fun y => some (.inl y)) (fun p => some (.inr (.inl p))) (fun p => some (.inr (.inr p)))).bind (sumE kr (sumE k0 k1)) := by
  unfold J97x0x6 S97x0x6
  repeat' (first | with_reducible apply cond_b | (with_reducible apply bnd_b; intro _) | rfl)
noncomputable def Q97x0x6 (L : List Lf) (m : Nat) (x : List Lf) : Option (Sum (Int) (Unit)) := L97x0x6 N (R := (Sum (Int) (Unit))) (ll L 1) (ls L 2) (li L 3) m (li x 0) (fun p => some (.inl p)) (fun p => some (.inr p))
noncomputable def sh97x0x6 : Sh := { tmps := [(0, .c (.sl 9)), (1, .c (.s)), (7, .c (.i .i64)), (8, .c (.i .i64))], mem := [] }
noncomputable def A97x0x6 (L : List Lf) : List (Bool × (Ex × St)) := bnd (Q97x0x6 N L N (pk sh97x0x6 [4] L)) fun q => [((inlB q), (.ret, ⟨[(4, .c (.i .i64 (inlV q)))], []⟩)), ((inrQ q).isSome, ((.exit 0), ⟨[], []⟩))]
theorem step97x0x6 (m : Nat) (kn : St → Option (Ex × St)) (L x : List Lf) : lpB Try.prog (T66x0 N) (h97x0s0 N).h 0 97 6 sh97x0x6 [4] [4] [] (m + 100) kn L x = J97x0x6 N L x (fun y => kn (ofSh sh97x0x6 (mx sh97x0x6 [4] L y))) (fun p => some (.ret, ⟨[(4, .c (.i .i64 p))], []⟩)) (fun _ => some ((.exit 0), ⟨[], []⟩)) := by kernel_rfl
theorem ql97x0x6 (L : List Lf) (m : Nat) (x : List Lf) : Q97x0x6 N L (m + 1) x = J97x0x6 N L x (Q97x0x6 N L m) (fun p => some (.inl p)) (fun p => some (.inr p)) := by kernel_rfl
noncomputable def h97x0s1 : Sg Try.prog 0 97 :=
  (h97x0s0 N).lp (A97x0x6 N) N progOk (T66x0_ok N) (fun m kn L x => (step97x0x6 N m kn L x).trans (sb97x0x6 N L x _ _ _)) (fun L m x => (ql97x0x6 N L m x).trans (sb97x0x6 N L x (Q97x0x6 N L m) (fun p => some (.inl p)) (fun p => some (.inr p)))) fun L x hx => (altS alt1) x hx
noncomputable def F97x0 (v1 : LD) (v2 : LB) (k0 : Int → Option R) : Option R :=
  bnd (G97x0x6 N v1 v2 (v1.length : Int) 0) fun y0 =>
  bif (inlB y0) then
    k0 (inlV y0)
  else
    bif (inrQ y0).isSome then
      k0 (-1)
    else
      none
noncomputable def G97x0 (v1 : LD) (v2 : LB) : Option (Int) := F97x0 N v1 v2 (fun p => some p)
theorem bind97x0 (v1 : LD) (v2 : LB) (k0 : Int → Option R) : F97x0 N v1 v2 k0 = (G97x0 N v1 v2).bind k0 := by
  unfold G97x0 F97x0
  repeat' (first | with_reducible apply cond_b | (with_reducible apply bnd_b; intro _) | rfl)
noncomputable def sh97x0 : Sh := { tmps := [(0, .c (.sl 9)), (1, .c (.s))], mem := [] }
noncomputable def A97x0 (L : List Lf) : List (Bool × Res) := bnd (F97x0 N (ll L 1) (ls L 2) (fun p => some p)) fun q => [(q.isSome, ([.c (.i .i64 (q.getD default))], []))]
theorem raw97x0 (L : List Lf) : bd Try.prog (T66x0 N) (h97x0s1 N).h 97 sh97x0 L = F97x0 N (ll L 1) (ls L 2) (fun p => some ([.c (.i .i64 p)], [])) := by kernel_rfl
theorem ok97x0 : FnOk Try.prog 97 sh97x0 (A97x0 N) :=
  (h97x0s1 N).fn progOk (T66x0_ok N) fun L x hx => ((raw97x0 N L).trans ((bind97x0 N ..).trans (alt1 x hx)))
noncomputable def T97x0 : Oracle := ext 97 (spSh sh97x0 (A97x0 N)) (T66x0 N)
theorem T97x0_ok : OracleOk Try.prog (T97x0 N) := FnOk.to (ok97x0 N) (T66x0_ok N)
noncomputable def rg89x0 : List (Nat × List Nat) := [(0, [0, 1]), (1, [0, 1])]
noncomputable def hd89x0 : Hints := []
noncomputable def h89x0s0 (N : Nat) : Sg Try.prog 0 89 := .start hd89x0 rg89x0
noncomputable def F89x0 (v1 : LD) (v2 : LB) (k0 : Bool → Option R) : Option R :=
  bnd (G97x0 N v1 v2) fun y0 =>
  bif y0.isSome then
    k0 (decide ((y0.getD default) ≥ 0))
  else
    none
noncomputable def G89x0 (v1 : LD) (v2 : LB) : Option (Bool) := F89x0 N v1 v2 (fun p => some p)
theorem bind89x0 (v1 : LD) (v2 : LB) (k0 : Bool → Option R) : F89x0 N v1 v2 k0 = (G89x0 N v1 v2).bind k0 := by
  unfold G89x0 F89x0
  repeat' (first | with_reducible apply cond_b | (with_reducible apply bnd_b; intro _) | rfl)
noncomputable def sh89x0 : Sh := { tmps := [(0, .c (.sl 9)), (1, .c (.s))], mem := [] }
noncomputable def A89x0 (L : List Lf) : List (Bool × Res) := bnd (F89x0 N (ll L 1) (ls L 2) (fun p => some p)) fun q => [(q.isSome, ([.c (.b (q.getD default))], []))]
theorem raw89x0 (L : List Lf) : bd Try.prog (T97x0 N) (h89x0s0 N).h 89 sh89x0 L = F89x0 N (ll L 1) (ls L 2) (fun p => some ([.c (.b p)], [])) := by kernel_rfl
theorem ok89x0 : FnOk Try.prog 89 sh89x0 (A89x0 N) :=
  (h89x0s0 N).fn progOk (T97x0_ok N) fun L x hx => ((raw89x0 N L).trans ((bind89x0 N ..).trans (alt1 x hx)))
noncomputable def T89x0 : Oracle := ext 89 (spSh sh89x0 (A89x0 N)) (T97x0 N)
theorem T89x0_ok : OracleOk Try.prog (T89x0 N) := FnOk.to (ok89x0 N) (T97x0_ok N)
noncomputable def rg67x0 : List (Nat × List Nat) := [(0, [0, 1]), (1, [3, 2])]
noncomputable def hd67x0 : Hints := []
noncomputable def h67x0s0 (N : Nat) : Sg Try.prog 0 67 := .start hd67x0 rg67x0
noncomputable def F67x0 (v8 : LB) (v17 : LD) (k0 : Bool → Option R) : Option R :=
  bnd (G89x0 N v17 v8) fun y0 =>
  bif y0.isSome then
    k0 (y0.getD default)
  else
    none
noncomputable def G67x0 (v8 : LB) (v17 : LD) : Option (Bool) := F67x0 N v8 v17 (fun p => some p)
theorem bind67x0 (v8 : LB) (v17 : LD) (k0 : Bool → Option R) : F67x0 N v8 v17 k0 = (G67x0 N v8 v17).bind k0 := by
  unfold G67x0 F67x0
  repeat' (first | with_reducible apply cond_b | (with_reducible apply bnd_b; intro _) | rfl)
noncomputable def sh67x0 : Sh := { tmps := [(0, .g (rI 8 ([.s]))), (1, .g (.s :: [.i .i64, .i .i64, .sl 48, .sl 111, .sl 9]))], mem := [] }
noncomputable def A67x0 (L : List Lf) : List (Bool × Res) := bnd (F67x0 N (ls L 8) (ll L 17) (fun p => some p)) fun q => [(q.isSome, ([.c (.b (q.getD default))], []))]
theorem raw67x0 (L : List Lf) : bd Try.prog (T89x0 N) (h67x0s0 N).h 67 sh67x0 L = F67x0 N (ls L 8) (ll L 17) (fun p => some ([.c (.b p)], [])) := by kernel_rfl
theorem ok67x0 : FnOk Try.prog 67 sh67x0 (A67x0 N) :=
  (h67x0s0 N).fn progOk (T89x0_ok N) fun L x hx => ((raw67x0 N L).trans ((bind67x0 N ..).trans (alt1 x hx)))
noncomputable def T67x0 : Oracle := ext 67 (spSh sh67x0 (A67x0 N)) (T89x0 N)
theorem T67x0_ok : OracleOk Try.prog (T67x0 N) := FnOk.to (ok67x0 N) (T89x0_ok N)
noncomputable def rg71x0 : List (Nat × List Nat) := [(0, [0, 1, 2]), (1, [1, 3, 2]), (2, [6, 5, 3, 2])]
noncomputable def hd71x0 : Hints := [(4, [1, 3, 2], [6, 1, 2, 0], [])]
noncomputable def h71x0s0 (N : Nat) : Sg Try.prog 3 71 := .start hd71x0 rg71x0
noncomputable def F71x0x4 (N : Nat) (w11 : Int) (k0 : Unit → Option R) (k1 : Unit → Option R) (k2 : Unit → Option R) : Option R :=
  bif (w11 == 5) then
    k0 ()
  else
    bif (w11 == 4) then
      k1 ()
    else
      k2 ()
noncomputable def G71x0x4 (w11 : Int) : Option (Sum (Unit) (Sum (Unit) (Unit))) := F71x0x4 N w11 (fun p => some (.inl p)) (fun p => some (.inr (.inl p))) (fun p => some (.inr (.inr p)))
theorem bind71x0x4 (w11 : Int) (k0 : Unit → Option R) (k1 : Unit → Option R) (k2 : Unit → Option R) : F71x0x4 N w11 k0 k1 k2 = (G71x0x4 N w11).bind (sumE k0 (sumE k1 k2)) := by
  unfold G71x0x4 F71x0x4
  repeat' (first | with_reducible apply cond_b | (with_reducible apply bnd_b; intro _) | rfl)
noncomputable def sh71x0x4 : Sh := { tmps := [(1, .c (.p 0 0)), (2, .c (.p 1 0)), (3, .c (.p 6 0))], mem := [(0, .box ([.m 2])), (1, .box (.s :: [.i .i64, .i .i64, .sl 48, .sl 111, .sl 9])), (2, .kmap 3 96 [(5, 66), (4, 67)]), (6, .box (rI 8 ([.s])))] }
noncomputable def K71x0x4w0 (L : List Lf) (_ : Unit) : Ex × St := (.normal, mg (ofSh sh71x0x4 L) [2, 3, 5, 6] [(5, .c (.f 66 [])), (6, .c (.b true))] [0, 1, 2, 6] [])
noncomputable def K71x0x4w1 (L : List Lf) (_ : Unit) : Ex × St := (.normal, mg (ofSh sh71x0x4 L) [2, 3, 5, 6] [(5, .c (.f 67 [])), (6, .c (.b true))] [0, 1, 2, 6] [])
noncomputable def K71x0x4w2 (L : List Lf) (_ : Unit) : Ex × St := (.normal, mg (ofSh sh71x0x4 L) [2, 3, 5, 6] [(5, .c (.v .nilFunc)), (6, .c (.b false))] [0, 1, 2, 6] [])
noncomputable def A71x0x4 (L : List Lf) : List (Bool × (Ex × St)) := bnd (F71x0x4 N (li L 11) (fun p => some (.inl p)) (fun p => some (.inr (.inl p))) (fun p => some (.inr (.inr p)))) fun q => [((inlB q), K71x0x4w0 L ()), ((inlB (inrQ q)), K71x0x4w1 L ()), ((inrQ (inrQ q)).isSome, K71x0x4w2 L ())]
theorem raw71x0x4 (L : List Lf) : pc Try.prog (T67x0 N) (h71x0s0 N).h 3 100 71 4 sh71x0x4 L [6, 5, 3, 2] [2, 0, 6, 1] = F71x0x4 N (li L 11) (fun _ => some (K71x0x4w0 L ())) (fun _ => some (K71x0x4w1 L ())) (fun _ => some (K71x0x4w2 L ())) := by kernel_rfl
noncomputable def h71x0s1 : Sg Try.prog 3 71 :=
  (h71x0s0 N).cut (A71x0x4 N) progOk (T67x0_ok N) fun L x hx => (raw71x0x4 N L).trans ((bind71x0x4 N ..).trans ((altS (altS alt1)) x hx))
noncomputable def F71x0 (v1 v7 : Int) (v8 : LB) (v10 : Int) (v17 : LD) (k0 : Bool → Option R) : Option R :=
  bnd (G71x0x4 N v1) fun y0 =>
  bif (inlB y0) then
    bnd (V66x0 N v7 v10) fun y1 =>
    k0 y1
  else
    bif (inlB (inrQ y0)) then
      bnd (G67x0 N v8 v17) fun y2 =>
      bif y2.isSome then
        k0 (y2.getD default)
      else
        none
    else
      bif (inrQ (inrQ y0)).isSome then
        k0 false
      else
        none
noncomputable def G71x0 (v1 v7 : Int) (v8 : LB) (v10 : Int) (v17 : LD) : Option (Bool) := F71x0 N v1 v7 v8 v10 v17 (fun p => some p)
theorem bind71x0 (v1 v7 : Int) (v8 : LB) (v10 : Int) (v17 : LD) (k0 : Bool → Option R) : F71x0 N v1 v7 v8 v10 v17 k0 = (G71x0 N v1 v7 v8 v10 v17).bind k0 := by
  unfold G71x0 F71x0
  repeat' (first | with_reducible apply cond_b | (with_reducible apply bnd_b; intro _) | rfl)
noncomputable def J71x0 (L : List Lf) (k0 : Bool → Option R) : Option R := F71x0 N (li L 1) (li L 7) (ls L 8) (li L 10) (ll L 17) k0
noncomputable def sh71x0 : Sh := { tmps := [(0, .g (rI 8 ([.s]))), (1, .c (.p 0 0)), (2, .c (.p 1 0))], mem := [(0, .box ([.m 2])), (1, .box (.s :: [.i .i64, .i .i64, .sl 48, .sl 111, .sl 9])), (2, .kmap 3 96 [(5, 66), (4, 67)])] }
noncomputable def A71x0 (L : List Lf) : List (Bool × Res) := bnd (J71x0 N L (fun p => some p)) fun q => [(q.isSome, ([.c (.b (q.getD default))], mgA (ofSh sh71x0 L).mem [] [0, 1, 2]))]
theorem raw71x0 (L : List Lf) : bd Try.prog (T67x0 N) (h71x0s1 N).h 71 sh71x0 L = J71x0 N L (fun p => some ([.c (.b p)], mgA (ofSh sh71x0 L).mem [] [0, 1, 2])) := by kernel_rfl
theorem ok71x0 : FnOk Try.prog 71 sh71x0 (A71x0 N) :=
  (h71x0s1 N).fn progOk (T67x0_ok N) fun L x hx => ((raw71x0 N L).trans ((bind71x0 N ..).trans (alt1 x hx)))
noncomputable def T71x0 : Oracle := ext 71 (spSh sh71x0 (A71x0 N)) (T67x0 N)
theorem T71x0_ok : OracleOk Try.prog (T71x0 N) := FnOk.to (ok71x0 N) (T67x0_ok N)
noncomputable def rg90x0 : List (Nat × List Nat) := [(0, [0, 1]), (1, [0, 1]), (2, [8, 7, 1, 0]), (3, [8, 1, 0, 7]), (4, [1, 0, 5, 8, 7]), (5, [5]), (6, [8, 7, 1, 0]), (7, [])]
noncomputable def hd90x0 : Hints := [(6, [8, 7, 1, 0], [1, 2, 0], [])]
noncomputable def h90x0s0 (N : Nat) : Sg Try.prog 3 90 := .start hd90x0 rg90x0
noncomputable def S90x0x6 (w1 : LD) (w2 w5 : Int) (w12 : LD) (w3 : Int) (kr : Int → Option R) (k0 : Int → Option R) (k1 : Unit → Option R) : Option R :=
  bif (decide (w3 < w2)) then
    bif (inB w3 w1.length) then
      bnd (G71x0 N ((w1.getD w3.toNat (.i 0)).cell 1).toI ((w1.getD w3.toNat (.i 0)).cell 7).toI ((w1.getD w3.toNat (.i 0)).cell 8).toS w5 w12) fun y0 =>
      bif y0.isSome then
        bif (y0.getD default) then
          k0 w3
        else
          kr (IntKind.wrap .i64 (w3 + 1))
      else
        none
    else
      none
  else
    k1 ()
noncomputable def L90x0x6 (N : Nat) {R : Type} (w1 : LD) (w2 w5 : Int) (w12 : LD) : Nat → Int → (Int → Option R) → (Unit → Option R) → Option R
  | 0, _, _, _ => none
  | m + 1, w3, k0, k1 => S90x0x6 N w1 w2 w5 w12 w3 (fun w3 => L90x0x6 N w1 w2 w5 w12 m w3 k0 k1) k0 k1
noncomputable def G90x0x6 (w1 : LD) (w2 w5 : Int) (w12 : LD) (w3 : Int) : Option (Sum (Int) (Unit)) := L90x0x6 N (R := (Sum (Int) (Unit))) w1 w2 w5 w12 N w3 (fun p => some (.inl p)) (fun p => some (.inr p))
noncomputable def J90x0x6 (L x : List Lf) (kr : List Lf → Option R) (k0 : Int → Option R) (k1 : Unit → Option R) : Option R := S90x0x6 N (ll L 1) (li L 2) (li L 5) (ll L 12) (li x 0) (fun w3 => kr [.i w3]) k0 k1
theorem sb90x0x6 (L x : List Lf) (kr : List Lf → Option R) (k0 : Int → Option R) (k1 : Unit → Option R) : J90x0x6 N L x kr k0 k1 = (J90x0x6 N L x (fun y => some (.inl y)) (fun p => some (.inr (.inl p))) (fun p => some (.inr (.inr p)))).bind (sumE kr (sumE k0 k1)) := by
  unfold J90x0x6 S90x0x6
  repeat' (first | with_reducible apply cond_b | (with_reducible apply bnd_b; intro _) | rfl)
noncomputable def Q90x0x6 (L : List Lf) (m : Nat) (x : List Lf) : Option (Sum (Int) (Unit)) := L90x0x6 N (R := (Sum (Int) (Unit))) (ll L 1) (li L 2) (li L 5) (ll L 12) m (li x 0) (fun p => some (.inl p)) (fun p => some (.inr p))
noncomputable def sh90x0x6 : Sh := { tmps := [(0, .c (.sl 70)), (1, .c (.f 71 [(0, 0), (1, 0)])), (7, .c (.i .i64)), (8, .c (.i .i64))], mem := [(0, .box ([.m 2])), (1, .box (.s :: [.i .i64, .i .i64, .sl 48, .sl 111, .sl 9])), (2, .kmap 3 96 [(5, 66), (4, 67)])] }
noncomputable def K90x0x6w0 (L : List Lf) (p : Int) : Ex × St := (.ret, mg (ofSh sh90x0x6 L) [4] [(4, .c (.i .i64 p))] [0, 1, 2] [])
noncomputable def A90x0x6 (L : List Lf) : List (Bool × (Ex × St)) := bnd (Q90x0x6 N L N (pk sh90x0x6 [3] L)) fun q => [((inlB q), K90x0x6w0 L (inlV q)), ((inrQ q).isSome, ((.exit 0), mg (ofSh sh90x0x6 L) [] [] [0, 1, 2] []))]
theorem step90x0x6 (m : Nat) (kn : St → Option (Ex × St)) (L x : List Lf) : lpB Try.prog (T71x0 N) (h90x0s0 N).h 3 90 6 sh90x0x6 [3] [4] [1, 2, 0] (m + 100) kn L x = J90x0x6 N L x (fun y => kn (ofSh sh90x0x6 (mx sh90x0x6 [3] L y))) (fun p => some (K90x0x6w0 L p)) (fun _ => some ((.exit 0), mg (ofSh sh90x0x6 L) [] [] [0, 1, 2] [])) := by kernel_rfl
theorem ql90x0x6 (L : List Lf) (m : Nat) (x : List Lf) : Q90x0x6 N L (m + 1) x = J90x0x6 N L x (Q90x0x6 N L m) (fun p => some (.inl p)) (fun p => some (.inr p)) := by kernel_rfl
noncomputable def h90x0s1 : Sg Try.prog 3 90 :=
  (h90x0s0 N).lp (A90x0x6 N) N progOk (T71x0_ok N) (fun m kn L x => (step90x0x6 N m kn L x).trans (sb90x0x6 N L x _ _ _)) (fun L m x => (ql90x0x6 N L m x).trans (sb90x0x6 N L x (Q90x0x6 N L m) (fun p => some (.inl p)) (fun p => some (.inr p)))) fun L x hx => (altS alt1) x hx
noncomputable def F90x0 (v1 : LD) (v3 : Int) (v10 : LD) (k0 : Int → Option R) : Option R :=
  bnd (G90x0x6 N v1 (v1.length : Int) v3 v10 0) fun y0 =>
  bif (inlB y0) then
    k0 (inlV y0)
  else
    bif (inrQ y0).isSome then
      k0 (-1)
    else
      none
noncomputable def G90x0 (v1 : LD) (v3 : Int) (v10 : LD) : Option (Int) := F90x0 N v1 v3 v10 (fun p => some p)
theorem bind90x0 (v1 : LD) (v3 : Int) (v10 : LD) (k0 : Int → Option R) : F90x0 N v1 v3 v10 k0 = (G90x0 N v1 v3 v10).bind k0 := by
  unfold G90x0 F90x0
  repeat' (first | with_reducible apply cond_b | (with_reducible apply bnd_b; intro _) | rfl)
noncomputable def sh90x0 : Sh := { tmps := [(0, .c (.sl 70)), (1, .c (.f 71 [(0, 0), (1, 0)]))], mem := [(0, .box ([.m 2])), (1, .box (.s :: [.i .i64, .i .i64, .sl 48, .sl 111, .sl 9])), (2, .kmap 3 96 [(5, 66), (4, 67)])] }
noncomputable def A90x0 (L : List Lf) : List (Bool × Res) := bnd (F90x0 N (ll L 1) (li L 3) (ll L 10) (fun p => some p)) fun q => [(q.isSome, ([.c (.i .i64 (q.getD default))], mgA (ofSh sh90x0 L).mem [] [0, 1, 2]))]
theorem raw90x0 (L : List Lf) : bd Try.prog (T71x0 N) (h90x0s1 N).h 90 sh90x0 L = F90x0 N (ll L 1) (li L 3) (ll L 10) (fun p => some ([.c (.i .i64 p)], mgA (ofSh sh90x0 L).mem [] [0, 1, 2])) := by kernel_rfl
theorem ok90x0 : FnOk Try.prog 90 sh90x0 (A90x0 N) :=
  (h90x0s1 N).fn progOk (T71x0_ok N) fun L x hx => ((raw90x0 N L).trans ((bind90x0 N ..).trans (alt1 x hx)))
noncomputable def T90x0 : Oracle := ext 90 (spSh sh90x0 (A90x0 N)) (T71x0 N)
theorem T90x0_ok : OracleOk Try.prog (T90x0 N) := FnOk.to (ok90x0 N) (T71x0_ok N)
noncomputable def rg70x0 : List (Nat × List Nat) := [(0, [0, 1]), (1, [0, 1])]
noncomputable def hd70x0 : Hints := []
noncomputable def h70x0s0 (N : Nat) : Sg Try.prog 3 70 := .start hd70x0 rg70x0
noncomputable def F70x0 (v1 : LD) (v3 : Int) (v10 : LD) (k0 : Bool → Option R) : Option R :=
  bnd (G90x0 N v1 v3 v10) fun y0 =>
  bif y0.isSome then
    k0 (decide ((y0.getD default) ≥ 0))
  else
    none
noncomputable def G70x0 (v1 : LD) (v3 : Int) (v10 : LD) : Option (Bool) := F70x0 N v1 v3 v10 (fun p => some p)
theorem bind70x0 (v1 : LD) (v3 : Int) (v10 : LD) (k0 : Bool → Option R) : F70x0 N v1 v3 v10 k0 = (G70x0 N v1 v3 v10).bind k0 := by
  unfold G70x0 F70x0
  repeat' (first | with_reducible apply cond_b | (with_reducible apply bnd_b; intro _) | rfl)
noncomputable def sh70x0 : Sh := { tmps := [(0, .c (.sl 70)), (1, .c (.f 71 [(0, 0), (1, 0)]))], mem := [(0, .box ([.m 2])), (1, .box (.s :: [.i .i64, .i .i64, .sl 48, .sl 111, .sl 9])), (2, .kmap 3 96 [(5, 66), (4, 67)])] }
noncomputable def A70x0 (L : List Lf) : List (Bool × Res) := bnd (F70x0 N (ll L 1) (li L 3) (ll L 10) (fun p => some p)) fun q => [(q.isSome, ([.c (.b (q.getD default))], mgA (ofSh sh70x0 L).mem [] [0, 1, 2]))]
theorem raw70x0 (L : List Lf) : bd Try.prog (T90x0 N) (h70x0s0 N).h 70 sh70x0 L = F70x0 N (ll L 1) (li L 3) (ll L 10) (fun p => some ([.c (.b p)], mgA (ofSh sh70x0 L).mem [] [0, 1, 2])) := by kernel_rfl
theorem ok70x0 : FnOk Try.prog 70 sh70x0 (A70x0 N) :=
  (h70x0s0 N).fn progOk (T90x0_ok N) fun L x hx => ((raw70x0 N L).trans ((bind70x0 N ..).trans (alt1 x hx)))
noncomputable def T70x0 : Oracle := ext 70 (spSh sh70x0 (A70x0 N)) (T90x0 N)
theorem T70x0_ok : OracleOk Try.prog (T70x0 N) := FnOk.to (ok70x0 N) (T90x0_ok N)
noncomputable def rg68x0 : List (Nat × List Nat) := [(0, [0, 1, 2]), (1, [5, 3])]
noncomputable def hd68x0 : Hints := []
noncomputable def h68x0s0 (N : Nat) : Sg Try.prog 0 68 := .start hd68x0 rg68x0
noncomputable def F68x0 (N : Nat) (v2 v3 v4 v19 v20 : Int) (k0 : Bool → R) : R :=
  bnd (IntKind.wrap .i64 ((IntKind.wrap .i64 (v19 - v2)) * (IntKind.wrap .i64 (v19 - v2)))) fun y0 =>
  bnd (IntKind.wrap .i64 ((IntKind.wrap .i64 (v20 - v3)) * (IntKind.wrap .i64 (v20 - v3)))) fun y1 =>
  bnd (decide ((IntKind.wrap .i64 (y0 + y1)) ≤ (IntKind.wrap .i64 (v4 * v4)))) fun y2 =>
  k0 y2
noncomputable def V68x0 (v2 v3 v4 v19 v20 : Int) : Bool := F68x0 N v2 v3 v4 v19 v20 (fun p => p)
theorem tot68x0 (v2 v3 v4 v19 v20 : Int) (k0 : Bool → R) : F68x0 N v2 v3 v4 v19 v20 k0 = k0 (V68x0 N v2 v3 v4 v19 v20) := by
  unfold V68x0 F68x0
  repeat' (first | rfl | apply cond_k | (apply bnd_k; intro _))
noncomputable def J68x0 (L : List Lf) (k0 : Bool → R) : R := F68x0 N (li L 2) (li L 3) (li L 4) (li L 19) (li L 20) k0
noncomputable def sh68x0 : Sh := { tmps := [(0, .g (rI 8 ([.s]))), (1, .g (.s :: [.i .i64, .i .i64, .sl 48, .sl 111, .sl 9])), (2, .g (rI 7 ([])))], mem := [] }
noncomputable def A68x0 (L : List Lf) : List (Bool × Res) := bnd (J68x0 N L (fun p => p)) fun q => [(true, ([.c (.b q)], []))]
theorem raw68x0 (L : List Lf) : bd Try.prog (T70x0 N) (h68x0s0 N).h 68 sh68x0 L = J68x0 N L (fun p => some ([.c (.b p)], [])) := by kernel_rfl
theorem ok68x0 : FnOk Try.prog 68 sh68x0 (A68x0 N) :=
  (h68x0s0 N).fn progOk (T70x0_ok N) fun L x hx => ((raw68x0 N L).trans ((tot68x0 N ..).trans (alt0 _ _ hx)))
noncomputable def T68x0 : Oracle := ext 68 (spSh sh68x0 (A68x0 N)) (T70x0 N)
theorem T68x0_ok : OracleOk Try.prog (T68x0 N) := FnOk.to (ok68x0 N) (T70x0_ok N)
noncomputable def rg69x0 : List (Nat × List Nat) := [(0, [0, 1, 2]), (1, [4, 5, 3]), (2, [3, 7])]
noncomputable def hd69x0 : Hints := []
noncomputable def h69x0s0 (N : Nat) : Sg Try.prog 0 69 := .start hd69x0 rg69x0
noncomputable def F69x0 (N : Nat) (v5 v6 v11 v18 : Int) (k0 : Bool → R) : R :=
  bnd (bif (decide (v5 ≤ ((IntKind.wrap .i64 (v11 + v18)).tmod 86400))) then (decide (((IntKind.wrap .i64 (v11 + v18)).tmod 86400) ≤ v6)) else false) fun y0 =>
  k0 y0
noncomputable def V69x0 (v5 v6 v11 v18 : Int) : Bool := F69x0 N v5 v6 v11 v18 (fun p => p)
theorem tot69x0 (v5 v6 v11 v18 : Int) (k0 : Bool → R) : F69x0 N v5 v6 v11 v18 k0 = k0 (V69x0 N v5 v6 v11 v18) := by
  unfold V69x0 F69x0
  repeat' (first | rfl | apply cond_k | (apply bnd_k; intro _))
noncomputable def J69x0 (L : List Lf) (k0 : Bool → R) : R := F69x0 N (li L 5) (li L 6) (li L 11) (li L 18) k0
noncomputable def sh69x0 : Sh := { tmps := [(0, .g (rI 8 ([.s]))), (1, .g (.s :: [.i .i64, .i .i64, .sl 48, .sl 111, .sl 9])), (2, .g (rI 7 ([])))], mem := [] }
noncomputable def A69x0 (L : List Lf) : List (Bool × Res) := bnd (J69x0 N L (fun p => p)) fun q => [(true, ([.c (.b q)], []))]
theorem raw69x0 (L : List Lf) : bd Try.prog (T68x0 N) (h69x0s0 N).h 69 sh69x0 L = J69x0 N L (fun p => some ([.c (.b p)], [])) := by kernel_rfl
theorem ok69x0 : FnOk Try.prog 69 sh69x0 (A69x0 N) :=
  (h69x0s0 N).fn progOk (T68x0_ok N) fun L x hx => ((raw69x0 N L).trans ((tot69x0 N ..).trans (alt0 _ _ hx)))
noncomputable def T69x0 : Oracle := ext 69 (spSh sh69x0 (A69x0 N)) (T68x0 N)
theorem T69x0_ok : OracleOk Try.prog (T69x0 N) := FnOk.to (ok69x0 N) (T68x0_ok N)
noncomputable def rg72x0 : List (Nat × List Nat) := [(0, [0, 1, 2, 3]), (1, [1, 4, 2, 3]), (2, [7, 6, 4, 2, 3])]
noncomputable def hd72x0 : Hints := [(4, [1, 4, 2, 3], [8, 2, 1, 3, 0], [])]
noncomputable def h72x0s0 (N : Nat) : Sg Try.prog 4 72 := .start hd72x0 rg72x0
noncomputable def F72x0x4 (N : Nat) (w18 : Int) (k0 : Unit → Option R) (k1 : Unit → Option R) (k2 : Unit → Option R) : Option R :=
  bif (w18 == 1) then
    k0 ()
  else
    bif (w18 == 2) then
      k1 ()
    else
      k2 ()
noncomputable def G72x0x4 (w18 : Int) : Option (Sum (Unit) (Sum (Unit) (Unit))) := F72x0x4 N w18 (fun p => some (.inl p)) (fun p => some (.inr (.inl p))) (fun p => some (.inr (.inr p)))
theorem bind72x0x4 (w18 : Int) (k0 : Unit → Option R) (k1 : Unit → Option R) (k2 : Unit → Option R) : F72x0x4 N w18 k0 k1 k2 = (G72x0x4 N w18).bind (sumE k0 (sumE k1 k2)) := by
  unfold G72x0x4 F72x0x4
  repeat' (first | with_reducible apply cond_b | (with_reducible apply bnd_b; intro _) | rfl)
noncomputable def sh72x0x4 : Sh := { tmps := [(1, .c (.p 0 0)), (2, .c (.p 1 0)), (3, .c (.p 2 0)), (4, .c (.p 8 0))], mem := [(0, .box ([.m 3])), (1, .box (.s :: [.i .i64, .i .i64, .sl 48, .sl 111, .sl 9])), (2, .box (rI 7 ([]))), (3, .kmap 3 99 [(1, 68), (2, 69)]), (8, .box (rI 8 ([.s])))] }
noncomputable def K72x0x4w0 (L : List Lf) (_ : Unit) : Ex × St := (.normal, mg (ofSh sh72x0x4 L) [2, 3, 4, 6, 7] [(6, .c (.f 68 [])), (7, .c (.b true))] [0, 1, 2, 3, 8] [])
noncomputable def K72x0x4w1 (L : List Lf) (_ : Unit) : Ex × St := (.normal, mg (ofSh sh72x0x4 L) [2, 3, 4, 6, 7] [(6, .c (.f 69 [])), (7, .c (.b true))] [0, 1, 2, 3, 8] [])
noncomputable def K72x0x4w2 (L : List Lf) (_ : Unit) : Ex × St := (.normal, mg (ofSh sh72x0x4 L) [2, 3, 4, 6, 7] [(6, .c (.v .nilFunc)), (7, .c (.b false))] [0, 1, 2, 3, 8] [])
noncomputable def A72x0x4 (L : List Lf) : List (Bool × (Ex × St)) := bnd (F72x0x4 N (li L 18) (fun p => some (.inl p)) (fun p => some (.inr (.inl p))) (fun p => some (.inr (.inr p)))) fun q => [((inlB q), K72x0x4w0 L ()), ((inlB (inrQ q)), K72x0x4w1 L ()), ((inrQ (inrQ q)).isSome, K72x0x4w2 L ())]
theorem raw72x0x4 (L : List Lf) : pc Try.prog (T69x0 N) (h72x0s0 N).h 4 100 72 4 sh72x0x4 L [7, 6, 4, 2, 3] [3, 0, 8, 2, 1] = F72x0x4 N (li L 18) (fun _ => some (K72x0x4w0 L ())) (fun _ => some (K72x0x4w1 L ())) (fun _ => some (K72x0x4w2 L ())) := by kernel_rfl
noncomputable def h72x0s1 : Sg Try.prog 4 72 :=
  (h72x0s0 N).cut (A72x0x4 N) progOk (T69x0_ok N) fun L x hx => (raw72x0x4 N L).trans ((bind72x0x4 N ..).trans ((altS (altS alt1)) x hx))
noncomputable def F72x0 (v1 v2 v3 v4 v5 v6 v11 v18 v19 v20 : Int) (k0 : Bool → Option R) : Option R :=
  bnd (G72x0x4 N v1) fun y0 =>
  bif (inlB y0) then
    bnd (V68x0 N v2 v3 v4 v19 v20) fun y1 =>
    k0 y1
  else
    bif (inlB (inrQ y0)) then
      bnd (V69x0 N v5 v6 v11 v18) fun y2 =>
      k0 y2
    else
      bif (inrQ (inrQ y0)).isSome then
        k0 false
      else
        none
noncomputable def G72x0 (v1 v2 v3 v4 v5 v6 v11 v18 v19 v20 : Int) : Option (Bool) := F72x0 N v1 v2 v3 v4 v5 v6 v11 v18 v19 v20 (fun p => some p)
theorem bind72x0 (v1 v2 v3 v4 v5 v6 v11 v18 v19 v20 : Int) (k0 : Bool → Option R) : F72x0 N v1 v2 v3 v4 v5 v6 v11 v18 v19 v20 k0 = (G72x0 N v1 v2 v3 v4 v5 v6 v11 v18 v19 v20).bind k0 := by
  unfold G72x0 F72x0
  repeat' (first | with_reducible apply cond_b | (with_reducible apply bnd_b; intro _) | rfl)
noncomputable def J72x0 (L : List Lf) (k0 : Bool → Option R) : Option R := F72x0 N (li L 1) (li L 2) (li L 3) (li L 4) (li L 5) (li L 6) (li L 11) (li L 18) (li L 19) (li L 20) k0
noncomputable def sh72x0 : Sh := { tmps := [(0, .g (rI 8 ([.s]))), (1, .c (.p 0 0)), (2, .c (.p 1 0)), (3, .c (.p 2 0))], mem := [(0, .box ([.m 3])), (1, .box (.s :: [.i .i64, .i .i64, .sl 48, .sl 111, .sl 9])), (2, .box (rI 7 ([]))), (3, .kmap 3 99 [(1, 68), (2, 69)])] }
noncomputable def A72x0 (L : List Lf) : List (Bool × Res) := bnd (J72x0 N L (fun p => some p)) fun q => [(q.isSome, ([.c (.b (q.getD default))], mgA (ofSh sh72x0 L).mem [] [0, 1, 2, 3]))]
theorem raw72x0 (L : List Lf) : bd Try.prog (T69x0 N) (h72x0s1 N).h 72 sh72x0 L = J72x0 N L (fun p => some ([.c (.b p)], mgA (ofSh sh72x0 L).mem [] [0, 1, 2, 3])) := by kernel_rfl
theorem ok72x0 : FnOk Try.prog 72 sh72x0 (A72x0 N) :=
  (h72x0s1 N).fn progOk (T69x0_ok N) fun L x hx => ((raw72x0 N L).trans ((bind72x0 N ..).trans (alt1 x hx)))
noncomputable def T72x0 : Oracle := ext 72 (spSh sh72x0 (A72x0 N)) (T69x0 N)
theorem T72x0_ok : OracleOk Try.prog (T72x0 N) := FnOk.to (ok72x0 N) (T69x0_ok N)
noncomputable def rg90x1 : List (Nat × List Nat) := [(0, [0, 1]), (1, [0, 1]), (2, [8, 7, 1, 0]), (3, [8, 1, 0, 7]), (4, [1, 0, 5, 8, 7]), (5, [5]), (6, [8, 7, 1, 0]), (7, [])]
noncomputable def hd90x1 : Hints := [(6, [8, 7, 1, 0], [2, 1, 3, 0], [])]
noncomputable def h90x1s0 (N : Nat) : Sg Try.prog 4 90 := .start hd90x1 rg90x1
noncomputable def S90x1x6 (w1 : LD) (w2 w6 w13 w14 w15 : Int) (w3 : Int) (kr : Int → Option R) (k0 : Int → Option R) (k1 : Unit → Option R) : Option R :=
  bif (decide (w3 < w2)) then
    bif (inB w3 w1.length) then
      bnd (G72x0 N ((w1.getD w3.toNat (.i 0)).cell 1).toI ((w1.getD w3.toNat (.i 0)).cell 2).toI ((w1.getD w3.toNat (.i 0)).cell 3).toI ((w1.getD w3.toNat (.i 0)).cell 4).toI ((w1.getD w3.toNat (.i 0)).cell 5).toI ((w1.getD w3.toNat (.i 0)).cell 6).toI w6 w13 w14 w15) fun y0 =>
      bif y0.isSome then
        bif (y0.getD default) then
          k0 w3
        else
          kr (IntKind.wrap .i64 (w3 + 1))
      else
        none
    else
      none
  else
    k1 ()
noncomputable def L90x1x6 (N : Nat) {R : Type} (w1 : LD) (w2 w6 w13 w14 w15 : Int) : Nat → Int → (Int → Option R) → (Unit → Option R) → Option R
  | 0, _, _, _ => none
  | m + 1, w3, k0, k1 => S90x1x6 N w1 w2 w6 w13 w14 w15 w3 (fun w3 => L90x1x6 N w1 w2 w6 w13 w14 w15 m w3 k0 k1) k0 k1
noncomputable def G90x1x6 (w1 : LD) (w2 w6 w13 w14 w15 : Int) (w3 : Int) : Option (Sum (Int) (Unit)) := L90x1x6 N (R := (Sum (Int) (Unit))) w1 w2 w6 w13 w14 w15 N w3 (fun p => some (.inl p)) (fun p => some (.inr p))
noncomputable def J90x1x6 (L x : List Lf) (kr : List Lf → Option R) (k0 : Int → Option R) (k1 : Unit → Option R) : Option R := S90x1x6 N (ll L 1) (li L 2) (li L 6) (li L 13) (li L 14) (li L 15) (li x 0) (fun w3 => kr [.i w3]) k0 k1
theorem sb90x1x6 (L x : List Lf) (kr : List Lf → Option R) (k0 : Int → Option R) (k1 : Unit → Option R) : J90x1x6 N L x kr k0 k1 = (J90x1x6 N L x (fun y => some (.inl y)) (fun p => some (.inr (.inl p))) (fun p => some (.inr (.inr p)))).bind (sumE kr (sumE k0 k1)) := by
  unfold J90x1x6 S90x1x6
  repeat' (first | with_reducible apply cond_b | (with_reducible apply bnd_b; intro _) | rfl)
noncomputable def Q90x1x6 (L : List Lf) (m : Nat) (x : List Lf) : Option (Sum (Int) (Unit)) := L90x1x6 N (R := (Sum (Int) (Unit))) (ll L 1) (li L 2) (li L 6) (li L 13) (li L 14) (li L 15) m (li x 0) (fun p => some (.inl p)) (fun p => some (.inr p))
noncomputable def sh90x1x6 : Sh := { tmps := [(0, .c (.sl 70)), (1, .c (.f 72 [(0, 0), (1, 0), (2, 0)])), (7, .c (.i .i64)), (8, .c (.i .i64))], mem := [(0, .box ([.m 3])), (1, .box (.s :: [.i .i64, .i .i64, .sl 48, .sl 111, .sl 9])), (2, .box (rI 7 ([]))), (3, .kmap 3 99 [(1, 68), (2, 69)])] }
noncomputable def K90x1x6w0 (L : List Lf) (p : Int) : Ex × St := (.ret, mg (ofSh sh90x1x6 L) [4] [(4, .c (.i .i64 p))] [0, 1, 2, 3] [])
noncomputable def A90x1x6 (L : List Lf) : List (Bool × (Ex × St)) := bnd (Q90x1x6 N L N (pk sh90x1x6 [3] L)) fun q => [((inlB q), K90x1x6w0 L (inlV q)), ((inrQ q).isSome, ((.exit 0), mg (ofSh sh90x1x6 L) [] [] [0, 1, 2, 3] []))]
theorem step90x1x6 (m : Nat) (kn : St → Option (Ex × St)) (L x : List Lf) : lpB Try.prog (T72x0 N) (h90x1s0 N).h 4 90 6 sh90x1x6 [3] [4] [2, 1, 3, 0] (m + 100) kn L x = J90x1x6 N L x (fun y => kn (ofSh sh90x1x6 (mx sh90x1x6 [3] L y))) (fun p => some (K90x1x6w0 L p)) (fun _ => some ((.exit 0), mg (ofSh sh90x1x6 L) [] [] [0, 1, 2, 3] [])) := by kernel_rfl
theorem ql90x1x6 (L : List Lf) (m : Nat) (x : List Lf) : Q90x1x6 N L (m + 1) x = J90x1x6 N L x (Q90x1x6 N L m) (fun p => some (.inl p)) (fun p => some (.inr p)) := by kernel_rfl
noncomputable def h90x1s1 : Sg Try.prog 4 90 :=
  (h90x1s0 N).lp (A90x1x6 N) N progOk (T72x0_ok N) (fun m kn L x => (step90x1x6 N m kn L x).trans (sb90x1x6 N L x _ _ _)) (fun L m x => (ql90x1x6 N L m x).trans (sb90x1x6 N L x (Q90x1x6 N L m) (fun p => some (.inl p)) (fun p => some (.inr p)))) fun L x hx => (altS alt1) x hx
noncomputable def F90x1 (v1 : LD) (v4 v11 v12 v13 : Int) (k0 : Int → Option R) : Option R :=
  bnd (G90x1x6 N v1 (v1.length : Int) v4 v11 v12 v13 0) fun y0 =>
  bif (inlB y0) then
    k0 (inlV y0)
  else
    bif (inrQ y0).isSome then
      k0 (-1)
    else
      none
noncomputable def G90x1 (v1 : LD) (v4 v11 v12 v13 : Int) : Option (Int) := F90x1 N v1 v4 v11 v12 v13 (fun p => some p)
theorem bind90x1 (v1 : LD) (v4 v11 v12 v13 : Int) (k0 : Int → Option R) : F90x1 N v1 v4 v11 v12 v13 k0 = (G90x1 N v1 v4 v11 v12 v13).bind k0 := by
  unfold G90x1 F90x1
  repeat' (first | with_reducible apply cond_b | (with_reducible apply bnd_b; intro _) | rfl)
noncomputable def J90x1 (L : List Lf) (k0 : Int → Option R) : Option R := F90x1 N (ll L 1) (li L 4) (li L 11) (li L 12) (li L 13) k0
noncomputable def sh90x1 : Sh := { tmps := [(0, .c (.sl 70)), (1, .c (.f 72 [(0, 0), (1, 0), (2, 0)]))], mem := [(0, .box ([.m 3])), (1, .box (.s :: [.i .i64, .i .i64, .sl 48, .sl 111, .sl 9])), (2, .box (rI 7 ([]))), (3, .kmap 3 99 [(1, 68), (2, 69)])] }
noncomputable def A90x1 (L : List Lf) : List (Bool × Res) := bnd (J90x1 N L (fun p => some p)) fun q => [(q.isSome, ([.c (.i .i64 (q.getD default))], mgA (ofSh sh90x1 L).mem [] [0, 1, 2, 3]))]
theorem raw90x1 (L : List Lf) : bd Try.prog (T72x0 N) (h90x1s1 N).h 90 sh90x1 L = J90x1 N L (fun p => some ([.c (.i .i64 p)], mgA (ofSh sh90x1 L).mem [] [0, 1, 2, 3])) := by kernel_rfl
theorem ok90x1 : FnOk Try.prog 90 sh90x1 (A90x1 N) :=
  (h90x1s1 N).fn progOk (T72x0_ok N) fun L x hx => ((raw90x1 N L).trans ((bind90x1 N ..).trans (alt1 x hx)))
noncomputable def T90x1 : Oracle := ext 90 (spSh sh90x1 (A90x1 N)) (T72x0 N)
theorem T90x1_ok : OracleOk Try.prog (T90x1 N) := FnOk.to (ok90x1 N) (T72x0_ok N)
noncomputable def rg70x1 : List (Nat × List Nat) := [(0, [0, 1]), (1, [0, 1])]
noncomputable def hd70x1 : Hints := []
noncomputable def h70x1s0 (N : Nat) : Sg Try.prog 4 70 := .start hd70x1 rg70x1
noncomputable def F70x1 (v1 : LD) (v4 v11 v12 v13 : Int) (k0 : Bool → Option R) : Option R :=
  bnd (G90x1 N v1 v4 v11 v12 v13) fun y0 =>
  bif y0.isSome then
    k0 (decide ((y0.getD default) ≥ 0))
  else
    none
noncomputable def G70x1 (v1 : LD) (v4 v11 v12 v13 : Int) : Option (Bool) := F70x1 N v1 v4 v11 v12 v13 (fun p => some p)
theorem bind70x1 (v1 : LD) (v4 v11 v12 v13 : Int) (k0 : Bool → Option R) : F70x1 N v1 v4 v11 v12 v13 k0 = (G70x1 N v1 v4 v11 v12 v13).bind k0 := by
  unfold G70x1 F70x1
  repeat' (first | with_reducible apply cond_b | (with_reducible apply bnd_b; intro _) | rfl)
noncomputable def J70x1 (L : List Lf) (k0 : Bool → Option R) : Option R := F70x1 N (ll L 1) (li L 4) (li L 11) (li L 12) (li L 13) k0
noncomputable def sh70x1 : Sh := { tmps := [(0, .c (.sl 70)), (1, .c (.f 72 [(0, 0), (1, 0), (2, 0)]))], mem := [(0, .box ([.m 3])), (1, .box (.s :: [.i .i64, .i .i64, .sl 48, .sl 111, .sl 9])), (2, .box (rI 7 ([]))), (3, .kmap 3 99 [(1, 68), (2, 69)])] }
noncomputable def A70x1 (L : List Lf) : List (Bool × Res) := bnd (J70x1 N L (fun p => some p)) fun q => [(q.isSome, ([.c (.b (q.getD default))], mgA (ofSh sh70x1 L).mem [] [0, 1, 2, 3]))]
theorem raw70x1 (L : List Lf) : bd Try.prog (T90x1 N) (h70x1s0 N).h 70 sh70x1 L = J70x1 N L (fun p => some ([.c (.b p)], mgA (ofSh sh70x1 L).mem [] [0, 1, 2, 3])) := by kernel_rfl
theorem ok70x1 : FnOk Try.prog 70 sh70x1 (A70x1 N) :=
  (h70x1s0 N).fn progOk (T90x1_ok N) fun L x hx => ((raw70x1 N L).trans ((bind70x1 N ..).trans (alt1 x hx)))
noncomputable def T70x1 : Oracle := ext 70 (spSh sh70x1 (A70x1 N)) (T90x1 N)
theorem T70x1_ok : OracleOk Try.prog (T70x1 N) := FnOk.to (ok70x1 N) (T90x1_ok N)
noncomputable def rg40x0 : List (Nat × List Nat) := [(0, [1, 0]), (1, [0, 3]), (2, [0, 6, 3]), (3, [0, 6, 3, 7]), (4, [3, 8, 0, 7]), (5, [3, 9, 8, 0, 7]), (6, [26, 25, 24, 9, 8, 0, 7, 3]), (7, [26, 24, 9, 8, 0, 7, 3, 25]), (8, [9, 10, 8, 0, 7, 3, 11, 26, 25, 24]), (9, [26, 25, 24, 9, 8, 0, 7, 3]), (10, [9, 8])]
noncomputable def hd40x0 : Hints := [(18, [26, 25, 24, 9, 8, 0, 7, 3], [22, 14, 7, 3], []), (25, [9, 10, 8, 0, 7, 3, 11, 26, 25, 24], [11, 22, 14, 7, 3], [])]
noncomputable def h40x0s0 (N : Nat) : Sg Try.prog 0 40 := .start hd40x0 rg40x0
noncomputable def F40x0x25 (w1 : LD) (w2 : Bool) (w3 w10 w17 w18 w19 : Int) (w26 : LD) (k0 : LD → Option R) : Option R :=
  bif w2 then
    bif (inB w3 w26.length) then
      bif (decide (w3.toNat < w26.length)) then
        k0 (w26.set w3.toNat (.b true))
      else
        none
    else
      none
  else
    bnd (G70x1 N w1 w10 w17 w18 w19) fun y0 =>
    bif y0.isSome then
      bif (inB w3 w26.length) then
        bif (decide (w3.toNat < w26.length)) then
          k0 (w26.set w3.toNat (.b (y0.getD default)))
        else
          none
      else
        none
    else
      none
noncomputable def G40x0x25 (w1 : LD) (w2 : Bool) (w3 w10 w17 w18 w19 : Int) (w26 : LD) : Option (LD) := F40x0x25 N w1 w2 w3 w10 w17 w18 w19 w26 (fun p => some p)
theorem bind40x0x25 (w1 : LD) (w2 : Bool) (w3 w10 w17 w18 w19 : Int) (w26 : LD) (k0 : LD → Option R) : F40x0x25 N w1 w2 w3 w10 w17 w18 w19 w26 k0 = (G40x0x25 N w1 w2 w3 w10 w17 w18 w19 w26).bind k0 := by
  unfold G40x0x25 F40x0x25
  repeat' (first | with_reducible apply cond_b | (with_reducible apply bnd_b; intro _) | rfl)
noncomputable def J40x0x25 (L : List Lf) (k0 : LD → Option R) : Option R := F40x0x25 N (ll L 1) (lb L 2) (li L 3) (li L 10) (li L 17) (li L 18) (li L 19) (ll L 26) k0
noncomputable def sh40x0x25 : Sh := { tmps := [(0, .c (.sl 70)), (3, .c (.p 3 0)), (7, .c (.p 7 0)), (8, .c (.b)), (9, .c (.o 22)), (10, .c (.i .i64)), (11, .c (.p 11 0)), (24, .c (.sl 48)), (25, .c (.i .i64)), (26, .c (.i .i64))], mem := [(3, .box (.s :: [.i .i64, .i .i64, .sl 48, .sl 111, .sl 9])), (7, .box ([.m 14])), (11, .box (rI 7 ([]))), (14, .kmap 3 99 [(1, 68), (2, 69)]), (22, .row 4 true)] }
noncomputable def K40x0x25w0 (L : List Lf) (p : LD) : Ex × St := (.normal, mg (ofSh sh40x0x25 L) [0, 3, 7, 8, 9, 24, 25, 26] [] [3, 7, 14, 22] [(22, .row 4 true (lb L 25) p)])
noncomputable def A40x0x25 (L : List Lf) : List (Bool × (Ex × St)) := bnd (J40x0x25 N L (fun p => some p)) fun q => [(q.isSome, K40x0x25w0 L (q.getD default))]
theorem raw40x0x25 (L : List Lf) : pc Try.prog (T70x1 N) (h40x0s0 N).h 0 100 40 25 sh40x0x25 L [26, 25, 24, 9, 8, 0, 7, 3] [22, 14, 7, 3] = J40x0x25 N L (fun p => some (K40x0x25w0 L p)) := by kernel_rfl
noncomputable def h40x0s1 : Sg Try.prog 0 40 :=
  (h40x0s0 N).cut (A40x0x25 N) progOk (T70x1_ok N) fun L x hx => (raw40x0x25 N L).trans ((bind40x0x25 N ..).trans (alt1 x hx))
noncomputable def S40x0x18 (w1 : LD) (w2 : Bool) (w4 : LD) (w5 w9 : Int) (w6 : Int) (w18 : LD) (kr : Int → LD → Option R) (k0 : LD → Option R) : Option R :=
  bif (decide (w6 < w5)) then
    bif (inB w6 w4.length) then
      bnd (G40x0x25 N w1 w2 w6 w9 ((w4.getD w6.toNat (.i 0)).cell 0).toI ((w4.getD w6.toNat (.i 0)).cell 1).toI ((w4.getD w6.toNat (.i 0)).cell 2).toI w18) fun y0 =>
      bif y0.isSome then
        kr (IntKind.wrap .i64 (w6 + 1)) (y0.getD default)
      else
        none
    else
      none
  else
    k0 w18
noncomputable def L40x0x18 (N : Nat) {R : Type} (w1 : LD) (w2 : Bool) (w4 : LD) (w5 w9 : Int) : Nat → Int → LD → (LD → Option R) → Option R
  | 0, _, _, _ => none
  | m + 1, w6, w18, k0 => S40x0x18 N w1 w2 w4 w5 w9 w6 w18 (fun w6 w18 => L40x0x18 N w1 w2 w4 w5 w9 m w6 w18 k0) k0
noncomputable def G40x0x18 (w1 : LD) (w2 : Bool) (w4 : LD) (w5 w9 : Int) (w6 : Int) (w18 : LD) : Option (LD) := L40x0x18 N (R := (LD)) w1 w2 w4 w5 w9 N w6 w18 (fun p => some p)
noncomputable def J40x0x18 (L x : List Lf) (kr : List Lf → Option R) (k0 : LD → Option R) : Option R := S40x0x18 N (ll L 1) (lb L 2) (ll L 4) (li L 5) (li L 9) (li x 0) (ll x 1) (fun w6 w18 => kr [.i w6, .l w18]) k0
theorem sb40x0x18 (L x : List Lf) (kr : List Lf → Option R) (k0 : LD → Option R) : J40x0x18 N L x kr k0 = (J40x0x18 N L x (fun y => some (.inl y)) (fun p => some (.inr p))).bind (sumE kr k0) := by
  unfold J40x0x18 S40x0x18
  repeat' (first | with_reducible apply cond_b | (with_reducible apply bnd_b; intro _) | rfl)
noncomputable def Q40x0x18 (L : List Lf) (m : Nat) (x : List Lf) : Option (LD) := L40x0x18 N (R := (LD)) (ll L 1) (lb L 2) (ll L 4) (li L 5) (li L 9) m (li x 0) (ll x 1) (fun p => some p)
noncomputable def sh40x0x18 : Sh := { tmps := [(0, .c (.sl 70)), (3, .c (.p 3 0)), (7, .c (.p 7 0)), (8, .c (.b)), (9, .c (.o 22)), (24, .c (.sl 48)), (25, .c (.i .i64)), (26, .c (.i .i64))], mem := [(3, .box (.s :: [.i .i64, .i .i64, .sl 48, .sl 111, .sl 9])), (7, .box ([.m 14])), (14, .kmap 3 99 [(1, 68), (2, 69)]), (22, .row 4 true)] }
noncomputable def K40x0x18w0 (L : List Lf) (p : LD) : Ex × St := ((.exit 0), mg (ofSh sh40x0x18 L) [8, 9] [] [22] [(22, .row 4 true (lb L 17) p)])
noncomputable def A40x0x18 (L : List Lf) : List (Bool × (Ex × St)) := bnd (Q40x0x18 N L N (pk sh40x0x18 [6, 18] L)) fun q => [(q.isSome, K40x0x18w0 L (q.getD default))]
theorem step40x0x18 (m : Nat) (kn : St → Option (Ex × St)) (L x : List Lf) : lpB Try.prog (T70x1 N) (h40x0s1 N).h 0 40 18 sh40x0x18 [6, 18] [4, 5, 9, 8] [22] (m + 100) kn L x = J40x0x18 N L x (fun y => kn (ofSh sh40x0x18 (mx sh40x0x18 [6, 18] L y))) (fun p => some (K40x0x18w0 L p)) := by kernel_rfl
theorem ql40x0x18 (L : List Lf) (m : Nat) (x : List Lf) : Q40x0x18 N L (m + 1) x = J40x0x18 N L x (Q40x0x18 N L m) some := by kernel_rfl
noncomputable def h40x0s2 : Sg Try.prog 0 40 :=
  (h40x0s1 N).lp (A40x0x18 N) N progOk (T70x1_ok N) (fun m kn L x => (step40x0x18 N m kn L x).trans (sb40x0x18 N L x _ _)) (fun L m x => (ql40x0x18 N L m x).trans (sb40x0x18 N L x (Q40x0x18 N L m) some)) fun L x hx => alt1 x hx
noncomputable def F40x0 (v1 : LD) (v3 v4 : Int) (v6 v10 : LD) (k0 : LD × Bool → Option R) : Option R :=
  bnd (G70x0 N v1 v3 v10) fun y0 =>
  bif y0.isSome then
    bif (((decide (0 ≤ (v6.length : Int))) && (decide ((v6.length : Int) ≤ (v6.length : Int)))) && (decide ((v6.length : Int).toNat * 1 ≤ room) && decide ((v6.length : Int).toNat ≤ strMax))) then
      bnd (G40x0x18 N v1 (y0.getD default) v6 (v6.length : Int) v4 0 (List.replicate (v6.length : Int).toNat ((.b false) : D))) fun y1 =>
      bif y1.isSome then
        k0 ((y1.getD default), (y0.getD default))
      else
        none
    else
      none
  else
    none
noncomputable def G40x0 (v1 : LD) (v3 v4 : Int) (v6 v10 : LD) : Option (LD × Bool) := F40x0 N v1 v3 v4 v6 v10 (fun p => some p)
theorem bind40x0 (v1 : LD) (v3 v4 : Int) (v6 v10 : LD) (k0 : LD × Bool → Option R) : F40x0 N v1 v3 v4 v6 v10 k0 = (G40x0 N v1 v3 v4 v6 v10).bind k0 := by
  unfold G40x0 F40x0
  repeat' (first | with_reducible apply cond_b | (with_reducible apply bnd_b; intro _) | rfl)
noncomputable def J40x0 (L : List Lf) (k0 : LD × Bool → Option R) : Option R := F40x0 N (ll L 1) (li L 3) (li L 4) (ll L 6) (ll L 10) k0
noncomputable def sh40x0 : Sh := { tmps := [(0, .c (.sl 70)), (1, .g (.s :: [.i .i64, .i .i64, .sl 48, .sl 111, .sl 9]))], mem := [] }
noncomputable def A40x0 (L : List Lf) : List (Bool × Res) := bnd (J40x0 N L (fun p => some p)) fun q => [(q.isSome, ([.c (.sl 4 false (q.getD default).1), .c (.b (q.getD default).2)], []))]
theorem raw40x0 (L : List Lf) : bd Try.prog (T70x1 N) (h40x0s2 N).h 40 sh40x0 L = J40x0 N L (fun p => some ([.c (.sl 4 false p.1), .c (.b p.2)], [])) := by kernel_rfl
theorem ok40x0 : FnOk Try.prog 40 sh40x0 (A40x0 N) :=
  (h40x0s2 N).fn progOk (T70x1_ok N) fun L x hx => ((raw40x0 N L).trans ((bind40x0 N ..).trans (alt1 x hx)))
noncomputable def T40x0 : Oracle := ext 40 (spSh sh40x0 (A40x0 N)) (T70x1 N)
theorem T40x0_ok : OracleOk Try.prog (T40x0 N) := FnOk.to (ok40x0 N) (T70x1_ok N)
noncomputable def rg10x0 : List (Nat × List Nat) := [(0, [0, 2, 1]), (1, [3, 1, 5]), (2, [9, 3, 1, 5]), (3, [9]), (4, [3, 1, 5]), (5, [10, 11])]
noncomputable def hd10x0 : Hints := []
noncomputable def h10x0s0 (N : Nat) : Sg Try.prog 0 10 := .start hd10x0 rg10x0
noncomputable def F10x0 (v1 : LD) (v2 : Int) (v3 : LB) (v4 v5 : Int) (v6 : Bool) (v7 : LD) (v8 : Bool) (v9 : LD) (v10 : Bool) (v11 : LD) (k0 : Ty8 → Option R) : Option R :=
  bnd (G39x0 N v1 v2 [(.a [(.s v3), (.i v4), (.i v5), (.l v6 v7), (.l v8 v9), (.l v10 v11)])]) fun y0 =>
  bif y0.isSome then
    bif ((y0.getD default) != 0) then
      k0 (true, [], false, (y0.getD default))
    else
      bnd (G41x0 N v1 v2) fun y1 =>
      bif y1.isSome then
        bnd (G40x0 N (y1.getD default).2 v4 v5 v7 v11) fun y2 =>
        bif y2.isSome then
          k0 (false, (y2.getD default).1, (y2.getD default).2, 0)
        else
          none
      else
        none
  else
    none
noncomputable def G10x0 (v1 : LD) (v2 : Int) (v3 : LB) (v4 v5 : Int) (v6 : Bool) (v7 : LD) (v8 : Bool) (v9 : LD) (v10 : Bool) (v11 : LD) : Option (Ty8) := F10x0 N v1 v2 v3 v4 v5 v6 v7 v8 v9 v10 v11 (fun p => some p)
theorem bind10x0 (v1 : LD) (v2 : Int) (v3 : LB) (v4 v5 : Int) (v6 : Bool) (v7 : LD) (v8 : Bool) (v9 : LD) (v10 : Bool) (v11 : LD) (k0 : Ty8 → Option R) : F10x0 N v1 v2 v3 v4 v5 v6 v7 v8 v9 v10 v11 k0 = (G10x0 N v1 v2 v3 v4 v5 v6 v7 v8 v9 v10 v11).bind k0 := by
  unfold G10x0 F10x0
  repeat' (first | with_reducible apply cond_b | (with_reducible apply bnd_b; intro _) | rfl)
noncomputable def J10x0 (L : List Lf) (k0 : Ty8 → Option R) : Option R := F10x0 N (ll L 1) (li L 2) (ls L 3) (li L 4) (li L 5) (lb L 6) (ll L 7) (lb L 8) (ll L 9) (lb L 10) (ll L 11) k0
noncomputable def sh10x0 : Sh := { tmps := [(0, .g ([.sl 70])), (1, .c (.i .i64)), (2, .g (.s :: [.i .i64, .i .i64, .sl 48, .sl 111, .sl 9]))], mem := [] }
noncomputable def K10x0w0 (L : List Lf) (p : Ty8) : Res := ([.c (.sl 4 p.1 p.2.1), .c (.b p.2.2.1), .c (.i .i64 p.2.2.2)], [])
noncomputable def A10x0 (L : List Lf) : List (Bool × Res) := bnd (J10x0 N L (fun p => some p)) fun q => [(q.isSome, K10x0w0 L (q.getD default))]
theorem raw10x0 (L : List Lf) : bd Try.prog (T40x0 N) (h10x0s0 N).h 10 sh10x0 L = J10x0 N L (fun p => some (K10x0w0 L p)) := by kernel_rfl
theorem ok10x0 : FnOk Try.prog 10 sh10x0 (A10x0 N) :=
  (h10x0s0 N).fn progOk (T40x0_ok N) fun L x hx => ((raw10x0 N L).trans ((bind10x0 N ..).trans (alt1 x hx)))
noncomputable def T10x0 : Oracle := ext 10 (spSh sh10x0 (A10x0 N)) (T40x0 N)
theorem T10x0_ok : OracleOk Try.prog (T10x0 N) := FnOk.to (ok10x0 N) (T40x0_ok N)
noncomputable def rg73x0 : List (Nat × List Nat) := [(0, [0, 1, 2]), (1, [0, 1, 2])]
noncomputable def hd73x0 : Hints := []
noncomputable def h73x0s0 (N : Nat) : Sg Try.prog 0 73 := .start hd73x0 rg73x0
noncomputable def F73x0 (N : Nat) (v0 v1 v2 : Int) (k0 : Bool → R) : R :=
  k0 (bif (decide (v0 < v1)) then true else (decide (v0 > v2)))
noncomputable def V73x0 (v0 v1 v2 : Int) : Bool := F73x0 N v0 v1 v2 (fun p => p)
theorem tot73x0 (v0 v1 v2 : Int) (k0 : Bool → R) : F73x0 N v0 v1 v2 k0 = k0 (V73x0 N v0 v1 v2) := by
  unfold V73x0 F73x0
  repeat' (first | rfl | apply cond_k | (apply bnd_k; intro _))
noncomputable def sh73x0 : Sh := { tmps := [(0, .c (.i .i64)), (1, .c (.i .i64)), (2, .c (.i .i64))], mem := [] }
noncomputable def A73x0 (L : List Lf) : List (Bool × Res) := bnd (F73x0 N (li L 0) (li L 1) (li L 2) (fun p => p)) fun q => [(true, ([.c (.b q)], []))]
theorem raw73x0 (L : List Lf) : bd Try.prog (T10x0 N) (h73x0s0 N).h 73 sh73x0 L = F73x0 N (li L 0) (li L 1) (li L 2) (fun p => some ([.c (.b p)], [])) := by kernel_rfl
theorem ok73x0 : FnOk Try.prog 73 sh73x0 (A73x0 N) :=
  (h73x0s0 N).fn progOk (T10x0_ok N) fun L x hx => ((raw73x0 N L).trans ((tot73x0 N ..).trans (alt0 _ _ hx)))
noncomputable def T73x0 : Oracle := ext 73 (spSh sh73x0 (A73x0 N)) (T10x0 N)
theorem T73x0_ok : OracleOk Try.prog (T73x0 N) := FnOk.to (ok73x0 N) (T10x0_ok N)
noncomputable def rg46x0 : List (Nat × List Nat) := [(0, [0]), (1, [0]), (2, [3, 0]), (4, [0, 3]), (5, [4, 3, 0]), (6, []), (3, [3, 0]), (7, [0])]
noncomputable def hd46x0 : Hints := [(6, [3, 0], [], [])]
noncomputable def h46x0s0 (N : Nat) : Sg Try.prog 0 46 := .start hd46x0 rg46x0
noncomputable def S46x0x6 (N : Nat) (w0 : LB) (w1 : Int) (kr : Int → Option R) (k0 : Unit → Option R) (k1 : Unit → Option R) : Option R :=
  bif (decide (w1 < (w0.length : Int))) then
    bif (inB w1 w0.length) then
      bnd (bif (decide (((w0.getD w1.toNat 0).toNat : Int) ≥ 97)) then (decide (((w0.getD w1.toNat 0).toNat : Int) ≤ 122)) else false) fun y0 =>
      bnd (bif y0 then true else (bif (decide (((w0.getD w1.toNat 0).toNat : Int) ≥ 65)) then (decide (((w0.getD w1.toNat 0).toNat : Int) ≤ 90)) else false)) fun y1 =>
      bnd (bif y1 then true else (bif (decide (((w0.getD w1.toNat 0).toNat : Int) ≥ 48)) then (decide (((w0.getD w1.toNat 0).toNat : Int) ≤ 57)) else false)) fun y2 =>
      bnd (bif y2 then true else (((w0.getD w1.toNat 0).toNat : Int) == 45)) fun y3 =>
      bnd (bif y3 then true else (((w0.getD w1.toNat 0).toNat : Int) == 95)) fun y4 =>
      bnd (bif y4 then true else (((w0.getD w1.toNat 0).toNat : Int) == 46)) fun y5 =>
      bif (!y5) then
        k0 ()
      else
        kr (IntKind.wrap .i64 (w1 + 1))
    else
      none
  else
    k1 ()
noncomputable def L46x0x6 (N : Nat) {R : Type} (w0 : LB) : Nat → Int → (Unit → Option R) → (Unit → Option R) → Option R
  | 0, _, _, _ => none
  | m + 1, w1, k0, k1 => S46x0x6 N w0 w1 (fun w1 => L46x0x6 N w0 m w1 k0 k1) k0 k1
noncomputable def G46x0x6 (w0 : LB) (w1 : Int) : Option (Sum (Unit) (Unit)) := L46x0x6 N (R := (Sum (Unit) (Unit))) w0 N w1 (fun p => some (.inl p)) (fun p => some (.inr p))
noncomputable def J46x0x6 (L x : List Lf) (kr : List Lf → Option R) (k0 : Unit → Option R) (k1 : Unit → Option R) : Option R := S46x0x6 N (ls L 0) (li x 0) (fun w1 => kr [.i w1]) k0 k1
theorem sb46x0x6 (L x : List Lf) (kr : List Lf → Option R) (k0 : Unit → Option R) (k1 : Unit → Option R) : J46x0x6 N L x kr k0 k1 = (J46x0x6 N L x (fun y => some (.inl y)) (fun p => some (.inr (.inl p))) (fun p => some (.inr (.inr p)))).bind (sumE kr (sumE k0 k1)) := by
  unfold J46x0x6 S46x0x6
  repeat' (first | with_reducible apply cond_b | (with_reducible apply bnd_b; intro _) | rfl)
noncomputable def Q46x0x6 (L : List Lf) (m : Nat) (x : List Lf) : Option (Sum (Unit) (Unit)) := L46x0x6 N (R := (Sum (Unit) (Unit))) (ls L 0) m (li x 0) (fun p => some (.inl p)) (fun p => some (.inr p))
noncomputable def sh46x0x6 : Sh := { tmps := [(0, .c (.s)), (3, .c (.i .i64))], mem := [] }
noncomputable def A46x0x6 (L : List Lf) : List (Bool × (Ex × St)) := bnd (Q46x0x6 N L N (pk sh46x0x6 [1] L)) fun q => [((inlB q), (.ret, ⟨[(2, .c (.b false))], []⟩)), ((inrQ q).isSome, ((.exit 0), ⟨[(0, .c (.s (ls L 0)))], []⟩))]
theorem step46x0x6 (m : Nat) (kn : St → Option (Ex × St)) (L x : List Lf) : lpB Try.prog (T73x0 N) (h46x0s0 N).h 0 46 6 sh46x0x6 [1] [2, 0] [] (m + 100) kn L x = J46x0x6 N L x (fun y => kn (ofSh sh46x0x6 (mx sh46x0x6 [1] L y))) (fun _ => some (.ret, ⟨[(2, .c (.b false))], []⟩)) (fun _ => some ((.exit 0), ⟨[(0, .c (.s (ls L 0)))], []⟩)) := by kernel_rfl
theorem ql46x0x6 (L : List Lf) (m : Nat) (x : List Lf) : Q46x0x6 N L (m + 1) x = J46x0x6 N L x (Q46x0x6 N L m) (fun p => some (.inl p)) (fun p => some (.inr p)) := by kernel_rfl
noncomputable def h46x0s1 : Sg Try.prog 0 46 :=
  (h46x0s0 N).lp (A46x0x6 N) N progOk (T73x0_ok N) (fun m kn L x => (step46x0x6 N m kn L x).trans (sb46x0x6 N L x _ _ _)) (fun L m x => (ql46x0x6 N L m x).trans (sb46x0x6 N L x (Q46x0x6 N L m) (fun p => some (.inl p)) (fun p => some (.inr p)))) fun L x hx => (altS alt1) x hx
noncomputable def F46x0 (v0 : LB) (k0 : Bool → Option R) : Option R :=
  bnd (G46x0x6 N v0 0) fun y0 =>
  bif (inlB y0) then
    k0 false
  else
    bif (inrQ y0).isSome then
      bnd (bif (decide ((v0.length : Int) ≥ 1)) then (decide ((v0.length : Int) ≤ 60)) else false) fun y1 =>
      k0 y1
    else
      none
noncomputable def G46x0 (v0 : LB) : Option (Bool) := F46x0 N v0 (fun p => some p)
theorem bind46x0 (v0 : LB) (k0 : Bool → Option R) : F46x0 N v0 k0 = (G46x0 N v0).bind k0 := by
  unfold G46x0 F46x0
  repeat' (first | with_reducible apply cond_b | (with_reducible apply bnd_b; intro _) | rfl)
noncomputable def sh46x0 : Sh := { tmps := [(0, .c (.s))], mem := [] }
noncomputable def A46x0 (L : List Lf) : List (Bool × Res) := bnd (F46x0 N (ls L 0) (fun p => some p)) fun q => [(q.isSome, ([.c (.b (q.getD default))], []))]
theorem raw46x0 (L : List Lf) : bd Try.prog (T73x0 N) (h46x0s1 N).h 46 sh46x0 L = F46x0 N (ls L 0) (fun p => some ([.c (.b p)], [])) := by kernel_rfl
theorem ok46x0 : FnOk Try.prog 46 sh46x0 (A46x0 N) :=
  (h46x0s1 N).fn progOk (T73x0_ok N) fun L x hx => ((raw46x0 N L).trans ((bind46x0 N ..).trans (alt1 x hx)))
noncomputable def T46x0 : Oracle := ext 46 (spSh sh46x0 (A46x0 N)) (T73x0 N)
theorem T46x0_ok : OracleOk Try.prog (T46x0 N) := FnOk.to (ok46x0 N) (T73x0_ok N)
noncomputable def rg83x0 : List (Nat × List Nat) := [(0, [0]), (1, [1, 2]), (2, [1, 3, 2]), (3, [10, 1, 3, 2]), (5, [10, 1, 3, 2]), (7, [10, 1, 3, 2]), (8, [10, 1, 3, 2]), (9, [10, 1, 3, 2]), (11, [10, 1, 3, 2]), (12, [1, 3, 2]), (10, [1, 3, 2]), (6, [1, 3, 2]), (4, [1, 3, 2]), (13, [3, 2])]
noncomputable def hd83x0 : Hints := [(27002, [1, 3, 2, 10, 27], [3, 2, 1], []), (24002, [1, 3, 2, 10, 27], [3, 2, 1], []), (38, [1, 3, 2, 34], [3, 2, 1], []), (33032, [1, 3, 2, 10, 27], [3, 2, 1], []), (21020, [1, 3, 2, 10, 22], [3, 2, 1], []), (15014, [1, 3, 2, 10, 11], [3, 2, 1], [])]
noncomputable def h83x0s0 (N : Nat) : Sg Try.prog 0 83 := .start hd83x0 rg83x0
noncomputable def F83x0x27002 (N : Nat) (w0 : Int) (w1 : Bool) (k0 : Bool → R) : R :=
  bif w1 then
    k0 true
  else
    k0 (w0 == 8)
noncomputable def V83x0x27002 (w0 : Int) (w1 : Bool) : Bool := F83x0x27002 N w0 w1 (fun p => p)
theorem tot83x0x27002 (w0 : Int) (w1 : Bool) (k0 : Bool → R) : F83x0x27002 N w0 w1 k0 = k0 (V83x0x27002 N w0 w1) := by
  unfold V83x0x27002 F83x0x27002
  repeat' (first | rfl | apply cond_k | (apply bnd_k; intro _))
noncomputable def sh83x0x27002 : Sh := { tmps := [(1, .c (.p 1 0)), (2, .c (.p 2 0)), (3, .c (.p 3 0)), (10, .c (.i .i64)), (27, .c (.b))], mem := [(1, .box (rI 8 ([.s]))), (2, .box (rI 8 ([.s]))), (3, .box (rI 8 ([.s])))] }
noncomputable def K83x0x27002w0 (L : List Lf) (p : Bool) : Ex × St := (.normal, mg (ofSh sh83x0x27002 L) [1, 2, 3, 10, 27] [(27, .c (.b p))] [1, 2, 3] [])
noncomputable def A83x0x27002 (L : List Lf) : List (Bool × (Ex × St)) := bnd (F83x0x27002 N (li L 0) (lb L 1) (fun p => p)) fun q => [(true, K83x0x27002w0 L q)]
theorem raw83x0x27002 (L : List Lf) : pc Try.prog (T46x0 N) (h83x0s0 N).h 0 100 83 27002 sh83x0x27002 L [1, 3, 2, 10, 27] [3, 2, 1] = F83x0x27002 N (li L 0) (lb L 1) (fun p => some (K83x0x27002w0 L p)) := by kernel_rfl
noncomputable def h83x0s1 : Sg Try.prog 0 83 :=
  (h83x0s0 N).cut (A83x0x27002 N) progOk (T46x0_ok N) fun L x hx => (raw83x0x27002 N L).trans ((tot83x0x27002 N ..).trans (alt0 _ _ hx))
noncomputable def F83x0x24002 (w0 : Int) (w1 : Bool) (k0 : Bool → R) : R :=
  bif w1 then
    k0 true
  else
    bnd (V83x0x27002 N w0 (w0 == 5)) fun y0 =>
    k0 y0
noncomputable def V83x0x24002 (w0 : Int) (w1 : Bool) : Bool := F83x0x24002 N w0 w1 (fun p => p)
theorem tot83x0x24002 (w0 : Int) (w1 : Bool) (k0 : Bool → R) : F83x0x24002 N w0 w1 k0 = k0 (V83x0x24002 N w0 w1) := by
  unfold V83x0x24002 F83x0x24002
  repeat' (first | rfl | apply cond_k | (apply bnd_k; intro _))
noncomputable def sh83x0x24002 : Sh := { tmps := [(1, .c (.p 1 0)), (2, .c (.p 2 0)), (3, .c (.p 3 0)), (10, .c (.i .i64)), (27, .c (.b))], mem := [(1, .box (rI 8 ([.s]))), (2, .box (rI 8 ([.s]))), (3, .box (rI 8 ([.s])))] }
noncomputable def K83x0x24002w0 (L : List Lf) (p : Bool) : Ex × St := (.normal, mg (ofSh sh83x0x24002 L) [1, 2, 3, 10, 27] [(27, .c (.b p))] [1, 2, 3] [])
noncomputable def A83x0x24002 (L : List Lf) : List (Bool × (Ex × St)) := bnd (F83x0x24002 N (li L 0) (lb L 1) (fun p => p)) fun q => [(true, K83x0x24002w0 L q)]
theorem raw83x0x24002 (L : List Lf) : pc Try.prog (T46x0 N) (h83x0s1 N).h 0 100 83 24002 sh83x0x24002 L [1, 3, 2, 10, 27] [3, 2, 1] = F83x0x24002 N (li L 0) (lb L 1) (fun p => some (K83x0x24002w0 L p)) := by kernel_rfl
noncomputable def h83x0s2 : Sg Try.prog 0 83 :=
  (h83x0s1 N).cut (A83x0x24002 N) progOk (T46x0_ok N) fun L x hx => (raw83x0x24002 N L).trans ((tot83x0x24002 N ..).trans (alt0 _ _ hx))
noncomputable def F83x0x38 (N : Nat) (w0 : Bool) (w9 w27 : LB) (k0 : LB → R) : R :=
  bif w0 then
    k0 w9
  else
    k0 w27
noncomputable def V83x0x38 (w0 : Bool) (w9 w27 : LB) : LB := F83x0x38 N w0 w9 w27 (fun p => p)
theorem tot83x0x38 (w0 : Bool) (w9 w27 : LB) (k0 : LB → R) : F83x0x38 N w0 w9 w27 k0 = k0 (V83x0x38 N w0 w9 w27) := by
  unfold V83x0x38 F83x0x38
  repeat' (first | rfl | apply cond_k | (apply bnd_k; intro _))
noncomputable def sh83x0x38 : Sh := { tmps := [(1, .c (.p 1 0)), (2, .c (.p 2 0)), (3, .c (.p 3 0)), (34, .c (.b))], mem := [(1, .box (rI 8 ([.s]))), (2, .box (rI 8 ([.s]))), (3, .box (rI 8 ([.s])))] }
noncomputable def K83x0x38w0 (L : List Lf) (p : LB) : Ex × St := (.normal, mg (ofSh sh83x0x38 L) [2, 3] [] [2, 3] [(3, .box (rL L 19 8 ([.s p])))])
noncomputable def A83x0x38 (L : List Lf) : List (Bool × (Ex × St)) := bnd (F83x0x38 N (lb L 0) (ls L 9) (ls L 27) (fun p => p)) fun q => [(true, K83x0x38w0 L q)]
theorem raw83x0x38 (L : List Lf) : pc Try.prog (T46x0 N) (h83x0s2 N).h 0 100 83 38 sh83x0x38 L [3, 2] [3, 2] = F83x0x38 N (lb L 0) (ls L 9) (ls L 27) (fun p => some (K83x0x38w0 L p)) := by kernel_rfl
noncomputable def h83x0s3 : Sg Try.prog 0 83 :=
  (h83x0s2 N).cut (A83x0x38 N) progOk (T46x0_ok N) fun L x hx => (raw83x0x38 N L).trans ((tot83x0x38 N ..).trans (alt0 _ _ hx))
noncomputable def F83x0x33032 (w0 : Int) (w1 : Bool) (w9 : Int) (w10 : LB) (w27 : Int) (w28 : LB) (k0 : Int × LB → R) : R :=
  bif w1 then
    k0 (w9, w28)
  else
    bnd (V83x0x38 N (w0 == 4) w10 w28) fun y0 =>
    k0 (w27, y0)
noncomputable def V83x0x33032 (w0 : Int) (w1 : Bool) (w9 : Int) (w10 : LB) (w27 : Int) (w28 : LB) : Int × LB := F83x0x33032 N w0 w1 w9 w10 w27 w28 (fun p => p)
theorem tot83x0x33032 (w0 : Int) (w1 : Bool) (w9 : Int) (w10 : LB) (w27 : Int) (w28 : LB) (k0 : Int × LB → R) : F83x0x33032 N w0 w1 w9 w10 w27 w28 k0 = k0 (V83x0x33032 N w0 w1 w9 w10 w27 w28) := by
  unfold V83x0x33032 F83x0x33032
  repeat' (first | rfl | apply cond_k | (apply bnd_k; intro _))
noncomputable def J83x0x33032 (L : List Lf) (k0 : Int × LB → R) : R := F83x0x33032 N (li L 0) (lb L 1) (li L 9) (ls L 10) (li L 27) (ls L 28) k0
noncomputable def sh83x0x33032 : Sh := { tmps := [(1, .c (.p 1 0)), (2, .c (.p 2 0)), (3, .c (.p 3 0)), (10, .c (.i .i64)), (27, .c (.b))], mem := [(1, .box (rI 8 ([.s]))), (2, .box (rI 8 ([.s]))), (3, .box (rI 8 ([.s])))] }
noncomputable def K83x0x33032w0 (L : List Lf) (p : Int × LB) : Ex × St := (.normal, mg (ofSh sh83x0x33032 L) [2, 3] [] [2, 3] [(3, .box (rL L 20 7 ([.i .i64 p.1, .s p.2])))])
noncomputable def A83x0x33032 (L : List Lf) : List (Bool × (Ex × St)) := bnd (J83x0x33032 N L (fun p => p)) fun q => [(true, K83x0x33032w0 L q)]
theorem raw83x0x33032 (L : List Lf) : pc Try.prog (T46x0 N) (h83x0s3 N).h 0 100 83 33032 sh83x0x33032 L [3, 2] [3, 2] = J83x0x33032 N L (fun p => some (K83x0x33032w0 L p)) := by kernel_rfl
noncomputable def h83x0s4 : Sg Try.prog 0 83 :=
  (h83x0s3 N).cut (A83x0x33032 N) progOk (T46x0_ok N) fun L x hx => (raw83x0x33032 N L).trans ((tot83x0x33032 N ..).trans (alt0 _ _ hx))
noncomputable def F83x0x21020 (w0 : Int) (w1 : Bool) (w7 w8 w9 : Int) (w10 : LB) (w25 w26 w27 : Int) (w28 : LB) (k0 : Ty7 → R) : R :=
  bif w1 then
    k0 (w7, w8, w27, w28)
  else
    bnd (V83x0x24002 N w0 (w0 == 3)) fun y0 =>
    bnd (V83x0x33032 N w0 y0 w9 w10 w27 w28) fun y1 =>
    k0 (w25, w26, y1.1, y1.2)
noncomputable def V83x0x21020 (w0 : Int) (w1 : Bool) (w7 w8 w9 : Int) (w10 : LB) (w25 w26 w27 : Int) (w28 : LB) : Ty7 := F83x0x21020 N w0 w1 w7 w8 w9 w10 w25 w26 w27 w28 (fun p => p)
theorem tot83x0x21020 (w0 : Int) (w1 : Bool) (w7 w8 w9 : Int) (w10 : LB) (w25 w26 w27 : Int) (w28 : LB) (k0 : Ty7 → R) : F83x0x21020 N w0 w1 w7 w8 w9 w10 w25 w26 w27 w28 k0 = k0 (V83x0x21020 N w0 w1 w7 w8 w9 w10 w25 w26 w27 w28) := by
  unfold V83x0x21020 F83x0x21020
  repeat' (first | rfl | apply cond_k | (apply bnd_k; intro _))
noncomputable def J83x0x21020 (L : List Lf) (k0 : Ty7 → R) : R := F83x0x21020 N (li L 0) (lb L 1) (li L 7) (li L 8) (li L 9) (ls L 10) (li L 25) (li L 26) (li L 27) (ls L 28) k0
noncomputable def sh83x0x21020 : Sh := { tmps := [(1, .c (.p 1 0)), (2, .c (.p 2 0)), (3, .c (.p 3 0)), (10, .c (.i .i64)), (22, .c (.b))], mem := [(1, .box (rI 8 ([.s]))), (2, .box (rI 8 ([.s]))), (3, .box (rI 8 ([.s])))] }
noncomputable def K83x0x21020w0 (L : List Lf) (p : Ty7) : Ex × St := (.normal, mg (ofSh sh83x0x21020 L) [2, 3] [] [2, 3] [(3, .box (rL L 20 5 ([.i .i64 p.1, .i .i64 p.2.1, .i .i64 p.2.2.1, .s p.2.2.2])))])
noncomputable def A83x0x21020 (L : List Lf) : List (Bool × (Ex × St)) := bnd (J83x0x21020 N L (fun p => p)) fun q => [(true, K83x0x21020w0 L q)]
theorem raw83x0x21020 (L : List Lf) : pc Try.prog (T46x0 N) (h83x0s4 N).h 0 100 83 21020 sh83x0x21020 L [3, 2] [3, 2] = J83x0x21020 N L (fun p => some (K83x0x21020w0 L p)) := by kernel_rfl
noncomputable def h83x0s5 : Sg Try.prog 0 83 :=
  (h83x0s4 N).cut (A83x0x21020 N) progOk (T46x0_ok N) fun L x hx => (raw83x0x21020 N L).trans ((tot83x0x21020 N ..).trans (alt0 _ _ hx))
noncomputable def F83x0x15014 (w0 : Int) (w1 : Bool) (w4 w5 w6 w7 w8 w9 : Int) (w10 : LB) (w22 w23 w24 w25 w26 w27 : Int) (w28 : LB) (k0 : Ty3 → R) : R :=
  bif w1 then
    k0 (w4, w5, w6, w25, w26, w27, w28)
  else
    bnd (V83x0x21020 N w0 (w0 == 2) w7 w8 w9 w10 w25 w26 w27 w28) fun y0 =>
    k0 (w22, w23, w24, y0.1, y0.2.1, y0.2.2.1, y0.2.2.2)
noncomputable def V83x0x15014 (w0 : Int) (w1 : Bool) (w4 w5 w6 w7 w8 w9 : Int) (w10 : LB) (w22 w23 w24 w25 w26 w27 : Int) (w28 : LB) : Ty3 := F83x0x15014 N w0 w1 w4 w5 w6 w7 w8 w9 w10 w22 w23 w24 w25 w26 w27 w28 (fun p => p)
theorem tot83x0x15014 (w0 : Int) (w1 : Bool) (w4 w5 w6 w7 w8 w9 : Int) (w10 : LB) (w22 w23 w24 w25 w26 w27 : Int) (w28 : LB) (k0 : Ty3 → R) : F83x0x15014 N w0 w1 w4 w5 w6 w7 w8 w9 w10 w22 w23 w24 w25 w26 w27 w28 k0 = k0 (V83x0x15014 N w0 w1 w4 w5 w6 w7 w8 w9 w10 w22 w23 w24 w25 w26 w27 w28) := by
  unfold V83x0x15014 F83x0x15014
  repeat' (first | rfl | apply cond_k | (apply bnd_k; intro _))
noncomputable def J83x0x15014 (L : List Lf) (k0 : Ty3 → R) : R := F83x0x15014 N (li L 0) (lb L 1) (li L 4) (li L 5) (li L 6) (li L 7) (li L 8) (li L 9) (ls L 10) (li L 22) (li L 23) (li L 24) (li L 25) (li L 26) (li L 27) (ls L 28) k0
noncomputable def sh83x0x15014 : Sh := { tmps := [(1, .c (.p 1 0)), (2, .c (.p 2 0)), (3, .c (.p 3 0)), (10, .c (.i .i64)), (11, .c (.b))], mem := [(1, .box (rI 8 ([.s]))), (2, .box (rI 8 ([.s]))), (3, .box (rI 8 ([.s])))] }
noncomputable def K83x0x15014w0 (L : List Lf) (p : Ty3) : Ex × St := let p1 := p.2; let p2 := p1.2; let p3 := p2.2; let p4 := p3.2; let p5 := p4.2; let p6 := p5.2; (.normal, mg (ofSh sh83x0x15014 L) [2, 3] [] [2, 3] [(3, .box [.i .i64 (li L 20), .i .i64 (li L 21), .i .i64 p.1, .i .i64 p1.1, .i .i64 p2.1, .i .i64 p3.1, .i .i64 p4.1, .i .i64 p5.1, .s p6])])
noncomputable def A83x0x15014 (L : List Lf) : List (Bool × (Ex × St)) := bnd (J83x0x15014 N L (fun p => p)) fun q => [(true, K83x0x15014w0 L q)]
theorem raw83x0x15014 (L : List Lf) : pc Try.prog (T46x0 N) (h83x0s5 N).h 0 100 83 15014 sh83x0x15014 L [3, 2] [3, 2] = J83x0x15014 N L (fun p => some (K83x0x15014w0 L p)) := by kernel_rfl
noncomputable def h83x0s6 : Sg Try.prog 0 83 :=
  (h83x0s5 N).cut (A83x0x15014 N) progOk (T46x0_ok N) fun L x hx => (raw83x0x15014 N L).trans ((tot83x0x15014 N ..).trans (alt0 _ _ hx))
noncomputable def F83x0 (v1 v2 v3 v4 v5 v6 v7 : Int) (v8 : LB) (k0 : Ty3 → R) : R :=
  bnd (V83x0x15014 N v1 (v1 == 1) v2 v3 v4 v5 v6 v7 v8 0 0 0 0 0 0 ([] : List UInt8)) fun y0 =>
  k0 y0
noncomputable def V83x0 (v1 v2 v3 v4 v5 v6 v7 : Int) (v8 : LB) : Ty3 := F83x0 N v1 v2 v3 v4 v5 v6 v7 v8 (fun p => p)
theorem tot83x0 (v1 v2 v3 v4 v5 v6 v7 : Int) (v8 : LB) (k0 : Ty3 → R) : F83x0 N v1 v2 v3 v4 v5 v6 v7 v8 k0 = k0 (V83x0 N v1 v2 v3 v4 v5 v6 v7 v8) := by
  unfold V83x0 F83x0
  repeat' (first | rfl | apply cond_k | (apply bnd_k; intro _))
noncomputable def J83x0 (L : List Lf) (k0 : Ty3 → R) : R := F83x0 N (li L 1) (li L 2) (li L 3) (li L 4) (li L 5) (li L 6) (li L 7) (ls L 8) k0
noncomputable def sh83x0 : Sh := { tmps := [(0, .g (rI 8 ([.s])))], mem := [] }
noncomputable def K83x0w0 (L : List Lf) (p : Ty3) : Res := let p1 := p.2; let p2 := p1.2; let p3 := p2.2; let p4 := p3.2; let p5 := p4.2; let p6 := p5.2; ([.g [.i .i64 (li L 0), .i .i64 (li L 1), .i .i64 p.1, .i .i64 p1.1, .i .i64 p2.1, .i .i64 p3.1, .i .i64 p4.1, .i .i64 p5.1, .s p6]], [])
noncomputable def A83x0 (L : List Lf) : List (Bool × Res) := bnd (J83x0 N L (fun p => p)) fun q => [(true, K83x0w0 L q)]
theorem raw83x0 (L : List Lf) : bd Try.prog (T46x0 N) (h83x0s6 N).h 83 sh83x0 L = J83x0 N L (fun p => some (K83x0w0 L p)) := by kernel_rfl
theorem ok83x0 : FnOk Try.prog 83 sh83x0 (A83x0 N) :=
  (h83x0s6 N).fn progOk (T46x0_ok N) fun L x hx => ((raw83x0 N L).trans ((tot83x0 N ..).trans (alt0 _ _ hx)))
noncomputable def T83x0 : Oracle := ext 83 (spSh sh83x0 (A83x0 N)) (T46x0 N)
theorem T83x0_ok : OracleOk Try.prog (T83x0 N) := FnOk.to (ok83x0 N) (T46x0_ok N)
noncomputable def rg59x0 : List (Nat × List Nat) := [(0, [0]), (1, [1]), (2, []), (3, [1]), (4, []), (5, [1]), (6, [1, 3]), (7, [11, 1, 3]), (9, [11, 1, 3]), (11, [11, 1, 3]), (13, [11, 1, 3]), (14, [1]), (12, [1]), (10, [1]), (8, [1]), (15, [3, 1]), (16, []), (17, [1]), (18, []), (19, [1]), (20, []), (21, [1]), (22, []), (23, [])]
noncomputable def hd59x0 : Hints := [(25, [1], [1], []), (44, [1, 3, 53], [1], []), (39038, [1, 11, 3, 48], [1], []), (33032, [1, 11, 3, 27], [1], []), (27026, [1, 11, 3, 12], [1], []), (52, [1], [1], []), (58, [1], [1], [])]
noncomputable def h59x0s0 (N : Nat) : Sg Try.prog 0 59 := .start hd59x0 rg59x0
noncomputable def F59x0x25 (w2 w3 w4 : Int) (k0 : Bool → R) : R :=
  bnd (V73x0 N w2 (-100000000) 100000000) fun y0 =>
  bif y0 then
    k0 true
  else
    bnd (V73x0 N w3 (-100000000) 100000000) fun y1 =>
    bif y1 then
      k0 true
    else
      bnd (V73x0 N w4 0 1000000) fun y2 =>
      k0 y2
noncomputable def V59x0x25 (w2 w3 w4 : Int) : Bool := F59x0x25 N w2 w3 w4 (fun p => p)
theorem tot59x0x25 (w2 w3 w4 : Int) (k0 : Bool → R) : F59x0x25 N w2 w3 w4 k0 = k0 (V59x0x25 N w2 w3 w4) := by
  unfold V59x0x25 F59x0x25
  repeat' (first | rfl | apply cond_k | (apply bnd_k; intro _))
noncomputable def sh59x0x25 : Sh := { tmps := [(1, .c (.p 1 0))], mem := [(1, .box (rI 8 ([.s])))] }
noncomputable def K59x0x25w0 (L : List Lf) (p : Bool) : Ex × St := (.normal, mg (ofSh sh59x0x25 L) [1, 3] [(3, .c (.b p))] [1] [])
noncomputable def A59x0x25 (L : List Lf) : List (Bool × (Ex × St)) := bnd (F59x0x25 N (li L 2) (li L 3) (li L 4) (fun p => p)) fun q => [(true, K59x0x25w0 L q)]
theorem raw59x0x25 (L : List Lf) : pc Try.prog (T83x0 N) (h59x0s0 N).h 0 100 59 25 sh59x0x25 L [3, 1] [1] = F59x0x25 N (li L 2) (li L 3) (li L 4) (fun p => some (K59x0x25w0 L p)) := by kernel_rfl
noncomputable def h59x0s1 : Sg Try.prog 0 59 :=
  (h59x0s0 N).cut (A59x0x25 N) progOk (T83x0_ok N) fun L x hx => (raw59x0x25 N L).trans ((tot59x0x25 N ..).trans (alt0 _ _ hx))
noncomputable def F59x0x44 (w0 w1 : Bool) (w9 : Int) (k0 : Bool → R) : R :=
  bif w1 then
    bnd (V73x0 N w9 1 1000000) fun y0 =>
    k0 y0
  else
    k0 w0
noncomputable def V59x0x44 (w0 w1 : Bool) (w9 : Int) : Bool := F59x0x44 N w0 w1 w9 (fun p => p)
theorem tot59x0x44 (w0 w1 : Bool) (w9 : Int) (k0 : Bool → R) : F59x0x44 N w0 w1 w9 k0 = k0 (V59x0x44 N w0 w1 w9) := by
  unfold V59x0x44 F59x0x44
  repeat' (first | rfl | apply cond_k | (apply bnd_k; intro _))
noncomputable def sh59x0x44 : Sh := { tmps := [(1, .c (.p 1 0)), (3, .c (.b)), (53, .c (.b))], mem := [(1, .box (rI 8 ([.s])))] }
noncomputable def K59x0x44w0 (L : List Lf) (p : Bool) : Ex × St := (.normal, mg (ofSh sh59x0x44 L) [1, 3] [(3, .c (.b p))] [1] [])
noncomputable def A59x0x44 (L : List Lf) : List (Bool × (Ex × St)) := bnd (F59x0x44 N (lb L 0) (lb L 1) (li L 9) (fun p => p)) fun q => [(true, K59x0x44w0 L q)]
theorem raw59x0x44 (L : List Lf) : pc Try.prog (T83x0 N) (h59x0s1 N).h 0 100 59 44 sh59x0x44 L [3, 1] [1] = F59x0x44 N (lb L 0) (lb L 1) (li L 9) (fun p => some (K59x0x44w0 L p)) := by kernel_rfl
noncomputable def h59x0s2 : Sg Try.prog 0 59 :=
  (h59x0s1 N).cut (A59x0x44 N) progOk (T83x0_ok N) fun L x hx => (raw59x0x44 N L).trans ((tot59x0x44 N ..).trans (alt0 _ _ hx))
noncomputable def F59x0x39038 (w0 : Bool) (w1 : Int) (w2 : Bool) (w10 : Int) (k0 : Bool → R) : R :=
  bif w2 then
    bnd (V73x0 N w10 1 4) fun y0 =>
    k0 y0
  else
    bnd (V59x0x44 N w0 (w1 == 8) w10) fun y1 =>
    k0 y1
noncomputable def V59x0x39038 (w0 : Bool) (w1 : Int) (w2 : Bool) (w10 : Int) : Bool := F59x0x39038 N w0 w1 w2 w10 (fun p => p)
theorem tot59x0x39038 (w0 : Bool) (w1 : Int) (w2 : Bool) (w10 : Int) (k0 : Bool → R) : F59x0x39038 N w0 w1 w2 w10 k0 = k0 (V59x0x39038 N w0 w1 w2 w10) := by
  unfold V59x0x39038 F59x0x39038
  repeat' (first | rfl | apply cond_k | (apply bnd_k; intro _))
noncomputable def J59x0x39038 (L : List Lf) (k0 : Bool → R) : R := F59x0x39038 N (lb L 0) (li L 1) (lb L 2) (li L 10) k0
noncomputable def sh59x0x39038 : Sh := { tmps := [(1, .c (.p 1 0)), (3, .c (.b)), (11, .c (.i .i64)), (48, .c (.b))], mem := [(1, .box (rI 8 ([.s])))] }
noncomputable def K59x0x39038w0 (L : List Lf) (p : Bool) : Ex × St := (.normal, mg (ofSh sh59x0x39038 L) [1, 3] [(3, .c (.b p))] [1] [])
noncomputable def A59x0x39038 (L : List Lf) : List (Bool × (Ex × St)) := bnd (J59x0x39038 N L (fun p => p)) fun q => [(true, K59x0x39038w0 L q)]
theorem raw59x0x39038 (L : List Lf) : pc Try.prog (T83x0 N) (h59x0s2 N).h 0 100 59 39038 sh59x0x39038 L [3, 1] [1] = J59x0x39038 N L (fun p => some (K59x0x39038w0 L p)) := by kernel_rfl
noncomputable def h59x0s3 : Sg Try.prog 0 59 :=
  (h59x0s2 N).cut (A59x0x39038 N) progOk (T83x0_ok N) fun L x hx => (raw59x0x39038 N L).trans ((tot59x0x39038 N ..).trans (alt0 _ _ hx))
noncomputable def F59x0x33032 (w0 : Bool) (w1 : Int) (w2 : Bool) (w8 w9 w10 : Int) (k0 : Bool → R) : R :=
  bif w2 then
    bnd (bif (bif (decide (w8 < 0)) then true else (decide (w8 > w9))) then true else (decide (w9 ≥ 86400))) fun y0 =>
    k0 y0
  else
    bnd (V59x0x39038 N w0 w1 (w1 == 3) w10) fun y1 =>
    k0 y1
noncomputable def V59x0x33032 (w0 : Bool) (w1 : Int) (w2 : Bool) (w8 w9 w10 : Int) : Bool := F59x0x33032 N w0 w1 w2 w8 w9 w10 (fun p => p)
theorem tot59x0x33032 (w0 : Bool) (w1 : Int) (w2 : Bool) (w8 w9 w10 : Int) (k0 : Bool → R) : F59x0x33032 N w0 w1 w2 w8 w9 w10 k0 = k0 (V59x0x33032 N w0 w1 w2 w8 w9 w10) := by
  unfold V59x0x33032 F59x0x33032
  repeat' (first | rfl | apply cond_k | (apply bnd_k; intro _))
noncomputable def J59x0x33032 (L : List Lf) (k0 : Bool → R) : R := F59x0x33032 N (lb L 0) (li L 1) (lb L 2) (li L 8) (li L 9) (li L 10) k0
noncomputable def sh59x0x33032 : Sh := { tmps := [(1, .c (.p 1 0)), (3, .c (.b)), (11, .c (.i .i64)), (27, .c (.b))], mem := [(1, .box (rI 8 ([.s])))] }
noncomputable def K59x0x33032w0 (L : List Lf) (p : Bool) : Ex × St := (.normal, mg (ofSh sh59x0x33032 L) [1, 3] [(3, .c (.b p))] [1] [])
noncomputable def A59x0x33032 (L : List Lf) : List (Bool × (Ex × St)) := bnd (J59x0x33032 N L (fun p => p)) fun q => [(true, K59x0x33032w0 L q)]
theorem raw59x0x33032 (L : List Lf) : pc Try.prog (T83x0 N) (h59x0s3 N).h 0 100 59 33032 sh59x0x33032 L [3, 1] [1] = J59x0x33032 N L (fun p => some (K59x0x33032w0 L p)) := by kernel_rfl
noncomputable def h59x0s4 : Sg Try.prog 0 59 :=
  (h59x0s3 N).cut (A59x0x33032 N) progOk (T83x0_ok N) fun L x hx => (raw59x0x33032 N L).trans ((tot59x0x33032 N ..).trans (alt0 _ _ hx))
noncomputable def F59x0x27026 (w0 : Bool) (w1 : Int) (w2 : Bool) (w5 w6 w7 w8 w9 w10 : Int) (k0 : Bool → R) : R :=
  bif w2 then
    bnd (V59x0x25 N w5 w6 w7) fun y0 =>
    k0 y0
  else
    bnd (V59x0x33032 N w0 w1 (w1 == 2) w8 w9 w10) fun y1 =>
    k0 y1
noncomputable def V59x0x27026 (w0 : Bool) (w1 : Int) (w2 : Bool) (w5 w6 w7 w8 w9 w10 : Int) : Bool := F59x0x27026 N w0 w1 w2 w5 w6 w7 w8 w9 w10 (fun p => p)
theorem tot59x0x27026 (w0 : Bool) (w1 : Int) (w2 : Bool) (w5 w6 w7 w8 w9 w10 : Int) (k0 : Bool → R) : F59x0x27026 N w0 w1 w2 w5 w6 w7 w8 w9 w10 k0 = k0 (V59x0x27026 N w0 w1 w2 w5 w6 w7 w8 w9 w10) := by
  unfold V59x0x27026 F59x0x27026
  repeat' (first | rfl | apply cond_k | (apply bnd_k; intro _))
noncomputable def J59x0x27026 (L : List Lf) (k0 : Bool → R) : R := F59x0x27026 N (lb L 0) (li L 1) (lb L 2) (li L 5) (li L 6) (li L 7) (li L 8) (li L 9) (li L 10) k0
noncomputable def sh59x0x27026 : Sh := { tmps := [(1, .c (.p 1 0)), (3, .c (.b)), (11, .c (.i .i64)), (12, .c (.b))], mem := [(1, .box (rI 8 ([.s])))] }
noncomputable def K59x0x27026w0 (L : List Lf) (p : Bool) : Ex × St := (.normal, mg (ofSh sh59x0x27026 L) [1, 3] [(3, .c (.b p))] [1] [])
noncomputable def A59x0x27026 (L : List Lf) : List (Bool × (Ex × St)) := bnd (J59x0x27026 N L (fun p => p)) fun q => [(true, K59x0x27026w0 L q)]
theorem raw59x0x27026 (L : List Lf) : pc Try.prog (T83x0 N) (h59x0s4 N).h 0 100 59 27026 sh59x0x27026 L [3, 1] [1] = J59x0x27026 N L (fun p => some (K59x0x27026w0 L p)) := by kernel_rfl
noncomputable def h59x0s5 : Sg Try.prog 0 59 :=
  (h59x0s4 N).cut (A59x0x27026 N) progOk (T83x0_ok N) fun L x hx => (raw59x0x27026 N L).trans ((tot59x0x27026 N ..).trans (alt0 _ _ hx))
noncomputable def F59x0x52 (w1 w7 : Int) (k0 : Bool → R) : R :=
  bif (w1 == 5) then
    bnd (V73x0 N w7 1 5) fun y0 =>
    k0 y0
  else
    k0 false
noncomputable def V59x0x52 (w1 w7 : Int) : Bool := F59x0x52 N w1 w7 (fun p => p)
theorem tot59x0x52 (w1 w7 : Int) (k0 : Bool → R) : F59x0x52 N w1 w7 k0 = k0 (V59x0x52 N w1 w7) := by
  unfold V59x0x52 F59x0x52
  repeat' (first | rfl | apply cond_k | (apply bnd_k; intro _))
noncomputable def sh59x0x52 : Sh := { tmps := [(1, .c (.p 1 0))], mem := [(1, .box (rI 8 ([.s])))] }
noncomputable def K59x0x52w0 (L : List Lf) (p : Bool) : Ex × St := (.normal, mg (ofSh sh59x0x52 L) [1, 66] [(66, .c (.b p))] [1] [])
noncomputable def A59x0x52 (L : List Lf) : List (Bool × (Ex × St)) := bnd (F59x0x52 N (li L 1) (li L 7) (fun p => p)) fun q => [(true, K59x0x52w0 L q)]
theorem raw59x0x52 (L : List Lf) : pc Try.prog (T83x0 N) (h59x0s5 N).h 0 100 59 52 sh59x0x52 L [1, 66] [1] = F59x0x52 N (li L 1) (li L 7) (fun p => some (K59x0x52w0 L p)) := by kernel_rfl
noncomputable def h59x0s6 : Sg Try.prog 0 59 :=
  (h59x0s5 N).cut (A59x0x52 N) progOk (T83x0_ok N) fun L x hx => (raw59x0x52 N L).trans ((tot59x0x52 N ..).trans (alt0 _ _ hx))
noncomputable def F59x0x58 (w1 : Int) (w8 : LB) (k0 : Bool → Option R) : Option R :=
  bif (w1 == 4) then
    bnd (G46x0 N w8) fun y0 =>
    bif y0.isSome then
      k0 (!(y0.getD default))
    else
      none
  else
    k0 false
noncomputable def G59x0x58 (w1 : Int) (w8 : LB) : Option (Bool) := F59x0x58 N w1 w8 (fun p => some p)
theorem bind59x0x58 (w1 : Int) (w8 : LB) (k0 : Bool → Option R) : F59x0x58 N w1 w8 k0 = (G59x0x58 N w1 w8).bind k0 := by
  unfold G59x0x58 F59x0x58
  repeat' (first | with_reducible apply cond_b | (with_reducible apply bnd_b; intro _) | rfl)
noncomputable def sh59x0x58 : Sh := { tmps := [(1, .c (.p 1 0))], mem := [(1, .box (rI 8 ([.s])))] }
noncomputable def K59x0x58w0 (L : List Lf) (p : Bool) : Ex × St := (.normal, mg (ofSh sh59x0x58 L) [1, 75] [(75, .c (.b p))] [1] [])
noncomputable def A59x0x58 (L : List Lf) : List (Bool × (Ex × St)) := bnd (F59x0x58 N (li L 1) (ls L 8) (fun p => some p)) fun q => [(q.isSome, K59x0x58w0 L (q.getD default))]
theorem raw59x0x58 (L : List Lf) : pc Try.prog (T83x0 N) (h59x0s6 N).h 0 100 59 58 sh59x0x58 L [1, 75] [1] = F59x0x58 N (li L 1) (ls L 8) (fun p => some (K59x0x58w0 L p)) := by kernel_rfl
noncomputable def h59x0s7 : Sg Try.prog 0 59 :=
  (h59x0s6 N).cut (A59x0x58 N) progOk (T83x0_ok N) fun L x hx => (raw59x0x58 N L).trans ((bind59x0x58 N ..).trans (alt1 x hx))
noncomputable def F59x0 (v0 v1 v2 v3 v4 v5 v6 v7 : Int) (v8 : LB) (k0 : Int → Option R) : Option R :=
  bnd (V73x0 N v1 1 8) fun y0 =>
  bif y0 then
    k0 7
  else
    bnd (V73x0 N v0 1 3) fun y1 =>
    bif y1 then
      k0 9
    else
      bnd (V59x0x27026 N false v1 (v1 == 1) v2 v3 v4 v5 v6 v7) fun y2 =>
      bif y2 then
        k0 9
      else
        bnd (V59x0x52 N v1 v7) fun y3 =>
        bif y3 then
          k0 7
        else
          bnd (G59x0x58 N v1 v8) fun y4 =>
          bif y4.isSome then
            bif (y4.getD default) then
              k0 8
            else
              bnd (V83x0 N v1 v2 v3 v4 v5 v6 v7 v8) fun y5 =>
              bnd (!((v0 == v0) && ((v1 == v1) && ((y5.1 == v2) && ((y5.2.1 == v3) && ((y5.2.2.1 == v4) && (((y5.2.2.2.1 == v5) && ((y5.2.2.2.2.1 == v6) && true)) && ((y5.2.2.2.2.2.1 == v7) && ((y5.2.2.2.2.2.2 == v8) && true))))))))) fun y6 =>
              bif y6 then
                k0 2
              else
                k0 0
          else
            none
noncomputable def G59x0 (v0 v1 v2 v3 v4 v5 v6 v7 : Int) (v8 : LB) : Option (Int) := F59x0 N v0 v1 v2 v3 v4 v5 v6 v7 v8 (fun p => some p)
theorem bind59x0 (v0 v1 v2 v3 v4 v5 v6 v7 : Int) (v8 : LB) (k0 : Int → Option R) : F59x0 N v0 v1 v2 v3 v4 v5 v6 v7 v8 k0 = (G59x0 N v0 v1 v2 v3 v4 v5 v6 v7 v8).bind k0 := by
  unfold G59x0 F59x0
  repeat' (first | with_reducible apply cond_b | (with_reducible apply bnd_b; intro _) | rfl)
noncomputable def J59x0 (L : List Lf) (k0 : Int → Option R) : Option R := F59x0 N (li L 0) (li L 1) (li L 2) (li L 3) (li L 4) (li L 5) (li L 6) (li L 7) (ls L 8) k0
noncomputable def sh59x0 : Sh := { tmps := [(0, .g (rI 8 ([.s])))], mem := [] }
noncomputable def A59x0 (L : List Lf) : List (Bool × Res) := bnd (J59x0 N L (fun p => some p)) fun q => [(q.isSome, ([.c (.i .i64 (q.getD default))], []))]
theorem raw59x0 (L : List Lf) : bd Try.prog (T83x0 N) (h59x0s7 N).h 59 sh59x0 L = J59x0 N L (fun p => some ([.c (.i .i64 p)], [])) := by kernel_rfl
theorem ok59x0 : FnOk Try.prog 59 sh59x0 (A59x0 N) :=
  (h59x0s7 N).fn progOk (T83x0_ok N) fun L x hx => ((raw59x0 N L).trans ((bind59x0 N ..).trans (alt1 x hx)))
noncomputable def T59x0 : Oracle := ext 59 (spSh sh59x0 (A59x0 N)) (T83x0 N)
theorem T59x0_ok : OracleOk Try.prog (T59x0 N) := FnOk.to (ok59x0 N) (T83x0_ok N)
noncomputable def rg33x0 : List (Nat × List Nat) := [(0, [0]), (1, [1]), (2, []), (3, [1]), (4, [13, 12, 11]), (5, [11, 13, 12]), (6, [4, 13, 12, 11]), (7, [5, 13, 12, 11]), (8, [5]), (9, [13, 12, 11]), (10, [])]
noncomputable def hd33x0 : Hints := [(12, [13, 12, 11], [], [])]
noncomputable def h33x0s0 (N : Nat) : Sg Try.prog 0 33 := .start hd33x0 rg33x0
noncomputable def S33x0x12 (w1 : LD) (w2 : Int) (w3 : Int) (kr : Int → Option R) (k0 : Int → Option R) (k1 : Unit → Option R) : Option R :=
  bif (decide (w3 < w2)) then
    bif (inB w3 w1.length) then
      bnd (G59x0 N ((w1.getD w3.toNat (.i 0)).cell 0).toI ((w1.getD w3.toNat (.i 0)).cell 1).toI ((w1.getD w3.toNat (.i 0)).cell 2).toI ((w1.getD w3.toNat (.i 0)).cell 3).toI ((w1.getD w3.toNat (.i 0)).cell 4).toI ((w1.getD w3.toNat (.i 0)).cell 5).toI ((w1.getD w3.toNat (.i 0)).cell 6).toI ((w1.getD w3.toNat (.i 0)).cell 7).toI ((w1.getD w3.toNat (.i 0)).cell 8).toS) fun y0 =>
      bif y0.isSome then
        bif ((y0.getD default) != 0) then
          k0 (y0.getD default)
        else
          kr (IntKind.wrap .i64 (w3 + 1))
      else
        none
    else
      none
  else
    k1 ()
noncomputable def L33x0x12 (N : Nat) {R : Type} (w1 : LD) (w2 : Int) : Nat → Int → (Int → Option R) → (Unit → Option R) → Option R
  | 0, _, _, _ => none
  | m + 1, w3, k0, k1 => S33x0x12 N w1 w2 w3 (fun w3 => L33x0x12 N w1 w2 m w3 k0 k1) k0 k1
noncomputable def G33x0x12 (w1 : LD) (w2 : Int) (w3 : Int) : Option (Sum (Int) (Unit)) := L33x0x12 N (R := (Sum (Int) (Unit))) w1 w2 N w3 (fun p => some (.inl p)) (fun p => some (.inr p))
noncomputable def J33x0x12 (L x : List Lf) (kr : List Lf → Option R) (k0 : Int → Option R) (k1 : Unit → Option R) : Option R := S33x0x12 N (ll L 1) (li L 2) (li x 0) (fun w3 => kr [.i w3]) k0 k1
theorem sb33x0x12 (L x : List Lf) (kr : List Lf → Option R) (k0 : Int → Option R) (k1 : Unit → Option R) : J33x0x12 N L x kr k0 k1 = (J33x0x12 N L x (fun y => some (.inl y)) (fun p => some (.inr (.inl p))) (fun p => some (.inr (.inr p)))).bind (sumE kr (sumE k0 k1)) := by
  unfold J33x0x12 S33x0x12
  repeat' (first | with_reducible apply cond_b | (with_reducible apply bnd_b; intro _) | rfl)
noncomputable def Q33x0x12 (L : List Lf) (m : Nat) (x : List Lf) : Option (Sum (Int) (Unit)) := L33x0x12 N (R := (Sum (Int) (Unit))) (ll L 1) (li L 2) m (li x 0) (fun p => some (.inl p)) (fun p => some (.inr p))
noncomputable def sh33x0x12 : Sh := { tmps := [(11, .c (.sl 70)), (12, .c (.i .i64)), (13, .c (.i .i64))], mem := [] }
noncomputable def A33x0x12 (L : List Lf) : List (Bool × (Ex × St)) := bnd (Q33x0x12 N L N (pk sh33x0x12 [3] L)) fun q => [((inlB q), (.ret, ⟨[(2, .c (.i .i64 (inlV q)))], []⟩)), ((inrQ q).isSome, ((.exit 0), ⟨[], []⟩))]
theorem step33x0x12 (m : Nat) (kn : St → Option (Ex × St)) (L x : List Lf) : lpB Try.prog (T59x0 N) (h33x0s0 N).h 0 33 12 sh33x0x12 [3] [2] [] (m + 100) kn L x = J33x0x12 N L x (fun y => kn (ofSh sh33x0x12 (mx sh33x0x12 [3] L y))) (fun p => some (.ret, ⟨[(2, .c (.i .i64 p))], []⟩)) (fun _ => some ((.exit 0), ⟨[], []⟩)) := by kernel_rfl
theorem ql33x0x12 (L : List Lf) (m : Nat) (x : List Lf) : Q33x0x12 N L (m + 1) x = J33x0x12 N L x (Q33x0x12 N L m) (fun p => some (.inl p)) (fun p => some (.inr p)) := by kernel_rfl
noncomputable def h33x0s1 : Sg Try.prog 0 33 :=
  (h33x0s0 N).lp (A33x0x12 N) N progOk (T59x0_ok N) (fun m kn L x => (step33x0x12 N m kn L x).trans (sb33x0x12 N L x _ _ _)) (fun L m x => (ql33x0x12 N L m x).trans (sb33x0x12 N L x (Q33x0x12 N L m) (fun p => some (.inl p)) (fun p => some (.inr p)))) fun L x hx => (altS alt1) x hx
noncomputable def F33x0 (v1 : LD) (k0 : Int → Option R) : Option R :=
  bif (decide ((v1.length : Int) > 50)) then
    k0 3
  else
    bnd (G33x0x12 N v1 (v1.length : Int) 0) fun y0 =>
    bif (inlB y0) then
      k0 (inlV y0)
    else
      bif (inrQ y0).isSome then
        k0 0
      else
        none
noncomputable def G33x0 (v1 : LD) : Option (Int) := F33x0 N v1 (fun p => some p)
theorem bind33x0 (v1 : LD) (k0 : Int → Option R) : F33x0 N v1 k0 = (G33x0 N v1).bind k0 := by
  unfold G33x0 F33x0
  repeat' (first | with_reducible apply cond_b | (with_reducible apply bnd_b; intro _) | rfl)
noncomputable def sh33x0 : Sh := { tmps := [(0, .g ([.sl 70]))], mem := [] }
noncomputable def A33x0 (L : List Lf) : List (Bool × Res) := bnd (F33x0 N (ll L 1) (fun p => some p)) fun q => [(q.isSome, ([.c (.i .i64 (q.getD default))], []))]
theorem raw33x0 (L : List Lf) : bd Try.prog (T59x0 N) (h33x0s1 N).h 33 sh33x0 L = F33x0 N (ll L 1) (fun p => some ([.c (.i .i64 p)], [])) := by kernel_rfl
theorem ok33x0 : FnOk Try.prog 33 sh33x0 (A33x0 N) :=
  (h33x0s1 N).fn progOk (T59x0_ok N) fun L x hx => ((raw33x0 N L).trans ((bind33x0 N ..).trans (alt1 x hx)))
noncomputable def T33x0 : Oracle := ext 33 (spSh sh33x0 (A33x0 N)) (T59x0 N)
theorem T33x0_ok : OracleOk Try.prog (T33x0 N) := FnOk.to (ok33x0 N) (T59x0_ok N)
noncomputable def rg47x0 : List (Nat × List Nat) := [(0, [0, 1, 2]), (1, [0, 1, 2])]
noncomputable def hd47x0 : Hints := []
noncomputable def h47x0s0 (N : Nat) : Sg Try.prog 0 47 := .start hd47x0 rg47x0
noncomputable def F47x0 (N : Nat) (v0 v1 v2 : Int) (k0 : Bool → R) : R :=
  k0 (bif (decide (v0 < v1)) then true else (decide (v0 > v2)))
noncomputable def V47x0 (v0 v1 v2 : Int) : Bool := F47x0 N v0 v1 v2 (fun p => p)
theorem tot47x0 (v0 v1 v2 : Int) (k0 : Bool → R) : F47x0 N v0 v1 v2 k0 = k0 (V47x0 N v0 v1 v2) := by
  unfold V47x0 F47x0
  repeat' (first | rfl | apply cond_k | (apply bnd_k; intro _))
noncomputable def sh47x0 : Sh := { tmps := [(0, .c (.i .i64)), (1, .c (.i .i64)), (2, .c (.i .i64))], mem := [] }
noncomputable def A47x0 (L : List Lf) : List (Bool × Res) := bnd (F47x0 N (li L 0) (li L 1) (li L 2) (fun p => p)) fun q => [(true, ([.c (.b q)], []))]
theorem raw47x0 (L : List Lf) : bd Try.prog (T33x0 N) (h47x0s0 N).h 47 sh47x0 L = F47x0 N (li L 0) (li L 1) (li L 2) (fun p => some ([.c (.b p)], [])) := by kernel_rfl
theorem ok47x0 : FnOk Try.prog 47 sh47x0 (A47x0 N) :=
  (h47x0s0 N).fn progOk (T33x0_ok N) fun L x hx => ((raw47x0 N L).trans ((tot47x0 N ..).trans (alt0 _ _ hx)))
noncomputable def T47x0 : Oracle := ext 47 (spSh sh47x0 (A47x0 N)) (T33x0 N)
theorem T47x0_ok : OracleOk Try.prog (T47x0 N) := FnOk.to (ok47x0 N) (T33x0_ok N)
noncomputable def rg48x0 : List (Nat × List Nat) := [(0, [0, 1]), (1, [2, 1]), (2, [1, 5, 2]), (3, []), (4, [5, 2]), (5, []), (6, [5]), (7, []), (8, [5]), (9, []), (10, [])]
noncomputable def hd48x0 : Hints := [(7, [1, 5, 2], [5, 2], []), (19, [5], [5], []), (25, [5], [5], [])]
noncomputable def h48x0s0 (N : Nat) : Sg Try.prog 0 48 := .start hd48x0 rg48x0
noncomputable def F48x0x7 (N : Nat) (w0 : Int) (w5 : LD) (w10 : Int) (k0 : Bool → Option R) : Option R :=
  bif (w0 == 0) then
    bif (w10 != 0) then
      k0 true
    else
      bif (decide (w0 > 0)) then
        bif (inB (IntKind.wrap .i64 (w0 - 1)) w5.length) then
          bnd ((w5.getD (IntKind.wrap .i64 (w0 - 1)).toNat (.i 0)).cell 0).toI fun y0 =>
          k0 (decide (w10 ≤ y0))
        else
          none
      else
        k0 false
  else
    bif (decide (w0 > 0)) then
      bif (inB (IntKind.wrap .i64 (w0 - 1)) w5.length) then
        bnd ((w5.getD (IntKind.wrap .i64 (w0 - 1)).toNat (.i 0)).cell 0).toI fun y0 =>
        k0 (decide (w10 ≤ y0))
      else
        none
    else
      k0 false
noncomputable def G48x0x7 (w0 : Int) (w5 : LD) (w10 : Int) : Option (Bool) := F48x0x7 N w0 w5 w10 (fun p => some p)
theorem bind48x0x7 (w0 : Int) (w5 : LD) (w10 : Int) (k0 : Bool → Option R) : F48x0x7 N w0 w5 w10 k0 = (G48x0x7 N w0 w5 w10).bind k0 := by
  unfold G48x0x7 F48x0x7
  repeat' (first | with_reducible apply cond_b | (with_reducible apply bnd_b; intro _) | rfl)
noncomputable def sh48x0x7 : Sh := { tmps := [(1, .c (.i .i64)), (2, .c (.p 2 0)), (5, .c (.p 5 0))], mem := [(2, .box (.s :: [.i .i64, .i .i64, .sl 48, .sl 111, .sl 9])), (5, .box (rI 7 ([])))] }
noncomputable def K48x0x7w0 (L : List Lf) (p : Bool) : Ex × St := (.normal, mg (ofSh sh48x0x7 L) [2, 5, 33] [(33, .c (.b p))] [2, 5] [])
noncomputable def A48x0x7 (L : List Lf) : List (Bool × (Ex × St)) := bnd (F48x0x7 N (li L 0) (ll L 5) (li L 10) (fun p => some p)) fun q => [(q.isSome, K48x0x7w0 L (q.getD default))]
theorem raw48x0x7 (L : List Lf) : pc Try.prog (T47x0 N) (h48x0s0 N).h 0 100 48 7 sh48x0x7 L [5, 2, 33] [5, 2] = F48x0x7 N (li L 0) (ll L 5) (li L 10) (fun p => some (K48x0x7w0 L p)) := by kernel_rfl
noncomputable def h48x0s1 : Sg Try.prog 0 48 :=
  (h48x0s0 N).cut (A48x0x7 N) progOk (T47x0_ok N) fun L x hx => (raw48x0x7 N L).trans ((bind48x0x7 N ..).trans (alt1 x hx))
noncomputable def F48x0x19 (w1 w2 w3 : Int) (k0 : Bool → R) : R :=
  bnd (V47x0 N w1 (-100000000) 100000000) fun y0 =>
  bif y0 then
    k0 true
  else
    bnd (V47x0 N w2 (-100000000) 100000000) fun y1 =>
    bif y1 then
      k0 true
    else
      bnd (V47x0 N w3 (-100000) 100000) fun y2 =>
      k0 y2
noncomputable def V48x0x19 (w1 w2 w3 : Int) : Bool := F48x0x19 N w1 w2 w3 (fun p => p)
theorem tot48x0x19 (w1 w2 w3 : Int) (k0 : Bool → R) : F48x0x19 N w1 w2 w3 k0 = k0 (V48x0x19 N w1 w2 w3) := by
  unfold V48x0x19 F48x0x19
  repeat' (first | rfl | apply cond_k | (apply bnd_k; intro _))
noncomputable def sh48x0x19 : Sh := { tmps := [(5, .c (.p 5 0))], mem := [(5, .box (rI 7 ([])))] }
noncomputable def K48x0x19w0 (L : List Lf) (p : Bool) : Ex × St := (.normal, mg (ofSh sh48x0x19 L) [5, 57] [(57, .c (.b p))] [5] [])
noncomputable def A48x0x19 (L : List Lf) : List (Bool × (Ex × St)) := bnd (F48x0x19 N (li L 1) (li L 2) (li L 3) (fun p => p)) fun q => [(true, K48x0x19w0 L q)]
theorem raw48x0x19 (L : List Lf) : pc Try.prog (T47x0 N) (h48x0s1 N).h 0 100 48 19 sh48x0x19 L [5, 57] [5] = F48x0x19 N (li L 1) (li L 2) (li L 3) (fun p => some (K48x0x19w0 L p)) := by kernel_rfl
noncomputable def h48x0s2 : Sg Try.prog 0 48 :=
  (h48x0s1 N).cut (A48x0x19 N) progOk (T47x0_ok N) fun L x hx => (raw48x0x19 N L).trans ((tot48x0x19 N ..).trans (alt0 _ _ hx))
noncomputable def F48x0x25 (w4 w5 w6 : Int) (k0 : Bool → R) : R :=
  bnd (V47x0 N w4 (-1) 300) fun y0 =>
  bif y0 then
    k0 true
  else
    bnd (V47x0 N w5 (-1) 3000) fun y1 =>
    bif y1 then
      k0 true
    else
      bnd (V47x0 N w6 (-1) 300) fun y2 =>
      k0 y2
noncomputable def V48x0x25 (w4 w5 w6 : Int) : Bool := F48x0x25 N w4 w5 w6 (fun p => p)
theorem tot48x0x25 (w4 w5 w6 : Int) (k0 : Bool → R) : F48x0x25 N w4 w5 w6 k0 = k0 (V48x0x25 N w4 w5 w6) := by
  unfold V48x0x25 F48x0x25
  repeat' (first | rfl | apply cond_k | (apply bnd_k; intro _))
noncomputable def sh48x0x25 : Sh := { tmps := [(5, .c (.p 5 0))], mem := [(5, .box (rI 7 ([])))] }
noncomputable def A48x0x25 (L : List Lf) : List (Bool × (Ex × St)) := bnd (F48x0x25 N (li L 4) (li L 5) (li L 6) (fun p => p)) fun q => [(true, (.normal, ⟨[(70, .c (.b q))], []⟩))]
theorem raw48x0x25 (L : List Lf) : pc Try.prog (T47x0 N) (h48x0s2 N).h 0 100 48 25 sh48x0x25 L [70] [] = F48x0x25 N (li L 4) (li L 5) (li L 6) (fun p => some (.normal, ⟨[(70, .c (.b p))], []⟩)) := by kernel_rfl
noncomputable def h48x0s3 : Sg Try.prog 0 48 :=
  (h48x0s2 N).cut (A48x0x25 N) progOk (T47x0_ok N) fun L x hx => (raw48x0x25 N L).trans ((tot48x0x25 N ..).trans (alt0 _ _ hx))
noncomputable def F48x0 (v2 : Int) (v4 : LD) (v9 : Int) (k0 : Int → Option R) : Option R :=
  bif (inB v9 v4.length) then
    bnd (G48x0x7 N v9 v4 ((v4.getD v9.toNat (.i 0)).cell 0).toI) fun y0 =>
    bif y0.isSome then
      bif (y0.getD default) then
        k0 10
      else
        bnd (bif (decide (((v4.getD v9.toNat (.i 0)).cell 0).toI > 1000000)) then true else (decide ((IntKind.wrap .i64 (v2 + ((v4.getD v9.toNat (.i 0)).cell 0).toI)) > 86399999999))) fun y1 =>
        bif y1 then
          k0 9
        else
          bnd (V48x0x19 N ((v4.getD v9.toNat (.i 0)).cell 1).toI ((v4.getD v9.toNat (.i 0)).cell 2).toI ((v4.getD v9.toNat (.i 0)).cell 3).toI) fun y2 =>
          bif y2 then
            k0 9
          else
            bnd (V48x0x25 N ((v4.getD v9.toNat (.i 0)).cell 4).toI ((v4.getD v9.toNat (.i 0)).cell 5).toI ((v4.getD v9.toNat (.i 0)).cell 6).toI) fun y3 =>
            bif y3 then
              k0 9
            else
              k0 0
    else
      none
  else
    none
noncomputable def G48x0 (v2 : Int) (v4 : LD) (v9 : Int) : Option (Int) := F48x0 N v2 v4 v9 (fun p => some p)
theorem bind48x0 (v2 : Int) (v4 : LD) (v9 : Int) (k0 : Int → Option R) : F48x0 N v2 v4 v9 k0 = (G48x0 N v2 v4 v9).bind k0 := by
  unfold G48x0 F48x0
  repeat' (first | with_reducible apply cond_b | (with_reducible apply bnd_b; intro _) | rfl)
noncomputable def sh48x0 : Sh := { tmps := [(0, .g (.s :: [.i .i64, .i .i64, .sl 48, .sl 111, .sl 9])), (1, .c (.i .i64))], mem := [] }
noncomputable def A48x0 (L : List Lf) : List (Bool × Res) := bnd (F48x0 N (li L 2) (ll L 4) (li L 9) (fun p => some p)) fun q => [(q.isSome, ([.c (.i .i64 (q.getD default))], []))]
theorem raw48x0 (L : List Lf) : bd Try.prog (T47x0 N) (h48x0s3 N).h 48 sh48x0 L = F48x0 N (li L 2) (ll L 4) (li L 9) (fun p => some ([.c (.i .i64 p)], [])) := by kernel_rfl
theorem ok48x0 : FnOk Try.prog 48 sh48x0 (A48x0 N) :=
  (h48x0s3 N).fn progOk (T47x0_ok N) fun L x hx => ((raw48x0 N L).trans ((bind48x0 N ..).trans (alt1 x hx)))
noncomputable def T48x0 : Oracle := ext 48 (spSh sh48x0 (A48x0 N)) (T47x0 N)
theorem T48x0_ok : OracleOk Try.prog (T48x0 N) := FnOk.to (ok48x0 N) (T47x0_ok N)
noncomputable def rg77x0 : List (Nat × List Nat) := [(0, [0]), (1, [1]), (2, []), (3, [1])]
noncomputable def hd77x0 : Hints := []
noncomputable def h77x0s0 (N : Nat) : Sg Try.prog 0 77 := .start hd77x0 rg77x0
noncomputable def F77x0 (N : Nat) (v4 : LD) (k0 : Int → Option R) : Option R :=
  bif ((v4.length : Int) == 0) then
    k0 0
  else
    bif (inB (IntKind.wrap .i64 ((v4.length : Int) - 1)) v4.length) then
      bnd ((v4.getD (IntKind.wrap .i64 ((v4.length : Int) - 1)).toNat (.i 0)) : D) fun y0 =>
      k0 (y0.cell 0).toI
    else
      none
noncomputable def G77x0 (v4 : LD) : Option (Int) := F77x0 N v4 (fun p => some p)
theorem bind77x0 (v4 : LD) (k0 : Int → Option R) : F77x0 N v4 k0 = (G77x0 N v4).bind k0 := by
  unfold G77x0 F77x0
  repeat' (first | with_reducible apply cond_b | (with_reducible apply bnd_b; intro _) | rfl)
noncomputable def sh77x0 : Sh := { tmps := [(0, .g (.s :: [.i .i64, .i .i64, .sl 48, .sl 111, .sl 9]))], mem := [] }
noncomputable def A77x0 (L : List Lf) : List (Bool × Res) := bnd (F77x0 N (ll L 4) (fun p => some p)) fun q => [(q.isSome, ([.c (.i .i64 (q.getD default))], []))]
theorem raw77x0 (L : List Lf) : bd Try.prog (T48x0 N) (h77x0s0 N).h 77 sh77x0 L = F77x0 N (ll L 4) (fun p => some ([.c (.i .i64 p)], [])) := by kernel_rfl
theorem ok77x0 : FnOk Try.prog 77 sh77x0 (A77x0 N) :=
  (h77x0s0 N).fn progOk (T48x0_ok N) fun L x hx => ((raw77x0 N L).trans ((bind77x0 N ..).trans (alt1 x hx)))
noncomputable def T77x0 : Oracle := ext 77 (spSh sh77x0 (A77x0 N)) (T48x0 N)
theorem T77x0_ok : OracleOk Try.prog (T77x0 N) := FnOk.to (ok77x0 N) (T48x0_ok N)
noncomputable def rg49x0 : List (Nat × List Nat) := [(0, [0, 1]), (1, [2, 1]), (2, [5, 2, 1]), (3, []), (4, [1, 5, 2]), (5, []), (6, [5]), (7, [6, 5]), (9, [5, 6]), (10, []), (8, [6, 5]), (11, [5]), (12, []), (13, [])]
noncomputable def hd49x0 : Hints := [(7, [5, 2, 1], [5, 2], []), (13, [1, 5, 2], [5, 2], []), (21, [6, 5], [5], [])]
noncomputable def h49x0s0 (N : Nat) : Sg Try.prog 0 49 := .start hd49x0 rg49x0
noncomputable def F49x0x7 (w5 : LD) (w10 w11 : Int) (k0 : Bool → Option R) : Option R :=
  bif (decide (w10 < 0)) then
    k0 true
  else
    bif (decide (w10 ≥ w11)) then
      k0 true
    else
      bnd (G77x0 N w5) fun y0 =>
      bif y0.isSome then
        k0 (decide (w11 > (y0.getD default)))
      else
        none
noncomputable def G49x0x7 (w5 : LD) (w10 w11 : Int) : Option (Bool) := F49x0x7 N w5 w10 w11 (fun p => some p)
theorem bind49x0x7 (w5 : LD) (w10 w11 : Int) (k0 : Bool → Option R) : F49x0x7 N w5 w10 w11 k0 = (G49x0x7 N w5 w10 w11).bind k0 := by
  unfold G49x0x7 F49x0x7
  repeat' (first | with_reducible apply cond_b | (with_reducible apply bnd_b; intro _) | rfl)
noncomputable def sh49x0x7 : Sh := { tmps := [(1, .c (.i .i64)), (2, .c (.p 2 0)), (5, .c (.p 5 0))], mem := [(2, .box (.s :: [.i .i64, .i .i64, .sl 48, .sl 111, .sl 9])), (5, .box ([.i .i64, .i .i64, .s]))] }
noncomputable def K49x0x7w0 (L : List Lf) (p : Bool) : Ex × St := (.normal, mg (ofSh sh49x0x7 L) [1, 2, 5, 28] [(28, .c (.b p))] [2, 5] [])
noncomputable def A49x0x7 (L : List Lf) : List (Bool × (Ex × St)) := bnd (F49x0x7 N (ll L 5) (li L 10) (li L 11) (fun p => some p)) fun q => [(q.isSome, K49x0x7w0 L (q.getD default))]
theorem raw49x0x7 (L : List Lf) : pc Try.prog (T77x0 N) (h49x0s0 N).h 0 100 49 7 sh49x0x7 L [1, 5, 2, 28] [5, 2] = F49x0x7 N (ll L 5) (li L 10) (li L 11) (fun p => some (K49x0x7w0 L p)) := by kernel_rfl
noncomputable def h49x0s1 : Sg Try.prog 0 49 :=
  (h49x0s0 N).cut (A49x0x7 N) progOk (T77x0_ok N) fun L x hx => (raw49x0x7 N L).trans ((bind49x0x7 N ..).trans (alt1 x hx))
noncomputable def F49x0x13 (N : Nat) (w0 : Int) (w7 : LD) (w10 : Int) (k0 : Bool → Option R) : Option R :=
  bif (decide (w0 > 0)) then
    bif (inB (IntKind.wrap .i64 (w0 - 1)) w7.length) then
      bnd ((w7.getD (IntKind.wrap .i64 (w0 - 1)).toNat (.i 0)).cell 1).toI fun y0 =>
      k0 (decide (w10 < y0))
    else
      none
  else
    k0 false
noncomputable def G49x0x13 (w0 : Int) (w7 : LD) (w10 : Int) : Option (Bool) := F49x0x13 N w0 w7 w10 (fun p => some p)
theorem bind49x0x13 (w0 : Int) (w7 : LD) (w10 : Int) (k0 : Bool → Option R) : F49x0x13 N w0 w7 w10 k0 = (G49x0x13 N w0 w7 w10).bind k0 := by
  unfold G49x0x13 F49x0x13
  repeat' (first | with_reducible apply cond_b | (with_reducible apply bnd_b; intro _) | rfl)
noncomputable def sh49x0x13 : Sh := { tmps := [(1, .c (.i .i64)), (2, .c (.p 2 0)), (5, .c (.p 5 0))], mem := [(2, .box (.s :: [.i .i64, .i .i64, .sl 48, .sl 111, .sl 9])), (5, .box ([.i .i64, .i .i64, .s]))] }
noncomputable def K49x0x13w0 (L : List Lf) (p : Bool) : Ex × St := (.normal, mg (ofSh sh49x0x13 L) [5, 42] [(42, .c (.b p))] [5] [])
noncomputable def A49x0x13 (L : List Lf) : List (Bool × (Ex × St)) := bnd (F49x0x13 N (li L 0) (ll L 7) (li L 10) (fun p => some p)) fun q => [(q.isSome, K49x0x13w0 L (q.getD default))]
theorem raw49x0x13 (L : List Lf) : pc Try.prog (T77x0 N) (h49x0s1 N).h 0 100 49 13 sh49x0x13 L [5, 42] [5] = F49x0x13 N (li L 0) (ll L 7) (li L 10) (fun p => some (K49x0x13w0 L p)) := by kernel_rfl
noncomputable def h49x0s2 : Sg Try.prog 0 49 :=
  (h49x0s1 N).cut (A49x0x13 N) progOk (T77x0_ok N) fun L x hx => (raw49x0x13 N L).trans ((bind49x0x13 N ..).trans (alt1 x hx))
noncomputable def S49x0x21 (w3 : LB) (w0 : Int) (kr : Int → Option R) (k0 : Unit → Option R) (k1 : Unit → Option R) : Option R :=
  bif (decide (w0 < (w3.length : Int))) then
    bif (inB w0 w3.length) then
      bnd (V47x0 N (IntKind.wrap .i64 ((w3.getD w0.toNat 0).toNat : Int)) 32 126) fun y0 =>
      bif y0 then
        k0 ()
      else
        kr (IntKind.wrap .i64 (w0 + 1))
    else
      none
  else
    k1 ()
noncomputable def L49x0x21 (N : Nat) {R : Type} (w3 : LB) : Nat → Int → (Unit → Option R) → (Unit → Option R) → Option R
  | 0, _, _, _ => none
  | m + 1, w0, k0, k1 => S49x0x21 N w3 w0 (fun w0 => L49x0x21 N w3 m w0 k0 k1) k0 k1
noncomputable def G49x0x21 (w3 : LB) (w0 : Int) : Option (Sum (Unit) (Unit)) := L49x0x21 N (R := (Sum (Unit) (Unit))) w3 N w0 (fun p => some (.inl p)) (fun p => some (.inr p))
noncomputable def J49x0x21 (L x : List Lf) (kr : List Lf → Option R) (k0 : Unit → Option R) (k1 : Unit → Option R) : Option R := S49x0x21 N (ls L 3) (li x 0) (fun w0 => kr [.i w0]) k0 k1
theorem sb49x0x21 (L x : List Lf) (kr : List Lf → Option R) (k0 : Unit → Option R) (k1 : Unit → Option R) : J49x0x21 N L x kr k0 k1 = (J49x0x21 N L x (fun y => some (.inl y)) (fun p => some (.inr (.inl p))) (fun p => some (.inr (.inr p)))).bind (sumE kr (sumE k0 k1)) := by
  unfold J49x0x21 S49x0x21
  repeat' (first | with_reducible apply cond_b | (with_reducible apply bnd_b; intro _) | rfl)
noncomputable def Q49x0x21 (L : List Lf) (m : Nat) (x : List Lf) : Option (Sum (Unit) (Unit)) := L49x0x21 N (R := (Sum (Unit) (Unit))) (ls L 3) m (li x 0) (fun p => some (.inl p)) (fun p => some (.inr p))
noncomputable def sh49x0x21 : Sh := { tmps := [(5, .c (.p 5 0)), (6, .c (.i .i64))], mem := [(5, .box ([.i .i64, .i .i64, .s]))] }
noncomputable def K49x0x21w0 (L : List Lf) (_ : Unit) : Ex × St := (.ret, mg (ofSh sh49x0x21 L) [4] [(4, .c (.i .i64 8))] [5] [])
noncomputable def A49x0x21 (L : List Lf) : List (Bool × (Ex × St)) := bnd (Q49x0x21 N L N (pk sh49x0x21 [0] L)) fun q => [((inlB q), K49x0x21w0 L ()), ((inrQ q).isSome, ((.exit 0), mg (ofSh sh49x0x21 L) [5] [] [5] []))]
theorem step49x0x21 (m : Nat) (kn : St → Option (Ex × St)) (L x : List Lf) : lpB Try.prog (T77x0 N) (h49x0s2 N).h 0 49 21 sh49x0x21 [0] [4, 5] [5] (m + 100) kn L x = J49x0x21 N L x (fun y => kn (ofSh sh49x0x21 (mx sh49x0x21 [0] L y))) (fun _ => some (K49x0x21w0 L ())) (fun _ => some ((.exit 0), mg (ofSh sh49x0x21 L) [5] [] [5] [])) := by kernel_rfl
theorem ql49x0x21 (L : List Lf) (m : Nat) (x : List Lf) : Q49x0x21 N L (m + 1) x = J49x0x21 N L x (Q49x0x21 N L m) (fun p => some (.inl p)) (fun p => some (.inr p)) := by kernel_rfl
noncomputable def h49x0s3 : Sg Try.prog 0 49 :=
  (h49x0s2 N).lp (A49x0x21 N) N progOk (T77x0_ok N) (fun m kn L x => (step49x0x21 N m kn L x).trans (sb49x0x21 N L x _ _ _)) (fun L m x => (ql49x0x21 N L m x).trans (sb49x0x21 N L x (Q49x0x21 N L m) (fun p => some (.inl p)) (fun p => some (.inr p)))) fun L x hx => (altS alt1) x hx
noncomputable def F49x0 (v4 v6 : LD) (v9 : Int) (k0 : Int → Option R) : Option R :=
  bif (inB v9 v6.length) then
    bnd (G49x0x7 N v4 ((v6.getD v9.toNat (.i 0)).cell 0).toI ((v6.getD v9.toNat (.i 0)).cell 1).toI) fun y0 =>
    bif y0.isSome then
      bif (y0.getD default) then
        k0 9
      else
        bnd (G49x0x13 N v9 v6 ((v6.getD v9.toNat (.i 0)).cell 0).toI) fun y1 =>
        bif y1.isSome then
          bif (y1.getD default) then
            k0 10
          else
            bnd (G49x0x21 N ((v6.getD v9.toNat (.i 0)).cell 2).toS 0) fun y2 =>
            bif (inlB y2) then
              k0 8
            else
              bif (inrQ y2).isSome then
                bnd (decide ((((v6.getD v9.toNat (.i 0)).cell 2).toS.length : Int) > 60)) fun y3 =>
                bif y3 then
                  k0 8
                else
                  k0 0
              else
                none
        else
          none
    else
      none
  else
    none
noncomputable def G49x0 (v4 v6 : LD) (v9 : Int) : Option (Int) := F49x0 N v4 v6 v9 (fun p => some p)
theorem bind49x0 (v4 v6 : LD) (v9 : Int) (k0 : Int → Option R) : F49x0 N v4 v6 v9 k0 = (G49x0 N v4 v6 v9).bind k0 := by
  unfold G49x0 F49x0
  repeat' (first | with_reducible apply cond_b | (with_reducible apply bnd_b; intro _) | rfl)
noncomputable def sh49x0 : Sh := { tmps := [(0, .g (.s :: [.i .i64, .i .i64, .sl 48, .sl 111, .sl 9])), (1, .c (.i .i64))], mem := [] }
noncomputable def A49x0 (L : List Lf) : List (Bool × Res) := bnd (F49x0 N (ll L 4) (ll L 6) (li L 9) (fun p => some p)) fun q => [(q.isSome, ([.c (.i .i64 (q.getD default))], []))]
theorem raw49x0 (L : List Lf) : bd Try.prog (T77x0 N) (h49x0s3 N).h 49 sh49x0 L = F49x0 N (ll L 4) (ll L 6) (li L 9) (fun p => some ([.c (.i .i64 p)], [])) := by kernel_rfl
theorem ok49x0 : FnOk Try.prog 49 sh49x0 (A49x0 N) :=
  (h49x0s3 N).fn progOk (T77x0_ok N) fun L x hx => ((raw49x0 N L).trans ((bind49x0 N ..).trans (alt1 x hx)))
noncomputable def T49x0 : Oracle := ext 49 (spSh sh49x0 (A49x0 N)) (T77x0 N)
theorem T49x0_ok : OracleOk Try.prog (T49x0 N) := FnOk.to (ok49x0 N) (T77x0_ok N)
noncomputable def rg16x0 : List (Nat × List Nat) := [(0, [0]), (1, [1]), (3, [1]), (5, [1]), (7, [1]), (8, []), (6, []), (4, []), (2, []), (9, [1]), (10, [42, 41, 1]), (11, [42, 1, 41]), (12, [1, 3, 42, 41]), (13, [4, 42, 41, 1]), (14, [4]), (15, [42, 41, 1]), (16, [1]), (17, [55, 54, 1]), (18, [55, 1, 54]), (19, [1, 5, 55, 54]), (20, [6, 55, 54, 1]), (21, [6]), (22, [55, 54, 1]), (23, [1]), (24, [68, 67, 66, 1]), (25, [68, 66, 1, 67]), (26, [8, 7, 1, 68, 67, 66]), (27, []), (28, [7, 8, 1, 68, 67, 66]), (29, []), (30, [68, 67, 66, 1]), (31, [])]
noncomputable def hd16x0 : Hints := [(30, [42, 41, 1], [1], []), (51, [55, 54, 1], [1], []), (72, [68, 67, 66, 1], [1], [])]
noncomputable def h16x0s0 (N : Nat) : Sg Try.prog 0 16 := .start hd16x0 rg16x0
noncomputable def S16x0x30 (w0 w4 : Int) (w6 : LD) (w1 : Int) (kr : Int → Option R) (k0 : Int → Option R) (k1 : Unit → Option R) : Option R :=
  bif (decide (w1 < w0)) then
    bnd (G48x0 N w4 w6 w1) fun y0 =>
    bif y0.isSome then
      bif ((y0.getD default) != 0) then
        k0 (y0.getD default)
      else
        kr (IntKind.wrap .i64 (w1 + 1))
    else
      none
  else
    k1 ()
noncomputable def L16x0x30 (N : Nat) {R : Type} (w0 w4 : Int) (w6 : LD) : Nat → Int → (Int → Option R) → (Unit → Option R) → Option R
  | 0, _, _, _ => none
  | m + 1, w1, k0, k1 => S16x0x30 N w0 w4 w6 w1 (fun w1 => L16x0x30 N w0 w4 w6 m w1 k0 k1) k0 k1
noncomputable def G16x0x30 (w0 w4 : Int) (w6 : LD) (w1 : Int) : Option (Sum (Int) (Unit)) := L16x0x30 N (R := (Sum (Int) (Unit))) w0 w4 w6 N w1 (fun p => some (.inl p)) (fun p => some (.inr p))
noncomputable def J16x0x30 (L x : List Lf) (kr : List Lf → Option R) (k0 : Int → Option R) (k1 : Unit → Option R) : Option R := S16x0x30 N (li L 0) (li L 4) (ll L 6) (li x 0) (fun w1 => kr [.i w1]) k0 k1
theorem sb16x0x30 (L x : List Lf) (kr : List Lf → Option R) (k0 : Int → Option R) (k1 : Unit → Option R) : J16x0x30 N L x kr k0 k1 = (J16x0x30 N L x (fun y => some (.inl y)) (fun p => some (.inr (.inl p))) (fun p => some (.inr (.inr p)))).bind (sumE kr (sumE k0 k1)) := by
  unfold J16x0x30 S16x0x30
  repeat' (first | with_reducible apply cond_b | (with_reducible apply bnd_b; intro _) | rfl)
noncomputable def Q16x0x30 (L : List Lf) (m : Nat) (x : List Lf) : Option (Sum (Int) (Unit)) := L16x0x30 N (R := (Sum (Int) (Unit))) (li L 0) (li L 4) (ll L 6) m (li x 0) (fun p => some (.inl p)) (fun p => some (.inr p))
noncomputable def sh16x0x30 : Sh := { tmps := [(1, .c (.p 1 0)), (41, .c (.i .i64)), (42, .c (.i .i64))], mem := [(1, .box (.s :: [.i .i64, .i .i64, .sl 48, .sl 111, .sl 9]))] }
noncomputable def K16x0x30w0 (L : List Lf) (p : Int) : Ex × St := (.ret, mg (ofSh sh16x0x30 L) [2] [(2, .c (.i .i64 p))] [1] [])
noncomputable def A16x0x30 (L : List Lf) : List (Bool × (Ex × St)) := bnd (Q16x0x30 N L N (pk sh16x0x30 [1] L)) fun q => [((inlB q), K16x0x30w0 L (inlV q)), ((inrQ q).isSome, ((.exit 1), mg (ofSh sh16x0x30 L) [1] [] [1] []))]
theorem step16x0x30 (m : Nat) (kn : St → Option (Ex × St)) (L x : List Lf) : lpB Try.prog (T49x0 N) (h16x0s0 N).h 0 16 30 sh16x0x30 [1] [2, 1] [1] (m + 100) kn L x = J16x0x30 N L x (fun y => kn (ofSh sh16x0x30 (mx sh16x0x30 [1] L y))) (fun p => some (K16x0x30w0 L p)) (fun _ => some ((.exit 1), mg (ofSh sh16x0x30 L) [1] [] [1] [])) := by kernel_rfl
theorem ql16x0x30 (L : List Lf) (m : Nat) (x : List Lf) : Q16x0x30 N L (m + 1) x = J16x0x30 N L x (Q16x0x30 N L m) (fun p => some (.inl p)) (fun p => some (.inr p)) := by kernel_rfl
noncomputable def h16x0s1 : Sg Try.prog 0 16 :=
  (h16x0s0 N).lp (A16x0x30 N) N progOk (T49x0_ok N) (fun m kn L x => (step16x0x30 N m kn L x).trans (sb16x0x30 N L x _ _ _)) (fun L m x => (ql16x0x30 N L m x).trans (sb16x0x30 N L x (Q16x0x30 N L m) (fun p => some (.inl p)) (fun p => some (.inr p)))) fun L x hx => (altS alt1) x hx
noncomputable def S16x0x51 (w0 : Int) (w6 w8 : LD) (w1 : Int) (kr : Int → Option R) (k0 : Int → Option R) (k1 : Unit → Option R) : Option R :=
  bif (decide (w1 < w0)) then
    bnd (G49x0 N w6 w8 w1) fun y0 =>
    bif y0.isSome then
      bif ((y0.getD default) != 0) then
        k0 (y0.getD default)
      else
        kr (IntKind.wrap .i64 (w1 + 1))
    else
      none
  else
    k1 ()
noncomputable def L16x0x51 (N : Nat) {R : Type} (w0 : Int) (w6 w8 : LD) : Nat → Int → (Int → Option R) → (Unit → Option R) → Option R
  | 0, _, _, _ => none
  | m + 1, w1, k0, k1 => S16x0x51 N w0 w6 w8 w1 (fun w1 => L16x0x51 N w0 w6 w8 m w1 k0 k1) k0 k1
noncomputable def G16x0x51 (w0 : Int) (w6 w8 : LD) (w1 : Int) : Option (Sum (Int) (Unit)) := L16x0x51 N (R := (Sum (Int) (Unit))) w0 w6 w8 N w1 (fun p => some (.inl p)) (fun p => some (.inr p))
noncomputable def J16x0x51 (L x : List Lf) (kr : List Lf → Option R) (k0 : Int → Option R) (k1 : Unit → Option R) : Option R := S16x0x51 N (li L 0) (ll L 6) (ll L 8) (li x 0) (fun w1 => kr [.i w1]) k0 k1
theorem sb16x0x51 (L x : List Lf) (kr : List Lf → Option R) (k0 : Int → Option R) (k1 : Unit → Option R) : J16x0x51 N L x kr k0 k1 = (J16x0x51 N L x (fun y => some (.inl y)) (fun p => some (.inr (.inl p))) (fun p => some (.inr (.inr p)))).bind (sumE kr (sumE k0 k1)) := by
  unfold J16x0x51 S16x0x51
  repeat' (first | with_reducible apply cond_b | (with_reducible apply bnd_b; intro _) | rfl)
noncomputable def Q16x0x51 (L : List Lf) (m : Nat) (x : List Lf) : Option (Sum (Int) (Unit)) := L16x0x51 N (R := (Sum (Int) (Unit))) (li L 0) (ll L 6) (ll L 8) m (li x 0) (fun p => some (.inl p)) (fun p => some (.inr p))
noncomputable def sh16x0x51 : Sh := { tmps := [(1, .c (.p 1 0)), (54, .c (.i .i64)), (55, .c (.i .i64))], mem := [(1, .box (.s :: [.i .i64, .i .i64, .sl 48, .sl 111, .sl 9]))] }
noncomputable def K16x0x51w0 (L : List Lf) (p : Int) : Ex × St := (.ret, mg (ofSh sh16x0x51 L) [2] [(2, .c (.i .i64 p))] [1] [])
noncomputable def A16x0x51 (L : List Lf) : List (Bool × (Ex × St)) := bnd (Q16x0x51 N L N (pk sh16x0x51 [1] L)) fun q => [((inlB q), K16x0x51w0 L (inlV q)), ((inrQ q).isSome, ((.exit 3), mg (ofSh sh16x0x51 L) [1] [] [1] []))]
theorem step16x0x51 (m : Nat) (kn : St → Option (Ex × St)) (L x : List Lf) : lpB Try.prog (T49x0 N) (h16x0s1 N).h 0 16 51 sh16x0x51 [1] [2, 1] [1] (m + 100) kn L x = J16x0x51 N L x (fun y => kn (ofSh sh16x0x51 (mx sh16x0x51 [1] L y))) (fun p => some (K16x0x51w0 L p)) (fun _ => some ((.exit 3), mg (ofSh sh16x0x51 L) [1] [] [1] [])) := by kernel_rfl
theorem ql16x0x51 (L : List Lf) (m : Nat) (x : List Lf) : Q16x0x51 N L (m + 1) x = J16x0x51 N L x (Q16x0x51 N L m) (fun p => some (.inl p)) (fun p => some (.inr p)) := by kernel_rfl
noncomputable def h16x0s2 : Sg Try.prog 0 16 :=
  (h16x0s1 N).lp (A16x0x51 N) N progOk (T49x0_ok N) (fun m kn L x => (step16x0x51 N m kn L x).trans (sb16x0x51 N L x _ _ _)) (fun L m x => (ql16x0x51 N L m x).trans (sb16x0x51 N L x (Q16x0x51 N L m) (fun p => some (.inl p)) (fun p => some (.inr p)))) fun L x hx => (altS alt1) x hx
noncomputable def S16x0x72 (w1 : LD) (w2 : Int) (w12 : LD) (w3 : Int) (kr : Int → Option R) (k0 : Int → Option R) (k1 : Unit → Option R) : Option R :=
  bif (decide (w3 < w2)) then
    bif (inB w3 w1.length) then
      bnd (G46x0 N (w1.getD w3.toNat (.i 0)).toS) fun y0 =>
      bif y0.isSome then
        bif (!(y0.getD default)) then
          k0 8
        else
          bif (bif (inB (IntKind.wrap .i64 (w3 - 1)) w12.length) then true else (!((decide (w3 > 0)) == true))) then
            bnd (bif (decide (w3 > 0)) then ((Op.bytesLess (w1.getD w3.toNat (.i 0)).toS (w12.getD (IntKind.wrap .i64 (w3 - 1)).toNat (.i 0)).toS) || ((w1.getD w3.toNat (.i 0)).toS == (w12.getD (IntKind.wrap .i64 (w3 - 1)).toNat (.i 0)).toS)) else false) fun y1 =>
            bif y1 then
              k0 10
            else
              kr (IntKind.wrap .i64 (w3 + 1))
          else
            none
      else
        none
    else
      none
  else
    k1 ()
noncomputable def L16x0x72 (N : Nat) {R : Type} (w1 : LD) (w2 : Int) (w12 : LD) : Nat → Int → (Int → Option R) → (Unit → Option R) → Option R
  | 0, _, _, _ => none
  | m + 1, w3, k0, k1 => S16x0x72 N w1 w2 w12 w3 (fun w3 => L16x0x72 N w1 w2 w12 m w3 k0 k1) k0 k1
noncomputable def G16x0x72 (w1 : LD) (w2 : Int) (w12 : LD) (w3 : Int) : Option (Sum (Int) (Unit)) := L16x0x72 N (R := (Sum (Int) (Unit))) w1 w2 w12 N w3 (fun p => some (.inl p)) (fun p => some (.inr p))
noncomputable def J16x0x72 (L x : List Lf) (kr : List Lf → Option R) (k0 : Int → Option R) (k1 : Unit → Option R) : Option R := S16x0x72 N (ll L 1) (li L 2) (ll L 12) (li x 0) (fun w3 => kr [.i w3]) k0 k1
theorem sb16x0x72 (L x : List Lf) (kr : List Lf → Option R) (k0 : Int → Option R) (k1 : Unit → Option R) : J16x0x72 N L x kr k0 k1 = (J16x0x72 N L x (fun y => some (.inl y)) (fun p => some (.inr (.inl p))) (fun p => some (.inr (.inr p)))).bind (sumE kr (sumE k0 k1)) := by
  unfold J16x0x72 S16x0x72
  repeat' (first | with_reducible apply cond_b | (with_reducible apply bnd_b; intro _) | rfl)
noncomputable def Q16x0x72 (L : List Lf) (m : Nat) (x : List Lf) : Option (Sum (Int) (Unit)) := L16x0x72 N (R := (Sum (Int) (Unit))) (ll L 1) (li L 2) (ll L 12) m (li x 0) (fun p => some (.inl p)) (fun p => some (.inr p))
noncomputable def sh16x0x72 : Sh := { tmps := [(1, .c (.p 1 0)), (66, .c (.sl 9)), (67, .c (.i .i64)), (68, .c (.i .i64))], mem := [(1, .box (.s :: [.i .i64, .i .i64, .sl 48, .sl 111, .sl 9]))] }
noncomputable def A16x0x72 (L : List Lf) : List (Bool × (Ex × St)) := bnd (Q16x0x72 N L N (pk sh16x0x72 [3] L)) fun q => [((inlB q), (.ret, ⟨[(2, .c (.i .i64 (inlV q)))], []⟩)), ((inrQ q).isSome, ((.exit 5), ⟨[], []⟩))]
theorem step16x0x72 (m : Nat) (kn : St → Option (Ex × St)) (L x : List Lf) : lpB Try.prog (T49x0 N) (h16x0s2 N).h 0 16 72 sh16x0x72 [3] [2] [] (m + 100) kn L x = J16x0x72 N L x (fun y => kn (ofSh sh16x0x72 (mx sh16x0x72 [3] L y))) (fun p => some (.ret, ⟨[(2, .c (.i .i64 p))], []⟩)) (fun _ => some ((.exit 5), ⟨[], []⟩)) := by kernel_rfl
theorem ql16x0x72 (L : List Lf) (m : Nat) (x : List Lf) : Q16x0x72 N L (m + 1) x = J16x0x72 N L x (Q16x0x72 N L m) (fun p => some (.inl p)) (fun p => some (.inr p)) := by kernel_rfl
noncomputable def h16x0s3 : Sg Try.prog 0 16 :=
  (h16x0s2 N).lp (A16x0x72 N) N progOk (T49x0_ok N) (fun m kn L x => (step16x0x72 N m kn L x).trans (sb16x0x72 N L x _ _ _)) (fun L m x => (ql16x0x72 N L m x).trans (sb16x0x72 N L x (Q16x0x72 N L m) (fun p => some (.inl p)) (fun p => some (.inr p)))) fun L x hx => (altS alt1) x hx
noncomputable def F16x0 (v0 : LB) (v1 v2 : Int) (v4 v6 v8 : LD) (k0 : Int → Option R) : Option R :=
  bnd (G46x0 N v0) fun y0 =>
  bif y0.isSome then
    bif (!(y0.getD default)) then
      k0 8
    else
      bnd (V47x0 N v1 1 5) fun y1 =>
      bif y1 then
        k0 7
      else
        bnd (V47x0 N v2 0 86399999999) fun y2 =>
        bif y2 then
          k0 9
        else
          bnd (bif (decide ((v4.length : Int) > 20000)) then true else (decide ((v6.length : Int) > 200))) fun y3 =>
          bnd (bif y3 then true else (decide ((v8.length : Int) > 20))) fun y4 =>
          bif y4 then
            k0 3
          else
            bnd (G16x0x30 N (v4.length : Int) v2 v4 0) fun y5 =>
            bif (inlB y5) then
              k0 (inlV y5)
            else
              bif (inrQ y5).isSome then
                bnd (G16x0x51 N (v6.length : Int) v4 v6 0) fun y6 =>
                bif (inlB y6) then
                  k0 (inlV y6)
                else
                  bif (inrQ y6).isSome then
                    bnd (G16x0x72 N v8 (v8.length : Int) v8 0) fun y7 =>
                    bif (inlB y7) then
                      k0 (inlV y7)
                    else
                      bif (inrQ y7).isSome then
                        k0 0
                      else
                        none
                  else
                    none
              else
                none
  else
    none
noncomputable def G16x0 (v0 : LB) (v1 v2 : Int) (v4 v6 v8 : LD) : Option (Int) := F16x0 N v0 v1 v2 v4 v6 v8 (fun p => some p)
theorem bind16x0 (v0 : LB) (v1 v2 : Int) (v4 v6 v8 : LD) (k0 : Int → Option R) : F16x0 N v0 v1 v2 v4 v6 v8 k0 = (G16x0 N v0 v1 v2 v4 v6 v8).bind k0 := by
  unfold G16x0 F16x0
  repeat' (first | with_reducible apply cond_b | (with_reducible apply bnd_b; intro _) | rfl)
noncomputable def J16x0 (L : List Lf) (k0 : Int → Option R) : Option R := F16x0 N (ls L 0) (li L 1) (li L 2) (ll L 4) (ll L 6) (ll L 8) k0
noncomputable def sh16x0 : Sh := { tmps := [(0, .g (.s :: [.i .i64, .i .i64, .sl 48, .sl 111, .sl 9]))], mem := [] }
noncomputable def A16x0 (L : List Lf) : List (Bool × Res) := bnd (J16x0 N L (fun p => some p)) fun q => [(q.isSome, ([.c (.i .i64 (q.getD default))], []))]
theorem raw16x0 (L : List Lf) : bd Try.prog (T49x0 N) (h16x0s3 N).h 16 sh16x0 L = J16x0 N L (fun p => some ([.c (.i .i64 p)], [])) := by kernel_rfl
theorem ok16x0 : FnOk Try.prog 16 sh16x0 (A16x0 N) :=
  (h16x0s3 N).fn progOk (T49x0_ok N) fun L x hx => ((raw16x0 N L).trans ((bind16x0 N ..).trans (alt1 x hx)))
noncomputable def T16x0 : Oracle := ext 16 (spSh sh16x0 (A16x0 N)) (T49x0 N)
theorem T16x0_ok : OracleOk Try.prog (T16x0 N) := FnOk.to (ok16x0 N) (T49x0_ok N)
noncomputable def rg42x0 : List (Nat × List Nat) := [(0, [0, 1, 2, 3]), (1, [4, 1, 2, 3]), (2, [9, 1, 2, 3]), (3, [9]), (4, [1, 2, 3]), (5, []), (6, [2, 3]), (7, []), (8, [3]), (9, [28, 27, 26]), (10, [26, 28, 27]), (11, [11, 28, 27, 26]), (12, [12, 28, 27, 26]), (13, [12]), (14, [28, 27, 26]), (15, [])]
noncomputable def hd42x0 : Hints := [(27, [28, 27, 26], [], [])]
noncomputable def h42x0s0 (N : Nat) : Sg Try.prog 0 42 := .start hd42x0 rg42x0
noncomputable def S42x0x27 (w1 : LD) (w2 : Int) (w3 : Int) (kr : Int → Option R) (k0 : Int → Option R) (k1 : Unit → Option R) : Option R :=
  bif (decide (w3 < w2)) then
    bif (inB w3 w1.length) then
      bnd (G16x0 N ((w1.getD w3.toNat (.i 0)).cell 0).toS ((w1.getD w3.toNat (.i 0)).cell 1).toI ((w1.getD w3.toNat (.i 0)).cell 2).toI ((w1.getD w3.toNat (.i 0)).cell 3).items ((w1.getD w3.toNat (.i 0)).cell 4).items ((w1.getD w3.toNat (.i 0)).cell 5).items) fun y0 =>
      bif y0.isSome then
        bif ((y0.getD default) != 0) then
          k0 (y0.getD default)
        else
          kr (IntKind.wrap .i64 (w3 + 1))
      else
        none
    else
      none
  else
    k1 ()
noncomputable def L42x0x27 (N : Nat) {R : Type} (w1 : LD) (w2 : Int) : Nat → Int → (Int → Option R) → (Unit → Option R) → Option R
  | 0, _, _, _ => none
  | m + 1, w3, k0, k1 => S42x0x27 N w1 w2 w3 (fun w3 => L42x0x27 N w1 w2 m w3 k0 k1) k0 k1
noncomputable def G42x0x27 (w1 : LD) (w2 : Int) (w3 : Int) : Option (Sum (Int) (Unit)) := L42x0x27 N (R := (Sum (Int) (Unit))) w1 w2 N w3 (fun p => some (.inl p)) (fun p => some (.inr p))
noncomputable def J42x0x27 (L x : List Lf) (kr : List Lf → Option R) (k0 : Int → Option R) (k1 : Unit → Option R) : Option R := S42x0x27 N (ll L 1) (li L 2) (li x 0) (fun w3 => kr [.i w3]) k0 k1
theorem sb42x0x27 (L x : List Lf) (kr : List Lf → Option R) (k0 : Int → Option R) (k1 : Unit → Option R) : J42x0x27 N L x kr k0 k1 = (J42x0x27 N L x (fun y => some (.inl y)) (fun p => some (.inr (.inl p))) (fun p => some (.inr (.inr p)))).bind (sumE kr (sumE k0 k1)) := by
  unfold J42x0x27 S42x0x27
  repeat' (first | with_reducible apply cond_b | (with_reducible apply bnd_b; intro _) | rfl)
noncomputable def Q42x0x27 (L : List Lf) (m : Nat) (x : List Lf) : Option (Sum (Int) (Unit)) := L42x0x27 N (R := (Sum (Int) (Unit))) (ll L 1) (li L 2) m (li x 0) (fun p => some (.inl p)) (fun p => some (.inr p))
noncomputable def sh42x0x27 : Sh := { tmps := [(26, .c (.sl 29)), (27, .c (.i .i64)), (28, .c (.i .i64))], mem := [] }
noncomputable def A42x0x27 (L : List Lf) : List (Bool × (Ex × St)) := bnd (Q42x0x27 N L N (pk sh42x0x27 [3] L)) fun q => [((inlB q), (.ret, ⟨[(8, .c (.i .i64 (inlV q)))], []⟩)), ((inrQ q).isSome, ((.exit 0), ⟨[], []⟩))]
theorem step42x0x27 (m : Nat) (kn : St → Option (Ex × St)) (L x : List Lf) : lpB Try.prog (T16x0 N) (h42x0s0 N).h 0 42 27 sh42x0x27 [3] [8] [] (m + 100) kn L x = J42x0x27 N L x (fun y => kn (ofSh sh42x0x27 (mx sh42x0x27 [3] L y))) (fun p => some (.ret, ⟨[(8, .c (.i .i64 p))], []⟩)) (fun _ => some ((.exit 0), ⟨[], []⟩)) := by kernel_rfl
theorem ql42x0x27 (L : List Lf) (m : Nat) (x : List Lf) : Q42x0x27 N L (m + 1) x = J42x0x27 N L x (Q42x0x27 N L m) (fun p => some (.inl p)) (fun p => some (.inr p)) := by kernel_rfl
noncomputable def h42x0s1 : Sg Try.prog 0 42 :=
  (h42x0s0 N).lp (A42x0x27 N) N progOk (T16x0_ok N) (fun m kn L x => (step42x0x27 N m kn L x).trans (sb42x0x27 N L x _ _ _)) (fun L m x => (ql42x0x27 N L m x).trans (sb42x0x27 N L x (Q42x0x27 N L m) (fun p => some (.inl p)) (fun p => some (.inr p)))) fun L x hx => (altS alt1) x hx
noncomputable def F42x0 (v1 : LD) (v2 : Int) (v3 : Bool) (v5 : LD) (k0 : Int → Option R) : Option R :=
  bnd (G33x0 N v1) fun y0 =>
  bif y0.isSome then
    bif ((y0.getD default) != 0) then
      k0 (y0.getD default)
    else
      bnd (V73x0 N v2 0 3) fun y1 =>
      bif y1 then
        k0 9
      else
        bif (bif v3 then (decide ((v5.length : Int) > 2000)) else false) then
          k0 3
        else
          bnd (G42x0x27 N v5 (v5.length : Int) 0) fun y2 =>
          bif (inlB y2) then
            k0 (inlV y2)
          else
            bif (inrQ y2).isSome then
              k0 0
            else
              none
  else
    none
noncomputable def G42x0 (v1 : LD) (v2 : Int) (v3 : Bool) (v5 : LD) : Option (Int) := F42x0 N v1 v2 v3 v5 (fun p => some p)
theorem bind42x0 (v1 : LD) (v2 : Int) (v3 : Bool) (v5 : LD) (k0 : Int → Option R) : F42x0 N v1 v2 v3 v5 k0 = (G42x0 N v1 v2 v3 v5).bind k0 := by
  unfold G42x0 F42x0
  repeat' (first | with_reducible apply cond_b | (with_reducible apply bnd_b; intro _) | rfl)
noncomputable def J42x0 (L : List Lf) (k0 : Int → Option R) : Option R := F42x0 N (ll L 1) (li L 2) (lb L 3) (ll L 5) k0
noncomputable def sh42x0 : Sh := { tmps := [(0, .g ([.sl 70])), (1, .c (.i .i64)), (2, .c (.b)), (3, .c (.sl 29))], mem := [] }
noncomputable def A42x0 (L : List Lf) : List (Bool × Res) := bnd (J42x0 N L (fun p => some p)) fun q => [(q.isSome, ([.c (.i .i64 (q.getD default))], []))]
theorem raw42x0 (L : List Lf) : bd Try.prog (T16x0 N) (h42x0s1 N).h 42 sh42x0 L = J42x0 N L (fun p => some ([.c (.i .i64 p)], [])) := by kernel_rfl
theorem ok42x0 : FnOk Try.prog 42 sh42x0 (A42x0 N) :=
  (h42x0s1 N).fn progOk (T16x0_ok N) fun L x hx => ((raw42x0 N L).trans ((bind42x0 N ..).trans (alt1 x hx)))
noncomputable def T42x0 : Oracle := ext 42 (spSh sh42x0 (A42x0 N)) (T16x0 N)
theorem T42x0_ok : OracleOk Try.prog (T42x0 N) := FnOk.to (ok42x0 N) (T16x0_ok N)
noncomputable def rg91x0 : List (Nat × List Nat) := [(0, [0, 1, 2]), (1, [3, 1, 2]), (2, [3, 1, 2, 7]), (3, [13, 12, 11, 1, 2, 7]), (4, [11, 13, 1, 2, 7, 12]), (5, [9, 1, 2, 7, 13, 12, 11]), (6, [7, 9, 13, 12, 11, 1, 2]), (7, [13, 12, 11, 1, 2, 7]), (8, [7])]
noncomputable def hd91x0 : Hints := [(9, [13, 12, 11, 1, 2, 7], [7], [7]), (20, [7, 9, 13, 12, 11, 1, 2, 26], [9, 7], [])]
noncomputable def h91x0s0 (N : Nat) : Sg Try.prog 0 91 := .start hd91x0 rg91x0
noncomputable def F91x0x20 (N : Nat) (w6 : Bool) (w8 : LD) (w9 w10 w11 w12 w13 w14 w15 w16 : Int) (w17 : LB) (k0 : LD → Option R) (k1 : Unit → Option R) : Option R :=
  bif w6 then
    bif (decide ((w8.length + 1) * 80 ≤ room) && decide ((w8.length + 1) ≤ strMax)) then
      bnd ((w8 ++ [(.a [(.i w9), (.i w10), (.i w11), (.i w12), (.i w13), (.i w14), (.i w15), (.i w16), (.s w17)])]) : List D) fun y0 =>
      k0 y0
    else
      none
  else
    k1 ()
noncomputable def G91x0x20 (w6 : Bool) (w8 : LD) (w9 w10 w11 w12 w13 w14 w15 w16 : Int) (w17 : LB) : Option (Sum (LD) (Unit)) := F91x0x20 N w6 w8 w9 w10 w11 w12 w13 w14 w15 w16 w17 (fun p => some (.inl p)) (fun p => some (.inr p))
theorem bind91x0x20 (w6 : Bool) (w8 : LD) (w9 w10 w11 w12 w13 w14 w15 w16 : Int) (w17 : LB) (k0 : LD → Option R) (k1 : Unit → Option R) : F91x0x20 N w6 w8 w9 w10 w11 w12 w13 w14 w15 w16 w17 k0 k1 = (G91x0x20 N w6 w8 w9 w10 w11 w12 w13 w14 w15 w16 w17).bind (sumE k0 k1) := by
  unfold G91x0x20 F91x0x20
  repeat' (first | with_reducible apply cond_b | (with_reducible apply bnd_b; intro _) | rfl)
noncomputable def J91x0x20 (L : List Lf) (k0 : LD → Option R) (k1 : Unit → Option R) : Option R := F91x0x20 N (lb L 6) (ll L 8) (li L 9) (li L 10) (li L 11) (li L 12) (li L 13) (li L 14) (li L 15) (li L 16) (ls L 17) k0 k1
noncomputable def sh91x0x20 : Sh := { tmps := [(1, .c (.i .i64)), (2, .c (.i .i64)), (7, .c (.o 7)), (9, .c (.p 9 0)), (11, .c (.sl 70)), (12, .c (.i .i64)), (13, .c (.i .i64)), (26, .c (.b))], mem := [(7, .row 70 true), (9, .box (rI 8 ([.s])))] }
noncomputable def K91x0x20w0 (L : List Lf) (p : LD) : Ex × St := (.normal, mg (ofSh sh91x0x20 L) [1, 2, 7, 11, 12, 13] [(7, .c (.o 30))] [30] [(30, .row 70 true false p)])
noncomputable def K91x0x20w1 (L : List Lf) (_ : Unit) : Ex × St := (.normal, mg (ofSh sh91x0x20 L) [1, 2, 7, 11, 12, 13] [] [7] [])
noncomputable def A91x0x20 (L : List Lf) : List (Bool × (Ex × St)) := bnd (J91x0x20 N L (fun p => some (.inl p)) (fun p => some (.inr p))) fun q => [((inlB q), K91x0x20w0 L (inlV q)), ((inrQ q).isSome, K91x0x20w1 L ())]
theorem raw91x0x20 (L : List Lf) : pc Try.prog (T42x0 N) (h91x0s0 N).h 0 100 91 20 sh91x0x20 L [13, 12, 11, 1, 2, 7] [30, 7] = J91x0x20 N L (fun p => some (K91x0x20w0 L p)) (fun _ => some (K91x0x20w1 L ())) := by kernel_rfl
noncomputable def h91x0s1 : Sg Try.prog 0 91 :=
  (h91x0s0 N).cut (A91x0x20 N) progOk (T42x0_ok N) fun L x hx => (raw91x0x20 N L).trans ((bind91x0x20 N ..).trans ((altS alt1) x hx))
noncomputable def S91x0x9 (w0 w1 : Int) (w3 : LD) (w4 : Int) (w5 : Int) (w6 : Bool) (w7 : LD) (kr : Int → Bool → LD → Option R) (k0 : Bool × LD → Option R) : Option R :=
  bif (decide (w5 < w4)) then
    bif (inB w5 w3.length) then
      bnd (bif (decide (((w3.getD w5.toNat (.i 0)).cell 0).toI ≤ w0)) then (((w3.getD w5.toNat (.i 0)).cell 1).toI == w1) else false) fun y0 =>
      bnd (G91x0x20 N y0 w7 ((w3.getD w5.toNat (.i 0)).cell 0).toI ((w3.getD w5.toNat (.i 0)).cell 1).toI ((w3.getD w5.toNat (.i 0)).cell 2).toI ((w3.getD w5.toNat (.i 0)).cell 3).toI ((w3.getD w5.toNat (.i 0)).cell 4).toI ((w3.getD w5.toNat (.i 0)).cell 5).toI ((w3.getD w5.toNat (.i 0)).cell 6).toI ((w3.getD w5.toNat (.i 0)).cell 7).toI ((w3.getD w5.toNat (.i 0)).cell 8).toS) fun y1 =>
      bif (inlB y1) then
        kr (IntKind.wrap .i64 (w5 + 1)) false (inlV y1)
      else
        bif (inrQ y1).isSome then
          kr (IntKind.wrap .i64 (w5 + 1)) w6 w7
        else
          none
    else
      none
  else
    k0 (w6, w7)
noncomputable def L91x0x9 (N : Nat) {R : Type} (w0 w1 : Int) (w3 : LD) (w4 : Int) : Nat → Int → Bool → LD → (Bool × LD → Option R) → Option R
  | 0, _, _, _, _ => none
  | m + 1, w5, w6, w7, k0 => S91x0x9 N w0 w1 w3 w4 w5 w6 w7 (fun w5 w6 w7 => L91x0x9 N w0 w1 w3 w4 m w5 w6 w7 k0) k0
noncomputable def G91x0x9 (w0 w1 : Int) (w3 : LD) (w4 : Int) (w5 : Int) (w6 : Bool) (w7 : LD) : Option (Bool × LD) := L91x0x9 N (R := (Bool × LD)) w0 w1 w3 w4 N w5 w6 w7 (fun p => some p)
noncomputable def J91x0x9 (L x : List Lf) (kr : List Lf → Option R) (k0 : Bool × LD → Option R) : Option R := S91x0x9 N (li L 0) (li L 1) (ll L 3) (li L 4) (li x 0) (lb x 1) (ll x 2) (fun w5 w6 w7 => kr [.i w5, .b w6, .l w7]) k0
theorem sb91x0x9 (L x : List Lf) (kr : List Lf → Option R) (k0 : Bool × LD → Option R) : J91x0x9 N L x kr k0 = (J91x0x9 N L x (fun y => some (.inl y)) (fun p => some (.inr p))).bind (sumE kr k0) := by
  unfold J91x0x9 S91x0x9
  repeat' (first | with_reducible apply cond_b | (with_reducible apply bnd_b; intro _) | rfl)
noncomputable def Q91x0x9 (L : List Lf) (m : Nat) (x : List Lf) : Option (Bool × LD) := L91x0x9 N (R := (Bool × LD)) (li L 0) (li L 1) (ll L 3) (li L 4) m (li x 0) (lb x 1) (ll x 2) (fun p => some p)
noncomputable def sh91x0x9 : Sh := { tmps := [(1, .c (.i .i64)), (2, .c (.i .i64)), (7, .c (.o 7)), (11, .c (.sl 70)), (12, .c (.i .i64)), (13, .c (.i .i64))], mem := [(7, .row 70 true)] }
noncomputable def A91x0x9 (L : List Lf) : List (Bool × (Ex × St)) := bnd (Q91x0x9 N L N (pk sh91x0x9 [5, 6, 7] L)) fun q => [(q.isSome, ((.exit 0), ⟨[(7, .c (.o 7))], [(7, .row 70 true (q.getD default).1 (q.getD default).2)]⟩))]
theorem step91x0x9 (m : Nat) (kn : St → Option (Ex × St)) (L x : List Lf) : lpB Try.prog (T42x0 N) (h91x0s1 N).h 0 91 9 sh91x0x9 [5, 6, 7] [6, 7] [7] (m + 100) kn L x = J91x0x9 N L x (fun y => kn (ofSh sh91x0x9 (mx sh91x0x9 [5, 6, 7] L y))) (fun p => some ((.exit 0), ⟨[(7, .c (.o 7))], [(7, .row 70 true p.1 p.2)]⟩)) := by kernel_rfl
theorem ql91x0x9 (L : List Lf) (m : Nat) (x : List Lf) : Q91x0x9 N L (m + 1) x = J91x0x9 N L x (Q91x0x9 N L m) some := by kernel_rfl
noncomputable def h91x0s2 : Sg Try.prog 0 91 :=
  (h91x0s1 N).lp (A91x0x9 N) N progOk (T42x0_ok N) (fun m kn L x => (step91x0x9 N m kn L x).trans (sb91x0x9 N L x _ _)) (fun L m x => (ql91x0x9 N L m x).trans (sb91x0x9 N L x (Q91x0x9 N L m) some)) fun L x hx => alt1 x hx
noncomputable def F91x0 (v1 : LD) (v2 v3 : Int) (k0 : Bool × LD → Option R) : Option R :=
  bnd (G91x0x9 N v2 v3 v1 (v1.length : Int) 0 true []) fun y0 =>
  bif y0.isSome then
    k0 (y0.getD default)
  else
    none
noncomputable def G91x0 (v1 : LD) (v2 v3 : Int) : Option (Bool × LD) := F91x0 N v1 v2 v3 (fun p => some p)
theorem bind91x0 (v1 : LD) (v2 v3 : Int) (k0 : Bool × LD → Option R) : F91x0 N v1 v2 v3 k0 = (G91x0 N v1 v2 v3).bind k0 := by
  unfold G91x0 F91x0
  repeat' (first | with_reducible apply cond_b | (with_reducible apply bnd_b; intro _) | rfl)
noncomputable def sh91x0 : Sh := { tmps := [(0, .g ([.sl 70])), (1, .c (.i .i64)), (2, .c (.i .i64))], mem := [] }
noncomputable def A91x0 (L : List Lf) : List (Bool × Res) := bnd (F91x0 N (ll L 1) (li L 2) (li L 3) (fun p => some p)) fun q => [(q.isSome, ([.c (.sl 70 (q.getD default).1 (q.getD default).2)], []))]
theorem raw91x0 (L : List Lf) : bd Try.prog (T42x0 N) (h91x0s2 N).h 91 sh91x0 L = F91x0 N (ll L 1) (li L 2) (li L 3) (fun p => some ([.c (.sl 70 p.1 p.2)], [])) := by kernel_rfl
theorem ok91x0 : FnOk Try.prog 91 sh91x0 (A91x0 N) :=
  (h91x0s2 N).fn progOk (T42x0_ok N) fun L x hx => ((raw91x0 N L).trans ((bind91x0 N ..).trans (alt1 x hx)))
noncomputable def T91x0 : Oracle := ext 91 (spSh sh91x0 (A91x0 N)) (T42x0 N)
theorem T91x0_ok : OracleOk Try.prog (T91x0 N) := FnOk.to (ok91x0 N) (T42x0_ok N)
noncomputable def rg74x0 : List (Nat × List Nat) := [(0, [0, 2, 1]), (1, [3, 1, 5]), (2, [17, 16, 15, 5, 3, 1]), (3, [15, 17, 5, 16, 3, 1]), (4, [8, 5, 17, 16, 15, 3, 1]), (5, []), (6, [17, 16, 15, 5, 3, 1]), (7, [3, 1, 5]), (8, [31, 30, 29, 5]), (9, [29, 31, 5, 30]), (10, [5, 10, 31, 30, 29]), (11, [38, 37, 36, 10, 31, 30, 29, 5]), (12, [36, 38, 10, 37, 31, 30, 29, 5]), (13, [12, 10, 38, 37, 36, 31, 30, 29, 5]), (14, []), (15, [38, 37, 36, 10, 31, 30, 29, 5]), (16, [31, 30, 29, 5]), (17, [])]
noncomputable def hd74x0 : Hints := [(6, [17, 16, 15, 5, 3, 1], [5, 3], []), (24, [31, 30, 29, 5], [5], []), (33, [38, 37, 36, 10, 31, 30, 29, 5], [10, 5], [])]
noncomputable def h74x0s0 (N : Nat) : Sg Try.prog 0 74 := .start hd74x0 rg74x0
noncomputable def S74x0x6 (N : Nat) (w2 : LD) (w3 w8 : Int) (w4 : Int) (kr : Int → Option R) (k0 : Unit → Option R) (k1 : Unit → Option R) : Option R :=
  bif (decide (w4 < w3)) then
    bif (inB w4 w2.length) then
      bif (((w2.getD w4.toNat (.i 0)).cell 7).toI == w8) then
        k0 ()
      else
        kr (IntKind.wrap .i64 (w4 + 1))
    else
      none
  else
    k1 ()
noncomputable def L74x0x6 (N : Nat) {R : Type} (w2 : LD) (w3 w8 : Int) : Nat → Int → (Unit → Option R) → (Unit → Option R) → Option R
  | 0, _, _, _ => none
  | m + 1, w4, k0, k1 => S74x0x6 N w2 w3 w8 w4 (fun w4 => L74x0x6 N w2 w3 w8 m w4 k0 k1) k0 k1
noncomputable def G74x0x6 (w2 : LD) (w3 w8 : Int) (w4 : Int) : Option (Sum (Unit) (Unit)) := L74x0x6 N (R := (Sum (Unit) (Unit))) w2 w3 w8 N w4 (fun p => some (.inl p)) (fun p => some (.inr p))
noncomputable def J74x0x6 (L x : List Lf) (kr : List Lf → Option R) (k0 : Unit → Option R) (k1 : Unit → Option R) : Option R := S74x0x6 N (ll L 2) (li L 3) (li L 8) (li x 0) (fun w4 => kr [.i w4]) k0 k1
theorem sb74x0x6 (L x : List Lf) (kr : List Lf → Option R) (k0 : Unit → Option R) (k1 : Unit → Option R) : J74x0x6 N L x kr k0 k1 = (J74x0x6 N L x (fun y => some (.inl y)) (fun p => some (.inr (.inl p))) (fun p => some (.inr (.inr p)))).bind (sumE kr (sumE k0 k1)) := by
  unfold J74x0x6 S74x0x6
  repeat' (first | with_reducible apply cond_b | (with_reducible apply bnd_b; intro _) | rfl)
noncomputable def Q74x0x6 (L : List Lf) (m : Nat) (x : List Lf) : Option (Sum (Unit) (Unit)) := L74x0x6 N (R := (Sum (Unit) (Unit))) (ll L 2) (li L 3) (li L 8) m (li x 0) (fun p => some (.inl p)) (fun p => some (.inr p))
noncomputable def sh74x0x6 : Sh := { tmps := [(1, .c (.i .i64)), (3, .c (.p 3 0)), (5, .c (.p 5 0)), (15, .c (.sl 70)), (16, .c (.i .i64)), (17, .c (.i .i64))], mem := [(3, .box ([.sl 70])), (5, .box (.s :: [.i .i64, .i .i64, .sl 48, .sl 111, .sl 9]))] }
noncomputable def K74x0x6w0 (L : List Lf) (_ : Unit) : Ex × St := (.ret, mg (ofSh sh74x0x6 L) [6] [(6, .c (.b true))] [3, 5] [])
noncomputable def A74x0x6 (L : List Lf) : List (Bool × (Ex × St)) := bnd (Q74x0x6 N L N (pk sh74x0x6 [4] L)) fun q => [((inlB q), K74x0x6w0 L ()), ((inrQ q).isSome, ((.exit 0), mg (ofSh sh74x0x6 L) [1, 3, 5] [] [3, 5] []))]
theorem step74x0x6 (m : Nat) (kn : St → Option (Ex × St)) (L x : List Lf) : lpB Try.prog (T91x0 N) (h74x0s0 N).h 0 74 6 sh74x0x6 [4] [6, 3, 1, 5] [5, 3] (m + 100) kn L x = J74x0x6 N L x (fun y => kn (ofSh sh74x0x6 (mx sh74x0x6 [4] L y))) (fun _ => some (K74x0x6w0 L ())) (fun _ => some ((.exit 0), mg (ofSh sh74x0x6 L) [1, 3, 5] [] [3, 5] [])) := by kernel_rfl
theorem ql74x0x6 (L : List Lf) (m : Nat) (x : List Lf) : Q74x0x6 N L (m + 1) x = J74x0x6 N L x (Q74x0x6 N L m) (fun p => some (.inl p)) (fun p => some (.inr p)) := by kernel_rfl
noncomputable def h74x0s1 : Sg Try.prog 0 74 :=
  (h74x0s0 N).lp (A74x0x6 N) N progOk (T91x0_ok N) (fun m kn L x => (step74x0x6 N m kn L x).trans (sb74x0x6 N L x _ _ _)) (fun L m x => (ql74x0x6 N L m x).trans (sb74x0x6 N L x (Q74x0x6 N L m) (fun p => some (.inl p)) (fun p => some (.inr p)))) fun L x hx => (altS alt1) x hx
noncomputable def S74x0x33 (N : Nat) (w5 : LD) (w6 : Int) (w25 : LB) (w7 : Int) (kr : Int → Option R) (k0 : Unit → Option R) (k1 : Unit → Option R) : Option R :=
  bif (decide (w7 < w6)) then
    bif (inB w7 w5.length) then
      bif ((w5.getD w7.toNat (.i 0)).toS == w25) then
        k0 ()
      else
        kr (IntKind.wrap .i64 (w7 + 1))
    else
      none
  else
    k1 ()
noncomputable def L74x0x33 (N : Nat) {R : Type} (w5 : LD) (w6 : Int) (w25 : LB) : Nat → Int → (Unit → Option R) → (Unit → Option R) → Option R
  | 0, _, _, _ => none
  | m + 1, w7, k0, k1 => S74x0x33 N w5 w6 w25 w7 (fun w7 => L74x0x33 N w5 w6 w25 m w7 k0 k1) k0 k1
noncomputable def G74x0x33 (w5 : LD) (w6 : Int) (w25 : LB) (w7 : Int) : Option (Sum (Unit) (Unit)) := L74x0x33 N (R := (Sum (Unit) (Unit))) w5 w6 w25 N w7 (fun p => some (.inl p)) (fun p => some (.inr p))
noncomputable def J74x0x33 (L x : List Lf) (kr : List Lf → Option R) (k0 : Unit → Option R) (k1 : Unit → Option R) : Option R := S74x0x33 N (ll L 5) (li L 6) (ls L 25) (li x 0) (fun w7 => kr [.i w7]) k0 k1
theorem sb74x0x33 (L x : List Lf) (kr : List Lf → Option R) (k0 : Unit → Option R) (k1 : Unit → Option R) : J74x0x33 N L x kr k0 k1 = (J74x0x33 N L x (fun y => some (.inl y)) (fun p => some (.inr (.inl p))) (fun p => some (.inr (.inr p)))).bind (sumE kr (sumE k0 k1)) := by
  unfold J74x0x33 S74x0x33
  repeat' (first | with_reducible apply cond_b | (with_reducible apply bnd_b; intro _) | rfl)
noncomputable def Q74x0x33 (L : List Lf) (m : Nat) (x : List Lf) : Option (Sum (Unit) (Unit)) := L74x0x33 N (R := (Sum (Unit) (Unit))) (ll L 5) (li L 6) (ls L 25) m (li x 0) (fun p => some (.inl p)) (fun p => some (.inr p))
noncomputable def sh74x0x33 : Sh := { tmps := [(5, .c (.p 5 0)), (10, .c (.p 10 0)), (29, .c (.sl 70)), (30, .c (.i .i64)), (31, .c (.i .i64)), (36, .c (.sl 9)), (37, .c (.i .i64)), (38, .c (.i .i64))], mem := [(5, .box (.s :: [.i .i64, .i .i64, .sl 48, .sl 111, .sl 9])), (10, .box (rI 8 ([.s])))] }
noncomputable def A74x0x33 (L : List Lf) : List (Bool × (Ex × St)) := bnd (Q74x0x33 N L N (pk sh74x0x33 [7] L)) fun q => [((inlB q), (.ret, mg (ofSh sh74x0x33 L) [6] [(6, .c (.b true))] [5] [])), ((inrQ q).isSome, ((.exit 4), mg (ofSh sh74x0x33 L) [5, 29, 30, 31] [] [5] []))]
theorem step74x0x33 (m : Nat) (kn : St → Option (Ex × St)) (L x : List Lf) : lpB Try.prog (T91x0 N) (h74x0s1 N).h 0 74 33 sh74x0x33 [7] [6, 31, 30, 29, 5] [5] (m + 100) kn L x = J74x0x33 N L x (fun y => kn (ofSh sh74x0x33 (mx sh74x0x33 [7] L y))) (fun _ => some (.ret, mg (ofSh sh74x0x33 L) [6] [(6, .c (.b true))] [5] [])) (fun _ => some ((.exit 4), mg (ofSh sh74x0x33 L) [5, 29, 30, 31] [] [5] [])) := by kernel_rfl
theorem ql74x0x33 (L : List Lf) (m : Nat) (x : List Lf) : Q74x0x33 N L (m + 1) x = J74x0x33 N L x (Q74x0x33 N L m) (fun p => some (.inl p)) (fun p => some (.inr p)) := by kernel_rfl
noncomputable def h74x0s2 : Sg Try.prog 0 74 :=
  (h74x0s1 N).lp (A74x0x33 N) N progOk (T91x0_ok N) (fun m kn L x => (step74x0x33 N m kn L x).trans (sb74x0x33 N L x _ _ _)) (fun L m x => (ql74x0x33 N L m x).trans (sb74x0x33 N L x (Q74x0x33 N L m) (fun p => some (.inl p)) (fun p => some (.inr p)))) fun L x hx => (altS alt1) x hx
noncomputable def S74x0x24 (w1 : LD) (w2 : Int) (w12 : LD) (w3 : Int) (kr : Int → Option R) (k0 : Unit → Option R) (k1 : Unit → Option R) : Option R :=
  bif (decide (w3 < w2)) then
    bif (inB w3 w1.length) then
      bnd (G74x0x33 N w12 (w12.length : Int) ((w1.getD w3.toNat (.i 0)).cell 8).toS 0) fun y0 =>
      bif (inlB y0) then
        k0 ()
      else
        bif (inrQ y0).isSome then
          kr (IntKind.wrap .i64 (w3 + 1))
        else
          none
    else
      none
  else
    k1 ()
noncomputable def L74x0x24 (N : Nat) {R : Type} (w1 : LD) (w2 : Int) (w12 : LD) : Nat → Int → (Unit → Option R) → (Unit → Option R) → Option R
  | 0, _, _, _ => none
  | m + 1, w3, k0, k1 => S74x0x24 N w1 w2 w12 w3 (fun w3 => L74x0x24 N w1 w2 w12 m w3 k0 k1) k0 k1
noncomputable def G74x0x24 (w1 : LD) (w2 : Int) (w12 : LD) (w3 : Int) : Option (Sum (Unit) (Unit)) := L74x0x24 N (R := (Sum (Unit) (Unit))) w1 w2 w12 N w3 (fun p => some (.inl p)) (fun p => some (.inr p))
noncomputable def J74x0x24 (L x : List Lf) (kr : List Lf → Option R) (k0 : Unit → Option R) (k1 : Unit → Option R) : Option R := S74x0x24 N (ll L 1) (li L 2) (ll L 12) (li x 0) (fun w3 => kr [.i w3]) k0 k1
theorem sb74x0x24 (L x : List Lf) (kr : List Lf → Option R) (k0 : Unit → Option R) (k1 : Unit → Option R) : J74x0x24 N L x kr k0 k1 = (J74x0x24 N L x (fun y => some (.inl y)) (fun p => some (.inr (.inl p))) (fun p => some (.inr (.inr p)))).bind (sumE kr (sumE k0 k1)) := by
  unfold J74x0x24 S74x0x24
  repeat' (first | with_reducible apply cond_b | (with_reducible apply bnd_b; intro _) | rfl)
noncomputable def Q74x0x24 (L : List Lf) (m : Nat) (x : List Lf) : Option (Sum (Unit) (Unit)) := L74x0x24 N (R := (Sum (Unit) (Unit))) (ll L 1) (li L 2) (ll L 12) m (li x 0) (fun p => some (.inl p)) (fun p => some (.inr p))
noncomputable def sh74x0x24 : Sh := { tmps := [(5, .c (.p 5 0)), (29, .c (.sl 70)), (30, .c (.i .i64)), (31, .c (.i .i64))], mem := [(5, .box (.s :: [.i .i64, .i .i64, .sl 48, .sl 111, .sl 9]))] }
noncomputable def A74x0x24 (L : List Lf) : List (Bool × (Ex × St)) := bnd (Q74x0x24 N L N (pk sh74x0x24 [3] L)) fun q => [((inlB q), (.ret, ⟨[(6, .c (.b true))], []⟩)), ((inrQ q).isSome, ((.exit 2), ⟨[], []⟩))]
theorem step74x0x24 (m : Nat) (kn : St → Option (Ex × St)) (L x : List Lf) : lpB Try.prog (T91x0 N) (h74x0s2 N).h 0 74 24 sh74x0x24 [3] [6] [] (m + 100) kn L x = J74x0x24 N L x (fun y => kn (ofSh sh74x0x24 (mx sh74x0x24 [3] L y))) (fun _ => some (.ret, ⟨[(6, .c (.b true))], []⟩)) (fun _ => some ((.exit 2), ⟨[], []⟩)) := by kernel_rfl
theorem ql74x0x24 (L : List Lf) (m : Nat) (x : List Lf) : Q74x0x24 N L (m + 1) x = J74x0x24 N L x (Q74x0x24 N L m) (fun p => some (.inl p)) (fun p => some (.inr p)) := by kernel_rfl
noncomputable def h74x0s3 : Sg Try.prog 0 74 :=
  (h74x0s2 N).lp (A74x0x24 N) N progOk (T91x0_ok N) (fun m kn L x => (step74x0x24 N m kn L x).trans (sb74x0x24 N L x _ _ _)) (fun L m x => (ql74x0x24 N L m x).trans (sb74x0x24 N L x (Q74x0x24 N L m) (fun p => some (.inl p)) (fun p => some (.inr p)))) fun L x hx => (altS alt1) x hx
noncomputable def F74x0 (v1 : LD) (v2 v4 : Int) (v11 : LD) (k0 : Bool → Option R) : Option R :=
  bnd (G91x0 N v1 v2 5) fun y0 =>
  bif y0.isSome then
    bnd (G74x0x6 N (y0.getD default).2 ((y0.getD default).2.length : Int) v4 0) fun y1 =>
    bif (inlB y1) then
      k0 true
    else
      bif (inrQ y1).isSome then
        bnd (G91x0 N v1 v2 4) fun y2 =>
        bif y2.isSome then
          bnd (G74x0x24 N (y2.getD default).2 ((y2.getD default).2.length : Int) v11 0) fun y3 =>
          bif (inlB y3) then
            k0 true
          else
            bif (inrQ y3).isSome then
              k0 false
            else
              none
        else
          none
      else
        none
  else
    none
noncomputable def G74x0 (v1 : LD) (v2 v4 : Int) (v11 : LD) : Option (Bool) := F74x0 N v1 v2 v4 v11 (fun p => some p)
theorem bind74x0 (v1 : LD) (v2 v4 : Int) (v11 : LD) (k0 : Bool → Option R) : F74x0 N v1 v2 v4 v11 k0 = (G74x0 N v1 v2 v4 v11).bind k0 := by
  unfold G74x0 F74x0
  repeat' (first | with_reducible apply cond_b | (with_reducible apply bnd_b; intro _) | rfl)
noncomputable def J74x0 (L : List Lf) (k0 : Bool → Option R) : Option R := F74x0 N (ll L 1) (li L 2) (li L 4) (ll L 11) k0
noncomputable def sh74x0 : Sh := { tmps := [(0, .g ([.sl 70])), (1, .c (.i .i64)), (2, .g (.s :: [.i .i64, .i .i64, .sl 48, .sl 111, .sl 9]))], mem := [] }
noncomputable def A74x0 (L : List Lf) : List (Bool × Res) := bnd (J74x0 N L (fun p => some p)) fun q => [(q.isSome, ([.c (.b (q.getD default))], []))]
theorem raw74x0 (L : List Lf) : bd Try.prog (T91x0 N) (h74x0s3 N).h 74 sh74x0 L = J74x0 N L (fun p => some ([.c (.b p)], [])) := by kernel_rfl
theorem ok74x0 : FnOk Try.prog 74 sh74x0 (A74x0 N) :=
  (h74x0s3 N).fn progOk (T91x0_ok N) fun L x hx => ((raw74x0 N L).trans ((bind74x0 N ..).trans (alt1 x hx)))
noncomputable def T74x0 : Oracle := ext 74 (spSh sh74x0 (A74x0 N)) (T91x0 N)
theorem T74x0_ok : OracleOk Try.prog (T74x0 N) := FnOk.to (ok74x0 N) (T91x0_ok N)
noncomputable def rg75x0 : List (Nat × List Nat) := [(0, [0, 2, 3, 1]), (1, [4, 1, 7, 6]), (2, [18, 17, 16, 7, 6, 4, 1]), (3, [16, 18, 7, 17, 6, 4, 1]), (4, [7, 10, 18, 17, 16, 6, 4, 1]), (5, []), (6, [18, 17, 16, 7, 6, 4, 1]), (7, [6, 7, 4, 1]), (8, [4, 1, 11]), (9, [62, 61, 60, 11]), (10, [60, 62, 11, 61]), (11, [11, 13, 62, 61, 60]), (12, []), (13, [62, 61, 60, 11]), (14, [])]
noncomputable def hd75x0 : Hints := [(6, [18, 17, 16, 7, 6, 4, 1], [7, 6, 4], []), (27, [62, 61, 60, 11], [], [])]
noncomputable def h75x0s0 (N : Nat) : Sg Try.prog 0 75 := .start hd75x0 rg75x0
noncomputable def S75x0x6 (N : Nat) (w2 : LD) (w3 w17 w18 : Int) (w4 : Int) (kr : Int → Option R) (k0 : Unit → Option R) (k1 : Unit → Option R) : Option R :=
  bif (decide (w4 < w3)) then
    bif (inB w4 w2.length) then
      bnd (IntKind.wrap .i64 (w17 - ((w2.getD w4.toNat (.i 0)).cell 2).toI)) fun y0 =>
      bnd (IntKind.wrap .i64 (w17 - ((w2.getD w4.toNat (.i 0)).cell 2).toI)) fun y0 =>
      bnd (IntKind.wrap .i64 (w18 - ((w2.getD w4.toNat (.i 0)).cell 3).toI)) fun y1 =>
      bnd (IntKind.wrap .i64 (w18 - ((w2.getD w4.toNat (.i 0)).cell 3).toI)) fun y1 =>
      bnd (IntKind.wrap .i64 ((IntKind.wrap .i64 (y0 * y0)) + (IntKind.wrap .i64 (y1 * y1)))) fun y2 =>
      bnd (IntKind.wrap .i64 (((w2.getD w4.toNat (.i 0)).cell 4).toI * ((w2.getD w4.toNat (.i 0)).cell 4).toI)) fun y3 =>
      bif (decide (y2 ≤ y3)) then
        k0 ()
      else
        kr (IntKind.wrap .i64 (w4 + 1))
    else
      none
  else
    k1 ()
noncomputable def L75x0x6 (N : Nat) {R : Type} (w2 : LD) (w3 w17 w18 : Int) : Nat → Int → (Unit → Option R) → (Unit → Option R) → Option R
  | 0, _, _, _ => none
  | m + 1, w4, k0, k1 => S75x0x6 N w2 w3 w17 w18 w4 (fun w4 => L75x0x6 N w2 w3 w17 w18 m w4 k0 k1) k0 k1
noncomputable def G75x0x6 (w2 : LD) (w3 w17 w18 : Int) (w4 : Int) : Option (Sum (Unit) (Unit)) := L75x0x6 N (R := (Sum (Unit) (Unit))) w2 w3 w17 w18 N w4 (fun p => some (.inl p)) (fun p => some (.inr p))
noncomputable def J75x0x6 (L x : List Lf) (kr : List Lf → Option R) (k0 : Unit → Option R) (k1 : Unit → Option R) : Option R := S75x0x6 N (ll L 2) (li L 3) (li L 17) (li L 18) (li x 0) (fun w4 => kr [.i w4]) k0 k1
theorem sb75x0x6 (L x : List Lf) (kr : List Lf → Option R) (k0 : Unit → Option R) (k1 : Unit → Option R) : J75x0x6 N L x kr k0 k1 = (J75x0x6 N L x (fun y => some (.inl y)) (fun p => some (.inr (.inl p))) (fun p => some (.inr (.inr p)))).bind (sumE kr (sumE k0 k1)) := by
  unfold J75x0x6 S75x0x6
  repeat' (first | with_reducible apply cond_b | (with_reducible apply bnd_b; intro _) | rfl)
noncomputable def Q75x0x6 (L : List Lf) (m : Nat) (x : List Lf) : Option (Sum (Unit) (Unit)) := L75x0x6 N (R := (Sum (Unit) (Unit))) (ll L 2) (li L 3) (li L 17) (li L 18) m (li x 0) (fun p => some (.inl p)) (fun p => some (.inr p))
noncomputable def sh75x0x6 : Sh := { tmps := [(1, .c (.i .i64)), (4, .c (.p 4 0)), (6, .c (.p 6 0)), (7, .c (.p 7 0)), (16, .c (.sl 70)), (17, .c (.i .i64)), (18, .c (.i .i64))], mem := [(4, .box ([.sl 70])), (6, .box (.s :: [.i .i64, .i .i64, .sl 48, .sl 111, .sl 9])), (7, .box (rI 7 ([])))] }
noncomputable def K75x0x6w0 (L : List Lf) (_ : Unit) : Ex × St := (.ret, mg (ofSh sh75x0x6 L) [8] [(8, .c (.b true))] [4, 6, 7] [])
noncomputable def K75x0x6w1 (L : List Lf) (_ : Unit) : Ex × St := ((.exit 0), mg (ofSh sh75x0x6 L) [1, 4, 6, 7] [] [4, 6, 7] [])
noncomputable def A75x0x6 (L : List Lf) : List (Bool × (Ex × St)) := bnd (Q75x0x6 N L N (pk sh75x0x6 [4] L)) fun q => [((inlB q), K75x0x6w0 L ()), ((inrQ q).isSome, K75x0x6w1 L ())]
theorem step75x0x6 (m : Nat) (kn : St → Option (Ex × St)) (L x : List Lf) : lpB Try.prog (T74x0 N) (h75x0s0 N).h 0 75 6 sh75x0x6 [4] [8, 6, 7, 4, 1] [7, 6, 4] (m + 100) kn L x = J75x0x6 N L x (fun y => kn (ofSh sh75x0x6 (mx sh75x0x6 [4] L y))) (fun _ => some (K75x0x6w0 L ())) (fun _ => some (K75x0x6w1 L ())) := by kernel_rfl
theorem ql75x0x6 (L : List Lf) (m : Nat) (x : List Lf) : Q75x0x6 N L (m + 1) x = J75x0x6 N L x (Q75x0x6 N L m) (fun p => some (.inl p)) (fun p => some (.inr p)) := by kernel_rfl
noncomputable def h75x0s1 : Sg Try.prog 0 75 :=
  (h75x0s0 N).lp (A75x0x6 N) N progOk (T74x0_ok N) (fun m kn L x => (step75x0x6 N m kn L x).trans (sb75x0x6 N L x _ _ _)) (fun L m x => (ql75x0x6 N L m x).trans (sb75x0x6 N L x (Q75x0x6 N L m) (fun p => some (.inl p)) (fun p => some (.inr p)))) fun L x hx => (altS alt1) x hx
noncomputable def S75x0x27 (N : Nat) (w0 : Int) (w2 : LD) (w3 : Int) (w4 : Int) (kr : Int → Option R) (k0 : Unit → Option R) (k1 : Unit → Option R) : Option R :=
  bif (decide (w4 < w3)) then
    bif (inB w4 w2.length) then
      bnd (bif (decide (w0 ≥ ((w2.getD w4.toNat (.i 0)).cell 5).toI)) then (decide (w0 ≤ ((w2.getD w4.toNat (.i 0)).cell 6).toI)) else false) fun y0 =>
      bif y0 then
        k0 ()
      else
        kr (IntKind.wrap .i64 (w4 + 1))
    else
      none
  else
    k1 ()
noncomputable def L75x0x27 (N : Nat) {R : Type} (w0 : Int) (w2 : LD) (w3 : Int) : Nat → Int → (Unit → Option R) → (Unit → Option R) → Option R
  | 0, _, _, _ => none
  | m + 1, w4, k0, k1 => S75x0x27 N w0 w2 w3 w4 (fun w4 => L75x0x27 N w0 w2 w3 m w4 k0 k1) k0 k1
noncomputable def G75x0x27 (w0 : Int) (w2 : LD) (w3 : Int) (w4 : Int) : Option (Sum (Unit) (Unit)) := L75x0x27 N (R := (Sum (Unit) (Unit))) w0 w2 w3 N w4 (fun p => some (.inl p)) (fun p => some (.inr p))
noncomputable def J75x0x27 (L x : List Lf) (kr : List Lf → Option R) (k0 : Unit → Option R) (k1 : Unit → Option R) : Option R := S75x0x27 N (li L 0) (ll L 2) (li L 3) (li x 0) (fun w4 => kr [.i w4]) k0 k1
theorem sb75x0x27 (L x : List Lf) (kr : List Lf → Option R) (k0 : Unit → Option R) (k1 : Unit → Option R) : J75x0x27 N L x kr k0 k1 = (J75x0x27 N L x (fun y => some (.inl y)) (fun p => some (.inr (.inl p))) (fun p => some (.inr (.inr p)))).bind (sumE kr (sumE k0 k1)) := by
  unfold J75x0x27 S75x0x27
  repeat' (first | with_reducible apply cond_b | (with_reducible apply bnd_b; intro _) | rfl)
noncomputable def Q75x0x27 (L : List Lf) (m : Nat) (x : List Lf) : Option (Sum (Unit) (Unit)) := L75x0x27 N (R := (Sum (Unit) (Unit))) (li L 0) (ll L 2) (li L 3) m (li x 0) (fun p => some (.inl p)) (fun p => some (.inr p))
noncomputable def sh75x0x27 : Sh := { tmps := [(11, .c (.i .i64)), (60, .c (.sl 70)), (61, .c (.i .i64)), (62, .c (.i .i64))], mem := [] }
noncomputable def A75x0x27 (L : List Lf) : List (Bool × (Ex × St)) := bnd (Q75x0x27 N L N (pk sh75x0x27 [4] L)) fun q => [((inlB q), (.ret, ⟨[(8, .c (.b true))], []⟩)), ((inrQ q).isSome, ((.exit 2), ⟨[], []⟩))]
theorem step75x0x27 (m : Nat) (kn : St → Option (Ex × St)) (L x : List Lf) : lpB Try.prog (T74x0 N) (h75x0s1 N).h 0 75 27 sh75x0x27 [4] [8] [] (m + 100) kn L x = J75x0x27 N L x (fun y => kn (ofSh sh75x0x27 (mx sh75x0x27 [4] L y))) (fun _ => some (.ret, ⟨[(8, .c (.b true))], []⟩)) (fun _ => some ((.exit 2), ⟨[], []⟩)) := by kernel_rfl
theorem ql75x0x27 (L : List Lf) (m : Nat) (x : List Lf) : Q75x0x27 N L (m + 1) x = J75x0x27 N L x (Q75x0x27 N L m) (fun p => some (.inl p)) (fun p => some (.inr p)) := by kernel_rfl
noncomputable def h75x0s2 : Sg Try.prog 0 75 :=
  (h75x0s1 N).lp (A75x0x27 N) N progOk (T74x0_ok N) (fun m kn L x => (step75x0x27 N m kn L x).trans (sb75x0x27 N L x _ _ _)) (fun L m x => (ql75x0x27 N L m x).trans (sb75x0x27 N L x (Q75x0x27 N L m) (fun p => some (.inl p)) (fun p => some (.inr p)))) fun L x hx => (altS alt1) x hx
noncomputable def F75x0 (v1 : LD) (v2 v5 v12 v13 v14 : Int) (k0 : Bool → Option R) : Option R :=
  bnd (G91x0 N v1 v2 1) fun y0 =>
  bif y0.isSome then
    bnd (G75x0x6 N (y0.getD default).2 ((y0.getD default).2.length : Int) v13 v14 0) fun y1 =>
    bif (inlB y1) then
      k0 true
    else
      bif (inrQ y1).isSome then
        bnd (G91x0 N v1 v2 2) fun y2 =>
        bif y2.isSome then
          bnd (G75x0x27 N ((IntKind.wrap .i64 (v5 + v12)).tmod 86400) (y2.getD default).2 ((y2.getD default).2.length : Int) 0) fun y3 =>
          bif (inlB y3) then
            k0 true
          else
            bif (inrQ y3).isSome then
              k0 false
            else
              none
        else
          none
      else
        none
  else
    none
noncomputable def G75x0 (v1 : LD) (v2 v5 v12 v13 v14 : Int) : Option (Bool) := F75x0 N v1 v2 v5 v12 v13 v14 (fun p => some p)
theorem bind75x0 (v1 : LD) (v2 v5 v12 v13 v14 : Int) (k0 : Bool → Option R) : F75x0 N v1 v2 v5 v12 v13 v14 k0 = (G75x0 N v1 v2 v5 v12 v13 v14).bind k0 := by
  unfold G75x0 F75x0
  repeat' (first | with_reducible apply cond_b | (with_reducible apply bnd_b; intro _) | rfl)
noncomputable def J75x0 (L : List Lf) (k0 : Bool → Option R) : Option R := F75x0 N (ll L 1) (li L 2) (li L 5) (li L 12) (li L 13) (li L 14) k0
noncomputable def sh75x0 : Sh := { tmps := [(0, .g ([.sl 70])), (1, .c (.i .i64)), (2, .g (.s :: [.i .i64, .i .i64, .sl 48, .sl 111, .sl 9])), (3, .g (rI 7 ([])))], mem := [] }
noncomputable def A75x0 (L : List Lf) : List (Bool × Res) := bnd (J75x0 N L (fun p => some p)) fun q => [(q.isSome, ([.c (.b (q.getD default))], []))]
theorem raw75x0 (L : List Lf) : bd Try.prog (T74x0 N) (h75x0s2 N).h 75 sh75x0 L = J75x0 N L (fun p => some ([.c (.b p)], [])) := by kernel_rfl
theorem ok75x0 : FnOk Try.prog 75 sh75x0 (A75x0 N) :=
  (h75x0s2 N).fn progOk (T74x0_ok N) fun L x hx => ((raw75x0 N L).trans ((bind75x0 N ..).trans (alt1 x hx)))
noncomputable def T75x0 : Oracle := ext 75 (spSh sh75x0 (A75x0 N)) (T74x0 N)
theorem T75x0_ok : OracleOk Try.prog (T75x0 N) := FnOk.to (ok75x0 N) (T74x0_ok N)
noncomputable def rg43x0 : List (Nat × List Nat) := [(0, [0, 2, 1]), (1, [3, 1, 5]), (2, [5, 8, 3, 1]), (3, [5, 9, 8, 3, 1]), (4, [19, 18, 17, 9, 8, 3, 1, 5]), (5, [17, 19, 9, 8, 3, 1, 5, 18]), (6, [9, 8, 3, 1, 5, 11, 19, 18, 17]), (7, [19, 18, 17, 9, 8, 3, 1, 5]), (8, [9, 8])]
noncomputable def hd43x0 : Hints := [(12, [19, 18, 17, 9, 8, 3, 1, 5], [5, 3, 9], [9]), (19, [9, 8, 3, 1, 5, 11, 19, 18, 17], [11, 9, 5, 3], [])]
noncomputable def h43x0s0 (N : Nat) : Sg Try.prog 0 43 := .start hd43x0 rg43x0
noncomputable def F43x0x19 (w0 : Int) (w1 : Bool) (w7 : LD) (w10 : Int) (w18 : LD) (w19 w20 w21 : Int) (k0 : LD → Option R) : Option R :=
  bif w1 then
    bif (decide ((w18.length + 1) * 1 ≤ room) && decide ((w18.length + 1) ≤ strMax)) then
      k0 (w18 ++ [(.b true)])
    else
      none
  else
    bnd (G75x0 N w7 w0 w10 w19 w20 w21) fun y0 =>
    bif y0.isSome then
      bif (decide ((w18.length + 1) * 1 ≤ room) && decide ((w18.length + 1) ≤ strMax)) then
        k0 (w18 ++ [(.b (y0.getD default))])
      else
        none
    else
      none
noncomputable def G43x0x19 (w0 : Int) (w1 : Bool) (w7 : LD) (w10 : Int) (w18 : LD) (w19 w20 w21 : Int) : Option (LD) := F43x0x19 N w0 w1 w7 w10 w18 w19 w20 w21 (fun p => some p)
theorem bind43x0x19 (w0 : Int) (w1 : Bool) (w7 : LD) (w10 : Int) (w18 : LD) (w19 w20 w21 : Int) (k0 : LD → Option R) : F43x0x19 N w0 w1 w7 w10 w18 w19 w20 w21 k0 = (G43x0x19 N w0 w1 w7 w10 w18 w19 w20 w21).bind k0 := by
  unfold G43x0x19 F43x0x19
  repeat' (first | with_reducible apply cond_b | (with_reducible apply bnd_b; intro _) | rfl)
noncomputable def J43x0x19 (L : List Lf) (k0 : LD → Option R) : Option R := F43x0x19 N (li L 0) (lb L 1) (ll L 7) (li L 10) (ll L 18) (li L 19) (li L 20) (li L 21) k0
noncomputable def sh43x0x19 : Sh := { tmps := [(1, .c (.i .i64)), (3, .c (.p 3 0)), (5, .c (.p 5 0)), (8, .c (.b)), (9, .c (.o 9)), (11, .c (.p 11 0)), (17, .c (.sl 48)), (18, .c (.i .i64)), (19, .c (.i .i64))], mem := [(3, .box ([.sl 70])), (5, .box (.s :: [.i .i64, .i .i64, .sl 48, .sl 111, .sl 9])), (9, .row 4 true), (11, .box (rI 7 ([])))] }
noncomputable def K43x0x19w0 (L : List Lf) (p : LD) : Ex × St := (.normal, mg (ofSh sh43x0x19 L) [1, 3, 5, 8, 9, 17, 18, 19] [(9, .c (.o 33))] [3, 5, 33] [(33, .row 4 true false p)])
noncomputable def A43x0x19 (L : List Lf) : List (Bool × (Ex × St)) := bnd (J43x0x19 N L (fun p => some p)) fun q => [(q.isSome, K43x0x19w0 L (q.getD default))]
theorem raw43x0x19 (L : List Lf) : pc Try.prog (T75x0 N) (h43x0s0 N).h 0 100 43 19 sh43x0x19 L [19, 18, 17, 9, 8, 3, 1, 5] [33, 5, 3] = J43x0x19 N L (fun p => some (K43x0x19w0 L p)) := by kernel_rfl
noncomputable def h43x0s1 : Sg Try.prog 0 43 :=
  (h43x0s0 N).cut (A43x0x19 N) progOk (T75x0_ok N) fun L x hx => (raw43x0x19 N L).trans ((bind43x0x19 N ..).trans (alt1 x hx))
noncomputable def S43x0x12 (w0 : Int) (w1 : Bool) (w3 : LD) (w4 : Int) (w7 : LD) (w10 : Int) (w5 : Int) (w17 : Bool) (w18 : LD) (kr : Int → Bool → LD → Option R) (k0 : Bool × LD → Option R) : Option R :=
  bif (decide (w5 < w4)) then
    bif (inB w5 w3.length) then
      bnd (G43x0x19 N w0 w1 w7 w10 w18 ((w3.getD w5.toNat (.i 0)).cell 0).toI ((w3.getD w5.toNat (.i 0)).cell 1).toI ((w3.getD w5.toNat (.i 0)).cell 2).toI) fun y0 =>
      bif y0.isSome then
        kr (IntKind.wrap .i64 (w5 + 1)) false (y0.getD default)
      else
        none
    else
      none
  else
    k0 (w17, w18)
noncomputable def L43x0x12 (N : Nat) {R : Type} (w0 : Int) (w1 : Bool) (w3 : LD) (w4 : Int) (w7 : LD) (w10 : Int) : Nat → Int → Bool → LD → (Bool × LD → Option R) → Option R
  | 0, _, _, _, _ => none
  | m + 1, w5, w17, w18, k0 => S43x0x12 N w0 w1 w3 w4 w7 w10 w5 w17 w18 (fun w5 w17 w18 => L43x0x12 N w0 w1 w3 w4 w7 w10 m w5 w17 w18 k0) k0
noncomputable def G43x0x12 (w0 : Int) (w1 : Bool) (w3 : LD) (w4 : Int) (w7 : LD) (w10 : Int) (w5 : Int) (w17 : Bool) (w18 : LD) : Option (Bool × LD) := L43x0x12 N (R := (Bool × LD)) w0 w1 w3 w4 w7 w10 N w5 w17 w18 (fun p => some p)
noncomputable def J43x0x12 (L x : List Lf) (kr : List Lf → Option R) (k0 : Bool × LD → Option R) : Option R := S43x0x12 N (li L 0) (lb L 1) (ll L 3) (li L 4) (ll L 7) (li L 10) (li x 0) (lb x 1) (ll x 2) (fun w5 w17 w18 => kr [.i w5, .b w17, .l w18]) k0
theorem sb43x0x12 (L x : List Lf) (kr : List Lf → Option R) (k0 : Bool × LD → Option R) : J43x0x12 N L x kr k0 = (J43x0x12 N L x (fun y => some (.inl y)) (fun p => some (.inr p))).bind (sumE kr k0) := by
  unfold J43x0x12 S43x0x12
  repeat' (first | with_reducible apply cond_b | (with_reducible apply bnd_b; intro _) | rfl)
noncomputable def Q43x0x12 (L : List Lf) (m : Nat) (x : List Lf) : Option (Bool × LD) := L43x0x12 N (R := (Bool × LD)) (li L 0) (lb L 1) (ll L 3) (li L 4) (ll L 7) (li L 10) m (li x 0) (lb x 1) (ll x 2) (fun p => some p)
noncomputable def sh43x0x12 : Sh := { tmps := [(1, .c (.i .i64)), (3, .c (.p 3 0)), (5, .c (.p 5 0)), (8, .c (.b)), (9, .c (.o 9)), (17, .c (.sl 48)), (18, .c (.i .i64)), (19, .c (.i .i64))], mem := [(3, .box ([.sl 70])), (5, .box (.s :: [.i .i64, .i .i64, .sl 48, .sl 111, .sl 9])), (9, .row 4 true)] }
noncomputable def K43x0x12w0 (L : List Lf) (p : Bool × LD) : Ex × St := ((.exit 0), mg (ofSh sh43x0x12 L) [8, 9] [] [9] [(9, .row 4 true p.1 p.2)])
noncomputable def A43x0x12 (L : List Lf) : List (Bool × (Ex × St)) := bnd (Q43x0x12 N L N (pk sh43x0x12 [5, 17, 18] L)) fun q => [(q.isSome, K43x0x12w0 L (q.getD default))]
theorem step43x0x12 (m : Nat) (kn : St → Option (Ex × St)) (L x : List Lf) : lpB Try.prog (T75x0 N) (h43x0s1 N).h 0 43 12 sh43x0x12 [5, 17, 18] [6, 7, 9, 8] [9] (m + 100) kn L x = J43x0x12 N L x (fun y => kn (ofSh sh43x0x12 (mx sh43x0x12 [5, 17, 18] L y))) (fun p => some (K43x0x12w0 L p)) := by kernel_rfl
theorem ql43x0x12 (L : List Lf) (m : Nat) (x : List Lf) : Q43x0x12 N L (m + 1) x = J43x0x12 N L x (Q43x0x12 N L m) some := by kernel_rfl
noncomputable def h43x0s2 : Sg Try.prog 0 43 :=
  (h43x0s1 N).lp (A43x0x12 N) N progOk (T75x0_ok N) (fun m kn L x => (step43x0x12 N m kn L x).trans (sb43x0x12 N L x _ _)) (fun L m x => (ql43x0x12 N L m x).trans (sb43x0x12 N L x (Q43x0x12 N L m) some)) fun L x hx => alt1 x hx
noncomputable def F43x0 (v1 : LD) (v2 v4 v5 : Int) (v7 v11 : LD) (k0 : Bool × LD × Bool → Option R) : Option R :=
  bnd (G74x0 N v1 v2 v4 v11) fun y0 =>
  bif y0.isSome then
    bnd (G43x0x12 N v2 (y0.getD default) v7 (v7.length : Int) v1 v5 0 true []) fun y1 =>
    bif y1.isSome then
      k0 ((y1.getD default).1, (y1.getD default).2, (y0.getD default))
    else
      none
  else
    none
noncomputable def G43x0 (v1 : LD) (v2 v4 v5 : Int) (v7 v11 : LD) : Option (Bool × LD × Bool) := F43x0 N v1 v2 v4 v5 v7 v11 (fun p => some p)
theorem bind43x0 (v1 : LD) (v2 v4 v5 : Int) (v7 v11 : LD) (k0 : Bool × LD × Bool → Option R) : F43x0 N v1 v2 v4 v5 v7 v11 k0 = (G43x0 N v1 v2 v4 v5 v7 v11).bind k0 := by
  unfold G43x0 F43x0
  repeat' (first | with_reducible apply cond_b | (with_reducible apply bnd_b; intro _) | rfl)
noncomputable def J43x0 (L : List Lf) (k0 : Bool × LD × Bool → Option R) : Option R := F43x0 N (ll L 1) (li L 2) (li L 4) (li L 5) (ll L 7) (ll L 11) k0
noncomputable def sh43x0 : Sh := { tmps := [(0, .g ([.sl 70])), (1, .c (.i .i64)), (2, .g (.s :: [.i .i64, .i .i64, .sl 48, .sl 111, .sl 9]))], mem := [] }
noncomputable def A43x0 (L : List Lf) : List (Bool × Res) := bnd (J43x0 N L (fun p => some p)) fun q => [(q.isSome, ([.c (.sl 4 (q.getD default).1 (q.getD default).2.1), .c (.b (q.getD default).2.2)], []))]
theorem raw43x0 (L : List Lf) : bd Try.prog (T75x0 N) (h43x0s2 N).h 43 sh43x0 L = J43x0 N L (fun p => some ([.c (.sl 4 p.1 p.2.1), .c (.b p.2.2)], [])) := by kernel_rfl
theorem ok43x0 : FnOk Try.prog 43 sh43x0 (A43x0 N) :=
  (h43x0s2 N).fn progOk (T75x0_ok N) fun L x hx => ((raw43x0 N L).trans ((bind43x0 N ..).trans (alt1 x hx)))
noncomputable def T43x0 : Oracle := ext 43 (spSh sh43x0 (A43x0 N)) (T75x0 N)
theorem T43x0_ok : OracleOk Try.prog (T43x0 N) := FnOk.to (ok43x0 N) (T75x0_ok N)
noncomputable def rg11x0 : List (Nat × List Nat) := [(0, [0, 2, 1]), (1, [3, 1, 5]), (2, [9, 3, 1, 5]), (3, [9]), (4, [3, 1, 5]), (5, [10, 11])]
noncomputable def hd11x0 : Hints := []
noncomputable def h11x0s0 (N : Nat) : Sg Try.prog 0 11 := .start hd11x0 rg11x0
noncomputable def F11x0 (v1 : LD) (v2 : Int) (v3 : LB) (v4 v5 : Int) (v6 : Bool) (v7 : LD) (v8 : Bool) (v9 : LD) (v10 : Bool) (v11 : LD) (k0 : Ty8 → Option R) : Option R :=
  bnd (G42x0 N v1 v2 false [(.a [(.s v3), (.i v4), (.i v5), (.l v6 v7), (.l v8 v9), (.l v10 v11)])]) fun y0 =>
  bif y0.isSome then
    bif ((y0.getD default) != 0) then
      k0 (true, [], false, (y0.getD default))
    else
      bnd (G43x0 N v1 v2 v4 v5 v7 v11) fun y1 =>
      bif y1.isSome then
        k0 ((y1.getD default).1, (y1.getD default).2.1, (y1.getD default).2.2, 0)
      else
        none
  else
    none
noncomputable def G11x0 (v1 : LD) (v2 : Int) (v3 : LB) (v4 v5 : Int) (v6 : Bool) (v7 : LD) (v8 : Bool) (v9 : LD) (v10 : Bool) (v11 : LD) : Option (Ty8) := F11x0 N v1 v2 v3 v4 v5 v6 v7 v8 v9 v10 v11 (fun p => some p)
theorem bind11x0 (v1 : LD) (v2 : Int) (v3 : LB) (v4 v5 : Int) (v6 : Bool) (v7 : LD) (v8 : Bool) (v9 : LD) (v10 : Bool) (v11 : LD) (k0 : Ty8 → Option R) : F11x0 N v1 v2 v3 v4 v5 v6 v7 v8 v9 v10 v11 k0 = (G11x0 N v1 v2 v3 v4 v5 v6 v7 v8 v9 v10 v11).bind k0 := by
  unfold G11x0 F11x0
  repeat' (first | with_reducible apply cond_b | (with_reducible apply bnd_b; intro _) | rfl)
noncomputable def J11x0 (L : List Lf) (k0 : Ty8 → Option R) : Option R := F11x0 N (ll L 1) (li L 2) (ls L 3) (li L 4) (li L 5) (lb L 6) (ll L 7) (lb L 8) (ll L 9) (lb L 10) (ll L 11) k0
noncomputable def sh11x0 : Sh := { tmps := [(0, .g ([.sl 70])), (1, .c (.i .i64)), (2, .g (.s :: [.i .i64, .i .i64, .sl 48, .sl 111, .sl 9]))], mem := [] }
noncomputable def K11x0w0 (L : List Lf) (p : Ty8) : Res := ([.c (.sl 4 p.1 p.2.1), .c (.b p.2.2.1), .c (.i .i64 p.2.2.2)], [])
noncomputable def A11x0 (L : List Lf) : List (Bool × Res) := bnd (J11x0 N L (fun p => some p)) fun q => [(q.isSome, K11x0w0 L (q.getD default))]
theorem raw11x0 (L : List Lf) : bd Try.prog (T43x0 N) (h11x0s0 N).h 11 sh11x0 L = J11x0 N L (fun p => some (K11x0w0 L p)) := by kernel_rfl
theorem ok11x0 : FnOk Try.prog 11 sh11x0 (A11x0 N) :=
  (h11x0s0 N).fn progOk (T43x0_ok N) fun L x hx => ((raw11x0 N L).trans ((bind11x0 N ..).trans (alt1 x hx)))
noncomputable def T11x0 : Oracle := ext 11 (spSh sh11x0 (A11x0 N)) (T43x0 N)
theorem T11x0_ok : OracleOk Try.prog (T11x0 N) := FnOk.to (ok11x0 N) (T43x0_ok N)
noncomputable def rg76x0 : List (Nat × List Nat) := [(0, [0, 1]), (1, [2, 3])]
noncomputable def hd76x0 : Hints := []
noncomputable def h76x0s0 (N : Nat) : Sg Try.prog 0 76 := .start hd76x0 rg76x0
noncomputable def F76x0 (N : Nat) (k0 : Unit → R) : R :=
  k0 ()
noncomputable def V76x0 : Unit := F76x0 N (fun p => p)
theorem tot76x0 (k0 : Unit → R) : F76x0 N k0 = k0 (V76x0 N) := by
  unfold V76x0 F76x0
  repeat' (first | rfl | apply cond_k | (apply bnd_k; intro _))
noncomputable def sh76x0 : Sh := { tmps := [(0, .c (.sl 70)), (1, .g (.s :: [.i .i64, .i .i64, .sl 48, .sl 111, .sl 9]))], mem := [] }
noncomputable def K76x0w0 (L : List Lf) (_ : Unit) : Res := ([.c (.f 92 [(2, 0), (3, 0)])], [(2, .box [.sl 70 (lb L 0) (ll L 1)]), (3, .box [.s (ls L 2), .i .i64 (li L 3), .i .i64 (li L 4), .sl 48 (lb L 5) (ll L 6), .sl 111 (lb L 7) (ll L 8), .sl 9 (lb L 9) (ll L 10)])])
noncomputable def A76x0 (N : Nat) (L : List Lf) : List (Bool × Res) := [(true, K76x0w0 L ())]
theorem raw76x0 (L : List Lf) : bd Try.prog (T11x0 N) (h76x0s0 N).h 76 sh76x0 L = F76x0 N (fun _ => some (K76x0w0 L ())) := by kernel_rfl
theorem ok76x0 : FnOk Try.prog 76 sh76x0 (A76x0 N) :=
  (h76x0s0 N).fn progOk (T11x0_ok N) fun L x hx => ((raw76x0 N L).trans ((tot76x0 N ..).trans (alt0 _ _ hx)))
noncomputable def T76x0 : Oracle := ext 76 (spSh sh76x0 (A76x0 N)) (T11x0 N)
theorem T76x0_ok : OracleOk Try.prog (T76x0 N) := FnOk.to (ok76x0 N) (T11x0_ok N)
noncomputable def y44x0z600000022 : YInfo := rfY (piece Try.prog 44 600000022) [(8, 2, 0)] 4
noncomputable def rg93x0 : List (Nat × List Nat) := [(0, [0]), (1, [0, 2]), (2, [0, 3, 2]), (3, [8, 7, 6, 3, 2]), (4, [6, 8, 3, 7, 2]), (5, [5, 3, 8, 7, 6, 2]), (6, [13, 5, 3, 8, 7, 6, 2]), (8, [13, 3, 5, 8, 7, 6, 2]), (10, [13, 3, 8, 7, 6, 2]), (12, [13, 3, 8, 7, 6, 2]), (13, [3, 8, 7, 6, 2]), (11, [3, 8, 7, 6, 2]), (9, [3, 5, 8, 7, 6, 2]), (7, [5, 3, 8, 7, 6, 2]), (14, [8, 7, 6, 3, 2]), (15, [3, 2])]
noncomputable def hd93x0 : Hints := [(9, [8, 7, 6, 3, 2], [3, 2, 50003005], [50003005]), (41, [3, 8, 7, 6, 2, 32], [50003005, 3, 2], []), (36035, [3, 8, 7, 6, 2, 13, 29], [50003005, 3, 2], []), (30029, [3, 5, 8, 7, 6, 2, 13, 20], [5, 50003005, 3, 2], []), (24023, [5, 3, 8, 7, 6, 2, 13, 14], [5, 50003005, 3, 2], [])]
noncomputable def h93x0s0 (N : Nat) : Sg Try.prog 0 93 := .start hd93x0 rg93x0
noncomputable def F93x0x41 (N : Nat) (w4 w20 : Bool) (k0 : Bool → R) : R :=
  bif w4 then
    k0 true
  else
    k0 w20
noncomputable def V93x0x41 (w4 w20 : Bool) : Bool := F93x0x41 N w4 w20 (fun p => p)
theorem tot93x0x41 (w4 w20 : Bool) (k0 : Bool → R) : F93x0x41 N w4 w20 k0 = k0 (V93x0x41 N w4 w20) := by
  unfold V93x0x41 F93x0x41
  repeat' (first | rfl | apply cond_k | (apply bnd_k; intro _))
noncomputable def sh93x0x41 : Sh := { tmps := [(2, .c (.p 2 0)), (3, .c (.p 3 0)), (6, .c (.sl 70)), (7, .c (.i .i64)), (8, .c (.i .i64)), (32, .c (.b))], mem := [(2, .box (rB 5 ([.sl 3, .b, .b]))), (3, .box (rB 5 ([.o 50003005, .b, .b]))), (50003005, .row 3 true)] }
noncomputable def K93x0x41w0 (L : List Lf) (p : Bool) : Ex × St := (.normal, mg (ofSh sh93x0x41 L) [2, 3, 6, 7, 8] [] [2, 3, 50003005] [(3, .box (rM L 14 5 ([.o 50003005, .b (lb L 19), .b p])))])
noncomputable def A93x0x41 (L : List Lf) : List (Bool × (Ex × St)) := bnd (F93x0x41 N (lb L 4) (lb L 20) (fun p => p)) fun q => [(true, K93x0x41w0 L q)]
theorem raw93x0x41 (L : List Lf) : pc Try.prog (T76x0 N) (h93x0s0 N).h 0 100 93 41 sh93x0x41 L [8, 7, 6, 3, 2] [50003005, 3, 2] = F93x0x41 N (lb L 4) (lb L 20) (fun p => some (K93x0x41w0 L p)) := by kernel_rfl
noncomputable def h93x0s1 : Sg Try.prog 0 93 :=
  (h93x0s0 N).cut (A93x0x41 N) progOk (T76x0_ok N) fun L x hx => (raw93x0x41 N L).trans ((tot93x0x41 N ..).trans (alt0 _ _ hx))
noncomputable def F93x0x36035 (w4 : Int) (w5 w20 w21 : Bool) (k0 : Bool × Bool → R) : R :=
  bif w5 then
    k0 (true, w21)
  else
    bnd (V93x0x41 N (w4 == 7) w21) fun y0 =>
    k0 (w20, y0)
noncomputable def V93x0x36035 (w4 : Int) (w5 w20 w21 : Bool) : Bool × Bool := F93x0x36035 N w4 w5 w20 w21 (fun p => p)
theorem tot93x0x36035 (w4 : Int) (w5 w20 w21 : Bool) (k0 : Bool × Bool → R) : F93x0x36035 N w4 w5 w20 w21 k0 = k0 (V93x0x36035 N w4 w5 w20 w21) := by
  unfold V93x0x36035 F93x0x36035
  repeat' (first | rfl | apply cond_k | (apply bnd_k; intro _))
noncomputable def J93x0x36035 (L : List Lf) (k0 : Bool × Bool → R) : R := F93x0x36035 N (li L 4) (lb L 5) (lb L 20) (lb L 21) k0
noncomputable def sh93x0x36035 : Sh := { tmps := [(2, .c (.p 2 0)), (3, .c (.p 3 0)), (6, .c (.sl 70)), (7, .c (.i .i64)), (8, .c (.i .i64)), (13, .c (.i .i64)), (29, .c (.b))], mem := [(2, .box (rB 5 ([.sl 3, .b, .b]))), (3, .box (rB 5 ([.o 50003005, .b, .b]))), (50003005, .row 3 true)] }
noncomputable def K93x0x36035w0 (L : List Lf) (p : Bool × Bool) : Ex × St := (.normal, mg (ofSh sh93x0x36035 L) [2, 3, 6, 7, 8] [] [2, 3, 50003005] [(3, .box (rM L 15 5 ([.o 50003005, .b p.1, .b p.2])))])
noncomputable def A93x0x36035 (L : List Lf) : List (Bool × (Ex × St)) := bnd (J93x0x36035 N L (fun p => p)) fun q => [(true, K93x0x36035w0 L q)]
theorem raw93x0x36035 (L : List Lf) : pc Try.prog (T76x0 N) (h93x0s1 N).h 0 100 93 36035 sh93x0x36035 L [8, 7, 6, 3, 2] [50003005, 3, 2] = J93x0x36035 N L (fun p => some (K93x0x36035w0 L p)) := by kernel_rfl
noncomputable def h93x0s2 : Sg Try.prog 0 93 :=
  (h93x0s1 N).cut (A93x0x36035 N) progOk (T76x0_ok N) fun L x hx => (raw93x0x36035 N L).trans ((tot93x0x36035 N ..).trans (alt0 _ _ hx))
noncomputable def F93x0x30029 (w4 : Int) (w5 w20 w21 : Bool) (w29 : Int) (w32 : LD) (k0 : LD → Option R) (k1 : Bool × Bool → Option R) : Option R :=
  bif w5 then
    bif (decide ((w32.length + 1) * 8 ≤ room) && decide ((w32.length + 1) ≤ strMax)) then
      k0 (w32 ++ [(.i w29)])
    else
      none
  else
    bnd (V93x0x36035 N w4 (w4 == 6) w20 w21) fun y0 =>
    k1 y0
noncomputable def G93x0x30029 (w4 : Int) (w5 w20 w21 : Bool) (w29 : Int) (w32 : LD) : Option (Sum (LD) (Bool × Bool)) := F93x0x30029 N w4 w5 w20 w21 w29 w32 (fun p => some (.inl p)) (fun p => some (.inr p))
theorem bind93x0x30029 (w4 : Int) (w5 w20 w21 : Bool) (w29 : Int) (w32 : LD) (k0 : LD → Option R) (k1 : Bool × Bool → Option R) : F93x0x30029 N w4 w5 w20 w21 w29 w32 k0 k1 = (G93x0x30029 N w4 w5 w20 w21 w29 w32).bind (sumE k0 k1) := by
  unfold G93x0x30029 F93x0x30029
  repeat' (first | with_reducible apply cond_b | (with_reducible apply bnd_b; intro _) | rfl)
noncomputable def J93x0x30029 (L : List Lf) (k0 : LD → Option R) (k1 : Bool × Bool → Option R) : Option R := F93x0x30029 N (li L 4) (lb L 5) (lb L 20) (lb L 21) (li L 29) (ll L 32) k0 k1
noncomputable def sh93x0x30029 : Sh := { tmps := [(2, .c (.p 2 0)), (3, .c (.p 3 0)), (5, .c (.p 5 0)), (6, .c (.sl 70)), (7, .c (.i .i64)), (8, .c (.i .i64)), (13, .c (.i .i64)), (20, .c (.b))], mem := [(2, .box (rB 5 ([.sl 3, .b, .b]))), (3, .box (rB 5 ([.o 50003005, .b, .b]))), (5, .box (rI 8 ([.s]))), (50003005, .row 3 true)] }
noncomputable def K93x0x30029w0 (L : List Lf) (p : LD) : Ex × St := (.normal, mg (ofSh sh93x0x30029 L) [2, 3, 6, 7, 8] [] [2, 3, 27] [(3, .box (rM L 15 5 ([.o 27, .b (lb L 20), .b (lb L 21)]))), (27, .row 3 true false p)])
noncomputable def K93x0x30029w1 (L : List Lf) (p : Bool × Bool) : Ex × St := (.normal, mg (ofSh sh93x0x30029 L) [2, 3, 6, 7, 8] [] [2, 3, 50003005] [(3, .box (rM L 15 5 ([.o 50003005, .b p.1, .b p.2])))])
noncomputable def A93x0x30029 (L : List Lf) : List (Bool × (Ex × St)) := bnd (J93x0x30029 N L (fun p => some (.inl p)) (fun p => some (.inr p))) fun q => [((inlB q), K93x0x30029w0 L (inlV q)), ((inrQ q).isSome, K93x0x30029w1 L ((inrQ q).getD default))]
theorem raw93x0x30029 (L : List Lf) : pc Try.prog (T76x0 N) (h93x0s2 N).h 0 100 93 30029 sh93x0x30029 L [8, 7, 6, 3, 2] [27, 3, 2, 50003005] = J93x0x30029 N L (fun p => some (K93x0x30029w0 L p)) (fun p => some (K93x0x30029w1 L p)) := by kernel_rfl
noncomputable def h93x0s3 : Sg Try.prog 0 93 :=
  (h93x0s2 N).cut (A93x0x30029 N) progOk (T76x0_ok N) fun L x hx => (raw93x0x30029 N L).trans ((bind93x0x30029 N ..).trans ((altS alt1) x hx))
noncomputable def F93x0x24023 (w4 : Int) (w5 w15 w16 w17 w18 w19 w20 w21 : Bool) (w29 : Int) (w32 : LD) (k0 : Ty4 → Option R) (k1 : LD → Option R) : Option R :=
  bif w5 then
    bif (inB w29 5) then
      k0 ((bif (Nat.beq w29.toNat 0) then true else w15), (bif (Nat.beq w29.toNat 1) then true else w16), (bif (Nat.beq w29.toNat 2) then true else w17), (bif (Nat.beq w29.toNat 3) then true else w18), (bif (Nat.beq w29.toNat 4) then true else w19), w20, w21)
    else
      none
  else
    bnd (G93x0x30029 N w4 (w4 == 8) w20 w21 w29 w32) fun y0 =>
    bif (inlB y0) then
      k1 (inlV y0)
    else
      bif (inrQ y0).isSome then
        k0 (w15, w16, w17, w18, w19, ((inrQ y0).getD default).1, ((inrQ y0).getD default).2)
      else
        none
noncomputable def G93x0x24023 (w4 : Int) (w5 w15 w16 w17 w18 w19 w20 w21 : Bool) (w29 : Int) (w32 : LD) : Option (Sum (Ty4) (LD)) := F93x0x24023 N w4 w5 w15 w16 w17 w18 w19 w20 w21 w29 w32 (fun p => some (.inl p)) (fun p => some (.inr p))
theorem bind93x0x24023 (w4 : Int) (w5 w15 w16 w17 w18 w19 w20 w21 : Bool) (w29 : Int) (w32 : LD) (k0 : Ty4 → Option R) (k1 : LD → Option R) : F93x0x24023 N w4 w5 w15 w16 w17 w18 w19 w20 w21 w29 w32 k0 k1 = (G93x0x24023 N w4 w5 w15 w16 w17 w18 w19 w20 w21 w29 w32).bind (sumE k0 k1) := by
  unfold G93x0x24023 F93x0x24023
  repeat' (first | with_reducible apply cond_b | (with_reducible apply bnd_b; intro _) | rfl)
noncomputable def J93x0x24023 (L : List Lf) (k0 : Ty4 → Option R) (k1 : LD → Option R) : Option R := F93x0x24023 N (li L 4) (lb L 5) (lb L 15) (lb L 16) (lb L 17) (lb L 18) (lb L 19) (lb L 20) (lb L 21) (li L 29) (ll L 32) k0 k1
noncomputable def sh93x0x24023 : Sh := { tmps := [(2, .c (.p 2 0)), (3, .c (.p 3 0)), (5, .c (.p 5 0)), (6, .c (.sl 70)), (7, .c (.i .i64)), (8, .c (.i .i64)), (13, .c (.i .i64)), (14, .c (.b))], mem := [(2, .box (rB 5 ([.sl 3, .b, .b]))), (3, .box (rB 5 ([.o 50003005, .b, .b]))), (5, .box (rI 8 ([.s]))), (50003005, .row 3 true)] }
noncomputable def K93x0x24023w0 (L : List Lf) (p : Ty4) : Ex × St := let p1 := p.2; let p2 := p1.2; let p3 := p2.2; let p4 := p3.2; let p5 := p4.2; let p6 := p5.2; (.normal, mg (ofSh sh93x0x24023 L) [2, 3, 6, 7, 8] [] [2, 3, 50003005] [(3, .box [.b p.1, .b p1.1, .b p2.1, .b p3.1, .b p4.1, .o 50003005, .b p5.1, .b p6])])
noncomputable def K93x0x24023w1 (L : List Lf) (p : LD) : Ex × St := (.normal, mg (ofSh sh93x0x24023 L) [2, 3, 6, 7, 8] [] [2, 3, 27] [(3, .box (rM L 15 5 ([.o 27, .b (lb L 20), .b (lb L 21)]))), (27, .row 3 true false p)])
noncomputable def A93x0x24023 (L : List Lf) : List (Bool × (Ex × St)) := bnd (J93x0x24023 N L (fun p => some (.inl p)) (fun p => some (.inr p))) fun q => [((inlB q), K93x0x24023w0 L (inlV q)), ((inrQ q).isSome, K93x0x24023w1 L ((inrQ q).getD default))]
theorem raw93x0x24023 (L : List Lf) : pc Try.prog (T76x0 N) (h93x0s3 N).h 0 100 93 24023 sh93x0x24023 L [8, 7, 6, 3, 2] [50003005, 3, 2, 27] = J93x0x24023 N L (fun p => some (K93x0x24023w0 L p)) (fun p => some (K93x0x24023w1 L p)) := by kernel_rfl
noncomputable def h93x0s4 : Sg Try.prog 0 93 :=
  (h93x0s3 N).cut (A93x0x24023 N) progOk (T76x0_ok N) fun L x hx => (raw93x0x24023 N L).trans ((bind93x0x24023 N ..).trans ((altS alt1) x hx))
noncomputable def S93x0x9 (w1 : LD) (w2 : Int) (w3 : Int) (w13 w14 w15 w16 w17 w18 w19 w20 : Bool) (w21 : LD) (kr : Int → Bool → Bool → Bool → Bool → Bool → Bool → Bool → Bool → LD → Option R) (k0 : Ty1 → Option R) : Option R :=
  bif (decide (w3 < w2)) then
    bif (inB w3 w1.length) then
      bnd (G93x0x24023 N ((w1.getD w3.toNat (.i 0)).cell 1).toI (((w1.getD w3.toNat (.i 0)).cell 1).toI == 3) w13 w14 w15 w16 w17 w18 w19 ((w1.getD w3.toNat (.i 0)).cell 7).toI w21) fun y0 =>
      bif (inlB y0) then
        kr (IntKind.wrap .i64 (w3 + 1)) (inlV y0).1 (inlV y0).2.1 (inlV y0).2.2.1 (inlV y0).2.2.2.1 (inlV y0).2.2.2.2.1 (inlV y0).2.2.2.2.2.1 (inlV y0).2.2.2.2.2.2 w20 w21
      else
        bif (inrQ y0).isSome then
          kr (IntKind.wrap .i64 (w3 + 1)) w13 w14 w15 w16 w17 w18 w19 false ((inrQ y0).getD default)
        else
          none
    else
      none
  else
    k0 (w13, w14, w15, w16, w17, w18, w19, w20, w21)
noncomputable def L93x0x9 (N : Nat) {R : Type} (w1 : LD) (w2 : Int) : Nat → Int → Bool → Bool → Bool → Bool → Bool → Bool → Bool → Bool → LD → (Ty1 → Option R) → Option R
  | 0, _, _, _, _, _, _, _, _, _, _, _ => none
  | m + 1, w3, w13, w14, w15, w16, w17, w18, w19, w20, w21, k0 => S93x0x9 N w1 w2 w3 w13 w14 w15 w16 w17 w18 w19 w20 w21 (fun w3 w13 w14 w15 w16 w17 w18 w19 w20 w21 => L93x0x9 N w1 w2 m w3 w13 w14 w15 w16 w17 w18 w19 w20 w21 k0) k0
noncomputable def G93x0x9 (w1 : LD) (w2 : Int) (w3 : Int) (w13 w14 w15 w16 w17 w18 w19 w20 : Bool) (w21 : LD) : Option (Ty1) := L93x0x9 N (R := (Ty1)) w1 w2 N w3 w13 w14 w15 w16 w17 w18 w19 w20 w21 (fun p => some p)
noncomputable def J93x0x9 (L x : List Lf) (kr : List Lf → Option R) (k0 : Ty1 → Option R) : Option R := S93x0x9 N (ll L 1) (li L 2) (li x 0) (lb x 1) (lb x 2) (lb x 3) (lb x 4) (lb x 5) (lb x 6) (lb x 7) (lb x 8) (ll x 9) (fun w3 w13 w14 w15 w16 w17 w18 w19 w20 w21 => kr [.i w3, .b w13, .b w14, .b w15, .b w16, .b w17, .b w18, .b w19, .b w20, .l w21]) k0
theorem sb93x0x9 (L x : List Lf) (kr : List Lf → Option R) (k0 : Ty1 → Option R) : J93x0x9 N L x kr k0 = (J93x0x9 N L x (fun y => some (.inl y)) (fun p => some (.inr p))).bind (sumE kr k0) := by
  unfold J93x0x9 S93x0x9
  repeat' (first | with_reducible apply cond_b | (with_reducible apply bnd_b; intro _) | rfl)
noncomputable def Q93x0x9 (L : List Lf) (m : Nat) (x : List Lf) : Option (Ty1) := L93x0x9 N (R := (Ty1)) (ll L 1) (li L 2) m (li x 0) (lb x 1) (lb x 2) (lb x 3) (lb x 4) (lb x 5) (lb x 6) (lb x 7) (lb x 8) (ll x 9) (fun p => some p)
noncomputable def sh93x0x9 : Sh := { tmps := [(2, .c (.p 2 0)), (3, .c (.p 3 0)), (6, .c (.sl 70)), (7, .c (.i .i64)), (8, .c (.i .i64))], mem := [(2, .box (rB 5 ([.sl 3, .b, .b]))), (3, .box (rB 5 ([.o 50003005, .b, .b]))), (50003005, .row 3 true)] }
noncomputable def K93x0x9w0 (L : List Lf) (p : Ty1) : Ex × St := let p1 := p.2; let p2 := p1.2; let p3 := p2.2; let p4 := p3.2; let p5 := p4.2; let p6 := p5.2; let p7 := p6.2; let p8 := p7.2; ((.exit 0), mg (ofSh sh93x0x9 L) [2, 3] [] [2, 3, 50003005] [(3, .box [.b p.1, .b p1.1, .b p2.1, .b p3.1, .b p4.1, .o 50003005, .b p5.1, .b p6.1]), (50003005, .row 3 true p7.1 p8)])
noncomputable def A93x0x9 (L : List Lf) : List (Bool × (Ex × St)) := bnd (Q93x0x9 N L N (pk sh93x0x9 [3, 13, 14, 15, 16, 17, 18, 19, 20, 21] L)) fun q => [(q.isSome, K93x0x9w0 L (q.getD default))]
theorem step93x0x9 (m : Nat) (kn : St → Option (Ex × St)) (L x : List Lf) : lpB Try.prog (T76x0 N) (h93x0s4 N).h 0 93 9 sh93x0x9 [3, 13, 14, 15, 16, 17, 18, 19, 20, 21] [2, 3] [50003005, 3, 2] (m + 100) kn L x = J93x0x9 N L x (fun y => kn (ofSh sh93x0x9 (mx sh93x0x9 [3, 13, 14, 15, 16, 17, 18, 19, 20, 21] L y))) (fun p => some (K93x0x9w0 L p)) := by kernel_rfl
theorem ql93x0x9 (L : List Lf) (m : Nat) (x : List Lf) : Q93x0x9 N L (m + 1) x = J93x0x9 N L x (Q93x0x9 N L m) some := by kernel_rfl
noncomputable def h93x0s5 : Sg Try.prog 0 93 :=
  (h93x0s4 N).lp (A93x0x9 N) N progOk (T76x0_ok N) (fun m kn L x => (step93x0x9 N m kn L x).trans (sb93x0x9 N L x _ _)) (fun L m x => (ql93x0x9 N L m x).trans (sb93x0x9 N L x (Q93x0x9 N L m) some)) fun L x hx => alt1 x hx
noncomputable def F93x0 (v1 : LD) (k0 : Ty2 → Option R) : Option R :=
  bnd (G93x0x9 N v1 (v1.length : Int) 0 false false false false false false false true []) fun y0 =>
  bif y0.isSome then
    k0 ((y0.getD default).1, (y0.getD default).2.1, (y0.getD default).2.2.1, (y0.getD default).2.2.2.1, (y0.getD default).2.2.2.2.1, (y0.getD default).2.2.2.2.2.2.2.1, (y0.getD default).2.2.2.2.2.2.2.2, (y0.getD default).2.2.2.2.2.1, (y0.getD default).2.2.2.2.2.2.1)
  else
    none
noncomputable def G93x0 (v1 : LD) : Option (Ty2) := F93x0 N v1 (fun p => some p)
theorem bind93x0 (v1 : LD) (k0 : Ty2 → Option R) : F93x0 N v1 k0 = (G93x0 N v1).bind k0 := by
  unfold G93x0 F93x0
  repeat' (first | with_reducible apply cond_b | (with_reducible apply bnd_b; intro _) | rfl)
noncomputable def sh93x0 : Sh := { tmps := [(0, .c (.sl 70))], mem := [] }
noncomputable def K93x0w0 (L : List Lf) (p : Ty2) : Res := let p1 := p.2; let p2 := p1.2; let p3 := p2.2; let p4 := p3.2; let p5 := p4.2; let p6 := p5.2; let p7 := p6.2; let p8 := p7.2; ([.g [.b p.1, .b p1.1, .b p2.1, .b p3.1, .b p4.1, .sl 3 p5.1 p6.1, .b p7.1, .b p8]], [])
noncomputable def A93x0 (L : List Lf) : List (Bool × Res) := bnd (F93x0 N (ll L 1) (fun p => some p)) fun q => [(q.isSome, K93x0w0 L (q.getD default))]
theorem raw93x0 (L : List Lf) : bd Try.prog (T76x0 N) (h93x0s5 N).h 93 sh93x0 L = F93x0 N (ll L 1) (fun p => some (K93x0w0 L p)) := by kernel_rfl
theorem ok93x0 : FnOk Try.prog 93 sh93x0 (A93x0 N) :=
  (h93x0s5 N).fn progOk (T76x0_ok N) fun L x hx => ((raw93x0 N L).trans ((bind93x0 N ..).trans (alt1 x hx)))
noncomputable def T93x0 : Oracle := ext 93 (spSh sh93x0 (A93x0 N)) (T76x0 N)
theorem T93x0_ok : OracleOk Try.prog (T93x0 N) := FnOk.to (ok93x0 N) (T76x0_ok N)
noncomputable def rg98x0 : List (Nat × List Nat) := [(0, [0]), (1, [0]), (2, []), (3, [0])]
noncomputable def hd98x0 : Hints := []
noncomputable def h98x0s0 (N : Nat) : Sg Try.prog 0 98 := .start hd98x0 rg98x0 true
noncomputable def F98x0 (N : Nat) (v0 : Bool) (v1 : LD) (k0 : Unit → Option R) (k1 : Bool → Option R) : Option R :=
  bif v0 then
    k0 ()
  else
    bif (decide ((0 + v1.length) * 16 ≤ room) && decide ((0 + v1.length) ≤ strMax)) then
      k1 (v1.isEmpty && false)
    else
      none
noncomputable def G98x0 (v0 : Bool) (v1 : LD) : Option (Sum (Unit) (Bool)) := F98x0 N v0 v1 (fun p => some (.inl p)) (fun p => some (.inr p))
theorem bind98x0 (v0 : Bool) (v1 : LD) (k0 : Unit → Option R) (k1 : Bool → Option R) : F98x0 N v0 v1 k0 k1 = (G98x0 N v0 v1).bind (sumE k0 k1) := by
  unfold G98x0 F98x0
  repeat' (first | with_reducible apply cond_b | (with_reducible apply bnd_b; intro _) | rfl)
noncomputable def sh98x0 : Sh := { tmps := [(0, .c (.sl 9))], mem := [] }
noncomputable def A98x0 (L : List Lf) : List (Bool × Res) := bnd (F98x0 N (lb L 0) (ll L 1) (fun p => some (.inl p)) (fun p => some (.inr p))) fun q => [((inlB q), ([.c (.sl 9 true [])], [])), ((inrQ q).isSome, ([.c (.o 7)], [(7, .row 9 true ((inrQ q).getD default) (ll L 1))]))]
theorem raw98x0 (L : List Lf) : bd Try.prog (T93x0 N) (h98x0s0 N).h 98 sh98x0 L = F98x0 N (lb L 0) (ll L 1) (fun _ => some ([.c (.sl 9 true [])], [])) (fun p => some ([.c (.o 7)], [(7, .row 9 true p (ll L 1))])) := by kernel_rfl
theorem ok98x0 : FnOk Try.prog 98 sh98x0 (A98x0 N) :=
  (h98x0s0 N).fn progOk (T93x0_ok N) fun L x hx => ((raw98x0 N L).trans ((bind98x0 N ..).trans ((altS alt1) x hx)))
noncomputable def T98x0 : Oracle := ext 98 (spSh sh98x0 (A98x0 N)) (T93x0 N)
theorem T98x0_ok : OracleOk Try.prog (T98x0 N) := FnOk.to (ok98x0 N) (T93x0_ok N)
noncomputable def rg99x0 : List (Nat × List Nat) := [(0, [0, 1]), (1, [0, 1]), (2, [5, 1, 0]), (3, [5, 1, 0]), (4, [0, 5])]
noncomputable def hd99x0 : Hints := [(11, [5, 1, 0, 10], [], [])]
noncomputable def h99x0s0 (N : Nat) : Sg Try.prog 0 99 := .start hd99x0 rg99x0
noncomputable def F99x0x11 (N : Nat) (w1 w2 : Int) (w3 : Bool) (k0 : Int → R) : R :=
  bif w3 then
    k0 (IntKind.wrap .i64 (w2 + w1))
  else
    k0 w2
noncomputable def V99x0x11 (w1 w2 : Int) (w3 : Bool) : Int := F99x0x11 N w1 w2 w3 (fun p => p)
theorem tot99x0x11 (w1 w2 : Int) (w3 : Bool) (k0 : Int → R) : F99x0x11 N w1 w2 w3 k0 = k0 (V99x0x11 N w1 w2 w3) := by
  unfold V99x0x11 F99x0x11
  repeat' (first | rfl | apply cond_k | (apply bnd_k; intro _))
noncomputable def sh99x0x11 : Sh := { tmps := [(0, .c (.i .i64)), (1, .c (.i .i64)), (5, .c (.i .i64)), (10, .c (.b))], mem := [] }
noncomputable def K99x0x11w0 (L : List Lf) (p : Int) : Ex × St := (.normal, ⟨[(0, .c (.i .i64 (li L 0))), (5, .c (.i .i64 p))], []⟩)
noncomputable def A99x0x11 (L : List Lf) : List (Bool × (Ex × St)) := bnd (F99x0x11 N (li L 1) (li L 2) (lb L 3) (fun p => p)) fun q => [(true, K99x0x11w0 L q)]
theorem raw99x0x11 (L : List Lf) : pc Try.prog (T98x0 N) (h99x0s0 N).h 0 100 99 11 sh99x0x11 L [0, 5] [] = F99x0x11 N (li L 1) (li L 2) (lb L 3) (fun p => some (K99x0x11w0 L p)) := by kernel_rfl
noncomputable def h99x0s1 : Sg Try.prog 0 99 :=
  (h99x0s0 N).cut (A99x0x11 N) progOk (T98x0_ok N) fun L x hx => (raw99x0x11 N L).trans ((tot99x0x11 N ..).trans (alt0 _ _ hx))
noncomputable def F99x0 (v0 v1 : Int) (k0 : Int → Option R) : Option R :=
  bif (!(v1 == 0)) then
    bnd (V99x0x11 N v1 (v0.tmod v1) (decide ((v0.tmod v1) < 0))) fun y0 =>
    k0 (IntKind.wrap .i64 (v0 - y0))
  else
    none
noncomputable def G99x0 (v0 v1 : Int) : Option (Int) := F99x0 N v0 v1 (fun p => some p)
theorem bind99x0 (v0 v1 : Int) (k0 : Int → Option R) : F99x0 N v0 v1 k0 = (G99x0 N v0 v1).bind k0 := by
  unfold G99x0 F99x0
  repeat' (first | with_reducible apply cond_b | (with_reducible apply bnd_b; intro _) | rfl)
noncomputable def sh99x0 : Sh := { tmps := [(0, .c (.i .i64)), (1, .c (.i .i64))], mem := [] }
noncomputable def A99x0 (L : List Lf) : List (Bool × Res) := bnd (F99x0 N (li L 0) (li L 1) (fun p => some p)) fun q => [(q.isSome, ([.c (.i .i64 (q.getD default))], []))]
theorem raw99x0 (L : List Lf) : bd Try.prog (T98x0 N) (h99x0s1 N).h 99 sh99x0 L = F99x0 N (li L 0) (li L 1) (fun p => some ([.c (.i .i64 p)], [])) := by kernel_rfl
theorem ok99x0 : FnOk Try.prog 99 sh99x0 (A99x0 N) :=
  (h99x0s1 N).fn progOk (T98x0_ok N) fun L x hx => ((raw99x0 N L).trans ((bind99x0 N ..).trans (alt1 x hx)))
noncomputable def T99x0 : Oracle := ext 99 (spSh sh99x0 (A99x0 N)) (T98x0 N)
theorem T99x0_ok : OracleOk Try.prog (T99x0 N) := FnOk.to (ok99x0 N) (T98x0_ok N)
noncomputable def rg100x0 : List (Nat × List Nat) := [(0, [0, 1]), (1, [3, 2, 4]), (2, [14, 2, 3, 4]), (3, [14, 2, 3, 4]), (4, [5, 2, 6, 14, 3, 4]), (5, [6, 14, 2, 3, 4]), (6, [2, 3, 4]), (7, [3, 2, 4]), (8, [2, 3, 4]), (9, [33, 32, 31, 3, 4]), (10, [31, 33, 3, 32, 4]), (11, [3, 8, 33, 32, 31, 4]), (12, [33, 32, 31, 3, 4]), (13, [3, 4])]
noncomputable def hd100x0 : Hints := [(300000004, [3, 2, 4], [4, 3, 2], []), (23, [3, 2, 4, 28], [4, 3, 2], []), (27, [33, 32, 31, 3, 4], [4, 3], [])]
noncomputable def h100x0s0 (N : Nat) : Sg Try.prog 0 100 := .start hd100x0 rg100x0
noncomputable def h100x0s1 : Sg Try.prog 0 100 := (h100x0s0 N).hand lookLaw
noncomputable def F100x0x23 (N : Nat) (w0 : Bool) (w13 : Int) (k0 : Int → R) : R :=
  bif w0 then
    k0 0
  else
    k0 w13
noncomputable def V100x0x23 (w0 : Bool) (w13 : Int) : Int := F100x0x23 N w0 w13 (fun p => p)
theorem tot100x0x23 (w0 : Bool) (w13 : Int) (k0 : Int → R) : F100x0x23 N w0 w13 k0 = k0 (V100x0x23 N w0 w13) := by
  unfold V100x0x23 F100x0x23
  repeat' (first | rfl | apply cond_k | (apply bnd_k; intro _))
noncomputable def sh100x0x23 : Sh := { tmps := [(2, .c (.p 2 0)), (3, .c (.p 3 0)), (4, .c (.p 4 0)), (28, .c (.b))], mem := [(2, .box (rB 5 ([.sl 3, .b, .b]))), (3, .box (rI 7 ([]))), (4, .box (rI 7 ([])))] }
noncomputable def K100x0x23w0 (L : List Lf) (p : Int) : Ex × St := (.normal, mg (ofSh sh100x0x23 L) [2, 3, 4] [] [2, 3, 4] [(3, .box [.i .i64 (li L 10), .i .i64 (li L 11), .i .i64 (li L 12), .i .i64 p, .i .i64 (li L 14), .i .i64 (li L 15), .i .i64 (li L 16)])])
noncomputable def A100x0x23 (L : List Lf) : List (Bool × (Ex × St)) := bnd (F100x0x23 N (lb L 0) (li L 13) (fun p => p)) fun q => [(true, K100x0x23w0 L q)]
theorem raw100x0x23 (L : List Lf) : pc Try.prog (T99x0 N) (h100x0s1 N).h 0 100 100 23 sh100x0x23 L [2, 3, 4] [4, 3, 2] = F100x0x23 N (lb L 0) (li L 13) (fun p => some (K100x0x23w0 L p)) := by kernel_rfl
noncomputable def h100x0s2 : Sg Try.prog 0 100 :=
  (h100x0s1 N).cut (A100x0x23 N) progOk (T99x0_ok N) fun L x hx => (raw100x0x23 N L).trans ((tot100x0x23 N ..).trans (alt0 _ _ hx))
noncomputable def S100x0x27 (w1 : LD) (w2 : Int) (w3 w5 w6 : Int) (kr : Int → Int → Int → Option R) (k0 : Int × Int → Option R) : Option R :=
  bif (decide (w3 < w2)) then
    bif (inB w3 w1.length) then
      bnd (G99x0 N w5 (w1.getD w3.toNat (.i 0)).toI) fun y0 =>
      bif y0.isSome then
        bnd (G99x0 N w6 (w1.getD w3.toNat (.i 0)).toI) fun y1 =>
        bif y1.isSome then
          kr (IntKind.wrap .i64 (w3 + 1)) (max2 (y0.getD default) (-100000000)) (max2 (y1.getD default) (-100000000))
        else
          none
      else
        none
    else
      none
  else
    k0 (w5, w6)
noncomputable def L100x0x27 (N : Nat) {R : Type} (w1 : LD) (w2 : Int) : Nat → Int → Int → Int → (Int × Int → Option R) → Option R
  | 0, _, _, _, _ => none
  | m + 1, w3, w5, w6, k0 => S100x0x27 N w1 w2 w3 w5 w6 (fun w3 w5 w6 => L100x0x27 N w1 w2 m w3 w5 w6 k0) k0
noncomputable def G100x0x27 (w1 : LD) (w2 : Int) (w3 w5 w6 : Int) : Option (Int × Int) := L100x0x27 N (R := (Int × Int)) w1 w2 N w3 w5 w6 (fun p => some p)
noncomputable def J100x0x27 (L x : List Lf) (kr : List Lf → Option R) (k0 : Int × Int → Option R) : Option R := S100x0x27 N (ll L 1) (li L 2) (li x 0) (li x 1) (li x 2) (fun w3 w5 w6 => kr [.i w3, .i w5, .i w6]) k0
theorem sb100x0x27 (L x : List Lf) (kr : List Lf → Option R) (k0 : Int × Int → Option R) : J100x0x27 N L x kr k0 = (J100x0x27 N L x (fun y => some (.inl y)) (fun p => some (.inr p))).bind (sumE kr k0) := by
  unfold J100x0x27 S100x0x27
  repeat' (first | with_reducible apply cond_b | (with_reducible apply bnd_b; intro _) | rfl)
noncomputable def Q100x0x27 (L : List Lf) (m : Nat) (x : List Lf) : Option (Int × Int) := L100x0x27 N (R := (Int × Int)) (ll L 1) (li L 2) m (li x 0) (li x 1) (li x 2) (fun p => some p)
noncomputable def sh100x0x27 : Sh := { tmps := [(3, .c (.p 3 0)), (4, .c (.p 4 0)), (31, .c (.sl 3)), (32, .c (.i .i64)), (33, .c (.i .i64))], mem := [(3, .box (rI 7 ([]))), (4, .box (rI 7 ([])))] }
noncomputable def K100x0x27w0 (L : List Lf) (p : Int × Int) : Ex × St := ((.exit 2), mg (ofSh sh100x0x27 L) [3, 4] [] [3, 4] [(3, .box (.i .i64 (li L 4) :: .i .i64 p.1 :: .i .i64 p.2 :: rL L 7 4 ([])))])
noncomputable def A100x0x27 (L : List Lf) : List (Bool × (Ex × St)) := bnd (Q100x0x27 N L N (pk sh100x0x27 [3, 5, 6] L)) fun q => [(q.isSome, K100x0x27w0 L (q.getD default))]
theorem step100x0x27 (m : Nat) (kn : St → Option (Ex × St)) (L x : List Lf) : lpB Try.prog (T99x0 N) (h100x0s2 N).h 0 100 27 sh100x0x27 [3, 5, 6] [4, 3] [4, 3] (m + 100) kn L x = J100x0x27 N L x (fun y => kn (ofSh sh100x0x27 (mx sh100x0x27 [3, 5, 6] L y))) (fun p => some (K100x0x27w0 L p)) := by kernel_rfl
theorem ql100x0x27 (L : List Lf) (m : Nat) (x : List Lf) : Q100x0x27 N L (m + 1) x = J100x0x27 N L x (Q100x0x27 N L m) some := by kernel_rfl
noncomputable def h100x0s3 : Sg Try.prog 0 100 :=
  (h100x0s2 N).lp (A100x0x27 N) N progOk (T99x0_ok N) (fun m kn L x => (step100x0x27 N m kn L x).trans (sb100x0x27 N L x _ _)) (fun L m x => (ql100x0x27 N L m x).trans (sb100x0x27 N L x (Q100x0x27 N L m) some)) fun L x hx => alt1 x hx
noncomputable def F100x0 (v1 v2 v3 v4 : Bool) (v6 : LD) (v10 v11 v12 v13 v14 v15 : Int) (k0 : Int × Int × Int × Int × Int × Int → Option R) : Option R :=
  bnd (V100x0x23 N v4 v12) fun y0 =>
  bnd (G100x0x27 N v6 (v6.length : Int) 0 v10 v11) fun y1 =>
  bif y1.isSome then
    k0 ((y1.getD default).1, (y1.getD default).2, y0, (bif v1 then (-1) else v13), (bif v2 then (-1) else v14), (bif v3 then (-1) else v15))
  else
    none
noncomputable def G100x0 (v1 v2 v3 v4 : Bool) (v6 : LD) (v10 v11 v12 v13 v14 v15 : Int) : Option (Int × Int × Int × Int × Int × Int) := F100x0 N v1 v2 v3 v4 v6 v10 v11 v12 v13 v14 v15 (fun p => some p)
theorem bind100x0 (v1 v2 v3 v4 : Bool) (v6 : LD) (v10 v11 v12 v13 v14 v15 : Int) (k0 : Int × Int × Int × Int × Int × Int → Option R) : F100x0 N v1 v2 v3 v4 v6 v10 v11 v12 v13 v14 v15 k0 = (G100x0 N v1 v2 v3 v4 v6 v10 v11 v12 v13 v14 v15).bind k0 := by
  unfold G100x0 F100x0
  repeat' (first | with_reducible apply cond_b | (with_reducible apply bnd_b; intro _) | rfl)
noncomputable def J100x0 (L : List Lf) (k0 : Int × Int × Int × Int × Int × Int → Option R) : Option R := F100x0 N (lb L 1) (lb L 2) (lb L 3) (lb L 4) (ll L 6) (li L 10) (li L 11) (li L 12) (li L 13) (li L 14) (li L 15) k0
noncomputable def sh100x0 : Sh := { tmps := [(0, .g (rB 5 ([.sl 3, .b, .b]))), (1, .g (rI 7 ([])))], mem := [] }
noncomputable def K100x0w0 (L : List Lf) (p : Int × Int × Int × Int × Int × Int) : Res := let p1 := p.2; let p2 := p1.2; let p3 := p2.2; let p4 := p3.2; let p5 := p4.2; ([.g [.i .i64 (li L 9), .i .i64 p.1, .i .i64 p1.1, .i .i64 p2.1, .i .i64 p3.1, .i .i64 p4.1, .i .i64 p5]], [])
noncomputable def A100x0 (L : List Lf) : List (Bool × Res) := bnd (J100x0 N L (fun p => some p)) fun q => [(q.isSome, K100x0w0 L (q.getD default))]
theorem raw100x0 (L : List Lf) : bd Try.prog (T99x0 N) (h100x0s3 N).h 100 sh100x0 L = J100x0 N L (fun p => some (K100x0w0 L p)) := by kernel_rfl
theorem ok100x0 : FnOk Try.prog 100 sh100x0 (A100x0 N) :=
  (h100x0s3 N).fn progOk (T99x0_ok N) fun L x hx => ((raw100x0 N L).trans ((bind100x0 N ..).trans (alt1 x hx)))
noncomputable def T100x0 : Oracle := ext 100 (spSh sh100x0 (A100x0 N)) (T99x0 N)
theorem T100x0_ok : OracleOk Try.prog (T100x0 N) := FnOk.to (ok100x0 N) (T99x0_ok N)
noncomputable def rg94x0 : List (Nat × List Nat) := [(0, [0, 1, 2]), (1, [2, 4, 3, 6]), (2, [4, 7, 3, 2, 6]), (3, [3, 8, 2, 7, 4, 6]), (4, [8, 3, 2, 7, 4, 6]), (5, [3, 8, 2, 7, 4, 6]), (6, [8, 2, 3, 7, 4, 6]), (7, [2, 3, 7, 8, 4, 6]), (8, [2, 9, 3, 7, 8, 4, 6]), (9, [43, 42, 41, 9, 3, 7, 8, 4, 6]), (10, [41, 43, 9, 3, 7, 8, 42, 4, 6]), (11, [9, 11, 3, 7, 8, 43, 42, 41, 4, 6]), (12, [3, 11, 7, 8, 43, 42, 41, 9, 4, 6]), (13, [11, 7, 8, 43, 42, 41, 9, 3, 4, 6]), (14, [8, 11, 43, 42, 41, 9, 3, 7, 4, 6]), (15, [43, 42, 41, 9, 3, 7, 8, 4, 6]), (16, [4, 9, 7, 3, 8, 6]), (17, [68, 67, 66, 9, 7, 3, 8, 6]), (18, [66, 68, 9, 67, 7, 3, 8, 6]), (19, [9, 13, 68, 67, 66, 7, 3, 8, 6]), (20, [13, 7, 3, 8, 68, 67, 66, 9, 6]), (21, [3, 13, 8, 68, 67, 66, 9, 7, 6]), (22, [13, 8, 68, 67, 66, 9, 7, 3, 6]), (23, [8, 13, 68, 67, 66, 9, 7, 3, 6]), (24, [68, 67, 66, 9, 7, 3, 8, 6]), (25, [8, 6])]
noncomputable def hd94x0 : Hints := [(7, [4, 7, 3, 2, 6], [6, 4, 3], []), (14, [8, 3, 2, 7, 4, 6, 31], [8, 6, 4, 3, 29000000007], []), (20, [8, 2, 3, 7, 4, 6, 35], [8, 6, 4, 3, 29000000007], []), (27, [43, 42, 41, 9, 3, 7, 8, 4, 6], [40, 8, 6, 4, 3, 29000000007, 50008004, 50008003], [50008004, 50008003]), (51, [68, 67, 66, 9, 7, 3, 8, 6], [40, 50008004, 50008003, 8, 6, 3, 29000000007], [50008004, 50008003]), (68, [13, 8, 68, 67, 66, 9, 7, 3, 6, 95], [13, 40, 50008004, 50008003, 8, 6, 3, 29000000007], [])]
noncomputable def h94x0s0 (N : Nat) : Sg Try.prog 0 94 := .start hd94x0 rg94x0
noncomputable def F94x0x7 (w2 w14 : Int) (w19 : Bool) (w20 : LD) (k0 : Int → Option R) (k1 : Int × Bool → Option R) : Option R :=
  bnd (G98x0 N w19 w20) fun y0 =>
  bif (inlB y0) then
    k0 (IntKind.wrap .i64 (w14 + w2))
  else
    bif (inrQ y0).isSome then
      k1 ((IntKind.wrap .i64 (w14 + w2)), ((inrQ y0).getD default))
    else
      none
noncomputable def G94x0x7 (w2 w14 : Int) (w19 : Bool) (w20 : LD) : Option (Sum (Int) (Int × Bool)) := F94x0x7 N w2 w14 w19 w20 (fun p => some (.inl p)) (fun p => some (.inr p))
theorem bind94x0x7 (w2 w14 : Int) (w19 : Bool) (w20 : LD) (k0 : Int → Option R) (k1 : Int × Bool → Option R) : F94x0x7 N w2 w14 w19 w20 k0 k1 = (G94x0x7 N w2 w14 w19 w20).bind (sumE k0 k1) := by
  unfold G94x0x7 F94x0x7
  repeat' (first | with_reducible apply cond_b | (with_reducible apply bnd_b; intro _) | rfl)
noncomputable def J94x0x7 (L : List Lf) (k0 : Int → Option R) (k1 : Int × Bool → Option R) : Option R := F94x0x7 N (li L 2) (li L 14) (lb L 19) (ll L 20) k0 k1
noncomputable def sh94x0x7 : Sh := { tmps := [(2, .c (.sl 48)), (3, .c (.p 3 0)), (4, .c (.p 4 0)), (6, .c (.p 6 0)), (7, .c (.i .i64))], mem := [(3, .box (rB 5 ([.sl 3, .b, .b]))), (4, .box (.s :: [.i .i64, .i .i64, .sl 48, .sl 111, .sl 9])), (6, .box (.s :: [.i .i64, .i .i64, .sl 48, .sl 111, .sl 9]))] }
noncomputable def K94x0x7w0 (L : List Lf) (p : Int) : Ex × St := (.normal, mg (ofSh sh94x0x7 L) [2, 3, 4, 6, 7, 8] [(8, .c (.p 8 0))] [3, 4, 6, 8] [(8, .box [.s (ls L 12), .i .i64 (li L 13), .i .i64 p, .sl 48 true [], .sl 111 true [], .sl 9 true []])])
noncomputable def K94x0x7w1 (L : List Lf) (p : Int × Bool) : Ex × St := (.normal, mg (ofSh sh94x0x7 L) [2, 3, 4, 6, 7, 8] [(8, .c (.p 8 0))] [3, 4, 6, 8, 29000000007] [(8, .box [.s (ls L 12), .i .i64 (li L 13), .i .i64 p.1, .sl 48 true [], .sl 111 true [], .o 29000000007]), (29000000007, .row 9 true p.2 (ll L 20))])
noncomputable def A94x0x7 (L : List Lf) : List (Bool × (Ex × St)) := bnd (J94x0x7 N L (fun p => some (.inl p)) (fun p => some (.inr p))) fun q => [((inlB q), K94x0x7w0 L (inlV q)), ((inrQ q).isSome, K94x0x7w1 L ((inrQ q).getD default))]
theorem raw94x0x7 (L : List Lf) : pc Try.prog (T100x0 N) (h94x0s0 N).h 0 100 94 7 sh94x0x7 L [3, 8, 2, 7, 4, 6] [8, 6, 4, 3, 29000000007] = J94x0x7 N L (fun p => some (K94x0x7w0 L p)) (fun p => some (K94x0x7w1 L p)) := by kernel_rfl
noncomputable def h94x0s1 : Sg Try.prog 0 94 :=
  (h94x0s0 N).cut (A94x0x7 N) progOk (T100x0_ok N) fun L x hx => (raw94x0x7 N L).trans ((bind94x0x7 N ..).trans ((altS alt1) x hx))
noncomputable def F94x0x14 (N : Nat) (w3 : Bool) (w31 : LB) (w38 : Bool) (w39 : LD) (k0 : LB × Bool × LD → R) : R :=
  bif w3 then
    k0 (([97, 99, 116, 105, 118, 105, 116, 121] : List UInt8), true, [])
  else
    k0 (w31, w38, w39)
noncomputable def V94x0x14 (w3 : Bool) (w31 : LB) (w38 : Bool) (w39 : LD) : LB × Bool × LD := F94x0x14 N w3 w31 w38 w39 (fun p => p)
theorem tot94x0x14 (w3 : Bool) (w31 : LB) (w38 : Bool) (w39 : LD) (k0 : LB × Bool × LD → R) : F94x0x14 N w3 w31 w38 w39 k0 = k0 (V94x0x14 N w3 w31 w38 w39) := by
  unfold V94x0x14 F94x0x14
  repeat' (first | rfl | apply cond_k | (apply bnd_k; intro _))
noncomputable def J94x0x14 (L : List Lf) (k0 : LB × Bool × LD → R) : R := F94x0x14 N (lb L 3) (ls L 31) (lb L 38) (ll L 39) k0
noncomputable def sh94x0x14 : Sh := { tmps := [(2, .c (.sl 48)), (3, .c (.p 3 0)), (4, .c (.p 4 0)), (6, .c (.p 6 0)), (7, .c (.i .i64)), (8, .c (.p 8 0)), (31, .c (.b))], mem := [(3, .box (rB 5 ([.sl 3, .b, .b]))), (4, .box (.s :: [.i .i64, .i .i64, .sl 48, .sl 111, .sl 9])), (6, .box (.s :: [.i .i64, .i .i64, .sl 48, .sl 111, .sl 9])), (8, .box (.s :: [.i .i64, .i .i64, .sl 48, .sl 111, .sl 9]))] }
noncomputable def K94x0x14w0 (L : List Lf) (p : LB × Bool × LD) : Ex × St := (.normal, mg (ofSh sh94x0x14 L) [2, 3, 4, 6, 7, 8] [] [3, 4, 6, 8] [(8, .box [.s p.1, .i .i64 (li L 32), .i .i64 (li L 33), .sl 48 (lb L 34) (ll L 35), .sl 111 (lb L 36) (ll L 37), .sl 9 p.2.1 p.2.2])])
noncomputable def A94x0x14 (L : List Lf) : List (Bool × (Ex × St)) := bnd (J94x0x14 N L (fun p => p)) fun q => [(true, K94x0x14w0 L q)]
theorem raw94x0x14 (L : List Lf) : pc Try.prog (T100x0 N) (h94x0s1 N).h 0 100 94 14 sh94x0x14 L [3, 8, 2, 7, 4, 6] [8, 6, 4, 3] = J94x0x14 N L (fun p => some (K94x0x14w0 L p)) := by kernel_rfl
noncomputable def h94x0s2 : Sg Try.prog 0 94 :=
  (h94x0s1 N).cut (A94x0x14 N) progOk (T100x0_ok N) fun L x hx => (raw94x0x14 N L).trans ((tot94x0x14 N ..).trans (alt0 _ _ hx))
noncomputable def F94x0x20 (w3 : Bool) (w33 : Int) (k0 : Int → Option R) : Option R :=
  bif w3 then
    bnd (G99x0 N w33 86400) fun y0 =>
    bif y0.isSome then
      k0 (y0.getD default)
    else
      none
  else
    k0 w33
noncomputable def G94x0x20 (w3 : Bool) (w33 : Int) : Option (Int) := F94x0x20 N w3 w33 (fun p => some p)
theorem bind94x0x20 (w3 : Bool) (w33 : Int) (k0 : Int → Option R) : F94x0x20 N w3 w33 k0 = (G94x0x20 N w3 w33).bind k0 := by
  unfold G94x0x20 F94x0x20
  repeat' (first | with_reducible apply cond_b | (with_reducible apply bnd_b; intro _) | rfl)
noncomputable def sh94x0x20 : Sh := { tmps := [(2, .c (.sl 48)), (3, .c (.p 3 0)), (4, .c (.p 4 0)), (6, .c (.p 6 0)), (7, .c (.i .i64)), (8, .c (.p 8 0)), (35, .c (.b))], mem := [(3, .box (rB 5 ([.sl 3, .b, .b]))), (4, .box (.s :: [.i .i64, .i .i64, .sl 48, .sl 111, .sl 9])), (6, .box (.s :: [.i .i64, .i .i64, .sl 48, .sl 111, .sl 9])), (8, .box (.s :: [.i .i64, .i .i64, .sl 48, .sl 111, .sl 9]))] }
noncomputable def K94x0x20w0 (L : List Lf) (p : Int) : Ex × St := (.normal, mg (ofSh sh94x0x20 L) [2, 3, 4, 6, 7, 8] [] [3, 4, 6, 8] [(8, .box [.s (ls L 31), .i .i64 (li L 32), .i .i64 p, .sl 48 (lb L 34) (ll L 35), .sl 111 (lb L 36) (ll L 37), .sl 9 (lb L 38) (ll L 39)])])
noncomputable def A94x0x20 (L : List Lf) : List (Bool × (Ex × St)) := bnd (F94x0x20 N (lb L 3) (li L 33) (fun p => some p)) fun q => [(q.isSome, K94x0x20w0 L (q.getD default))]
theorem raw94x0x20 (L : List Lf) : pc Try.prog (T100x0 N) (h94x0s2 N).h 0 100 94 20 sh94x0x20 L [2, 3, 7, 8, 4, 6] [8, 6, 4, 3] = F94x0x20 N (lb L 3) (li L 33) (fun p => some (K94x0x20w0 L p)) := by kernel_rfl
noncomputable def h94x0s3 : Sg Try.prog 0 94 :=
  (h94x0s2 N).cut (A94x0x20 N) progOk (T100x0_ok N) fun L x hx => (raw94x0x20 N L).trans ((bind94x0x20 N ..).trans (alt1 x hx))
noncomputable def S94x0x27 (w0 : Int) (w2 : LD) (w3 : Int) (w6 w7 w8 w9 : Bool) (w11 : LD) (w4 : Int) (w37 : (List (D × D))) (w38 : Bool) (w39 : LD) (kr : Int → (List (D × D)) → Bool → LD → Option R) (k0 : Ty6 → Option R) : Option R :=
  bif (decide (w4 < w3)) then
    bif (inB w4 w2.length) then
      bnd (putB Try.prog 3 (.i ((w2.getD w4.toNat (.i 0)).cell 0).toI) (.b true) w37) fun y0 =>
      bnd (G100x0 N w6 w7 w8 w9 w11 ((w2.getD w4.toNat (.i 0)).cell 1).toI ((w2.getD w4.toNat (.i 0)).cell 2).toI ((w2.getD w4.toNat (.i 0)).cell 3).toI ((w2.getD w4.toNat (.i 0)).cell 4).toI ((w2.getD w4.toNat (.i 0)).cell 5).toI ((w2.getD w4.toNat (.i 0)).cell 6).toI) fun y1 =>
      bif y1.isSome then
        bnd (IntKind.wrap .i64 (((w2.getD w4.toNat (.i 0)).cell 0).toI - w0)) fun y2 =>
        bif (decide ((w39.length + 1) * 56 ≤ room) && decide ((w39.length + 1) ≤ strMax)) then
          bnd ((w39 ++ [(.a [(.i y2), (.i (y1.getD default).1), (.i (y1.getD default).2.1), (.i (y1.getD default).2.2.1), (.i (y1.getD default).2.2.2.1), (.i (y1.getD default).2.2.2.2.1), (.i (y1.getD default).2.2.2.2.2)])]) : List D) fun y3 =>
          kr (IntKind.wrap .i64 (w4 + 1)) y0 false y3
        else
          none
      else
        none
    else
      none
  else
    k0 (w37, w38, w39)
noncomputable def L94x0x27 (N : Nat) {R : Type} (w0 : Int) (w2 : LD) (w3 : Int) (w6 w7 w8 w9 : Bool) (w11 : LD) : Nat → Int → (List (D × D)) → Bool → LD → (Ty6 → Option R) → Option R
  | 0, _, _, _, _, _ => none
  | m + 1, w4, w37, w38, w39, k0 => S94x0x27 N w0 w2 w3 w6 w7 w8 w9 w11 w4 w37 w38 w39 (fun w4 w37 w38 w39 => L94x0x27 N w0 w2 w3 w6 w7 w8 w9 w11 m w4 w37 w38 w39 k0) k0
noncomputable def G94x0x27 (w0 : Int) (w2 : LD) (w3 : Int) (w6 w7 w8 w9 : Bool) (w11 : LD) (w4 : Int) (w37 : (List (D × D))) (w38 : Bool) (w39 : LD) : Option (Ty6) := L94x0x27 N (R := (Ty6)) w0 w2 w3 w6 w7 w8 w9 w11 N w4 w37 w38 w39 (fun p => some p)
noncomputable def J94x0x27 (L x : List Lf) (kr : List Lf → Option R) (k0 : Ty6 → Option R) : Option R := S94x0x27 N (li L 0) (ll L 2) (li L 3) (lb L 6) (lb L 7) (lb L 8) (lb L 9) (ll L 11) (li x 0) (lm x 1) (lb x 2) (ll x 3) (fun w4 w37 w38 w39 => kr [.i w4, .m w37, .b w38, .l w39]) k0
theorem sb94x0x27 (L x : List Lf) (kr : List Lf → Option R) (k0 : Ty6 → Option R) : J94x0x27 N L x kr k0 = (J94x0x27 N L x (fun y => some (.inl y)) (fun p => some (.inr p))).bind (sumE kr k0) := by
  unfold J94x0x27 S94x0x27
  repeat' (first | with_reducible apply cond_b | (with_reducible apply bnd_b; intro _) | rfl)
noncomputable def Q94x0x27 (L : List Lf) (m : Nat) (x : List Lf) : Option (Ty6) := L94x0x27 N (R := (Ty6)) (li L 0) (ll L 2) (li L 3) (lb L 6) (lb L 7) (lb L 8) (lb L 9) (ll L 11) m (li x 0) (lm x 1) (lb x 2) (ll x 3) (fun p => some p)
noncomputable def sh94x0x27 : Sh := { tmps := [(3, .c (.p 3 0)), (4, .c (.p 4 0)), (6, .c (.p 6 0)), (7, .c (.i .i64)), (8, .c (.p 8 0)), (9, .c (.m 40)), (41, .c (.sl 48)), (42, .c (.i .i64)), (43, .c (.i .i64))], mem := [(3, .box (rB 5 ([.sl 3, .b, .b]))), (4, .box (.s :: [.i .i64, .i .i64, .sl 48, .sl 111, .sl 9])), (6, .box (.s :: [.i .i64, .i .i64, .sl 48, .sl 111, .sl 9])), (8, .box (.s :: [.i .i64, .i .i64, .o 50008003, .o 50008004, .sl 9])), (40, .map 3 4), (50008003, .row 48 true), (50008004, .row 111 true)] }
noncomputable def K94x0x27w0 (L : List Lf) (p : Ty6) : Ex × St := ((.exit 0), mg (ofSh sh94x0x27 L) [3, 4, 6, 7, 8, 9] [] [3, 4, 6, 8, 40, 50008003, 50008004] [(40, .map 3 4 p.1), (50008003, .row 48 true p.2.1 p.2.2)])
noncomputable def A94x0x27 (L : List Lf) : List (Bool × (Ex × St)) := bnd (Q94x0x27 N L N (pk sh94x0x27 [4, 37, 38, 39] L)) fun q => [(q.isSome, K94x0x27w0 L (q.getD default))]
theorem step94x0x27 (m : Nat) (kn : St → Option (Ex × St)) (L x : List Lf) : lpB Try.prog (T100x0 N) (h94x0s3 N).h 0 94 27 sh94x0x27 [4, 37, 38, 39] [6, 4, 9, 7, 3, 8] [40, 50008004, 50008003, 8, 6, 4, 3] (m + 100) kn L x = J94x0x27 N L x (fun y => kn (ofSh sh94x0x27 (mx sh94x0x27 [4, 37, 38, 39] L y))) (fun p => some (K94x0x27w0 L p)) := by kernel_rfl
theorem ql94x0x27 (L : List Lf) (m : Nat) (x : List Lf) : Q94x0x27 N L (m + 1) x = J94x0x27 N L x (Q94x0x27 N L m) some := by kernel_rfl
noncomputable def h94x0s4 : Sg Try.prog 0 94 :=
  (h94x0s3 N).lp (A94x0x27 N) N progOk (T100x0_ok N) (fun m kn L x => (step94x0x27 N m kn L x).trans (sb94x0x27 N L x _ _)) (fun L m x => (ql94x0x27 N L m x).trans (sb94x0x27 N L x (Q94x0x27 N L m) some)) fun L x hx => alt1 x hx
noncomputable def F94x0x68 (N : Nat) (w5 : Bool) (w31 : LB) (k0 : LB → R) : R :=
  bif w5 then
    k0 ([] : List UInt8)
  else
    k0 w31
noncomputable def V94x0x68 (w5 : Bool) (w31 : LB) : LB := F94x0x68 N w5 w31 (fun p => p)
theorem tot94x0x68 (w5 : Bool) (w31 : LB) (k0 : LB → R) : F94x0x68 N w5 w31 k0 = k0 (V94x0x68 N w5 w31) := by
  unfold V94x0x68 F94x0x68
  repeat' (first | rfl | apply cond_k | (apply bnd_k; intro _))
noncomputable def sh94x0x68 : Sh := { tmps := [(3, .c (.p 3 0)), (6, .c (.p 6 0)), (7, .c (.i .i64)), (8, .c (.p 8 0)), (9, .c (.m 40)), (13, .c (.p 13 0)), (66, .c (.sl 111)), (67, .c (.i .i64)), (68, .c (.i .i64)), (95, .c (.b))], mem := [(3, .box (rB 5 ([.sl 3, .b, .b]))), (6, .box (.s :: [.i .i64, .i .i64, .sl 48, .sl 111, .sl 9])), (8, .box (.s :: [.i .i64, .i .i64, .o 50008003, .o 50008004, .sl 9])), (13, .box ([.i .i64, .i .i64, .s])), (40, .map 3 4), (50008003, .row 48 true), (50008004, .row 111 true)] }
noncomputable def K94x0x68w0 (L : List Lf) (p : LB) : Ex × St := (.normal, mg (ofSh sh94x0x68 L) [3, 6, 7, 8, 9, 13, 66, 67, 68] [] [3, 6, 8, 13, 40, 50008003, 50008004] [(13, .box [.i .i64 (li L 29), .i .i64 (li L 30), .s p])])
noncomputable def A94x0x68 (L : List Lf) : List (Bool × (Ex × St)) := bnd (F94x0x68 N (lb L 5) (ls L 31) (fun p => p)) fun q => [(true, K94x0x68w0 L q)]
theorem raw94x0x68 (L : List Lf) : pc Try.prog (T100x0 N) (h94x0s4 N).h 0 100 94 68 sh94x0x68 L [8, 13, 68, 67, 66, 9, 7, 3, 6] [13, 40, 50008004, 50008003, 8, 6, 3] = F94x0x68 N (lb L 5) (ls L 31) (fun p => some (K94x0x68w0 L p)) := by kernel_rfl
noncomputable def h94x0s5 : Sg Try.prog 0 94 :=
  (h94x0s4 N).cut (A94x0x68 N) progOk (T100x0_ok N) fun L x hx => (raw94x0x68 N L).trans ((tot94x0x68 N ..).trans (alt0 _ _ hx))
end Go.Proofs.Ytngnemeafkmaoaa
