/- Functions of the program as plain Lean definitions, each with the proof that the program computes it. No condition. Printed by a program of the prover, part 1. -/
import Derived.Test.YtnnofignhdijiaaAm3
import Derived.Test.YtnnofignhdijiaaChecked
import Derived.KernelRfl
set_option linter.all false
set_option maxRecDepth 100000
namespace Go.Proofs.Ytnnofignhdijiaa
open Go Go.AM
theorem progOk : ProgOk Try.prog := progOk_of (by kernel_rfl)
variable (N : Nat) {R : Type}
abbrev LD : Type := List D
abbrev LB : Type := List UInt8
abbrev Ty0 : Type := LB × Int × Int × Bool × LD × Bool × LD × Bool × LD × Int
abbrev Ty1 : Type := Bool × LD × Bool × LD × Bool × LD
abbrev Ty2 : Type := LB × Bool × LD × Bool × LD
abbrev Ty3 : Type := LB × LB × Bool
abbrev Ty4 : Type := Bool × LB × Int × Int
abbrev Ty5 : Type := Int × LB × Bool
noncomputable def rg119x0 : List (Nat × List Nat) := [(0, [0]), (1, [0])]
noncomputable def hd119x0 : Hints := []
noncomputable def h119x0s0 (N : Nat) : Sg Try.prog 0 119 := .start hd119x0 rg119x0
noncomputable def F119x0 (N : Nat) (v0 : Int) (k0 : Bool → R) : R :=
  k0 (bif (decide (v0 ≥ 48)) then (decide (v0 ≤ 57)) else false)
noncomputable def V119x0 (v0 : Int) : Bool := F119x0 N v0 (fun p => p)
theorem tot119x0 (v0 : Int) (k0 : Bool → R) : F119x0 N v0 k0 = k0 (V119x0 N v0) := by
  unfold V119x0 F119x0
  repeat' (first | rfl | apply cond_k | (apply bnd_k; intro _))
noncomputable def sh119x0 : Sh := { tmps := [(0, .c (.i .u8))], mem := [] }
noncomputable def A119x0 (L : List Lf) : List (Bool × Res) := bnd (F119x0 N (li L 0) (fun p => p)) fun q => [(true, ([.c (.b q)], []))]
theorem raw119x0 (L : List Lf) : bd Try.prog noOracle (h119x0s0 N).h 119 sh119x0 L = F119x0 N (li L 0) (fun p => some ([.c (.b p)], [])) := by kernel_rfl
theorem ok119x0 : FnOk Try.prog 119 sh119x0 (A119x0 N) :=
  (h119x0s0 N).fn progOk noOracle_ok fun L x hx => ((raw119x0 N L).trans ((tot119x0 N ..).trans (alt0 _ _ hx)))
noncomputable def T119x0 : Oracle := ext 119 (spSh sh119x0 (A119x0 N)) noOracle
theorem T119x0_ok : OracleOk Try.prog (T119x0 N) := FnOk.to (ok119x0 N) noOracle_ok
noncomputable def rg51x0 : List (Nat × List Nat) := [(0, [0]), (1, [0]), (2, [8, 7, 0]), (3, [8, 0, 7]), (4, [0, 3, 8, 7]), (5, [4, 8, 7, 0]), (6, [5, 4, 8, 7, 0]), (7, []), (8, [8, 7, 0]), (9, [0])]
noncomputable def hd51x0 : Hints := [(6, [8, 7, 0], [], []), (19, [5, 4, 8, 7, 0], [], [])]
noncomputable def h51x0s0 (N : Nat) : Sg Try.prog 0 51 := .start hd51x0 rg51x0
noncomputable def F51x0x19 (w1 : Int) (w2 : Bool) (k0 : Bool → R) : R :=
  bif (!w2) then
    bnd (V119x0 N w1) fun y0 =>
    bnd (bif (bif (!y0) then (w1 != 45) else false) then (w1 != 95) else false) fun y1 =>
    k0 (bif y1 then (w1 != 46) else false)
  else
    k0 false
noncomputable def V51x0x19 (w1 : Int) (w2 : Bool) : Bool := F51x0x19 N w1 w2 (fun p => p)
theorem tot51x0x19 (w1 : Int) (w2 : Bool) (k0 : Bool → R) : F51x0x19 N w1 w2 k0 = k0 (V51x0x19 N w1 w2) := by
  unfold V51x0x19 F51x0x19
  repeat' (first | rfl | apply cond_k | (apply bnd_k; intro _))
noncomputable def sh51x0x19 : Sh := { tmps := [(0, .c (.s)), (4, .c (.i .u8)), (5, .c (.b)), (7, .c (.i .i64)), (8, .c (.i .i64))], mem := [] }
noncomputable def K51x0x19w0 (L : List Lf) (p : Bool) : Ex × St := (.normal, mg (ofSh sh51x0x19 L) [0, 7, 8, 46] [(46, .c (.b p))] [] [])
noncomputable def A51x0x19 (L : List Lf) : List (Bool × (Ex × St)) := bnd (F51x0x19 N (li L 1) (lb L 2) (fun p => p)) fun q => [(true, K51x0x19w0 L q)]
theorem raw51x0x19 (L : List Lf) : pc Try.prog (T119x0 N) (h51x0s0 N).h 0 100 51 19 sh51x0x19 L [8, 7, 0, 46] [] = F51x0x19 N (li L 1) (lb L 2) (fun p => some (K51x0x19w0 L p)) := by kernel_rfl
noncomputable def h51x0s1 : Sg Try.prog 0 51 :=
  (h51x0s0 N).cut (A51x0x19 N) progOk (T119x0_ok N) fun L x hx => (raw51x0x19 N L).trans ((tot51x0x19 N ..).trans (alt0 _ _ hx))
noncomputable def S51x0x6 (w0 : LB) (w1 : Int) (w2 : Int) (kr : Int → Option R) (k0 : Unit → Option R) (k1 : Unit → Option R) : Option R :=
  bif (decide (w2 < w1)) then
    bif (inB w2 w0.length) then
      bnd (bif (decide (((w0.getD w2.toNat 0).toNat : Int) ≥ 97)) then (decide (((w0.getD w2.toNat 0).toNat : Int) ≤ 122)) else false) fun y0 =>
      bnd (bif y0 then true else (bif (decide (((w0.getD w2.toNat 0).toNat : Int) ≥ 65)) then (decide (((w0.getD w2.toNat 0).toNat : Int) ≤ 90)) else false)) fun y1 =>
      bnd (V51x0x19 N ((w0.getD w2.toNat 0).toNat : Int) y1) fun y2 =>
      bif y2 then
        k0 ()
      else
        kr (IntKind.wrap .i64 (w2 + 1))
    else
      none
  else
    k1 ()
noncomputable def L51x0x6 (N : Nat) {R : Type} (w0 : LB) (w1 : Int) : Nat → Int → (Unit → Option R) → (Unit → Option R) → Option R
  | 0, _, _, _ => none
  | m + 1, w2, k0, k1 => S51x0x6 N w0 w1 w2 (fun w2 => L51x0x6 N w0 w1 m w2 k0 k1) k0 k1
noncomputable def G51x0x6 (w0 : LB) (w1 : Int) (w2 : Int) : Option (Sum (Unit) (Unit)) := L51x0x6 N (R := (Sum (Unit) (Unit))) w0 w1 N w2 (fun p => some (.inl p)) (fun p => some (.inr p))
noncomputable def J51x0x6 (L x : List Lf) (kr : List Lf → Option R) (k0 : Unit → Option R) (k1 : Unit → Option R) : Option R := S51x0x6 N (ls L 0) (li L 1) (li x 0) (fun w2 => kr [.i w2]) k0 k1
theorem sb51x0x6 (L x : List Lf) (kr : List Lf → Option R) (k0 : Unit → Option R) (k1 : Unit → Option R) : J51x0x6 N L x kr k0 k1 = (J51x0x6 N L x (fun y => some (.inl y)) (fun p => some (.inr (.inl p))) (fun p => some (.inr (.inr p)))).bind (sumE kr (sumE k0 k1)) := by
  unfold J51x0x6 S51x0x6
  repeat' (first | with_reducible apply cond_b | (with_reducible apply bnd_b; intro _) | rfl)
noncomputable def Q51x0x6 (L : List Lf) (m : Nat) (x : List Lf) : Option (Sum (Unit) (Unit)) := L51x0x6 N (R := (Sum (Unit) (Unit))) (ls L 0) (li L 1) m (li x 0) (fun p => some (.inl p)) (fun p => some (.inr p))
noncomputable def sh51x0x6 : Sh := { tmps := [(0, .c (.s)), (7, .c (.i .i64)), (8, .c (.i .i64))], mem := [] }
noncomputable def A51x0x6 (L : List Lf) : List (Bool × (Ex × St)) := bnd (Q51x0x6 N L N (pk sh51x0x6 [2] L)) fun q => [((inlB q), (.ret, ⟨[(2, .c (.b false))], []⟩)), ((inrQ q).isSome, ((.exit 0), ⟨[(0, .c (.s (ls L 0)))], []⟩))]
theorem step51x0x6 (m : Nat) (kn : St → Option (Ex × St)) (L x : List Lf) : lpB Try.prog (T119x0 N) (h51x0s1 N).h 0 51 6 sh51x0x6 [2] [2, 0] [] (m + 100) kn L x = J51x0x6 N L x (fun y => kn (ofSh sh51x0x6 (mx sh51x0x6 [2] L y))) (fun _ => some (.ret, ⟨[(2, .c (.b false))], []⟩)) (fun _ => some ((.exit 0), ⟨[(0, .c (.s (ls L 0)))], []⟩)) := by kernel_rfl
theorem ql51x0x6 (L : List Lf) (m : Nat) (x : List Lf) : Q51x0x6 N L (m + 1) x = J51x0x6 N L x (Q51x0x6 N L m) (fun p => some (.inl p)) (fun p => some (.inr p)) := by kernel_rfl
noncomputable def h51x0s2 : Sg Try.prog 0 51 :=
  (h51x0s1 N).lp (A51x0x6 N) N progOk (T119x0_ok N) (fun m kn L x => (step51x0x6 N m kn L x).trans (sb51x0x6 N L x _ _ _)) (fun L m x => (ql51x0x6 N L m x).trans (sb51x0x6 N L x (Q51x0x6 N L m) (fun p => some (.inl p)) (fun p => some (.inr p)))) fun L x hx => (altS alt1) x hx
noncomputable def F51x0 (v0 : LB) (k0 : Bool → Option R) : Option R :=
  bnd (G51x0x6 N v0 (v0.length : Int) 0) fun y0 =>
  bif (inlB y0) then
    k0 false
  else
    bif (inrQ y0).isSome then
      bnd (bif (decide ((v0.length : Int) ≥ 1)) then (decide ((v0.length : Int) ≤ 60)) else false) fun y1 =>
      k0 y1
    else
      none
noncomputable def G51x0 (v0 : LB) : Option (Bool) := F51x0 N v0 (fun p => some p)
theorem bind51x0 (v0 : LB) (k0 : Bool → Option R) : F51x0 N v0 k0 = (G51x0 N v0).bind k0 := by
  unfold G51x0 F51x0
  repeat' (first | with_reducible apply cond_b | (with_reducible apply bnd_b; intro _) | rfl)
noncomputable def sh51x0 : Sh := { tmps := [(0, .c (.s))], mem := [] }
noncomputable def A51x0 (L : List Lf) : List (Bool × Res) := bnd (F51x0 N (ls L 0) (fun p => some p)) fun q => [(q.isSome, ([.c (.b (q.getD default))], []))]
theorem raw51x0 (L : List Lf) : bd Try.prog (T119x0 N) (h51x0s2 N).h 51 sh51x0 L = F51x0 N (ls L 0) (fun p => some ([.c (.b p)], [])) := by kernel_rfl
theorem ok51x0 : FnOk Try.prog 51 sh51x0 (A51x0 N) :=
  (h51x0s2 N).fn progOk (T119x0_ok N) fun L x hx => ((raw51x0 N L).trans ((bind51x0 N ..).trans (alt1 x hx)))
noncomputable def T51x0 : Oracle := ext 51 (spSh sh51x0 (A51x0 N)) (T119x0 N)
theorem T51x0_ok : OracleOk Try.prog (T51x0 N) := FnOk.to (ok51x0 N) (T119x0_ok N)
noncomputable def rg52x0 : List (Nat × List Nat) := [(0, [0, 1, 2]), (1, [0, 1, 2])]
noncomputable def hd52x0 : Hints := []
noncomputable def h52x0s0 (N : Nat) : Sg Try.prog 0 52 := .start hd52x0 rg52x0
noncomputable def F52x0 (N : Nat) (v0 v1 v2 : Int) (k0 : Bool → R) : R :=
  k0 (bif (decide (v0 ≥ v1)) then (decide (v0 ≤ v2)) else false)
noncomputable def V52x0 (v0 v1 v2 : Int) : Bool := F52x0 N v0 v1 v2 (fun p => p)
theorem tot52x0 (v0 v1 v2 : Int) (k0 : Bool → R) : F52x0 N v0 v1 v2 k0 = k0 (V52x0 N v0 v1 v2) := by
  unfold V52x0 F52x0
  repeat' (first | rfl | apply cond_k | (apply bnd_k; intro _))
noncomputable def sh52x0 : Sh := { tmps := [(0, .c (.i .i64)), (1, .c (.i .i64)), (2, .c (.i .i64))], mem := [] }
noncomputable def A52x0 (L : List Lf) : List (Bool × Res) := bnd (F52x0 N (li L 0) (li L 1) (li L 2) (fun p => p)) fun q => [(true, ([.c (.b q)], []))]
theorem raw52x0 (L : List Lf) : bd Try.prog (T51x0 N) (h52x0s0 N).h 52 sh52x0 L = F52x0 N (li L 0) (li L 1) (li L 2) (fun p => some ([.c (.b p)], [])) := by kernel_rfl
theorem ok52x0 : FnOk Try.prog 52 sh52x0 (A52x0 N) :=
  (h52x0s0 N).fn progOk (T51x0_ok N) fun L x hx => ((raw52x0 N L).trans ((tot52x0 N ..).trans (alt0 _ _ hx)))
noncomputable def T52x0 : Oracle := ext 52 (spSh sh52x0 (A52x0 N)) (T51x0 N)
theorem T52x0_ok : OracleOk Try.prog (T52x0 N) := FnOk.to (ok52x0 N) (T51x0_ok N)
noncomputable def rg53x0 : List (Nat × List Nat) := [(0, [0]), (1, [1]), (2, [3, 1])]
noncomputable def hd53x0 : Hints := [(4, [1], [1], []), (7, [3, 1], [1], [])]
noncomputable def h53x0s0 (N : Nat) : Sg Try.prog 0 53 := .start hd53x0 rg53x0
noncomputable def F53x0x4 (w1 w2 w3 : Int) (k0 : Bool → R) : R :=
  bnd (V52x0 N w1 (-100000000) 100000000) fun y0 =>
  bif y0 then
    bnd (V52x0 N w2 (-100000000) 100000000) fun y1 =>
    bif y1 then
      bnd (V52x0 N w3 (-100000) 100000) fun y2 =>
      k0 y2
    else
      k0 false
  else
    k0 false
noncomputable def V53x0x4 (w1 w2 w3 : Int) : Bool := F53x0x4 N w1 w2 w3 (fun p => p)
theorem tot53x0x4 (w1 w2 w3 : Int) (k0 : Bool → R) : F53x0x4 N w1 w2 w3 k0 = k0 (V53x0x4 N w1 w2 w3) := by
  unfold V53x0x4 F53x0x4
  repeat' (first | rfl | apply cond_k | (apply bnd_k; intro _))
noncomputable def sh53x0x4 : Sh := { tmps := [(1, .c (.p 1 0))], mem := [(1, .box (rI 7 ([])))] }
noncomputable def K53x0x4w0 (L : List Lf) (p : Bool) : Ex × St := (.normal, mg (ofSh sh53x0x4 L) [1, 3] [(3, .c (.b p))] [1] [])
noncomputable def A53x0x4 (L : List Lf) : List (Bool × (Ex × St)) := bnd (F53x0x4 N (li L 1) (li L 2) (li L 3) (fun p => p)) fun q => [(true, K53x0x4w0 L q)]
theorem raw53x0x4 (L : List Lf) : pc Try.prog (T52x0 N) (h53x0s0 N).h 0 100 53 4 sh53x0x4 L [3, 1] [1] = F53x0x4 N (li L 1) (li L 2) (li L 3) (fun p => some (K53x0x4w0 L p)) := by kernel_rfl
noncomputable def h53x0s1 : Sg Try.prog 0 53 :=
  (h53x0s0 N).cut (A53x0x4 N) progOk (T52x0_ok N) fun L x hx => (raw53x0x4 N L).trans ((tot53x0x4 N ..).trans (alt0 _ _ hx))
noncomputable def F53x0x7 (w0 : Bool) (w5 w6 w7 : Int) (k0 : Bool → R) : R :=
  bif w0 then
    bnd (V52x0 N w5 (-1) 300) fun y0 =>
    bif y0 then
      bnd (V52x0 N w6 (-1) 3000) fun y1 =>
      bif y1 then
        bnd (V52x0 N w7 (-1) 300) fun y2 =>
        k0 y2
      else
        k0 false
    else
      k0 false
  else
    k0 false
noncomputable def V53x0x7 (w0 : Bool) (w5 w6 w7 : Int) : Bool := F53x0x7 N w0 w5 w6 w7 (fun p => p)
theorem tot53x0x7 (w0 : Bool) (w5 w6 w7 : Int) (k0 : Bool → R) : F53x0x7 N w0 w5 w6 w7 k0 = k0 (V53x0x7 N w0 w5 w6 w7) := by
  unfold V53x0x7 F53x0x7
  repeat' (first | rfl | apply cond_k | (apply bnd_k; intro _))
noncomputable def J53x0x7 (L : List Lf) (k0 : Bool → R) : R := F53x0x7 N (lb L 0) (li L 5) (li L 6) (li L 7) k0
noncomputable def sh53x0x7 : Sh := { tmps := [(1, .c (.p 1 0)), (3, .c (.b))], mem := [(1, .box (rI 7 ([])))] }
noncomputable def A53x0x7 (L : List Lf) : List (Bool × (Ex × St)) := bnd (J53x0x7 N L (fun p => p)) fun q => [(true, (.normal, ⟨[(2, .c (.b q))], []⟩))]
theorem raw53x0x7 (L : List Lf) : pc Try.prog (T52x0 N) (h53x0s1 N).h 0 100 53 7 sh53x0x7 L [2] [] = J53x0x7 N L (fun p => some (.normal, ⟨[(2, .c (.b p))], []⟩)) := by kernel_rfl
noncomputable def h53x0s2 : Sg Try.prog 0 53 :=
  (h53x0s1 N).cut (A53x0x7 N) progOk (T52x0_ok N) fun L x hx => (raw53x0x7 N L).trans ((tot53x0x7 N ..).trans (alt0 _ _ hx))
noncomputable def F53x0 (v1 v2 v3 v4 v5 v6 : Int) (k0 : Bool → R) : R :=
  bnd (V53x0x4 N v1 v2 v3) fun y0 =>
  bnd (V53x0x7 N y0 v4 v5 v6) fun y1 =>
  k0 y1
noncomputable def V53x0 (v1 v2 v3 v4 v5 v6 : Int) : Bool := F53x0 N v1 v2 v3 v4 v5 v6 (fun p => p)
theorem tot53x0 (v1 v2 v3 v4 v5 v6 : Int) (k0 : Bool → R) : F53x0 N v1 v2 v3 v4 v5 v6 k0 = k0 (V53x0 N v1 v2 v3 v4 v5 v6) := by
  unfold V53x0 F53x0
  repeat' (first | rfl | apply cond_k | (apply bnd_k; intro _))
noncomputable def J53x0 (L : List Lf) (k0 : Bool → R) : R := F53x0 N (li L 1) (li L 2) (li L 3) (li L 4) (li L 5) (li L 6) k0
noncomputable def sh53x0 : Sh := { tmps := [(0, .g (rI 7 ([])))], mem := [] }
noncomputable def A53x0 (L : List Lf) : List (Bool × Res) := bnd (J53x0 N L (fun p => p)) fun q => [(true, ([.c (.b q)], []))]
theorem raw53x0 (L : List Lf) : bd Try.prog (T52x0 N) (h53x0s2 N).h 53 sh53x0 L = J53x0 N L (fun p => some ([.c (.b p)], [])) := by kernel_rfl
theorem ok53x0 : FnOk Try.prog 53 sh53x0 (A53x0 N) :=
  (h53x0s2 N).fn progOk (T52x0_ok N) fun L x hx => ((raw53x0 N L).trans ((tot53x0 N ..).trans (alt0 _ _ hx)))
noncomputable def T53x0 : Oracle := ext 53 (spSh sh53x0 (A53x0 N)) (T52x0 N)
theorem T53x0_ok : OracleOk Try.prog (T53x0 N) := FnOk.to (ok53x0 N) (T52x0_ok N)
noncomputable def rg54x0 : List (Nat × List Nat) := [(0, [0]), (1, [1]), (2, [3, 1]), (3, [1, 3]), (4, [])]
noncomputable def hd54x0 : Hints := []
noncomputable def h54x0s0 (N : Nat) : Sg Try.prog 0 54 := .start hd54x0 rg54x0
noncomputable def F54x0 (N : Nat) (v4 : LD) (k0 : Int → Option R) : Option R :=
  bif (decide ((v4.length : Int) > 0)) then
    bif (inB (IntKind.wrap .i64 ((v4.length : Int) - 1)) v4.length) then
      bnd ((v4.getD (IntKind.wrap .i64 ((v4.length : Int) - 1)).toNat (.i 0)) : D) fun y0 =>
      k0 (y0.cell 0).toI
    else
      none
  else
    k0 0
noncomputable def G54x0 (v4 : LD) : Option (Int) := F54x0 N v4 (fun p => some p)
theorem bind54x0 (v4 : LD) (k0 : Int → Option R) : F54x0 N v4 k0 = (G54x0 N v4).bind k0 := by
  unfold G54x0 F54x0
  repeat' (first | with_reducible apply cond_b | (with_reducible apply bnd_b; intro _) | rfl)
noncomputable def sh54x0 : Sh := { tmps := [(0, .g (.s :: [.i .i64, .i .i64, .sl 78, .sl 82, .sl 9]))], mem := [] }
noncomputable def A54x0 (L : List Lf) : List (Bool × Res) := bnd (F54x0 N (ll L 4) (fun p => some p)) fun q => [(q.isSome, ([.c (.i .i64 (q.getD default))], []))]
theorem raw54x0 (L : List Lf) : bd Try.prog (T53x0 N) (h54x0s0 N).h 54 sh54x0 L = F54x0 N (ll L 4) (fun p => some ([.c (.i .i64 p)], [])) := by kernel_rfl
theorem ok54x0 : FnOk Try.prog 54 sh54x0 (A54x0 N) :=
  (h54x0s0 N).fn progOk (T53x0_ok N) fun L x hx => ((raw54x0 N L).trans ((bind54x0 N ..).trans (alt1 x hx)))
noncomputable def T54x0 : Oracle := ext 54 (spSh sh54x0 (A54x0 N)) (T53x0 N)
theorem T54x0_ok : OracleOk Try.prog (T54x0 N) := FnOk.to (ok54x0 N) (T53x0_ok N)
noncomputable def rg55x0 : List (Nat × List Nat) := [(0, [0]), (1, [0]), (2, [6, 5, 0]), (3, [6, 0, 5]), (4, [0, 3, 6, 5]), (5, []), (6, [6, 5, 0]), (7, [0])]
noncomputable def hd55x0 : Hints := [(6, [6, 5, 0], [], [])]
noncomputable def h55x0s0 (N : Nat) : Sg Try.prog 0 55 := .start hd55x0 rg55x0
noncomputable def S55x0x6 (w0 : LB) (w1 : Int) (w2 : Int) (kr : Int → Option R) (k0 : Unit → Option R) (k1 : Unit → Option R) : Option R :=
  bif (decide (w2 < w1)) then
    bif (inB w2 w0.length) then
      bnd (V52x0 N (IntKind.wrap .i64 ((w0.getD w2.toNat 0).toNat : Int)) 32 126) fun y0 =>
      bif (!y0) then
        k0 ()
      else
        kr (IntKind.wrap .i64 (w2 + 1))
    else
      none
  else
    k1 ()
noncomputable def L55x0x6 (N : Nat) {R : Type} (w0 : LB) (w1 : Int) : Nat → Int → (Unit → Option R) → (Unit → Option R) → Option R
  | 0, _, _, _ => none
  | m + 1, w2, k0, k1 => S55x0x6 N w0 w1 w2 (fun w2 => L55x0x6 N w0 w1 m w2 k0 k1) k0 k1
noncomputable def G55x0x6 (w0 : LB) (w1 : Int) (w2 : Int) : Option (Sum (Unit) (Unit)) := L55x0x6 N (R := (Sum (Unit) (Unit))) w0 w1 N w2 (fun p => some (.inl p)) (fun p => some (.inr p))
noncomputable def J55x0x6 (L x : List Lf) (kr : List Lf → Option R) (k0 : Unit → Option R) (k1 : Unit → Option R) : Option R := S55x0x6 N (ls L 0) (li L 1) (li x 0) (fun w2 => kr [.i w2]) k0 k1
theorem sb55x0x6 (L x : List Lf) (kr : List Lf → Option R) (k0 : Unit → Option R) (k1 : Unit → Option R) : J55x0x6 N L x kr k0 k1 = (J55x0x6 N L x (fun y => some (.inl y)) (fun p => some (.inr (.inl p))) (fun p => some (.inr (.inr p)))).bind (sumE kr (sumE k0 k1)) := by
  unfold J55x0x6 S55x0x6
  repeat' (first | with_reducible apply cond_b | (with_reducible apply bnd_b; intro _) | rfl)
noncomputable def Q55x0x6 (L : List Lf) (m : Nat) (x : List Lf) : Option (Sum (Unit) (Unit)) := L55x0x6 N (R := (Sum (Unit) (Unit))) (ls L 0) (li L 1) m (li x 0) (fun p => some (.inl p)) (fun p => some (.inr p))
noncomputable def sh55x0x6 : Sh := { tmps := [(0, .c (.s)), (5, .c (.i .i64)), (6, .c (.i .i64))], mem := [] }
noncomputable def A55x0x6 (L : List Lf) : List (Bool × (Ex × St)) := bnd (Q55x0x6 N L N (pk sh55x0x6 [2] L)) fun q => [((inlB q), (.ret, ⟨[(2, .c (.b false))], []⟩)), ((inrQ q).isSome, ((.exit 0), ⟨[(0, .c (.s (ls L 0)))], []⟩))]
theorem step55x0x6 (m : Nat) (kn : St → Option (Ex × St)) (L x : List Lf) : lpB Try.prog (T54x0 N) (h55x0s0 N).h 0 55 6 sh55x0x6 [2] [2, 0] [] (m + 100) kn L x = J55x0x6 N L x (fun y => kn (ofSh sh55x0x6 (mx sh55x0x6 [2] L y))) (fun _ => some (.ret, ⟨[(2, .c (.b false))], []⟩)) (fun _ => some ((.exit 0), ⟨[(0, .c (.s (ls L 0)))], []⟩)) := by kernel_rfl
theorem ql55x0x6 (L : List Lf) (m : Nat) (x : List Lf) : Q55x0x6 N L (m + 1) x = J55x0x6 N L x (Q55x0x6 N L m) (fun p => some (.inl p)) (fun p => some (.inr p)) := by kernel_rfl
noncomputable def h55x0s1 : Sg Try.prog 0 55 :=
  (h55x0s0 N).lp (A55x0x6 N) N progOk (T54x0_ok N) (fun m kn L x => (step55x0x6 N m kn L x).trans (sb55x0x6 N L x _ _ _)) (fun L m x => (ql55x0x6 N L m x).trans (sb55x0x6 N L x (Q55x0x6 N L m) (fun p => some (.inl p)) (fun p => some (.inr p)))) fun L x hx => (altS alt1) x hx
noncomputable def F55x0 (v0 : LB) (k0 : Bool → Option R) : Option R :=
  bnd (G55x0x6 N v0 (v0.length : Int) 0) fun y0 =>
  bif (inlB y0) then
    k0 false
  else
    bif (inrQ y0).isSome then
      k0 (decide ((v0.length : Int) ≤ 60))
    else
      none
noncomputable def G55x0 (v0 : LB) : Option (Bool) := F55x0 N v0 (fun p => some p)
theorem bind55x0 (v0 : LB) (k0 : Bool → Option R) : F55x0 N v0 k0 = (G55x0 N v0).bind k0 := by
  unfold G55x0 F55x0
  repeat' (first | with_reducible apply cond_b | (with_reducible apply bnd_b; intro _) | rfl)
noncomputable def sh55x0 : Sh := { tmps := [(0, .c (.s))], mem := [] }
noncomputable def A55x0 (L : List Lf) : List (Bool × Res) := bnd (F55x0 N (ls L 0) (fun p => some p)) fun q => [(q.isSome, ([.c (.b (q.getD default))], []))]
theorem raw55x0 (L : List Lf) : bd Try.prog (T54x0 N) (h55x0s1 N).h 55 sh55x0 L = F55x0 N (ls L 0) (fun p => some ([.c (.b p)], [])) := by kernel_rfl
theorem ok55x0 : FnOk Try.prog 55 sh55x0 (A55x0 N) :=
  (h55x0s1 N).fn progOk (T54x0_ok N) fun L x hx => ((raw55x0 N L).trans ((bind55x0 N ..).trans (alt1 x hx)))
noncomputable def T55x0 : Oracle := ext 55 (spSh sh55x0 (A55x0 N)) (T54x0 N)
theorem T55x0_ok : OracleOk Try.prog (T55x0 N) := FnOk.to (ok55x0 N) (T54x0_ok N)
noncomputable def rg13x0 : List (Nat × List Nat) := [(0, [0]), (1, [1]), (3, [1]), (5, [1]), (7, [1]), (8, []), (6, []), (4, []), (2, []), (9, [1]), (10, [45, 44, 43, 1]), (11, [45, 43, 1, 44]), (12, [3, 4, 1, 45, 44, 43]), (13, [3, 4, 1, 45, 44, 43]), (15, [4, 1, 45, 44, 43]), (16, []), (14, []), (17, [45, 44, 43, 1]), (18, [1]), (19, [1, 5]), (20, [95, 94, 93, 5, 1]), (21, [95, 93, 5, 1, 94]), (22, [7, 5, 6, 1, 95, 94, 93]), (24, [6, 7, 1, 95, 94, 93, 5]), (26, [7, 95, 94, 93, 5, 1]), (27, []), (25, []), (23, []), (28, [95, 94, 93, 5, 1]), (29, [1]), (30, [141, 140, 139, 1]), (31, [141, 139, 1, 140]), (32, [9, 8, 1, 141, 140, 139]), (34, [8, 9, 1, 141, 140, 139]), (35, []), (33, []), (36, [141, 140, 139, 1]), (37, [])]
noncomputable def hd13x0 : Hints := [(30, [45, 44, 43, 1], [1], []), (40, [3, 4, 1, 45, 44, 43], [4, 1], []), (39002, [4, 1, 45, 44, 43, 50, 3], [4, 1], []), (46, [4, 1, 45, 44, 43], [4, 1], []), (60, [95, 94, 93, 5, 1], [1], []), (73, [6, 7, 1, 95, 94, 93, 5], [7, 1], []), (90, [141, 140, 139, 1], [1], [])]
noncomputable def h13x0s0 (N : Nat) : Sg Try.prog 0 13 := .start hd13x0 rg13x0
noncomputable def F13x0x40 (N : Nat) (w0 : Int) (w9 : LD) (w14 : Int) (k0 : Bool → Option R) : Option R :=
  bif (decide (w0 > 0)) then
    bif (inB (IntKind.wrap .i64 (w0 - 1)) w9.length) then
      bnd ((w9.getD (IntKind.wrap .i64 (w0 - 1)).toNat (.i 0)).cell 0).toI fun y0 =>
      k0 (decide (w14 ≤ y0))
    else
      none
  else
    k0 false
noncomputable def G13x0x40 (w0 : Int) (w9 : LD) (w14 : Int) : Option (Bool) := F13x0x40 N w0 w9 w14 (fun p => some p)
theorem bind13x0x40 (w0 : Int) (w9 : LD) (w14 : Int) (k0 : Bool → Option R) : F13x0x40 N w0 w9 w14 k0 = (G13x0x40 N w0 w9 w14).bind k0 := by
  unfold G13x0x40 F13x0x40
  repeat' (first | with_reducible apply cond_b | (with_reducible apply bnd_b; intro _) | rfl)
noncomputable def sh13x0x40 : Sh := { tmps := [(1, .c (.p 1 0)), (3, .c (.i .i64)), (4, .c (.p 4 0)), (43, .c (.sl 78)), (44, .c (.i .i64)), (45, .c (.i .i64))], mem := [(1, .box (.s :: [.i .i64, .i .i64, .sl 78, .sl 82, .sl 9])), (4, .box (rI 7 ([])))] }
noncomputable def K13x0x40w0 (L : List Lf) (p : Bool) : Ex × St := (.normal, mg (ofSh sh13x0x40 L) [1, 4, 43, 44, 45, 50] [(50, .c (.b p))] [1, 4] [])
noncomputable def A13x0x40 (L : List Lf) : List (Bool × (Ex × St)) := bnd (F13x0x40 N (li L 0) (ll L 9) (li L 14) (fun p => some p)) fun q => [(q.isSome, K13x0x40w0 L (q.getD default))]
theorem raw13x0x40 (L : List Lf) : pc Try.prog (T55x0 N) (h13x0s0 N).h 0 100 13 40 sh13x0x40 L [4, 1, 45, 44, 43, 50] [4, 1] = F13x0x40 N (li L 0) (ll L 9) (li L 14) (fun p => some (K13x0x40w0 L p)) := by kernel_rfl
noncomputable def h13x0s1 : Sg Try.prog 0 13 :=
  (h13x0s0 N).cut (A13x0x40 N) progOk (T55x0_ok N) fun L x hx => (raw13x0x40 N L).trans ((bind13x0x40 N ..).trans (alt1 x hx))
noncomputable def F13x0x39002 (w0 : Int) (w5 : Bool) (w10 : LD) (w15 : Int) (k0 : Bool → Option R) : Option R :=
  bif w5 then
    k0 true
  else
    bnd (G13x0x40 N w0 w10 w15) fun y0 =>
    bif y0.isSome then
      k0 (y0.getD default)
    else
      none
noncomputable def G13x0x39002 (w0 : Int) (w5 : Bool) (w10 : LD) (w15 : Int) : Option (Bool) := F13x0x39002 N w0 w5 w10 w15 (fun p => some p)
theorem bind13x0x39002 (w0 : Int) (w5 : Bool) (w10 : LD) (w15 : Int) (k0 : Bool → Option R) : F13x0x39002 N w0 w5 w10 w15 k0 = (G13x0x39002 N w0 w5 w10 w15).bind k0 := by
  unfold G13x0x39002 F13x0x39002
  repeat' (first | with_reducible apply cond_b | (with_reducible apply bnd_b; intro _) | rfl)
noncomputable def J13x0x39002 (L : List Lf) (k0 : Bool → Option R) : Option R := F13x0x39002 N (li L 0) (lb L 5) (ll L 10) (li L 15) k0
noncomputable def sh13x0x39002 : Sh := { tmps := [(1, .c (.p 1 0)), (3, .c (.i .i64)), (4, .c (.p 4 0)), (43, .c (.sl 78)), (44, .c (.i .i64)), (45, .c (.i .i64)), (50, .c (.b))], mem := [(1, .box (.s :: [.i .i64, .i .i64, .sl 78, .sl 82, .sl 9])), (4, .box (rI 7 ([])))] }
noncomputable def K13x0x39002w0 (L : List Lf) (p : Bool) : Ex × St := (.normal, mg (ofSh sh13x0x39002 L) [1, 4, 43, 44, 45, 50] [(50, .c (.b p))] [1, 4] [])
noncomputable def A13x0x39002 (L : List Lf) : List (Bool × (Ex × St)) := bnd (J13x0x39002 N L (fun p => some p)) fun q => [(q.isSome, K13x0x39002w0 L (q.getD default))]
theorem raw13x0x39002 (L : List Lf) : pc Try.prog (T55x0 N) (h13x0s1 N).h 0 100 13 39002 sh13x0x39002 L [4, 1, 45, 44, 43, 50] [4, 1] = J13x0x39002 N L (fun p => some (K13x0x39002w0 L p)) := by kernel_rfl
noncomputable def h13x0s2 : Sg Try.prog 0 13 :=
  (h13x0s1 N).cut (A13x0x39002 N) progOk (T55x0_ok N) fun L x hx => (raw13x0x39002 N L).trans ((bind13x0x39002 N ..).trans (alt1 x hx))
noncomputable def F13x0x46 (w6 w13 w14 w15 w16 w17 w18 w19 : Int) (k0 : Bool → R) : R :=
  bnd (bif (decide (w13 > 1000000)) then true else (decide ((IntKind.wrap .i64 (w6 + w13)) > 86399999999))) fun y0 =>
  bif y0 then
    k0 true
  else
    bnd (V53x0 N w14 w15 w16 w17 w18 w19) fun y1 =>
    k0 (!y1)
noncomputable def V13x0x46 (w6 w13 w14 w15 w16 w17 w18 w19 : Int) : Bool := F13x0x46 N w6 w13 w14 w15 w16 w17 w18 w19 (fun p => p)
theorem tot13x0x46 (w6 w13 w14 w15 w16 w17 w18 w19 : Int) (k0 : Bool → R) : F13x0x46 N w6 w13 w14 w15 w16 w17 w18 w19 k0 = k0 (V13x0x46 N w6 w13 w14 w15 w16 w17 w18 w19) := by
  unfold V13x0x46 F13x0x46
  repeat' (first | rfl | apply cond_k | (apply bnd_k; intro _))
noncomputable def J13x0x46 (L : List Lf) (k0 : Bool → R) : R := F13x0x46 N (li L 6) (li L 13) (li L 14) (li L 15) (li L 16) (li L 17) (li L 18) (li L 19) k0
noncomputable def sh13x0x46 : Sh := { tmps := [(1, .c (.p 1 0)), (4, .c (.p 4 0)), (43, .c (.sl 78)), (44, .c (.i .i64)), (45, .c (.i .i64))], mem := [(1, .box (.s :: [.i .i64, .i .i64, .sl 78, .sl 82, .sl 9])), (4, .box (rI 7 ([])))] }
noncomputable def K13x0x46w0 (L : List Lf) (p : Bool) : Ex × St := (.normal, mg (ofSh sh13x0x46 L) [1, 43, 44, 45, 72] [(72, .c (.b p))] [1] [])
noncomputable def A13x0x46 (L : List Lf) : List (Bool × (Ex × St)) := bnd (J13x0x46 N L (fun p => p)) fun q => [(true, K13x0x46w0 L q)]
theorem raw13x0x46 (L : List Lf) : pc Try.prog (T55x0 N) (h13x0s2 N).h 0 100 13 46 sh13x0x46 L [45, 44, 43, 1, 72] [1] = J13x0x46 N L (fun p => some (K13x0x46w0 L p)) := by kernel_rfl
noncomputable def h13x0s3 : Sg Try.prog 0 13 :=
  (h13x0s2 N).cut (A13x0x46 N) progOk (T55x0_ok N) fun L x hx => (raw13x0x46 N L).trans ((tot13x0x46 N ..).trans (alt0 _ _ hx))
noncomputable def S13x0x30 (w1 : LD) (w2 w6 : Int) (w8 : LD) (w3 : Int) (kr : Int → Option R) (k0 : Int → Option R) (k1 : Unit → Option R) : Option R :=
  bif (decide (w3 < w2)) then
    bif (inB w3 w1.length) then
      bnd (bif (w3 == 0) then (((w1.getD w3.toNat (.i 0)).cell 0).toI != 0) else false) fun y0 =>
      bnd (G13x0x39002 N w3 y0 w8 ((w1.getD w3.toNat (.i 0)).cell 0).toI) fun y1 =>
      bif y1.isSome then
        bif (y1.getD default) then
          k0 10
        else
          bnd (V13x0x46 N w6 ((w1.getD w3.toNat (.i 0)).cell 0).toI ((w1.getD w3.toNat (.i 0)).cell 1).toI ((w1.getD w3.toNat (.i 0)).cell 2).toI ((w1.getD w3.toNat (.i 0)).cell 3).toI ((w1.getD w3.toNat (.i 0)).cell 4).toI ((w1.getD w3.toNat (.i 0)).cell 5).toI ((w1.getD w3.toNat (.i 0)).cell 6).toI) fun y2 =>
          bif y2 then
            k0 9
          else
            kr (IntKind.wrap .i64 (w3 + 1))
      else
        none
    else
      none
  else
    k1 ()
noncomputable def L13x0x30 (N : Nat) {R : Type} (w1 : LD) (w2 w6 : Int) (w8 : LD) : Nat → Int → (Int → Option R) → (Unit → Option R) → Option R
  | 0, _, _, _ => none
  | m + 1, w3, k0, k1 => S13x0x30 N w1 w2 w6 w8 w3 (fun w3 => L13x0x30 N w1 w2 w6 w8 m w3 k0 k1) k0 k1
noncomputable def G13x0x30 (w1 : LD) (w2 w6 : Int) (w8 : LD) (w3 : Int) : Option (Sum (Int) (Unit)) := L13x0x30 N (R := (Sum (Int) (Unit))) w1 w2 w6 w8 N w3 (fun p => some (.inl p)) (fun p => some (.inr p))
noncomputable def J13x0x30 (L x : List Lf) (kr : List Lf → Option R) (k0 : Int → Option R) (k1 : Unit → Option R) : Option R := S13x0x30 N (ll L 1) (li L 2) (li L 6) (ll L 8) (li x 0) (fun w3 => kr [.i w3]) k0 k1
theorem sb13x0x30 (L x : List Lf) (kr : List Lf → Option R) (k0 : Int → Option R) (k1 : Unit → Option R) : J13x0x30 N L x kr k0 k1 = (J13x0x30 N L x (fun y => some (.inl y)) (fun p => some (.inr (.inl p))) (fun p => some (.inr (.inr p)))).bind (sumE kr (sumE k0 k1)) := by
  unfold J13x0x30 S13x0x30
  repeat' (first | with_reducible apply cond_b | (with_reducible apply bnd_b; intro _) | rfl)
noncomputable def Q13x0x30 (L : List Lf) (m : Nat) (x : List Lf) : Option (Sum (Int) (Unit)) := L13x0x30 N (R := (Sum (Int) (Unit))) (ll L 1) (li L 2) (li L 6) (ll L 8) m (li x 0) (fun p => some (.inl p)) (fun p => some (.inr p))
noncomputable def sh13x0x30 : Sh := { tmps := [(1, .c (.p 1 0)), (43, .c (.sl 78)), (44, .c (.i .i64)), (45, .c (.i .i64))], mem := [(1, .box (.s :: [.i .i64, .i .i64, .sl 78, .sl 82, .sl 9]))] }
noncomputable def K13x0x30w0 (L : List Lf) (p : Int) : Ex × St := (.ret, mg (ofSh sh13x0x30 L) [2] [(2, .c (.i .i64 p))] [1] [])
noncomputable def A13x0x30 (L : List Lf) : List (Bool × (Ex × St)) := bnd (Q13x0x30 N L N (pk sh13x0x30 [3] L)) fun q => [((inlB q), K13x0x30w0 L (inlV q)), ((inrQ q).isSome, ((.exit 1), mg (ofSh sh13x0x30 L) [1] [] [1] []))]
theorem step13x0x30 (m : Nat) (kn : St → Option (Ex × St)) (L x : List Lf) : lpB Try.prog (T55x0 N) (h13x0s3 N).h 0 13 30 sh13x0x30 [3] [2, 1] [1] (m + 100) kn L x = J13x0x30 N L x (fun y => kn (ofSh sh13x0x30 (mx sh13x0x30 [3] L y))) (fun p => some (K13x0x30w0 L p)) (fun _ => some ((.exit 1), mg (ofSh sh13x0x30 L) [1] [] [1] [])) := by kernel_rfl
theorem ql13x0x30 (L : List Lf) (m : Nat) (x : List Lf) : Q13x0x30 N L (m + 1) x = J13x0x30 N L x (Q13x0x30 N L m) (fun p => some (.inl p)) (fun p => some (.inr p)) := by kernel_rfl
noncomputable def h13x0s4 : Sg Try.prog 0 13 :=
  (h13x0s3 N).lp (A13x0x30 N) N progOk (T55x0_ok N) (fun m kn L x => (step13x0x30 N m kn L x).trans (sb13x0x30 N L x _ _ _)) (fun L m x => (ql13x0x30 N L m x).trans (sb13x0x30 N L x (Q13x0x30 N L m) (fun p => some (.inl p)) (fun p => some (.inr p)))) fun L x hx => (altS alt1) x hx
noncomputable def F13x0x73 (N : Nat) (w1 : Int) (w12 : LD) (w15 : Int) (k0 : Bool → Option R) : Option R :=
  bif (decide (w1 > 0)) then
    bif (inB (IntKind.wrap .i64 (w1 - 1)) w12.length) then
      bnd ((w12.getD (IntKind.wrap .i64 (w1 - 1)).toNat (.i 0)).cell 1).toI fun y0 =>
      k0 (decide (w15 < y0))
    else
      none
  else
    k0 false
noncomputable def G13x0x73 (w1 : Int) (w12 : LD) (w15 : Int) : Option (Bool) := F13x0x73 N w1 w12 w15 (fun p => some p)
theorem bind13x0x73 (w1 : Int) (w12 : LD) (w15 : Int) (k0 : Bool → Option R) : F13x0x73 N w1 w12 w15 k0 = (G13x0x73 N w1 w12 w15).bind k0 := by
  unfold G13x0x73 F13x0x73
  repeat' (first | with_reducible apply cond_b | (with_reducible apply bnd_b; intro _) | rfl)
noncomputable def sh13x0x73 : Sh := { tmps := [(1, .c (.p 1 0)), (5, .c (.i .i64)), (6, .c (.i .i64)), (7, .c (.p 7 0)), (93, .c (.sl 82)), (94, .c (.i .i64)), (95, .c (.i .i64))], mem := [(1, .box (.s :: [.i .i64, .i .i64, .sl 78, .sl 82, .sl 9])), (7, .box ([.i .i64, .i .i64, .s]))] }
noncomputable def K13x0x73w0 (L : List Lf) (p : Bool) : Ex × St := (.normal, mg (ofSh sh13x0x73 L) [1, 5, 7, 93, 94, 95, 117] [(117, .c (.b p))] [1, 7] [])
noncomputable def A13x0x73 (L : List Lf) : List (Bool × (Ex × St)) := bnd (F13x0x73 N (li L 1) (ll L 12) (li L 15) (fun p => some p)) fun q => [(q.isSome, K13x0x73w0 L (q.getD default))]
theorem raw13x0x73 (L : List Lf) : pc Try.prog (T55x0 N) (h13x0s4 N).h 0 100 13 73 sh13x0x73 L [7, 95, 94, 93, 5, 1, 117] [7, 1] = F13x0x73 N (li L 1) (ll L 12) (li L 15) (fun p => some (K13x0x73w0 L p)) := by kernel_rfl
noncomputable def h13x0s5 : Sg Try.prog 0 13 :=
  (h13x0s4 N).cut (A13x0x73 N) progOk (T55x0_ok N) fun L x hx => (raw13x0x73 N L).trans ((bind13x0x73 N ..).trans (alt1 x hx))
noncomputable def S13x0x60 (w0 : Int) (w2 : LD) (w3 : Int) (w11 : LD) (w4 : Int) (kr : Int → Option R) (k0 : Int → Option R) (k1 : Unit → Option R) : Option R :=
  bif (decide (w4 < w3)) then
    bif (inB w4 w2.length) then
      bnd (bif (decide (((w2.getD w4.toNat (.i 0)).cell 0).toI < 0)) then true else (decide (((w2.getD w4.toNat (.i 0)).cell 0).toI ≥ ((w2.getD w4.toNat (.i 0)).cell 1).toI))) fun y0 =>
      bnd (bif y0 then true else (decide (((w2.getD w4.toNat (.i 0)).cell 1).toI > w0))) fun y1 =>
      bif y1 then
        k0 9
      else
        bnd (G13x0x73 N w4 w11 ((w2.getD w4.toNat (.i 0)).cell 0).toI) fun y2 =>
        bif y2.isSome then
          bif (y2.getD default) then
            k0 10
          else
            bnd (G55x0 N ((w2.getD w4.toNat (.i 0)).cell 2).toS) fun y3 =>
            bif y3.isSome then
              bif (!(y3.getD default)) then
                k0 8
              else
                kr (IntKind.wrap .i64 (w4 + 1))
            else
              none
        else
          none
    else
      none
  else
    k1 ()
noncomputable def L13x0x60 (N : Nat) {R : Type} (w0 : Int) (w2 : LD) (w3 : Int) (w11 : LD) : Nat → Int → (Int → Option R) → (Unit → Option R) → Option R
  | 0, _, _, _ => none
  | m + 1, w4, k0, k1 => S13x0x60 N w0 w2 w3 w11 w4 (fun w4 => L13x0x60 N w0 w2 w3 w11 m w4 k0 k1) k0 k1
noncomputable def G13x0x60 (w0 : Int) (w2 : LD) (w3 : Int) (w11 : LD) (w4 : Int) : Option (Sum (Int) (Unit)) := L13x0x60 N (R := (Sum (Int) (Unit))) w0 w2 w3 w11 N w4 (fun p => some (.inl p)) (fun p => some (.inr p))
noncomputable def J13x0x60 (L x : List Lf) (kr : List Lf → Option R) (k0 : Int → Option R) (k1 : Unit → Option R) : Option R := S13x0x60 N (li L 0) (ll L 2) (li L 3) (ll L 11) (li x 0) (fun w4 => kr [.i w4]) k0 k1
theorem sb13x0x60 (L x : List Lf) (kr : List Lf → Option R) (k0 : Int → Option R) (k1 : Unit → Option R) : J13x0x60 N L x kr k0 k1 = (J13x0x60 N L x (fun y => some (.inl y)) (fun p => some (.inr (.inl p))) (fun p => some (.inr (.inr p)))).bind (sumE kr (sumE k0 k1)) := by
  unfold J13x0x60 S13x0x60
  repeat' (first | with_reducible apply cond_b | (with_reducible apply bnd_b; intro _) | rfl)
noncomputable def Q13x0x60 (L : List Lf) (m : Nat) (x : List Lf) : Option (Sum (Int) (Unit)) := L13x0x60 N (R := (Sum (Int) (Unit))) (li L 0) (ll L 2) (li L 3) (ll L 11) m (li x 0) (fun p => some (.inl p)) (fun p => some (.inr p))
noncomputable def sh13x0x60 : Sh := { tmps := [(1, .c (.p 1 0)), (5, .c (.i .i64)), (93, .c (.sl 82)), (94, .c (.i .i64)), (95, .c (.i .i64))], mem := [(1, .box (.s :: [.i .i64, .i .i64, .sl 78, .sl 82, .sl 9]))] }
noncomputable def K13x0x60w0 (L : List Lf) (p : Int) : Ex × St := (.ret, mg (ofSh sh13x0x60 L) [2] [(2, .c (.i .i64 p))] [1] [])
noncomputable def A13x0x60 (L : List Lf) : List (Bool × (Ex × St)) := bnd (Q13x0x60 N L N (pk sh13x0x60 [4] L)) fun q => [((inlB q), K13x0x60w0 L (inlV q)), ((inrQ q).isSome, ((.exit 4), mg (ofSh sh13x0x60 L) [1] [] [1] []))]
theorem step13x0x60 (m : Nat) (kn : St → Option (Ex × St)) (L x : List Lf) : lpB Try.prog (T55x0 N) (h13x0s5 N).h 0 13 60 sh13x0x60 [4] [2, 1] [1] (m + 100) kn L x = J13x0x60 N L x (fun y => kn (ofSh sh13x0x60 (mx sh13x0x60 [4] L y))) (fun p => some (K13x0x60w0 L p)) (fun _ => some ((.exit 4), mg (ofSh sh13x0x60 L) [1] [] [1] [])) := by kernel_rfl
theorem ql13x0x60 (L : List Lf) (m : Nat) (x : List Lf) : Q13x0x60 N L (m + 1) x = J13x0x60 N L x (Q13x0x60 N L m) (fun p => some (.inl p)) (fun p => some (.inr p)) := by kernel_rfl
noncomputable def h13x0s6 : Sg Try.prog 0 13 :=
  (h13x0s5 N).lp (A13x0x60 N) N progOk (T55x0_ok N) (fun m kn L x => (step13x0x60 N m kn L x).trans (sb13x0x60 N L x _ _ _)) (fun L m x => (ql13x0x60 N L m x).trans (sb13x0x60 N L x (Q13x0x60 N L m) (fun p => some (.inl p)) (fun p => some (.inr p)))) fun L x hx => (altS alt1) x hx
noncomputable def S13x0x90 (w1 : LD) (w2 : Int) (w12 : LD) (w3 : Int) (kr : Int → Option R) (k0 : Int → Option R) (k1 : Unit → Option R) : Option R :=
  bif (decide (w3 < w2)) then
    bif (inB w3 w1.length) then
      bnd (G51x0 N (w1.getD w3.toNat (.i 0)).toS) fun y0 =>
      bif y0.isSome then
        bif (!(y0.getD default)) then
          k0 8
        else
          bif (bif (inB (IntKind.wrap .i64 (w3 - 1)) w12.length) then true else (!((decide (w3 > 0)) == true))) then
            bnd (bif (decide (w3 > 0)) then ((Op.bytesLess (w1.getD w3.toNat (.i 0)).toS (w12.getD (IntKind.wrap .i64 (w3 - 1)).toNat (.i 0)).toS) || ((w1.getD w3.toNat (.i 0)).toS == (w12.getD (IntKind.wrap .i64 (w3 - 1)).toNat (.i 0)).toS)) else false) fun y1 =>
            bif y1 then
              k0 10
            else
              kr (IntKind.wrap .i64 (w3 + 1))
          else
            none
      else
        none
    else
      none
  else
    k1 ()
noncomputable def L13x0x90 (N : Nat) {R : Type} (w1 : LD) (w2 : Int) (w12 : LD) : Nat → Int → (Int → Option R) → (Unit → Option R) → Option R
  | 0, _, _, _ => none
  | m + 1, w3, k0, k1 => S13x0x90 N w1 w2 w12 w3 (fun w3 => L13x0x90 N w1 w2 w12 m w3 k0 k1) k0 k1
noncomputable def G13x0x90 (w1 : LD) (w2 : Int) (w12 : LD) (w3 : Int) : Option (Sum (Int) (Unit)) := L13x0x90 N (R := (Sum (Int) (Unit))) w1 w2 w12 N w3 (fun p => some (.inl p)) (fun p => some (.inr p))
noncomputable def J13x0x90 (L x : List Lf) (kr : List Lf → Option R) (k0 : Int → Option R) (k1 : Unit → Option R) : Option R := S13x0x90 N (ll L 1) (li L 2) (ll L 12) (li x 0) (fun w3 => kr [.i w3]) k0 k1
theorem sb13x0x90 (L x : List Lf) (kr : List Lf → Option R) (k0 : Int → Option R) (k1 : Unit → Option R) : J13x0x90 N L x kr k0 k1 = (J13x0x90 N L x (fun y => some (.inl y)) (fun p => some (.inr (.inl p))) (fun p => some (.inr (.inr p)))).bind (sumE kr (sumE k0 k1)) := by
  unfold J13x0x90 S13x0x90
  repeat' (first | with_reducible apply cond_b | (with_reducible apply bnd_b; intro _) | rfl)
noncomputable def Q13x0x90 (L : List Lf) (m : Nat) (x : List Lf) : Option (Sum (Int) (Unit)) := L13x0x90 N (R := (Sum (Int) (Unit))) (ll L 1) (li L 2) (ll L 12) m (li x 0) (fun p => some (.inl p)) (fun p => some (.inr p))
noncomputable def sh13x0x90 : Sh := { tmps := [(1, .c (.p 1 0)), (139, .c (.sl 9)), (140, .c (.i .i64)), (141, .c (.i .i64))], mem := [(1, .box (.s :: [.i .i64, .i .i64, .sl 78, .sl 82, .sl 9]))] }
noncomputable def A13x0x90 (L : List Lf) : List (Bool × (Ex × St)) := bnd (Q13x0x90 N L N (pk sh13x0x90 [3] L)) fun q => [((inlB q), (.ret, ⟨[(2, .c (.i .i64 (inlV q)))], []⟩)), ((inrQ q).isSome, ((.exit 7), ⟨[], []⟩))]
theorem step13x0x90 (m : Nat) (kn : St → Option (Ex × St)) (L x : List Lf) : lpB Try.prog (T55x0 N) (h13x0s6 N).h 0 13 90 sh13x0x90 [3] [2] [] (m + 100) kn L x = J13x0x90 N L x (fun y => kn (ofSh sh13x0x90 (mx sh13x0x90 [3] L y))) (fun p => some (.ret, ⟨[(2, .c (.i .i64 p))], []⟩)) (fun _ => some ((.exit 7), ⟨[], []⟩)) := by kernel_rfl
theorem ql13x0x90 (L : List Lf) (m : Nat) (x : List Lf) : Q13x0x90 N L (m + 1) x = J13x0x90 N L x (Q13x0x90 N L m) (fun p => some (.inl p)) (fun p => some (.inr p)) := by kernel_rfl
noncomputable def h13x0s7 : Sg Try.prog 0 13 :=
  (h13x0s6 N).lp (A13x0x90 N) N progOk (T55x0_ok N) (fun m kn L x => (step13x0x90 N m kn L x).trans (sb13x0x90 N L x _ _ _)) (fun L m x => (ql13x0x90 N L m x).trans (sb13x0x90 N L x (Q13x0x90 N L m) (fun p => some (.inl p)) (fun p => some (.inr p)))) fun L x hx => (altS alt1) x hx
noncomputable def F13x0 (v0 : LB) (v1 v2 : Int) (v4 v6 v8 : LD) (k0 : Int → Option R) : Option R :=
  bnd (G51x0 N v0) fun y0 =>
  bif y0.isSome then
    bif (!(y0.getD default)) then
      k0 8
    else
      bnd (V52x0 N v1 1 5) fun y1 =>
      bif (!y1) then
        k0 7
      else
        bnd (V52x0 N v2 0 86399999999) fun y2 =>
        bif (!y2) then
          k0 9
        else
          bnd (bif (decide ((v4.length : Int) > 20000)) then true else (decide ((v6.length : Int) > 200))) fun y3 =>
          bnd (bif y3 then true else (decide ((v8.length : Int) > 20))) fun y4 =>
          bif y4 then
            k0 3
          else
            bnd (G13x0x30 N v4 (v4.length : Int) v2 v4 0) fun y5 =>
            bif (inlB y5) then
              k0 (inlV y5)
            else
              bif (inrQ y5).isSome then
                bnd (G54x0 N v4) fun y6 =>
                bif y6.isSome then
                  bnd (G13x0x60 N (y6.getD default) v6 (v6.length : Int) v6 0) fun y7 =>
                  bif (inlB y7) then
                    k0 (inlV y7)
                  else
                    bif (inrQ y7).isSome then
                      bnd (G13x0x90 N v8 (v8.length : Int) v8 0) fun y8 =>
                      bif (inlB y8) then
                        k0 (inlV y8)
                      else
                        bif (inrQ y8).isSome then
                          k0 0
                        else
                          none
                    else
                      none
                else
                  none
              else
                none
  else
    none
noncomputable def G13x0 (v0 : LB) (v1 v2 : Int) (v4 v6 v8 : LD) : Option (Int) := F13x0 N v0 v1 v2 v4 v6 v8 (fun p => some p)
theorem bind13x0 (v0 : LB) (v1 v2 : Int) (v4 v6 v8 : LD) (k0 : Int → Option R) : F13x0 N v0 v1 v2 v4 v6 v8 k0 = (G13x0 N v0 v1 v2 v4 v6 v8).bind k0 := by
  unfold G13x0 F13x0
  repeat' (first | with_reducible apply cond_b | (with_reducible apply bnd_b; intro _) | rfl)
noncomputable def J13x0 (L : List Lf) (k0 : Int → Option R) : Option R := F13x0 N (ls L 0) (li L 1) (li L 2) (ll L 4) (ll L 6) (ll L 8) k0
noncomputable def sh13x0 : Sh := { tmps := [(0, .g (.s :: [.i .i64, .i .i64, .sl 78, .sl 82, .sl 9]))], mem := [] }
noncomputable def A13x0 (L : List Lf) : List (Bool × Res) := bnd (J13x0 N L (fun p => some p)) fun q => [(q.isSome, ([.c (.i .i64 (q.getD default))], []))]
theorem raw13x0 (L : List Lf) : bd Try.prog (T55x0 N) (h13x0s7 N).h 13 sh13x0 L = J13x0 N L (fun p => some ([.c (.i .i64 p)], [])) := by kernel_rfl
theorem ok13x0 : FnOk Try.prog 13 sh13x0 (A13x0 N) :=
  (h13x0s7 N).fn progOk (T55x0_ok N) fun L x hx => ((raw13x0 N L).trans ((bind13x0 N ..).trans (alt1 x hx)))
noncomputable def T13x0 : Oracle := ext 13 (spSh sh13x0 (A13x0 N)) (T55x0 N)
theorem T13x0_ok : OracleOk Try.prog (T13x0 N) := FnOk.to (ok13x0 N) (T55x0_ok N)
noncomputable def rg105x0 : List (Nat × List Nat) := [(0, [0]), (1, [0, 2])]
noncomputable def hd105x0 : Hints := []
noncomputable def h105x0s0 (N : Nat) : Sg Try.prog 0 105 := .start hd105x0 rg105x0
noncomputable def F105x0 (N : Nat) (k0 : Unit → R) : R :=
  k0 ()
noncomputable def V105x0 : Unit := F105x0 N (fun p => p)
theorem tot105x0 (k0 : Unit → R) : F105x0 N k0 = k0 (V105x0 N) := by
  unfold V105x0 F105x0
  repeat' (first | rfl | apply cond_k | (apply bnd_k; intro _))
noncomputable def sh105x0 : Sh := { tmps := [(0, .c (.i .i64))], mem := [] }
noncomputable def A105x0 (N : Nat) (L : List Lf) : List (Bool × Res) := [(true, ([.g [.i .i64 (li L 0), .i .i64 60, .i .i64 2]], []))]
theorem raw105x0 (L : List Lf) : bd Try.prog (T13x0 N) (h105x0s0 N).h 105 sh105x0 L = F105x0 N (fun _ => some ([.g [.i .i64 (li L 0), .i .i64 60, .i .i64 2]], [])) := by kernel_rfl
theorem ok105x0 : FnOk Try.prog 105 sh105x0 (A105x0 N) :=
  (h105x0s0 N).fn progOk (T13x0_ok N) fun L x hx => ((raw105x0 N L).trans ((tot105x0 N ..).trans (alt0 _ _ hx)))
noncomputable def T105x0 : Oracle := ext 105 (spSh sh105x0 (A105x0 N)) (T13x0 N)
theorem T105x0_ok : OracleOk Try.prog (T105x0 N) := FnOk.to (ok105x0 N) (T13x0_ok N)
noncomputable def rg106x0 : List (Nat × List Nat) := [(0, [0, 1, 2, 3])]
noncomputable def hd106x0 : Hints := []
noncomputable def h106x0s0 (N : Nat) : Sg Try.prog 1 106 := .start hd106x0 rg106x0
noncomputable def F106x0 (N : Nat) (v0 v1 : Int) (v2 : Bool) (v3 : LD) (v6 : Bool) (k0 : LD → R) : R :=
  k0 [(.a [(.i 1), (.i v0), (.i 0), (.l false [(.a [(.b v6), (.i v1), (.l v2 v3)])]), (.l true [])])]
noncomputable def V106x0 (v0 v1 : Int) (v2 : Bool) (v3 : LD) (v6 : Bool) : LD := F106x0 N v0 v1 v2 v3 v6 (fun p => p)
theorem tot106x0 (v0 v1 : Int) (v2 : Bool) (v3 : LD) (v6 : Bool) (k0 : LD → R) : F106x0 N v0 v1 v2 v3 v6 k0 = k0 (V106x0 N v0 v1 v2 v3 v6) := by
  unfold V106x0 F106x0
  repeat' (first | rfl | apply cond_k | (apply bnd_k; intro _))
noncomputable def J106x0 (L : List Lf) (k0 : LD → R) : R := F106x0 N (li L 0) (li L 1) (lb L 2) (ll L 3) (lb L 6) k0
noncomputable def sh106x0 : Sh := { tmps := [(0, .c (.p 0 0)), (1, .c (.i .i64)), (2, .c (.i .i64)), (3, .c (.sl 146))], mem := [(0, .box ([.nsl 53, .b]))] }
noncomputable def K106x0w0 (L : List Lf) (p : LD) : Res := ([], [(0, .box [.o 26, .b (lb L 6)]), (26, .row 53 true false p)])
noncomputable def A106x0 (L : List Lf) : List (Bool × Res) := bnd (J106x0 N L (fun p => p)) fun q => [(true, K106x0w0 L q)]
theorem raw106x0 (L : List Lf) : bd Try.prog (T105x0 N) (h106x0s0 N).h 106 sh106x0 L = J106x0 N L (fun p => some (K106x0w0 L p)) := by kernel_rfl
theorem ok106x0 : FnOk Try.prog 106 sh106x0 (A106x0 N) :=
  (h106x0s0 N).fn progOk (T105x0_ok N) fun L x hx => ((raw106x0 N L).trans ((tot106x0 N ..).trans (alt0 _ _ hx)))
noncomputable def T106x0 : Oracle := ext 106 (spSh sh106x0 (A106x0 N)) (T105x0 N)
theorem T106x0_ok : OracleOk Try.prog (T106x0 N) := FnOk.to (ok106x0 N) (T105x0_ok N)
noncomputable def rg124x0 : List (Nat × List Nat) := [(0, [1, 0]), (1, [1, 0]), (2, [0]), (3, [0])]
noncomputable def hd124x0 : Hints := []
noncomputable def h124x0s0 (N : Nat) : Sg Try.prog 0 124 := .start hd124x0 rg124x0
noncomputable def F124x0 (N : Nat) (v0 : Int) (v1 : Bool) (k0 : Int → Option R) : Option R :=
  bif v1 then
    bif (decide (0 ≤ (IntKind.wrap .i64 ((IntKind.wrap .i64 (8 * v0)) - 1)))) then
      bnd (IntKind.wrap .i64 (1 * 2 ^ (min (IntKind.wrap .i64 ((IntKind.wrap .i64 (8 * v0)) - 1)).toNat 64))) fun y0 =>
      k0 (IntKind.wrap .i64 (y0 - 1))
    else
      none
  else
    bif (decide (0 ≤ (IntKind.wrap .i64 (8 * v0)))) then
      bnd (IntKind.wrap .i64 (1 * 2 ^ (min (IntKind.wrap .i64 (8 * v0)).toNat 64))) fun y1 =>
      k0 (IntKind.wrap .i64 (y1 - 1))
    else
      none
noncomputable def G124x0 (v0 : Int) (v1 : Bool) : Option (Int) := F124x0 N v0 v1 (fun p => some p)
theorem bind124x0 (v0 : Int) (v1 : Bool) (k0 : Int → Option R) : F124x0 N v0 v1 k0 = (G124x0 N v0 v1).bind k0 := by
  unfold G124x0 F124x0
  repeat' (first | with_reducible apply cond_b | (with_reducible apply bnd_b; intro _) | rfl)
noncomputable def sh124x0 : Sh := { tmps := [(0, .c (.i .i64)), (1, .c (.b))], mem := [] }
noncomputable def A124x0 (L : List Lf) : List (Bool × Res) := bnd (F124x0 N (li L 0) (lb L 1) (fun p => some p)) fun q => [(q.isSome, ([.c (.i .i64 (q.getD default))], []))]
theorem raw124x0 (L : List Lf) : bd Try.prog (T106x0 N) (h124x0s0 N).h 124 sh124x0 L = F124x0 N (li L 0) (lb L 1) (fun p => some ([.c (.i .i64 p)], [])) := by kernel_rfl
theorem ok124x0 : FnOk Try.prog 124 sh124x0 (A124x0 N) :=
  (h124x0s0 N).fn progOk (T106x0_ok N) fun L x hx => ((raw124x0 N L).trans ((bind124x0 N ..).trans (alt1 x hx)))
noncomputable def T124x0 : Oracle := ext 124 (spSh sh124x0 (A124x0 N)) (T106x0 N)
theorem T124x0_ok : OracleOk Try.prog (T124x0 N) := FnOk.to (ok124x0 N) (T106x0_ok N)
noncomputable def rg121x0 : List (Nat × List Nat) := [(0, [0]), (1, [2, 3, 0]), (3, [0, 2, 3]), (2, [2, 3, 0])]
noncomputable def hd121x0 : Hints := [(3, [2, 3, 0], [0], [])]
noncomputable def h121x0s0 (N : Nat) : Sg Try.prog 1 121 := .start hd121x0 rg121x0
noncomputable def S121x0x3 (N : Nat) (w0 w1 : Int) (w3 : LD) (kr : Int → Int → LD → Option R) (k0 : LD → Option R) : Option R :=
  bif (decide (w0 < w1)) then
    bif (inB w1 w3.length) then
      bif (decide (w1.toNat < w3.length)) then
        bif (inB w0 w3.length) then
          bif (decide (w0.toNat < w3.length)) then
            bif (inB w0 w3.length) then
              bif (decide (w0.toNat < w3.length)) then
                bif (inB w1 (w3.set w0.toNat (.i (w3.getD w1.toNat (.i 0)).toI)).length) then
                  bif (decide (w1.toNat < (w3.set w0.toNat (.i (w3.getD w1.toNat (.i 0)).toI)).length)) then
                    bnd (((w3.set w0.toNat (.i (w3.getD w1.toNat (.i 0)).toI)).set w1.toNat (.i (w3.getD w0.toNat (.i 0)).toI)) : List D) fun y0 =>
                    kr (IntKind.wrap .i64 (w0 + 1)) (IntKind.wrap .i64 (w1 - 1)) y0
                  else
                    none
                else
                  none
              else
                none
            else
              none
          else
            none
        else
          none
      else
        none
    else
      none
  else
    k0 w3
noncomputable def L121x0x3 (N : Nat) {R : Type} : Nat → Int → Int → LD → (LD → Option R) → Option R
  | 0, _, _, _, _ => none
  | m + 1, w0, w1, w3, k0 => S121x0x3 N w0 w1 w3 (fun w0 w1 w3 => L121x0x3 N m w0 w1 w3 k0) k0
noncomputable def G121x0x3 (w0 w1 : Int) (w3 : LD) : Option (LD) := L121x0x3 N (R := (LD)) N w0 w1 w3 (fun p => some p)
noncomputable def J121x0x3 (L x : List Lf) (kr : List Lf → Option R) (k0 : LD → Option R) : Option R := S121x0x3 N (li x 0) (li x 1) (ll x 2) (fun w0 w1 w3 => kr [.i w0, .i w1, .l w3]) k0
theorem sb121x0x3 (L x : List Lf) (kr : List Lf → Option R) (k0 : LD → Option R) : J121x0x3 N L x kr k0 = (J121x0x3 N L x (fun y => some (.inl y)) (fun p => some (.inr p))).bind (sumE kr k0) := by
  unfold J121x0x3 S121x0x3
  repeat' (first | with_reducible apply cond_b | (with_reducible apply bnd_b; intro _) | rfl)
noncomputable def Q121x0x3 (L : List Lf) (m : Nat) (x : List Lf) : Option (LD) := L121x0x3 N (R := (LD)) m (li x 0) (li x 1) (ll x 2) (fun p => some p)
noncomputable def sh121x0x3 : Sh := { tmps := [(0, .c (.o 0)), (2, .c (.i .i64)), (3, .c (.i .i64))], mem := [(0, .row 5 true)] }
noncomputable def A121x0x3 (L : List Lf) : List (Bool × (Ex × St)) := bnd (Q121x0x3 N L N (pk sh121x0x3 [0, 1, 3] L)) fun q => [(q.isSome, ((.exit 0), ⟨[], [(0, .row 5 true (lb L 2) (q.getD default))]⟩))]
theorem step121x0x3 (m : Nat) (kn : St → Option (Ex × St)) (L x : List Lf) : lpB Try.prog (T124x0 N) (h121x0s0 N).h 1 121 3 sh121x0x3 [0, 1, 3] [] [0] (m + 100) kn L x = J121x0x3 N L x (fun y => kn (ofSh sh121x0x3 (mx sh121x0x3 [0, 1, 3] L y))) (fun p => some ((.exit 0), ⟨[], [(0, .row 5 true (lb L 2) p)]⟩)) := by kernel_rfl
theorem ql121x0x3 (L : List Lf) (m : Nat) (x : List Lf) : Q121x0x3 N L (m + 1) x = J121x0x3 N L x (Q121x0x3 N L m) some := by kernel_rfl
noncomputable def h121x0s1 : Sg Try.prog 1 121 :=
  (h121x0s0 N).lp (A121x0x3 N) N progOk (T124x0_ok N) (fun m kn L x => (step121x0x3 N m kn L x).trans (sb121x0x3 N L x _ _)) (fun L m x => (ql121x0x3 N L m x).trans (sb121x0x3 N L x (Q121x0x3 N L m) some)) fun L x hx => alt1 x hx
noncomputable def F121x0 (v1 : LD) (k0 : LD → Option R) : Option R :=
  bnd (G121x0x3 N 0 (IntKind.wrap .i64 ((v1.length : Int) - 1)) v1) fun y0 =>
  bif y0.isSome then
    k0 (y0.getD default)
  else
    none
noncomputable def G121x0 (v1 : LD) : Option (LD) := F121x0 N v1 (fun p => some p)
theorem bind121x0 (v1 : LD) (k0 : LD → Option R) : F121x0 N v1 k0 = (G121x0 N v1).bind k0 := by
  unfold G121x0 F121x0
  repeat' (first | with_reducible apply cond_b | (with_reducible apply bnd_b; intro _) | rfl)
noncomputable def sh121x0 : Sh := { tmps := [(0, .c (.o 0))], mem := [(0, .row 5 true)] }
noncomputable def A121x0 (L : List Lf) : List (Bool × Res) := bnd (F121x0 N (ll L 1) (fun p => some p)) fun q => [(q.isSome, ([], [(0, .row 5 true (lb L 0) (q.getD default))]))]
theorem raw121x0 (L : List Lf) : bd Try.prog (T124x0 N) (h121x0s1 N).h 121 sh121x0 L = F121x0 N (ll L 1) (fun p => some ([], [(0, .row 5 true (lb L 0) p)])) := by kernel_rfl
theorem ok121x0 : FnOk Try.prog 121 sh121x0 (A121x0 N) :=
  (h121x0s1 N).fn progOk (T124x0_ok N) fun L x hx => ((raw121x0 N L).trans ((bind121x0 N ..).trans (alt1 x hx)))
noncomputable def T121x0 : Oracle := ext 121 (spSh sh121x0 (A121x0 N)) (T124x0 N)
theorem T121x0_ok : OracleOk Try.prog (T121x0 N) := FnOk.to (ok121x0 N) (T124x0_ok N)
noncomputable def rg67x0 : List (Nat × List Nat) := [(0, [1, 0, 2]), (1, [1, 0, 2]), (2, [7, 0, 2]), (3, [13, 12, 7, 0, 2]), (4, [13, 7, 0, 12, 2]), (5, [7, 8, 0, 13, 12, 2]), (6, [13, 12, 7, 0, 2]), (7, [2, 7]), (8, [7]), (9, [7])]
noncomputable def hd67x0 : Hints := [(9, [13, 12, 7, 0, 2], [10], []), (26, [7, 25], [10], [])]
noncomputable def h67x0s0 (N : Nat) : Sg Try.prog 0 67 := .start hd67x0 rg67x0
noncomputable def S67x0x9 (N : Nat) (w0 w2 : Int) (w3 : Int) (w5 : LD) (kr : Int → LD → Option R) (k0 : LD → Option R) : Option R :=
  bif (decide (w3 < w2)) then
    bif (decide (0 ≤ (IntKind.wrap .i64 (8 * w3)))) then
      bnd (IntKind.wrap .u8 (w0.fdiv (2 ^ (min (IntKind.wrap .i64 (8 * w3)).toNat 64)))) fun y0 =>
      bif (inB w3 w5.length) then
        bif (decide (w3.toNat < w5.length)) then
          kr (IntKind.wrap .i64 (w3 + 1)) (w5.set w3.toNat (.i y0))
        else
          none
      else
        none
    else
      none
  else
    k0 w5
noncomputable def L67x0x9 (N : Nat) {R : Type} (w0 w2 : Int) : Nat → Int → LD → (LD → Option R) → Option R
  | 0, _, _, _ => none
  | m + 1, w3, w5, k0 => S67x0x9 N w0 w2 w3 w5 (fun w3 w5 => L67x0x9 N w0 w2 m w3 w5 k0) k0
noncomputable def G67x0x9 (w0 w2 : Int) (w3 : Int) (w5 : LD) : Option (LD) := L67x0x9 N (R := (LD)) w0 w2 N w3 w5 (fun p => some p)
noncomputable def J67x0x9 (L x : List Lf) (kr : List Lf → Option R) (k0 : LD → Option R) : Option R := S67x0x9 N (li L 0) (li L 2) (li x 0) (ll x 1) (fun w3 w5 => kr [.i w3, .l w5]) k0
theorem sb67x0x9 (L x : List Lf) (kr : List Lf → Option R) (k0 : LD → Option R) : J67x0x9 N L x kr k0 = (J67x0x9 N L x (fun y => some (.inl y)) (fun p => some (.inr p))).bind (sumE kr k0) := by
  unfold J67x0x9 S67x0x9
  repeat' (first | with_reducible apply cond_b | (with_reducible apply bnd_b; intro _) | rfl)
noncomputable def Q67x0x9 (L : List Lf) (m : Nat) (x : List Lf) : Option (LD) := L67x0x9 N (R := (LD)) (li L 0) (li L 2) m (li x 0) (ll x 1) (fun p => some p)
noncomputable def sh67x0x9 : Sh := { tmps := [(0, .c (.i .i64)), (2, .c (.b)), (7, .c (.o 10)), (12, .c (.i .i64)), (13, .c (.i .i64))], mem := [(10, .row 5 true)] }
noncomputable def K67x0x9w0 (L : List Lf) (p : LD) : Ex × St := ((.exit 0), mg (ofSh sh67x0x9 L) [2, 7] [] [10] [(10, .row 5 true (lb L 4) p)])
noncomputable def A67x0x9 (L : List Lf) : List (Bool × (Ex × St)) := bnd (Q67x0x9 N L N (pk sh67x0x9 [3, 5] L)) fun q => [(q.isSome, K67x0x9w0 L (q.getD default))]
theorem step67x0x9 (m : Nat) (kn : St → Option (Ex × St)) (L x : List Lf) : lpB Try.prog (T121x0 N) (h67x0s0 N).h 0 67 9 sh67x0x9 [3, 5] [6, 2, 7] [10] (m + 100) kn L x = J67x0x9 N L x (fun y => kn (ofSh sh67x0x9 (mx sh67x0x9 [3, 5] L y))) (fun p => some (K67x0x9w0 L p)) := by kernel_rfl
theorem ql67x0x9 (L : List Lf) (m : Nat) (x : List Lf) : Q67x0x9 N L (m + 1) x = J67x0x9 N L x (Q67x0x9 N L m) some := by kernel_rfl
noncomputable def h67x0s1 : Sg Try.prog 0 67 :=
  (h67x0s0 N).lp (A67x0x9 N) N progOk (T121x0_ok N) (fun m kn L x => (step67x0x9 N m kn L x).trans (sb67x0x9 N L x _ _)) (fun L m x => (ql67x0x9 N L m x).trans (sb67x0x9 N L x (Q67x0x9 N L m) some)) fun L x hx => alt1 x hx
noncomputable def F67x0x26 (w0 : Bool) (w2 : LD) (k0 : LD → Option R) : Option R :=
  bif w0 then
    bnd (G121x0 N w2) fun y0 =>
    bif y0.isSome then
      k0 (y0.getD default)
    else
      none
  else
    k0 w2
noncomputable def G67x0x26 (w0 : Bool) (w2 : LD) : Option (LD) := F67x0x26 N w0 w2 (fun p => some p)
theorem bind67x0x26 (w0 : Bool) (w2 : LD) (k0 : LD → Option R) : F67x0x26 N w0 w2 k0 = (G67x0x26 N w0 w2).bind k0 := by
  unfold G67x0x26 F67x0x26
  repeat' (first | with_reducible apply cond_b | (with_reducible apply bnd_b; intro _) | rfl)
noncomputable def sh67x0x26 : Sh := { tmps := [(7, .c (.o 10)), (25, .c (.b))], mem := [(10, .row 5 true)] }
noncomputable def K67x0x26w0 (L : List Lf) (p : LD) : Ex × St := (.normal, ⟨[(7, .c (.o 10))], [(10, .row 5 true (lb L 1) p)]⟩)
noncomputable def A67x0x26 (L : List Lf) : List (Bool × (Ex × St)) := bnd (F67x0x26 N (lb L 0) (ll L 2) (fun p => some p)) fun q => [(q.isSome, K67x0x26w0 L (q.getD default))]
theorem raw67x0x26 (L : List Lf) : pc Try.prog (T121x0 N) (h67x0s1 N).h 0 100 67 26 sh67x0x26 L [7] [10] = F67x0x26 N (lb L 0) (ll L 2) (fun p => some (K67x0x26w0 L p)) := by kernel_rfl
noncomputable def h67x0s2 : Sg Try.prog 0 67 :=
  (h67x0s1 N).cut (A67x0x26 N) progOk (T121x0_ok N) fun L x hx => (raw67x0x26 N L).trans ((bind67x0x26 N ..).trans (alt1 x hx))
noncomputable def F67x0 (v0 v1 : Int) (v2 : Bool) (k0 : LD → Option R) : Option R :=
  bif (((decide (0 ≤ v1)) && (decide (v1 ≤ v1))) && (decide (v1.toNat * 1 ≤ room) && decide (v1.toNat ≤ strMax))) then
    bnd (G67x0x9 N v0 ((List.replicate v1.toNat ((.i 0) : D)).length : Int) 0 (List.replicate v1.toNat ((.i 0) : D))) fun y0 =>
    bif y0.isSome then
      bnd (G67x0x26 N v2 (y0.getD default)) fun y1 =>
      bif y1.isSome then
        k0 (y1.getD default)
      else
        none
    else
      none
  else
    none
noncomputable def G67x0 (v0 v1 : Int) (v2 : Bool) : Option (LD) := F67x0 N v0 v1 v2 (fun p => some p)
theorem bind67x0 (v0 v1 : Int) (v2 : Bool) (k0 : LD → Option R) : F67x0 N v0 v1 v2 k0 = (G67x0 N v0 v1 v2).bind k0 := by
  unfold G67x0 F67x0
  repeat' (first | with_reducible apply cond_b | (with_reducible apply bnd_b; intro _) | rfl)
noncomputable def sh67x0 : Sh := { tmps := [(0, .c (.i .i64)), (1, .c (.i .i64)), (2, .c (.b))], mem := [] }
noncomputable def A67x0 (L : List Lf) : List (Bool × Res) := bnd (F67x0 N (li L 0) (li L 1) (lb L 2) (fun p => some p)) fun q => [(q.isSome, ([.c (.sl 5 false (q.getD default))], []))]
theorem raw67x0 (L : List Lf) : bd Try.prog (T121x0 N) (h67x0s2 N).h 67 sh67x0 L = F67x0 N (li L 0) (li L 1) (lb L 2) (fun p => some ([.c (.sl 5 false p)], [])) := by kernel_rfl
theorem ok67x0 : FnOk Try.prog 67 sh67x0 (A67x0 N) :=
  (h67x0s2 N).fn progOk (T121x0_ok N) fun L x hx => ((raw67x0 N L).trans ((bind67x0 N ..).trans (alt1 x hx)))
noncomputable def T67x0 : Oracle := ext 67 (spSh sh67x0 (A67x0 N)) (T121x0 N)
theorem T67x0_ok : OracleOk Try.prog (T67x0 N) := FnOk.to (ok67x0 N) (T121x0_ok N)
noncomputable def rg108x0 : List (Nat × List Nat) := [(0, [1, 3, 2, 0]), (1, [1, 3, 2, 0]), (2, [2, 0]), (3, [1, 2, 0])]
noncomputable def hd108x0 : Hints := [(8, [2, 0, 1, 14], [1, 0], [])]
noncomputable def h108x0s0 (N : Nat) : Sg Try.prog 2 108 := .start hd108x0 rg108x0
noncomputable def F108x0x8 (w0 w1 : Int) (w2 : Bool) (k0 : Int → Option R) : Option R :=
  bif w2 then
    bnd (G124x0 N w1 false) fun y0 =>
    bif y0.isSome then
      k0 (y0.getD default)
    else
      none
  else
    k0 w0
noncomputable def G108x0x8 (w0 w1 : Int) (w2 : Bool) : Option (Int) := F108x0x8 N w0 w1 w2 (fun p => some p)
theorem bind108x0x8 (w0 w1 : Int) (w2 : Bool) (k0 : Int → Option R) : F108x0x8 N w0 w1 w2 k0 = (G108x0x8 N w0 w1 w2).bind k0 := by
  unfold G108x0x8 F108x0x8
  repeat' (first | with_reducible apply cond_b | (with_reducible apply bnd_b; intro _) | rfl)
noncomputable def sh108x0x8 : Sh := { tmps := [(0, .c (.p 0 0)), (1, .c (.i .i64)), (2, .c (.i .i64)), (14, .c (.b))], mem := [(0, .box ([.o 1, .b])), (1, .row 53 true)] }
noncomputable def K108x0x8w0 (L : List Lf) (p : Int) : Ex × St := (.normal, mg (ofSh sh108x0x8 L) [0, 1, 2] [(1, .c (.i .i64 p))] [0, 1] [])
noncomputable def A108x0x8 (L : List Lf) : List (Bool × (Ex × St)) := bnd (F108x0x8 N (li L 0) (li L 1) (lb L 2) (fun p => some p)) fun q => [(q.isSome, K108x0x8w0 L (q.getD default))]
theorem raw108x0x8 (L : List Lf) : pc Try.prog (T67x0 N) (h108x0s0 N).h 2 100 108 8 sh108x0x8 L [1, 2, 0] [1, 0] = F108x0x8 N (li L 0) (li L 1) (lb L 2) (fun p => some (K108x0x8w0 L p)) := by kernel_rfl
noncomputable def h108x0s1 : Sg Try.prog 2 108 :=
  (h108x0s0 N).cut (A108x0x8 N) progOk (T67x0_ok N) fun L x hx => (raw108x0x8 N L).trans ((bind108x0x8 N ..).trans (alt1 x hx))
noncomputable def F108x0 (v0 v1 : Int) (v2 v3 : Bool) (k0 : LD → Option R) : Option R :=
  bnd (G108x0x8 N v0 v1 (bif (decide (v0 < 0)) then (!v2) else false)) fun y0 =>
  bif y0.isSome then
    bnd (G67x0 N (y0.getD default) v1 v3) fun y1 =>
    bif y1.isSome then
      k0 (y1.getD default)
    else
      none
  else
    none
noncomputable def G108x0 (v0 v1 : Int) (v2 v3 : Bool) : Option (LD) := F108x0 N v0 v1 v2 v3 (fun p => some p)
theorem bind108x0 (v0 v1 : Int) (v2 v3 : Bool) (k0 : LD → Option R) : F108x0 N v0 v1 v2 v3 k0 = (G108x0 N v0 v1 v2 v3).bind k0 := by
  unfold G108x0 F108x0
  repeat' (first | with_reducible apply cond_b | (with_reducible apply bnd_b; intro _) | rfl)
noncomputable def J108x0 (L : List Lf) (k0 : LD → Option R) : Option R := F108x0 N (li L 0) (li L 1) (lb L 2) (lb L 3) k0
noncomputable def sh108x0 : Sh := { tmps := [(0, .c (.p 0 0)), (1, .c (.i .i64)), (2, .c (.i .i64)), (3, .c (.b))], mem := [(0, .box ([.o 1, .b])), (1, .row 53 true)] }
noncomputable def A108x0 (L : List Lf) : List (Bool × Res) := bnd (J108x0 N L (fun p => some p)) fun q => [(q.isSome, ([.c (.sl 5 false (q.getD default))], mgA (ofSh sh108x0 L).mem [] [0, 1]))]
theorem raw108x0 (L : List Lf) : bd Try.prog (T67x0 N) (h108x0s1 N).h 108 sh108x0 L = J108x0 N L (fun p => some ([.c (.sl 5 false p)], mgA (ofSh sh108x0 L).mem [] [0, 1])) := by kernel_rfl
theorem ok108x0 : FnOk Try.prog 108 sh108x0 (A108x0 N) :=
  (h108x0s1 N).fn progOk (T67x0_ok N) fun L x hx => ((raw108x0 N L).trans ((bind108x0 N ..).trans (alt1 x hx)))
noncomputable def T108x0 : Oracle := ext 108 (spSh sh108x0 (A108x0 N)) (T67x0 N)
theorem T108x0_ok : OracleOk Try.prog (T108x0 N) := FnOk.to (ok108x0 N) (T67x0_ok N)
noncomputable def rg109x0 : List (Nat × List Nat) := [(0, [0]), (1, [0]), (2, [3, 0]), (3, [3])]
noncomputable def hd109x0 : Hints := []
noncomputable def h109x0s0 (N : Nat) : Sg Try.prog 0 109 := .start hd109x0 rg109x0
noncomputable def F109x0 (N : Nat) (v0 : LB) (k0 : LD → R) : R :=
  bnd (((bytesD v0).take 60 ++ [(.i 0), (.i 0), (.i 0), (.i 0), (.i 0), (.i 0), (.i 0), (.i 0), (.i 0), (.i 0), (.i 0), (.i 0), (.i 0), (.i 0), (.i 0), (.i 0), (.i 0), (.i 0), (.i 0), (.i 0), (.i 0), (.i 0), (.i 0), (.i 0), (.i 0), (.i 0), (.i 0), (.i 0), (.i 0), (.i 0), (.i 0), (.i 0), (.i 0), (.i 0), (.i 0), (.i 0), (.i 0), (.i 0), (.i 0), (.i 0), (.i 0), (.i 0), (.i 0), (.i 0), (.i 0), (.i 0), (.i 0), (.i 0), (.i 0), (.i 0), (.i 0), (.i 0), (.i 0), (.i 0), (.i 0), (.i 0), (.i 0), (.i 0), (.i 0), (.i 0)].drop (bytesD v0).length) : List D) fun y0 =>
  k0 y0
noncomputable def V109x0 (v0 : LB) : LD := F109x0 N v0 (fun p => p)
theorem tot109x0 (v0 : LB) (k0 : LD → R) : F109x0 N v0 k0 = k0 (V109x0 N v0) := by
  unfold V109x0 F109x0
  repeat' (first | rfl | apply cond_k | (apply bnd_k; intro _))
noncomputable def sh109x0 : Sh := { tmps := [(0, .c (.s))], mem := [] }
noncomputable def A109x0 (L : List Lf) : List (Bool × Res) := bnd (F109x0 N (ls L 0) (fun p => p)) fun q => [(true, ([.c (.sl 5 false q)], []))]
theorem raw109x0 (L : List Lf) : bd Try.prog (T108x0 N) (h109x0s0 N).h 109 sh109x0 L = F109x0 N (ls L 0) (fun p => some ([.c (.sl 5 false p)], [])) := by kernel_rfl
theorem ok109x0 : FnOk Try.prog 109 sh109x0 (A109x0 N) :=
  (h109x0s0 N).fn progOk (T108x0_ok N) fun L x hx => ((raw109x0 N L).trans ((tot109x0 N ..).trans (alt0 _ _ hx)))
noncomputable def T109x0 : Oracle := ext 109 (spSh sh109x0 (A109x0 N)) (T108x0 N)
theorem T109x0_ok : OracleOk Try.prog (T109x0 N) := FnOk.to (ok109x0 N) (T108x0_ok N)
noncomputable def rg107x0 : List (Nat × List Nat) := [(0, [1, 2, 0]), (1, [2, 6, 0]), (2, [13, 12, 11, 6, 0]), (3, [11, 13, 6, 12, 0]), (4, [6, 8, 13, 12, 11, 0]), (5, [13, 12, 11, 6, 0]), (6, [0, 6])]
noncomputable def hd107x0 : Hints := [(6, [13, 12, 11, 6, 0], [8, 1, 0, 50008006], [50008004])]
noncomputable def h107x0s0 (N : Nat) : Sg Try.prog 2 107 := .start hd107x0 rg107x0
noncomputable def S107x0x6 (N : Nat) (w1 : LD) (w2 : Int) (w3 : Int) (w12 : Bool) (w13 : LD) (kr : Int → Bool → LD → Option R) (k0 : Bool × LD → Option R) : Option R :=
  bif (decide (w3 < w2)) then
    bif (inB w3 w1.length) then
      bif (decide ((w13.length + (w1.getD w3.toNat (.i 0)).items.length) * 1 ≤ room) && decide ((w13.length + (w1.getD w3.toNat (.i 0)).items.length) ≤ strMax)) then
        kr (IntKind.wrap .i64 (w3 + 1)) ((w1.getD w3.toNat (.i 0)).items.isEmpty && w12) (w13 ++ (w1.getD w3.toNat (.i 0)).items)
      else
        none
    else
      none
  else
    k0 (w12, w13)
noncomputable def L107x0x6 (N : Nat) {R : Type} (w1 : LD) (w2 : Int) : Nat → Int → Bool → LD → (Bool × LD → Option R) → Option R
  | 0, _, _, _, _ => none
  | m + 1, w3, w12, w13, k0 => S107x0x6 N w1 w2 w3 w12 w13 (fun w3 w12 w13 => L107x0x6 N w1 w2 m w3 w12 w13 k0) k0
noncomputable def G107x0x6 (w1 : LD) (w2 : Int) (w3 : Int) (w12 : Bool) (w13 : LD) : Option (Bool × LD) := L107x0x6 N (R := (Bool × LD)) w1 w2 N w3 w12 w13 (fun p => some p)
noncomputable def J107x0x6 (L x : List Lf) (kr : List Lf → Option R) (k0 : Bool × LD → Option R) : Option R := S107x0x6 N (ll L 1) (li L 2) (li x 0) (lb x 1) (ll x 2) (fun w3 w12 w13 => kr [.i w3, .b w12, .l w13]) k0
theorem sb107x0x6 (L x : List Lf) (kr : List Lf → Option R) (k0 : Bool × LD → Option R) : J107x0x6 N L x kr k0 = (J107x0x6 N L x (fun y => some (.inl y)) (fun p => some (.inr p))).bind (sumE kr k0) := by
  unfold J107x0x6 S107x0x6
  repeat' (first | with_reducible apply cond_b | (with_reducible apply bnd_b; intro _) | rfl)
noncomputable def Q107x0x6 (L : List Lf) (m : Nat) (x : List Lf) : Option (Bool × LD) := L107x0x6 N (R := (Bool × LD)) (ll L 1) (li L 2) m (li x 0) (lb x 1) (ll x 2) (fun p => some p)
noncomputable def sh107x0x6 : Sh := { tmps := [(0, .c (.p 0 0)), (6, .c (.p 8 0)), (11, .c (.sl 37)), (12, .c (.i .i64)), (13, .c (.i .i64))], mem := [(0, .box ([.o 1, .b])), (1, .row 53 true), (8, .box ([.i .i64, .i .i64, .i .i64, .sl 103, .o 50008006])), (50008006, .row 5 true)] }
noncomputable def K107x0x6w0 (L : List Lf) (p : Bool × LD) : Ex × St := ((.exit 0), mg (ofSh sh107x0x6 L) [0, 6] [] [0, 1, 8, 50008006] [(50008006, .row 5 true p.1 p.2)])
noncomputable def A107x0x6 (L : List Lf) : List (Bool × (Ex × St)) := bnd (Q107x0x6 N L N (pk sh107x0x6 [3, 12, 13] L)) fun q => [(q.isSome, K107x0x6w0 L (q.getD default))]
theorem step107x0x6 (m : Nat) (kn : St → Option (Ex × St)) (L x : List Lf) : lpB Try.prog (T109x0 N) (h107x0s0 N).h 2 107 6 sh107x0x6 [3, 12, 13] [0, 6] [50008006, 8, 1, 0] (m + 100) kn L x = J107x0x6 N L x (fun y => kn (ofSh sh107x0x6 (mx sh107x0x6 [3, 12, 13] L y))) (fun p => some (K107x0x6w0 L p)) := by kernel_rfl
theorem ql107x0x6 (L : List Lf) (m : Nat) (x : List Lf) : Q107x0x6 N L (m + 1) x = J107x0x6 N L x (Q107x0x6 N L m) some := by kernel_rfl
noncomputable def h107x0s1 : Sg Try.prog 2 107 :=
  (h107x0s0 N).lp (A107x0x6 N) N progOk (T109x0_ok N) (fun m kn L x => (step107x0x6 N m kn L x).trans (sb107x0x6 N L x _ _)) (fun L m x => (ql107x0x6 N L m x).trans (sb107x0x6 N L x (Q107x0x6 N L m) some)) fun L x hx => alt1 x hx
noncomputable def F107x0 (v0 : Int) (v2 v5 : LD) (k0 : LD → Option R) : Option R :=
  bnd (G107x0x6 N v2 (v2.length : Int) 0 true []) fun y0 =>
  bif y0.isSome then
    bif (decide ((v5.length + 1) * 72 ≤ room) && decide ((v5.length + 1) ≤ strMax)) then
      bnd ((v5 ++ [(.a [(.i 2), (.i v0), (.i 0), (.l true []), (.l (y0.getD default).1 (y0.getD default).2)])]) : List D) fun y1 =>
      k0 y1
    else
      none
  else
    none
noncomputable def G107x0 (v0 : Int) (v2 v5 : LD) : Option (LD) := F107x0 N v0 v2 v5 (fun p => some p)
theorem bind107x0 (v0 : Int) (v2 v5 : LD) (k0 : LD → Option R) : F107x0 N v0 v2 v5 k0 = (G107x0 N v0 v2 v5).bind k0 := by
  unfold G107x0 F107x0
  repeat' (first | with_reducible apply cond_b | (with_reducible apply bnd_b; intro _) | rfl)
noncomputable def sh107x0 : Sh := { tmps := [(0, .c (.p 0 0)), (1, .c (.i .i64)), (2, .c (.sl 37))], mem := [(0, .box ([.o 1, .b])), (1, .row 53 true)] }
noncomputable def K107x0w0 (L : List Lf) (p : LD) : Res := ([], [(0, .box [.o 33, .b (lb L 3)]), (33, .row 53 true false p)])
noncomputable def A107x0 (L : List Lf) : List (Bool × Res) := bnd (F107x0 N (li L 0) (ll L 2) (ll L 5) (fun p => some p)) fun q => [(q.isSome, K107x0w0 L (q.getD default))]
theorem raw107x0 (L : List Lf) : bd Try.prog (T109x0 N) (h107x0s1 N).h 107 sh107x0 L = F107x0 N (li L 0) (ll L 2) (ll L 5) (fun p => some (K107x0w0 L p)) := by kernel_rfl
theorem ok107x0 : FnOk Try.prog 107 sh107x0 (A107x0 N) :=
  (h107x0s1 N).fn progOk (T109x0_ok N) fun L x hx => ((raw107x0 N L).trans ((bind107x0 N ..).trans (alt1 x hx)))
noncomputable def T107x0 : Oracle := ext 107 (spSh sh107x0 (A107x0 N)) (T109x0 N)
theorem T107x0_ok : OracleOk Try.prog (T107x0 N) := FnOk.to (ok107x0 N) (T109x0_ok N)
noncomputable def rg106x1 : List (Nat × List Nat) := [(0, [0, 1, 2, 3])]
noncomputable def hd106x1 : Hints := []
noncomputable def h106x1s0 (N : Nat) : Sg Try.prog 2 106 := .start hd106x1 rg106x1
noncomputable def F106x1 (N : Nat) (v0 v1 : Int) (v2 : Bool) (v3 : LD) (v4 : Bool) (v6 : LD) (k0 : LD → Option R) : Option R :=
  bif (decide ((v6.length + 1) * 72 ≤ room) && decide ((v6.length + 1) ≤ strMax)) then
    bnd ((v6 ++ [(.a [(.i 1), (.i v0), (.i 0), (.l false [(.a [(.b v4), (.i v1), (.l v2 v3)])]), (.l true [])])]) : List D) fun y0 =>
    k0 y0
  else
    none
noncomputable def G106x1 (v0 v1 : Int) (v2 : Bool) (v3 : LD) (v4 : Bool) (v6 : LD) : Option (LD) := F106x1 N v0 v1 v2 v3 v4 v6 (fun p => some p)
theorem bind106x1 (v0 v1 : Int) (v2 : Bool) (v3 : LD) (v4 : Bool) (v6 : LD) (k0 : LD → Option R) : F106x1 N v0 v1 v2 v3 v4 v6 k0 = (G106x1 N v0 v1 v2 v3 v4 v6).bind k0 := by
  unfold G106x1 F106x1
  repeat' (first | with_reducible apply cond_b | (with_reducible apply bnd_b; intro _) | rfl)
noncomputable def J106x1 (L : List Lf) (k0 : LD → Option R) : Option R := F106x1 N (li L 0) (li L 1) (lb L 2) (ll L 3) (lb L 4) (ll L 6) k0
noncomputable def sh106x1 : Sh := { tmps := [(0, .c (.p 0 0)), (1, .c (.i .i64)), (2, .c (.i .i64)), (3, .c (.sl 146))], mem := [(0, .box ([.o 1, .b])), (1, .row 53 true)] }
noncomputable def K106x1w0 (L : List Lf) (p : LD) : Res := ([], [(0, .box [.o 27, .b (lb L 4)]), (27, .row 53 true false p)])
noncomputable def A106x1 (L : List Lf) : List (Bool × Res) := bnd (J106x1 N L (fun p => some p)) fun q => [(q.isSome, K106x1w0 L (q.getD default))]
theorem raw106x1 (L : List Lf) : bd Try.prog (T107x0 N) (h106x1s0 N).h 106 sh106x1 L = J106x1 N L (fun p => some (K106x1w0 L p)) := by kernel_rfl
theorem ok106x1 : FnOk Try.prog 106 sh106x1 (A106x1 N) :=
  (h106x1s0 N).fn progOk (T107x0_ok N) fun L x hx => ((raw106x1 N L).trans ((bind106x1 N ..).trans (alt1 x hx)))
noncomputable def T106x1 : Oracle := ext 106 (spSh sh106x1 (A106x1 N)) (T107x0 N)
theorem T106x1_ok : OracleOk Try.prog (T106x1 N) := FnOk.to (ok106x1 N) (T107x0_ok N)
noncomputable def rg110x0 : List (Nat × List Nat) := [(0, [1, 2, 0]), (1, [4, 5, 0]), (2, [5, 0, 4]), (3, [6, 0, 4]), (4, [20, 6, 0, 4]), (5, [20, 6, 0, 4]), (6, [6, 7, 20, 0, 4]), (7, [20, 6, 0, 4]), (8, [6, 0, 4]), (9, [29, 6, 0, 4]), (10, [29, 6, 0, 4]), (11, [6, 8, 29, 0, 4]), (12, [29, 6, 0, 4]), (13, [0, 6, 4]), (14, [4, 0]), (15, [45, 44, 43, 4, 0]), (16, [45, 43, 4, 0, 44]), (17, [4, 10, 0, 9, 45, 44, 43]), (18, [0, 11, 10, 9, 4, 45, 44, 43]), (19, [9, 10, 4, 0, 12, 11, 45, 44, 43]), (23, [0, 12, 45, 44, 43, 4]), (20, [0, 12, 11, 45, 44, 43, 4]), (21, [0, 11, 45, 44, 43, 4]), (22, [13, 11, 45, 44, 43, 4, 0]), (24, [45, 44, 43, 4, 0])]
noncomputable def hd110x0 : Hints := [(45, [45, 44, 43, 4, 0], [6, 42000000029, 0, 50000002], [50000000]), (58, [9, 10, 4, 0, 12, 11, 45, 44, 43], [84, 12, 6, 50000002, 0], []), (69062, [0, 12, 11, 45, 44, 43, 4, 97], [84, 6, 50000002, 0], [])]
noncomputable def h110x0s0 (N : Nat) : Sg Try.prog 2 110 := .start hd110x0 rg110x0
noncomputable def F110x0x58 (N : Nat) (w0 : Int) (w11 : LD) (w16 : Int) (k0 : Bool → Option R) : Option R :=
  bif (decide (w0 > 0)) then
    bif (inB (IntKind.wrap .i64 (w0 - 1)) w11.length) then
      bnd ((w11.getD (IntKind.wrap .i64 (w0 - 1)).toNat (.i 0)).cell 0).toI fun y0 =>
      k0 (decide ((IntKind.wrap .i64 (w16 - y0)) < 32))
    else
      none
  else
    k0 false
noncomputable def G110x0x58 (w0 : Int) (w11 : LD) (w16 : Int) : Option (Bool) := F110x0x58 N w0 w11 w16 (fun p => some p)
theorem bind110x0x58 (w0 : Int) (w11 : LD) (w16 : Int) (k0 : Bool → Option R) : F110x0x58 N w0 w11 w16 k0 = (G110x0x58 N w0 w11 w16).bind k0 := by
  unfold G110x0x58 F110x0x58
  repeat' (first | with_reducible apply cond_b | (with_reducible apply bnd_b; intro _) | rfl)
noncomputable def sh110x0x58 : Sh := { tmps := [(0, .c (.p 0 0)), (4, .c (.p 6 0)), (9, .c (.i .i64)), (10, .c (.p 12 0)), (11, .c (.i .i64)), (12, .c (.o 84)), (43, .c (.sl 78)), (44, .c (.i .i64)), (45, .c (.i .i64))], mem := [(0, .box ([.o 50000002, .b])), (6, .box (.s :: [.i .i64, .i .i64, .sl 78, .sl 82, .sl 9])), (12, .box (rI 7 ([]))), (84, .row 37 true), (50000002, .row 53 true)] }
noncomputable def K110x0x58w0 (L : List Lf) (p : Bool) : Ex × St := (.normal, mg (ofSh sh110x0x58 L) [0, 4, 11, 12, 43, 44, 45, 97] [(97, .c (.b p))] [0, 6, 84, 50000002] [])
noncomputable def A110x0x58 (L : List Lf) : List (Bool × (Ex × St)) := bnd (F110x0x58 N (li L 0) (ll L 11) (li L 16) (fun p => some p)) fun q => [(q.isSome, K110x0x58w0 L (q.getD default))]
theorem raw110x0x58 (L : List Lf) : pc Try.prog (T106x1 N) (h110x0s0 N).h 2 100 110 58 sh110x0x58 L [0, 12, 11, 45, 44, 43, 4, 97] [84, 6, 50000002, 0] = F110x0x58 N (li L 0) (ll L 11) (li L 16) (fun p => some (K110x0x58w0 L p)) := by kernel_rfl
noncomputable def h110x0s1 : Sg Try.prog 2 110 :=
  (h110x0s0 N).cut (A110x0x58 N) progOk (T106x1_ok N) fun L x hx => (raw110x0x58 N L).trans ((bind110x0x58 N ..).trans (alt1 x hx))
noncomputable def F110x0x69062 (w0 : Int) (w5 : Bool) (w17 w19 : LD) (k0 : LD → Option R) (k1 : LD → Option R) : Option R :=
  bif w5 then
    bif ((decide (1 ≤ (w17.length : Int))) && (decide ((w17.length : Int) ≤ (w17.length : Int)))) then
      bnd (G107x0 N 1 ((w17.take (w17.length : Int).toNat).drop 1) w19) fun y0 =>
      bif y0.isSome then
        bnd (IntKind.wrap .i64 (((y0.getD default).length : Int) - 1)) fun y1 =>
        bif (inB y1 (y0.getD default).length) then
          bif (decide (y1.toNat < (y0.getD default).length)) then
            bnd (((y0.getD default).set y1.toNat (.a [(.i 3), (.i (((y0.getD default).getD y1.toNat (.i 0)).cell 1).toI), (.i (((y0.getD default).getD y1.toNat (.i 0)).cell 2).toI), (.l (((y0.getD default).getD y1.toNat (.i 0)).cell 3).isNil (((y0.getD default).getD y1.toNat (.i 0)).cell 3).items), (.l (((y0.getD default).getD y1.toNat (.i 0)).cell 4).isNil (((y0.getD default).getD y1.toNat (.i 0)).cell 4).items)])) : List D) fun y2 =>
            bif (decide (y1.toNat < y2.length)) then
              bnd ((y2.set y1.toNat (.a [(.i ((y2.getD y1.toNat (.i 0)).cell 0).toI), (.i ((y2.getD y1.toNat (.i 0)).cell 1).toI), (.i (w0.tmod 32)), (.l ((y2.getD y1.toNat (.i 0)).cell 3).isNil ((y2.getD y1.toNat (.i 0)).cell 3).items), (.l ((y2.getD y1.toNat (.i 0)).cell 4).isNil ((y2.getD y1.toNat (.i 0)).cell 4).items)])) : List D) fun y3 =>
              k0 y3
            else
              none
          else
            none
        else
          none
      else
        none
    else
      none
  else
    bnd (G107x0 N 1 w17 w19) fun y4 =>
    bif y4.isSome then
      k1 (y4.getD default)
    else
      none
noncomputable def G110x0x69062 (w0 : Int) (w5 : Bool) (w17 w19 : LD) : Option (Sum (LD) (LD)) := F110x0x69062 N w0 w5 w17 w19 (fun p => some (.inl p)) (fun p => some (.inr p))
theorem bind110x0x69062 (w0 : Int) (w5 : Bool) (w17 w19 : LD) (k0 : LD → Option R) (k1 : LD → Option R) : F110x0x69062 N w0 w5 w17 w19 k0 k1 = (G110x0x69062 N w0 w5 w17 w19).bind (sumE k0 k1) := by
  unfold G110x0x69062 F110x0x69062
  repeat' (first | with_reducible apply cond_b | (with_reducible apply bnd_b; intro _) | rfl)
noncomputable def J110x0x69062 (L : List Lf) (k0 : LD → Option R) (k1 : LD → Option R) : Option R := F110x0x69062 N (li L 0) (lb L 5) (ll L 17) (ll L 19) k0 k1
noncomputable def sh110x0x69062 : Sh := { tmps := [(0, .c (.p 0 0)), (4, .c (.p 6 0)), (11, .c (.i .i64)), (12, .c (.o 84)), (43, .c (.sl 78)), (44, .c (.i .i64)), (45, .c (.i .i64)), (97, .c (.b))], mem := [(0, .box ([.o 50000002, .b])), (6, .box (.s :: [.i .i64, .i .i64, .sl 78, .sl 82, .sl 9])), (84, .row 37 true), (50000002, .row 53 true)] }
noncomputable def K110x0x69062w0 (L : List Lf) (p : LD) : Ex × St := (.normal, mg (ofSh sh110x0x69062 L) [0, 4, 43, 44, 45] [] [0, 6, 102000000035] [(0, .box [.o 102000000035, .b (lb L 6)]), (102000000035, .row 53 true false p)])
noncomputable def K110x0x69062w1 (L : List Lf) (p : LD) : Ex × St := (.normal, mg (ofSh sh110x0x69062 L) [0, 4, 43, 44, 45] [] [0, 6, 126000000035] [(0, .box [.o 126000000035, .b (lb L 6)]), (126000000035, .row 53 true false p)])
noncomputable def A110x0x69062 (L : List Lf) : List (Bool × (Ex × St)) := bnd (J110x0x69062 N L (fun p => some (.inl p)) (fun p => some (.inr p))) fun q => [((inlB q), K110x0x69062w0 L (inlV q)), ((inrQ q).isSome, K110x0x69062w1 L ((inrQ q).getD default))]
theorem raw110x0x69062 (L : List Lf) : pc Try.prog (T106x1 N) (h110x0s1 N).h 2 100 110 69062 sh110x0x69062 L [45, 44, 43, 4, 0] [6, 102000000035, 0, 126000000035] = J110x0x69062 N L (fun p => some (K110x0x69062w0 L p)) (fun p => some (K110x0x69062w1 L p)) := by kernel_rfl
noncomputable def h110x0s2 : Sg Try.prog 2 110 :=
  (h110x0s1 N).cut (A110x0x69062 N) progOk (T106x1_ok N) fun L x hx => (raw110x0x69062 N L).trans ((bind110x0x69062 N ..).trans ((altS alt1) x hx))
noncomputable def S110x0x45 (w1 : LD) (w2 : Int) (w4 : Bool) (w7 : Int) (w9 : LD) (w3 : Int) (w14 : Bool) (w15 : LD) (kr : Int → Bool → LD → Option R) (k0 : Bool × LD → Option R) : Option R :=
  bif (decide (w3 < w2)) then
    bif (inB w3 w1.length) then
      bnd (IntKind.wrap .i64 (w7 + ((w1.getD w3.toNat (.i 0)).cell 0).toI)) fun y0 =>
      bnd (G108x0 N y0 4 false w4) fun y1 =>
      bif y1.isSome then
        bnd (G108x0 N ((w1.getD w3.toNat (.i 0)).cell 1).toI 4 true w4) fun y2 =>
        bif y2.isSome then
          bnd (G108x0 N ((w1.getD w3.toNat (.i 0)).cell 2).toI 4 true w4) fun y3 =>
          bif y3.isSome then
            bnd (G108x0 N ((w1.getD w3.toNat (.i 0)).cell 3).toI 4 true w4) fun y4 =>
            bif y4.isSome then
              bnd (G108x0 N ((w1.getD w3.toNat (.i 0)).cell 4).toI 2 false w4) fun y5 =>
              bif y5.isSome then
                bnd (G108x0 N ((w1.getD w3.toNat (.i 0)).cell 5).toI 2 false w4) fun y6 =>
                bif y6.isSome then
                  bnd (G108x0 N ((w1.getD w3.toNat (.i 0)).cell 6).toI 2 false w4) fun y7 =>
                  bif y7.isSome then
                    bnd (G110x0x58 N w3 w9 ((w1.getD w3.toNat (.i 0)).cell 0).toI) fun y8 =>
                    bif y8.isSome then
                      bnd (G110x0x69062 N y0 (y8.getD default) [(.l false (y1.getD default)), (.l false (y2.getD default)), (.l false (y3.getD default)), (.l false (y4.getD default)), (.l false (y5.getD default)), (.l false (y6.getD default)), (.l false (y7.getD default))] w15) fun y9 =>
                      bif (inlB y9) then
                        kr (IntKind.wrap .i64 (w3 + 1)) false (inlV y9)
                      else
                        bif (inrQ y9).isSome then
                          kr (IntKind.wrap .i64 (w3 + 1)) false ((inrQ y9).getD default)
                        else
                          none
                    else
                      none
                  else
                    none
                else
                  none
              else
                none
            else
              none
          else
            none
        else
          none
      else
        none
    else
      none
  else
    k0 (w14, w15)
noncomputable def L110x0x45 (N : Nat) {R : Type} (w1 : LD) (w2 : Int) (w4 : Bool) (w7 : Int) (w9 : LD) : Nat → Int → Bool → LD → (Bool × LD → Option R) → Option R
  | 0, _, _, _, _ => none
  | m + 1, w3, w14, w15, k0 => S110x0x45 N w1 w2 w4 w7 w9 w3 w14 w15 (fun w3 w14 w15 => L110x0x45 N w1 w2 w4 w7 w9 m w3 w14 w15 k0) k0
noncomputable def G110x0x45 (w1 : LD) (w2 : Int) (w4 : Bool) (w7 : Int) (w9 : LD) (w3 : Int) (w14 : Bool) (w15 : LD) : Option (Bool × LD) := L110x0x45 N (R := (Bool × LD)) w1 w2 w4 w7 w9 N w3 w14 w15 (fun p => some p)
noncomputable def J110x0x45 (L x : List Lf) (kr : List Lf → Option R) (k0 : Bool × LD → Option R) : Option R := S110x0x45 N (ll L 1) (li L 2) (lb L 4) (li L 7) (ll L 9) (li x 0) (lb x 1) (ll x 2) (fun w3 w14 w15 => kr [.i w3, .b w14, .l w15]) k0
theorem sb110x0x45 (L x : List Lf) (kr : List Lf → Option R) (k0 : Bool × LD → Option R) : J110x0x45 N L x kr k0 = (J110x0x45 N L x (fun y => some (.inl y)) (fun p => some (.inr p))).bind (sumE kr k0) := by
  unfold J110x0x45 S110x0x45
  repeat' (first | with_reducible apply cond_b | (with_reducible apply bnd_b; intro _) | rfl)
noncomputable def Q110x0x45 (L : List Lf) (m : Nat) (x : List Lf) : Option (Bool × LD) := L110x0x45 N (R := (Bool × LD)) (ll L 1) (li L 2) (lb L 4) (li L 7) (ll L 9) m (li x 0) (lb x 1) (ll x 2) (fun p => some p)
noncomputable def sh110x0x45 : Sh := { tmps := [(0, .c (.p 0 0)), (4, .c (.p 6 0)), (43, .c (.sl 78)), (44, .c (.i .i64)), (45, .c (.i .i64))], mem := [(0, .box ([.o 50000002, .b])), (6, .box (.s :: [.i .i64, .i .i64, .sl 78, .sl 82, .sl 9])), (50000002, .row 53 true)] }
noncomputable def K110x0x45w0 (L : List Lf) (p : Bool × LD) : Ex × St := ((.exit 4), mg (ofSh sh110x0x45 L) [] [] [0, 50000002] [(50000002, .row 53 true p.1 p.2)])
noncomputable def A110x0x45 (L : List Lf) : List (Bool × (Ex × St)) := bnd (Q110x0x45 N L N (pk sh110x0x45 [3, 14, 15] L)) fun q => [(q.isSome, K110x0x45w0 L (q.getD default))]
theorem step110x0x45 (m : Nat) (kn : St → Option (Ex × St)) (L x : List Lf) : lpB Try.prog (T106x1 N) (h110x0s2 N).h 2 110 45 sh110x0x45 [3, 14, 15] [] [50000002, 0] (m + 100) kn L x = J110x0x45 N L x (fun y => kn (ofSh sh110x0x45 (mx sh110x0x45 [3, 14, 15] L y))) (fun p => some (K110x0x45w0 L p)) := by kernel_rfl
theorem ql110x0x45 (L : List Lf) (m : Nat) (x : List Lf) : Q110x0x45 N L (m + 1) x = J110x0x45 N L x (Q110x0x45 N L m) some := by kernel_rfl
noncomputable def h110x0s3 : Sg Try.prog 2 110 :=
  (h110x0s2 N).lp (A110x0x45 N) N progOk (T106x1_ok N) (fun m kn L x => (step110x0x45 N m kn L x).trans (sb110x0x45 N L x _ _)) (fun L m x => (ql110x0x45 N L m x).trans (sb110x0x45 N L x (Q110x0x45 N L m) some)) fun L x hx => alt1 x hx
noncomputable def F110x0 (v2 : Int) (v4 : LD) (v9 v10 v11 : Int) (v12 : Bool) (v14 : LD) (k0 : Unit → Option R) (k1 : Bool × LD → Option R) : Option R :=
  bif ((v4.length : Int) == 0) then
    k0 ()
  else
    bnd ([(.a [(.i v9), (.i v10), (.i v11)]), (.a [(.i 0), (.i 4), (.i 1)])] : List D) fun y0 =>
    bif (decide ((y0.length + 1) * 24 ≤ room) && decide ((y0.length + 1) ≤ strMax)) then
      bif (decide ((((y0 ++ [(.a [(.i 1), (.i 4), (.i 1)])]) : List D).length + 1) * 24 ≤ room) && decide ((((y0 ++ [(.a [(.i 1), (.i 4), (.i 1)])]) : List D).length + 1) ≤ strMax)) then
        bnd (((y0 ++ [(.a [(.i 1), (.i 4), (.i 1)])]) ++ [(.a [(.i 2), (.i 4), (.i 1)])]) : List D) fun y1 =>
        bif (decide ((y1.length + 1) * 24 ≤ room) && decide ((y1.length + 1) ≤ strMax)) then
          bif (decide ((((y1 ++ [(.a [(.i 3), (.i 2), (.i 0)])]) : List D).length + 1) * 24 ≤ room) && decide ((((y1 ++ [(.a [(.i 3), (.i 2), (.i 0)])]) : List D).length + 1) ≤ strMax)) then
            bnd (((y1 ++ [(.a [(.i 3), (.i 2), (.i 0)])]) ++ [(.a [(.i 4), (.i 2), (.i 0)])]) : List D) fun y2 =>
            bif (decide ((y2.length + 1) * 24 ≤ room) && decide ((y2.length + 1) ≤ strMax)) then
              bnd (G106x1 N 1 20 false (y2 ++ [(.a [(.i 5), (.i 2), (.i 0)])]) v12 v14) fun y3 =>
              bif y3.isSome then
                bnd (G110x0x45 N v4 (v4.length : Int) v12 v2 v4 0 false (y3.getD default)) fun y4 =>
                bif y4.isSome then
                  k1 (y4.getD default)
                else
                  none
              else
                none
            else
              none
          else
            none
        else
          none
      else
        none
    else
      none
noncomputable def G110x0 (v2 : Int) (v4 : LD) (v9 v10 v11 : Int) (v12 : Bool) (v14 : LD) : Option (Sum (Unit) (Bool × LD)) := F110x0 N v2 v4 v9 v10 v11 v12 v14 (fun p => some (.inl p)) (fun p => some (.inr p))
theorem bind110x0 (v2 : Int) (v4 : LD) (v9 v10 v11 : Int) (v12 : Bool) (v14 : LD) (k0 : Unit → Option R) (k1 : Bool × LD → Option R) : F110x0 N v2 v4 v9 v10 v11 v12 v14 k0 k1 = (G110x0 N v2 v4 v9 v10 v11 v12 v14).bind (sumE k0 k1) := by
  unfold G110x0 F110x0
  repeat' (first | with_reducible apply cond_b | (with_reducible apply bnd_b; intro _) | rfl)
noncomputable def J110x0 (L : List Lf) (k0 : Unit → Option R) (k1 : Bool × LD → Option R) : Option R := F110x0 N (li L 2) (ll L 4) (li L 9) (li L 10) (li L 11) (lb L 12) (ll L 14) k0 k1
noncomputable def sh110x0 : Sh := { tmps := [(0, .c (.p 0 0)), (1, .g (.s :: [.i .i64, .i .i64, .sl 78, .sl 82, .sl 9])), (2, .g ([.i .i64, .i .i64, .i .i64]))], mem := [(0, .box ([.o 1, .b])), (1, .row 53 true)] }
noncomputable def K110x0w1 (L : List Lf) (p : Bool × LD) : Res := ([], [(0, .box [.o 50000002, .b (lb L 12)]), (50000002, .row 53 true p.1 p.2)])
noncomputable def A110x0 (L : List Lf) : List (Bool × Res) := bnd (J110x0 N L (fun p => some (.inl p)) (fun p => some (.inr p))) fun q => [((inlB q), ([], mgA (ofSh sh110x0 L).mem [] [0, 1])), ((inrQ q).isSome, K110x0w1 L ((inrQ q).getD default))]
theorem raw110x0 (L : List Lf) : bd Try.prog (T106x1 N) (h110x0s3 N).h 110 sh110x0 L = J110x0 N L (fun _ => some ([], mgA (ofSh sh110x0 L).mem [] [0, 1])) (fun p => some (K110x0w1 L p)) := by kernel_rfl
theorem ok110x0 : FnOk Try.prog 110 sh110x0 (A110x0 N) :=
  (h110x0s3 N).fn progOk (T106x1_ok N) fun L x hx => ((raw110x0 N L).trans ((bind110x0 N ..).trans ((altS alt1) x hx)))
noncomputable def T110x0 : Oracle := ext 110 (spSh sh110x0 (A110x0 N)) (T106x1 N)
theorem T110x0_ok : OracleOk Try.prog (T110x0 N) := FnOk.to (ok110x0 N) (T106x1_ok N)
noncomputable def rg49x0 : List (Nat × List Nat) := [(0, [0, 1]), (1, [2, 4, 1]), (2, [6, 4, 2, 1]), (3, [6, 4]), (4, [2, 4, 1]), (5, [4]), (6, [1, 2, 4]), (7, [7, 2, 4]), (8, [7, 8, 2, 4]), (9, [7, 8, 9, 2, 4]), (10, [7, 2, 9, 8, 4]), (11, [2, 7, 9, 8, 4]), (12, [7, 9, 2, 8, 4]), (13, [2, 7, 8, 9, 4]), (14, [64, 63, 62, 7, 2, 8, 9, 4]), (15, [62, 64, 7, 63, 2, 8, 9, 4]), (16, [7, 11, 64, 63, 62, 2, 8, 9, 4]), (17, [64, 63, 62, 7, 2, 8, 9, 4]), (18, [2, 7, 8, 9, 4]), (19, [7, 8, 9, 2, 4]), (20, [2, 7, 8, 4]), (21, [88, 87, 86, 7, 2, 8, 4]), (22, [86, 88, 7, 2, 87, 8, 4]), (23, [7, 2, 13, 88, 87, 86, 8, 4]), (24, [88, 87, 86, 7, 2, 8, 4]), (25, [7, 2, 8, 4]), (26, [7, 4])]
noncomputable def hd49x0 : Hints := [(38, [7, 9, 2, 8, 4, 55], [8, 52000000033, 29, 4, 2], []), (42, [64, 63, 62, 7, 2, 8, 9, 4], [8, 61000000027, 29, 4, 2, 50029000], [50029000]), (59, [7, 8, 9, 2, 4, 77], [8, 50029000, 29, 4, 2], []), (63, [88, 87, 86, 7, 2, 8, 4], [8, 85000000027, 29, 4, 2, 50029000], [50029000]), (76, [7, 2, 8, 4], [8, 50029000, 29, 4, 2], [])]
noncomputable def h49x0s0 (N : Nat) : Sg Try.prog 0 49 := .start hd49x0 rg49x0
noncomputable def F49x0x38 (w0 w15 : Bool) (w17 : LD) (k0 : LD → Option R) (k1 : Unit → Option R) : Option R :=
  bif w0 then
    bnd (G106x1 N 3 30 false [(.a [(.i 1), (.i 60), (.i 2)])] w15 w17) fun y0 =>
    bif y0.isSome then
      k0 (y0.getD default)
    else
      none
  else
    k1 ()
noncomputable def G49x0x38 (w0 w15 : Bool) (w17 : LD) : Option (Sum (LD) (Unit)) := F49x0x38 N w0 w15 w17 (fun p => some (.inl p)) (fun p => some (.inr p))
theorem bind49x0x38 (w0 w15 : Bool) (w17 : LD) (k0 : LD → Option R) (k1 : Unit → Option R) : F49x0x38 N w0 w15 w17 k0 k1 = (G49x0x38 N w0 w15 w17).bind (sumE k0 k1) := by
  unfold G49x0x38 F49x0x38
  repeat' (first | with_reducible apply cond_b | (with_reducible apply bnd_b; intro _) | rfl)
noncomputable def sh49x0x38 : Sh := { tmps := [(2, .c (.p 2 0)), (4, .c (.p 4 0)), (7, .c (.p 29 0)), (8, .c (.p 8 0)), (9, .c (.f 105 [])), (55, .c (.b))], mem := [(2, .box (.s :: [.i .i64, .i .i64, .sl 78, .sl 82, .sl 9])), (4, .box ([.sl 53])), (8, .box ([.i .i64, .i .i64, .i .i64])), (29, .box ([.o 52000000033, .b])), (52000000033, .row 53 true)] }
noncomputable def K49x0x38w0 (L : List Lf) (p : LD) : Ex × St := (.normal, mg (ofSh sh49x0x38 L) [2, 4, 7, 8, 9] [] [2, 4, 8, 29, 61000000027] [(29, .box [.o 61000000027, .b (lb L 15)]), (61000000027, .row 53 true false p)])
noncomputable def K49x0x38w1 (L : List Lf) (_ : Unit) : Ex × St := (.normal, mg (ofSh sh49x0x38 L) [2, 4, 7, 8, 9] [] [2, 4, 8, 29, 52000000033] [])
noncomputable def A49x0x38 (L : List Lf) : List (Bool × (Ex × St)) := bnd (F49x0x38 N (lb L 0) (lb L 15) (ll L 17) (fun p => some (.inl p)) (fun p => some (.inr p))) fun q => [((inlB q), K49x0x38w0 L (inlV q)), ((inrQ q).isSome, K49x0x38w1 L ())]
theorem raw49x0x38 (L : List Lf) : pc Try.prog (T110x0 N) (h49x0s0 N).h 0 100 49 38 sh49x0x38 L [2, 7, 8, 9, 4] [8, 61000000027, 29, 4, 2, 52000000033] = F49x0x38 N (lb L 0) (lb L 15) (ll L 17) (fun p => some (K49x0x38w0 L p)) (fun _ => some (K49x0x38w1 L ())) := by kernel_rfl
noncomputable def h49x0s1 : Sg Try.prog 0 49 :=
  (h49x0s0 N).cut (A49x0x38 N) progOk (T110x0_ok N) fun L x hx => (raw49x0x38 N L).trans ((bind49x0x38 N ..).trans ((altS alt1) x hx))
noncomputable def S49x0x42 (w1 : LD) (w2 : Int) (w3 : Int) (w19 : Bool) (w20 : LD) (kr : Int → Bool → LD → Option R) (k0 : Bool × LD → Option R) : Option R :=
  bif (decide (w3 < w2)) then
    bif (inB w3 w1.length) then
      bnd (V109x0 N (w1.getD w3.toNat (.i 0)).toS) fun y0 =>
      bnd (G107x0 N 3 [(.l false y0)] w20) fun y1 =>
      bif y1.isSome then
        kr (IntKind.wrap .i64 (w3 + 1)) false (y1.getD default)
      else
        none
    else
      none
  else
    k0 (w19, w20)
noncomputable def L49x0x42 (N : Nat) {R : Type} (w1 : LD) (w2 : Int) : Nat → Int → Bool → LD → (Bool × LD → Option R) → Option R
  | 0, _, _, _, _ => none
  | m + 1, w3, w19, w20, k0 => S49x0x42 N w1 w2 w3 w19 w20 (fun w3 w19 w20 => L49x0x42 N w1 w2 m w3 w19 w20 k0) k0
noncomputable def G49x0x42 (w1 : LD) (w2 : Int) (w3 : Int) (w19 : Bool) (w20 : LD) : Option (Bool × LD) := L49x0x42 N (R := (Bool × LD)) w1 w2 N w3 w19 w20 (fun p => some p)
noncomputable def J49x0x42 (L x : List Lf) (kr : List Lf → Option R) (k0 : Bool × LD → Option R) : Option R := S49x0x42 N (ll L 1) (li L 2) (li x 0) (lb x 1) (ll x 2) (fun w3 w19 w20 => kr [.i w3, .b w19, .l w20]) k0
theorem sb49x0x42 (L x : List Lf) (kr : List Lf → Option R) (k0 : Bool × LD → Option R) : J49x0x42 N L x kr k0 = (J49x0x42 N L x (fun y => some (.inl y)) (fun p => some (.inr p))).bind (sumE kr k0) := by
  unfold J49x0x42 S49x0x42
  repeat' (first | with_reducible apply cond_b | (with_reducible apply bnd_b; intro _) | rfl)
noncomputable def Q49x0x42 (L : List Lf) (m : Nat) (x : List Lf) : Option (Bool × LD) := L49x0x42 N (R := (Bool × LD)) (ll L 1) (li L 2) m (li x 0) (lb x 1) (ll x 2) (fun p => some p)
noncomputable def sh49x0x42 : Sh := { tmps := [(2, .c (.p 2 0)), (4, .c (.p 4 0)), (7, .c (.p 29 0)), (8, .c (.p 8 0)), (9, .c (.f 105 [])), (62, .c (.sl 9)), (63, .c (.i .i64)), (64, .c (.i .i64))], mem := [(2, .box (.s :: [.i .i64, .i .i64, .sl 78, .sl 82, .sl 9])), (4, .box ([.sl 53])), (8, .box ([.i .i64, .i .i64, .i .i64])), (29, .box ([.o 50029000, .b])), (50029000, .row 53 true)] }
noncomputable def K49x0x42w0 (L : List Lf) (p : Bool × LD) : Ex × St := ((.exit 0), mg (ofSh sh49x0x42 L) [2, 4, 7, 8, 9] [] [2, 4, 8, 29, 50029000] [(50029000, .row 53 true p.1 p.2)])
noncomputable def A49x0x42 (L : List Lf) : List (Bool × (Ex × St)) := bnd (Q49x0x42 N L N (pk sh49x0x42 [3, 19, 20] L)) fun q => [(q.isSome, K49x0x42w0 L (q.getD default))]
theorem step49x0x42 (m : Nat) (kn : St → Option (Ex × St)) (L x : List Lf) : lpB Try.prog (T110x0 N) (h49x0s1 N).h 0 49 42 sh49x0x42 [3, 19, 20] [4, 5, 2, 7, 8, 9] [8, 50029000, 29, 4, 2] (m + 100) kn L x = J49x0x42 N L x (fun y => kn (ofSh sh49x0x42 (mx sh49x0x42 [3, 19, 20] L y))) (fun p => some (K49x0x42w0 L p)) := by kernel_rfl
theorem ql49x0x42 (L : List Lf) (m : Nat) (x : List Lf) : Q49x0x42 N L (m + 1) x = J49x0x42 N L x (Q49x0x42 N L m) some := by kernel_rfl
noncomputable def h49x0s2 : Sg Try.prog 0 49 :=
  (h49x0s1 N).lp (A49x0x42 N) N progOk (T110x0_ok N) (fun m kn L x => (step49x0x42 N m kn L x).trans (sb49x0x42 N L x _ _)) (fun L m x => (ql49x0x42 N L m x).trans (sb49x0x42 N L x (Q49x0x42 N L m) some)) fun L x hx => alt1 x hx
noncomputable def F49x0x59 (w0 : Bool) (w12 w13 w14 : Int) (w15 : Bool) (w17 : LD) (k0 : LD → Option R) (k1 : Unit → Option R) : Option R :=
  bif w0 then
    bnd (G106x1 N 2 19 false [(.a [(.i w12), (.i w13), (.i w14)]), (.a [(.i 1), (.i 4), (.i 0)]), (.a [(.i 2), (.i 60), (.i 2)])] w15 w17) fun y0 =>
    bif y0.isSome then
      k0 (y0.getD default)
    else
      none
  else
    k1 ()
noncomputable def G49x0x59 (w0 : Bool) (w12 w13 w14 : Int) (w15 : Bool) (w17 : LD) : Option (Sum (LD) (Unit)) := F49x0x59 N w0 w12 w13 w14 w15 w17 (fun p => some (.inl p)) (fun p => some (.inr p))
theorem bind49x0x59 (w0 : Bool) (w12 w13 w14 : Int) (w15 : Bool) (w17 : LD) (k0 : LD → Option R) (k1 : Unit → Option R) : F49x0x59 N w0 w12 w13 w14 w15 w17 k0 k1 = (G49x0x59 N w0 w12 w13 w14 w15 w17).bind (sumE k0 k1) := by
  unfold G49x0x59 F49x0x59
  repeat' (first | with_reducible apply cond_b | (with_reducible apply bnd_b; intro _) | rfl)
noncomputable def J49x0x59 (L : List Lf) (k0 : LD → Option R) (k1 : Unit → Option R) : Option R := F49x0x59 N (lb L 0) (li L 12) (li L 13) (li L 14) (lb L 15) (ll L 17) k0 k1
noncomputable def sh49x0x59 : Sh := { tmps := [(2, .c (.p 2 0)), (4, .c (.p 4 0)), (7, .c (.p 29 0)), (8, .c (.p 8 0)), (9, .c (.f 105 [])), (77, .c (.b))], mem := [(2, .box (.s :: [.i .i64, .i .i64, .sl 78, .sl 82, .sl 9])), (4, .box ([.sl 53])), (8, .box ([.i .i64, .i .i64, .i .i64])), (29, .box ([.o 50029000, .b])), (50029000, .row 53 true)] }
noncomputable def K49x0x59w0 (L : List Lf) (p : LD) : Ex × St := (.normal, mg (ofSh sh49x0x59 L) [2, 4, 7, 8] [] [2, 4, 8, 29, 85000000027] [(29, .box [.o 85000000027, .b (lb L 15)]), (85000000027, .row 53 true false p)])
noncomputable def K49x0x59w1 (L : List Lf) (_ : Unit) : Ex × St := (.normal, mg (ofSh sh49x0x59 L) [2, 4, 7, 8] [] [2, 4, 8, 29, 50029000] [])
noncomputable def A49x0x59 (L : List Lf) : List (Bool × (Ex × St)) := bnd (J49x0x59 N L (fun p => some (.inl p)) (fun p => some (.inr p))) fun q => [((inlB q), K49x0x59w0 L (inlV q)), ((inrQ q).isSome, K49x0x59w1 L ())]
theorem raw49x0x59 (L : List Lf) : pc Try.prog (T110x0 N) (h49x0s2 N).h 0 100 49 59 sh49x0x59 L [2, 7, 8, 4] [8, 85000000027, 29, 4, 2, 50029000] = J49x0x59 N L (fun p => some (K49x0x59w0 L p)) (fun _ => some (K49x0x59w1 L ())) := by kernel_rfl
noncomputable def h49x0s3 : Sg Try.prog 0 49 :=
  (h49x0s2 N).cut (A49x0x59 N) progOk (T110x0_ok N) fun L x hx => (raw49x0x59 N L).trans ((bind49x0x59 N ..).trans ((altS alt1) x hx))
noncomputable def S49x0x63 (w1 : LD) (w2 w6 : Int) (w18 : Bool) (w3 : Int) (w19 : Bool) (w20 : LD) (kr : Int → Bool → LD → Option R) (k0 : Bool × LD → Option R) : Option R :=
  bif (decide (w3 < w2)) then
    bif (inB w3 w1.length) then
      bnd (IntKind.wrap .i64 (w6 + ((w1.getD w3.toNat (.i 0)).cell 0).toI)) fun y0 =>
      bnd (G108x0 N y0 4 false w18) fun y1 =>
      bif y1.isSome then
        bnd (IntKind.wrap .i64 (w6 + ((w1.getD w3.toNat (.i 0)).cell 1).toI)) fun y2 =>
        bnd (G108x0 N y2 4 false w18) fun y3 =>
        bif y3.isSome then
          bnd (V109x0 N ((w1.getD w3.toNat (.i 0)).cell 2).toS) fun y4 =>
          bnd (G107x0 N 2 [(.l false (y1.getD default)), (.l false (y3.getD default)), (.l false y4)] w20) fun y5 =>
          bif y5.isSome then
            kr (IntKind.wrap .i64 (w3 + 1)) false (y5.getD default)
          else
            none
        else
          none
      else
        none
    else
      none
  else
    k0 (w19, w20)
noncomputable def L49x0x63 (N : Nat) {R : Type} (w1 : LD) (w2 w6 : Int) (w18 : Bool) : Nat → Int → Bool → LD → (Bool × LD → Option R) → Option R
  | 0, _, _, _, _ => none
  | m + 1, w3, w19, w20, k0 => S49x0x63 N w1 w2 w6 w18 w3 w19 w20 (fun w3 w19 w20 => L49x0x63 N w1 w2 w6 w18 m w3 w19 w20 k0) k0
noncomputable def G49x0x63 (w1 : LD) (w2 w6 : Int) (w18 : Bool) (w3 : Int) (w19 : Bool) (w20 : LD) : Option (Bool × LD) := L49x0x63 N (R := (Bool × LD)) w1 w2 w6 w18 N w3 w19 w20 (fun p => some p)
noncomputable def J49x0x63 (L x : List Lf) (kr : List Lf → Option R) (k0 : Bool × LD → Option R) : Option R := S49x0x63 N (ll L 1) (li L 2) (li L 6) (lb L 18) (li x 0) (lb x 1) (ll x 2) (fun w3 w19 w20 => kr [.i w3, .b w19, .l w20]) k0
theorem sb49x0x63 (L x : List Lf) (kr : List Lf → Option R) (k0 : Bool × LD → Option R) : J49x0x63 N L x kr k0 = (J49x0x63 N L x (fun y => some (.inl y)) (fun p => some (.inr p))).bind (sumE kr k0) := by
  unfold J49x0x63 S49x0x63
  repeat' (first | with_reducible apply cond_b | (with_reducible apply bnd_b; intro _) | rfl)
noncomputable def Q49x0x63 (L : List Lf) (m : Nat) (x : List Lf) : Option (Bool × LD) := L49x0x63 N (R := (Bool × LD)) (ll L 1) (li L 2) (li L 6) (lb L 18) m (li x 0) (lb x 1) (ll x 2) (fun p => some p)
noncomputable def sh49x0x63 : Sh := { tmps := [(2, .c (.p 2 0)), (4, .c (.p 4 0)), (7, .c (.p 29 0)), (8, .c (.p 8 0)), (86, .c (.sl 82)), (87, .c (.i .i64)), (88, .c (.i .i64))], mem := [(2, .box (.s :: [.i .i64, .i .i64, .sl 78, .sl 82, .sl 9])), (4, .box ([.sl 53])), (8, .box ([.i .i64, .i .i64, .i .i64])), (29, .box ([.o 50029000, .b])), (50029000, .row 53 true)] }
noncomputable def K49x0x63w0 (L : List Lf) (p : Bool × LD) : Ex × St := ((.exit 2), mg (ofSh sh49x0x63 L) [2, 4, 7, 8] [] [2, 4, 8, 29, 50029000] [(50029000, .row 53 true p.1 p.2)])
noncomputable def A49x0x63 (L : List Lf) : List (Bool × (Ex × St)) := bnd (Q49x0x63 N L N (pk sh49x0x63 [3, 19, 20] L)) fun q => [(q.isSome, K49x0x63w0 L (q.getD default))]
theorem step49x0x63 (m : Nat) (kn : St → Option (Ex × St)) (L x : List Lf) : lpB Try.prog (T110x0 N) (h49x0s3 N).h 0 49 63 sh49x0x63 [3, 19, 20] [4, 5, 7, 2, 8] [8, 50029000, 29, 4, 2] (m + 100) kn L x = J49x0x63 N L x (fun y => kn (ofSh sh49x0x63 (mx sh49x0x63 [3, 19, 20] L y))) (fun p => some (K49x0x63w0 L p)) := by kernel_rfl
theorem ql49x0x63 (L : List Lf) (m : Nat) (x : List Lf) : Q49x0x63 N L (m + 1) x = J49x0x63 N L x (Q49x0x63 N L m) some := by kernel_rfl
noncomputable def h49x0s4 : Sg Try.prog 0 49 :=
  (h49x0s3 N).lp (A49x0x63 N) N progOk (T110x0_ok N) (fun m kn L x => (step49x0x63 N m kn L x).trans (sb49x0x63 N L x _ _)) (fun L m x => (ql49x0x63 N L m x).trans (sb49x0x63 N L x (Q49x0x63 N L m) some)) fun L x hx => alt1 x hx
noncomputable def F49x0x76 (w2 : Int) (w4 : LD) (w11 w12 w13 : Int) (w14 : Bool) (w16 : LD) (k0 : Unit → Option R) (k1 : Bool × LD → Option R) : Option R :=
  bnd (G110x0 N w2 w4 w11 w12 w13 w14 w16) fun y0 =>
  bif (inlB y0) then
    k0 ()
  else
    bif (inrQ y0).isSome then
      k1 ((inrQ y0).getD default)
    else
      none
noncomputable def G49x0x76 (w2 : Int) (w4 : LD) (w11 w12 w13 : Int) (w14 : Bool) (w16 : LD) : Option (Sum (Unit) (Bool × LD)) := F49x0x76 N w2 w4 w11 w12 w13 w14 w16 (fun p => some (.inl p)) (fun p => some (.inr p))
theorem bind49x0x76 (w2 : Int) (w4 : LD) (w11 w12 w13 : Int) (w14 : Bool) (w16 : LD) (k0 : Unit → Option R) (k1 : Bool × LD → Option R) : F49x0x76 N w2 w4 w11 w12 w13 w14 w16 k0 k1 = (G49x0x76 N w2 w4 w11 w12 w13 w14 w16).bind (sumE k0 k1) := by
  unfold G49x0x76 F49x0x76
  repeat' (first | with_reducible apply cond_b | (with_reducible apply bnd_b; intro _) | rfl)
noncomputable def J49x0x76 (L : List Lf) (k0 : Unit → Option R) (k1 : Bool × LD → Option R) : Option R := F49x0x76 N (li L 2) (ll L 4) (li L 11) (li L 12) (li L 13) (lb L 14) (ll L 16) k0 k1
noncomputable def sh49x0x76 : Sh := { tmps := [(2, .c (.p 2 0)), (4, .c (.p 4 0)), (7, .c (.p 29 0)), (8, .c (.p 8 0))], mem := [(2, .box (.s :: [.i .i64, .i .i64, .sl 78, .sl 82, .sl 9])), (4, .box ([.sl 53])), (8, .box ([.i .i64, .i .i64, .i .i64])), (29, .box ([.o 50029000, .b])), (50029000, .row 53 true)] }
noncomputable def K49x0x76w0 (L : List Lf) (_ : Unit) : Ex × St := (.normal, mg (ofSh sh49x0x76 L) [4, 7] [] [4, 29, 50029000] [])
noncomputable def K49x0x76w1 (L : List Lf) (p : Bool × LD) : Ex × St := (.normal, mg (ofSh sh49x0x76 L) [4, 7] [] [4, 29, 117050000002] [(29, .box [.o 117050000002, .b (lb L 14)]), (117050000002, .row 53 true p.1 p.2)])
noncomputable def A49x0x76 (L : List Lf) : List (Bool × (Ex × St)) := bnd (J49x0x76 N L (fun p => some (.inl p)) (fun p => some (.inr p))) fun q => [((inlB q), K49x0x76w0 L ()), ((inrQ q).isSome, K49x0x76w1 L ((inrQ q).getD default))]
theorem raw49x0x76 (L : List Lf) : pc Try.prog (T110x0 N) (h49x0s4 N).h 0 100 49 76 sh49x0x76 L [7, 4] [50029000, 29, 4, 117050000002] = J49x0x76 N L (fun _ => some (K49x0x76w0 L ())) (fun p => some (K49x0x76w1 L p)) := by kernel_rfl
noncomputable def h49x0s5 : Sg Try.prog 0 49 :=
  (h49x0s4 N).cut (A49x0x76 N) progOk (T110x0_ok N) fun L x hx => (raw49x0x76 N L).trans ((bind49x0x76 N ..).trans ((altS alt1) x hx))
noncomputable def F49x0 (v0 : LB) (v1 v2 : Int) (v4 v6 v8 : LD) (v9 : Bool) (k0 : Bool × LD × Int → Option R) : Option R :=
  bnd (G13x0 N v0 v1 v2 v4 v6 v8) fun y0 =>
  bif y0.isSome then
    bif ((y0.getD default) != 0) then
      k0 (true, [], (y0.getD default))
    else
      bnd (G54x0 N v4) fun y1 =>
      bif y1.isSome then
        bnd (decide ((IntKind.wrap .i64 (v2 + (y1.getD default))) > 4294967294)) fun y2 =>
        bif y2 then
          k0 (true, [], 9)
        else
          bnd (V106x0 N 0 0 false [(.a [(.i 253), (.i 4), (.i 0)]), (.a [(.i 1), (.i 60), (.i 2)]), (.a [(.i 2), (.i 1), (.i 0)])] v9) fun y3 =>
          bnd (G108x0 N v2 4 false v9) fun y4 =>
          bif y4.isSome then
            bnd (V109x0 N v0) fun y5 =>
            bnd (G108x0 N v1 1 false v9) fun y6 =>
            bif y6.isSome then
              bnd (G107x0 N 0 [(.l false (y4.getD default)), (.l false y5), (.l false (y6.getD default))] y3) fun y7 =>
              bif y7.isSome then
                bnd (G49x0x38 N (decide ((v8.length : Int) > 0)) v9 (y7.getD default)) fun y8 =>
                bif (inlB y8) then
                  bnd (G49x0x42 N v8 (v8.length : Int) 0 false (inlV y8)) fun y9 =>
                  bif y9.isSome then
                    bnd (G49x0x59 N (decide ((v6.length : Int) > 0)) 253 4 0 v9 (y9.getD default).2) fun y10 =>
                    bif (inlB y10) then
                      bnd (G49x0x63 N v6 (v6.length : Int) v2 v9 0 false (inlV y10)) fun y11 =>
                      bif y11.isSome then
                        bnd (G49x0x76 N v2 v4 253 4 0 v9 (y11.getD default).2) fun y12 =>
                        bif (inlB y12) then
                          k0 ((y11.getD default).1, (y11.getD default).2, 0)
                        else
                          bif (inrQ y12).isSome then
                            k0 (((inrQ y12).getD default).1, ((inrQ y12).getD default).2, 0)
                          else
                            none
                      else
                        none
                    else
                      bif (inrQ y10).isSome then
                        bnd (G49x0x63 N v6 (v6.length : Int) v2 v9 0 (y9.getD default).1 (y9.getD default).2) fun y13 =>
                        bif y13.isSome then
                          bnd (G49x0x76 N v2 v4 253 4 0 v9 (y13.getD default).2) fun y14 =>
                          bif (inlB y14) then
                            k0 ((y13.getD default).1, (y13.getD default).2, 0)
                          else
                            bif (inrQ y14).isSome then
                              k0 (((inrQ y14).getD default).1, ((inrQ y14).getD default).2, 0)
                            else
                              none
                        else
                          none
                      else
                        none
                  else
                    none
                else
                  bif (inrQ y8).isSome then
                    bnd (G49x0x42 N v8 (v8.length : Int) 0 false (y7.getD default)) fun y15 =>
                    bif y15.isSome then
                      bnd (G49x0x59 N (decide ((v6.length : Int) > 0)) 253 4 0 v9 (y15.getD default).2) fun y16 =>
                      bif (inlB y16) then
                        bnd (G49x0x63 N v6 (v6.length : Int) v2 v9 0 false (inlV y16)) fun y17 =>
                        bif y17.isSome then
                          bnd (G49x0x76 N v2 v4 253 4 0 v9 (y17.getD default).2) fun y18 =>
                          bif (inlB y18) then
                            k0 ((y17.getD default).1, (y17.getD default).2, 0)
                          else
                            bif (inrQ y18).isSome then
                              k0 (((inrQ y18).getD default).1, ((inrQ y18).getD default).2, 0)
                            else
                              none
                        else
                          none
                      else
                        bif (inrQ y16).isSome then
                          bnd (G49x0x63 N v6 (v6.length : Int) v2 v9 0 (y15.getD default).1 (y15.getD default).2) fun y19 =>
                          bif y19.isSome then
                            bnd (G49x0x76 N v2 v4 253 4 0 v9 (y19.getD default).2) fun y20 =>
                            bif (inlB y20) then
                              k0 ((y19.getD default).1, (y19.getD default).2, 0)
                            else
                              bif (inrQ y20).isSome then
                                k0 (((inrQ y20).getD default).1, ((inrQ y20).getD default).2, 0)
                              else
                                none
                          else
                            none
                        else
                          none
                    else
                      none
                  else
                    none
              else
                none
            else
              none
          else
            none
      else
        none
  else
    none
noncomputable def G49x0 (v0 : LB) (v1 v2 : Int) (v4 v6 v8 : LD) (v9 : Bool) : Option (Bool × LD × Int) := F49x0 N v0 v1 v2 v4 v6 v8 v9 (fun p => some p)
theorem bind49x0 (v0 : LB) (v1 v2 : Int) (v4 v6 v8 : LD) (v9 : Bool) (k0 : Bool × LD × Int → Option R) : F49x0 N v0 v1 v2 v4 v6 v8 v9 k0 = (G49x0 N v0 v1 v2 v4 v6 v8 v9).bind k0 := by
  unfold G49x0 F49x0
  repeat' (first | with_reducible apply cond_b | (with_reducible apply bnd_b; intro _) | rfl)
noncomputable def J49x0 (L : List Lf) (k0 : Bool × LD × Int → Option R) : Option R := F49x0 N (ls L 0) (li L 1) (li L 2) (ll L 4) (ll L 6) (ll L 8) (lb L 9) k0
noncomputable def sh49x0 : Sh := { tmps := [(0, .g (.s :: [.i .i64, .i .i64, .sl 78, .sl 82, .sl 9])), (1, .c (.b))], mem := [] }
noncomputable def A49x0 (L : List Lf) : List (Bool × Res) := bnd (J49x0 N L (fun p => some p)) fun q => [(q.isSome, ([.g [.sl 53 (q.getD default).1 (q.getD default).2.1], .c (.i .i64 (q.getD default).2.2)], []))]
theorem raw49x0 (L : List Lf) : bd Try.prog (T110x0 N) (h49x0s5 N).h 49 sh49x0 L = J49x0 N L (fun p => some ([.g [.sl 53 p.1 p.2.1], .c (.i .i64 p.2.2)], [])) := by kernel_rfl
theorem ok49x0 : FnOk Try.prog 49 sh49x0 (A49x0 N) :=
  (h49x0s5 N).fn progOk (T110x0_ok N) fun L x hx => ((raw49x0 N L).trans ((bind49x0 N ..).trans (alt1 x hx)))
noncomputable def T49x0 : Oracle := ext 49 (spSh sh49x0 (A49x0 N)) (T110x0 N)
theorem T49x0_ok : OracleOk Try.prog (T49x0 N) := FnOk.to (ok49x0 N) (T110x0_ok N)
noncomputable def rg56x0 : List (Nat × List Nat) := [(0, [0]), (1, [0]), (2, [3, 0]), (4, [0, 3]), (5, [4, 3, 0]), (6, []), (3, [3, 0]), (7, [0])]
noncomputable def hd56x0 : Hints := [(6, [3, 0], [], [])]
noncomputable def h56x0s0 (N : Nat) : Sg Try.prog 0 56 := .start hd56x0 rg56x0
noncomputable def S56x0x6 (N : Nat) (w0 : LB) (w1 : Int) (kr : Int → Option R) (k0 : Unit → Option R) (k1 : Unit → Option R) : Option R :=
  bif (decide (w1 < (w0.length : Int))) then
    bif (inB w1 w0.length) then
      bnd (bif (decide (((w0.getD w1.toNat 0).toNat : Int) ≥ 97)) then (decide (((w0.getD w1.toNat 0).toNat : Int) ≤ 122)) else false) fun y0 =>
      bnd (bif y0 then true else (bif (decide (((w0.getD w1.toNat 0).toNat : Int) ≥ 65)) then (decide (((w0.getD w1.toNat 0).toNat : Int) ≤ 90)) else false)) fun y1 =>
      bnd (bif y1 then true else (bif (decide (((w0.getD w1.toNat 0).toNat : Int) ≥ 48)) then (decide (((w0.getD w1.toNat 0).toNat : Int) ≤ 57)) else false)) fun y2 =>
      bnd (bif y2 then true else (((w0.getD w1.toNat 0).toNat : Int) == 45)) fun y3 =>
      bnd (bif y3 then true else (((w0.getD w1.toNat 0).toNat : Int) == 95)) fun y4 =>
      bnd (bif y4 then true else (((w0.getD w1.toNat 0).toNat : Int) == 46)) fun y5 =>
      bif (!y5) then
        k0 ()
      else
        kr (IntKind.wrap .i64 (w1 + 1))
    else
      none
  else
    k1 ()
noncomputable def L56x0x6 (N : Nat) {R : Type} (w0 : LB) : Nat → Int → (Unit → Option R) → (Unit → Option R) → Option R
  | 0, _, _, _ => none
  | m + 1, w1, k0, k1 => S56x0x6 N w0 w1 (fun w1 => L56x0x6 N w0 m w1 k0 k1) k0 k1
noncomputable def G56x0x6 (w0 : LB) (w1 : Int) : Option (Sum (Unit) (Unit)) := L56x0x6 N (R := (Sum (Unit) (Unit))) w0 N w1 (fun p => some (.inl p)) (fun p => some (.inr p))
noncomputable def J56x0x6 (L x : List Lf) (kr : List Lf → Option R) (k0 : Unit → Option R) (k1 : Unit → Option R) : Option R := S56x0x6 N (ls L 0) (li x 0) (fun w1 => kr [.i w1]) k0 k1
theorem sb56x0x6 (L x : List Lf) (kr : List Lf → Option R) (k0 : Unit → Option R) (k1 : Unit → Option R) : J56x0x6 N L x kr k0 k1 = (J56x0x6 N L x (fun y => some (.inl y)) (fun p => some (.inr (.inl p))) (fun p => some (.inr (.inr p)))).bind (sumE kr (sumE k0 k1)) := by
  unfold J56x0x6 S56x0x6
  repeat' (first | with_reducible apply cond_b | (with_reducible apply bnd_b; intro _) | rfl)
noncomputable def Q56x0x6 (L : List Lf) (m : Nat) (x : List Lf) : Option (Sum (Unit) (Unit)) := L56x0x6 N (R := (Sum (Unit) (Unit))) (ls L 0) m (li x 0) (fun p => some (.inl p)) (fun p => some (.inr p))
noncomputable def sh56x0x6 : Sh := { tmps := [(0, .c (.s)), (3, .c (.i .i64))], mem := [] }
noncomputable def A56x0x6 (L : List Lf) : List (Bool × (Ex × St)) := bnd (Q56x0x6 N L N (pk sh56x0x6 [1] L)) fun q => [((inlB q), (.ret, ⟨[(2, .c (.b false))], []⟩)), ((inrQ q).isSome, ((.exit 0), ⟨[(0, .c (.s (ls L 0)))], []⟩))]
theorem step56x0x6 (m : Nat) (kn : St → Option (Ex × St)) (L x : List Lf) : lpB Try.prog (T49x0 N) (h56x0s0 N).h 0 56 6 sh56x0x6 [1] [2, 0] [] (m + 100) kn L x = J56x0x6 N L x (fun y => kn (ofSh sh56x0x6 (mx sh56x0x6 [1] L y))) (fun _ => some (.ret, ⟨[(2, .c (.b false))], []⟩)) (fun _ => some ((.exit 0), ⟨[(0, .c (.s (ls L 0)))], []⟩)) := by kernel_rfl
theorem ql56x0x6 (L : List Lf) (m : Nat) (x : List Lf) : Q56x0x6 N L (m + 1) x = J56x0x6 N L x (Q56x0x6 N L m) (fun p => some (.inl p)) (fun p => some (.inr p)) := by kernel_rfl
noncomputable def h56x0s1 : Sg Try.prog 0 56 :=
  (h56x0s0 N).lp (A56x0x6 N) N progOk (T49x0_ok N) (fun m kn L x => (step56x0x6 N m kn L x).trans (sb56x0x6 N L x _ _ _)) (fun L m x => (ql56x0x6 N L m x).trans (sb56x0x6 N L x (Q56x0x6 N L m) (fun p => some (.inl p)) (fun p => some (.inr p)))) fun L x hx => (altS alt1) x hx
noncomputable def F56x0 (v0 : LB) (k0 : Bool → Option R) : Option R :=
  bnd (G56x0x6 N v0 0) fun y0 =>
  bif (inlB y0) then
    k0 false
  else
    bif (inrQ y0).isSome then
      bnd (bif (decide ((v0.length : Int) ≥ 1)) then (decide ((v0.length : Int) ≤ 60)) else false) fun y1 =>
      k0 y1
    else
      none
noncomputable def G56x0 (v0 : LB) : Option (Bool) := F56x0 N v0 (fun p => some p)
theorem bind56x0 (v0 : LB) (k0 : Bool → Option R) : F56x0 N v0 k0 = (G56x0 N v0).bind k0 := by
  unfold G56x0 F56x0
  repeat' (first | with_reducible apply cond_b | (with_reducible apply bnd_b; intro _) | rfl)
noncomputable def sh56x0 : Sh := { tmps := [(0, .c (.s))], mem := [] }
noncomputable def A56x0 (L : List Lf) : List (Bool × Res) := bnd (F56x0 N (ls L 0) (fun p => some p)) fun q => [(q.isSome, ([.c (.b (q.getD default))], []))]
theorem raw56x0 (L : List Lf) : bd Try.prog (T49x0 N) (h56x0s1 N).h 56 sh56x0 L = F56x0 N (ls L 0) (fun p => some ([.c (.b p)], [])) := by kernel_rfl
theorem ok56x0 : FnOk Try.prog 56 sh56x0 (A56x0 N) :=
  (h56x0s1 N).fn progOk (T49x0_ok N) fun L x hx => ((raw56x0 N L).trans ((bind56x0 N ..).trans (alt1 x hx)))
noncomputable def T56x0 : Oracle := ext 56 (spSh sh56x0 (A56x0 N)) (T49x0 N)
theorem T56x0_ok : OracleOk Try.prog (T56x0 N) := FnOk.to (ok56x0 N) (T49x0_ok N)
noncomputable def rg57x0 : List (Nat × List Nat) := [(0, [0, 1, 2]), (1, [0, 1, 2])]
noncomputable def hd57x0 : Hints := []
noncomputable def h57x0s0 (N : Nat) : Sg Try.prog 0 57 := .start hd57x0 rg57x0
noncomputable def F57x0 (N : Nat) (v0 v1 v2 : Int) (k0 : Bool → R) : R :=
  k0 (bif (decide (v0 < v1)) then true else (decide (v0 > v2)))
noncomputable def V57x0 (v0 v1 v2 : Int) : Bool := F57x0 N v0 v1 v2 (fun p => p)
theorem tot57x0 (v0 v1 v2 : Int) (k0 : Bool → R) : F57x0 N v0 v1 v2 k0 = k0 (V57x0 N v0 v1 v2) := by
  unfold V57x0 F57x0
  repeat' (first | rfl | apply cond_k | (apply bnd_k; intro _))
noncomputable def sh57x0 : Sh := { tmps := [(0, .c (.i .i64)), (1, .c (.i .i64)), (2, .c (.i .i64))], mem := [] }
noncomputable def A57x0 (L : List Lf) : List (Bool × Res) := bnd (F57x0 N (li L 0) (li L 1) (li L 2) (fun p => p)) fun q => [(true, ([.c (.b q)], []))]
theorem raw57x0 (L : List Lf) : bd Try.prog (T56x0 N) (h57x0s0 N).h 57 sh57x0 L = F57x0 N (li L 0) (li L 1) (li L 2) (fun p => some ([.c (.b p)], [])) := by kernel_rfl
theorem ok57x0 : FnOk Try.prog 57 sh57x0 (A57x0 N) :=
  (h57x0s0 N).fn progOk (T56x0_ok N) fun L x hx => ((raw57x0 N L).trans ((tot57x0 N ..).trans (alt0 _ _ hx)))
noncomputable def T57x0 : Oracle := ext 57 (spSh sh57x0 (A57x0 N)) (T56x0 N)
theorem T57x0_ok : OracleOk Try.prog (T57x0 N) := FnOk.to (ok57x0 N) (T56x0_ok N)
noncomputable def rg58x0 : List (Nat × List Nat) := [(0, [0, 1]), (1, [2, 1]), (2, [1, 5, 2]), (3, []), (4, [5, 2]), (5, []), (6, [5]), (7, []), (8, [5]), (9, []), (10, [])]
noncomputable def hd58x0 : Hints := [(7, [1, 5, 2], [5, 2], []), (19, [5], [5], []), (25, [5], [5], [])]
noncomputable def h58x0s0 (N : Nat) : Sg Try.prog 0 58 := .start hd58x0 rg58x0
noncomputable def F58x0x7 (N : Nat) (w0 : Int) (w5 : LD) (w10 : Int) (k0 : Bool → Option R) : Option R :=
  bif (w0 == 0) then
    bif (w10 != 0) then
      k0 true
    else
      bif (decide (w0 > 0)) then
        bif (inB (IntKind.wrap .i64 (w0 - 1)) w5.length) then
          bnd ((w5.getD (IntKind.wrap .i64 (w0 - 1)).toNat (.i 0)).cell 0).toI fun y0 =>
          k0 (decide (w10 ≤ y0))
        else
          none
      else
        k0 false
  else
    bif (decide (w0 > 0)) then
      bif (inB (IntKind.wrap .i64 (w0 - 1)) w5.length) then
        bnd ((w5.getD (IntKind.wrap .i64 (w0 - 1)).toNat (.i 0)).cell 0).toI fun y0 =>
        k0 (decide (w10 ≤ y0))
      else
        none
    else
      k0 false
noncomputable def G58x0x7 (w0 : Int) (w5 : LD) (w10 : Int) : Option (Bool) := F58x0x7 N w0 w5 w10 (fun p => some p)
theorem bind58x0x7 (w0 : Int) (w5 : LD) (w10 : Int) (k0 : Bool → Option R) : F58x0x7 N w0 w5 w10 k0 = (G58x0x7 N w0 w5 w10).bind k0 := by
  unfold G58x0x7 F58x0x7
  repeat' (first | with_reducible apply cond_b | (with_reducible apply bnd_b; intro _) | rfl)
noncomputable def sh58x0x7 : Sh := { tmps := [(1, .c (.i .i64)), (2, .c (.p 2 0)), (5, .c (.p 5 0))], mem := [(2, .box (.s :: [.i .i64, .i .i64, .sl 78, .sl 82, .sl 9])), (5, .box (rI 7 ([])))] }
noncomputable def K58x0x7w0 (L : List Lf) (p : Bool) : Ex × St := (.normal, mg (ofSh sh58x0x7 L) [2, 5, 33] [(33, .c (.b p))] [2, 5] [])
noncomputable def A58x0x7 (L : List Lf) : List (Bool × (Ex × St)) := bnd (F58x0x7 N (li L 0) (ll L 5) (li L 10) (fun p => some p)) fun q => [(q.isSome, K58x0x7w0 L (q.getD default))]
theorem raw58x0x7 (L : List Lf) : pc Try.prog (T57x0 N) (h58x0s0 N).h 0 100 58 7 sh58x0x7 L [5, 2, 33] [5, 2] = F58x0x7 N (li L 0) (ll L 5) (li L 10) (fun p => some (K58x0x7w0 L p)) := by kernel_rfl
noncomputable def h58x0s1 : Sg Try.prog 0 58 :=
  (h58x0s0 N).cut (A58x0x7 N) progOk (T57x0_ok N) fun L x hx => (raw58x0x7 N L).trans ((bind58x0x7 N ..).trans (alt1 x hx))
noncomputable def F58x0x19 (w1 w2 w3 : Int) (k0 : Bool → R) : R :=
  bnd (V57x0 N w1 (-100000000) 100000000) fun y0 =>
  bif y0 then
    k0 true
  else
    bnd (V57x0 N w2 (-100000000) 100000000) fun y1 =>
    bif y1 then
      k0 true
    else
      bnd (V57x0 N w3 (-100000) 100000) fun y2 =>
      k0 y2
noncomputable def V58x0x19 (w1 w2 w3 : Int) : Bool := F58x0x19 N w1 w2 w3 (fun p => p)
theorem tot58x0x19 (w1 w2 w3 : Int) (k0 : Bool → R) : F58x0x19 N w1 w2 w3 k0 = k0 (V58x0x19 N w1 w2 w3) := by
  unfold V58x0x19 F58x0x19
  repeat' (first | rfl | apply cond_k | (apply bnd_k; intro _))
noncomputable def sh58x0x19 : Sh := { tmps := [(5, .c (.p 5 0))], mem := [(5, .box (rI 7 ([])))] }
noncomputable def K58x0x19w0 (L : List Lf) (p : Bool) : Ex × St := (.normal, mg (ofSh sh58x0x19 L) [5, 57] [(57, .c (.b p))] [5] [])
noncomputable def A58x0x19 (L : List Lf) : List (Bool × (Ex × St)) := bnd (F58x0x19 N (li L 1) (li L 2) (li L 3) (fun p => p)) fun q => [(true, K58x0x19w0 L q)]
theorem raw58x0x19 (L : List Lf) : pc Try.prog (T57x0 N) (h58x0s1 N).h 0 100 58 19 sh58x0x19 L [5, 57] [5] = F58x0x19 N (li L 1) (li L 2) (li L 3) (fun p => some (K58x0x19w0 L p)) := by kernel_rfl
noncomputable def h58x0s2 : Sg Try.prog 0 58 :=
  (h58x0s1 N).cut (A58x0x19 N) progOk (T57x0_ok N) fun L x hx => (raw58x0x19 N L).trans ((tot58x0x19 N ..).trans (alt0 _ _ hx))
noncomputable def F58x0x25 (w4 w5 w6 : Int) (k0 : Bool → R) : R :=
  bnd (V57x0 N w4 (-1) 300) fun y0 =>
  bif y0 then
    k0 true
  else
    bnd (V57x0 N w5 (-1) 3000) fun y1 =>
    bif y1 then
      k0 true
    else
      bnd (V57x0 N w6 (-1) 300) fun y2 =>
      k0 y2
noncomputable def V58x0x25 (w4 w5 w6 : Int) : Bool := F58x0x25 N w4 w5 w6 (fun p => p)
theorem tot58x0x25 (w4 w5 w6 : Int) (k0 : Bool → R) : F58x0x25 N w4 w5 w6 k0 = k0 (V58x0x25 N w4 w5 w6) := by
  unfold V58x0x25 F58x0x25
  repeat' (first | rfl | apply cond_k | (apply bnd_k; intro _))
noncomputable def sh58x0x25 : Sh := { tmps := [(5, .c (.p 5 0))], mem := [(5, .box (rI 7 ([])))] }
noncomputable def A58x0x25 (L : List Lf) : List (Bool × (Ex × St)) := bnd (F58x0x25 N (li L 4) (li L 5) (li L 6) (fun p => p)) fun q => [(true, (.normal, ⟨[(70, .c (.b q))], []⟩))]
theorem raw58x0x25 (L : List Lf) : pc Try.prog (T57x0 N) (h58x0s2 N).h 0 100 58 25 sh58x0x25 L [70] [] = F58x0x25 N (li L 4) (li L 5) (li L 6) (fun p => some (.normal, ⟨[(70, .c (.b p))], []⟩)) := by kernel_rfl
noncomputable def h58x0s3 : Sg Try.prog 0 58 :=
  (h58x0s2 N).cut (A58x0x25 N) progOk (T57x0_ok N) fun L x hx => (raw58x0x25 N L).trans ((tot58x0x25 N ..).trans (alt0 _ _ hx))
noncomputable def F58x0 (v2 : Int) (v4 : LD) (v9 : Int) (k0 : Int → Option R) : Option R :=
  bif (inB v9 v4.length) then
    bnd (G58x0x7 N v9 v4 ((v4.getD v9.toNat (.i 0)).cell 0).toI) fun y0 =>
    bif y0.isSome then
      bif (y0.getD default) then
        k0 10
      else
        bnd (bif (decide (((v4.getD v9.toNat (.i 0)).cell 0).toI > 1000000)) then true else (decide ((IntKind.wrap .i64 (v2 + ((v4.getD v9.toNat (.i 0)).cell 0).toI)) > 86399999999))) fun y1 =>
        bif y1 then
          k0 9
        else
          bnd (V58x0x19 N ((v4.getD v9.toNat (.i 0)).cell 1).toI ((v4.getD v9.toNat (.i 0)).cell 2).toI ((v4.getD v9.toNat (.i 0)).cell 3).toI) fun y2 =>
          bif y2 then
            k0 9
          else
            bnd (V58x0x25 N ((v4.getD v9.toNat (.i 0)).cell 4).toI ((v4.getD v9.toNat (.i 0)).cell 5).toI ((v4.getD v9.toNat (.i 0)).cell 6).toI) fun y3 =>
            bif y3 then
              k0 9
            else
              k0 0
    else
      none
  else
    none
noncomputable def G58x0 (v2 : Int) (v4 : LD) (v9 : Int) : Option (Int) := F58x0 N v2 v4 v9 (fun p => some p)
theorem bind58x0 (v2 : Int) (v4 : LD) (v9 : Int) (k0 : Int → Option R) : F58x0 N v2 v4 v9 k0 = (G58x0 N v2 v4 v9).bind k0 := by
  unfold G58x0 F58x0
  repeat' (first | with_reducible apply cond_b | (with_reducible apply bnd_b; intro _) | rfl)
noncomputable def sh58x0 : Sh := { tmps := [(0, .g (.s :: [.i .i64, .i .i64, .sl 78, .sl 82, .sl 9])), (1, .c (.i .i64))], mem := [] }
noncomputable def A58x0 (L : List Lf) : List (Bool × Res) := bnd (F58x0 N (li L 2) (ll L 4) (li L 9) (fun p => some p)) fun q => [(q.isSome, ([.c (.i .i64 (q.getD default))], []))]
theorem raw58x0 (L : List Lf) : bd Try.prog (T57x0 N) (h58x0s3 N).h 58 sh58x0 L = F58x0 N (li L 2) (ll L 4) (li L 9) (fun p => some ([.c (.i .i64 p)], [])) := by kernel_rfl
theorem ok58x0 : FnOk Try.prog 58 sh58x0 (A58x0 N) :=
  (h58x0s3 N).fn progOk (T57x0_ok N) fun L x hx => ((raw58x0 N L).trans ((bind58x0 N ..).trans (alt1 x hx)))
noncomputable def T58x0 : Oracle := ext 58 (spSh sh58x0 (A58x0 N)) (T57x0 N)
theorem T58x0_ok : OracleOk Try.prog (T58x0 N) := FnOk.to (ok58x0 N) (T57x0_ok N)
noncomputable def rg111x0 : List (Nat × List Nat) := [(0, [0]), (1, [1]), (2, []), (3, [1])]
noncomputable def hd111x0 : Hints := []
noncomputable def h111x0s0 (N : Nat) : Sg Try.prog 0 111 := .start hd111x0 rg111x0
noncomputable def F111x0 (N : Nat) (v4 : LD) (k0 : Int → Option R) : Option R :=
  bif ((v4.length : Int) == 0) then
    k0 0
  else
    bif (inB (IntKind.wrap .i64 ((v4.length : Int) - 1)) v4.length) then
      bnd ((v4.getD (IntKind.wrap .i64 ((v4.length : Int) - 1)).toNat (.i 0)) : D) fun y0 =>
      k0 (y0.cell 0).toI
    else
      none
noncomputable def G111x0 (v4 : LD) : Option (Int) := F111x0 N v4 (fun p => some p)
theorem bind111x0 (v4 : LD) (k0 : Int → Option R) : F111x0 N v4 k0 = (G111x0 N v4).bind k0 := by
  unfold G111x0 F111x0
  repeat' (first | with_reducible apply cond_b | (with_reducible apply bnd_b; intro _) | rfl)
noncomputable def sh111x0 : Sh := { tmps := [(0, .g (.s :: [.i .i64, .i .i64, .sl 78, .sl 82, .sl 9]))], mem := [] }
noncomputable def A111x0 (L : List Lf) : List (Bool × Res) := bnd (F111x0 N (ll L 4) (fun p => some p)) fun q => [(q.isSome, ([.c (.i .i64 (q.getD default))], []))]
theorem raw111x0 (L : List Lf) : bd Try.prog (T58x0 N) (h111x0s0 N).h 111 sh111x0 L = F111x0 N (ll L 4) (fun p => some ([.c (.i .i64 p)], [])) := by kernel_rfl
theorem ok111x0 : FnOk Try.prog 111 sh111x0 (A111x0 N) :=
  (h111x0s0 N).fn progOk (T58x0_ok N) fun L x hx => ((raw111x0 N L).trans ((bind111x0 N ..).trans (alt1 x hx)))
noncomputable def T111x0 : Oracle := ext 111 (spSh sh111x0 (A111x0 N)) (T58x0 N)
theorem T111x0_ok : OracleOk Try.prog (T111x0 N) := FnOk.to (ok111x0 N) (T58x0_ok N)
noncomputable def rg59x0 : List (Nat × List Nat) := [(0, [0, 1]), (1, [2, 1]), (2, [5, 2, 1]), (3, []), (4, [1, 5, 2]), (5, []), (6, [5]), (7, [6, 5]), (9, [5, 6]), (10, []), (8, [6, 5]), (11, [5]), (12, []), (13, [])]
noncomputable def hd59x0 : Hints := [(7, [5, 2, 1], [5, 2], []), (13, [1, 5, 2], [5, 2], []), (21, [6, 5], [5], [])]
noncomputable def h59x0s0 (N : Nat) : Sg Try.prog 0 59 := .start hd59x0 rg59x0
noncomputable def F59x0x7 (w5 : LD) (w10 w11 : Int) (k0 : Bool → Option R) : Option R :=
  bif (decide (w10 < 0)) then
    k0 true
  else
    bif (decide (w10 ≥ w11)) then
      k0 true
    else
      bnd (G111x0 N w5) fun y0 =>
      bif y0.isSome then
        k0 (decide (w11 > (y0.getD default)))
      else
        none
noncomputable def G59x0x7 (w5 : LD) (w10 w11 : Int) : Option (Bool) := F59x0x7 N w5 w10 w11 (fun p => some p)
theorem bind59x0x7 (w5 : LD) (w10 w11 : Int) (k0 : Bool → Option R) : F59x0x7 N w5 w10 w11 k0 = (G59x0x7 N w5 w10 w11).bind k0 := by
  unfold G59x0x7 F59x0x7
  repeat' (first | with_reducible apply cond_b | (with_reducible apply bnd_b; intro _) | rfl)
noncomputable def sh59x0x7 : Sh := { tmps := [(1, .c (.i .i64)), (2, .c (.p 2 0)), (5, .c (.p 5 0))], mem := [(2, .box (.s :: [.i .i64, .i .i64, .sl 78, .sl 82, .sl 9])), (5, .box ([.i .i64, .i .i64, .s]))] }
noncomputable def K59x0x7w0 (L : List Lf) (p : Bool) : Ex × St := (.normal, mg (ofSh sh59x0x7 L) [1, 2, 5, 28] [(28, .c (.b p))] [2, 5] [])
noncomputable def A59x0x7 (L : List Lf) : List (Bool × (Ex × St)) := bnd (F59x0x7 N (ll L 5) (li L 10) (li L 11) (fun p => some p)) fun q => [(q.isSome, K59x0x7w0 L (q.getD default))]
theorem raw59x0x7 (L : List Lf) : pc Try.prog (T111x0 N) (h59x0s0 N).h 0 100 59 7 sh59x0x7 L [1, 5, 2, 28] [5, 2] = F59x0x7 N (ll L 5) (li L 10) (li L 11) (fun p => some (K59x0x7w0 L p)) := by kernel_rfl
noncomputable def h59x0s1 : Sg Try.prog 0 59 :=
  (h59x0s0 N).cut (A59x0x7 N) progOk (T111x0_ok N) fun L x hx => (raw59x0x7 N L).trans ((bind59x0x7 N ..).trans (alt1 x hx))
noncomputable def F59x0x13 (N : Nat) (w0 : Int) (w7 : LD) (w10 : Int) (k0 : Bool → Option R) : Option R :=
  bif (decide (w0 > 0)) then
    bif (inB (IntKind.wrap .i64 (w0 - 1)) w7.length) then
      bnd ((w7.getD (IntKind.wrap .i64 (w0 - 1)).toNat (.i 0)).cell 1).toI fun y0 =>
      k0 (decide (w10 < y0))
    else
      none
  else
    k0 false
noncomputable def G59x0x13 (w0 : Int) (w7 : LD) (w10 : Int) : Option (Bool) := F59x0x13 N w0 w7 w10 (fun p => some p)
theorem bind59x0x13 (w0 : Int) (w7 : LD) (w10 : Int) (k0 : Bool → Option R) : F59x0x13 N w0 w7 w10 k0 = (G59x0x13 N w0 w7 w10).bind k0 := by
  unfold G59x0x13 F59x0x13
  repeat' (first | with_reducible apply cond_b | (with_reducible apply bnd_b; intro _) | rfl)
noncomputable def sh59x0x13 : Sh := { tmps := [(1, .c (.i .i64)), (2, .c (.p 2 0)), (5, .c (.p 5 0))], mem := [(2, .box (.s :: [.i .i64, .i .i64, .sl 78, .sl 82, .sl 9])), (5, .box ([.i .i64, .i .i64, .s]))] }
noncomputable def K59x0x13w0 (L : List Lf) (p : Bool) : Ex × St := (.normal, mg (ofSh sh59x0x13 L) [5, 42] [(42, .c (.b p))] [5] [])
noncomputable def A59x0x13 (L : List Lf) : List (Bool × (Ex × St)) := bnd (F59x0x13 N (li L 0) (ll L 7) (li L 10) (fun p => some p)) fun q => [(q.isSome, K59x0x13w0 L (q.getD default))]
theorem raw59x0x13 (L : List Lf) : pc Try.prog (T111x0 N) (h59x0s1 N).h 0 100 59 13 sh59x0x13 L [5, 42] [5] = F59x0x13 N (li L 0) (ll L 7) (li L 10) (fun p => some (K59x0x13w0 L p)) := by kernel_rfl
noncomputable def h59x0s2 : Sg Try.prog 0 59 :=
  (h59x0s1 N).cut (A59x0x13 N) progOk (T111x0_ok N) fun L x hx => (raw59x0x13 N L).trans ((bind59x0x13 N ..).trans (alt1 x hx))
noncomputable def S59x0x21 (w3 : LB) (w0 : Int) (kr : Int → Option R) (k0 : Unit → Option R) (k1 : Unit → Option R) : Option R :=
  bif (decide (w0 < (w3.length : Int))) then
    bif (inB w0 w3.length) then
      bnd (V57x0 N (IntKind.wrap .i64 ((w3.getD w0.toNat 0).toNat : Int)) 32 126) fun y0 =>
      bif y0 then
        k0 ()
      else
        kr (IntKind.wrap .i64 (w0 + 1))
    else
      none
  else
    k1 ()
noncomputable def L59x0x21 (N : Nat) {R : Type} (w3 : LB) : Nat → Int → (Unit → Option R) → (Unit → Option R) → Option R
  | 0, _, _, _ => none
  | m + 1, w0, k0, k1 => S59x0x21 N w3 w0 (fun w0 => L59x0x21 N w3 m w0 k0 k1) k0 k1
noncomputable def G59x0x21 (w3 : LB) (w0 : Int) : Option (Sum (Unit) (Unit)) := L59x0x21 N (R := (Sum (Unit) (Unit))) w3 N w0 (fun p => some (.inl p)) (fun p => some (.inr p))
noncomputable def J59x0x21 (L x : List Lf) (kr : List Lf → Option R) (k0 : Unit → Option R) (k1 : Unit → Option R) : Option R := S59x0x21 N (ls L 3) (li x 0) (fun w0 => kr [.i w0]) k0 k1
theorem sb59x0x21 (L x : List Lf) (kr : List Lf → Option R) (k0 : Unit → Option R) (k1 : Unit → Option R) : J59x0x21 N L x kr k0 k1 = (J59x0x21 N L x (fun y => some (.inl y)) (fun p => some (.inr (.inl p))) (fun p => some (.inr (.inr p)))).bind (sumE kr (sumE k0 k1)) := by
  unfold J59x0x21 S59x0x21
  repeat' (first | with_reducible apply cond_b | (with_reducible apply bnd_b; intro _) | rfl)
noncomputable def Q59x0x21 (L : List Lf) (m : Nat) (x : List Lf) : Option (Sum (Unit) (Unit)) := L59x0x21 N (R := (Sum (Unit) (Unit))) (ls L 3) m (li x 0) (fun p => some (.inl p)) (fun p => some (.inr p))
noncomputable def sh59x0x21 : Sh := { tmps := [(5, .c (.p 5 0)), (6, .c (.i .i64))], mem := [(5, .box ([.i .i64, .i .i64, .s]))] }
noncomputable def K59x0x21w0 (L : List Lf) (_ : Unit) : Ex × St := (.ret, mg (ofSh sh59x0x21 L) [4] [(4, .c (.i .i64 8))] [5] [])
noncomputable def A59x0x21 (L : List Lf) : List (Bool × (Ex × St)) := bnd (Q59x0x21 N L N (pk sh59x0x21 [0] L)) fun q => [((inlB q), K59x0x21w0 L ()), ((inrQ q).isSome, ((.exit 0), mg (ofSh sh59x0x21 L) [5] [] [5] []))]
theorem step59x0x21 (m : Nat) (kn : St → Option (Ex × St)) (L x : List Lf) : lpB Try.prog (T111x0 N) (h59x0s2 N).h 0 59 21 sh59x0x21 [0] [4, 5] [5] (m + 100) kn L x = J59x0x21 N L x (fun y => kn (ofSh sh59x0x21 (mx sh59x0x21 [0] L y))) (fun _ => some (K59x0x21w0 L ())) (fun _ => some ((.exit 0), mg (ofSh sh59x0x21 L) [5] [] [5] [])) := by kernel_rfl
theorem ql59x0x21 (L : List Lf) (m : Nat) (x : List Lf) : Q59x0x21 N L (m + 1) x = J59x0x21 N L x (Q59x0x21 N L m) (fun p => some (.inl p)) (fun p => some (.inr p)) := by kernel_rfl
noncomputable def h59x0s3 : Sg Try.prog 0 59 :=
  (h59x0s2 N).lp (A59x0x21 N) N progOk (T111x0_ok N) (fun m kn L x => (step59x0x21 N m kn L x).trans (sb59x0x21 N L x _ _ _)) (fun L m x => (ql59x0x21 N L m x).trans (sb59x0x21 N L x (Q59x0x21 N L m) (fun p => some (.inl p)) (fun p => some (.inr p)))) fun L x hx => (altS alt1) x hx
noncomputable def F59x0 (v4 v6 : LD) (v9 : Int) (k0 : Int → Option R) : Option R :=
  bif (inB v9 v6.length) then
    bnd (G59x0x7 N v4 ((v6.getD v9.toNat (.i 0)).cell 0).toI ((v6.getD v9.toNat (.i 0)).cell 1).toI) fun y0 =>
    bif y0.isSome then
      bif (y0.getD default) then
        k0 9
      else
        bnd (G59x0x13 N v9 v6 ((v6.getD v9.toNat (.i 0)).cell 0).toI) fun y1 =>
        bif y1.isSome then
          bif (y1.getD default) then
            k0 10
          else
            bnd (G59x0x21 N ((v6.getD v9.toNat (.i 0)).cell 2).toS 0) fun y2 =>
            bif (inlB y2) then
              k0 8
            else
              bif (inrQ y2).isSome then
                bnd (decide ((((v6.getD v9.toNat (.i 0)).cell 2).toS.length : Int) > 60)) fun y3 =>
                bif y3 then
                  k0 8
                else
                  k0 0
              else
                none
        else
          none
    else
      none
  else
    none
noncomputable def G59x0 (v4 v6 : LD) (v9 : Int) : Option (Int) := F59x0 N v4 v6 v9 (fun p => some p)
theorem bind59x0 (v4 v6 : LD) (v9 : Int) (k0 : Int → Option R) : F59x0 N v4 v6 v9 k0 = (G59x0 N v4 v6 v9).bind k0 := by
  unfold G59x0 F59x0
  repeat' (first | with_reducible apply cond_b | (with_reducible apply bnd_b; intro _) | rfl)
noncomputable def sh59x0 : Sh := { tmps := [(0, .g (.s :: [.i .i64, .i .i64, .sl 78, .sl 82, .sl 9])), (1, .c (.i .i64))], mem := [] }
noncomputable def A59x0 (L : List Lf) : List (Bool × Res) := bnd (F59x0 N (ll L 4) (ll L 6) (li L 9) (fun p => some p)) fun q => [(q.isSome, ([.c (.i .i64 (q.getD default))], []))]
theorem raw59x0 (L : List Lf) : bd Try.prog (T111x0 N) (h59x0s3 N).h 59 sh59x0 L = F59x0 N (ll L 4) (ll L 6) (li L 9) (fun p => some ([.c (.i .i64 p)], [])) := by kernel_rfl
theorem ok59x0 : FnOk Try.prog 59 sh59x0 (A59x0 N) :=
  (h59x0s3 N).fn progOk (T111x0_ok N) fun L x hx => ((raw59x0 N L).trans ((bind59x0 N ..).trans (alt1 x hx)))
noncomputable def T59x0 : Oracle := ext 59 (spSh sh59x0 (A59x0 N)) (T111x0 N)
theorem T59x0_ok : OracleOk Try.prog (T59x0 N) := FnOk.to (ok59x0 N) (T111x0_ok N)
noncomputable def rg14x0 : List (Nat × List Nat) := [(0, [0]), (1, [1]), (3, [1]), (5, [1]), (7, [1]), (8, []), (6, []), (4, []), (2, []), (9, [1]), (10, [42, 41, 1]), (11, [42, 1, 41]), (12, [1, 3, 42, 41]), (13, [4, 42, 41, 1]), (14, [4]), (15, [42, 41, 1]), (16, [1]), (17, [55, 54, 1]), (18, [55, 1, 54]), (19, [1, 5, 55, 54]), (20, [6, 55, 54, 1]), (21, [6]), (22, [55, 54, 1]), (23, [1]), (24, [68, 67, 66, 1]), (25, [68, 66, 1, 67]), (26, [8, 7, 1, 68, 67, 66]), (27, []), (28, [7, 8, 1, 68, 67, 66]), (29, []), (30, [68, 67, 66, 1]), (31, [])]
noncomputable def hd14x0 : Hints := [(30, [42, 41, 1], [1], []), (51, [55, 54, 1], [1], []), (72, [68, 67, 66, 1], [1], [])]
noncomputable def h14x0s0 (N : Nat) : Sg Try.prog 0 14 := .start hd14x0 rg14x0
noncomputable def S14x0x30 (w0 w4 : Int) (w6 : LD) (w1 : Int) (kr : Int → Option R) (k0 : Int → Option R) (k1 : Unit → Option R) : Option R :=
  bif (decide (w1 < w0)) then
    bnd (G58x0 N w4 w6 w1) fun y0 =>
    bif y0.isSome then
      bif ((y0.getD default) != 0) then
        k0 (y0.getD default)
      else
        kr (IntKind.wrap .i64 (w1 + 1))
    else
      none
  else
    k1 ()
noncomputable def L14x0x30 (N : Nat) {R : Type} (w0 w4 : Int) (w6 : LD) : Nat → Int → (Int → Option R) → (Unit → Option R) → Option R
  | 0, _, _, _ => none
  | m + 1, w1, k0, k1 => S14x0x30 N w0 w4 w6 w1 (fun w1 => L14x0x30 N w0 w4 w6 m w1 k0 k1) k0 k1
noncomputable def G14x0x30 (w0 w4 : Int) (w6 : LD) (w1 : Int) : Option (Sum (Int) (Unit)) := L14x0x30 N (R := (Sum (Int) (Unit))) w0 w4 w6 N w1 (fun p => some (.inl p)) (fun p => some (.inr p))
noncomputable def J14x0x30 (L x : List Lf) (kr : List Lf → Option R) (k0 : Int → Option R) (k1 : Unit → Option R) : Option R := S14x0x30 N (li L 0) (li L 4) (ll L 6) (li x 0) (fun w1 => kr [.i w1]) k0 k1
theorem sb14x0x30 (L x : List Lf) (kr : List Lf → Option R) (k0 : Int → Option R) (k1 : Unit → Option R) : J14x0x30 N L x kr k0 k1 = (J14x0x30 N L x (fun y => some (.inl y)) (fun p => some (.inr (.inl p))) (fun p => some (.inr (.inr p)))).bind (sumE kr (sumE k0 k1)) := by
  unfold J14x0x30 S14x0x30
  repeat' (first | with_reducible apply cond_b | (with_reducible apply bnd_b; intro _) | rfl)
noncomputable def Q14x0x30 (L : List Lf) (m : Nat) (x : List Lf) : Option (Sum (Int) (Unit)) := L14x0x30 N (R := (Sum (Int) (Unit))) (li L 0) (li L 4) (ll L 6) m (li x 0) (fun p => some (.inl p)) (fun p => some (.inr p))
noncomputable def sh14x0x30 : Sh := { tmps := [(1, .c (.p 1 0)), (41, .c (.i .i64)), (42, .c (.i .i64))], mem := [(1, .box (.s :: [.i .i64, .i .i64, .sl 78, .sl 82, .sl 9]))] }
noncomputable def K14x0x30w0 (L : List Lf) (p : Int) : Ex × St := (.ret, mg (ofSh sh14x0x30 L) [2] [(2, .c (.i .i64 p))] [1] [])
noncomputable def A14x0x30 (L : List Lf) : List (Bool × (Ex × St)) := bnd (Q14x0x30 N L N (pk sh14x0x30 [1] L)) fun q => [((inlB q), K14x0x30w0 L (inlV q)), ((inrQ q).isSome, ((.exit 1), mg (ofSh sh14x0x30 L) [1] [] [1] []))]
theorem step14x0x30 (m : Nat) (kn : St → Option (Ex × St)) (L x : List Lf) : lpB Try.prog (T59x0 N) (h14x0s0 N).h 0 14 30 sh14x0x30 [1] [2, 1] [1] (m + 100) kn L x = J14x0x30 N L x (fun y => kn (ofSh sh14x0x30 (mx sh14x0x30 [1] L y))) (fun p => some (K14x0x30w0 L p)) (fun _ => some ((.exit 1), mg (ofSh sh14x0x30 L) [1] [] [1] [])) := by kernel_rfl
theorem ql14x0x30 (L : List Lf) (m : Nat) (x : List Lf) : Q14x0x30 N L (m + 1) x = J14x0x30 N L x (Q14x0x30 N L m) (fun p => some (.inl p)) (fun p => some (.inr p)) := by kernel_rfl
noncomputable def h14x0s1 : Sg Try.prog 0 14 :=
  (h14x0s0 N).lp (A14x0x30 N) N progOk (T59x0_ok N) (fun m kn L x => (step14x0x30 N m kn L x).trans (sb14x0x30 N L x _ _ _)) (fun L m x => (ql14x0x30 N L m x).trans (sb14x0x30 N L x (Q14x0x30 N L m) (fun p => some (.inl p)) (fun p => some (.inr p)))) fun L x hx => (altS alt1) x hx
noncomputable def S14x0x51 (w0 : Int) (w6 w8 : LD) (w1 : Int) (kr : Int → Option R) (k0 : Int → Option R) (k1 : Unit → Option R) : Option R :=
  bif (decide (w1 < w0)) then
    bnd (G59x0 N w6 w8 w1) fun y0 =>
    bif y0.isSome then
      bif ((y0.getD default) != 0) then
        k0 (y0.getD default)
      else
        kr (IntKind.wrap .i64 (w1 + 1))
    else
      none
  else
    k1 ()
noncomputable def L14x0x51 (N : Nat) {R : Type} (w0 : Int) (w6 w8 : LD) : Nat → Int → (Int → Option R) → (Unit → Option R) → Option R
  | 0, _, _, _ => none
  | m + 1, w1, k0, k1 => S14x0x51 N w0 w6 w8 w1 (fun w1 => L14x0x51 N w0 w6 w8 m w1 k0 k1) k0 k1
noncomputable def G14x0x51 (w0 : Int) (w6 w8 : LD) (w1 : Int) : Option (Sum (Int) (Unit)) := L14x0x51 N (R := (Sum (Int) (Unit))) w0 w6 w8 N w1 (fun p => some (.inl p)) (fun p => some (.inr p))
noncomputable def J14x0x51 (L x : List Lf) (kr : List Lf → Option R) (k0 : Int → Option R) (k1 : Unit → Option R) : Option R := S14x0x51 N (li L 0) (ll L 6) (ll L 8) (li x 0) (fun w1 => kr [.i w1]) k0 k1
theorem sb14x0x51 (L x : List Lf) (kr : List Lf → Option R) (k0 : Int → Option R) (k1 : Unit → Option R) : J14x0x51 N L x kr k0 k1 = (J14x0x51 N L x (fun y => some (.inl y)) (fun p => some (.inr (.inl p))) (fun p => some (.inr (.inr p)))).bind (sumE kr (sumE k0 k1)) := by
  unfold J14x0x51 S14x0x51
  repeat' (first | with_reducible apply cond_b | (with_reducible apply bnd_b; intro _) | rfl)
noncomputable def Q14x0x51 (L : List Lf) (m : Nat) (x : List Lf) : Option (Sum (Int) (Unit)) := L14x0x51 N (R := (Sum (Int) (Unit))) (li L 0) (ll L 6) (ll L 8) m (li x 0) (fun p => some (.inl p)) (fun p => some (.inr p))
noncomputable def sh14x0x51 : Sh := { tmps := [(1, .c (.p 1 0)), (54, .c (.i .i64)), (55, .c (.i .i64))], mem := [(1, .box (.s :: [.i .i64, .i .i64, .sl 78, .sl 82, .sl 9]))] }
noncomputable def K14x0x51w0 (L : List Lf) (p : Int) : Ex × St := (.ret, mg (ofSh sh14x0x51 L) [2] [(2, .c (.i .i64 p))] [1] [])
noncomputable def A14x0x51 (L : List Lf) : List (Bool × (Ex × St)) := bnd (Q14x0x51 N L N (pk sh14x0x51 [1] L)) fun q => [((inlB q), K14x0x51w0 L (inlV q)), ((inrQ q).isSome, ((.exit 3), mg (ofSh sh14x0x51 L) [1] [] [1] []))]
theorem step14x0x51 (m : Nat) (kn : St → Option (Ex × St)) (L x : List Lf) : lpB Try.prog (T59x0 N) (h14x0s1 N).h 0 14 51 sh14x0x51 [1] [2, 1] [1] (m + 100) kn L x = J14x0x51 N L x (fun y => kn (ofSh sh14x0x51 (mx sh14x0x51 [1] L y))) (fun p => some (K14x0x51w0 L p)) (fun _ => some ((.exit 3), mg (ofSh sh14x0x51 L) [1] [] [1] [])) := by kernel_rfl
theorem ql14x0x51 (L : List Lf) (m : Nat) (x : List Lf) : Q14x0x51 N L (m + 1) x = J14x0x51 N L x (Q14x0x51 N L m) (fun p => some (.inl p)) (fun p => some (.inr p)) := by kernel_rfl
noncomputable def h14x0s2 : Sg Try.prog 0 14 :=
  (h14x0s1 N).lp (A14x0x51 N) N progOk (T59x0_ok N) (fun m kn L x => (step14x0x51 N m kn L x).trans (sb14x0x51 N L x _ _ _)) (fun L m x => (ql14x0x51 N L m x).trans (sb14x0x51 N L x (Q14x0x51 N L m) (fun p => some (.inl p)) (fun p => some (.inr p)))) fun L x hx => (altS alt1) x hx
noncomputable def S14x0x72 (w1 : LD) (w2 : Int) (w12 : LD) (w3 : Int) (kr : Int → Option R) (k0 : Int → Option R) (k1 : Unit → Option R) : Option R :=
  bif (decide (w3 < w2)) then
    bif (inB w3 w1.length) then
      bnd (G56x0 N (w1.getD w3.toNat (.i 0)).toS) fun y0 =>
      bif y0.isSome then
        bif (!(y0.getD default)) then
          k0 8
        else
          bif (bif (inB (IntKind.wrap .i64 (w3 - 1)) w12.length) then true else (!((decide (w3 > 0)) == true))) then
            bnd (bif (decide (w3 > 0)) then ((Op.bytesLess (w1.getD w3.toNat (.i 0)).toS (w12.getD (IntKind.wrap .i64 (w3 - 1)).toNat (.i 0)).toS) || ((w1.getD w3.toNat (.i 0)).toS == (w12.getD (IntKind.wrap .i64 (w3 - 1)).toNat (.i 0)).toS)) else false) fun y1 =>
            bif y1 then
              k0 10
            else
              kr (IntKind.wrap .i64 (w3 + 1))
          else
            none
      else
        none
    else
      none
  else
    k1 ()
noncomputable def L14x0x72 (N : Nat) {R : Type} (w1 : LD) (w2 : Int) (w12 : LD) : Nat → Int → (Int → Option R) → (Unit → Option R) → Option R
  | 0, _, _, _ => none
  | m + 1, w3, k0, k1 => S14x0x72 N w1 w2 w12 w3 (fun w3 => L14x0x72 N w1 w2 w12 m w3 k0 k1) k0 k1
noncomputable def G14x0x72 (w1 : LD) (w2 : Int) (w12 : LD) (w3 : Int) : Option (Sum (Int) (Unit)) := L14x0x72 N (R := (Sum (Int) (Unit))) w1 w2 w12 N w3 (fun p => some (.inl p)) (fun p => some (.inr p))
noncomputable def J14x0x72 (L x : List Lf) (kr : List Lf → Option R) (k0 : Int → Option R) (k1 : Unit → Option R) : Option R := S14x0x72 N (ll L 1) (li L 2) (ll L 12) (li x 0) (fun w3 => kr [.i w3]) k0 k1
theorem sb14x0x72 (L x : List Lf) (kr : List Lf → Option R) (k0 : Int → Option R) (k1 : Unit → Option R) : J14x0x72 N L x kr k0 k1 = (J14x0x72 N L x (fun y => some (.inl y)) (fun p => some (.inr (.inl p))) (fun p => some (.inr (.inr p)))).bind (sumE kr (sumE k0 k1)) := by
  unfold J14x0x72 S14x0x72
  repeat' (first | with_reducible apply cond_b | (with_reducible apply bnd_b; intro _) | rfl)
noncomputable def Q14x0x72 (L : List Lf) (m : Nat) (x : List Lf) : Option (Sum (Int) (Unit)) := L14x0x72 N (R := (Sum (Int) (Unit))) (ll L 1) (li L 2) (ll L 12) m (li x 0) (fun p => some (.inl p)) (fun p => some (.inr p))
noncomputable def sh14x0x72 : Sh := { tmps := [(1, .c (.p 1 0)), (66, .c (.sl 9)), (67, .c (.i .i64)), (68, .c (.i .i64))], mem := [(1, .box (.s :: [.i .i64, .i .i64, .sl 78, .sl 82, .sl 9]))] }
noncomputable def A14x0x72 (L : List Lf) : List (Bool × (Ex × St)) := bnd (Q14x0x72 N L N (pk sh14x0x72 [3] L)) fun q => [((inlB q), (.ret, ⟨[(2, .c (.i .i64 (inlV q)))], []⟩)), ((inrQ q).isSome, ((.exit 5), ⟨[], []⟩))]
theorem step14x0x72 (m : Nat) (kn : St → Option (Ex × St)) (L x : List Lf) : lpB Try.prog (T59x0 N) (h14x0s2 N).h 0 14 72 sh14x0x72 [3] [2] [] (m + 100) kn L x = J14x0x72 N L x (fun y => kn (ofSh sh14x0x72 (mx sh14x0x72 [3] L y))) (fun p => some (.ret, ⟨[(2, .c (.i .i64 p))], []⟩)) (fun _ => some ((.exit 5), ⟨[], []⟩)) := by kernel_rfl
theorem ql14x0x72 (L : List Lf) (m : Nat) (x : List Lf) : Q14x0x72 N L (m + 1) x = J14x0x72 N L x (Q14x0x72 N L m) (fun p => some (.inl p)) (fun p => some (.inr p)) := by kernel_rfl
noncomputable def h14x0s3 : Sg Try.prog 0 14 :=
  (h14x0s2 N).lp (A14x0x72 N) N progOk (T59x0_ok N) (fun m kn L x => (step14x0x72 N m kn L x).trans (sb14x0x72 N L x _ _ _)) (fun L m x => (ql14x0x72 N L m x).trans (sb14x0x72 N L x (Q14x0x72 N L m) (fun p => some (.inl p)) (fun p => some (.inr p)))) fun L x hx => (altS alt1) x hx
noncomputable def F14x0 (v0 : LB) (v1 v2 : Int) (v4 v6 v8 : LD) (k0 : Int → Option R) : Option R :=
  bnd (G56x0 N v0) fun y0 =>
  bif y0.isSome then
    bif (!(y0.getD default)) then
      k0 8
    else
      bnd (V57x0 N v1 1 5) fun y1 =>
      bif y1 then
        k0 7
      else
        bnd (V57x0 N v2 0 86399999999) fun y2 =>
        bif y2 then
          k0 9
        else
          bnd (bif (decide ((v4.length : Int) > 20000)) then true else (decide ((v6.length : Int) > 200))) fun y3 =>
          bnd (bif y3 then true else (decide ((v8.length : Int) > 20))) fun y4 =>
          bif y4 then
            k0 3
          else
            bnd (G14x0x30 N (v4.length : Int) v2 v4 0) fun y5 =>
            bif (inlB y5) then
              k0 (inlV y5)
            else
              bif (inrQ y5).isSome then
                bnd (G14x0x51 N (v6.length : Int) v4 v6 0) fun y6 =>
                bif (inlB y6) then
                  k0 (inlV y6)
                else
                  bif (inrQ y6).isSome then
                    bnd (G14x0x72 N v8 (v8.length : Int) v8 0) fun y7 =>
                    bif (inlB y7) then
                      k0 (inlV y7)
                    else
                      bif (inrQ y7).isSome then
                        k0 0
                      else
                        none
                  else
                    none
              else
                none
  else
    none
noncomputable def G14x0 (v0 : LB) (v1 v2 : Int) (v4 v6 v8 : LD) : Option (Int) := F14x0 N v0 v1 v2 v4 v6 v8 (fun p => some p)
theorem bind14x0 (v0 : LB) (v1 v2 : Int) (v4 v6 v8 : LD) (k0 : Int → Option R) : F14x0 N v0 v1 v2 v4 v6 v8 k0 = (G14x0 N v0 v1 v2 v4 v6 v8).bind k0 := by
  unfold G14x0 F14x0
  repeat' (first | with_reducible apply cond_b | (with_reducible apply bnd_b; intro _) | rfl)
noncomputable def J14x0 (L : List Lf) (k0 : Int → Option R) : Option R := F14x0 N (ls L 0) (li L 1) (li L 2) (ll L 4) (ll L 6) (ll L 8) k0
noncomputable def sh14x0 : Sh := { tmps := [(0, .g (.s :: [.i .i64, .i .i64, .sl 78, .sl 82, .sl 9]))], mem := [] }
noncomputable def A14x0 (L : List Lf) : List (Bool × Res) := bnd (J14x0 N L (fun p => some p)) fun q => [(q.isSome, ([.c (.i .i64 (q.getD default))], []))]
theorem raw14x0 (L : List Lf) : bd Try.prog (T59x0 N) (h14x0s3 N).h 14 sh14x0 L = J14x0 N L (fun p => some ([.c (.i .i64 p)], [])) := by kernel_rfl
theorem ok14x0 : FnOk Try.prog 14 sh14x0 (A14x0 N) :=
  (h14x0s3 N).fn progOk (T59x0_ok N) fun L x hx => ((raw14x0 N L).trans ((bind14x0 N ..).trans (alt1 x hx)))
noncomputable def T14x0 : Oracle := ext 14 (spSh sh14x0 (A14x0 N)) (T59x0 N)
theorem T14x0_ok : OracleOk Try.prog (T14x0 N) := FnOk.to (ok14x0 N) (T59x0_ok N)
noncomputable def rg113x0 : List (Nat × List Nat) := [(0, [0, 1]), (1, [0, 1, 4])]
noncomputable def hd113x0 : Hints := []
noncomputable def h113x0s0 (N : Nat) : Sg Try.prog 0 113 := .start hd113x0 rg113x0
noncomputable def F113x0 (N : Nat) (k0 : Unit → R) : R :=
  k0 ()
noncomputable def V113x0 : Unit := F113x0 N (fun p => p)
theorem tot113x0 (k0 : Unit → R) : F113x0 N k0 = k0 (V113x0 N) := by
  unfold V113x0 F113x0
  repeat' (first | rfl | apply cond_k | (apply bnd_k; intro _))
noncomputable def sh113x0 : Sh := { tmps := [(0, .c (.i .i64)), (1, .c (.i .i64))], mem := [] }
noncomputable def A113x0 (N : Nat) (L : List Lf) : List (Bool × Res) := [(true, ([.g [.i .i64 (li L 0), .i .i64 (li L 1), .i .i64 0]], []))]
theorem raw113x0 (L : List Lf) : bd Try.prog (T14x0 N) (h113x0s0 N).h 113 sh113x0 L = F113x0 N (fun _ => some ([.g [.i .i64 (li L 0), .i .i64 (li L 1), .i .i64 0]], [])) := by kernel_rfl
theorem ok113x0 : FnOk Try.prog 113 sh113x0 (A113x0 N) :=
  (h113x0s0 N).fn progOk (T14x0_ok N) fun L x hx => ((raw113x0 N L).trans ((tot113x0 N ..).trans (alt0 _ _ hx)))
noncomputable def T113x0 : Oracle := ext 113 (spSh sh113x0 (A113x0 N)) (T14x0 N)
theorem T113x0_ok : OracleOk Try.prog (T113x0 N) := FnOk.to (ok113x0 N) (T14x0_ok N)
noncomputable def rg114x0 : List (Nat × List Nat) := [(0, [0]), (1, [0, 2])]
noncomputable def hd114x0 : Hints := []
noncomputable def h114x0s0 (N : Nat) : Sg Try.prog 0 114 := .start hd114x0 rg114x0
noncomputable def F114x0 (N : Nat) (k0 : Unit → R) : R :=
  k0 ()
noncomputable def V114x0 : Unit := F114x0 N (fun p => p)
theorem tot114x0 (k0 : Unit → R) : F114x0 N k0 = k0 (V114x0 N) := by
  unfold V114x0 F114x0
  repeat' (first | rfl | apply cond_k | (apply bnd_k; intro _))
noncomputable def sh114x0 : Sh := { tmps := [(0, .c (.i .i64))], mem := [] }
noncomputable def A114x0 (N : Nat) (L : List Lf) : List (Bool × Res) := [(true, ([.g [.i .i64 (li L 0), .i .i64 60, .i .i64 2]], []))]
theorem raw114x0 (L : List Lf) : bd Try.prog (T113x0 N) (h114x0s0 N).h 114 sh114x0 L = F114x0 N (fun _ => some ([.g [.i .i64 (li L 0), .i .i64 60, .i .i64 2]], [])) := by kernel_rfl
theorem ok114x0 : FnOk Try.prog 114 sh114x0 (A114x0 N) :=
  (h114x0s0 N).fn progOk (T113x0_ok N) fun L x hx => ((raw114x0 N L).trans ((tot114x0 N ..).trans (alt0 _ _ hx)))
noncomputable def T114x0 : Oracle := ext 114 (spSh sh114x0 (A114x0 N)) (T113x0 N)
theorem T114x0_ok : OracleOk Try.prog (T114x0 N) := FnOk.to (ok114x0 N) (T113x0_ok N)
noncomputable def rg112x0 : List (Nat × List Nat) := [(0, [0, 1, 2, 3])]
noncomputable def hd112x0 : Hints := []
noncomputable def h112x0s0 (N : Nat) : Sg Try.prog 1 112 := .start hd112x0 rg112x0
noncomputable def F112x0 (N : Nat) (v0 v1 : Int) (v2 : Bool) (v3 : LD) (v6 : Bool) (k0 : LD → R) : R :=
  k0 [(.a [(.i 1), (.i v0), (.i 0), (.l false [(.a [(.b v6), (.i v1), (.l v2 v3)])]), (.l true [])])]
noncomputable def V112x0 (v0 v1 : Int) (v2 : Bool) (v3 : LD) (v6 : Bool) : LD := F112x0 N v0 v1 v2 v3 v6 (fun p => p)
theorem tot112x0 (v0 v1 : Int) (v2 : Bool) (v3 : LD) (v6 : Bool) (k0 : LD → R) : F112x0 N v0 v1 v2 v3 v6 k0 = k0 (V112x0 N v0 v1 v2 v3 v6) := by
  unfold V112x0 F112x0
  repeat' (first | rfl | apply cond_k | (apply bnd_k; intro _))
noncomputable def J112x0 (L : List Lf) (k0 : LD → R) : R := F112x0 N (li L 0) (li L 1) (lb L 2) (ll L 3) (lb L 6) k0
noncomputable def sh112x0 : Sh := { tmps := [(0, .c (.p 0 0)), (1, .c (.i .i64)), (2, .c (.i .i64)), (3, .c (.sl 146))], mem := [(0, .box ([.nsl 53, .b]))] }
noncomputable def K112x0w0 (L : List Lf) (p : LD) : Res := ([], [(0, .box [.o 26, .b (lb L 6)]), (26, .row 53 true false p)])
noncomputable def A112x0 (L : List Lf) : List (Bool × Res) := bnd (J112x0 N L (fun p => p)) fun q => [(true, K112x0w0 L q)]
theorem raw112x0 (L : List Lf) : bd Try.prog (T114x0 N) (h112x0s0 N).h 112 sh112x0 L = J112x0 N L (fun p => some (K112x0w0 L p)) := by kernel_rfl
theorem ok112x0 : FnOk Try.prog 112 sh112x0 (A112x0 N) :=
  (h112x0s0 N).fn progOk (T114x0_ok N) fun L x hx => ((raw112x0 N L).trans ((tot112x0 N ..).trans (alt0 _ _ hx)))
noncomputable def T112x0 : Oracle := ext 112 (spSh sh112x0 (A112x0 N)) (T114x0 N)
theorem T112x0_ok : OracleOk Try.prog (T112x0 N) := FnOk.to (ok112x0 N) (T114x0_ok N)
noncomputable def rg69x0 : List (Nat × List Nat) := [(0, [1, 2, 0]), (1, [1, 2, 0]), (2, [1, 2, 7, 0]), (3, [13, 12, 2, 1, 7, 0]), (4, [13, 2, 1, 7, 0, 12]), (5, [8, 2, 1, 7, 0, 13, 12]), (6, [2, 1, 8, 7, 0, 13, 12, 9]), (7, [1, 8, 7, 0, 13, 12, 2]), (8, [7, 9, 0, 8, 13, 12, 2, 1]), (9, [13, 12, 2, 1, 7, 0]), (10, [7])]
noncomputable def hd69x0 : Hints := [(9, [13, 12, 2, 1, 7, 0], [11], []), (23, [1, 8, 7, 0, 13, 12, 2, 9, 17], [11], [])]
noncomputable def h69x0s0 (N : Nat) : Sg Try.prog 0 69 := .start hd69x0 rg69x0
noncomputable def F69x0x23 (N : Nat) (w1 w3 w4 : Int) (w7 : Bool) (k0 : Int → R) : R :=
  bif w7 then
    k0 (IntKind.wrap .i64 ((IntKind.wrap .i64 (w1 - 1)) - w3))
  else
    k0 w4
noncomputable def V69x0x23 (w1 w3 w4 : Int) (w7 : Bool) : Int := F69x0x23 N w1 w3 w4 w7 (fun p => p)
theorem tot69x0x23 (w1 w3 w4 : Int) (w7 : Bool) (k0 : Int → R) : F69x0x23 N w1 w3 w4 w7 k0 = k0 (V69x0x23 N w1 w3 w4 w7) := by
  unfold V69x0x23 F69x0x23
  repeat' (first | rfl | apply cond_k | (apply bnd_k; intro _))
noncomputable def J69x0x23 (L : List Lf) (k0 : Int → R) : R := F69x0x23 N (li L 1) (li L 3) (li L 4) (lb L 7) k0
noncomputable def sh69x0x23 : Sh := { tmps := [(0, .c (.i .i64)), (1, .c (.i .i64)), (2, .c (.b)), (7, .c (.o 11)), (8, .c (.i .i64)), (9, .c (.i .i64)), (12, .c (.i .i64)), (13, .c (.i .i64)), (17, .c (.b))], mem := [(11, .row 5 true)] }
noncomputable def K69x0x23w0 (L : List Lf) (p : Int) : Ex × St := (.normal, mg (ofSh sh69x0x23 L) [0, 1, 2, 7, 8, 9, 12, 13] [(9, .c (.i .i64 p))] [11] [])
noncomputable def A69x0x23 (L : List Lf) : List (Bool × (Ex × St)) := bnd (J69x0x23 N L (fun p => p)) fun q => [(true, K69x0x23w0 L q)]
theorem raw69x0x23 (L : List Lf) : pc Try.prog (T112x0 N) (h69x0s0 N).h 0 100 69 23 sh69x0x23 L [7, 9, 0, 8, 13, 12, 2, 1] [11] = J69x0x23 N L (fun p => some (K69x0x23w0 L p)) := by kernel_rfl
noncomputable def h69x0s1 : Sg Try.prog 0 69 :=
  (h69x0s0 N).cut (A69x0x23 N) progOk (T112x0_ok N) fun L x hx => (raw69x0x23 N L).trans ((tot69x0x23 N ..).trans (alt0 _ _ hx))
noncomputable def S69x0x9 (w0 w1 : Int) (w2 : Bool) (w3 : Int) (w4 : Int) (w6 : LD) (kr : Int → LD → Option R) (k0 : LD → Option R) : Option R :=
  bif (decide (w4 < w3)) then
    bnd (V69x0x23 N w1 w4 w4 w2) fun y0 =>
    bif (decide (0 ≤ (IntKind.wrap .i64 (8 * w4)))) then
      bnd (IntKind.wrap .u8 (w0.fdiv (2 ^ (min (IntKind.wrap .i64 (8 * w4)).toNat 64)))) fun y1 =>
      bif (inB y0 w6.length) then
        bif (decide (y0.toNat < w6.length)) then
          kr (IntKind.wrap .i64 (w4 + 1)) (w6.set y0.toNat (.i y1))
        else
          none
      else
        none
    else
      none
  else
    k0 w6
noncomputable def L69x0x9 (N : Nat) {R : Type} (w0 w1 : Int) (w2 : Bool) (w3 : Int) : Nat → Int → LD → (LD → Option R) → Option R
  | 0, _, _, _ => none
  | m + 1, w4, w6, k0 => S69x0x9 N w0 w1 w2 w3 w4 w6 (fun w4 w6 => L69x0x9 N w0 w1 w2 w3 m w4 w6 k0) k0
noncomputable def G69x0x9 (w0 w1 : Int) (w2 : Bool) (w3 : Int) (w4 : Int) (w6 : LD) : Option (LD) := L69x0x9 N (R := (LD)) w0 w1 w2 w3 N w4 w6 (fun p => some p)
noncomputable def J69x0x9 (L x : List Lf) (kr : List Lf → Option R) (k0 : LD → Option R) : Option R := S69x0x9 N (li L 0) (li L 1) (lb L 2) (li L 3) (li x 0) (ll x 1) (fun w4 w6 => kr [.i w4, .l w6]) k0
theorem sb69x0x9 (L x : List Lf) (kr : List Lf → Option R) (k0 : LD → Option R) : J69x0x9 N L x kr k0 = (J69x0x9 N L x (fun y => some (.inl y)) (fun p => some (.inr p))).bind (sumE kr k0) := by
  unfold J69x0x9 S69x0x9
  repeat' (first | with_reducible apply cond_b | (with_reducible apply bnd_b; intro _) | rfl)
noncomputable def Q69x0x9 (L : List Lf) (m : Nat) (x : List Lf) : Option (LD) := L69x0x9 N (R := (LD)) (li L 0) (li L 1) (lb L 2) (li L 3) m (li x 0) (ll x 1) (fun p => some p)
noncomputable def sh69x0x9 : Sh := { tmps := [(0, .c (.i .i64)), (1, .c (.i .i64)), (2, .c (.b)), (7, .c (.o 11)), (12, .c (.i .i64)), (13, .c (.i .i64))], mem := [(11, .row 5 true)] }
noncomputable def K69x0x9w0 (L : List Lf) (p : LD) : Ex × St := ((.exit 0), ⟨[(7, .c (.o 11))], [(11, .row 5 true (lb L 5) p)]⟩)
noncomputable def A69x0x9 (L : List Lf) : List (Bool × (Ex × St)) := bnd (Q69x0x9 N L N (pk sh69x0x9 [4, 6] L)) fun q => [(q.isSome, K69x0x9w0 L (q.getD default))]
theorem step69x0x9 (m : Nat) (kn : St → Option (Ex × St)) (L x : List Lf) : lpB Try.prog (T112x0 N) (h69x0s1 N).h 0 69 9 sh69x0x9 [4, 6] [6, 7] [11] (m + 100) kn L x = J69x0x9 N L x (fun y => kn (ofSh sh69x0x9 (mx sh69x0x9 [4, 6] L y))) (fun p => some (K69x0x9w0 L p)) := by kernel_rfl
theorem ql69x0x9 (L : List Lf) (m : Nat) (x : List Lf) : Q69x0x9 N L (m + 1) x = J69x0x9 N L x (Q69x0x9 N L m) some := by kernel_rfl
noncomputable def h69x0s2 : Sg Try.prog 0 69 :=
  (h69x0s1 N).lp (A69x0x9 N) N progOk (T112x0_ok N) (fun m kn L x => (step69x0x9 N m kn L x).trans (sb69x0x9 N L x _ _)) (fun L m x => (ql69x0x9 N L m x).trans (sb69x0x9 N L x (Q69x0x9 N L m) some)) fun L x hx => alt1 x hx
noncomputable def F69x0 (v0 v1 : Int) (v2 : Bool) (k0 : LD → Option R) : Option R :=
  bif (((decide (0 ≤ v1)) && (decide (v1 ≤ v1))) && (decide (v1.toNat * 1 ≤ room) && decide (v1.toNat ≤ strMax))) then
    bnd (G69x0x9 N v0 v1 v2 v1 0 (List.replicate v1.toNat ((.i 0) : D))) fun y0 =>
    bif y0.isSome then
      k0 (y0.getD default)
    else
      none
  else
    none
noncomputable def G69x0 (v0 v1 : Int) (v2 : Bool) : Option (LD) := F69x0 N v0 v1 v2 (fun p => some p)
theorem bind69x0 (v0 v1 : Int) (v2 : Bool) (k0 : LD → Option R) : F69x0 N v0 v1 v2 k0 = (G69x0 N v0 v1 v2).bind k0 := by
  unfold G69x0 F69x0
  repeat' (first | with_reducible apply cond_b | (with_reducible apply bnd_b; intro _) | rfl)
noncomputable def sh69x0 : Sh := { tmps := [(0, .c (.i .i64)), (1, .c (.i .i64)), (2, .c (.b))], mem := [] }
noncomputable def A69x0 (L : List Lf) : List (Bool × Res) := bnd (F69x0 N (li L 0) (li L 1) (lb L 2) (fun p => some p)) fun q => [(q.isSome, ([.c (.sl 5 false (q.getD default))], []))]
theorem raw69x0 (L : List Lf) : bd Try.prog (T112x0 N) (h69x0s2 N).h 69 sh69x0 L = F69x0 N (li L 0) (li L 1) (lb L 2) (fun p => some ([.c (.sl 5 false p)], [])) := by kernel_rfl
theorem ok69x0 : FnOk Try.prog 69 sh69x0 (A69x0 N) :=
  (h69x0s2 N).fn progOk (T112x0_ok N) fun L x hx => ((raw69x0 N L).trans ((bind69x0 N ..).trans (alt1 x hx)))
noncomputable def T69x0 : Oracle := ext 69 (spSh sh69x0 (A69x0 N)) (T112x0 N)
theorem T69x0_ok : OracleOk Try.prog (T69x0 N) := FnOk.to (ok69x0 N) (T112x0_ok N)
noncomputable def rg116x0 : List (Nat × List Nat) := [(0, [1, 2, 0]), (1, [1, 2, 0]), (2, [2, 0]), (3, [1, 2, 0])]
noncomputable def hd116x0 : Hints := [(8, [2, 0, 1, 12], [1, 0], [])]
noncomputable def h116x0s0 (N : Nat) : Sg Try.prog 2 116 := .start hd116x0 rg116x0
noncomputable def F116x0x8 (N : Nat) (w0 : Int) (w2 : Bool) (k0 : Int → R) : R :=
  bif w2 then
    k0 65535
  else
    k0 w0
noncomputable def V116x0x8 (w0 : Int) (w2 : Bool) : Int := F116x0x8 N w0 w2 (fun p => p)
theorem tot116x0x8 (w0 : Int) (w2 : Bool) (k0 : Int → R) : F116x0x8 N w0 w2 k0 = k0 (V116x0x8 N w0 w2) := by
  unfold V116x0x8 F116x0x8
  repeat' (first | rfl | apply cond_k | (apply bnd_k; intro _))
noncomputable def sh116x0x8 : Sh := { tmps := [(0, .c (.p 0 0)), (1, .c (.i .i64)), (2, .c (.i .i64)), (12, .c (.b))], mem := [(0, .box ([.o 1, .b])), (1, .row 53 true)] }
noncomputable def K116x0x8w0 (L : List Lf) (p : Int) : Ex × St := (.normal, mg (ofSh sh116x0x8 L) [0, 1, 2] [(1, .c (.i .i64 p))] [0, 1] [])
noncomputable def A116x0x8 (L : List Lf) : List (Bool × (Ex × St)) := bnd (F116x0x8 N (li L 0) (lb L 2) (fun p => p)) fun q => [(true, K116x0x8w0 L q)]
theorem raw116x0x8 (L : List Lf) : pc Try.prog (T69x0 N) (h116x0s0 N).h 2 100 116 8 sh116x0x8 L [1, 2, 0] [1, 0] = F116x0x8 N (li L 0) (lb L 2) (fun p => some (K116x0x8w0 L p)) := by kernel_rfl
noncomputable def h116x0s1 : Sg Try.prog 2 116 :=
  (h116x0s0 N).cut (A116x0x8 N) progOk (T69x0_ok N) fun L x hx => (raw116x0x8 N L).trans ((tot116x0x8 N ..).trans (alt0 _ _ hx))
noncomputable def F116x0 (v0 v1 : Int) (v2 : Bool) (k0 : LD → Option R) : Option R :=
  bnd (V116x0x8 N v0 (bif (v0 == (-1)) then (v1 == 2) else false)) fun y0 =>
  bnd (G69x0 N y0 v1 v2) fun y1 =>
  bif y1.isSome then
    k0 (y1.getD default)
  else
    none
noncomputable def G116x0 (v0 v1 : Int) (v2 : Bool) : Option (LD) := F116x0 N v0 v1 v2 (fun p => some p)
theorem bind116x0 (v0 v1 : Int) (v2 : Bool) (k0 : LD → Option R) : F116x0 N v0 v1 v2 k0 = (G116x0 N v0 v1 v2).bind k0 := by
  unfold G116x0 F116x0
  repeat' (first | with_reducible apply cond_b | (with_reducible apply bnd_b; intro _) | rfl)
noncomputable def sh116x0 : Sh := { tmps := [(0, .c (.p 0 0)), (1, .c (.i .i64)), (2, .c (.i .i64))], mem := [(0, .box ([.o 1, .b])), (1, .row 53 true)] }
noncomputable def A116x0 (L : List Lf) : List (Bool × Res) := bnd (F116x0 N (li L 0) (li L 1) (lb L 2) (fun p => some p)) fun q => [(q.isSome, ([.c (.sl 5 false (q.getD default))], mgA (ofSh sh116x0 L).mem [] [0, 1]))]
theorem raw116x0 (L : List Lf) : bd Try.prog (T69x0 N) (h116x0s1 N).h 116 sh116x0 L = F116x0 N (li L 0) (li L 1) (lb L 2) (fun p => some ([.c (.sl 5 false p)], mgA (ofSh sh116x0 L).mem [] [0, 1])) := by kernel_rfl
theorem ok116x0 : FnOk Try.prog 116 sh116x0 (A116x0 N) :=
  (h116x0s1 N).fn progOk (T69x0_ok N) fun L x hx => ((raw116x0 N L).trans ((bind116x0 N ..).trans (alt1 x hx)))
noncomputable def T116x0 : Oracle := ext 116 (spSh sh116x0 (A116x0 N)) (T69x0 N)
theorem T116x0_ok : OracleOk Try.prog (T116x0 N) := FnOk.to (ok116x0 N) (T69x0_ok N)
noncomputable def rg117x0 : List (Nat × List Nat) := [(0, [0]), (1, [0])]
noncomputable def hd117x0 : Hints := []
noncomputable def h117x0s0 (N : Nat) : Sg Try.prog 0 117 := .start hd117x0 rg117x0
noncomputable def F117x0 (N : Nat) (v0 : LB) (k0 : LD → Option R) : Option R :=
  bif (Nat.ble v0.length strMax) then
    bif ((decide (0 ≤ (IntKind.wrap .i64 (60 - (v0.length : Int))))) && (decide (((bytesD v0).length + (IntKind.wrap .i64 (60 - (v0.length : Int))).toNat) * 1 ≤ room) && decide (((bytesD v0).length + (IntKind.wrap .i64 (60 - (v0.length : Int))).toNat) ≤ strMax))) then
      bnd (((bytesD v0) ++ (List.replicate (IntKind.wrap .i64 (60 - (v0.length : Int))).toNat ((.i 0) : D))) : List D) fun y0 =>
      k0 y0
    else
      none
  else
    none
noncomputable def G117x0 (v0 : LB) : Option (LD) := F117x0 N v0 (fun p => some p)
theorem bind117x0 (v0 : LB) (k0 : LD → Option R) : F117x0 N v0 k0 = (G117x0 N v0).bind k0 := by
  unfold G117x0 F117x0
  repeat' (first | with_reducible apply cond_b | (with_reducible apply bnd_b; intro _) | rfl)
noncomputable def sh117x0 : Sh := { tmps := [(0, .c (.s))], mem := [] }
noncomputable def A117x0 (L : List Lf) : List (Bool × Res) := bnd (F117x0 N (ls L 0) (fun p => some p)) fun q => [(q.isSome, ([.c (.sl 5 false (q.getD default))], []))]
theorem raw117x0 (L : List Lf) : bd Try.prog (T116x0 N) (h117x0s0 N).h 117 sh117x0 L = F117x0 N (ls L 0) (fun p => some ([.c (.sl 5 false p)], [])) := by kernel_rfl
theorem ok117x0 : FnOk Try.prog 117 sh117x0 (A117x0 N) :=
  (h117x0s0 N).fn progOk (T116x0_ok N) fun L x hx => ((raw117x0 N L).trans ((bind117x0 N ..).trans (alt1 x hx)))
noncomputable def T117x0 : Oracle := ext 117 (spSh sh117x0 (A117x0 N)) (T116x0 N)
theorem T117x0_ok : OracleOk Try.prog (T117x0 N) := FnOk.to (ok117x0 N) (T116x0_ok N)
noncomputable def rg115x0 : List (Nat × List Nat) := [(0, [2, 0, 1]), (1, [2, 6, 0, 1]), (2, [11, 10, 9, 6, 0, 1]), (3, [9, 11, 6, 10, 0, 1]), (4, [6, 8, 11, 10, 9, 0, 1]), (5, [11, 10, 9, 6, 0, 1]), (6, [0, 1, 6])]
noncomputable def hd115x0 : Hints := [(6, [11, 10, 9, 6, 0, 1], [1, 0, 8], [6])]
noncomputable def h115x0s0 (N : Nat) : Sg Try.prog 2 115 := .start hd115x0 rg115x0
noncomputable def S115x0x6 (N : Nat) (w2 : LD) (w3 : Int) (w4 : Int) (w8 : Bool) (w9 : LD) (kr : Int → Bool → LD → Option R) (k0 : Bool × LD → Option R) : Option R :=
  bif (decide (w4 < w3)) then
    bif (inB w4 w2.length) then
      bif (decide ((w9.length + (w2.getD w4.toNat (.i 0)).items.length) * 1 ≤ room) && decide ((w9.length + (w2.getD w4.toNat (.i 0)).items.length) ≤ strMax)) then
        kr (IntKind.wrap .i64 (w4 + 1)) ((w2.getD w4.toNat (.i 0)).items.isEmpty && w8) (w9 ++ (w2.getD w4.toNat (.i 0)).items)
      else
        none
    else
      none
  else
    k0 (w8, w9)
noncomputable def L115x0x6 (N : Nat) {R : Type} (w2 : LD) (w3 : Int) : Nat → Int → Bool → LD → (Bool × LD → Option R) → Option R
  | 0, _, _, _, _ => none
  | m + 1, w4, w8, w9, k0 => S115x0x6 N w2 w3 w4 w8 w9 (fun w4 w8 w9 => L115x0x6 N w2 w3 m w4 w8 w9 k0) k0
noncomputable def G115x0x6 (w2 : LD) (w3 : Int) (w4 : Int) (w8 : Bool) (w9 : LD) : Option (Bool × LD) := L115x0x6 N (R := (Bool × LD)) w2 w3 N w4 w8 w9 (fun p => some p)
noncomputable def J115x0x6 (L x : List Lf) (kr : List Lf → Option R) (k0 : Bool × LD → Option R) : Option R := S115x0x6 N (ll L 2) (li L 3) (li x 0) (lb x 1) (ll x 2) (fun w4 w8 w9 => kr [.i w4, .b w8, .l w9]) k0
theorem sb115x0x6 (L x : List Lf) (kr : List Lf → Option R) (k0 : Bool × LD → Option R) : J115x0x6 N L x kr k0 = (J115x0x6 N L x (fun y => some (.inl y)) (fun p => some (.inr p))).bind (sumE kr k0) := by
  unfold J115x0x6 S115x0x6
  repeat' (first | with_reducible apply cond_b | (with_reducible apply bnd_b; intro _) | rfl)
noncomputable def Q115x0x6 (L : List Lf) (m : Nat) (x : List Lf) : Option (Bool × LD) := L115x0x6 N (R := (Bool × LD)) (ll L 2) (li L 3) m (li x 0) (lb x 1) (ll x 2) (fun p => some p)
noncomputable def sh115x0x6 : Sh := { tmps := [(0, .c (.p 0 0)), (1, .c (.i .i64)), (6, .c (.o 8)), (9, .c (.sl 37)), (10, .c (.i .i64)), (11, .c (.i .i64))], mem := [(0, .box ([.o 1, .b])), (1, .row 53 true), (8, .row 5 true)] }
noncomputable def K115x0x6w0 (L : List Lf) (p : Bool × LD) : Ex × St := ((.exit 0), mg (ofSh sh115x0x6 L) [0, 1, 6] [] [0, 1, 8] [(8, .row 5 true p.1 p.2)])
noncomputable def A115x0x6 (L : List Lf) : List (Bool × (Ex × St)) := bnd (Q115x0x6 N L N (pk sh115x0x6 [4, 8, 9] L)) fun q => [(q.isSome, K115x0x6w0 L (q.getD default))]
theorem step115x0x6 (m : Nat) (kn : St → Option (Ex × St)) (L x : List Lf) : lpB Try.prog (T117x0 N) (h115x0s0 N).h 2 115 6 sh115x0x6 [4, 8, 9] [0, 1, 6] [8, 1, 0] (m + 100) kn L x = J115x0x6 N L x (fun y => kn (ofSh sh115x0x6 (mx sh115x0x6 [4, 8, 9] L y))) (fun p => some (K115x0x6w0 L p)) := by kernel_rfl
theorem ql115x0x6 (L : List Lf) (m : Nat) (x : List Lf) : Q115x0x6 N L (m + 1) x = J115x0x6 N L x (Q115x0x6 N L m) some := by kernel_rfl
noncomputable def h115x0s1 : Sg Try.prog 2 115 :=
  (h115x0s0 N).lp (A115x0x6 N) N progOk (T117x0_ok N) (fun m kn L x => (step115x0x6 N m kn L x).trans (sb115x0x6 N L x _ _)) (fun L m x => (ql115x0x6 N L m x).trans (sb115x0x6 N L x (Q115x0x6 N L m) some)) fun L x hx => alt1 x hx
noncomputable def F115x0 (v0 : Int) (v2 v5 : LD) (k0 : LD → Option R) : Option R :=
  bnd (G115x0x6 N v2 (v2.length : Int) 0 true []) fun y0 =>
  bif y0.isSome then
    bif (decide ((v5.length + 1) * 72 ≤ room) && decide ((v5.length + 1) ≤ strMax)) then
      bnd ((v5 ++ [(.a [(.i 2), (.i v0), (.i 0), (.l true []), (.l (y0.getD default).1 (y0.getD default).2)])]) : List D) fun y1 =>
      k0 y1
    else
      none
  else
    none
noncomputable def G115x0 (v0 : Int) (v2 v5 : LD) : Option (LD) := F115x0 N v0 v2 v5 (fun p => some p)
theorem bind115x0 (v0 : Int) (v2 v5 : LD) (k0 : LD → Option R) : F115x0 N v0 v2 v5 k0 = (G115x0 N v0 v2 v5).bind k0 := by
  unfold G115x0 F115x0
  repeat' (first | with_reducible apply cond_b | (with_reducible apply bnd_b; intro _) | rfl)
noncomputable def sh115x0 : Sh := { tmps := [(0, .c (.p 0 0)), (1, .c (.i .i64)), (2, .c (.sl 37))], mem := [(0, .box ([.o 1, .b])), (1, .row 53 true)] }
noncomputable def K115x0w0 (L : List Lf) (p : LD) : Res := ([], [(0, .box [.o 31, .b (lb L 3)]), (31, .row 53 true false p)])
noncomputable def A115x0 (L : List Lf) : List (Bool × Res) := bnd (F115x0 N (li L 0) (ll L 2) (ll L 5) (fun p => some p)) fun q => [(q.isSome, K115x0w0 L (q.getD default))]
theorem raw115x0 (L : List Lf) : bd Try.prog (T117x0 N) (h115x0s1 N).h 115 sh115x0 L = F115x0 N (li L 0) (ll L 2) (ll L 5) (fun p => some (K115x0w0 L p)) := by kernel_rfl
theorem ok115x0 : FnOk Try.prog 115 sh115x0 (A115x0 N) :=
  (h115x0s1 N).fn progOk (T117x0_ok N) fun L x hx => ((raw115x0 N L).trans ((bind115x0 N ..).trans (alt1 x hx)))
noncomputable def T115x0 : Oracle := ext 115 (spSh sh115x0 (A115x0 N)) (T117x0 N)
theorem T115x0_ok : OracleOk Try.prog (T115x0 N) := FnOk.to (ok115x0 N) (T117x0_ok N)
noncomputable def rg112x1 : List (Nat × List Nat) := [(0, [0, 1, 2, 3])]
noncomputable def hd112x1 : Hints := []
noncomputable def h112x1s0 (N : Nat) : Sg Try.prog 2 112 := .start hd112x1 rg112x1
noncomputable def F112x1 (N : Nat) (v0 v1 : Int) (v2 : Bool) (v3 : LD) (v4 : Bool) (v6 : LD) (k0 : LD → Option R) : Option R :=
  bif (decide ((v6.length + 1) * 72 ≤ room) && decide ((v6.length + 1) ≤ strMax)) then
    bnd ((v6 ++ [(.a [(.i 1), (.i v0), (.i 0), (.l false [(.a [(.b v4), (.i v1), (.l v2 v3)])]), (.l true [])])]) : List D) fun y0 =>
    k0 y0
  else
    none
noncomputable def G112x1 (v0 v1 : Int) (v2 : Bool) (v3 : LD) (v4 : Bool) (v6 : LD) : Option (LD) := F112x1 N v0 v1 v2 v3 v4 v6 (fun p => some p)
theorem bind112x1 (v0 v1 : Int) (v2 : Bool) (v3 : LD) (v4 : Bool) (v6 : LD) (k0 : LD → Option R) : F112x1 N v0 v1 v2 v3 v4 v6 k0 = (G112x1 N v0 v1 v2 v3 v4 v6).bind k0 := by
  unfold G112x1 F112x1
  repeat' (first | with_reducible apply cond_b | (with_reducible apply bnd_b; intro _) | rfl)
noncomputable def J112x1 (L : List Lf) (k0 : LD → Option R) : Option R := F112x1 N (li L 0) (li L 1) (lb L 2) (ll L 3) (lb L 4) (ll L 6) k0
noncomputable def sh112x1 : Sh := { tmps := [(0, .c (.p 0 0)), (1, .c (.i .i64)), (2, .c (.i .i64)), (3, .c (.sl 146))], mem := [(0, .box ([.o 1, .b])), (1, .row 53 true)] }
noncomputable def K112x1w0 (L : List Lf) (p : LD) : Res := ([], [(0, .box [.o 27, .b (lb L 4)]), (27, .row 53 true false p)])
noncomputable def A112x1 (L : List Lf) : List (Bool × Res) := bnd (J112x1 N L (fun p => some p)) fun q => [(q.isSome, K112x1w0 L (q.getD default))]
theorem raw112x1 (L : List Lf) : bd Try.prog (T115x0 N) (h112x1s0 N).h 112 sh112x1 L = J112x1 N L (fun p => some (K112x1w0 L p)) := by kernel_rfl
theorem ok112x1 : FnOk Try.prog 112 sh112x1 (A112x1 N) :=
  (h112x1s0 N).fn progOk (T115x0_ok N) fun L x hx => ((raw112x1 N L).trans ((bind112x1 N ..).trans (alt1 x hx)))
noncomputable def T112x1 : Oracle := ext 112 (spSh sh112x1 (A112x1 N)) (T115x0 N)
theorem T112x1_ok : OracleOk Try.prog (T112x1 N) := FnOk.to (ok112x1 N) (T115x0_ok N)
noncomputable def rg118x0 : List (Nat × List Nat) := [(0, [0]), (1, [0, 2])]
noncomputable def hd118x0 : Hints := []
noncomputable def h118x0s0 (N : Nat) : Sg Try.prog 0 118 := .start hd118x0 rg118x0
noncomputable def F118x0 (N : Nat) (k0 : Unit → R) : R :=
  k0 ()
noncomputable def V118x0 : Unit := F118x0 N (fun p => p)
theorem tot118x0 (k0 : Unit → R) : F118x0 N k0 = k0 (V118x0 N) := by
  unfold V118x0 F118x0
  repeat' (first | rfl | apply cond_k | (apply bnd_k; intro _))
noncomputable def sh118x0 : Sh := { tmps := [(0, .c (.i .i64))], mem := [] }
noncomputable def A118x0 (N : Nat) (L : List Lf) : List (Bool × Res) := [(true, ([.g [.i .i64 (li L 0), .i .i64 4, .i .i64 1]], []))]
theorem raw118x0 (L : List Lf) : bd Try.prog (T112x1 N) (h118x0s0 N).h 118 sh118x0 L = F118x0 N (fun _ => some ([.g [.i .i64 (li L 0), .i .i64 4, .i .i64 1]], [])) := by kernel_rfl
theorem ok118x0 : FnOk Try.prog 118 sh118x0 (A118x0 N) :=
  (h118x0s0 N).fn progOk (T112x1_ok N) fun L x hx => ((raw118x0 N L).trans ((tot118x0 N ..).trans (alt0 _ _ hx)))
noncomputable def T118x0 : Oracle := ext 118 (spSh sh118x0 (A118x0 N)) (T112x1 N)
theorem T118x0_ok : OracleOk Try.prog (T118x0 N) := FnOk.to (ok118x0 N) (T112x1_ok N)
noncomputable def rg50x0 : List (Nat × List Nat) := [(0, [0, 1]), (1, [2, 4, 1]), (2, [6, 4, 2, 1]), (3, [6, 4]), (4, [2, 4, 1]), (5, [4]), (6, [1, 2, 4]), (7, [7, 2, 1, 4]), (8, [7, 2, 1, 4]), (9, [2, 7, 1, 4]), (10, [7, 2, 1, 4]), (11, [2, 7, 1, 4]), (12, [62, 61, 60, 7, 2, 1, 4]), (13, [60, 62, 7, 61, 2, 1, 4]), (14, [7, 9, 62, 61, 60, 2, 1, 4]), (15, [62, 61, 60, 7, 2, 1, 4]), (16, [2, 7, 1, 4]), (17, [7, 2, 1, 4]), (18, [2, 7, 1, 4]), (19, [85, 84, 83, 7, 2, 1, 4]), (20, [83, 85, 7, 2, 84, 1, 4]), (21, [7, 2, 11, 85, 84, 83, 1, 4]), (22, [85, 84, 83, 7, 2, 1, 4]), (23, [2, 7, 1, 4]), (24, [7, 2, 1, 4]), (25, [2, 7, 1, 4]), (26, [127, 126, 125, 7, 2, 1, 4]), (27, [127, 125, 7, 2, 1, 126, 4]), (28, [7, 2, 13, 1, 12, 127, 126, 125, 4]), (29, [12, 13, 2, 7, 127, 126, 125, 1, 4]), (30, [7, 2, 13, 127, 126, 125, 1, 4]), (31, [14, 2, 13, 127, 126, 125, 7, 1, 4]), (32, [127, 126, 125, 7, 2, 1, 4]), (33, [7, 4])]
noncomputable def hd50x0 : Hints := [(32, [7, 2, 1, 4, 54], [51000000031, 30, 4, 2], []), (36, [62, 61, 60, 7, 2, 1, 4], [59000000027, 30, 4, 2, 50030000], [50030000]), (53, [7, 2, 1, 4, 75], [50030000, 30, 4, 2], []), (57, [85, 84, 83, 7, 2, 1, 4], [82000000027, 30, 4, 2, 50030000], [50030000]), (74, [7, 2, 1, 4, 113], [50030000, 30, 4, 2], []), (78, [127, 126, 125, 7, 2, 1, 4], [124000000027, 30, 4, 2, 50030000], [50030000]), (88, [12, 13, 2, 7, 127, 126, 125, 1, 4], [13, 166000000031, 30, 4, 2], []), (92, [7, 2, 13, 127, 126, 125, 1, 4, 180], [13, 166000000031, 30, 4, 2], [])]
noncomputable def h50x0s0 (N : Nat) : Sg Try.prog 0 50 := .start hd50x0 rg50x0
noncomputable def F50x0x32 (w1 w13 : Bool) (w15 : LD) (k0 : LD → Option R) (k1 : Unit → Option R) : Option R :=
  bif w1 then
    bnd (G112x1 N 3 30 false [(.a [(.i 1), (.i 60), (.i 2)])] w13 w15) fun y0 =>
    bif y0.isSome then
      k0 (y0.getD default)
    else
      none
  else
    k1 ()
noncomputable def G50x0x32 (w1 w13 : Bool) (w15 : LD) : Option (Sum (LD) (Unit)) := F50x0x32 N w1 w13 w15 (fun p => some (.inl p)) (fun p => some (.inr p))
theorem bind50x0x32 (w1 w13 : Bool) (w15 : LD) (k0 : LD → Option R) (k1 : Unit → Option R) : F50x0x32 N w1 w13 w15 k0 k1 = (G50x0x32 N w1 w13 w15).bind (sumE k0 k1) := by
  unfold G50x0x32 F50x0x32
  repeat' (first | with_reducible apply cond_b | (with_reducible apply bnd_b; intro _) | rfl)
noncomputable def sh50x0x32 : Sh := { tmps := [(1, .c (.b)), (2, .c (.p 2 0)), (4, .c (.p 4 0)), (7, .c (.p 30 0)), (54, .c (.b))], mem := [(2, .box (.s :: [.i .i64, .i .i64, .sl 78, .sl 82, .sl 9])), (4, .box ([.sl 53])), (30, .box ([.o 51000000031, .b])), (51000000031, .row 53 true)] }
noncomputable def K50x0x32w0 (L : List Lf) (p : LD) : Ex × St := (.normal, mg (ofSh sh50x0x32 L) [1, 2, 4, 7] [] [2, 4, 30, 59000000027] [(30, .box [.o 59000000027, .b (lb L 13)]), (59000000027, .row 53 true false p)])
noncomputable def K50x0x32w1 (L : List Lf) (_ : Unit) : Ex × St := (.normal, mg (ofSh sh50x0x32 L) [1, 2, 4, 7] [] [2, 4, 30, 51000000031] [])
noncomputable def A50x0x32 (L : List Lf) : List (Bool × (Ex × St)) := bnd (F50x0x32 N (lb L 1) (lb L 13) (ll L 15) (fun p => some (.inl p)) (fun p => some (.inr p))) fun q => [((inlB q), K50x0x32w0 L (inlV q)), ((inrQ q).isSome, K50x0x32w1 L ())]
theorem raw50x0x32 (L : List Lf) : pc Try.prog (T118x0 N) (h50x0s0 N).h 0 100 50 32 sh50x0x32 L [2, 7, 1, 4] [59000000027, 30, 4, 2, 51000000031] = F50x0x32 N (lb L 1) (lb L 13) (ll L 15) (fun p => some (K50x0x32w0 L p)) (fun _ => some (K50x0x32w1 L ())) := by kernel_rfl
noncomputable def h50x0s1 : Sg Try.prog 0 50 :=
  (h50x0s0 N).cut (A50x0x32 N) progOk (T118x0_ok N) fun L x hx => (raw50x0x32 N L).trans ((bind50x0x32 N ..).trans ((altS alt1) x hx))
noncomputable def S50x0x36 (w2 : LD) (w3 : Int) (w4 : Int) (w17 : Bool) (w18 : LD) (kr : Int → Bool → LD → Option R) (k0 : Bool × LD → Option R) : Option R :=
  bif (decide (w4 < w3)) then
    bif (inB w4 w2.length) then
      bnd (G117x0 N (w2.getD w4.toNat (.i 0)).toS) fun y0 =>
      bif y0.isSome then
        bnd (G115x0 N 3 [(.l false (y0.getD default))] w18) fun y1 =>
        bif y1.isSome then
          kr (IntKind.wrap .i64 (w4 + 1)) false (y1.getD default)
        else
          none
      else
        none
    else
      none
  else
    k0 (w17, w18)
noncomputable def L50x0x36 (N : Nat) {R : Type} (w2 : LD) (w3 : Int) : Nat → Int → Bool → LD → (Bool × LD → Option R) → Option R
  | 0, _, _, _, _ => none
  | m + 1, w4, w17, w18, k0 => S50x0x36 N w2 w3 w4 w17 w18 (fun w4 w17 w18 => L50x0x36 N w2 w3 m w4 w17 w18 k0) k0
noncomputable def G50x0x36 (w2 : LD) (w3 : Int) (w4 : Int) (w17 : Bool) (w18 : LD) : Option (Bool × LD) := L50x0x36 N (R := (Bool × LD)) w2 w3 N w4 w17 w18 (fun p => some p)
noncomputable def J50x0x36 (L x : List Lf) (kr : List Lf → Option R) (k0 : Bool × LD → Option R) : Option R := S50x0x36 N (ll L 2) (li L 3) (li x 0) (lb x 1) (ll x 2) (fun w4 w17 w18 => kr [.i w4, .b w17, .l w18]) k0
theorem sb50x0x36 (L x : List Lf) (kr : List Lf → Option R) (k0 : Bool × LD → Option R) : J50x0x36 N L x kr k0 = (J50x0x36 N L x (fun y => some (.inl y)) (fun p => some (.inr p))).bind (sumE kr k0) := by
  unfold J50x0x36 S50x0x36
  repeat' (first | with_reducible apply cond_b | (with_reducible apply bnd_b; intro _) | rfl)
noncomputable def Q50x0x36 (L : List Lf) (m : Nat) (x : List Lf) : Option (Bool × LD) := L50x0x36 N (R := (Bool × LD)) (ll L 2) (li L 3) m (li x 0) (lb x 1) (ll x 2) (fun p => some p)
noncomputable def sh50x0x36 : Sh := { tmps := [(1, .c (.b)), (2, .c (.p 2 0)), (4, .c (.p 4 0)), (7, .c (.p 30 0)), (60, .c (.sl 9)), (61, .c (.i .i64)), (62, .c (.i .i64))], mem := [(2, .box (.s :: [.i .i64, .i .i64, .sl 78, .sl 82, .sl 9])), (4, .box ([.sl 53])), (30, .box ([.o 50030000, .b])), (50030000, .row 53 true)] }
noncomputable def K50x0x36w0 (L : List Lf) (p : Bool × LD) : Ex × St := ((.exit 0), mg (ofSh sh50x0x36 L) [1, 2, 4, 7] [] [2, 4, 30, 50030000] [(50030000, .row 53 true p.1 p.2)])
noncomputable def A50x0x36 (L : List Lf) : List (Bool × (Ex × St)) := bnd (Q50x0x36 N L N (pk sh50x0x36 [4, 17, 18] L)) fun q => [(q.isSome, K50x0x36w0 L (q.getD default))]
theorem step50x0x36 (m : Nat) (kn : St → Option (Ex × St)) (L x : List Lf) : lpB Try.prog (T118x0 N) (h50x0s1 N).h 0 50 36 sh50x0x36 [4, 17, 18] [4, 5, 2, 7, 1] [50030000, 30, 4, 2] (m + 100) kn L x = J50x0x36 N L x (fun y => kn (ofSh sh50x0x36 (mx sh50x0x36 [4, 17, 18] L y))) (fun p => some (K50x0x36w0 L p)) := by kernel_rfl
theorem ql50x0x36 (L : List Lf) (m : Nat) (x : List Lf) : Q50x0x36 N L (m + 1) x = J50x0x36 N L x (Q50x0x36 N L m) some := by kernel_rfl
noncomputable def h50x0s2 : Sg Try.prog 0 50 :=
  (h50x0s1 N).lp (A50x0x36 N) N progOk (T118x0_ok N) (fun m kn L x => (step50x0x36 N m kn L x).trans (sb50x0x36 N L x _ _)) (fun L m x => (ql50x0x36 N L m x).trans (sb50x0x36 N L x (Q50x0x36 N L m) some)) fun L x hx => alt1 x hx
noncomputable def F50x0x53 (w1 w13 : Bool) (w15 : LD) (k0 : LD → Option R) (k1 : Unit → Option R) : Option R :=
  bif w1 then
    bnd (G112x1 N 2 19 false [(.a [(.i 253), (.i 4), (.i 0)]), (.a [(.i 1), (.i 4), (.i 0)]), (.a [(.i 2), (.i 60), (.i 2)])] w13 w15) fun y0 =>
    bif y0.isSome then
      k0 (y0.getD default)
    else
      none
  else
    k1 ()
noncomputable def G50x0x53 (w1 w13 : Bool) (w15 : LD) : Option (Sum (LD) (Unit)) := F50x0x53 N w1 w13 w15 (fun p => some (.inl p)) (fun p => some (.inr p))
theorem bind50x0x53 (w1 w13 : Bool) (w15 : LD) (k0 : LD → Option R) (k1 : Unit → Option R) : F50x0x53 N w1 w13 w15 k0 k1 = (G50x0x53 N w1 w13 w15).bind (sumE k0 k1) := by
  unfold G50x0x53 F50x0x53
  repeat' (first | with_reducible apply cond_b | (with_reducible apply bnd_b; intro _) | rfl)
noncomputable def sh50x0x53 : Sh := { tmps := [(1, .c (.b)), (2, .c (.p 2 0)), (4, .c (.p 4 0)), (7, .c (.p 30 0)), (75, .c (.b))], mem := [(2, .box (.s :: [.i .i64, .i .i64, .sl 78, .sl 82, .sl 9])), (4, .box ([.sl 53])), (30, .box ([.o 50030000, .b])), (50030000, .row 53 true)] }
noncomputable def K50x0x53w0 (L : List Lf) (p : LD) : Ex × St := (.normal, mg (ofSh sh50x0x53 L) [1, 2, 4, 7] [] [2, 4, 30, 82000000027] [(30, .box [.o 82000000027, .b (lb L 13)]), (82000000027, .row 53 true false p)])
noncomputable def K50x0x53w1 (L : List Lf) (_ : Unit) : Ex × St := (.normal, mg (ofSh sh50x0x53 L) [1, 2, 4, 7] [] [2, 4, 30, 50030000] [])
noncomputable def A50x0x53 (L : List Lf) : List (Bool × (Ex × St)) := bnd (F50x0x53 N (lb L 1) (lb L 13) (ll L 15) (fun p => some (.inl p)) (fun p => some (.inr p))) fun q => [((inlB q), K50x0x53w0 L (inlV q)), ((inrQ q).isSome, K50x0x53w1 L ())]
theorem raw50x0x53 (L : List Lf) : pc Try.prog (T118x0 N) (h50x0s2 N).h 0 100 50 53 sh50x0x53 L [2, 7, 1, 4] [82000000027, 30, 4, 2, 50030000] = F50x0x53 N (lb L 1) (lb L 13) (ll L 15) (fun p => some (K50x0x53w0 L p)) (fun _ => some (K50x0x53w1 L ())) := by kernel_rfl
noncomputable def h50x0s3 : Sg Try.prog 0 50 :=
  (h50x0s2 N).cut (A50x0x53 N) progOk (T118x0_ok N) fun L x hx => (raw50x0x53 N L).trans ((bind50x0x53 N ..).trans ((altS alt1) x hx))
noncomputable def S50x0x57 (w2 : LD) (w3 w7 : Int) (w16 : Bool) (w4 : Int) (w17 : Bool) (w18 : LD) (kr : Int → Bool → LD → Option R) (k0 : Bool × LD → Option R) : Option R :=
  bif (decide (w4 < w3)) then
    bif (inB w4 w2.length) then
      bnd (IntKind.wrap .i64 (w7 + ((w2.getD w4.toNat (.i 0)).cell 0).toI)) fun y0 =>
      bnd (G116x0 N y0 4 w16) fun y1 =>
      bif y1.isSome then
        bnd (IntKind.wrap .i64 (w7 + ((w2.getD w4.toNat (.i 0)).cell 1).toI)) fun y2 =>
        bnd (G116x0 N y2 4 w16) fun y3 =>
        bif y3.isSome then
          bnd (G117x0 N ((w2.getD w4.toNat (.i 0)).cell 2).toS) fun y4 =>
          bif y4.isSome then
            bnd (G115x0 N 2 [(.l false (y1.getD default)), (.l false (y3.getD default)), (.l false (y4.getD default))] w18) fun y5 =>
            bif y5.isSome then
              kr (IntKind.wrap .i64 (w4 + 1)) false (y5.getD default)
            else
              none
          else
            none
        else
          none
      else
        none
    else
      none
  else
    k0 (w17, w18)
noncomputable def L50x0x57 (N : Nat) {R : Type} (w2 : LD) (w3 w7 : Int) (w16 : Bool) : Nat → Int → Bool → LD → (Bool × LD → Option R) → Option R
  | 0, _, _, _, _ => none
  | m + 1, w4, w17, w18, k0 => S50x0x57 N w2 w3 w7 w16 w4 w17 w18 (fun w4 w17 w18 => L50x0x57 N w2 w3 w7 w16 m w4 w17 w18 k0) k0
noncomputable def G50x0x57 (w2 : LD) (w3 w7 : Int) (w16 : Bool) (w4 : Int) (w17 : Bool) (w18 : LD) : Option (Bool × LD) := L50x0x57 N (R := (Bool × LD)) w2 w3 w7 w16 N w4 w17 w18 (fun p => some p)
noncomputable def J50x0x57 (L x : List Lf) (kr : List Lf → Option R) (k0 : Bool × LD → Option R) : Option R := S50x0x57 N (ll L 2) (li L 3) (li L 7) (lb L 16) (li x 0) (lb x 1) (ll x 2) (fun w4 w17 w18 => kr [.i w4, .b w17, .l w18]) k0
theorem sb50x0x57 (L x : List Lf) (kr : List Lf → Option R) (k0 : Bool × LD → Option R) : J50x0x57 N L x kr k0 = (J50x0x57 N L x (fun y => some (.inl y)) (fun p => some (.inr p))).bind (sumE kr k0) := by
  unfold J50x0x57 S50x0x57
  repeat' (first | with_reducible apply cond_b | (with_reducible apply bnd_b; intro _) | rfl)
noncomputable def Q50x0x57 (L : List Lf) (m : Nat) (x : List Lf) : Option (Bool × LD) := L50x0x57 N (R := (Bool × LD)) (ll L 2) (li L 3) (li L 7) (lb L 16) m (li x 0) (lb x 1) (ll x 2) (fun p => some p)
noncomputable def sh50x0x57 : Sh := { tmps := [(1, .c (.b)), (2, .c (.p 2 0)), (4, .c (.p 4 0)), (7, .c (.p 30 0)), (83, .c (.sl 82)), (84, .c (.i .i64)), (85, .c (.i .i64))], mem := [(2, .box (.s :: [.i .i64, .i .i64, .sl 78, .sl 82, .sl 9])), (4, .box ([.sl 53])), (30, .box ([.o 50030000, .b])), (50030000, .row 53 true)] }
noncomputable def K50x0x57w0 (L : List Lf) (p : Bool × LD) : Ex × St := ((.exit 2), mg (ofSh sh50x0x57 L) [1, 2, 4, 7] [] [2, 4, 30, 50030000] [(50030000, .row 53 true p.1 p.2)])
noncomputable def A50x0x57 (L : List Lf) : List (Bool × (Ex × St)) := bnd (Q50x0x57 N L N (pk sh50x0x57 [4, 17, 18] L)) fun q => [(q.isSome, K50x0x57w0 L (q.getD default))]
theorem step50x0x57 (m : Nat) (kn : St → Option (Ex × St)) (L x : List Lf) : lpB Try.prog (T118x0 N) (h50x0s3 N).h 0 50 57 sh50x0x57 [4, 17, 18] [4, 5, 2, 7, 1] [50030000, 30, 4, 2] (m + 100) kn L x = J50x0x57 N L x (fun y => kn (ofSh sh50x0x57 (mx sh50x0x57 [4, 17, 18] L y))) (fun p => some (K50x0x57w0 L p)) := by kernel_rfl
theorem ql50x0x57 (L : List Lf) (m : Nat) (x : List Lf) : Q50x0x57 N L (m + 1) x = J50x0x57 N L x (Q50x0x57 N L m) some := by kernel_rfl
noncomputable def h50x0s4 : Sg Try.prog 0 50 :=
  (h50x0s3 N).lp (A50x0x57 N) N progOk (T118x0_ok N) (fun m kn L x => (step50x0x57 N m kn L x).trans (sb50x0x57 N L x _ _)) (fun L m x => (ql50x0x57 N L m x).trans (sb50x0x57 N L x (Q50x0x57 N L m) some)) fun L x hx => alt1 x hx
noncomputable def F50x0x74 (w1 w13 : Bool) (w15 : LD) (k0 : LD → Option R) (k1 : Unit → Option R) : Option R :=
  bif w1 then
    bnd (G112x1 N 1 20 false [(.a [(.i 253), (.i 4), (.i 0)]), (.a [(.i 0), (.i 4), (.i 1)]), (.a [(.i 1), (.i 4), (.i 1)]), (.a [(.i 2), (.i 4), (.i 1)]), (.a [(.i 3), (.i 2), (.i 0)]), (.a [(.i 4), (.i 2), (.i 0)]), (.a [(.i 5), (.i 2), (.i 0)])] w13 w15) fun y0 =>
    bif y0.isSome then
      k0 (y0.getD default)
    else
      none
  else
    k1 ()
noncomputable def G50x0x74 (w1 w13 : Bool) (w15 : LD) : Option (Sum (LD) (Unit)) := F50x0x74 N w1 w13 w15 (fun p => some (.inl p)) (fun p => some (.inr p))
theorem bind50x0x74 (w1 w13 : Bool) (w15 : LD) (k0 : LD → Option R) (k1 : Unit → Option R) : F50x0x74 N w1 w13 w15 k0 k1 = (G50x0x74 N w1 w13 w15).bind (sumE k0 k1) := by
  unfold G50x0x74 F50x0x74
  repeat' (first | with_reducible apply cond_b | (with_reducible apply bnd_b; intro _) | rfl)
noncomputable def sh50x0x74 : Sh := { tmps := [(1, .c (.b)), (2, .c (.p 2 0)), (4, .c (.p 4 0)), (7, .c (.p 30 0)), (113, .c (.b))], mem := [(2, .box (.s :: [.i .i64, .i .i64, .sl 78, .sl 82, .sl 9])), (4, .box ([.sl 53])), (30, .box ([.o 50030000, .b])), (50030000, .row 53 true)] }
noncomputable def K50x0x74w0 (L : List Lf) (p : LD) : Ex × St := (.normal, mg (ofSh sh50x0x74 L) [1, 2, 4, 7] [] [2, 4, 30, 124000000027] [(30, .box [.o 124000000027, .b (lb L 13)]), (124000000027, .row 53 true false p)])
noncomputable def K50x0x74w1 (L : List Lf) (_ : Unit) : Ex × St := (.normal, mg (ofSh sh50x0x74 L) [1, 2, 4, 7] [] [2, 4, 30, 50030000] [])
noncomputable def A50x0x74 (L : List Lf) : List (Bool × (Ex × St)) := bnd (F50x0x74 N (lb L 1) (lb L 13) (ll L 15) (fun p => some (.inl p)) (fun p => some (.inr p))) fun q => [((inlB q), K50x0x74w0 L (inlV q)), ((inrQ q).isSome, K50x0x74w1 L ())]
theorem raw50x0x74 (L : List Lf) : pc Try.prog (T118x0 N) (h50x0s4 N).h 0 100 50 74 sh50x0x74 L [2, 7, 1, 4] [124000000027, 30, 4, 2, 50030000] = F50x0x74 N (lb L 1) (lb L 13) (ll L 15) (fun p => some (K50x0x74w0 L p)) (fun _ => some (K50x0x74w1 L ())) := by kernel_rfl
noncomputable def h50x0s5 : Sg Try.prog 0 50 :=
  (h50x0s4 N).cut (A50x0x74 N) progOk (T118x0_ok N) fun L x hx => (raw50x0x74 N L).trans ((bind50x0x74 N ..).trans ((altS alt1) x hx))
noncomputable def F50x0x88 (N : Nat) (w1 : Int) (w10 : LD) (w17 : Int) (k0 : Bool → Option R) : Option R :=
  bif (decide (w1 > 0)) then
    bif (inB (IntKind.wrap .i64 (w1 - 1)) w10.length) then
      bnd ((w10.getD (IntKind.wrap .i64 (w1 - 1)).toNat (.i 0)).cell 0).toI fun y0 =>
      k0 (decide ((IntKind.wrap .i64 (w17 - y0)) < 32))
    else
      none
  else
    k0 false
noncomputable def G50x0x88 (w1 : Int) (w10 : LD) (w17 : Int) : Option (Bool) := F50x0x88 N w1 w10 w17 (fun p => some p)
theorem bind50x0x88 (w1 : Int) (w10 : LD) (w17 : Int) (k0 : Bool → Option R) : F50x0x88 N w1 w10 w17 k0 = (G50x0x88 N w1 w10 w17).bind k0 := by
  unfold G50x0x88 F50x0x88
  repeat' (first | with_reducible apply cond_b | (with_reducible apply bnd_b; intro _) | rfl)
noncomputable def sh50x0x88 : Sh := { tmps := [(1, .c (.b)), (2, .c (.p 2 0)), (4, .c (.p 4 0)), (7, .c (.p 30 0)), (12, .c (.i .i64)), (13, .c (.p 13 0)), (125, .c (.sl 78)), (126, .c (.i .i64)), (127, .c (.i .i64))], mem := [(2, .box (.s :: [.i .i64, .i .i64, .sl 78, .sl 82, .sl 9])), (4, .box ([.sl 53])), (13, .box (rI 7 ([]))), (30, .box ([.o 166000000031, .b])), (166000000031, .row 53 true)] }
noncomputable def K50x0x88w0 (L : List Lf) (p : Bool) : Ex × St := (.normal, mg (ofSh sh50x0x88 L) [1, 2, 4, 7, 13, 125, 126, 127, 180] [(180, .c (.b p))] [2, 4, 13, 30, 166000000031] [])
noncomputable def A50x0x88 (L : List Lf) : List (Bool × (Ex × St)) := bnd (F50x0x88 N (li L 1) (ll L 10) (li L 17) (fun p => some p)) fun q => [(q.isSome, K50x0x88w0 L (q.getD default))]
theorem raw50x0x88 (L : List Lf) : pc Try.prog (T118x0 N) (h50x0s5 N).h 0 100 50 88 sh50x0x88 L [7, 2, 13, 127, 126, 125, 1, 4, 180] [13, 166000000031, 30, 4, 2] = F50x0x88 N (li L 1) (ll L 10) (li L 17) (fun p => some (K50x0x88w0 L p)) := by kernel_rfl
noncomputable def h50x0s6 : Sg Try.prog 0 50 :=
  (h50x0s5 N).cut (A50x0x88 N) progOk (T118x0_ok N) fun L x hx => (raw50x0x88 N L).trans ((bind50x0x88 N ..).trans (alt1 x hx))
noncomputable def F50x0x92 (N : Nat) (w5 : Bool) (w8 w17 : Int) (w26 : LD) (k0 : LD → Option R) : Option R :=
  bif w5 then
    bif (inB (IntKind.wrap .i64 ((w26.length : Int) - 1)) w26.length) then
      bif (decide ((IntKind.wrap .i64 ((w26.length : Int) - 1)).toNat < w26.length)) then
        bnd ((w26.getD (IntKind.wrap .i64 ((w26.length : Int) - 1)).toNat (.i 0)).cell 4).isNil fun y0 =>
        bnd (((w26.getD (IntKind.wrap .i64 ((w26.length : Int) - 1)).toNat (.i 0)).cell 4).items : List D) fun y1 =>
        bif ((decide (4 ≤ (y1.length : Int))) && (decide ((y1.length : Int) ≤ (y1.length : Int)))) then
          bif (decide ((IntKind.wrap .i64 ((w26.length : Int) - 1)).toNat < w26.length)) then
            bnd ((w26.set (IntKind.wrap .i64 ((w26.length : Int) - 1)).toNat (.a [(.i 3), (.i ((w26.getD (IntKind.wrap .i64 ((w26.length : Int) - 1)).toNat (.i 0)).cell 1).toI), (.i ((w26.getD (IntKind.wrap .i64 ((w26.length : Int) - 1)).toNat (.i 0)).cell 2).toI), (.l ((w26.getD (IntKind.wrap .i64 ((w26.length : Int) - 1)).toNat (.i 0)).cell 3).isNil ((w26.getD (IntKind.wrap .i64 ((w26.length : Int) - 1)).toNat (.i 0)).cell 3).items), (.l ((w26.getD (IntKind.wrap .i64 ((w26.length : Int) - 1)).toNat (.i 0)).cell 4).isNil ((w26.getD (IntKind.wrap .i64 ((w26.length : Int) - 1)).toNat (.i 0)).cell 4).items)])) : List D) fun y2 =>
            bif (decide ((IntKind.wrap .i64 ((w26.length : Int) - 1)).toNat < y2.length)) then
              bnd ((y2.set (IntKind.wrap .i64 ((w26.length : Int) - 1)).toNat (.a [(.i ((y2.getD (IntKind.wrap .i64 ((w26.length : Int) - 1)).toNat (.i 0)).cell 0).toI), (.i ((y2.getD (IntKind.wrap .i64 ((w26.length : Int) - 1)).toNat (.i 0)).cell 1).toI), (.i ((IntKind.wrap .i64 (w8 + w17)).tmod 32)), (.l ((y2.getD (IntKind.wrap .i64 ((w26.length : Int) - 1)).toNat (.i 0)).cell 3).isNil ((y2.getD (IntKind.wrap .i64 ((w26.length : Int) - 1)).toNat (.i 0)).cell 3).items), (.l ((y2.getD (IntKind.wrap .i64 ((w26.length : Int) - 1)).toNat (.i 0)).cell 4).isNil ((y2.getD (IntKind.wrap .i64 ((w26.length : Int) - 1)).toNat (.i 0)).cell 4).items)])) : List D) fun y3 =>
              bif (decide ((IntKind.wrap .i64 ((w26.length : Int) - 1)).toNat < y3.length)) then
                bnd ((y3.set (IntKind.wrap .i64 ((w26.length : Int) - 1)).toNat (.a [(.i ((y3.getD (IntKind.wrap .i64 ((w26.length : Int) - 1)).toNat (.i 0)).cell 0).toI), (.i ((y3.getD (IntKind.wrap .i64 ((w26.length : Int) - 1)).toNat (.i 0)).cell 1).toI), (.i ((y3.getD (IntKind.wrap .i64 ((w26.length : Int) - 1)).toNat (.i 0)).cell 2).toI), (.l ((y3.getD (IntKind.wrap .i64 ((w26.length : Int) - 1)).toNat (.i 0)).cell 3).isNil ((y3.getD (IntKind.wrap .i64 ((w26.length : Int) - 1)).toNat (.i 0)).cell 3).items), (.l y0 ((y1.take (y1.length : Int).toNat).drop 4))])) : List D) fun y4 =>
                k0 y4
              else
                none
            else
              none
          else
            none
        else
          none
      else
        none
    else
      none
  else
    k0 w26
noncomputable def G50x0x92 (w5 : Bool) (w8 w17 : Int) (w26 : LD) : Option (LD) := F50x0x92 N w5 w8 w17 w26 (fun p => some p)
theorem bind50x0x92 (w5 : Bool) (w8 w17 : Int) (w26 : LD) (k0 : LD → Option R) : F50x0x92 N w5 w8 w17 w26 k0 = (G50x0x92 N w5 w8 w17 w26).bind k0 := by
  unfold G50x0x92 F50x0x92
  repeat' (first | with_reducible apply cond_b | (with_reducible apply bnd_b; intro _) | rfl)
noncomputable def J50x0x92 (L : List Lf) (k0 : LD → Option R) : Option R := F50x0x92 N (lb L 5) (li L 8) (li L 17) (ll L 26) k0
noncomputable def sh50x0x92 : Sh := { tmps := [(1, .c (.b)), (2, .c (.p 2 0)), (4, .c (.p 4 0)), (7, .c (.p 30 0)), (13, .c (.p 13 0)), (125, .c (.sl 78)), (126, .c (.i .i64)), (127, .c (.i .i64)), (180, .c (.b))], mem := [(2, .box (.s :: [.i .i64, .i .i64, .sl 78, .sl 82, .sl 9])), (4, .box ([.sl 53])), (13, .box (rI 7 ([]))), (30, .box ([.o 166000000031, .b])), (166000000031, .row 53 true)] }
noncomputable def K50x0x92w0 (L : List Lf) (p : LD) : Ex × St := (.normal, mg (ofSh sh50x0x92 L) [1, 2, 4, 7, 125, 126, 127] [] [2, 4, 30, 166000000031] [(166000000031, .row 53 true (lb L 25) p)])
noncomputable def A50x0x92 (L : List Lf) : List (Bool × (Ex × St)) := bnd (J50x0x92 N L (fun p => some p)) fun q => [(q.isSome, K50x0x92w0 L (q.getD default))]
theorem raw50x0x92 (L : List Lf) : pc Try.prog (T118x0 N) (h50x0s6 N).h 0 100 50 92 sh50x0x92 L [127, 126, 125, 7, 2, 1, 4] [166000000031, 30, 4, 2] = J50x0x92 N L (fun p => some (K50x0x92w0 L p)) := by kernel_rfl
noncomputable def h50x0s7 : Sg Try.prog 0 50 :=
  (h50x0s6 N).cut (A50x0x92 N) progOk (T118x0_ok N) fun L x hx => (raw50x0x92 N L).trans ((bind50x0x92 N ..).trans (alt1 x hx))
noncomputable def S50x0x78 (w0 : Bool) (w2 : LD) (w3 w7 : Int) (w9 : LD) (w16 : Bool) (w4 : Int) (w17 : Bool) (w18 : LD) (kr : Int → Bool → LD → Option R) (k0 : Bool × LD → Option R) : Option R :=
  bif (decide (w4 < w3)) then
    bif (inB w4 w2.length) then
      bnd (IntKind.wrap .i64 (w7 + ((w2.getD w4.toNat (.i 0)).cell 0).toI)) fun y0 =>
      bnd (G116x0 N y0 4 w16) fun y1 =>
      bif y1.isSome then
        bnd (G69x0 N ((w2.getD w4.toNat (.i 0)).cell 1).toI 4 w0) fun y2 =>
        bif y2.isSome then
          bnd (G69x0 N ((w2.getD w4.toNat (.i 0)).cell 2).toI 4 w0) fun y3 =>
          bif y3.isSome then
            bnd (G69x0 N ((w2.getD w4.toNat (.i 0)).cell 3).toI 4 w0) fun y4 =>
            bif y4.isSome then
              bnd (G116x0 N ((w2.getD w4.toNat (.i 0)).cell 4).toI 2 w16) fun y5 =>
              bif y5.isSome then
                bnd (G116x0 N ((w2.getD w4.toNat (.i 0)).cell 5).toI 2 w16) fun y6 =>
                bif y6.isSome then
                  bnd (G116x0 N ((w2.getD w4.toNat (.i 0)).cell 6).toI 2 w16) fun y7 =>
                  bif y7.isSome then
                    bnd (G115x0 N 1 [(.l false (y1.getD default)), (.l false (y2.getD default)), (.l false (y3.getD default)), (.l false (y4.getD default)), (.l false (y5.getD default)), (.l false (y6.getD default)), (.l false (y7.getD default))] w18) fun y8 =>
                    bif y8.isSome then
                      bnd (G50x0x88 N w4 w9 ((w2.getD w4.toNat (.i 0)).cell 0).toI) fun y9 =>
                      bif y9.isSome then
                        bnd (G50x0x92 N (y9.getD default) w7 ((w2.getD w4.toNat (.i 0)).cell 0).toI (y8.getD default)) fun y10 =>
                        bif y10.isSome then
                          kr (IntKind.wrap .i64 (w4 + 1)) false (y10.getD default)
                        else
                          none
                      else
                        none
                    else
                      none
                  else
                    none
                else
                  none
              else
                none
            else
              none
          else
            none
        else
          none
      else
        none
    else
      none
  else
    k0 (w17, w18)
noncomputable def L50x0x78 (N : Nat) {R : Type} (w0 : Bool) (w2 : LD) (w3 w7 : Int) (w9 : LD) (w16 : Bool) : Nat → Int → Bool → LD → (Bool × LD → Option R) → Option R
  | 0, _, _, _, _ => none
  | m + 1, w4, w17, w18, k0 => S50x0x78 N w0 w2 w3 w7 w9 w16 w4 w17 w18 (fun w4 w17 w18 => L50x0x78 N w0 w2 w3 w7 w9 w16 m w4 w17 w18 k0) k0
noncomputable def G50x0x78 (w0 : Bool) (w2 : LD) (w3 w7 : Int) (w9 : LD) (w16 : Bool) (w4 : Int) (w17 : Bool) (w18 : LD) : Option (Bool × LD) := L50x0x78 N (R := (Bool × LD)) w0 w2 w3 w7 w9 w16 N w4 w17 w18 (fun p => some p)
noncomputable def J50x0x78 (L x : List Lf) (kr : List Lf → Option R) (k0 : Bool × LD → Option R) : Option R := S50x0x78 N (lb L 0) (ll L 2) (li L 3) (li L 7) (ll L 9) (lb L 16) (li x 0) (lb x 1) (ll x 2) (fun w4 w17 w18 => kr [.i w4, .b w17, .l w18]) k0
theorem sb50x0x78 (L x : List Lf) (kr : List Lf → Option R) (k0 : Bool × LD → Option R) : J50x0x78 N L x kr k0 = (J50x0x78 N L x (fun y => some (.inl y)) (fun p => some (.inr p))).bind (sumE kr k0) := by
  unfold J50x0x78 S50x0x78
  repeat' (first | with_reducible apply cond_b | (with_reducible apply bnd_b; intro _) | rfl)
noncomputable def Q50x0x78 (L : List Lf) (m : Nat) (x : List Lf) : Option (Bool × LD) := L50x0x78 N (R := (Bool × LD)) (lb L 0) (ll L 2) (li L 3) (li L 7) (ll L 9) (lb L 16) m (li x 0) (lb x 1) (ll x 2) (fun p => some p)
noncomputable def sh50x0x78 : Sh := { tmps := [(1, .c (.b)), (2, .c (.p 2 0)), (4, .c (.p 4 0)), (7, .c (.p 30 0)), (125, .c (.sl 78)), (126, .c (.i .i64)), (127, .c (.i .i64))], mem := [(2, .box (.s :: [.i .i64, .i .i64, .sl 78, .sl 82, .sl 9])), (4, .box ([.sl 53])), (30, .box ([.o 50030000, .b])), (50030000, .row 53 true)] }
noncomputable def K50x0x78w0 (L : List Lf) (p : Bool × LD) : Ex × St := ((.exit 4), mg (ofSh sh50x0x78 L) [4, 7] [] [4, 30, 50030000] [(50030000, .row 53 true p.1 p.2)])
noncomputable def A50x0x78 (L : List Lf) : List (Bool × (Ex × St)) := bnd (Q50x0x78 N L N (pk sh50x0x78 [4, 17, 18] L)) fun q => [(q.isSome, K50x0x78w0 L (q.getD default))]
theorem step50x0x78 (m : Nat) (kn : St → Option (Ex × St)) (L x : List Lf) : lpB Try.prog (T118x0 N) (h50x0s7 N).h 0 50 78 sh50x0x78 [4, 17, 18] [4, 5, 7] [50030000, 30, 4] (m + 100) kn L x = J50x0x78 N L x (fun y => kn (ofSh sh50x0x78 (mx sh50x0x78 [4, 17, 18] L y))) (fun p => some (K50x0x78w0 L p)) := by kernel_rfl
theorem ql50x0x78 (L : List Lf) (m : Nat) (x : List Lf) : Q50x0x78 N L (m + 1) x = J50x0x78 N L x (Q50x0x78 N L m) some := by kernel_rfl
noncomputable def h50x0s8 : Sg Try.prog 0 50 :=
  (h50x0s7 N).lp (A50x0x78 N) N progOk (T118x0_ok N) (fun m kn L x => (step50x0x78 N m kn L x).trans (sb50x0x78 N L x _ _)) (fun L m x => (ql50x0x78 N L m x).trans (sb50x0x78 N L x (Q50x0x78 N L m) some)) fun L x hx => alt1 x hx
noncomputable def F50x0 (v0 : LB) (v1 v2 : Int) (v4 v6 v8 : LD) (v9 : Bool) (k0 : Bool × LD × Int → Option R) : Option R :=
  bnd (G14x0 N v0 v1 v2 v4 v6 v8) fun y0 =>
  bif y0.isSome then
    bif ((y0.getD default) != 0) then
      k0 (true, [], (y0.getD default))
    else
      bnd (G111x0 N v4) fun y1 =>
      bif y1.isSome then
        bnd (decide ((IntKind.wrap .i64 (v2 + (y1.getD default))) > 4294967294)) fun y2 =>
        bif y2 then
          k0 (true, [], 9)
        else
          bnd (V112x0 N 0 0 false [(.a [(.i 253), (.i 4), (.i 0)]), (.a [(.i 1), (.i 60), (.i 2)]), (.a [(.i 2), (.i 1), (.i 0)])] v9) fun y3 =>
          bnd (G116x0 N v2 4 v9) fun y4 =>
          bif y4.isSome then
            bnd (G117x0 N v0) fun y5 =>
            bif y5.isSome then
              bnd (G116x0 N v1 1 v9) fun y6 =>
              bif y6.isSome then
                bnd (G115x0 N 0 [(.l false (y4.getD default)), (.l false (y5.getD default)), (.l false (y6.getD default))] y3) fun y7 =>
                bif y7.isSome then
                  bnd (G50x0x32 N (decide ((v8.length : Int) > 0)) v9 (y7.getD default)) fun y8 =>
                  bif (inlB y8) then
                    bnd (G50x0x36 N v8 (v8.length : Int) 0 false (inlV y8)) fun y9 =>
                    bif y9.isSome then
                      bnd (G50x0x53 N (decide ((v6.length : Int) > 0)) v9 (y9.getD default).2) fun y10 =>
                      bif (inlB y10) then
                        bnd (G50x0x57 N v6 (v6.length : Int) v2 v9 0 false (inlV y10)) fun y11 =>
                        bif y11.isSome then
                          bnd (G50x0x74 N (decide ((v4.length : Int) > 0)) v9 (y11.getD default).2) fun y12 =>
                          bif (inlB y12) then
                            bnd (G50x0x78 N v9 v4 (v4.length : Int) v2 v4 v9 0 false (inlV y12)) fun y13 =>
                            bif y13.isSome then
                              k0 ((y13.getD default).1, (y13.getD default).2, 0)
                            else
                              none
                          else
                            bif (inrQ y12).isSome then
                              bnd (G50x0x78 N v9 v4 (v4.length : Int) v2 v4 v9 0 (y11.getD default).1 (y11.getD default).2) fun y14 =>
                              bif y14.isSome then
                                k0 ((y14.getD default).1, (y14.getD default).2, 0)
                              else
                                none
                            else
                              none
                        else
                          none
                      else
                        bif (inrQ y10).isSome then
                          bnd (G50x0x57 N v6 (v6.length : Int) v2 v9 0 (y9.getD default).1 (y9.getD default).2) fun y15 =>
                          bif y15.isSome then
                            bnd (G50x0x74 N (decide ((v4.length : Int) > 0)) v9 (y15.getD default).2) fun y16 =>
                            bif (inlB y16) then
                              bnd (G50x0x78 N v9 v4 (v4.length : Int) v2 v4 v9 0 false (inlV y16)) fun y17 =>
                              bif y17.isSome then
                                k0 ((y17.getD default).1, (y17.getD default).2, 0)
                              else
                                none
                            else
                              bif (inrQ y16).isSome then
                                bnd (G50x0x78 N v9 v4 (v4.length : Int) v2 v4 v9 0 (y15.getD default).1 (y15.getD default).2) fun y18 =>
                                bif y18.isSome then
                                  k0 ((y18.getD default).1, (y18.getD default).2, 0)
                                else
                                  none
                              else
                                none
                          else
                            none
                        else
                          none
                    else
                      none
                  else
                    bif (inrQ y8).isSome then
                      bnd (G50x0x36 N v8 (v8.length : Int) 0 false (y7.getD default)) fun y19 =>
                      bif y19.isSome then
                        bnd (G50x0x53 N (decide ((v6.length : Int) > 0)) v9 (y19.getD default).2) fun y20 =>
                        bif (inlB y20) then
                          bnd (G50x0x57 N v6 (v6.length : Int) v2 v9 0 false (inlV y20)) fun y21 =>
                          bif y21.isSome then
                            bnd (G50x0x74 N (decide ((v4.length : Int) > 0)) v9 (y21.getD default).2) fun y22 =>
                            bif (inlB y22) then
                              bnd (G50x0x78 N v9 v4 (v4.length : Int) v2 v4 v9 0 false (inlV y22)) fun y23 =>
                              bif y23.isSome then
                                k0 ((y23.getD default).1, (y23.getD default).2, 0)
                              else
                                none
                            else
                              bif (inrQ y22).isSome then
                                bnd (G50x0x78 N v9 v4 (v4.length : Int) v2 v4 v9 0 (y21.getD default).1 (y21.getD default).2) fun y24 =>
                                bif y24.isSome then
                                  k0 ((y24.getD default).1, (y24.getD default).2, 0)
                                else
                                  none
                              else
                                none
                          else
                            none
                        else
                          bif (inrQ y20).isSome then
                            bnd (G50x0x57 N v6 (v6.length : Int) v2 v9 0 (y19.getD default).1 (y19.getD default).2) fun y25 =>
                            bif y25.isSome then
                              bnd (G50x0x74 N (decide ((v4.length : Int) > 0)) v9 (y25.getD default).2) fun y26 =>
                              bif (inlB y26) then
                                bnd (G50x0x78 N v9 v4 (v4.length : Int) v2 v4 v9 0 false (inlV y26)) fun y27 =>
                                bif y27.isSome then
                                  k0 ((y27.getD default).1, (y27.getD default).2, 0)
                                else
                                  none
                              else
                                bif (inrQ y26).isSome then
                                  bnd (G50x0x78 N v9 v4 (v4.length : Int) v2 v4 v9 0 (y25.getD default).1 (y25.getD default).2) fun y28 =>
                                  bif y28.isSome then
                                    k0 ((y28.getD default).1, (y28.getD default).2, 0)
                                  else
                                    none
                                else
                                  none
                            else
                              none
                          else
                            none
                      else
                        none
                    else
                      none
                else
                  none
              else
                none
            else
              none
          else
            none
      else
        none
  else
    none
noncomputable def G50x0 (v0 : LB) (v1 v2 : Int) (v4 v6 v8 : LD) (v9 : Bool) : Option (Bool × LD × Int) := F50x0 N v0 v1 v2 v4 v6 v8 v9 (fun p => some p)
theorem bind50x0 (v0 : LB) (v1 v2 : Int) (v4 v6 v8 : LD) (v9 : Bool) (k0 : Bool × LD × Int → Option R) : F50x0 N v0 v1 v2 v4 v6 v8 v9 k0 = (G50x0 N v0 v1 v2 v4 v6 v8 v9).bind k0 := by
  unfold G50x0 F50x0
  repeat' (first | with_reducible apply cond_b | (with_reducible apply bnd_b; intro _) | rfl)
noncomputable def J50x0 (L : List Lf) (k0 : Bool × LD × Int → Option R) : Option R := F50x0 N (ls L 0) (li L 1) (li L 2) (ll L 4) (ll L 6) (ll L 8) (lb L 9) k0
noncomputable def sh50x0 : Sh := { tmps := [(0, .g (.s :: [.i .i64, .i .i64, .sl 78, .sl 82, .sl 9])), (1, .c (.b))], mem := [] }
noncomputable def A50x0 (L : List Lf) : List (Bool × Res) := bnd (J50x0 N L (fun p => some p)) fun q => [(q.isSome, ([.g [.sl 53 (q.getD default).1 (q.getD default).2.1], .c (.i .i64 (q.getD default).2.2)], []))]
theorem raw50x0 (L : List Lf) : bd Try.prog (T118x0 N) (h50x0s8 N).h 50 sh50x0 L = J50x0 N L (fun p => some ([.g [.sl 53 p.1 p.2.1], .c (.i .i64 p.2.2)], [])) := by kernel_rfl
theorem ok50x0 : FnOk Try.prog 50 sh50x0 (A50x0 N) :=
  (h50x0s8 N).fn progOk (T118x0_ok N) fun L x hx => ((raw50x0 N L).trans ((bind50x0 N ..).trans (alt1 x hx)))
noncomputable def T50x0 : Oracle := ext 50 (spSh sh50x0 (A50x0 N)) (T118x0 N)
theorem T50x0_ok : OracleOk Try.prog (T50x0 N) := FnOk.to (ok50x0 N) (T118x0_ok N)
noncomputable def rg140x0 : List (Nat × List Nat) := [(0, [0, 1]), (1, [0, 1]), (2, []), (3, [0, 1]), (4, [13, 12, 0, 1]), (5, [13, 0, 1, 12]), (6, [0, 5, 1, 13, 12]), (7, []), (8, [13, 12, 0, 1]), (9, [])]
noncomputable def hd140x0 : Hints := [(12, [13, 12, 0, 1], [], [])]
noncomputable def h140x0s0 (N : Nat) : Sg Try.prog 0 140 := .start hd140x0 rg140x0
noncomputable def S140x0x12 (N : Nat) (w1 w3 : LD) (w4 : Int) (w5 : Int) (kr : Int → Option R) (k0 : Unit → Option R) (k1 : Unit → Option R) : Option R :=
  bif (decide (w5 < w4)) then
    bif (inB w5 w1.length) then
      bif (inB w5 w3.length) then
        bnd (!((((w1.getD w5.toNat (.i 0)).cell 0).toI == ((w3.getD w5.toNat (.i 0)).cell 0).toI) && ((((w1.getD w5.toNat (.i 0)).cell 1).toI == ((w3.getD w5.toNat (.i 0)).cell 1).toI) && ((((w1.getD w5.toNat (.i 0)).cell 2).toI == ((w3.getD w5.toNat (.i 0)).cell 2).toI) && true)))) fun y0 =>
        bif y0 then
          k0 ()
        else
          kr (IntKind.wrap .i64 (w5 + 1))
      else
        none
    else
      none
  else
    k1 ()
noncomputable def L140x0x12 (N : Nat) {R : Type} (w1 w3 : LD) (w4 : Int) : Nat → Int → (Unit → Option R) → (Unit → Option R) → Option R
  | 0, _, _, _ => none
  | m + 1, w5, k0, k1 => S140x0x12 N w1 w3 w4 w5 (fun w5 => L140x0x12 N w1 w3 w4 m w5 k0 k1) k0 k1
noncomputable def G140x0x12 (w1 w3 : LD) (w4 : Int) (w5 : Int) : Option (Sum (Unit) (Unit)) := L140x0x12 N (R := (Sum (Unit) (Unit))) w1 w3 w4 N w5 (fun p => some (.inl p)) (fun p => some (.inr p))
noncomputable def J140x0x12 (L x : List Lf) (kr : List Lf → Option R) (k0 : Unit → Option R) (k1 : Unit → Option R) : Option R := S140x0x12 N (ll L 1) (ll L 3) (li L 4) (li x 0) (fun w5 => kr [.i w5]) k0 k1
theorem sb140x0x12 (L x : List Lf) (kr : List Lf → Option R) (k0 : Unit → Option R) (k1 : Unit → Option R) : J140x0x12 N L x kr k0 k1 = (J140x0x12 N L x (fun y => some (.inl y)) (fun p => some (.inr (.inl p))) (fun p => some (.inr (.inr p)))).bind (sumE kr (sumE k0 k1)) := by
  unfold J140x0x12 S140x0x12
  repeat' (first | with_reducible apply cond_b | (with_reducible apply bnd_b; intro _) | rfl)
noncomputable def Q140x0x12 (L : List Lf) (m : Nat) (x : List Lf) : Option (Sum (Unit) (Unit)) := L140x0x12 N (R := (Sum (Unit) (Unit))) (ll L 1) (ll L 3) (li L 4) m (li x 0) (fun p => some (.inl p)) (fun p => some (.inr p))
noncomputable def sh140x0x12 : Sh := { tmps := [(0, .c (.sl 146)), (1, .c (.sl 146)), (12, .c (.i .i64)), (13, .c (.i .i64))], mem := [] }
noncomputable def A140x0x12 (L : List Lf) : List (Bool × (Ex × St)) := bnd (Q140x0x12 N L N (pk sh140x0x12 [5] L)) fun q => [((inlB q), (.ret, ⟨[(4, .c (.b false))], []⟩)), ((inrQ q).isSome, ((.exit 0), ⟨[], []⟩))]
theorem step140x0x12 (m : Nat) (kn : St → Option (Ex × St)) (L x : List Lf) : lpB Try.prog (T50x0 N) (h140x0s0 N).h 0 140 12 sh140x0x12 [5] [4] [] (m + 100) kn L x = J140x0x12 N L x (fun y => kn (ofSh sh140x0x12 (mx sh140x0x12 [5] L y))) (fun _ => some (.ret, ⟨[(4, .c (.b false))], []⟩)) (fun _ => some ((.exit 0), ⟨[], []⟩)) := by kernel_rfl
theorem ql140x0x12 (L : List Lf) (m : Nat) (x : List Lf) : Q140x0x12 N L (m + 1) x = J140x0x12 N L x (Q140x0x12 N L m) (fun p => some (.inl p)) (fun p => some (.inr p)) := by kernel_rfl
noncomputable def h140x0s1 : Sg Try.prog 0 140 :=
  (h140x0s0 N).lp (A140x0x12 N) N progOk (T50x0_ok N) (fun m kn L x => (step140x0x12 N m kn L x).trans (sb140x0x12 N L x _ _ _)) (fun L m x => (ql140x0x12 N L m x).trans (sb140x0x12 N L x (Q140x0x12 N L m) (fun p => some (.inl p)) (fun p => some (.inr p)))) fun L x hx => (altS alt1) x hx
noncomputable def F140x0 (v1 v3 : LD) (k0 : Bool → Option R) : Option R :=
  bif ((v1.length : Int) != (v3.length : Int)) then
    k0 false
  else
    bnd (G140x0x12 N v1 v3 (v1.length : Int) 0) fun y0 =>
    bif (inlB y0) then
      k0 false
    else
      bif (inrQ y0).isSome then
        k0 true
      else
        none
noncomputable def G140x0 (v1 v3 : LD) : Option (Bool) := F140x0 N v1 v3 (fun p => some p)
theorem bind140x0 (v1 v3 : LD) (k0 : Bool → Option R) : F140x0 N v1 v3 k0 = (G140x0 N v1 v3).bind k0 := by
  unfold G140x0 F140x0
  repeat' (first | with_reducible apply cond_b | (with_reducible apply bnd_b; intro _) | rfl)
noncomputable def sh140x0 : Sh := { tmps := [(0, .c (.sl 146)), (1, .c (.sl 146))], mem := [] }
noncomputable def A140x0 (L : List Lf) : List (Bool × Res) := bnd (F140x0 N (ll L 1) (ll L 3) (fun p => some p)) fun q => [(q.isSome, ([.c (.b (q.getD default))], []))]
theorem raw140x0 (L : List Lf) : bd Try.prog (T50x0 N) (h140x0s1 N).h 140 sh140x0 L = F140x0 N (ll L 1) (ll L 3) (fun p => some ([.c (.b p)], [])) := by kernel_rfl
theorem ok140x0 : FnOk Try.prog 140 sh140x0 (A140x0 N) :=
  (h140x0s1 N).fn progOk (T50x0_ok N) fun L x hx => ((raw140x0 N L).trans ((bind140x0 N ..).trans (alt1 x hx)))
noncomputable def T140x0 : Oracle := ext 140 (spSh sh140x0 (A140x0 N)) (T50x0 N)
theorem T140x0_ok : OracleOk Try.prog (T140x0 N) := FnOk.to (ok140x0 N) (T50x0_ok N)
noncomputable def rg104x0 : List (Nat × List Nat) := [(0, [0, 1]), (1, [2, 3])]
noncomputable def hd104x0 : Hints := [(4, [2, 3], [3, 2], [])]
noncomputable def h104x0s0 (N : Nat) : Sg Try.prog 0 104 := .start hd104x0 rg104x0
noncomputable def F104x0x4 (w0 : Bool) (w1 : Int) (w3 : LD) (w4 : Bool) (w5 : Int) (w7 : LD) (k0 : Bool → Option R) : Option R :=
  bif (bif (w0 == w4) then (w1 == w5) else false) then
    bnd (G140x0 N w3 w7) fun y0 =>
    bif y0.isSome then
      k0 (y0.getD default)
    else
      none
  else
    k0 false
noncomputable def G104x0x4 (w0 : Bool) (w1 : Int) (w3 : LD) (w4 : Bool) (w5 : Int) (w7 : LD) : Option (Bool) := F104x0x4 N w0 w1 w3 w4 w5 w7 (fun p => some p)
theorem bind104x0x4 (w0 : Bool) (w1 : Int) (w3 : LD) (w4 : Bool) (w5 : Int) (w7 : LD) (k0 : Bool → Option R) : F104x0x4 N w0 w1 w3 w4 w5 w7 k0 = (G104x0x4 N w0 w1 w3 w4 w5 w7).bind k0 := by
  unfold G104x0x4 F104x0x4
  repeat' (first | with_reducible apply cond_b | (with_reducible apply bnd_b; intro _) | rfl)
noncomputable def J104x0x4 (L : List Lf) (k0 : Bool → Option R) : Option R := F104x0x4 N (lb L 0) (li L 1) (ll L 3) (lb L 4) (li L 5) (ll L 7) k0
noncomputable def sh104x0x4 : Sh := { tmps := [(2, .c (.p 2 0)), (3, .c (.p 3 0))], mem := [(2, .box ([.b, .i .i64, .sl 146])), (3, .box ([.b, .i .i64, .sl 146]))] }
noncomputable def A104x0x4 (L : List Lf) : List (Bool × (Ex × St)) := bnd (J104x0x4 N L (fun p => some p)) fun q => [(q.isSome, (.normal, ⟨[(4, .c (.b (q.getD default)))], []⟩))]
theorem raw104x0x4 (L : List Lf) : pc Try.prog (T140x0 N) (h104x0s0 N).h 0 100 104 4 sh104x0x4 L [4] [] = J104x0x4 N L (fun p => some (.normal, ⟨[(4, .c (.b p))], []⟩)) := by kernel_rfl
noncomputable def h104x0s1 : Sg Try.prog 0 104 :=
  (h104x0s0 N).cut (A104x0x4 N) progOk (T140x0_ok N) fun L x hx => (raw104x0x4 N L).trans ((bind104x0x4 N ..).trans (alt1 x hx))
noncomputable def F104x0 (v0 : Bool) (v1 : Int) (v3 : LD) (v4 : Bool) (v5 : Int) (v7 : LD) (k0 : Bool → Option R) : Option R :=
  bnd (G104x0x4 N v0 v1 v3 v4 v5 v7) fun y0 =>
  bif y0.isSome then
    k0 (y0.getD default)
  else
    none
noncomputable def G104x0 (v0 : Bool) (v1 : Int) (v3 : LD) (v4 : Bool) (v5 : Int) (v7 : LD) : Option (Bool) := F104x0 N v0 v1 v3 v4 v5 v7 (fun p => some p)
theorem bind104x0 (v0 : Bool) (v1 : Int) (v3 : LD) (v4 : Bool) (v5 : Int) (v7 : LD) (k0 : Bool → Option R) : F104x0 N v0 v1 v3 v4 v5 v7 k0 = (G104x0 N v0 v1 v3 v4 v5 v7).bind k0 := by
  unfold G104x0 F104x0
  repeat' (first | with_reducible apply cond_b | (with_reducible apply bnd_b; intro _) | rfl)
noncomputable def J104x0 (L : List Lf) (k0 : Bool → Option R) : Option R := F104x0 N (lb L 0) (li L 1) (ll L 3) (lb L 4) (li L 5) (ll L 7) k0
noncomputable def sh104x0 : Sh := { tmps := [(0, .g ([.b, .i .i64, .sl 146])), (1, .g ([.b, .i .i64, .sl 146]))], mem := [] }
noncomputable def A104x0 (L : List Lf) : List (Bool × Res) := bnd (J104x0 N L (fun p => some p)) fun q => [(q.isSome, ([.c (.b (q.getD default))], []))]
theorem raw104x0 (L : List Lf) : bd Try.prog (T140x0 N) (h104x0s1 N).h 104 sh104x0 L = J104x0 N L (fun p => some ([.c (.b p)], [])) := by kernel_rfl
theorem ok104x0 : FnOk Try.prog 104 sh104x0 (A104x0 N) :=
  (h104x0s1 N).fn progOk (T140x0_ok N) fun L x hx => ((raw104x0 N L).trans ((bind104x0 N ..).trans (alt1 x hx)))
noncomputable def T104x0 : Oracle := ext 104 (spSh sh104x0 (A104x0 N)) (T140x0 N)
theorem T104x0_ok : OracleOk Try.prog (T104x0 N) := FnOk.to (ok104x0 N) (T140x0_ok N)
noncomputable def rg103x0 : List (Nat × List Nat) := [(0, [0, 1, 2]), (1, [0, 1, 2]), (2, []), (3, [0, 1, 2]), (4, [17, 16, 15, 1, 2]), (5, [17, 15, 1, 2, 16]), (6, [1, 7, 2, 8, 17, 16, 15]), (7, [2, 8, 9, 17, 16, 15, 1]), (8, []), (9, [17, 16, 15, 1, 2]), (10, [])]
noncomputable def hd103x0 : Hints := [(12, [17, 16, 15, 1, 2], [], [])]
noncomputable def h103x0s0 (N : Nat) : Sg Try.prog 0 103 := .start hd103x0 rg103x0
noncomputable def S103x0x12 (w1 w3 : LD) (w4 : Int) (w5 : Int) (kr : Int → Option R) (k0 : Unit → Option R) (k1 : Unit → Option R) : Option R :=
  bif (decide (w5 < w4)) then
    bif (inB w5 w3.length) then
      bif (inB w5 w1.length) then
        bnd (G104x0 N ((w3.getD w5.toNat (.i 0)).cell 0).toB ((w3.getD w5.toNat (.i 0)).cell 1).toI ((w3.getD w5.toNat (.i 0)).cell 2).items ((w1.getD w5.toNat (.i 0)).cell 0).toB ((w1.getD w5.toNat (.i 0)).cell 1).toI ((w1.getD w5.toNat (.i 0)).cell 2).items) fun y0 =>
        bif y0.isSome then
          bif (!(y0.getD default)) then
            k0 ()
          else
            kr (IntKind.wrap .i64 (w5 + 1))
        else
          none
      else
        none
    else
      none
  else
    k1 ()
noncomputable def L103x0x12 (N : Nat) {R : Type} (w1 w3 : LD) (w4 : Int) : Nat → Int → (Unit → Option R) → (Unit → Option R) → Option R
  | 0, _, _, _ => none
  | m + 1, w5, k0, k1 => S103x0x12 N w1 w3 w4 w5 (fun w5 => L103x0x12 N w1 w3 w4 m w5 k0 k1) k0 k1
noncomputable def G103x0x12 (w1 w3 : LD) (w4 : Int) (w5 : Int) : Option (Sum (Unit) (Unit)) := L103x0x12 N (R := (Sum (Unit) (Unit))) w1 w3 w4 N w5 (fun p => some (.inl p)) (fun p => some (.inr p))
noncomputable def J103x0x12 (L x : List Lf) (kr : List Lf → Option R) (k0 : Unit → Option R) (k1 : Unit → Option R) : Option R := S103x0x12 N (ll L 1) (ll L 3) (li L 4) (li x 0) (fun w5 => kr [.i w5]) k0 k1
theorem sb103x0x12 (L x : List Lf) (kr : List Lf → Option R) (k0 : Unit → Option R) (k1 : Unit → Option R) : J103x0x12 N L x kr k0 k1 = (J103x0x12 N L x (fun y => some (.inl y)) (fun p => some (.inr (.inl p))) (fun p => some (.inr (.inr p)))).bind (sumE kr (sumE k0 k1)) := by
  unfold J103x0x12 S103x0x12
  repeat' (first | with_reducible apply cond_b | (with_reducible apply bnd_b; intro _) | rfl)
noncomputable def Q103x0x12 (L : List Lf) (m : Nat) (x : List Lf) : Option (Sum (Unit) (Unit)) := L103x0x12 N (R := (Sum (Unit) (Unit))) (ll L 1) (ll L 3) (li L 4) m (li x 0) (fun p => some (.inl p)) (fun p => some (.inr p))
noncomputable def sh103x0x12 : Sh := { tmps := [(1, .c (.sl 103)), (2, .c (.f 104 [])), (15, .c (.sl 103)), (16, .c (.i .i64)), (17, .c (.i .i64))], mem := [] }
noncomputable def A103x0x12 (L : List Lf) : List (Bool × (Ex × St)) := bnd (Q103x0x12 N L N (pk sh103x0x12 [5] L)) fun q => [((inlB q), (.ret, ⟨[(6, .c (.b false))], []⟩)), ((inrQ q).isSome, ((.exit 0), ⟨[], []⟩))]
theorem step103x0x12 (m : Nat) (kn : St → Option (Ex × St)) (L x : List Lf) : lpB Try.prog (T104x0 N) (h103x0s0 N).h 0 103 12 sh103x0x12 [5] [6] [] (m + 100) kn L x = J103x0x12 N L x (fun y => kn (ofSh sh103x0x12 (mx sh103x0x12 [5] L y))) (fun _ => some (.ret, ⟨[(6, .c (.b false))], []⟩)) (fun _ => some ((.exit 0), ⟨[], []⟩)) := by kernel_rfl
theorem ql103x0x12 (L : List Lf) (m : Nat) (x : List Lf) : Q103x0x12 N L (m + 1) x = J103x0x12 N L x (Q103x0x12 N L m) (fun p => some (.inl p)) (fun p => some (.inr p)) := by kernel_rfl
noncomputable def h103x0s1 : Sg Try.prog 0 103 :=
  (h103x0s0 N).lp (A103x0x12 N) N progOk (T104x0_ok N) (fun m kn L x => (step103x0x12 N m kn L x).trans (sb103x0x12 N L x _ _ _)) (fun L m x => (ql103x0x12 N L m x).trans (sb103x0x12 N L x (Q103x0x12 N L m) (fun p => some (.inl p)) (fun p => some (.inr p)))) fun L x hx => (altS alt1) x hx
noncomputable def F103x0 (v1 v3 : LD) (k0 : Bool → Option R) : Option R :=
  bif ((v1.length : Int) != (v3.length : Int)) then
    k0 false
  else
    bnd (G103x0x12 N v3 v1 (v1.length : Int) 0) fun y0 =>
    bif (inlB y0) then
      k0 false
    else
      bif (inrQ y0).isSome then
        k0 true
      else
        none
noncomputable def G103x0 (v1 v3 : LD) : Option (Bool) := F103x0 N v1 v3 (fun p => some p)
theorem bind103x0 (v1 v3 : LD) (k0 : Bool → Option R) : F103x0 N v1 v3 k0 = (G103x0 N v1 v3).bind k0 := by
  unfold G103x0 F103x0
  repeat' (first | with_reducible apply cond_b | (with_reducible apply bnd_b; intro _) | rfl)
noncomputable def sh103x0 : Sh := { tmps := [(0, .c (.sl 103)), (1, .c (.sl 103)), (2, .c (.f 104 []))], mem := [] }
noncomputable def A103x0 (L : List Lf) : List (Bool × Res) := bnd (F103x0 N (ll L 1) (ll L 3) (fun p => some p)) fun q => [(q.isSome, ([.c (.b (q.getD default))], []))]
theorem raw103x0 (L : List Lf) : bd Try.prog (T104x0 N) (h103x0s1 N).h 103 sh103x0 L = F103x0 N (ll L 1) (ll L 3) (fun p => some ([.c (.b p)], [])) := by kernel_rfl
theorem ok103x0 : FnOk Try.prog 103 sh103x0 (A103x0 N) :=
  (h103x0s1 N).fn progOk (T104x0_ok N) fun L x hx => ((raw103x0 N L).trans ((bind103x0 N ..).trans (alt1 x hx)))
noncomputable def T103x0 : Oracle := ext 103 (spSh sh103x0 (A103x0 N)) (T104x0 N)
theorem T103x0_ok : OracleOk Try.prog (T103x0 N) := FnOk.to (ok103x0 N) (T104x0_ok N)
noncomputable def rg25x0 : List (Nat × List Nat) := [(0, [0, 1]), (1, [0, 1]), (2, []), (3, [0, 1]), (4, [13, 12, 0, 1]), (5, [13, 0, 1, 12]), (6, [0, 5, 1, 13, 12]), (7, []), (8, [13, 12, 0, 1]), (9, [])]
noncomputable def hd25x0 : Hints := [(12, [13, 12, 0, 1], [], [])]
noncomputable def h25x0s0 (N : Nat) : Sg Try.prog 0 25 := .start hd25x0 rg25x0
noncomputable def S25x0x12 (N : Nat) (w1 w3 : LD) (w4 : Int) (w5 : Int) (kr : Int → Option R) (k0 : Unit → Option R) (k1 : Unit → Option R) : Option R :=
  bif (decide (w5 < w4)) then
    bif (inB w5 w1.length) then
      bif (inB w5 w3.length) then
        bnd ((w1.getD w5.toNat (.i 0)).toI != (w3.getD w5.toNat (.i 0)).toI) fun y0 =>
        bif y0 then
          k0 ()
        else
          kr (IntKind.wrap .i64 (w5 + 1))
      else
        none
    else
      none
  else
    k1 ()
noncomputable def L25x0x12 (N : Nat) {R : Type} (w1 w3 : LD) (w4 : Int) : Nat → Int → (Unit → Option R) → (Unit → Option R) → Option R
  | 0, _, _, _ => none
  | m + 1, w5, k0, k1 => S25x0x12 N w1 w3 w4 w5 (fun w5 => L25x0x12 N w1 w3 w4 m w5 k0 k1) k0 k1
noncomputable def G25x0x12 (w1 w3 : LD) (w4 : Int) (w5 : Int) : Option (Sum (Unit) (Unit)) := L25x0x12 N (R := (Sum (Unit) (Unit))) w1 w3 w4 N w5 (fun p => some (.inl p)) (fun p => some (.inr p))
noncomputable def J25x0x12 (L x : List Lf) (kr : List Lf → Option R) (k0 : Unit → Option R) (k1 : Unit → Option R) : Option R := S25x0x12 N (ll L 1) (ll L 3) (li L 4) (li x 0) (fun w5 => kr [.i w5]) k0 k1
theorem sb25x0x12 (L x : List Lf) (kr : List Lf → Option R) (k0 : Unit → Option R) (k1 : Unit → Option R) : J25x0x12 N L x kr k0 k1 = (J25x0x12 N L x (fun y => some (.inl y)) (fun p => some (.inr (.inl p))) (fun p => some (.inr (.inr p)))).bind (sumE kr (sumE k0 k1)) := by
  unfold J25x0x12 S25x0x12
  repeat' (first | with_reducible apply cond_b | (with_reducible apply bnd_b; intro _) | rfl)
noncomputable def Q25x0x12 (L : List Lf) (m : Nat) (x : List Lf) : Option (Sum (Unit) (Unit)) := L25x0x12 N (R := (Sum (Unit) (Unit))) (ll L 1) (ll L 3) (li L 4) m (li x 0) (fun p => some (.inl p)) (fun p => some (.inr p))
noncomputable def sh25x0x12 : Sh := { tmps := [(0, .c (.sl 5)), (1, .c (.sl 5)), (12, .c (.i .i64)), (13, .c (.i .i64))], mem := [] }
noncomputable def A25x0x12 (L : List Lf) : List (Bool × (Ex × St)) := bnd (Q25x0x12 N L N (pk sh25x0x12 [5] L)) fun q => [((inlB q), (.ret, ⟨[(4, .c (.b false))], []⟩)), ((inrQ q).isSome, ((.exit 0), ⟨[], []⟩))]
theorem step25x0x12 (m : Nat) (kn : St → Option (Ex × St)) (L x : List Lf) : lpB Try.prog (T103x0 N) (h25x0s0 N).h 0 25 12 sh25x0x12 [5] [4] [] (m + 100) kn L x = J25x0x12 N L x (fun y => kn (ofSh sh25x0x12 (mx sh25x0x12 [5] L y))) (fun _ => some (.ret, ⟨[(4, .c (.b false))], []⟩)) (fun _ => some ((.exit 0), ⟨[], []⟩)) := by kernel_rfl
theorem ql25x0x12 (L : List Lf) (m : Nat) (x : List Lf) : Q25x0x12 N L (m + 1) x = J25x0x12 N L x (Q25x0x12 N L m) (fun p => some (.inl p)) (fun p => some (.inr p)) := by kernel_rfl
noncomputable def h25x0s1 : Sg Try.prog 0 25 :=
  (h25x0s0 N).lp (A25x0x12 N) N progOk (T103x0_ok N) (fun m kn L x => (step25x0x12 N m kn L x).trans (sb25x0x12 N L x _ _ _)) (fun L m x => (ql25x0x12 N L m x).trans (sb25x0x12 N L x (Q25x0x12 N L m) (fun p => some (.inl p)) (fun p => some (.inr p)))) fun L x hx => (altS alt1) x hx
noncomputable def F25x0 (v1 v3 : LD) (k0 : Bool → Option R) : Option R :=
  bif ((v1.length : Int) != (v3.length : Int)) then
    k0 false
  else
    bnd (G25x0x12 N v1 v3 (v1.length : Int) 0) fun y0 =>
    bif (inlB y0) then
      k0 false
    else
      bif (inrQ y0).isSome then
        k0 true
      else
        none
noncomputable def G25x0 (v1 v3 : LD) : Option (Bool) := F25x0 N v1 v3 (fun p => some p)
theorem bind25x0 (v1 v3 : LD) (k0 : Bool → Option R) : F25x0 N v1 v3 k0 = (G25x0 N v1 v3).bind k0 := by
  unfold G25x0 F25x0
  repeat' (first | with_reducible apply cond_b | (with_reducible apply bnd_b; intro _) | rfl)
noncomputable def sh25x0 : Sh := { tmps := [(0, .c (.sl 5)), (1, .c (.sl 5))], mem := [] }
noncomputable def A25x0 (L : List Lf) : List (Bool × Res) := bnd (F25x0 N (ll L 1) (ll L 3) (fun p => some p)) fun q => [(q.isSome, ([.c (.b (q.getD default))], []))]
theorem raw25x0 (L : List Lf) : bd Try.prog (T103x0 N) (h25x0s1 N).h 25 sh25x0 L = F25x0 N (ll L 1) (ll L 3) (fun p => some ([.c (.b p)], [])) := by kernel_rfl
theorem ok25x0 : FnOk Try.prog 25 sh25x0 (A25x0 N) :=
  (h25x0s1 N).fn progOk (T103x0_ok N) fun L x hx => ((raw25x0 N L).trans ((bind25x0 N ..).trans (alt1 x hx)))
noncomputable def T25x0 : Oracle := ext 25 (spSh sh25x0 (A25x0 N)) (T103x0 N)
theorem T25x0_ok : OracleOk Try.prog (T25x0 N) := FnOk.to (ok25x0 N) (T103x0_ok N)
noncomputable def rg48x0 : List (Nat × List Nat) := [(0, [0, 1]), (1, [2, 3])]
noncomputable def hd48x0 : Hints := [(4, [2, 3], [3, 2], [])]
noncomputable def h48x0s0 (N : Nat) : Sg Try.prog 0 48 := .start hd48x0 rg48x0
noncomputable def F48x0x4 (w0 w1 w2 : Int) (w4 w6 : LD) (w7 w8 w9 : Int) (w11 w13 : LD) (k0 : Bool → Option R) : Option R :=
  bnd (bif (bif (w0 == w7) then (w1 == w8) else false) then (w2 == w9) else false) fun y0 =>
  bif y0 then
    bnd (G103x0 N w4 w11) fun y1 =>
    bif y1.isSome then
      bif (y1.getD default) then
        bnd (G25x0 N w6 w13) fun y2 =>
        bif y2.isSome then
          k0 (y2.getD default)
        else
          none
      else
        k0 false
    else
      none
  else
    k0 false
noncomputable def G48x0x4 (w0 w1 w2 : Int) (w4 w6 : LD) (w7 w8 w9 : Int) (w11 w13 : LD) : Option (Bool) := F48x0x4 N w0 w1 w2 w4 w6 w7 w8 w9 w11 w13 (fun p => some p)
theorem bind48x0x4 (w0 w1 w2 : Int) (w4 w6 : LD) (w7 w8 w9 : Int) (w11 w13 : LD) (k0 : Bool → Option R) : F48x0x4 N w0 w1 w2 w4 w6 w7 w8 w9 w11 w13 k0 = (G48x0x4 N w0 w1 w2 w4 w6 w7 w8 w9 w11 w13).bind k0 := by
  unfold G48x0x4 F48x0x4
  repeat' (first | with_reducible apply cond_b | (with_reducible apply bnd_b; intro _) | rfl)
noncomputable def J48x0x4 (L : List Lf) (k0 : Bool → Option R) : Option R := F48x0x4 N (li L 0) (li L 1) (li L 2) (ll L 4) (ll L 6) (li L 7) (li L 8) (li L 9) (ll L 11) (ll L 13) k0
noncomputable def sh48x0x4 : Sh := { tmps := [(2, .c (.p 2 0)), (3, .c (.p 3 0))], mem := [(2, .box ([.i .i64, .i .i64, .i .i64, .sl 103, .sl 5])), (3, .box ([.i .i64, .i .i64, .i .i64, .sl 103, .sl 5]))] }
noncomputable def A48x0x4 (L : List Lf) : List (Bool × (Ex × St)) := bnd (J48x0x4 N L (fun p => some p)) fun q => [(q.isSome, (.normal, ⟨[(4, .c (.b (q.getD default)))], []⟩))]
theorem raw48x0x4 (L : List Lf) : pc Try.prog (T25x0 N) (h48x0s0 N).h 0 100 48 4 sh48x0x4 L [4] [] = J48x0x4 N L (fun p => some (.normal, ⟨[(4, .c (.b p))], []⟩)) := by kernel_rfl
noncomputable def h48x0s1 : Sg Try.prog 0 48 :=
  (h48x0s0 N).cut (A48x0x4 N) progOk (T25x0_ok N) fun L x hx => (raw48x0x4 N L).trans ((bind48x0x4 N ..).trans (alt1 x hx))
noncomputable def F48x0 (v0 v1 v2 : Int) (v4 v6 : LD) (v7 v8 v9 : Int) (v11 v13 : LD) (k0 : Bool → Option R) : Option R :=
  bnd (G48x0x4 N v0 v1 v2 v4 v6 v7 v8 v9 v11 v13) fun y0 =>
  bif y0.isSome then
    k0 (y0.getD default)
  else
    none
noncomputable def G48x0 (v0 v1 v2 : Int) (v4 v6 : LD) (v7 v8 v9 : Int) (v11 v13 : LD) : Option (Bool) := F48x0 N v0 v1 v2 v4 v6 v7 v8 v9 v11 v13 (fun p => some p)
theorem bind48x0 (v0 v1 v2 : Int) (v4 v6 : LD) (v7 v8 v9 : Int) (v11 v13 : LD) (k0 : Bool → Option R) : F48x0 N v0 v1 v2 v4 v6 v7 v8 v9 v11 v13 k0 = (G48x0 N v0 v1 v2 v4 v6 v7 v8 v9 v11 v13).bind k0 := by
  unfold G48x0 F48x0
  repeat' (first | with_reducible apply cond_b | (with_reducible apply bnd_b; intro _) | rfl)
noncomputable def J48x0 (L : List Lf) (k0 : Bool → Option R) : Option R := F48x0 N (li L 0) (li L 1) (li L 2) (ll L 4) (ll L 6) (li L 7) (li L 8) (li L 9) (ll L 11) (ll L 13) k0
noncomputable def sh48x0 : Sh := { tmps := [(0, .g ([.i .i64, .i .i64, .i .i64, .sl 103, .sl 5])), (1, .g ([.i .i64, .i .i64, .i .i64, .sl 103, .sl 5]))], mem := [] }
noncomputable def A48x0 (L : List Lf) : List (Bool × Res) := bnd (J48x0 N L (fun p => some p)) fun q => [(q.isSome, ([.c (.b (q.getD default))], []))]
theorem raw48x0 (L : List Lf) : bd Try.prog (T25x0 N) (h48x0s1 N).h 48 sh48x0 L = J48x0 N L (fun p => some ([.c (.b p)], [])) := by kernel_rfl
theorem ok48x0 : FnOk Try.prog 48 sh48x0 (A48x0 N) :=
  (h48x0s1 N).fn progOk (T25x0_ok N) fun L x hx => ((raw48x0 N L).trans ((bind48x0 N ..).trans (alt1 x hx)))
noncomputable def T48x0 : Oracle := ext 48 (spSh sh48x0 (A48x0 N)) (T25x0 N)
theorem T48x0_ok : OracleOk Try.prog (T48x0 N) := FnOk.to (ok48x0 N) (T25x0_ok N)
noncomputable def rg77x0 : List (Nat × List Nat) := [(0, [0, 1, 2]), (1, [0, 1, 2]), (2, []), (3, [0, 1, 2]), (4, [17, 16, 15, 1, 2]), (5, [17, 15, 1, 2, 16]), (6, [1, 7, 2, 8, 17, 16, 15]), (7, [2, 8, 9, 17, 16, 15, 1]), (8, []), (9, [17, 16, 15, 1, 2]), (10, [])]
noncomputable def hd77x0 : Hints := [(12, [17, 16, 15, 1, 2], [], [])]
noncomputable def h77x0s0 (N : Nat) : Sg Try.prog 0 77 := .start hd77x0 rg77x0
noncomputable def S77x0x12 (w1 w3 : LD) (w4 : Int) (w5 : Int) (kr : Int → Option R) (k0 : Unit → Option R) (k1 : Unit → Option R) : Option R :=
  bif (decide (w5 < w4)) then
    bif (inB w5 w3.length) then
      bif (inB w5 w1.length) then
        bnd (G48x0 N ((w3.getD w5.toNat (.i 0)).cell 0).toI ((w3.getD w5.toNat (.i 0)).cell 1).toI ((w3.getD w5.toNat (.i 0)).cell 2).toI ((w3.getD w5.toNat (.i 0)).cell 3).items ((w3.getD w5.toNat (.i 0)).cell 4).items ((w1.getD w5.toNat (.i 0)).cell 0).toI ((w1.getD w5.toNat (.i 0)).cell 1).toI ((w1.getD w5.toNat (.i 0)).cell 2).toI ((w1.getD w5.toNat (.i 0)).cell 3).items ((w1.getD w5.toNat (.i 0)).cell 4).items) fun y0 =>
        bif y0.isSome then
          bif (!(y0.getD default)) then
            k0 ()
          else
            kr (IntKind.wrap .i64 (w5 + 1))
        else
          none
      else
        none
    else
      none
  else
    k1 ()
noncomputable def L77x0x12 (N : Nat) {R : Type} (w1 w3 : LD) (w4 : Int) : Nat → Int → (Unit → Option R) → (Unit → Option R) → Option R
  | 0, _, _, _ => none
  | m + 1, w5, k0, k1 => S77x0x12 N w1 w3 w4 w5 (fun w5 => L77x0x12 N w1 w3 w4 m w5 k0 k1) k0 k1
noncomputable def G77x0x12 (w1 w3 : LD) (w4 : Int) (w5 : Int) : Option (Sum (Unit) (Unit)) := L77x0x12 N (R := (Sum (Unit) (Unit))) w1 w3 w4 N w5 (fun p => some (.inl p)) (fun p => some (.inr p))
noncomputable def J77x0x12 (L x : List Lf) (kr : List Lf → Option R) (k0 : Unit → Option R) (k1 : Unit → Option R) : Option R := S77x0x12 N (ll L 1) (ll L 3) (li L 4) (li x 0) (fun w5 => kr [.i w5]) k0 k1
theorem sb77x0x12 (L x : List Lf) (kr : List Lf → Option R) (k0 : Unit → Option R) (k1 : Unit → Option R) : J77x0x12 N L x kr k0 k1 = (J77x0x12 N L x (fun y => some (.inl y)) (fun p => some (.inr (.inl p))) (fun p => some (.inr (.inr p)))).bind (sumE kr (sumE k0 k1)) := by
  unfold J77x0x12 S77x0x12
  repeat' (first | with_reducible apply cond_b | (with_reducible apply bnd_b; intro _) | rfl)
noncomputable def Q77x0x12 (L : List Lf) (m : Nat) (x : List Lf) : Option (Sum (Unit) (Unit)) := L77x0x12 N (R := (Sum (Unit) (Unit))) (ll L 1) (ll L 3) (li L 4) m (li x 0) (fun p => some (.inl p)) (fun p => some (.inr p))
noncomputable def sh77x0x12 : Sh := { tmps := [(1, .c (.sl 53)), (2, .c (.f 48 [])), (15, .c (.sl 53)), (16, .c (.i .i64)), (17, .c (.i .i64))], mem := [] }
noncomputable def A77x0x12 (L : List Lf) : List (Bool × (Ex × St)) := bnd (Q77x0x12 N L N (pk sh77x0x12 [5] L)) fun q => [((inlB q), (.ret, ⟨[(6, .c (.b false))], []⟩)), ((inrQ q).isSome, ((.exit 0), ⟨[], []⟩))]
theorem step77x0x12 (m : Nat) (kn : St → Option (Ex × St)) (L x : List Lf) : lpB Try.prog (T48x0 N) (h77x0s0 N).h 0 77 12 sh77x0x12 [5] [6] [] (m + 100) kn L x = J77x0x12 N L x (fun y => kn (ofSh sh77x0x12 (mx sh77x0x12 [5] L y))) (fun _ => some (.ret, ⟨[(6, .c (.b false))], []⟩)) (fun _ => some ((.exit 0), ⟨[], []⟩)) := by kernel_rfl
theorem ql77x0x12 (L : List Lf) (m : Nat) (x : List Lf) : Q77x0x12 N L (m + 1) x = J77x0x12 N L x (Q77x0x12 N L m) (fun p => some (.inl p)) (fun p => some (.inr p)) := by kernel_rfl
noncomputable def h77x0s1 : Sg Try.prog 0 77 :=
  (h77x0s0 N).lp (A77x0x12 N) N progOk (T48x0_ok N) (fun m kn L x => (step77x0x12 N m kn L x).trans (sb77x0x12 N L x _ _ _)) (fun L m x => (ql77x0x12 N L m x).trans (sb77x0x12 N L x (Q77x0x12 N L m) (fun p => some (.inl p)) (fun p => some (.inr p)))) fun L x hx => (altS alt1) x hx
noncomputable def F77x0 (v1 v3 : LD) (k0 : Bool → Option R) : Option R :=
  bif ((v1.length : Int) != (v3.length : Int)) then
    k0 false
  else
    bnd (G77x0x12 N v3 v1 (v1.length : Int) 0) fun y0 =>
    bif (inlB y0) then
      k0 false
    else
      bif (inrQ y0).isSome then
        k0 true
      else
        none
noncomputable def G77x0 (v1 v3 : LD) : Option (Bool) := F77x0 N v1 v3 (fun p => some p)
theorem bind77x0 (v1 v3 : LD) (k0 : Bool → Option R) : F77x0 N v1 v3 k0 = (G77x0 N v1 v3).bind k0 := by
  unfold G77x0 F77x0
  repeat' (first | with_reducible apply cond_b | (with_reducible apply bnd_b; intro _) | rfl)
noncomputable def sh77x0 : Sh := { tmps := [(0, .c (.sl 53)), (1, .c (.sl 53)), (2, .c (.f 48 []))], mem := [] }
noncomputable def A77x0 (L : List Lf) : List (Bool × Res) := bnd (F77x0 N (ll L 1) (ll L 3) (fun p => some p)) fun q => [(q.isSome, ([.c (.b (q.getD default))], []))]
theorem raw77x0 (L : List Lf) : bd Try.prog (T48x0 N) (h77x0s1 N).h 77 sh77x0 L = F77x0 N (ll L 1) (ll L 3) (fun p => some ([.c (.b p)], [])) := by kernel_rfl
theorem ok77x0 : FnOk Try.prog 77 sh77x0 (A77x0 N) :=
  (h77x0s1 N).fn progOk (T48x0_ok N) fun L x hx => ((raw77x0 N L).trans ((bind77x0 N ..).trans (alt1 x hx)))
noncomputable def T77x0 : Oracle := ext 77 (spSh sh77x0 (A77x0 N)) (T48x0 N)
theorem T77x0_ok : OracleOk Try.prog (T77x0 N) := FnOk.to (ok77x0 N) (T48x0_ok N)
noncomputable def rg28x0 : List (Nat × List Nat) := [(0, [0, 1]), (1, [2, 3])]
noncomputable def hd28x0 : Hints := []
noncomputable def h28x0s0 (N : Nat) : Sg Try.prog 0 28 := .start hd28x0 rg28x0
noncomputable def F28x0 (v1 v3 : LD) (k0 : Bool → Option R) : Option R :=
  bnd (G77x0 N v1 v3) fun y0 =>
  bif y0.isSome then
    k0 (y0.getD default)
  else
    none
noncomputable def G28x0 (v1 v3 : LD) : Option (Bool) := F28x0 N v1 v3 (fun p => some p)
theorem bind28x0 (v1 v3 : LD) (k0 : Bool → Option R) : F28x0 N v1 v3 k0 = (G28x0 N v1 v3).bind k0 := by
  unfold G28x0 F28x0
  repeat' (first | with_reducible apply cond_b | (with_reducible apply bnd_b; intro _) | rfl)
noncomputable def sh28x0 : Sh := { tmps := [(0, .g ([.sl 53])), (1, .g ([.sl 53]))], mem := [] }
noncomputable def A28x0 (L : List Lf) : List (Bool × Res) := bnd (F28x0 N (ll L 1) (ll L 3) (fun p => some p)) fun q => [(q.isSome, ([.c (.b (q.getD default))], []))]
theorem raw28x0 (L : List Lf) : bd Try.prog (T77x0 N) (h28x0s0 N).h 28 sh28x0 L = F28x0 N (ll L 1) (ll L 3) (fun p => some ([.c (.b p)], [])) := by kernel_rfl
theorem ok28x0 : FnOk Try.prog 28 sh28x0 (A28x0 N) :=
  (h28x0s0 N).fn progOk (T77x0_ok N) fun L x hx => ((raw28x0 N L).trans ((bind28x0 N ..).trans (alt1 x hx)))
noncomputable def T28x0 : Oracle := ext 28 (spSh sh28x0 (A28x0 N)) (T77x0 N)
theorem T28x0_ok : OracleOk Try.prog (T28x0 N) := FnOk.to (ok28x0 N) (T77x0_ok N)
noncomputable def rg70x0 : List (Nat × List Nat) := [(0, []), (1, [])]
noncomputable def hd70x0 : Hints := []
noncomputable def h70x0s0 (N : Nat) : Sg Try.prog 0 70 := .start hd70x0 rg70x0
noncomputable def F70x0 (N : Nat) (k0 : D → R) : R :=
  bnd ((.a [(.b false), (.b false), (.i 0), (.l true []), (.i 0), (.i 0), (.b false), (.b false), (.i 0), (.l true []), (.i 0), (.i 0), (.b false), (.b false), (.i 0), (.l true []), (.i 0), (.i 0), (.b false), (.b false), (.i 0), (.l true []), (.i 0), (.i 0), (.b false), (.b false), (.i 0), (.l true []), (.i 0), (.i 0), (.b false), (.b false), (.i 0), (.l true []), (.i 0), (.i 0), (.b false), (.b false), (.i 0), (.l true []), (.i 0), (.i 0), (.b false), (.b false), (.i 0), (.l true []), (.i 0), (.i 0), (.b false), (.b false), (.i 0), (.l true []), (.i 0), (.i 0), (.b false), (.b false), (.i 0), (.l true []), (.i 0), (.i 0), (.b false), (.b false), (.i 0), (.l true []), (.i 0), (.i 0), (.b false), (.b false), (.i 0), (.l true []), (.i 0), (.i 0), (.b false), (.b false), (.i 0), (.l true []), (.i 0), (.i 0), (.b false), (.b false), (.i 0), (.l true []), (.i 0), (.i 0), (.b false), (.b false), (.i 0), (.l true []), (.i 0), (.i 0), (.b false), (.b false), (.i 0), (.l true []), (.i 0), (.i 0), (.i (-1))]) : D) fun y0 =>
  k0 y0
noncomputable def V70x0 : D := F70x0 N (fun p => p)
theorem tot70x0 (k0 : D → R) : F70x0 N k0 = k0 (V70x0 N) := by
  unfold V70x0 F70x0
  repeat' (first | rfl | apply cond_k | (apply bnd_k; intro _))
noncomputable def sh70x0 : Sh := { tmps := [], mem := [] }
noncomputable def A70x0 (L : List Lf) : List (Bool × Res) := bnd (F70x0 N (fun p => p)) fun q => [(true, ([.c (.p 2 0)], [(2, .dat 116 q)]))]
theorem raw70x0 (L : List Lf) : bd Try.prog (T28x0 N) (h70x0s0 N).h 70 sh70x0 L = F70x0 N (fun p => some ([.c (.p 2 0)], [(2, .dat 116 p)])) := by kernel_rfl
theorem ok70x0 : FnOk Try.prog 70 sh70x0 (A70x0 N) :=
  (h70x0s0 N).fn progOk (T28x0_ok N) fun L x hx => ((raw70x0 N L).trans ((tot70x0 N ..).trans (alt0 _ _ hx)))
noncomputable def T70x0 : Oracle := ext 70 (spSh sh70x0 (A70x0 N)) (T28x0 N)
theorem T70x0_ok : OracleOk Try.prog (T70x0 N) := FnOk.to (ok70x0 N) (T28x0_ok N)
noncomputable def rg142x0 : List (Nat × List Nat) := [(0, [0, 1]), (1, [2, 1])]
noncomputable def hd142x0 : Hints := []
noncomputable def h142x0s0 (N : Nat) : Sg Try.prog 1 142 := .start hd142x0 rg142x0
noncomputable def F142x0 (N : Nat) (v0 v3 : Int) (k0 : Bool → R) : R :=
  k0 (v0 == v3)
noncomputable def V142x0 (v0 v3 : Int) : Bool := F142x0 N v0 v3 (fun p => p)
theorem tot142x0 (v0 v3 : Int) (k0 : Bool → R) : F142x0 N v0 v3 k0 = k0 (V142x0 N v0 v3) := by
  unfold V142x0 F142x0
  repeat' (first | rfl | apply cond_k | (apply bnd_k; intro _))
noncomputable def sh142x0 : Sh := { tmps := [(0, .g ([.i .i64, .i .i64, .i .i64])), (1, .c (.p 0 0))], mem := [(0, .box ([.i .i64, .i .i64, .i .i64]))] }
noncomputable def A142x0 (L : List Lf) : List (Bool × Res) := bnd (F142x0 N (li L 0) (li L 3) (fun p => p)) fun q => [(true, ([.c (.b q)], mgA (ofSh sh142x0 L).mem [] [0]))]
theorem raw142x0 (L : List Lf) : bd Try.prog (T70x0 N) (h142x0s0 N).h 142 sh142x0 L = F142x0 N (li L 0) (li L 3) (fun p => some ([.c (.b p)], mgA (ofSh sh142x0 L).mem [] [0])) := by kernel_rfl
theorem ok142x0 : FnOk Try.prog 142 sh142x0 (A142x0 N) :=
  (h142x0s0 N).fn progOk (T70x0_ok N) fun L x hx => ((raw142x0 N L).trans ((tot142x0 N ..).trans (alt0 _ _ hx)))
noncomputable def T142x0 : Oracle := ext 142 (spSh sh142x0 (A142x0 N)) (T70x0 N)
theorem T142x0_ok : OracleOk Try.prog (T142x0 N) := FnOk.to (ok142x0 N) (T70x0_ok N)
noncomputable def rg146x0 : List (Nat × List Nat) := [(0, [0, 1]), (1, [0, 1]), (2, [8, 7, 1, 0]), (3, [8, 1, 0, 7]), (4, [1, 0, 5, 8, 7]), (5, [5]), (6, [8, 7, 1, 0]), (7, [])]
noncomputable def hd146x0 : Hints := [(6, [8, 7, 1, 0], [0], [])]
noncomputable def h146x0s0 (N : Nat) : Sg Try.prog 1 146 := .start hd146x0 rg146x0
noncomputable def S146x0x6 (w1 : LD) (w2 w4 : Int) (w3 : Int) (kr : Int → Option R) (k0 : Int → Option R) (k1 : Unit → Option R) : Option R :=
  bif (decide (w3 < w2)) then
    bif (inB w3 w1.length) then
      bnd (V142x0 N ((w1.getD w3.toNat (.i 0)).cell 0).toI w4) fun y0 =>
      bif y0 then
        k0 w3
      else
        kr (IntKind.wrap .i64 (w3 + 1))
    else
      none
  else
    k1 ()
noncomputable def L146x0x6 (N : Nat) {R : Type} (w1 : LD) (w2 w4 : Int) : Nat → Int → (Int → Option R) → (Unit → Option R) → Option R
  | 0, _, _, _ => none
  | m + 1, w3, k0, k1 => S146x0x6 N w1 w2 w4 w3 (fun w3 => L146x0x6 N w1 w2 w4 m w3 k0 k1) k0 k1
noncomputable def G146x0x6 (w1 : LD) (w2 w4 : Int) (w3 : Int) : Option (Sum (Int) (Unit)) := L146x0x6 N (R := (Sum (Int) (Unit))) w1 w2 w4 N w3 (fun p => some (.inl p)) (fun p => some (.inr p))
noncomputable def J146x0x6 (L x : List Lf) (kr : List Lf → Option R) (k0 : Int → Option R) (k1 : Unit → Option R) : Option R := S146x0x6 N (ll L 1) (li L 2) (li L 4) (li x 0) (fun w3 => kr [.i w3]) k0 k1
theorem sb146x0x6 (L x : List Lf) (kr : List Lf → Option R) (k0 : Int → Option R) (k1 : Unit → Option R) : J146x0x6 N L x kr k0 k1 = (J146x0x6 N L x (fun y => some (.inl y)) (fun p => some (.inr (.inl p))) (fun p => some (.inr (.inr p)))).bind (sumE kr (sumE k0 k1)) := by
  unfold J146x0x6 S146x0x6
  repeat' (first | with_reducible apply cond_b | (with_reducible apply bnd_b; intro _) | rfl)
noncomputable def Q146x0x6 (L : List Lf) (m : Nat) (x : List Lf) : Option (Sum (Int) (Unit)) := L146x0x6 N (R := (Sum (Int) (Unit))) (ll L 1) (li L 2) (li L 4) m (li x 0) (fun p => some (.inl p)) (fun p => some (.inr p))
noncomputable def sh146x0x6 : Sh := { tmps := [(0, .c (.sl 146)), (1, .c (.f 142 [(0, 0)])), (7, .c (.i .i64)), (8, .c (.i .i64))], mem := [(0, .box ([.i .i64, .i .i64, .i .i64]))] }
noncomputable def K146x0x6w0 (L : List Lf) (p : Int) : Ex × St := (.ret, mg (ofSh sh146x0x6 L) [4] [(4, .c (.i .i64 p))] [0] [])
noncomputable def A146x0x6 (L : List Lf) : List (Bool × (Ex × St)) := bnd (Q146x0x6 N L N (pk sh146x0x6 [3] L)) fun q => [((inlB q), K146x0x6w0 L (inlV q)), ((inrQ q).isSome, ((.exit 0), mg (ofSh sh146x0x6 L) [] [] [0] []))]
theorem step146x0x6 (m : Nat) (kn : St → Option (Ex × St)) (L x : List Lf) : lpB Try.prog (T142x0 N) (h146x0s0 N).h 1 146 6 sh146x0x6 [3] [4] [0] (m + 100) kn L x = J146x0x6 N L x (fun y => kn (ofSh sh146x0x6 (mx sh146x0x6 [3] L y))) (fun p => some (K146x0x6w0 L p)) (fun _ => some ((.exit 0), mg (ofSh sh146x0x6 L) [] [] [0] [])) := by kernel_rfl
theorem ql146x0x6 (L : List Lf) (m : Nat) (x : List Lf) : Q146x0x6 N L (m + 1) x = J146x0x6 N L x (Q146x0x6 N L m) (fun p => some (.inl p)) (fun p => some (.inr p)) := by kernel_rfl
noncomputable def h146x0s1 : Sg Try.prog 1 146 :=
  (h146x0s0 N).lp (A146x0x6 N) N progOk (T142x0_ok N) (fun m kn L x => (step146x0x6 N m kn L x).trans (sb146x0x6 N L x _ _ _)) (fun L m x => (ql146x0x6 N L m x).trans (sb146x0x6 N L x (Q146x0x6 N L m) (fun p => some (.inl p)) (fun p => some (.inr p)))) fun L x hx => (altS alt1) x hx
noncomputable def F146x0 (v1 : LD) (v2 : Int) (k0 : Int → Option R) : Option R :=
  bnd (G146x0x6 N v1 (v1.length : Int) v2 0) fun y0 =>
  bif (inlB y0) then
    k0 (inlV y0)
  else
    bif (inrQ y0).isSome then
      k0 (-1)
    else
      none
noncomputable def G146x0 (v1 : LD) (v2 : Int) : Option (Int) := F146x0 N v1 v2 (fun p => some p)
theorem bind146x0 (v1 : LD) (v2 : Int) (k0 : Int → Option R) : F146x0 N v1 v2 k0 = (G146x0 N v1 v2).bind k0 := by
  unfold G146x0 F146x0
  repeat' (first | with_reducible apply cond_b | (with_reducible apply bnd_b; intro _) | rfl)
noncomputable def sh146x0 : Sh := { tmps := [(0, .c (.sl 146)), (1, .c (.f 142 [(0, 0)]))], mem := [(0, .box ([.i .i64, .i .i64, .i .i64]))] }
noncomputable def A146x0 (L : List Lf) : List (Bool × Res) := bnd (F146x0 N (ll L 1) (li L 2) (fun p => some p)) fun q => [(q.isSome, ([.c (.i .i64 (q.getD default))], mgA (ofSh sh146x0 L).mem [] [0]))]
theorem raw146x0 (L : List Lf) : bd Try.prog (T142x0 N) (h146x0s1 N).h 146 sh146x0 L = F146x0 N (ll L 1) (li L 2) (fun p => some ([.c (.i .i64 p)], mgA (ofSh sh146x0 L).mem [] [0])) := by kernel_rfl
theorem ok146x0 : FnOk Try.prog 146 sh146x0 (A146x0 N) :=
  (h146x0s1 N).fn progOk (T142x0_ok N) fun L x hx => ((raw146x0 N L).trans ((bind146x0 N ..).trans (alt1 x hx)))
noncomputable def T146x0 : Oracle := ext 146 (spSh sh146x0 (A146x0 N)) (T142x0 N)
theorem T146x0_ok : OracleOk Try.prog (T146x0 N) := FnOk.to (ok146x0 N) (T142x0_ok N)
noncomputable def rg141x0 : List (Nat × List Nat) := [(0, [0, 1]), (1, [0, 1])]
noncomputable def hd141x0 : Hints := []
noncomputable def h141x0s0 (N : Nat) : Sg Try.prog 1 141 := .start hd141x0 rg141x0
noncomputable def F141x0 (v1 : LD) (v2 : Int) (k0 : Bool → Option R) : Option R :=
  bnd (G146x0 N v1 v2) fun y0 =>
  bif y0.isSome then
    k0 (decide ((y0.getD default) ≥ 0))
  else
    none
noncomputable def G141x0 (v1 : LD) (v2 : Int) : Option (Bool) := F141x0 N v1 v2 (fun p => some p)
theorem bind141x0 (v1 : LD) (v2 : Int) (k0 : Bool → Option R) : F141x0 N v1 v2 k0 = (G141x0 N v1 v2).bind k0 := by
  unfold G141x0 F141x0
  repeat' (first | with_reducible apply cond_b | (with_reducible apply bnd_b; intro _) | rfl)
noncomputable def sh141x0 : Sh := { tmps := [(0, .c (.sl 146)), (1, .c (.f 142 [(0, 0)]))], mem := [(0, .box ([.i .i64, .i .i64, .i .i64]))] }
noncomputable def A141x0 (L : List Lf) : List (Bool × Res) := bnd (F141x0 N (ll L 1) (li L 2) (fun p => some p)) fun q => [(q.isSome, ([.c (.b (q.getD default))], mgA (ofSh sh141x0 L).mem [] [0]))]
theorem raw141x0 (L : List Lf) : bd Try.prog (T146x0 N) (h141x0s0 N).h 141 sh141x0 L = F141x0 N (ll L 1) (li L 2) (fun p => some ([.c (.b p)], mgA (ofSh sh141x0 L).mem [] [0])) := by kernel_rfl
theorem ok141x0 : FnOk Try.prog 141 sh141x0 (A141x0 N) :=
  (h141x0s0 N).fn progOk (T146x0_ok N) fun L x hx => ((raw141x0 N L).trans ((bind141x0 N ..).trans (alt1 x hx)))
noncomputable def T141x0 : Oracle := ext 141 (spSh sh141x0 (A141x0 N)) (T146x0 N)
theorem T141x0_ok : OracleOk Try.prog (T141x0 N) := FnOk.to (ok141x0 N) (T146x0_ok N)
noncomputable def rg122x0 : List (Nat × List Nat) := [(0, [0]), (1, [1]), (3, [1]), (4, []), (2, []), (5, [1]), (6, [19, 18, 17, 1]), (7, [19, 17, 1, 18]), (8, [4, 1, 3, 19, 18, 17]), (9, [4, 5, 1, 3, 19, 18, 17]), (11, [4, 5, 1, 3, 19, 18, 17]), (13, [5, 4, 1, 3, 19, 18, 17]), (15, [1, 3, 4, 19, 18, 17]), (16, []), (14, []), (12, []), (10, []), (17, [19, 18, 17, 1]), (18, [])]
noncomputable def hd122x0 : Hints := [(18, [19, 18, 17, 1], [1], []), (28, [4, 5, 1, 3, 19, 18, 17], [4, 1], [])]
noncomputable def h122x0s0 (N : Nat) : Sg Try.prog 0 122 := .start hd122x0 rg122x0
noncomputable def F122x0x28 (w10 w11 : Int) (k0 : Bool → R) : R :=
  bnd (V52x0 N w10 0 255) fun y0 =>
  bif (!y0) then
    k0 true
  else
    bnd (V52x0 N w11 1 255) fun y1 =>
    k0 (!y1)
noncomputable def V122x0x28 (w10 w11 : Int) : Bool := F122x0x28 N w10 w11 (fun p => p)
theorem tot122x0x28 (w10 w11 : Int) (k0 : Bool → R) : F122x0x28 N w10 w11 k0 = k0 (V122x0x28 N w10 w11) := by
  unfold V122x0x28 F122x0x28
  repeat' (first | rfl | apply cond_k | (apply bnd_k; intro _))
noncomputable def sh122x0x28 : Sh := { tmps := [(1, .c (.p 1 0)), (3, .c (.i .i64)), (4, .c (.p 4 0)), (5, .c (.b)), (17, .c (.sl 146)), (18, .c (.i .i64)), (19, .c (.i .i64))], mem := [(1, .box ([.b, .i .i64, .sl 146])), (4, .box ([.i .i64, .i .i64, .i .i64]))] }
noncomputable def K122x0x28w0 (L : List Lf) (p : Bool) : Ex × St := (.normal, mg (ofSh sh122x0x28 L) [1, 3, 4, 5, 17, 18, 19, 32] [(32, .c (.b p))] [1, 4] [])
noncomputable def A122x0x28 (L : List Lf) : List (Bool × (Ex × St)) := bnd (F122x0x28 N (li L 10) (li L 11) (fun p => p)) fun q => [(true, K122x0x28w0 L q)]
theorem raw122x0x28 (L : List Lf) : pc Try.prog (T141x0 N) (h122x0s0 N).h 0 100 122 28 sh122x0x28 L [4, 5, 1, 3, 19, 18, 17, 32] [4, 1] = F122x0x28 N (li L 10) (li L 11) (fun p => some (K122x0x28w0 L p)) := by kernel_rfl
noncomputable def h122x0s1 : Sg Try.prog 0 122 :=
  (h122x0s0 N).cut (A122x0x28 N) progOk (T141x0_ok N) fun L x hx => (raw122x0x28 N L).trans ((tot122x0x28 N ..).trans (alt0 _ _ hx))
noncomputable def S122x0x18 (w1 : LD) (w2 : Int) (w7 : LD) (w3 : Int) (kr : Int → Option R) (k0 : Int → Option R) (k1 : Unit → Option R) : Option R :=
  bif (decide (w3 < w2)) then
    bif (inB w3 w1.length) then
      bnd (bif (((w1.getD w3.toNat (.i 0)).cell 2).toI == 0) then true else (((w1.getD w3.toNat (.i 0)).cell 2).toI == 1)) fun y0 =>
      bnd (V122x0x28 N ((w1.getD w3.toNat (.i 0)).cell 0).toI ((w1.getD w3.toNat (.i 0)).cell 1).toI) fun y1 =>
      bif y1 then
        k0 9
      else
        bnd (V52x0 N ((w1.getD w3.toNat (.i 0)).cell 2).toI 0 3) fun y2 =>
        bif (!y2) then
          k0 7
        else
          bnd (bif y0 then (((w1.getD w3.toNat (.i 0)).cell 1).toI != 1) else false) fun y3 =>
          bnd (bif y3 then (((w1.getD w3.toNat (.i 0)).cell 1).toI != 2) else false) fun y4 =>
          bnd (bif y4 then (((w1.getD w3.toNat (.i 0)).cell 1).toI != 4) else false) fun y5 =>
          bif y5 then
            k0 2
          else
            bif ((decide (0 ≤ w3)) && (decide (w3 ≤ (w7.length : Int)))) then
              bnd (G141x0 N ((w7.take w3.toNat).drop 0) ((w1.getD w3.toNat (.i 0)).cell 0).toI) fun y6 =>
              bif y6.isSome then
                bif (y6.getD default) then
                  k0 5
                else
                  kr (IntKind.wrap .i64 (w3 + 1))
              else
                none
            else
              none
    else
      none
  else
    k1 ()
noncomputable def L122x0x18 (N : Nat) {R : Type} (w1 : LD) (w2 : Int) (w7 : LD) : Nat → Int → (Int → Option R) → (Unit → Option R) → Option R
  | 0, _, _, _ => none
  | m + 1, w3, k0, k1 => S122x0x18 N w1 w2 w7 w3 (fun w3 => L122x0x18 N w1 w2 w7 m w3 k0 k1) k0 k1
noncomputable def G122x0x18 (w1 : LD) (w2 : Int) (w7 : LD) (w3 : Int) : Option (Sum (Int) (Unit)) := L122x0x18 N (R := (Sum (Int) (Unit))) w1 w2 w7 N w3 (fun p => some (.inl p)) (fun p => some (.inr p))
noncomputable def J122x0x18 (L x : List Lf) (kr : List Lf → Option R) (k0 : Int → Option R) (k1 : Unit → Option R) : Option R := S122x0x18 N (ll L 1) (li L 2) (ll L 7) (li x 0) (fun w3 => kr [.i w3]) k0 k1
theorem sb122x0x18 (L x : List Lf) (kr : List Lf → Option R) (k0 : Int → Option R) (k1 : Unit → Option R) : J122x0x18 N L x kr k0 k1 = (J122x0x18 N L x (fun y => some (.inl y)) (fun p => some (.inr (.inl p))) (fun p => some (.inr (.inr p)))).bind (sumE kr (sumE k0 k1)) := by
  unfold J122x0x18 S122x0x18
  repeat' (first | with_reducible apply cond_b | (with_reducible apply bnd_b; intro _) | rfl)
noncomputable def Q122x0x18 (L : List Lf) (m : Nat) (x : List Lf) : Option (Sum (Int) (Unit)) := L122x0x18 N (R := (Sum (Int) (Unit))) (ll L 1) (li L 2) (ll L 7) m (li x 0) (fun p => some (.inl p)) (fun p => some (.inr p))
noncomputable def sh122x0x18 : Sh := { tmps := [(1, .c (.p 1 0)), (17, .c (.sl 146)), (18, .c (.i .i64)), (19, .c (.i .i64))], mem := [(1, .box ([.b, .i .i64, .sl 146]))] }
noncomputable def A122x0x18 (L : List Lf) : List (Bool × (Ex × St)) := bnd (Q122x0x18 N L N (pk sh122x0x18 [3] L)) fun q => [((inlB q), (.ret, ⟨[(2, .c (.i .i64 (inlV q)))], []⟩)), ((inrQ q).isSome, ((.exit 1), ⟨[], []⟩))]
theorem step122x0x18 (m : Nat) (kn : St → Option (Ex × St)) (L x : List Lf) : lpB Try.prog (T141x0 N) (h122x0s1 N).h 0 122 18 sh122x0x18 [3] [2] [] (m + 100) kn L x = J122x0x18 N L x (fun y => kn (ofSh sh122x0x18 (mx sh122x0x18 [3] L y))) (fun p => some (.ret, ⟨[(2, .c (.i .i64 p))], []⟩)) (fun _ => some ((.exit 1), ⟨[], []⟩)) := by kernel_rfl
theorem ql122x0x18 (L : List Lf) (m : Nat) (x : List Lf) : Q122x0x18 N L (m + 1) x = J122x0x18 N L x (Q122x0x18 N L m) (fun p => some (.inl p)) (fun p => some (.inr p)) := by kernel_rfl
noncomputable def h122x0s2 : Sg Try.prog 0 122 :=
  (h122x0s1 N).lp (A122x0x18 N) N progOk (T141x0_ok N) (fun m kn L x => (step122x0x18 N m kn L x).trans (sb122x0x18 N L x _ _ _)) (fun L m x => (ql122x0x18 N L m x).trans (sb122x0x18 N L x (Q122x0x18 N L m) (fun p => some (.inl p)) (fun p => some (.inr p)))) fun L x hx => (altS alt1) x hx
noncomputable def F122x0 (v1 : Int) (v3 : LD) (k0 : Int → Option R) : Option R :=
  bnd (V52x0 N v1 0 65535) fun y0 =>
  bif (!y0) then
    k0 9
  else
    bif (decide ((v3.length : Int) > 30)) then
      k0 3
    else
      bnd (G122x0x18 N v3 (v3.length : Int) v3 0) fun y1 =>
      bif (inlB y1) then
        k0 (inlV y1)
      else
        bif (inrQ y1).isSome then
          k0 0
        else
          none
noncomputable def G122x0 (v1 : Int) (v3 : LD) : Option (Int) := F122x0 N v1 v3 (fun p => some p)
theorem bind122x0 (v1 : Int) (v3 : LD) (k0 : Int → Option R) : F122x0 N v1 v3 k0 = (G122x0 N v1 v3).bind k0 := by
  unfold G122x0 F122x0
  repeat' (first | with_reducible apply cond_b | (with_reducible apply bnd_b; intro _) | rfl)
noncomputable def sh122x0 : Sh := { tmps := [(0, .g ([.b, .i .i64, .sl 146]))], mem := [] }
noncomputable def A122x0 (L : List Lf) : List (Bool × Res) := bnd (F122x0 N (li L 1) (ll L 3) (fun p => some p)) fun q => [(q.isSome, ([.c (.i .i64 (q.getD default))], []))]
theorem raw122x0 (L : List Lf) : bd Try.prog (T141x0 N) (h122x0s2 N).h 122 sh122x0 L = F122x0 N (li L 1) (ll L 3) (fun p => some ([.c (.i .i64 p)], [])) := by kernel_rfl
theorem ok122x0 : FnOk Try.prog 122 sh122x0 (A122x0 N) :=
  (h122x0s2 N).fn progOk (T141x0_ok N) fun L x hx => ((raw122x0 N L).trans ((bind122x0 N ..).trans (alt1 x hx)))
noncomputable def T122x0 : Oracle := ext 122 (spSh sh122x0 (A122x0 N)) (T141x0 N)
theorem T122x0_ok : OracleOk Try.prog (T122x0 N) := FnOk.to (ok122x0 N) (T141x0_ok N)
noncomputable def rg71x0 : List (Nat × List Nat) := [(0, [1, 0]), (1, [3, 0]), (2, [6, 5, 3, 0]), (3, [6, 5, 3, 0, 9, 7, 8]), (4, [5, 3, 0, 6, 9]), (5, [5, 3, 7, 8, 0, 6, 9]), (6, [3, 7, 8, 5, 0, 6]), (7, [3, 7, 8, 9, 5, 0, 6]), (9, [3, 7, 8, 9, 5, 0, 6]), (11, [3, 9, 5, 0, 6]), (13, [5, 3, 0, 6]), (14, [3]), (12, []), (10, []), (8, []), (15, [0, 3, 6]), (16, [10, 6, 0, 3]), (17, []), (18, [10, 6, 3]), (19, [6, 11, 3]), (20, [11, 3]), (21, [3, 11]), (22, []), (23, [])]
noncomputable def hd71x0 : Hints := [(14, [5, 3, 0, 6, 9, 7, 8, 18], [4, 0], []), (20, [3, 7, 8, 5, 0, 6, 9, 19], [4, 0], []), (28, [3, 7, 8, 9, 5, 0, 6], [4, 0], []), (62, [11, 3, 87], [0, 4], [])]
noncomputable def h71x0s0 (N : Nat) : Sg Try.prog 1 71 := .start hd71x0 rg71x0
noncomputable def F71x0x14 (N : Nat) (w2 w3 : Int) (w5 : Bool) (k0 : Int × Int → R) : R :=
  bif w5 then
    k0 (3, 31)
  else
    k0 (w2, w3)
noncomputable def V71x0x14 (w2 w3 : Int) (w5 : Bool) : Int × Int := F71x0x14 N w2 w3 w5 (fun p => p)
theorem tot71x0x14 (w2 w3 : Int) (w5 : Bool) (k0 : Int × Int → R) : F71x0x14 N w2 w3 w5 k0 = k0 (V71x0x14 N w2 w3 w5) := by
  unfold V71x0x14 F71x0x14
  repeat' (first | rfl | apply cond_k | (apply bnd_k; intro _))
noncomputable def sh71x0x14 : Sh := { tmps := [(0, .c (.p 0 0)), (3, .c (.p 4 0)), (5, .c (.b)), (6, .c (.b)), (7, .c (.i .i64)), (8, .c (.i .i64)), (9, .c (.i .i64)), (18, .c (.b))], mem := [(0, .dat 116), (4, .box ([.i .i64, .i .i64, .i .i64, .sl 103, .sl 5]))] }
noncomputable def K71x0x14w0 (L : List Lf) (p : Int × Int) : Ex × St := (.normal, mg (ofSh sh71x0x14 L) [0, 3, 5, 6, 7, 8, 9] [(7, .c (.i .i64 p.1)), (8, .c (.i .i64 p.2))] [0, 4] [])
noncomputable def A71x0x14 (L : List Lf) : List (Bool × (Ex × St)) := bnd (F71x0x14 N (li L 2) (li L 3) (lb L 5) (fun p => p)) fun q => [(true, K71x0x14w0 L q)]
theorem raw71x0x14 (L : List Lf) : pc Try.prog (T122x0 N) (h71x0s0 N).h 1 100 71 14 sh71x0x14 L [5, 3, 7, 8, 0, 6, 9] [4, 0] = F71x0x14 N (li L 2) (li L 3) (lb L 5) (fun p => some (K71x0x14w0 L p)) := by kernel_rfl
noncomputable def h71x0s1 : Sg Try.prog 1 71 :=
  (h71x0s0 N).cut (A71x0x14 N) progOk (T122x0_ok N) fun L x hx => (raw71x0x14 N L).trans ((tot71x0x14 N ..).trans (alt0 _ _ hx))
noncomputable def F71x0x20 (N : Nat) (w4 : Int) (w5 : Bool) (k0 : Int → R) : R :=
  bif w5 then
    k0 1
  else
    k0 w4
noncomputable def V71x0x20 (w4 : Int) (w5 : Bool) : Int := F71x0x20 N w4 w5 (fun p => p)
theorem tot71x0x20 (w4 : Int) (w5 : Bool) (k0 : Int → R) : F71x0x20 N w4 w5 k0 = k0 (V71x0x20 N w4 w5) := by
  unfold V71x0x20 F71x0x20
  repeat' (first | rfl | apply cond_k | (apply bnd_k; intro _))
noncomputable def sh71x0x20 : Sh := { tmps := [(0, .c (.p 0 0)), (3, .c (.p 4 0)), (5, .c (.b)), (6, .c (.b)), (7, .c (.i .i64)), (8, .c (.i .i64)), (9, .c (.i .i64)), (19, .c (.b))], mem := [(0, .dat 116), (4, .box ([.i .i64, .i .i64, .i .i64, .sl 103, .sl 5]))] }
noncomputable def K71x0x20w0 (L : List Lf) (p : Int) : Ex × St := (.normal, mg (ofSh sh71x0x20 L) [0, 3, 5, 6, 7, 8, 9] [(9, .c (.i .i64 p))] [0, 4] [])
noncomputable def A71x0x20 (L : List Lf) : List (Bool × (Ex × St)) := bnd (F71x0x20 N (li L 4) (lb L 5) (fun p => p)) fun q => [(true, K71x0x20w0 L q)]
theorem raw71x0x20 (L : List Lf) : pc Try.prog (T122x0 N) (h71x0s1 N).h 1 100 71 20 sh71x0x20 L [3, 7, 8, 9, 5, 0, 6] [4, 0] = F71x0x20 N (li L 4) (lb L 5) (fun p => some (K71x0x20w0 L p)) := by kernel_rfl
noncomputable def h71x0s2 : Sg Try.prog 1 71 :=
  (h71x0s1 N).cut (A71x0x20 N) progOk (T122x0_ok N) fun L x hx => (raw71x0x20 N L).trans ((tot71x0x20 N ..).trans (alt0 _ _ hx))
noncomputable def F71x0x28 (w2 w3 w7 w8 : Int) (k0 : Bool → R) : R :=
  bnd (V52x0 N w7 0 w2) fun y0 =>
  bif (!y0) then
    k0 true
  else
    bnd (V52x0 N w8 0 w3) fun y1 =>
    k0 (!y1)
noncomputable def V71x0x28 (w2 w3 w7 w8 : Int) : Bool := F71x0x28 N w2 w3 w7 w8 (fun p => p)
theorem tot71x0x28 (w2 w3 w7 w8 : Int) (k0 : Bool → R) : F71x0x28 N w2 w3 w7 w8 k0 = k0 (V71x0x28 N w2 w3 w7 w8) := by
  unfold V71x0x28 F71x0x28
  repeat' (first | rfl | apply cond_k | (apply bnd_k; intro _))
noncomputable def J71x0x28 (L : List Lf) (k0 : Bool → R) : R := F71x0x28 N (li L 2) (li L 3) (li L 7) (li L 8) k0
noncomputable def sh71x0x28 : Sh := { tmps := [(0, .c (.p 0 0)), (3, .c (.p 4 0)), (5, .c (.b)), (6, .c (.b)), (7, .c (.i .i64)), (8, .c (.i .i64)), (9, .c (.i .i64))], mem := [(0, .dat 116), (4, .box ([.i .i64, .i .i64, .i .i64, .sl 103, .sl 5]))] }
noncomputable def K71x0x28w0 (L : List Lf) (p : Bool) : Ex × St := (.normal, mg (ofSh sh71x0x28 L) [0, 3, 5, 6, 9, 25] [(25, .c (.b p))] [0, 4] [])
noncomputable def A71x0x28 (L : List Lf) : List (Bool × (Ex × St)) := bnd (J71x0x28 N L (fun p => p)) fun q => [(true, K71x0x28w0 L q)]
theorem raw71x0x28 (L : List Lf) : pc Try.prog (T122x0 N) (h71x0s2 N).h 1 100 71 28 sh71x0x28 L [3, 9, 5, 0, 6, 25] [4, 0] = J71x0x28 N L (fun p => some (K71x0x28w0 L p)) := by kernel_rfl
noncomputable def h71x0s3 : Sg Try.prog 1 71 :=
  (h71x0s2 N).cut (A71x0x28 N) progOk (T122x0_ok N) fun L x hx => (raw71x0x28 N L).trans ((tot71x0x28 N ..).trans (alt0 _ _ hx))
noncomputable def F71x0x62 (N : Nat) (w0 : Int) (w1 : Bool) (k0 : Int → R) : R :=
  bif w1 then
    k0 (IntKind.wrap .i64 (w0 - 4))
  else
    k0 w0
noncomputable def V71x0x62 (w0 : Int) (w1 : Bool) : Int := F71x0x62 N w0 w1 (fun p => p)
theorem tot71x0x62 (w0 : Int) (w1 : Bool) (k0 : Int → R) : F71x0x62 N w0 w1 k0 = k0 (V71x0x62 N w0 w1) := by
  unfold V71x0x62 F71x0x62
  repeat' (first | rfl | apply cond_k | (apply bnd_k; intro _))
noncomputable def sh71x0x62 : Sh := { tmps := [(3, .c (.p 4 0)), (11, .c (.i .i64)), (87, .c (.b))], mem := [(0, .dat 116), (4, .box ([.i .i64, .i .i64, .i .i64, .sl 103, .sl 5]))] }
noncomputable def K71x0x62w0 (L : List Lf) (p : Int) : Ex × St := (.normal, mg (ofSh sh71x0x62 L) [3, 11] [(11, .c (.i .i64 p))] [0, 4] [])
noncomputable def A71x0x62 (L : List Lf) : List (Bool × (Ex × St)) := bnd (F71x0x62 N (li L 0) (lb L 1) (fun p => p)) fun q => [(true, K71x0x62w0 L q)]
theorem raw71x0x62 (L : List Lf) : pc Try.prog (T122x0 N) (h71x0s3 N).h 1 100 71 62 sh71x0x62 L [3, 11] [0, 4] = F71x0x62 N (li L 0) (lb L 1) (fun p => some (K71x0x62w0 L p)) := by kernel_rfl
noncomputable def h71x0s4 : Sg Try.prog 1 71 :=
  (h71x0s3 N).cut (A71x0x62 N) progOk (T122x0_ok N) fun L x hx => (raw71x0x62 N L).trans ((tot71x0x62 N ..).trans (alt0 _ _ hx))
noncomputable def F71x0 (v0 v1 v2 : Int) (v4 v6 : LD) (v7 : D) (k0 : Int → Option R) : Option R :=
  bnd (V71x0x14 N 15 0 (v0 == 3)) fun y0 =>
  bnd (V71x0x20 N 0 (v0 == 1)) fun y1 =>
  bnd (V52x0 N v0 1 3) fun y2 =>
  bif (!y2) then
    k0 7
  else
    bnd (V71x0x28 N y0.1 y0.2 v1 v2) fun y3 =>
    bif y3 then
      k0 9
    else
      bnd (bif ((v4.length : Int) != y1) then true else (bif (v0 == 1) then (decide ((v6.length : Int) > 0)) else false)) fun y4 =>
      bif y4 then
        k0 2
      else
        bif (v0 == 1) then
          bif (inB 0 v4.length) then
            bnd (G122x0 N ((v4.getD 0 (.i 0)).cell 1).toI ((v4.getD 0 (.i 0)).cell 2).items) fun y5 =>
            bif y5.isSome then
              k0 (y5.getD default)
            else
              none
          else
            none
        else
          bif (inB v1 16) then
            bnd (bif (!(v7.cell (0 + (v1.toNat * 6))).toB) then true else (bif (v0 == 3) then (bif (decide ((v7.cell (5 + (v1.toNat * 6))).toI < 0)) then true else (decide ((v7.cell 96).toI < 0))) else false)) fun y6 =>
            bif y6 then
              k0 11
            else
              bnd (V71x0x62 N (v7.cell (4 + (v1.toNat * 6))).toI (v0 == 3)) fun y7 =>
              bif ((v6.length : Int) != y7) then
                k0 2
              else
                k0 0
          else
            none
noncomputable def G71x0 (v0 v1 v2 : Int) (v4 v6 : LD) (v7 : D) : Option (Int) := F71x0 N v0 v1 v2 v4 v6 v7 (fun p => some p)
theorem bind71x0 (v0 v1 v2 : Int) (v4 v6 : LD) (v7 : D) (k0 : Int → Option R) : F71x0 N v0 v1 v2 v4 v6 v7 k0 = (G71x0 N v0 v1 v2 v4 v6 v7).bind k0 := by
  unfold G71x0 F71x0
  repeat' (first | with_reducible apply cond_b | (with_reducible apply bnd_b; intro _) | rfl)
noncomputable def J71x0 (L : List Lf) (k0 : Int → Option R) : Option R := F71x0 N (li L 0) (li L 1) (li L 2) (ll L 4) (ll L 6) (ld L 7) k0
noncomputable def sh71x0 : Sh := { tmps := [(0, .c (.p 0 0)), (1, .g ([.i .i64, .i .i64, .i .i64, .sl 103, .sl 5]))], mem := [(0, .dat 116)] }
noncomputable def A71x0 (L : List Lf) : List (Bool × Res) := bnd (J71x0 N L (fun p => some p)) fun q => [(q.isSome, ([.c (.i .i64 (q.getD default))], [(0, .dat 116 (ld L 7))]))]
theorem raw71x0 (L : List Lf) : bd Try.prog (T122x0 N) (h71x0s4 N).h 71 sh71x0 L = J71x0 N L (fun p => some ([.c (.i .i64 p)], [(0, .dat 116 (ld L 7))])) := by kernel_rfl
theorem ok71x0 : FnOk Try.prog 71 sh71x0 (A71x0 N) :=
  (h71x0s4 N).fn progOk (T122x0_ok N) fun L x hx => ((raw71x0 N L).trans ((bind71x0 N ..).trans (alt1 x hx)))
noncomputable def T71x0 : Oracle := ext 71 (spSh sh71x0 (A71x0 N)) (T122x0 N)
theorem T71x0_ok : OracleOk Try.prog (T71x0 N) := FnOk.to (ok71x0 N) (T122x0_ok N)
noncomputable def rg123x0 : List (Nat × List Nat) := [(0, [0]), (1, [1, 2]), (2, [1, 3, 2]), (3, [11, 10, 9, 3, 2]), (4, [9, 11, 3, 10, 2]), (5, [5, 3, 11, 10, 9, 2]), (6, [3, 5, 11, 10, 9, 2]), (7, [3, 5, 11, 10, 9, 2]), (8, [11, 10, 9, 3, 2]), (9, [3, 2])]
noncomputable def hd123x0 : Hints := [(9, [11, 10, 9, 3, 2], [3, 2], []), (20, [3, 5, 11, 10, 9, 2, 32], [5, 3, 2], [])]
noncomputable def h123x0s0 (N : Nat) : Sg Try.prog 0 123 := .start hd123x0 rg123x0
noncomputable def F123x0x20 (N : Nat) (w4 : Bool) (w17 w18 : Int) (k0 : Int → R) : R :=
  bif w4 then
    k0 w17
  else
    k0 w18
noncomputable def V123x0x20 (w4 : Bool) (w17 w18 : Int) : Int := F123x0x20 N w4 w17 w18 (fun p => p)
theorem tot123x0x20 (w4 : Bool) (w17 w18 : Int) (k0 : Int → R) : F123x0x20 N w4 w17 w18 k0 = k0 (V123x0x20 N w4 w17 w18) := by
  unfold V123x0x20 F123x0x20
  repeat' (first | rfl | apply cond_k | (apply bnd_k; intro _))
noncomputable def sh123x0x20 : Sh := { tmps := [(2, .c (.p 2 0)), (3, .c (.p 3 0)), (5, .c (.p 5 0)), (9, .c (.sl 146)), (10, .c (.i .i64)), (11, .c (.i .i64)), (32, .c (.b))], mem := [(2, .box (.b :: [.b, .i .i64, .sl 146, .i .i64, .i .i64])), (3, .box (.b :: [.b, .i .i64, .sl 146, .i .i64, .i .i64])), (5, .box ([.i .i64, .i .i64, .i .i64]))] }
noncomputable def K123x0x20w0 (L : List Lf) (p : Int) : Ex × St := (.normal, mg (ofSh sh123x0x20 L) [2, 3, 5, 9, 10, 11] [] [2, 3, 5] [(3, .box [.b (lb L 12), .b (lb L 13), .i .i64 (li L 14), .sl 146 (lb L 15) (ll L 16), .i .i64 (li L 17), .i .i64 p])])
noncomputable def A123x0x20 (L : List Lf) : List (Bool × (Ex × St)) := bnd (F123x0x20 N (lb L 4) (li L 17) (li L 18) (fun p => p)) fun q => [(true, K123x0x20w0 L q)]
theorem raw123x0x20 (L : List Lf) : pc Try.prog (T71x0 N) (h123x0s0 N).h 0 100 123 20 sh123x0x20 L [3, 5, 11, 10, 9, 2] [5, 3, 2] = F123x0x20 N (lb L 4) (li L 17) (li L 18) (fun p => some (K123x0x20w0 L p)) := by kernel_rfl
noncomputable def h123x0s1 : Sg Try.prog 0 123 :=
  (h123x0s0 N).cut (A123x0x20 N) progOk (T71x0_ok N) fun L x hx => (raw123x0x20 N L).trans ((tot123x0x20 N ..).trans (alt0 _ _ hx))
noncomputable def S123x0x9 (w1 : LD) (w2 : Int) (w3 w16 w17 : Int) (kr : Int → Int → Int → Option R) (k0 : Int × Int → Option R) : Option R :=
  bif (decide (w3 < w2)) then
    bif (inB w3 w1.length) then
      bnd (bif (((w1.getD w3.toNat (.i 0)).cell 0).toI == 253) then (((w1.getD w3.toNat (.i 0)).cell 2).toI == 0) else false) fun y0 =>
      bnd (bif y0 then (((w1.getD w3.toNat (.i 0)).cell 1).toI == 4) else false) fun y1 =>
      bnd (V123x0x20 N (bif y1 then (decide (w17 < 0)) else false) w16 w17) fun y2 =>
      bnd (IntKind.wrap .i64 (w16 + ((w1.getD w3.toNat (.i 0)).cell 1).toI)) fun y3 =>
      kr (IntKind.wrap .i64 (w3 + 1)) y3 y2
    else
      none
  else
    k0 (w16, w17)
noncomputable def L123x0x9 (N : Nat) {R : Type} (w1 : LD) (w2 : Int) : Nat → Int → Int → Int → (Int × Int → Option R) → Option R
  | 0, _, _, _, _ => none
  | m + 1, w3, w16, w17, k0 => S123x0x9 N w1 w2 w3 w16 w17 (fun w3 w16 w17 => L123x0x9 N w1 w2 m w3 w16 w17 k0) k0
noncomputable def G123x0x9 (w1 : LD) (w2 : Int) (w3 w16 w17 : Int) : Option (Int × Int) := L123x0x9 N (R := (Int × Int)) w1 w2 N w3 w16 w17 (fun p => some p)
noncomputable def J123x0x9 (L x : List Lf) (kr : List Lf → Option R) (k0 : Int × Int → Option R) : Option R := S123x0x9 N (ll L 1) (li L 2) (li x 0) (li x 1) (li x 2) (fun w3 w16 w17 => kr [.i w3, .i w16, .i w17]) k0
theorem sb123x0x9 (L x : List Lf) (kr : List Lf → Option R) (k0 : Int × Int → Option R) : J123x0x9 N L x kr k0 = (J123x0x9 N L x (fun y => some (.inl y)) (fun p => some (.inr p))).bind (sumE kr k0) := by
  unfold J123x0x9 S123x0x9
  repeat' (first | with_reducible apply cond_b | (with_reducible apply bnd_b; intro _) | rfl)
noncomputable def Q123x0x9 (L : List Lf) (m : Nat) (x : List Lf) : Option (Int × Int) := L123x0x9 N (R := (Int × Int)) (ll L 1) (li L 2) m (li x 0) (li x 1) (li x 2) (fun p => some p)
noncomputable def sh123x0x9 : Sh := { tmps := [(2, .c (.p 2 0)), (3, .c (.p 3 0)), (9, .c (.sl 146)), (10, .c (.i .i64)), (11, .c (.i .i64))], mem := [(2, .box (.b :: [.b, .i .i64, .sl 146, .i .i64, .i .i64])), (3, .box (.b :: [.b, .i .i64, .sl 146, .i .i64, .i .i64]))] }
noncomputable def K123x0x9w0 (L : List Lf) (p : Int × Int) : Ex × St := ((.exit 0), mg (ofSh sh123x0x9 L) [2, 3] [] [2, 3] [(3, .box [.b (lb L 11), .b (lb L 12), .i .i64 (li L 13), .sl 146 (lb L 14) (ll L 15), .i .i64 p.1, .i .i64 p.2])])
noncomputable def A123x0x9 (L : List Lf) : List (Bool × (Ex × St)) := bnd (Q123x0x9 N L N (pk sh123x0x9 [3, 16, 17] L)) fun q => [(q.isSome, K123x0x9w0 L (q.getD default))]
theorem step123x0x9 (m : Nat) (kn : St → Option (Ex × St)) (L x : List Lf) : lpB Try.prog (T71x0 N) (h123x0s1 N).h 0 123 9 sh123x0x9 [3, 16, 17] [2, 3] [3, 2] (m + 100) kn L x = J123x0x9 N L x (fun y => kn (ofSh sh123x0x9 (mx sh123x0x9 [3, 16, 17] L y))) (fun p => some (K123x0x9w0 L p)) := by kernel_rfl
theorem ql123x0x9 (L : List Lf) (m : Nat) (x : List Lf) : Q123x0x9 N L (m + 1) x = J123x0x9 N L x (Q123x0x9 N L m) some := by kernel_rfl
noncomputable def h123x0s2 : Sg Try.prog 0 123 :=
  (h123x0s1 N).lp (A123x0x9 N) N progOk (T71x0_ok N) (fun m kn L x => (step123x0x9 N m kn L x).trans (sb123x0x9 N L x _ _)) (fun L m x => (ql123x0x9 N L m x).trans (sb123x0x9 N L x (Q123x0x9 N L m) some)) fun L x hx => alt1 x hx
noncomputable def F123x0 (v3 : LD) (k0 : Int × Int → Option R) : Option R :=
  bnd (G123x0x9 N v3 (v3.length : Int) 0 0 (-1)) fun y0 =>
  bif y0.isSome then
    k0 (y0.getD default)
  else
    none
noncomputable def G123x0 (v3 : LD) : Option (Int × Int) := F123x0 N v3 (fun p => some p)
theorem bind123x0 (v3 : LD) (k0 : Int × Int → Option R) : F123x0 N v3 k0 = (G123x0 N v3).bind k0 := by
  unfold G123x0 F123x0
  repeat' (first | with_reducible apply cond_b | (with_reducible apply bnd_b; intro _) | rfl)
noncomputable def sh123x0 : Sh := { tmps := [(0, .g ([.b, .i .i64, .sl 146]))], mem := [] }
noncomputable def K123x0w0 (L : List Lf) (p : Int × Int) : Res := ([.g [.b true, .b (lb L 0), .i .i64 (li L 1), .sl 146 (lb L 2) (ll L 3), .i .i64 p.1, .i .i64 p.2]], [])
noncomputable def A123x0 (L : List Lf) : List (Bool × Res) := bnd (F123x0 N (ll L 3) (fun p => some p)) fun q => [(q.isSome, K123x0w0 L (q.getD default))]
theorem raw123x0 (L : List Lf) : bd Try.prog (T71x0 N) (h123x0s2 N).h 123 sh123x0 L = F123x0 N (ll L 3) (fun p => some (K123x0w0 L p)) := by kernel_rfl
theorem ok123x0 : FnOk Try.prog 123 sh123x0 (A123x0 N) :=
  (h123x0s2 N).fn progOk (T71x0_ok N) fun L x hx => ((raw123x0 N L).trans ((bind123x0 N ..).trans (alt1 x hx)))
noncomputable def T123x0 : Oracle := ext 123 (spSh sh123x0 (A123x0 N)) (T71x0 N)
theorem T123x0_ok : OracleOk Try.prog (T123x0 N) := FnOk.to (ok123x0 N) (T71x0_ok N)
noncomputable def rg81x0 : List (Nat × List Nat) := [(0, [0, 1]), (1, [0, 1]), (2, [0, 1, 5]), (3, [10, 9, 0, 1, 5]), (4, [10, 0, 1, 5, 9]), (5, [0, 6, 1, 5, 10, 9]), (6, [1, 6, 5, 0, 10, 9, 7]), (7, [6, 5, 0, 10, 9, 1]), (8, [5, 0, 7, 10, 9, 1]), (9, [10, 9, 0, 1, 5]), (10, [5])]
noncomputable def hd81x0 : Hints := [(9, [10, 9, 0, 1, 5], [], []), (23, [6, 5, 0, 10, 9, 1, 7, 18], [], [])]
noncomputable def h81x0s0 (N : Nat) : Sg Try.prog 0 81 := .start hd81x0 rg81x0
noncomputable def F81x0x23 (N : Nat) (w4 w5 : Int) (w8 : Bool) (k0 : Int → R) : R :=
  bif w8 then
    k0 w4
  else
    k0 w5
noncomputable def V81x0x23 (w4 w5 : Int) (w8 : Bool) : Int := F81x0x23 N w4 w5 w8 (fun p => p)
theorem tot81x0x23 (w4 w5 : Int) (w8 : Bool) (k0 : Int → R) : F81x0x23 N w4 w5 w8 k0 = k0 (V81x0x23 N w4 w5 w8) := by
  unfold V81x0x23 F81x0x23
  repeat' (first | rfl | apply cond_k | (apply bnd_k; intro _))
noncomputable def sh81x0x23 : Sh := { tmps := [(0, .c (.sl 5)), (1, .c (.b)), (5, .c (.i .i64)), (6, .c (.i .i64)), (7, .c (.i .i64)), (9, .c (.i .i64)), (10, .c (.i .i64)), (18, .c (.b))], mem := [] }
noncomputable def K81x0x23w0 (L : List Lf) (p : Int) : Ex × St := (.normal, mg (ofSh sh81x0x23 L) [0, 1, 5, 7, 9, 10] [(7, .c (.i .i64 p))] [] [])
noncomputable def A81x0x23 (L : List Lf) : List (Bool × (Ex × St)) := bnd (F81x0x23 N (li L 4) (li L 5) (lb L 8) (fun p => p)) fun q => [(true, K81x0x23w0 L q)]
theorem raw81x0x23 (L : List Lf) : pc Try.prog (T123x0 N) (h81x0s0 N).h 0 100 81 23 sh81x0x23 L [5, 0, 7, 10, 9, 1] [] = F81x0x23 N (li L 4) (li L 5) (lb L 8) (fun p => some (K81x0x23w0 L p)) := by kernel_rfl
noncomputable def h81x0s1 : Sg Try.prog 0 81 :=
  (h81x0s0 N).cut (A81x0x23 N) progOk (T123x0_ok N) fun L x hx => (raw81x0x23 N L).trans ((tot81x0x23 N ..).trans (alt0 _ _ hx))
noncomputable def S81x0x9 (w1 : LD) (w2 : Bool) (w4 : Int) (w3 w5 : Int) (kr : Int → Int → Option R) (k0 : Int → Option R) : Option R :=
  bif (decide (w5 < w4)) then
    bnd (IntKind.wrap .i64 ((IntKind.wrap .i64 ((w1.length : Int) - 1)) - w5)) fun y0 =>
    bnd (V81x0x23 N w5 y0 w2) fun y1 =>
    bif (inB y1 w1.length) then
      bnd ((bitsV .or .i64 (IntKind.wrap .i64 (w3 * 2 ^ 8)) (IntKind.wrap .i64 (w1.getD y1.toNat (.i 0)).toI)).getD 0) fun y2 =>
      kr y2 (IntKind.wrap .i64 (w5 + 1))
    else
      none
  else
    k0 w3
noncomputable def L81x0x9 (N : Nat) {R : Type} (w1 : LD) (w2 : Bool) (w4 : Int) : Nat → Int → Int → (Int → Option R) → Option R
  | 0, _, _, _ => none
  | m + 1, w3, w5, k0 => S81x0x9 N w1 w2 w4 w3 w5 (fun w3 w5 => L81x0x9 N w1 w2 w4 m w3 w5 k0) k0
noncomputable def G81x0x9 (w1 : LD) (w2 : Bool) (w4 : Int) (w3 w5 : Int) : Option (Int) := L81x0x9 N (R := (Int)) w1 w2 w4 N w3 w5 (fun p => some p)
noncomputable def J81x0x9 (L x : List Lf) (kr : List Lf → Option R) (k0 : Int → Option R) : Option R := S81x0x9 N (ll L 1) (lb L 2) (li L 4) (li x 0) (li x 1) (fun w3 w5 => kr [.i w3, .i w5]) k0
theorem sb81x0x9 (L x : List Lf) (kr : List Lf → Option R) (k0 : Int → Option R) : J81x0x9 N L x kr k0 = (J81x0x9 N L x (fun y => some (.inl y)) (fun p => some (.inr p))).bind (sumE kr k0) := by
  unfold J81x0x9 S81x0x9
  repeat' (first | with_reducible apply cond_b | (with_reducible apply bnd_b; intro _) | rfl)
noncomputable def Q81x0x9 (L : List Lf) (m : Nat) (x : List Lf) : Option (Int) := L81x0x9 N (R := (Int)) (ll L 1) (lb L 2) (li L 4) m (li x 0) (li x 1) (fun p => some p)
noncomputable def sh81x0x9 : Sh := { tmps := [(0, .c (.sl 5)), (1, .c (.b)), (5, .c (.i .i64)), (9, .c (.i .i64)), (10, .c (.i .i64))], mem := [] }
noncomputable def A81x0x9 (L : List Lf) : List (Bool × (Ex × St)) := bnd (Q81x0x9 N L N (pk sh81x0x9 [3, 5] L)) fun q => [(q.isSome, ((.exit 0), ⟨[(5, .c (.i .i64 (q.getD default)))], []⟩))]
theorem step81x0x9 (m : Nat) (kn : St → Option (Ex × St)) (L x : List Lf) : lpB Try.prog (T123x0 N) (h81x0s1 N).h 0 81 9 sh81x0x9 [3, 5] [4, 5] [] (m + 100) kn L x = J81x0x9 N L x (fun y => kn (ofSh sh81x0x9 (mx sh81x0x9 [3, 5] L y))) (fun p => some ((.exit 0), ⟨[(5, .c (.i .i64 p))], []⟩)) := by kernel_rfl
theorem ql81x0x9 (L : List Lf) (m : Nat) (x : List Lf) : Q81x0x9 N L (m + 1) x = J81x0x9 N L x (Q81x0x9 N L m) some := by kernel_rfl
noncomputable def h81x0s2 : Sg Try.prog 0 81 :=
  (h81x0s1 N).lp (A81x0x9 N) N progOk (T123x0_ok N) (fun m kn L x => (step81x0x9 N m kn L x).trans (sb81x0x9 N L x _ _)) (fun L m x => (ql81x0x9 N L m x).trans (sb81x0x9 N L x (Q81x0x9 N L m) some)) fun L x hx => alt1 x hx
noncomputable def F81x0 (v1 : LD) (v2 : Bool) (k0 : Int → Option R) : Option R :=
  bnd (G81x0x9 N v1 v2 (v1.length : Int) 0 0) fun y0 =>
  bif y0.isSome then
    k0 (y0.getD default)
  else
    none
noncomputable def G81x0 (v1 : LD) (v2 : Bool) : Option (Int) := F81x0 N v1 v2 (fun p => some p)
theorem bind81x0 (v1 : LD) (v2 : Bool) (k0 : Int → Option R) : F81x0 N v1 v2 k0 = (G81x0 N v1 v2).bind k0 := by
  unfold G81x0 F81x0
  repeat' (first | with_reducible apply cond_b | (with_reducible apply bnd_b; intro _) | rfl)
noncomputable def sh81x0 : Sh := { tmps := [(0, .c (.sl 5)), (1, .c (.b))], mem := [] }
noncomputable def A81x0 (L : List Lf) : List (Bool × Res) := bnd (F81x0 N (ll L 1) (lb L 2) (fun p => some p)) fun q => [(q.isSome, ([.c (.i .i64 (q.getD default))], []))]
theorem raw81x0 (L : List Lf) : bd Try.prog (T123x0 N) (h81x0s2 N).h 81 sh81x0 L = F81x0 N (ll L 1) (lb L 2) (fun p => some ([.c (.i .i64 p)], [])) := by kernel_rfl
theorem ok81x0 : FnOk Try.prog 81 sh81x0 (A81x0 N) :=
  (h81x0s2 N).fn progOk (T123x0_ok N) fun L x hx => ((raw81x0 N L).trans ((bind81x0 N ..).trans (alt1 x hx)))
noncomputable def T81x0 : Oracle := ext 81 (spSh sh81x0 (A81x0 N)) (T123x0 N)
theorem T81x0_ok : OracleOk Try.prog (T81x0 N) := FnOk.to (ok81x0 N) (T123x0_ok N)
noncomputable def rg72x0 : List (Nat × List Nat) := [(0, [1, 0]), (1, [0, 3]), (2, [0, 3, 5]), (3, [3, 0, 5, 6]), (5, [3, 0, 6, 5]), (7, [6, 3, 0, 5]), (8, [3, 6, 0, 5]), (9, [7, 0, 5]), (10, [7, 0]), (6, [0, 3]), (4, [0, 3, 5]), (11, [5, 0]), (12, [0, 5]), (13, [5])]
noncomputable def hd72x0 : Hints := [(32, [7, 0, 5, 67], [0], []), (26, [3, 6, 0, 5, 49], [7, 4, 0], []), (21020, [0, 3, 6, 5, 30], [7, 4, 0], []), (15014, [0, 3, 5, 6, 15], [7, 4, 0], []), (38, [0, 5, 70], [0], [])]
noncomputable def h72x0s0 (N : Nat) : Sg Try.prog 1 72 := .start hd72x0 rg72x0
noncomputable def F72x0x32 (N : Nat) (w0 w1 : Int) (w2 : Bool) (k0 : Int → R) : R :=
  bif w2 then
    k0 w1
  else
    k0 w0
noncomputable def V72x0x32 (w0 w1 : Int) (w2 : Bool) : Int := F72x0x32 N w0 w1 w2 (fun p => p)
theorem tot72x0x32 (w0 w1 : Int) (w2 : Bool) (k0 : Int → R) : F72x0x32 N w0 w1 w2 k0 = k0 (V72x0x32 N w0 w1 w2) := by
  unfold V72x0x32 F72x0x32
  repeat' (first | rfl | apply cond_k | (apply bnd_k; intro _))
noncomputable def sh72x0x32 : Sh := { tmps := [(0, .c (.p 0 0)), (5, .c (.i .i64)), (7, .c (.i .i64)), (67, .c (.b))], mem := [(0, .dat 116)] }
noncomputable def K72x0x32w0 (L : List Lf) (p : Int) : Ex × St := (.normal, mg (ofSh sh72x0x32 L) [0, 5] [(5, .c (.i .i64 p))] [0] [])
noncomputable def A72x0x32 (L : List Lf) : List (Bool × (Ex × St)) := bnd (F72x0x32 N (li L 0) (li L 1) (lb L 2) (fun p => p)) fun q => [(true, K72x0x32w0 L q)]
theorem raw72x0x32 (L : List Lf) : pc Try.prog (T81x0 N) (h72x0s0 N).h 1 100 72 32 sh72x0x32 L [5, 0] [0] = F72x0x32 N (li L 0) (li L 1) (lb L 2) (fun p => some (K72x0x32w0 L p)) := by kernel_rfl
noncomputable def h72x0s1 : Sg Try.prog 1 72 :=
  (h72x0s0 N).cut (A72x0x32 N) progOk (T81x0_ok N) fun L x hx => (raw72x0x32 N L).trans ((tot72x0x32 N ..).trans (alt0 _ _ hx))
noncomputable def F72x0x26 (w0 : Int) (w1 : Bool) (w9 : LD) (w11 : Bool) (w16 : Int) (k0 : Int → Option R) : Option R :=
  bif w1 then
    bif (((decide (0 ≤ w16)) && (decide (w16 ≤ (IntKind.wrap .i64 (w16 + 4))))) && (decide ((IntKind.wrap .i64 (w16 + 4)) ≤ (w9.length : Int)))) then
      bnd (((w9.take (IntKind.wrap .i64 (w16 + 4)).toNat).drop w16.toNat) : List D) fun y0 =>
      bnd (G81x0 N y0 w11) fun y1 =>
      bif y1.isSome then
        bnd (G124x0 N 4 false) fun y2 =>
        bif y2.isSome then
          bnd (V72x0x32 N w0 (y1.getD default) ((y1.getD default) != (y2.getD default))) fun y3 =>
          k0 y3
        else
          none
      else
        none
    else
      none
  else
    k0 w0
noncomputable def G72x0x26 (w0 : Int) (w1 : Bool) (w9 : LD) (w11 : Bool) (w16 : Int) : Option (Int) := F72x0x26 N w0 w1 w9 w11 w16 (fun p => some p)
theorem bind72x0x26 (w0 : Int) (w1 : Bool) (w9 : LD) (w11 : Bool) (w16 : Int) (k0 : Int → Option R) : F72x0x26 N w0 w1 w9 w11 w16 k0 = (G72x0x26 N w0 w1 w9 w11 w16).bind k0 := by
  unfold G72x0x26 F72x0x26
  repeat' (first | with_reducible apply cond_b | (with_reducible apply bnd_b; intro _) | rfl)
noncomputable def J72x0x26 (L : List Lf) (k0 : Int → Option R) : Option R := F72x0x26 N (li L 0) (lb L 1) (ll L 9) (lb L 11) (li L 16) k0
noncomputable def sh72x0x26 : Sh := { tmps := [(0, .c (.p 0 0)), (3, .c (.p 4 0)), (5, .c (.i .i64)), (6, .c (.p 7 0)), (49, .c (.b))], mem := [(0, .dat 116), (4, .box ([.i .i64, .i .i64, .i .i64, .sl 103, .sl 5])), (7, .box (.b :: [.b, .i .i64, .sl 146, .i .i64, .i .i64]))] }
noncomputable def K72x0x26w0 (L : List Lf) (p : Int) : Ex × St := (.normal, mg (ofSh sh72x0x26 L) [0, 5] [(5, .c (.i .i64 p))] [0] [])
noncomputable def A72x0x26 (L : List Lf) : List (Bool × (Ex × St)) := bnd (J72x0x26 N L (fun p => some p)) fun q => [(q.isSome, K72x0x26w0 L (q.getD default))]
theorem raw72x0x26 (L : List Lf) : pc Try.prog (T81x0 N) (h72x0s1 N).h 1 100 72 26 sh72x0x26 L [5, 0] [0] = J72x0x26 N L (fun p => some (K72x0x26w0 L p)) := by kernel_rfl
noncomputable def h72x0s2 : Sg Try.prog 1 72 :=
  (h72x0s1 N).cut (A72x0x26 N) progOk (T81x0_ok N) fun L x hx => (raw72x0x26 N L).trans ((bind72x0x26 N ..).trans (alt1 x hx))
noncomputable def F72x0x21020 (w0 : Int) (w1 : Bool) (w2 : D) (w5 : Int) (w9 : LD) (w11 : Bool) (w16 : Int) (k0 : Int → Option R) : Option R :=
  bif w1 then
    bnd (IntKind.wrap .i64 ((IntKind.wrap .i64 (w5 - ((w2.cell 96).toI.tmod 32))) + 32)) fun y0 =>
    k0 (IntKind.wrap .i64 ((w2.cell 96).toI + (y0.tmod 32)))
  else
    bnd (G72x0x26 N w0 (decide (w16 ≥ 0)) w9 w11 w16) fun y1 =>
    bif y1.isSome then
      k0 (y1.getD default)
    else
      none
noncomputable def G72x0x21020 (w0 : Int) (w1 : Bool) (w2 : D) (w5 : Int) (w9 : LD) (w11 : Bool) (w16 : Int) : Option (Int) := F72x0x21020 N w0 w1 w2 w5 w9 w11 w16 (fun p => some p)
theorem bind72x0x21020 (w0 : Int) (w1 : Bool) (w2 : D) (w5 : Int) (w9 : LD) (w11 : Bool) (w16 : Int) (k0 : Int → Option R) : F72x0x21020 N w0 w1 w2 w5 w9 w11 w16 k0 = (G72x0x21020 N w0 w1 w2 w5 w9 w11 w16).bind k0 := by
  unfold G72x0x21020 F72x0x21020
  repeat' (first | with_reducible apply cond_b | (with_reducible apply bnd_b; intro _) | rfl)
noncomputable def J72x0x21020 (L : List Lf) (k0 : Int → Option R) : Option R := F72x0x21020 N (li L 0) (lb L 1) (ld L 2) (li L 5) (ll L 9) (lb L 11) (li L 16) k0
noncomputable def sh72x0x21020 : Sh := { tmps := [(0, .c (.p 0 0)), (3, .c (.p 4 0)), (5, .c (.i .i64)), (6, .c (.p 7 0)), (30, .c (.b))], mem := [(0, .dat 116), (4, .box ([.i .i64, .i .i64, .i .i64, .sl 103, .sl 5])), (7, .box (.b :: [.b, .i .i64, .sl 146, .i .i64, .i .i64]))] }
noncomputable def K72x0x21020w0 (L : List Lf) (p : Int) : Ex × St := (.normal, mg (ofSh sh72x0x21020 L) [0, 5] [(5, .c (.i .i64 p))] [0] [])
noncomputable def A72x0x21020 (L : List Lf) : List (Bool × (Ex × St)) := bnd (J72x0x21020 N L (fun p => some p)) fun q => [(q.isSome, K72x0x21020w0 L (q.getD default))]
theorem raw72x0x21020 (L : List Lf) : pc Try.prog (T81x0 N) (h72x0s2 N).h 1 100 72 21020 sh72x0x21020 L [5, 0] [0] = J72x0x21020 N L (fun p => some (K72x0x21020w0 L p)) := by kernel_rfl
noncomputable def h72x0s3 : Sg Try.prog 1 72 :=
  (h72x0s2 N).cut (A72x0x21020 N) progOk (T81x0_ok N) fun L x hx => (raw72x0x21020 N L).trans ((bind72x0x21020 N ..).trans (alt1 x hx))
noncomputable def F72x0x15014 (w0 : Int) (w1 : Bool) (w2 : D) (w3 w4 w5 : Int) (w7 w9 : LD) (w11 : Bool) (w16 : Int) (k0 : Int × D → Option R) : Option R :=
  bif w1 then
    bif (inB 0 w7.length) then
      bnd (G123x0 N ((w7.getD 0 (.i 0)).cell 2).items) fun y0 =>
      bif y0.isSome then
        bif (inB w4 16) then
          bnd (((((((w2.put (0 + (w4.toNat * 6)) (.b true)).put (1 + (w4.toNat * 6)) (.b ((w7.getD 0 (.i 0)).cell 0).toB)).put (2 + (w4.toNat * 6)) (.i ((w7.getD 0 (.i 0)).cell 1).toI)).put (3 + (w4.toNat * 6)) (.l ((w7.getD 0 (.i 0)).cell 2).isNil ((w7.getD 0 (.i 0)).cell 2).items)).put (4 + (w4.toNat * 6)) (.i (y0.getD default).1)).put (5 + (w4.toNat * 6)) (.i (y0.getD default).2)) : D) fun y1 =>
          k0 (w0, y1)
        else
          none
      else
        none
    else
      none
  else
    bnd (G72x0x21020 N w0 (w3 == 3) w2 w5 w9 w11 w16) fun y2 =>
    bif y2.isSome then
      k0 ((y2.getD default), w2)
    else
      none
noncomputable def G72x0x15014 (w0 : Int) (w1 : Bool) (w2 : D) (w3 w4 w5 : Int) (w7 w9 : LD) (w11 : Bool) (w16 : Int) : Option (Int × D) := F72x0x15014 N w0 w1 w2 w3 w4 w5 w7 w9 w11 w16 (fun p => some p)
theorem bind72x0x15014 (w0 : Int) (w1 : Bool) (w2 : D) (w3 w4 w5 : Int) (w7 w9 : LD) (w11 : Bool) (w16 : Int) (k0 : Int × D → Option R) : F72x0x15014 N w0 w1 w2 w3 w4 w5 w7 w9 w11 w16 k0 = (G72x0x15014 N w0 w1 w2 w3 w4 w5 w7 w9 w11 w16).bind k0 := by
  unfold G72x0x15014 F72x0x15014
  repeat' (first | with_reducible apply cond_b | (with_reducible apply bnd_b; intro _) | rfl)
noncomputable def J72x0x15014 (L : List Lf) (k0 : Int × D → Option R) : Option R := F72x0x15014 N (li L 0) (lb L 1) (ld L 2) (li L 3) (li L 4) (li L 5) (ll L 7) (ll L 9) (lb L 11) (li L 16) k0
noncomputable def sh72x0x15014 : Sh := { tmps := [(0, .c (.p 0 0)), (3, .c (.p 4 0)), (5, .c (.i .i64)), (6, .c (.p 7 0)), (15, .c (.b))], mem := [(0, .dat 116), (4, .box ([.i .i64, .i .i64, .i .i64, .sl 103, .sl 5])), (7, .box (.b :: [.b, .i .i64, .sl 146, .i .i64, .i .i64]))] }
noncomputable def K72x0x15014w0 (L : List Lf) (p : Int × D) : Ex × St := (.normal, ⟨[(0, .c (.p 0 0)), (5, .c (.i .i64 p.1))], [(0, .dat 116 p.2)]⟩)
noncomputable def A72x0x15014 (L : List Lf) : List (Bool × (Ex × St)) := bnd (J72x0x15014 N L (fun p => some p)) fun q => [(q.isSome, K72x0x15014w0 L (q.getD default))]
theorem raw72x0x15014 (L : List Lf) : pc Try.prog (T81x0 N) (h72x0s3 N).h 1 100 72 15014 sh72x0x15014 L [5, 0] [0] = J72x0x15014 N L (fun p => some (K72x0x15014w0 L p)) := by kernel_rfl
noncomputable def h72x0s4 : Sg Try.prog 1 72 :=
  (h72x0s3 N).cut (A72x0x15014 N) progOk (T81x0_ok N) fun L x hx => (raw72x0x15014 N L).trans ((bind72x0x15014 N ..).trans (alt1 x hx))
noncomputable def F72x0x38 (N : Nat) (w0 : Int) (w1 : Bool) (w2 : D) (k0 : D → R) : R :=
  bif w1 then
    k0 (w2.put 96 (.i w0))
  else
    k0 w2
noncomputable def V72x0x38 (w0 : Int) (w1 : Bool) (w2 : D) : D := F72x0x38 N w0 w1 w2 (fun p => p)
theorem tot72x0x38 (w0 : Int) (w1 : Bool) (w2 : D) (k0 : D → R) : F72x0x38 N w0 w1 w2 k0 = k0 (V72x0x38 N w0 w1 w2) := by
  unfold V72x0x38 F72x0x38
  repeat' (first | rfl | apply cond_k | (apply bnd_k; intro _))
noncomputable def sh72x0x38 : Sh := { tmps := [(0, .c (.p 0 0)), (5, .c (.i .i64)), (70, .c (.b))], mem := [(0, .dat 116)] }
noncomputable def A72x0x38 (L : List Lf) : List (Bool × (Ex × St)) := bnd (F72x0x38 N (li L 0) (lb L 1) (ld L 2) (fun p => p)) fun q => [(true, (.normal, ⟨[(5, .c (.i .i64 (li L 0)))], [(0, .dat 116 q)]⟩))]
theorem raw72x0x38 (L : List Lf) : pc Try.prog (T81x0 N) (h72x0s4 N).h 1 100 72 38 sh72x0x38 L [5] [0] = F72x0x38 N (li L 0) (lb L 1) (ld L 2) (fun p => some (.normal, ⟨[(5, .c (.i .i64 (li L 0)))], [(0, .dat 116 p)]⟩)) := by kernel_rfl
noncomputable def h72x0s5 : Sg Try.prog 1 72 :=
  (h72x0s4 N).cut (A72x0x38 N) progOk (T81x0_ok N) fun L x hx => (raw72x0x38 N L).trans ((tot72x0x38 N ..).trans (alt0 _ _ hx))
noncomputable def F72x0 (v0 v1 v2 : Int) (v4 v6 : LD) (v7 : D) (k0 : Int × D → Option R) : Option R :=
  bif (inB v1 16) then
    bnd (G72x0x15014 N (-1) (v0 == 1) v7 v0 v1 v2 v4 v6 (v7.cell (1 + (v1.toNat * 6))).toB (v7.cell (5 + (v1.toNat * 6))).toI) fun y0 =>
    bif y0.isSome then
      bnd (V72x0x38 N (y0.getD default).1 (decide ((y0.getD default).1 ≥ 0)) (y0.getD default).2) fun y1 =>
      k0 ((y0.getD default).1, y1)
    else
      none
  else
    none
noncomputable def G72x0 (v0 v1 v2 : Int) (v4 v6 : LD) (v7 : D) : Option (Int × D) := F72x0 N v0 v1 v2 v4 v6 v7 (fun p => some p)
theorem bind72x0 (v0 v1 v2 : Int) (v4 v6 : LD) (v7 : D) (k0 : Int × D → Option R) : F72x0 N v0 v1 v2 v4 v6 v7 k0 = (G72x0 N v0 v1 v2 v4 v6 v7).bind k0 := by
  unfold G72x0 F72x0
  repeat' (first | with_reducible apply cond_b | (with_reducible apply bnd_b; intro _) | rfl)
noncomputable def J72x0 (L : List Lf) (k0 : Int × D → Option R) : Option R := F72x0 N (li L 0) (li L 1) (li L 2) (ll L 4) (ll L 6) (ld L 7) k0
noncomputable def sh72x0 : Sh := { tmps := [(0, .c (.p 0 0)), (1, .g ([.i .i64, .i .i64, .i .i64, .sl 103, .sl 5]))], mem := [(0, .dat 116)] }
noncomputable def A72x0 (L : List Lf) : List (Bool × Res) := bnd (J72x0 N L (fun p => some p)) fun q => [(q.isSome, ([.c (.i .i64 (q.getD default).1)], [(0, .dat 116 (q.getD default).2)]))]
theorem raw72x0 (L : List Lf) : bd Try.prog (T81x0 N) (h72x0s5 N).h 72 sh72x0 L = J72x0 N L (fun p => some ([.c (.i .i64 p.1)], [(0, .dat 116 p.2)])) := by kernel_rfl
theorem ok72x0 : FnOk Try.prog 72 sh72x0 (A72x0 N) :=
  (h72x0s5 N).fn progOk (T81x0_ok N) fun L x hx => ((raw72x0 N L).trans ((bind72x0 N ..).trans (alt1 x hx)))
noncomputable def T72x0 : Oracle := ext 72 (spSh sh72x0 (A72x0 N)) (T81x0 N)
theorem T72x0_ok : OracleOk Try.prog (T72x0 N) := FnOk.to (ok72x0 N) (T81x0_ok N)
end Go.Proofs.Ytnnofignhdijiaa
