/- Functions of the program as plain Lean definitions, each with the proof that the program computes it. No condition. Printed by a program of the prover, part 1. -/
import Derived.Test.YtefmjfcdgadggaaAm2
import Derived.Test.YtefmjfcdgadggaaChecked
import Derived.KernelRfl
set_option linter.all false
set_option maxRecDepth 100000
namespace Go.Proofs.Ytefmjfcdgadggaa
open Go Go.AM
theorem progOk : ProgOk Try.prog := progOk_of (by kernel_rfl)
variable (N : Nat) {R : Type}
abbrev LD : Type := List D
abbrev LB : Type := List UInt8
abbrev Ty0 : Type := Int × Int × Int × Int × Int × Int × Int × Int × Int × Int × Int × Int × Bool × Bool × Bool × Bool × Bool × Bool × Bool × Bool × Bool × Bool
abbrev Ty1 : Type := Int × Int × Int × Int × Int × Int × Int × Int × Int × Int × Int × Int × Int × Int × Int × Int × Int × Int × Int × Int × Bool
abbrev Ty2 : Type := Int × Int × Int × Int × Int × Int × Int × Int × Int × Int × Int × Int × Int × Int × Int × Int × Int × Int × Int
abbrev Ty3 : Type := Bool × Bool × Bool × Bool × Bool × Bool × Bool × Bool × Bool × Bool × Bool × Bool
abbrev Ty4 : Type := Int × Int × Int × Int × Int × Int × Int × Int × Int × Int × Int × Int
abbrev Ty5 : Type := Bool × Bool × Bool × Bool × Bool × Bool × Bool × Bool × Bool × Bool
abbrev Ty6 : Type := Int × (List (D × D)) × Int × Int × Int
abbrev Ty7 : Type := LB × Int × Int × Int × Bool
abbrev Ty8 : Type := Int × Int × Int × Int × LB
abbrev Ty9 : Type := Int × Int × Int × (List (D × D))
abbrev Ty10 : Type := (List (D × D)) × Bool × LD
abbrev Ty11 : Type := Bool × LD × Bool × Int
noncomputable def rg48x0 : List (Nat × List Nat) := [(0, [0, 1, 2]), (1, [0, 1, 2])]
noncomputable def hd48x0 : Hints := []
noncomputable def h48x0s0 (N : Nat) : Sg Try.prog 0 48 := .start hd48x0 rg48x0
noncomputable def F48x0 (N : Nat) (v0 v1 v2 : Int) (k0 : Bool → R) : R :=
  k0 (bif (decide (v0 ≥ v1)) then (decide (v0 ≤ v2)) else false)
noncomputable def V48x0 (v0 v1 v2 : Int) : Bool := F48x0 N v0 v1 v2 (fun p => p)
theorem tot48x0 (v0 v1 v2 : Int) (k0 : Bool → R) : F48x0 N v0 v1 v2 k0 = k0 (V48x0 N v0 v1 v2) := by
  unfold V48x0 F48x0
  repeat' (first | rfl | apply cond_k | (apply bnd_k; intro _))
noncomputable def sh48x0 : Sh := { tmps := [(0, .c (.i .i64)), (1, .c (.i .i64)), (2, .c (.i .i64))], mem := [] }
noncomputable def A48x0 (L : List Lf) : List (Bool × Res) := bnd (F48x0 N (li L 0) (li L 1) (li L 2) (fun p => p)) fun q => [(true, ([.c (.b q)], []))]
theorem raw48x0 (L : List Lf) : bd Try.prog noOracle (h48x0s0 N).h 48 sh48x0 L = F48x0 N (li L 0) (li L 1) (li L 2) (fun p => some ([.c (.b p)], [])) := by kernel_rfl
theorem ok48x0 : FnOk Try.prog 48 sh48x0 (A48x0 N) :=
  (h48x0s0 N).fn progOk noOracle_ok fun L x hx => ((raw48x0 N L).trans ((tot48x0 N ..).trans (alt0 _ _ hx)))
noncomputable def T48x0 : Oracle := ext 48 (spSh sh48x0 (A48x0 N)) noOracle
theorem T48x0_ok : OracleOk Try.prog (T48x0 N) := FnOk.to (ok48x0 N) noOracle_ok
noncomputable def rg80x0 : List (Nat × List Nat) := [(0, [0]), (1, [0])]
noncomputable def hd80x0 : Hints := []
noncomputable def h80x0s0 (N : Nat) : Sg Try.prog 0 80 := .start hd80x0 rg80x0
noncomputable def F80x0 (N : Nat) (v0 : Int) (k0 : Bool → R) : R :=
  k0 (bif (decide (v0 ≥ 48)) then (decide (v0 ≤ 57)) else false)
noncomputable def V80x0 (v0 : Int) : Bool := F80x0 N v0 (fun p => p)
theorem tot80x0 (v0 : Int) (k0 : Bool → R) : F80x0 N v0 k0 = k0 (V80x0 N v0) := by
  unfold V80x0 F80x0
  repeat' (first | rfl | apply cond_k | (apply bnd_k; intro _))
noncomputable def sh80x0 : Sh := { tmps := [(0, .c (.i .u8))], mem := [] }
noncomputable def A80x0 (L : List Lf) : List (Bool × Res) := bnd (F80x0 N (li L 0) (fun p => p)) fun q => [(true, ([.c (.b q)], []))]
theorem raw80x0 (L : List Lf) : bd Try.prog (T48x0 N) (h80x0s0 N).h 80 sh80x0 L = F80x0 N (li L 0) (fun p => some ([.c (.b p)], [])) := by kernel_rfl
theorem ok80x0 : FnOk Try.prog 80 sh80x0 (A80x0 N) :=
  (h80x0s0 N).fn progOk (T48x0_ok N) fun L x hx => ((raw80x0 N L).trans ((tot80x0 N ..).trans (alt0 _ _ hx)))
noncomputable def T80x0 : Oracle := ext 80 (spSh sh80x0 (A80x0 N)) (T48x0 N)
theorem T80x0_ok : OracleOk Try.prog (T80x0 N) := FnOk.to (ok80x0 N) (T48x0_ok N)
noncomputable def rg51x0 : List (Nat × List Nat) := [(0, [0]), (1, [0]), (2, [8, 7, 0]), (3, [8, 0, 7]), (4, [0, 3, 8, 7]), (5, [4, 8, 7, 0]), (6, [5, 4, 8, 7, 0]), (7, []), (8, [8, 7, 0]), (9, [0])]
noncomputable def hd51x0 : Hints := [(6, [8, 7, 0], [], []), (19, [5, 4, 8, 7, 0], [], [])]
noncomputable def h51x0s0 (N : Nat) : Sg Try.prog 0 51 := .start hd51x0 rg51x0
noncomputable def F51x0x19 (w1 : Int) (w2 : Bool) (k0 : Bool → R) : R :=
  bif (!w2) then
    bnd (V80x0 N w1) fun y0 =>
    bnd (bif (bif (!y0) then (w1 != 45) else false) then (w1 != 95) else false) fun y1 =>
    k0 (bif y1 then (w1 != 46) else false)
  else
    k0 false
noncomputable def V51x0x19 (w1 : Int) (w2 : Bool) : Bool := F51x0x19 N w1 w2 (fun p => p)
theorem tot51x0x19 (w1 : Int) (w2 : Bool) (k0 : Bool → R) : F51x0x19 N w1 w2 k0 = k0 (V51x0x19 N w1 w2) := by
  unfold V51x0x19 F51x0x19
  repeat' (first | rfl | apply cond_k | (apply bnd_k; intro _))
noncomputable def sh51x0x19 : Sh := { tmps := [(0, .c (.s)), (4, .c (.i .u8)), (5, .c (.b)), (7, .c (.i .i64)), (8, .c (.i .i64))], mem := [] }
noncomputable def K51x0x19w0 (L : List Lf) (p : Bool) : Ex × St := (.normal, mg (ofSh sh51x0x19 L) [0, 7, 8, 46] [(46, .c (.b p))] [] [])
noncomputable def A51x0x19 (L : List Lf) : List (Bool × (Ex × St)) := bnd (F51x0x19 N (li L 1) (lb L 2) (fun p => p)) fun q => [(true, K51x0x19w0 L q)]
theorem raw51x0x19 (L : List Lf) : pc Try.prog (T80x0 N) (h51x0s0 N).h 0 100 51 19 sh51x0x19 L [8, 7, 0, 46] [] = F51x0x19 N (li L 1) (lb L 2) (fun p => some (K51x0x19w0 L p)) := by kernel_rfl
noncomputable def h51x0s1 : Sg Try.prog 0 51 :=
  (h51x0s0 N).cut (A51x0x19 N) progOk (T80x0_ok N) fun L x hx => (raw51x0x19 N L).trans ((tot51x0x19 N ..).trans (alt0 _ _ hx))
noncomputable def S51x0x6 (w0 : LB) (w1 : Int) (w2 : Int) (kr : Int → Option R) (k0 : Unit → Option R) (k1 : Unit → Option R) : Option R :=
  bif (decide (w2 < w1)) then
    bif (inB w2 w0.length) then
      bnd (bif (decide (((w0.getD w2.toNat 0).toNat : Int) ≥ 97)) then (decide (((w0.getD w2.toNat 0).toNat : Int) ≤ 122)) else false) fun y0 =>
      bnd (bif y0 then true else (bif (decide (((w0.getD w2.toNat 0).toNat : Int) ≥ 65)) then (decide (((w0.getD w2.toNat 0).toNat : Int) ≤ 90)) else false)) fun y1 =>
      bnd (V51x0x19 N ((w0.getD w2.toNat 0).toNat : Int) y1) fun y2 =>
      bif y2 then
        k0 ()
      else
        kr (IntKind.wrap .i64 (w2 + 1))
    else
      none
  else
    k1 ()
noncomputable def L51x0x6 (N : Nat) {R : Type} (w0 : LB) (w1 : Int) : Nat → Int → (Unit → Option R) → (Unit → Option R) → Option R
  | 0, _, _, _ => none
  | m + 1, w2, k0, k1 => S51x0x6 N w0 w1 w2 (fun w2 => L51x0x6 N w0 w1 m w2 k0 k1) k0 k1
noncomputable def G51x0x6 (w0 : LB) (w1 : Int) (w2 : Int) : Option (Sum (Unit) (Unit)) := L51x0x6 N (R := (Sum (Unit) (Unit))) w0 w1 N w2 (fun p => some (.inl p)) (fun p => some (.inr p))
noncomputable def J51x0x6 (L x : List Lf) (kr : List Lf → Option R) (k0 : Unit → Option R) (k1 : Unit → Option R) : Option R := S51x0x6 N (ls L 0) (li L 1) (li x 0) (fun w2 => kr [.i w2]) k0 k1
theorem sb51x0x6 (L x : List Lf) (kr : List Lf → Option R) (k0 : Unit → Option R) (k1 : Unit → Option R) : J51x0x6 N L x kr k0 k1 = (J51x0x6 N L x (fun y => some (.inl y)) (fun p => some (.inr (.inl p))) (fun p => some (.inr (.inr p)))).bind (sumE kr (sumE k0 k1)) := by
  unfold J51x0x6 S51x0x6
  repeat' (first | rfl | apply cond_b | (apply bnd_b; intro _))
noncomputable def Q51x0x6 (L : List Lf) (m : Nat) (x : List Lf) : Option (Sum (Unit) (Unit)) := L51x0x6 N (R := (Sum (Unit) (Unit))) (ls L 0) (li L 1) m (li x 0) (fun p => some (.inl p)) (fun p => some (.inr p))
noncomputable def sh51x0x6 : Sh := { tmps := [(0, .c (.s)), (7, .c (.i .i64)), (8, .c (.i .i64))], mem := [] }
noncomputable def A51x0x6 (L : List Lf) : List (Bool × (Ex × St)) := bnd (Q51x0x6 N L N (pk sh51x0x6 [2] L)) fun q => [((inlB q), (.ret, ⟨[(2, .c (.b false))], []⟩)), ((inrQ q).isSome, ((.exit 0), ⟨[(0, .c (.s (ls L 0)))], []⟩))]
theorem step51x0x6 (m : Nat) (kn : St → Option (Ex × St)) (L x : List Lf) : lpB Try.prog (T80x0 N) (h51x0s1 N).h 0 51 6 sh51x0x6 [2] [2, 0] [] (m + 100) kn L x = J51x0x6 N L x (fun y => kn (ofSh sh51x0x6 (mx sh51x0x6 [2] L y))) (fun _ => some (.ret, ⟨[(2, .c (.b false))], []⟩)) (fun _ => some ((.exit 0), ⟨[(0, .c (.s (ls L 0)))], []⟩)) := by kernel_rfl
noncomputable def h51x0s2 : Sg Try.prog 0 51 :=
  (h51x0s1 N).lp (A51x0x6 N) N progOk (T80x0_ok N) (fun m kn L x => (step51x0x6 N m kn L x).trans (sb51x0x6 N L x _ _ _)) (fun L m x => sb51x0x6 N L x (Q51x0x6 N L m) (fun p => some (.inl p)) (fun p => some (.inr p))) fun L x hx => (altS alt1) x hx
noncomputable def F51x0 (v0 : LB) (k0 : Bool → Option R) : Option R :=
  bnd (G51x0x6 N v0 (v0.length : Int) 0) fun y0 =>
  bif (inlB y0) then
    k0 false
  else
    bif (inrQ y0).isSome then
      bnd (bif (decide ((v0.length : Int) ≥ 1)) then (decide ((v0.length : Int) ≤ 60)) else false) fun y1 =>
      k0 y1
    else
      none
noncomputable def G51x0 (v0 : LB) : Option (Bool) := F51x0 N v0 (fun p => some p)
theorem bind51x0 (v0 : LB) (k0 : Bool → Option R) : F51x0 N v0 k0 = (G51x0 N v0).bind k0 := by
  unfold G51x0 F51x0
  repeat' (first | rfl | apply cond_b | (apply bnd_b; intro _))
noncomputable def sh51x0 : Sh := { tmps := [(0, .c (.s))], mem := [] }
noncomputable def A51x0 (L : List Lf) : List (Bool × Res) := bnd (F51x0 N (ls L 0) (fun p => some p)) fun q => [(q.isSome, ([.c (.b (q.getD default))], []))]
theorem raw51x0 (L : List Lf) : bd Try.prog (T80x0 N) (h51x0s2 N).h 51 sh51x0 L = F51x0 N (ls L 0) (fun p => some ([.c (.b p)], [])) := by kernel_rfl
theorem ok51x0 : FnOk Try.prog 51 sh51x0 (A51x0 N) :=
  (h51x0s2 N).fn progOk (T80x0_ok N) fun L x hx => ((raw51x0 N L).trans ((bind51x0 N ..).trans (alt1 x hx)))
noncomputable def T51x0 : Oracle := ext 51 (spSh sh51x0 (A51x0 N)) (T80x0 N)
theorem T51x0_ok : OracleOk Try.prog (T51x0 N) := FnOk.to (ok51x0 N) (T80x0_ok N)
noncomputable def rg82x0 : List (Nat × List Nat) := [(0, [0, 1]), (1, [2, 1])]
noncomputable def hd82x0 : Hints := []
noncomputable def h82x0s0 (N : Nat) : Sg Try.prog 1 82 := .start hd82x0 rg82x0
noncomputable def F82x0 (N : Nat) (v0 v5 : LB) (k0 : Bool → R) : R :=
  k0 (v0 == v5)
noncomputable def V82x0 (v0 v5 : LB) : Bool := F82x0 N v0 v5 (fun p => p)
theorem tot82x0 (v0 v5 : LB) (k0 : Bool → R) : F82x0 N v0 v5 k0 = k0 (V82x0 N v0 v5) := by
  unfold V82x0 F82x0
  repeat' (first | rfl | apply cond_k | (apply bnd_k; intro _))
noncomputable def sh82x0 : Sh := { tmps := [(0, .g ([.s, .i .i64, .i .i64, .i .i64, .b])), (1, .c (.p 0 0))], mem := [(0, .box ([.s]))] }
noncomputable def A82x0 (L : List Lf) : List (Bool × Res) := bnd (F82x0 N (ls L 0) (ls L 5) (fun p => p)) fun q => [(true, ([.c (.b q)], [(0, .box [.s (ls L 5)])]))]
theorem raw82x0 (L : List Lf) : bd Try.prog (T51x0 N) (h82x0s0 N).h 82 sh82x0 L = F82x0 N (ls L 0) (ls L 5) (fun p => some ([.c (.b p)], [(0, .box [.s (ls L 5)])])) := by kernel_rfl
theorem ok82x0 : FnOk Try.prog 82 sh82x0 (A82x0 N) :=
  (h82x0s0 N).fn progOk (T51x0_ok N) fun L x hx => ((raw82x0 N L).trans ((tot82x0 N ..).trans (alt0 _ _ hx)))
noncomputable def T82x0 : Oracle := ext 82 (spSh sh82x0 (A82x0 N)) (T51x0 N)
theorem T82x0_ok : OracleOk Try.prog (T82x0 N) := FnOk.to (ok82x0 N) (T51x0_ok N)
noncomputable def rg81x0 : List (Nat × List Nat) := [(0, [0, 1]), (1, [0, 1]), (2, [8, 7, 1, 0]), (3, [8, 1, 0, 7]), (4, [1, 0, 5, 8, 7]), (5, [5]), (6, [8, 7, 1, 0]), (7, [])]
noncomputable def hd81x0 : Hints := [(6, [8, 7, 1, 0], [0], [])]
noncomputable def h81x0s0 (N : Nat) : Sg Try.prog 1 81 := .start hd81x0 rg81x0
noncomputable def S81x0x6 (w1 : LD) (w2 : Int) (w4 : LB) (w3 : Int) (kr : Int → Option R) (k0 : Int → Option R) (k1 : Unit → Option R) : Option R :=
  bif (decide (w3 < w2)) then
    bif (inB w3 w1.length) then
      bnd (V82x0 N ((w1.getD w3.toNat (.i 0)).cell 0).toS w4) fun y0 =>
      bif y0 then
        k0 w3
      else
        kr (IntKind.wrap .i64 (w3 + 1))
    else
      none
  else
    k1 ()
noncomputable def L81x0x6 (N : Nat) {R : Type} (w1 : LD) (w2 : Int) (w4 : LB) : Nat → Int → (Int → Option R) → (Unit → Option R) → Option R
  | 0, _, _, _ => none
  | m + 1, w3, k0, k1 => S81x0x6 N w1 w2 w4 w3 (fun w3 => L81x0x6 N w1 w2 w4 m w3 k0 k1) k0 k1
noncomputable def G81x0x6 (w1 : LD) (w2 : Int) (w4 : LB) (w3 : Int) : Option (Sum (Int) (Unit)) := L81x0x6 N (R := (Sum (Int) (Unit))) w1 w2 w4 N w3 (fun p => some (.inl p)) (fun p => some (.inr p))
noncomputable def J81x0x6 (L x : List Lf) (kr : List Lf → Option R) (k0 : Int → Option R) (k1 : Unit → Option R) : Option R := S81x0x6 N (ll L 1) (li L 2) (ls L 4) (li x 0) (fun w3 => kr [.i w3]) k0 k1
theorem sb81x0x6 (L x : List Lf) (kr : List Lf → Option R) (k0 : Int → Option R) (k1 : Unit → Option R) : J81x0x6 N L x kr k0 k1 = (J81x0x6 N L x (fun y => some (.inl y)) (fun p => some (.inr (.inl p))) (fun p => some (.inr (.inr p)))).bind (sumE kr (sumE k0 k1)) := by
  unfold J81x0x6 S81x0x6
  repeat' (first | rfl | apply cond_b | (apply bnd_b; intro _))
noncomputable def Q81x0x6 (L : List Lf) (m : Nat) (x : List Lf) : Option (Sum (Int) (Unit)) := L81x0x6 N (R := (Sum (Int) (Unit))) (ll L 1) (li L 2) (ls L 4) m (li x 0) (fun p => some (.inl p)) (fun p => some (.inr p))
noncomputable def sh81x0x6 : Sh := { tmps := [(0, .c (.sl 66)), (1, .c (.f 82 [(0, 0)])), (7, .c (.i .i64)), (8, .c (.i .i64))], mem := [(0, .box ([.s]))] }
noncomputable def A81x0x6 (L : List Lf) : List (Bool × (Ex × St)) := bnd (Q81x0x6 N L N (pk sh81x0x6 [3] L)) fun q => [((inlB q), (.ret, ⟨[(4, .c (.i .i64 (inlV q)))], [(0, .box [.s (ls L 4)])]⟩)), ((inrQ q).isSome, ((.exit 0), ⟨[], [(0, .box [.s (ls L 4)])]⟩))]
theorem step81x0x6 (m : Nat) (kn : St → Option (Ex × St)) (L x : List Lf) : lpB Try.prog (T82x0 N) (h81x0s0 N).h 1 81 6 sh81x0x6 [3] [4] [0] (m + 100) kn L x = J81x0x6 N L x (fun y => kn (ofSh sh81x0x6 (mx sh81x0x6 [3] L y))) (fun p => some (.ret, ⟨[(4, .c (.i .i64 p))], [(0, .box [.s (ls L 4)])]⟩)) (fun _ => some ((.exit 0), ⟨[], [(0, .box [.s (ls L 4)])]⟩)) := by kernel_rfl
noncomputable def h81x0s1 : Sg Try.prog 1 81 :=
  (h81x0s0 N).lp (A81x0x6 N) N progOk (T82x0_ok N) (fun m kn L x => (step81x0x6 N m kn L x).trans (sb81x0x6 N L x _ _ _)) (fun L m x => sb81x0x6 N L x (Q81x0x6 N L m) (fun p => some (.inl p)) (fun p => some (.inr p))) fun L x hx => (altS alt1) x hx
noncomputable def F81x0 (v1 : LD) (v2 : LB) (k0 : Int → Option R) : Option R :=
  bnd (G81x0x6 N v1 (v1.length : Int) v2 0) fun y0 =>
  bif (inlB y0) then
    k0 (inlV y0)
  else
    bif (inrQ y0).isSome then
      k0 (-1)
    else
      none
noncomputable def G81x0 (v1 : LD) (v2 : LB) : Option (Int) := F81x0 N v1 v2 (fun p => some p)
theorem bind81x0 (v1 : LD) (v2 : LB) (k0 : Int → Option R) : F81x0 N v1 v2 k0 = (G81x0 N v1 v2).bind k0 := by
  unfold G81x0 F81x0
  repeat' (first | rfl | apply cond_b | (apply bnd_b; intro _))
noncomputable def sh81x0 : Sh := { tmps := [(0, .c (.sl 66)), (1, .c (.f 82 [(0, 0)]))], mem := [(0, .box ([.s]))] }
noncomputable def A81x0 (L : List Lf) : List (Bool × Res) := bnd (F81x0 N (ll L 1) (ls L 2) (fun p => some p)) fun q => [(q.isSome, ([.c (.i .i64 (q.getD default))], [(0, .box [.s (ls L 2)])]))]
theorem raw81x0 (L : List Lf) : bd Try.prog (T82x0 N) (h81x0s1 N).h 81 sh81x0 L = F81x0 N (ll L 1) (ls L 2) (fun p => some ([.c (.i .i64 p)], [(0, .box [.s (ls L 2)])])) := by kernel_rfl
theorem ok81x0 : FnOk Try.prog 81 sh81x0 (A81x0 N) :=
  (h81x0s1 N).fn progOk (T82x0_ok N) fun L x hx => ((raw81x0 N L).trans ((bind81x0 N ..).trans (alt1 x hx)))
noncomputable def T81x0 : Oracle := ext 81 (spSh sh81x0 (A81x0 N)) (T82x0 N)
theorem T81x0_ok : OracleOk Try.prog (T81x0 N) := FnOk.to (ok81x0 N) (T82x0_ok N)
noncomputable def rg52x0 : List (Nat × List Nat) := [(0, [0, 1]), (1, [2, 3])]
noncomputable def hd52x0 : Hints := []
noncomputable def h52x0s0 (N : Nat) : Sg Try.prog 0 52 := .start hd52x0 rg52x0
noncomputable def F52x0 (v4 : LD) (v7 : LB) (k0 : Int → Option R) : Option R :=
  bnd (G81x0 N v4 v7) fun y0 =>
  bif y0.isSome then
    k0 (y0.getD default)
  else
    none
noncomputable def G52x0 (v4 : LD) (v7 : LB) : Option (Int) := F52x0 N v4 v7 (fun p => some p)
theorem bind52x0 (v4 : LD) (v7 : LB) (k0 : Int → Option R) : F52x0 N v4 v7 k0 = (G52x0 N v4 v7).bind k0 := by
  unfold G52x0 F52x0
  repeat' (first | rfl | apply cond_b | (apply bnd_b; intro _))
noncomputable def sh52x0 : Sh := { tmps := [(0, .g ([.i .i64, .i .i64, .i .i64, .sl 66, .sl 68])), (1, .c (.s))], mem := [] }
noncomputable def A52x0 (L : List Lf) : List (Bool × Res) := bnd (F52x0 N (ll L 4) (ls L 7) (fun p => some p)) fun q => [(q.isSome, ([.c (.i .i64 (q.getD default))], []))]
theorem raw52x0 (L : List Lf) : bd Try.prog (T81x0 N) (h52x0s0 N).h 52 sh52x0 L = F52x0 N (ll L 4) (ls L 7) (fun p => some ([.c (.i .i64 p)], [])) := by kernel_rfl
theorem ok52x0 : FnOk Try.prog 52 sh52x0 (A52x0 N) :=
  (h52x0s0 N).fn progOk (T81x0_ok N) fun L x hx => ((raw52x0 N L).trans ((bind52x0 N ..).trans (alt1 x hx)))
noncomputable def T52x0 : Oracle := ext 52 (spSh sh52x0 (A52x0 N)) (T81x0 N)
theorem T52x0_ok : OracleOk Try.prog (T52x0 N) := FnOk.to (ok52x0 N) (T81x0_ok N)
noncomputable def rg83x0 : List (Nat × List Nat) := [(0, [0]), (1, [0, 2]), (2, [3, 2]), (4, [3, 2]), (6, [3, 2]), (8, [3, 2]), (10, [3, 2]), (11, [2]), (9, [2]), (7, [2]), (5, [2]), (3, [2]), (12, [2])]
noncomputable def hd83x0 : Hints := []
noncomputable def h83x0s0 (N : Nat) : Sg Try.prog 0 83 := .start hd83x0 rg83x0
noncomputable def F83x0 (N : Nat) (v0 : Int) (k0 : Bool × Bool × Bool × Bool × Bool → R) : R :=
  bif (v0 == 1) then
    k0 (true, false, false, false, false)
  else
    bif (v0 == 2) then
      k0 (true, true, false, false, false)
    else
      bif (v0 == 6) then
        k0 (false, false, true, true, true)
      else
        bif (v0 == 8) then
          k0 (true, false, false, false, true)
        else
          bif (v0 == 9) then
            k0 (true, true, true, false, false)
          else
            k0 (false, true, false, false, false)
noncomputable def V83x0 (v0 : Int) : Bool × Bool × Bool × Bool × Bool := F83x0 N v0 (fun p => p)
theorem tot83x0 (v0 : Int) (k0 : Bool × Bool × Bool × Bool × Bool → R) : F83x0 N v0 k0 = k0 (V83x0 N v0) := by
  unfold V83x0 F83x0
  repeat' (first | rfl | apply cond_k | (apply bnd_k; intro _))
noncomputable def sh83x0 : Sh := { tmps := [(0, .c (.i .i64))], mem := [] }
noncomputable def K83x0w0 (L : List Lf) (p : Bool × Bool × Bool × Bool × Bool) : Res := ([.g [.b p.1, .b p.2.1, .b p.2.2.1, .b p.2.2.2.1, .b p.2.2.2.2]], [])
noncomputable def A83x0 (L : List Lf) : List (Bool × Res) := bnd (F83x0 N (li L 0) (fun p => p)) fun q => [(true, K83x0w0 L q)]
theorem raw83x0 (L : List Lf) : bd Try.prog (T52x0 N) (h83x0s0 N).h 83 sh83x0 L = F83x0 N (li L 0) (fun p => some (K83x0w0 L p)) := by kernel_rfl
theorem ok83x0 : FnOk Try.prog 83 sh83x0 (A83x0 N) :=
  (h83x0s0 N).fn progOk (T52x0_ok N) fun L x hx => ((raw83x0 N L).trans ((tot83x0 N ..).trans (alt0 _ _ hx)))
noncomputable def T83x0 : Oracle := ext 83 (spSh sh83x0 (A83x0 N)) (T52x0 N)
theorem T83x0_ok : OracleOk Try.prog (T83x0 N) := FnOk.to (ok83x0 N) (T52x0_ok N)
noncomputable def rg53x0 : List (Nat × List Nat) := [(0, [0, 1]), (1, [3, 2]), (2, []), (3, [3, 2]), (4, [3, 2, 5]), (5, [3, 2, 5, 7, 8, 6]), (6, [2, 3, 5, 7, 8]), (7, [3, 5, 6, 2, 7, 8]), (8, [3, 5, 6, 2]), (9, [3, 5, 6, 2, 7, 8]), (10, [5, 3, 6, 9, 2, 7, 8]), (11, [5, 3, 7, 8, 9, 2]), (13, [3, 9, 5, 2]), (14, [3, 5, 2]), (16, [5, 2, 3]), (18, [5, 3]), (19, [5, 3]), (20, [5, 3]), (21, [5, 3]), (22, [5, 3]), (23, []), (17, []), (15, []), (12, []), (24, [])]
noncomputable def hd53x0 : Hints := [(20, [2, 3, 5, 7, 8, 6, 24], [5, 3, 2], []), (26, [3, 5, 6, 2, 7, 8, 30], [5, 3, 2], []), (31, [5, 3, 6, 9, 2, 7, 8], [5, 3, 2], []), (34, [5, 3, 7, 8, 9, 2], [5, 3, 2], []), (33002, [3, 9, 5, 2, 46, 7, 8], [5, 3, 2], []), (43, [3, 5, 2], [5, 3, 2], []), (42002, [5, 2, 3, 66], [5, 3, 2], []), (49, [5, 2, 3], [5, 3, 2], []), (66002, [103, 5, 3], [5, 3], []), (63002, [103, 5, 3], [5, 3], []), (60002, [103, 5, 3], [5, 3], []), (57002, [103, 5, 3], [5, 3], [])]
noncomputable def h53x0s0 (N : Nat) : Sg Try.prog 0 53 := .start hd53x0 rg53x0
noncomputable def F53x0x20 (N : Nat) (w0 : Int) (w3 : Bool) (w5 : Int) (k0 : Int → R) : R :=
  bif w3 then
    k0 (IntKind.wrap .i64 (w5 - 1))
  else
    k0 w0
noncomputable def V53x0x20 (w0 : Int) (w3 : Bool) (w5 : Int) : Int := F53x0x20 N w0 w3 w5 (fun p => p)
theorem tot53x0x20 (w0 : Int) (w3 : Bool) (w5 : Int) (k0 : Int → R) : F53x0x20 N w0 w3 w5 k0 = k0 (V53x0x20 N w0 w3 w5) := by
  unfold V53x0x20 F53x0x20
  repeat' (first | rfl | apply cond_k | (apply bnd_k; intro _))
noncomputable def sh53x0x20 : Sh := { tmps := [(2, .c (.p 2 0)), (3, .c (.p 3 0)), (5, .c (.p 5 0)), (6, .c (.i .i64)), (7, .c (.i .i64)), (8, .c (.i .i64)), (24, .c (.b))], mem := [(2, .box ([.i .i64, .i .i64, .i .i64, .sl 66, .sl 68])), (3, .box (rI 5 ([.s]))), (5, .box (rB 5 ([])))] }
noncomputable def K53x0x20w0 (L : List Lf) (p : Int) : Ex × St := (.normal, mg (ofSh sh53x0x20 L) [2, 3, 5, 6, 7, 8] [(6, .c (.i .i64 p))] [2, 3, 5] [])
noncomputable def A53x0x20 (L : List Lf) : List (Bool × (Ex × St)) := bnd (F53x0x20 N (li L 0) (lb L 3) (li L 5) (fun p => p)) fun q => [(true, K53x0x20w0 L q)]
theorem raw53x0x20 (L : List Lf) : pc Try.prog (T83x0 N) (h53x0s0 N).h 0 100 53 20 sh53x0x20 L [3, 5, 6, 2, 7, 8] [5, 3, 2] = F53x0x20 N (li L 0) (lb L 3) (li L 5) (fun p => some (K53x0x20w0 L p)) := by kernel_rfl
noncomputable def h53x0s1 : Sg Try.prog 0 53 :=
  (h53x0s0 N).cut (A53x0x20 N) progOk (T83x0_ok N) fun L x hx => (raw53x0x20 N L).trans ((tot53x0x20 N ..).trans (alt0 _ _ hx))
noncomputable def F53x0x26 (N : Nat) (w1 w2 : Int) (w3 : Bool) (k0 : Int × Int → R) : R :=
  bif w3 then
    k0 (1, 14)
  else
    k0 (w1, w2)
noncomputable def V53x0x26 (w1 w2 : Int) (w3 : Bool) : Int × Int := F53x0x26 N w1 w2 w3 (fun p => p)
theorem tot53x0x26 (w1 w2 : Int) (w3 : Bool) (k0 : Int × Int → R) : F53x0x26 N w1 w2 w3 k0 = k0 (V53x0x26 N w1 w2 w3) := by
  unfold V53x0x26 F53x0x26
  repeat' (first | rfl | apply cond_k | (apply bnd_k; intro _))
noncomputable def sh53x0x26 : Sh := { tmps := [(2, .c (.p 2 0)), (3, .c (.p 3 0)), (5, .c (.p 5 0)), (6, .c (.i .i64)), (7, .c (.i .i64)), (8, .c (.i .i64)), (30, .c (.b))], mem := [(2, .box ([.i .i64, .i .i64, .i .i64, .sl 66, .sl 68])), (3, .box (rI 5 ([.s]))), (5, .box (rB 5 ([])))] }
noncomputable def K53x0x26w0 (L : List Lf) (p : Int × Int) : Ex × St := (.normal, mg (ofSh sh53x0x26 L) [2, 3, 5, 6, 7, 8] [(7, .c (.i .i64 p.1)), (8, .c (.i .i64 p.2))] [2, 3, 5] [])
noncomputable def A53x0x26 (L : List Lf) : List (Bool × (Ex × St)) := bnd (F53x0x26 N (li L 1) (li L 2) (lb L 3) (fun p => p)) fun q => [(true, K53x0x26w0 L q)]
theorem raw53x0x26 (L : List Lf) : pc Try.prog (T83x0 N) (h53x0s1 N).h 0 100 53 26 sh53x0x26 L [3, 5, 6, 2, 7, 8] [5, 3, 2] = F53x0x26 N (li L 1) (li L 2) (lb L 3) (fun p => some (K53x0x26w0 L p)) := by kernel_rfl
noncomputable def h53x0s2 : Sg Try.prog 0 53 :=
  (h53x0s1 N).cut (A53x0x26 N) progOk (T83x0_ok N) fun L x hx => (raw53x0x26 N L).trans ((tot53x0x26 N ..).trans (alt0 _ _ hx))
noncomputable def F53x0x31 (w0 w12 : Int) (w17 : Bool) (k0 : Bool → R) : R :=
  bif w17 then
    bnd (V48x0 N w12 0 w0) fun y0 =>
    k0 (!y0)
  else
    k0 false
noncomputable def V53x0x31 (w0 w12 : Int) (w17 : Bool) : Bool := F53x0x31 N w0 w12 w17 (fun p => p)
theorem tot53x0x31 (w0 w12 : Int) (w17 : Bool) (k0 : Bool → R) : F53x0x31 N w0 w12 w17 k0 = k0 (V53x0x31 N w0 w12 w17) := by
  unfold V53x0x31 F53x0x31
  repeat' (first | rfl | apply cond_k | (apply bnd_k; intro _))
noncomputable def sh53x0x31 : Sh := { tmps := [(2, .c (.p 2 0)), (3, .c (.p 3 0)), (5, .c (.p 5 0)), (6, .c (.i .i64)), (7, .c (.i .i64)), (8, .c (.i .i64)), (9, .c (.b))], mem := [(2, .box ([.i .i64, .i .i64, .i .i64, .sl 66, .sl 68])), (3, .box (rI 5 ([.s]))), (5, .box (rB 5 ([])))] }
noncomputable def K53x0x31w0 (L : List Lf) (p : Bool) : Ex × St := (.normal, mg (ofSh sh53x0x31 L) [2, 3, 5, 7, 8, 9, 46] [(46, .c (.b p))] [2, 3, 5] [])
noncomputable def A53x0x31 (L : List Lf) : List (Bool × (Ex × St)) := bnd (F53x0x31 N (li L 0) (li L 12) (lb L 17) (fun p => p)) fun q => [(true, K53x0x31w0 L q)]
theorem raw53x0x31 (L : List Lf) : pc Try.prog (T83x0 N) (h53x0s2 N).h 0 100 53 31 sh53x0x31 L [3, 9, 5, 2, 46, 7, 8] [5, 3, 2] = F53x0x31 N (li L 0) (li L 12) (lb L 17) (fun p => some (K53x0x31w0 L p)) := by kernel_rfl
noncomputable def h53x0s3 : Sg Try.prog 0 53 :=
  (h53x0s2 N).cut (A53x0x31 N) progOk (T83x0_ok N) fun L x hx => (raw53x0x31 N L).trans ((tot53x0x31 N ..).trans (alt0 _ _ hx))
noncomputable def F53x0x34 (w0 w1 w12 : Int) (w17 : Bool) (k0 : Bool → R) : R :=
  bif w17 then
    bnd (V48x0 N w12 w0 w1) fun y0 =>
    k0 (!y0)
  else
    k0 false
noncomputable def V53x0x34 (w0 w1 w12 : Int) (w17 : Bool) : Bool := F53x0x34 N w0 w1 w12 w17 (fun p => p)
theorem tot53x0x34 (w0 w1 w12 : Int) (w17 : Bool) (k0 : Bool → R) : F53x0x34 N w0 w1 w12 w17 k0 = k0 (V53x0x34 N w0 w1 w12 w17) := by
  unfold V53x0x34 F53x0x34
  repeat' (first | rfl | apply cond_k | (apply bnd_k; intro _))
noncomputable def J53x0x34 (L : List Lf) (k0 : Bool → R) : R := F53x0x34 N (li L 0) (li L 1) (li L 12) (lb L 17) k0
noncomputable def sh53x0x34 : Sh := { tmps := [(2, .c (.p 2 0)), (3, .c (.p 3 0)), (5, .c (.p 5 0)), (7, .c (.i .i64)), (8, .c (.i .i64)), (9, .c (.b))], mem := [(2, .box ([.i .i64, .i .i64, .i .i64, .sl 66, .sl 68])), (3, .box (rI 5 ([.s]))), (5, .box (rB 5 ([])))] }
noncomputable def K53x0x34w0 (L : List Lf) (p : Bool) : Ex × St := (.normal, mg (ofSh sh53x0x34 L) [2, 3, 5, 9, 46] [(46, .c (.b p))] [2, 3, 5] [])
noncomputable def A53x0x34 (L : List Lf) : List (Bool × (Ex × St)) := bnd (J53x0x34 N L (fun p => p)) fun q => [(true, K53x0x34w0 L q)]
theorem raw53x0x34 (L : List Lf) : pc Try.prog (T83x0 N) (h53x0s3 N).h 0 100 53 34 sh53x0x34 L [3, 9, 5, 2, 46] [5, 3, 2] = J53x0x34 N L (fun p => some (K53x0x34w0 L p)) := by kernel_rfl
noncomputable def h53x0s4 : Sg Try.prog 0 53 :=
  (h53x0s3 N).cut (A53x0x34 N) progOk (T83x0_ok N) fun L x hx => (raw53x0x34 N L).trans ((tot53x0x34 N ..).trans (alt0 _ _ hx))
noncomputable def F53x0x33002 (w0 w1 : Int) (w3 : Bool) (w13 : Int) (w18 : Bool) (k0 : Bool → R) : R :=
  bif w3 then
    k0 true
  else
    bnd (V53x0x34 N w0 w1 w13 w18) fun y0 =>
    k0 y0
noncomputable def V53x0x33002 (w0 w1 : Int) (w3 : Bool) (w13 : Int) (w18 : Bool) : Bool := F53x0x33002 N w0 w1 w3 w13 w18 (fun p => p)
theorem tot53x0x33002 (w0 w1 : Int) (w3 : Bool) (w13 : Int) (w18 : Bool) (k0 : Bool → R) : F53x0x33002 N w0 w1 w3 w13 w18 k0 = k0 (V53x0x33002 N w0 w1 w3 w13 w18) := by
  unfold V53x0x33002 F53x0x33002
  repeat' (first | rfl | apply cond_k | (apply bnd_k; intro _))
noncomputable def J53x0x33002 (L : List Lf) (k0 : Bool → R) : R := F53x0x33002 N (li L 0) (li L 1) (lb L 3) (li L 13) (lb L 18) k0
noncomputable def sh53x0x33002 : Sh := { tmps := [(2, .c (.p 2 0)), (3, .c (.p 3 0)), (5, .c (.p 5 0)), (7, .c (.i .i64)), (8, .c (.i .i64)), (9, .c (.b)), (46, .c (.b))], mem := [(2, .box ([.i .i64, .i .i64, .i .i64, .sl 66, .sl 68])), (3, .box (rI 5 ([.s]))), (5, .box (rB 5 ([])))] }
noncomputable def K53x0x33002w0 (L : List Lf) (p : Bool) : Ex × St := (.normal, mg (ofSh sh53x0x33002 L) [2, 3, 5, 9, 46] [(46, .c (.b p))] [2, 3, 5] [])
noncomputable def A53x0x33002 (L : List Lf) : List (Bool × (Ex × St)) := bnd (J53x0x33002 N L (fun p => p)) fun q => [(true, K53x0x33002w0 L q)]
theorem raw53x0x33002 (L : List Lf) : pc Try.prog (T83x0 N) (h53x0s4 N).h 0 100 53 33002 sh53x0x33002 L [3, 9, 5, 2, 46] [5, 3, 2] = J53x0x33002 N L (fun p => some (K53x0x33002w0 L p)) := by kernel_rfl
noncomputable def h53x0s5 : Sg Try.prog 0 53 :=
  (h53x0s4 N).cut (A53x0x33002 N) progOk (T83x0_ok N) fun L x hx => (raw53x0x33002 N L).trans ((tot53x0x33002 N ..).trans (alt0 _ _ hx))
noncomputable def F53x0x43 (w7 w10 : Int) (k0 : Bool → R) : R :=
  bif (w7 == 9) then
    bnd (V48x0 N w10 1 14) fun y0 =>
    k0 (!y0)
  else
    k0 false
noncomputable def V53x0x43 (w7 w10 : Int) : Bool := F53x0x43 N w7 w10 (fun p => p)
theorem tot53x0x43 (w7 w10 : Int) (k0 : Bool → R) : F53x0x43 N w7 w10 k0 = k0 (V53x0x43 N w7 w10) := by
  unfold V53x0x43 F53x0x43
  repeat' (first | rfl | apply cond_k | (apply bnd_k; intro _))
noncomputable def sh53x0x43 : Sh := { tmps := [(2, .c (.p 2 0)), (3, .c (.p 3 0)), (5, .c (.p 5 0))], mem := [(2, .box ([.i .i64, .i .i64, .i .i64, .sl 66, .sl 68])), (3, .box (rI 5 ([.s]))), (5, .box (rB 5 ([])))] }
noncomputable def K53x0x43w0 (L : List Lf) (p : Bool) : Ex × St := (.normal, mg (ofSh sh53x0x43 L) [2, 3, 5, 66] [(66, .c (.b p))] [2, 3, 5] [])
noncomputable def A53x0x43 (L : List Lf) : List (Bool × (Ex × St)) := bnd (F53x0x43 N (li L 7) (li L 10) (fun p => p)) fun q => [(true, K53x0x43w0 L q)]
theorem raw53x0x43 (L : List Lf) : pc Try.prog (T83x0 N) (h53x0s5 N).h 0 100 53 43 sh53x0x43 L [5, 2, 3, 66] [5, 3, 2] = F53x0x43 N (li L 7) (li L 10) (fun p => some (K53x0x43w0 L p)) := by kernel_rfl
noncomputable def h53x0s6 : Sg Try.prog 0 53 :=
  (h53x0s5 N).cut (A53x0x43 N) progOk (T83x0_ok N) fun L x hx => (raw53x0x43 N L).trans ((tot53x0x43 N ..).trans (alt0 _ _ hx))
noncomputable def F53x0x42002 (w0 : Bool) (w8 w11 : Int) (k0 : Bool → R) : R :=
  bif w0 then
    k0 true
  else
    bnd (V53x0x43 N w8 w11) fun y0 =>
    k0 y0
noncomputable def V53x0x42002 (w0 : Bool) (w8 w11 : Int) : Bool := F53x0x42002 N w0 w8 w11 (fun p => p)
theorem tot53x0x42002 (w0 : Bool) (w8 w11 : Int) (k0 : Bool → R) : F53x0x42002 N w0 w8 w11 k0 = k0 (V53x0x42002 N w0 w8 w11) := by
  unfold V53x0x42002 F53x0x42002
  repeat' (first | rfl | apply cond_k | (apply bnd_k; intro _))
noncomputable def sh53x0x42002 : Sh := { tmps := [(2, .c (.p 2 0)), (3, .c (.p 3 0)), (5, .c (.p 5 0)), (66, .c (.b))], mem := [(2, .box ([.i .i64, .i .i64, .i .i64, .sl 66, .sl 68])), (3, .box (rI 5 ([.s]))), (5, .box (rB 5 ([])))] }
noncomputable def K53x0x42002w0 (L : List Lf) (p : Bool) : Ex × St := (.normal, mg (ofSh sh53x0x42002 L) [2, 3, 5, 66] [(66, .c (.b p))] [2, 3, 5] [])
noncomputable def A53x0x42002 (L : List Lf) : List (Bool × (Ex × St)) := bnd (F53x0x42002 N (lb L 0) (li L 8) (li L 11) (fun p => p)) fun q => [(true, K53x0x42002w0 L q)]
theorem raw53x0x42002 (L : List Lf) : pc Try.prog (T83x0 N) (h53x0s6 N).h 0 100 53 42002 sh53x0x42002 L [5, 2, 3, 66] [5, 3, 2] = F53x0x42002 N (lb L 0) (li L 8) (li L 11) (fun p => some (K53x0x42002w0 L p)) := by kernel_rfl
noncomputable def h53x0s7 : Sg Try.prog 0 53 :=
  (h53x0s6 N).cut (A53x0x42002 N) progOk (T83x0_ok N) fun L x hx => (raw53x0x42002 N L).trans ((tot53x0x42002 N ..).trans (alt0 _ _ hx))
noncomputable def F53x0x49 (w4 : LD) (w7 : Int) (w12 : LB) (w17 : Bool) (k0 : Bool → Option R) : Option R :=
  bif w17 then
    bnd (G52x0 N w4 w12) fun y0 =>
    bif y0.isSome then
      bnd (bif (decide ((y0.getD default) < 0)) then (bif (w7 == 6) then true else (!(w12 == ([] : List UInt8)))) else false) fun y1 =>
      k0 y1
    else
      none
  else
    k0 false
noncomputable def G53x0x49 (w4 : LD) (w7 : Int) (w12 : LB) (w17 : Bool) : Option (Bool) := F53x0x49 N w4 w7 w12 w17 (fun p => some p)
theorem bind53x0x49 (w4 : LD) (w7 : Int) (w12 : LB) (w17 : Bool) (k0 : Bool → Option R) : F53x0x49 N w4 w7 w12 w17 k0 = (G53x0x49 N w4 w7 w12 w17).bind k0 := by
  unfold G53x0x49 F53x0x49
  repeat' (first | rfl | apply cond_b | (apply bnd_b; intro _))
noncomputable def J53x0x49 (L : List Lf) (k0 : Bool → Option R) : Option R := F53x0x49 N (ll L 4) (li L 7) (ls L 12) (lb L 17) k0
noncomputable def sh53x0x49 : Sh := { tmps := [(2, .c (.p 2 0)), (3, .c (.p 3 0)), (5, .c (.p 5 0))], mem := [(2, .box ([.i .i64, .i .i64, .i .i64, .sl 66, .sl 68])), (3, .box (rI 5 ([.s]))), (5, .box (rB 5 ([])))] }
noncomputable def K53x0x49w0 (L : List Lf) (p : Bool) : Ex × St := (.normal, mg (ofSh sh53x0x49 L) [3, 5, 83] [(83, .c (.b p))] [3, 5] [])
noncomputable def A53x0x49 (L : List Lf) : List (Bool × (Ex × St)) := bnd (J53x0x49 N L (fun p => some p)) fun q => [(q.isSome, K53x0x49w0 L (q.getD default))]
theorem raw53x0x49 (L : List Lf) : pc Try.prog (T83x0 N) (h53x0s7 N).h 0 100 53 49 sh53x0x49 L [5, 3, 83] [5, 3] = J53x0x49 N L (fun p => some (K53x0x49w0 L p)) := by kernel_rfl
noncomputable def h53x0s8 : Sg Try.prog 0 53 :=
  (h53x0s7 N).cut (A53x0x49 N) progOk (T83x0_ok N) fun L x hx => (raw53x0x49 N L).trans ((bind53x0x49 N ..).trans (alt1 x hx))
noncomputable def F53x0x66002 (N : Nat) (w0 : Bool) (w6 : LB) (w11 : Bool) (k0 : Bool → R) : R :=
  bif w0 then
    k0 true
  else
    k0 (bif (!w11) then (!(w6 == ([] : List UInt8))) else false)
noncomputable def V53x0x66002 (w0 : Bool) (w6 : LB) (w11 : Bool) : Bool := F53x0x66002 N w0 w6 w11 (fun p => p)
theorem tot53x0x66002 (w0 : Bool) (w6 : LB) (w11 : Bool) (k0 : Bool → R) : F53x0x66002 N w0 w6 w11 k0 = k0 (V53x0x66002 N w0 w6 w11) := by
  unfold V53x0x66002 F53x0x66002
  repeat' (first | rfl | apply cond_k | (apply bnd_k; intro _))
noncomputable def sh53x0x66002 : Sh := { tmps := [(3, .c (.p 3 0)), (5, .c (.p 5 0)), (103, .c (.b))], mem := [(3, .box (rI 5 ([.s]))), (5, .box (rB 5 ([])))] }
noncomputable def A53x0x66002 (L : List Lf) : List (Bool × (Ex × St)) := bnd (F53x0x66002 N (lb L 0) (ls L 6) (lb L 11) (fun p => p)) fun q => [(true, (.normal, ⟨[(103, .c (.b q))], []⟩))]
theorem raw53x0x66002 (L : List Lf) : pc Try.prog (T83x0 N) (h53x0s8 N).h 0 100 53 66002 sh53x0x66002 L [103] [] = F53x0x66002 N (lb L 0) (ls L 6) (lb L 11) (fun p => some (.normal, ⟨[(103, .c (.b p))], []⟩)) := by kernel_rfl
noncomputable def h53x0s9 : Sg Try.prog 0 53 :=
  (h53x0s8 N).cut (A53x0x66002 N) progOk (T83x0_ok N) fun L x hx => (raw53x0x66002 N L).trans ((tot53x0x66002 N ..).trans (alt0 _ _ hx))
noncomputable def F53x0x63002 (w0 : Bool) (w5 : Int) (w6 : LB) (w10 w11 : Bool) (k0 : Bool → R) : R :=
  bif w0 then
    k0 true
  else
    bnd (V53x0x66002 N (bif (!w10) then (w5 != 0) else false) w6 w11) fun y0 =>
    k0 y0
noncomputable def V53x0x63002 (w0 : Bool) (w5 : Int) (w6 : LB) (w10 w11 : Bool) : Bool := F53x0x63002 N w0 w5 w6 w10 w11 (fun p => p)
theorem tot53x0x63002 (w0 : Bool) (w5 : Int) (w6 : LB) (w10 w11 : Bool) (k0 : Bool → R) : F53x0x63002 N w0 w5 w6 w10 w11 k0 = k0 (V53x0x63002 N w0 w5 w6 w10 w11) := by
  unfold V53x0x63002 F53x0x63002
  repeat' (first | rfl | apply cond_k | (apply bnd_k; intro _))
noncomputable def J53x0x63002 (L : List Lf) (k0 : Bool → R) : R := F53x0x63002 N (lb L 0) (li L 5) (ls L 6) (lb L 10) (lb L 11) k0
noncomputable def sh53x0x63002 : Sh := { tmps := [(3, .c (.p 3 0)), (5, .c (.p 5 0)), (103, .c (.b))], mem := [(3, .box (rI 5 ([.s]))), (5, .box (rB 5 ([])))] }
noncomputable def A53x0x63002 (L : List Lf) : List (Bool × (Ex × St)) := bnd (J53x0x63002 N L (fun p => p)) fun q => [(true, (.normal, ⟨[(103, .c (.b q))], []⟩))]
theorem raw53x0x63002 (L : List Lf) : pc Try.prog (T83x0 N) (h53x0s9 N).h 0 100 53 63002 sh53x0x63002 L [103] [] = J53x0x63002 N L (fun p => some (.normal, ⟨[(103, .c (.b p))], []⟩)) := by kernel_rfl
noncomputable def h53x0s10 : Sg Try.prog 0 53 :=
  (h53x0s9 N).cut (A53x0x63002 N) progOk (T83x0_ok N) fun L x hx => (raw53x0x63002 N L).trans ((tot53x0x63002 N ..).trans (alt0 _ _ hx))
noncomputable def F53x0x60002 (w0 : Bool) (w4 w5 : Int) (w6 : LB) (w9 w10 w11 : Bool) (k0 : Bool → R) : R :=
  bif w0 then
    k0 true
  else
    bnd (V53x0x63002 N (bif (!w9) then (w4 != 0) else false) w5 w6 w10 w11) fun y0 =>
    k0 y0
noncomputable def V53x0x60002 (w0 : Bool) (w4 w5 : Int) (w6 : LB) (w9 w10 w11 : Bool) : Bool := F53x0x60002 N w0 w4 w5 w6 w9 w10 w11 (fun p => p)
theorem tot53x0x60002 (w0 : Bool) (w4 w5 : Int) (w6 : LB) (w9 w10 w11 : Bool) (k0 : Bool → R) : F53x0x60002 N w0 w4 w5 w6 w9 w10 w11 k0 = k0 (V53x0x60002 N w0 w4 w5 w6 w9 w10 w11) := by
  unfold V53x0x60002 F53x0x60002
  repeat' (first | rfl | apply cond_k | (apply bnd_k; intro _))
noncomputable def J53x0x60002 (L : List Lf) (k0 : Bool → R) : R := F53x0x60002 N (lb L 0) (li L 4) (li L 5) (ls L 6) (lb L 9) (lb L 10) (lb L 11) k0
noncomputable def sh53x0x60002 : Sh := { tmps := [(3, .c (.p 3 0)), (5, .c (.p 5 0)), (103, .c (.b))], mem := [(3, .box (rI 5 ([.s]))), (5, .box (rB 5 ([])))] }
noncomputable def A53x0x60002 (L : List Lf) : List (Bool × (Ex × St)) := bnd (J53x0x60002 N L (fun p => p)) fun q => [(true, (.normal, ⟨[(103, .c (.b q))], []⟩))]
theorem raw53x0x60002 (L : List Lf) : pc Try.prog (T83x0 N) (h53x0s10 N).h 0 100 53 60002 sh53x0x60002 L [103] [] = J53x0x60002 N L (fun p => some (.normal, ⟨[(103, .c (.b p))], []⟩)) := by kernel_rfl
noncomputable def h53x0s11 : Sg Try.prog 0 53 :=
  (h53x0s10 N).cut (A53x0x60002 N) progOk (T83x0_ok N) fun L x hx => (raw53x0x60002 N L).trans ((tot53x0x60002 N ..).trans (alt0 _ _ hx))
noncomputable def F53x0x57002 (w0 : Bool) (w3 w4 w5 : Int) (w6 : LB) (w8 w9 w10 w11 : Bool) (k0 : Bool → R) : R :=
  bif w0 then
    k0 true
  else
    bnd (V53x0x60002 N (bif (!w8) then (w3 != 0) else false) w4 w5 w6 w9 w10 w11) fun y0 =>
    k0 y0
noncomputable def V53x0x57002 (w0 : Bool) (w3 w4 w5 : Int) (w6 : LB) (w8 w9 w10 w11 : Bool) : Bool := F53x0x57002 N w0 w3 w4 w5 w6 w8 w9 w10 w11 (fun p => p)
theorem tot53x0x57002 (w0 : Bool) (w3 w4 w5 : Int) (w6 : LB) (w8 w9 w10 w11 : Bool) (k0 : Bool → R) : F53x0x57002 N w0 w3 w4 w5 w6 w8 w9 w10 w11 k0 = k0 (V53x0x57002 N w0 w3 w4 w5 w6 w8 w9 w10 w11) := by
  unfold V53x0x57002 F53x0x57002
  repeat' (first | rfl | apply cond_k | (apply bnd_k; intro _))
noncomputable def J53x0x57002 (L : List Lf) (k0 : Bool → R) : R := F53x0x57002 N (lb L 0) (li L 3) (li L 4) (li L 5) (ls L 6) (lb L 8) (lb L 9) (lb L 10) (lb L 11) k0
noncomputable def sh53x0x57002 : Sh := { tmps := [(3, .c (.p 3 0)), (5, .c (.p 5 0)), (103, .c (.b))], mem := [(3, .box (rI 5 ([.s]))), (5, .box (rB 5 ([])))] }
noncomputable def A53x0x57002 (L : List Lf) : List (Bool × (Ex × St)) := bnd (J53x0x57002 N L (fun p => p)) fun q => [(true, (.normal, ⟨[(103, .c (.b q))], []⟩))]
theorem raw53x0x57002 (L : List Lf) : pc Try.prog (T83x0 N) (h53x0s11 N).h 0 100 53 57002 sh53x0x57002 L [103] [] = J53x0x57002 N L (fun p => some (.normal, ⟨[(103, .c (.b p))], []⟩)) := by kernel_rfl
noncomputable def h53x0s12 : Sg Try.prog 0 53 :=
  (h53x0s11 N).cut (A53x0x57002 N) progOk (T83x0_ok N) fun L x hx => (raw53x0x57002 N L).trans ((tot53x0x57002 N ..).trans (alt0 _ _ hx))
noncomputable def F53x0 (v1 : Int) (v4 : LD) (v7 v8 v9 v10 v11 : Int) (v12 : LB) (k0 : Int → Option R) : Option R :=
  bnd (V48x0 N v7 1 9) fun y0 =>
  bif (!y0) then
    k0 7
  else
    bnd (V83x0 N v7) fun y1 =>
    bnd (V53x0x20 N 6 (bif (v7 == 8) then true else (v7 == 9)) v1) fun y2 =>
    bnd (V53x0x26 N 0 100000 (v7 == 5)) fun y3 =>
    bnd (bif (decide (v10 ≥ 0)) then (decide (v10 ≤ v11)) else false) fun y4 =>
    bnd (V53x0x31 N y2 v8 y1.1) fun y5 =>
    bnd (V53x0x33002 N y3.1 y3.2 y5 v9 y1.2.1) fun y6 =>
    bif y6 then
      k0 9
    else
      bnd (bif (v7 == 6) then (!(bif y4 then (decide (v11 ≤ 7)) else false)) else false) fun y7 =>
      bnd (V53x0x42002 N y7 v7 v10) fun y8 =>
      bif y8 then
        k0 9
      else
        bnd (G53x0x49 N v4 v7 v12 y1.2.2.2.2) fun y9 =>
        bif y9.isSome then
          bif (y9.getD default) then
            k0 4
          else
            bnd (V53x0x57002 N (bif (!y1.1) then (v8 != 0) else false) v9 v10 v11 v12 y1.2.1 y1.2.2.1 y1.2.2.2.1 y1.2.2.2.2) fun y10 =>
            bif y10 then
              k0 2
            else
              k0 0
        else
          none
noncomputable def G53x0 (v1 : Int) (v4 : LD) (v7 v8 v9 v10 v11 : Int) (v12 : LB) : Option (Int) := F53x0 N v1 v4 v7 v8 v9 v10 v11 v12 (fun p => some p)
theorem bind53x0 (v1 : Int) (v4 : LD) (v7 v8 v9 v10 v11 : Int) (v12 : LB) (k0 : Int → Option R) : F53x0 N v1 v4 v7 v8 v9 v10 v11 v12 k0 = (G53x0 N v1 v4 v7 v8 v9 v10 v11 v12).bind k0 := by
  unfold G53x0 F53x0
  repeat' (first | rfl | apply cond_b | (apply bnd_b; intro _))
noncomputable def J53x0 (L : List Lf) (k0 : Int → Option R) : Option R := F53x0 N (li L 1) (ll L 4) (li L 7) (li L 8) (li L 9) (li L 10) (li L 11) (ls L 12) k0
noncomputable def sh53x0 : Sh := { tmps := [(0, .g ([.i .i64, .i .i64, .i .i64, .sl 66, .sl 68])), (1, .g (rI 5 ([.s])))], mem := [] }
noncomputable def A53x0 (L : List Lf) : List (Bool × Res) := bnd (J53x0 N L (fun p => some p)) fun q => [(q.isSome, ([.c (.i .i64 (q.getD default))], []))]
theorem raw53x0 (L : List Lf) : bd Try.prog (T83x0 N) (h53x0s12 N).h 53 sh53x0 L = J53x0 N L (fun p => some ([.c (.i .i64 p)], [])) := by kernel_rfl
theorem ok53x0 : FnOk Try.prog 53 sh53x0 (A53x0 N) :=
  (h53x0s12 N).fn progOk (T83x0_ok N) fun L x hx => ((raw53x0 N L).trans ((bind53x0 N ..).trans (alt1 x hx)))
noncomputable def T53x0 : Oracle := ext 53 (spSh sh53x0 (A53x0 N)) (T83x0 N)
theorem T53x0_ok : OracleOk Try.prog (T53x0 N) := FnOk.to (ok53x0 N) (T83x0_ok N)
noncomputable def rg19x0 : List (Nat × List Nat) := [(0, [0]), (1, [1]), (3, [1]), (4, []), (2, []), (5, [1]), (6, [39, 38, 37, 1]), (7, [39, 37, 1, 38]), (8, [4, 1, 3, 39, 38, 37]), (10, [1, 4, 3, 39, 38, 37]), (12, [4, 39, 38, 37, 1]), (13, []), (11, []), (9, []), (14, [39, 38, 37, 1]), (15, [1]), (16, [77, 76, 75, 1]), (17, [75, 77, 1, 76]), (18, [1, 6, 77, 76, 75]), (19, [7, 77, 76, 75, 1]), (20, [7]), (21, [77, 76, 75, 1]), (22, [])]
noncomputable def hd19x0 : Hints := [(4, [1], [1], []), (18, [39, 38, 37, 1], [1], []), (37, [4, 39, 38, 37, 1], [4, 1], []), (48, [77, 76, 75, 1], [1], [])]
noncomputable def h19x0s0 (N : Nat) : Sg Try.prog 0 19 := .start hd19x0 rg19x0
noncomputable def F19x0x4 (w0 w1 w2 : Int) (k0 : Bool → R) : R :=
  bnd (V48x0 N w0 0 999985) fun y0 =>
  bif (!y0) then
    k0 true
  else
    bnd (V48x0 N w1 1 14) fun y1 =>
    bif (!y1) then
      k0 true
    else
      bnd (V48x0 N w2 0 100000) fun y2 =>
      k0 (!y2)
noncomputable def V19x0x4 (w0 w1 w2 : Int) : Bool := F19x0x4 N w0 w1 w2 (fun p => p)
theorem tot19x0x4 (w0 w1 w2 : Int) (k0 : Bool → R) : F19x0x4 N w0 w1 w2 k0 = k0 (V19x0x4 N w0 w1 w2) := by
  unfold V19x0x4 F19x0x4
  repeat' (first | rfl | apply cond_k | (apply bnd_k; intro _))
noncomputable def sh19x0x4 : Sh := { tmps := [(1, .c (.p 1 0))], mem := [(1, .box ([.i .i64, .i .i64, .i .i64, .sl 66, .sl 68]))] }
noncomputable def K19x0x4w0 (L : List Lf) (p : Bool) : Ex × St := (.normal, mg (ofSh sh19x0x4 L) [1, 8] [(8, .c (.b p))] [1] [])
noncomputable def A19x0x4 (L : List Lf) : List (Bool × (Ex × St)) := bnd (F19x0x4 N (li L 0) (li L 1) (li L 2) (fun p => p)) fun q => [(true, K19x0x4w0 L q)]
theorem raw19x0x4 (L : List Lf) : pc Try.prog (T53x0 N) (h19x0s0 N).h 0 100 19 4 sh19x0x4 L [1, 8] [1] = F19x0x4 N (li L 0) (li L 1) (li L 2) (fun p => some (K19x0x4w0 L p)) := by kernel_rfl
noncomputable def h19x0s1 : Sg Try.prog 0 19 :=
  (h19x0s0 N).cut (A19x0x4 N) progOk (T53x0_ok N) fun L x hx => (raw19x0x4 N L).trans ((tot19x0x4 N ..).trans (alt0 _ _ hx))
noncomputable def F19x0x37 (w12 w13 w14 : Int) (k0 : Bool → R) : R :=
  bnd (V48x0 N w12 0 1000) fun y0 =>
  bif (!y0) then
    k0 true
  else
    bnd (V48x0 N w13 0 1000) fun y1 =>
    bif (!y1) then
      k0 true
    else
      bnd (V48x0 N w14 0 1000) fun y2 =>
      k0 (!y2)
noncomputable def V19x0x37 (w12 w13 w14 : Int) : Bool := F19x0x37 N w12 w13 w14 (fun p => p)
theorem tot19x0x37 (w12 w13 w14 : Int) (k0 : Bool → R) : F19x0x37 N w12 w13 w14 k0 = k0 (V19x0x37 N w12 w13 w14) := by
  unfold V19x0x37 F19x0x37
  repeat' (first | rfl | apply cond_k | (apply bnd_k; intro _))
noncomputable def sh19x0x37 : Sh := { tmps := [(1, .c (.p 1 0)), (4, .c (.p 4 0)), (37, .c (.sl 66)), (38, .c (.i .i64)), (39, .c (.i .i64))], mem := [(1, .box ([.i .i64, .i .i64, .i .i64, .sl 66, .sl 68])), (4, .box ([.s, .i .i64, .i .i64, .i .i64, .b]))] }
noncomputable def K19x0x37w0 (L : List Lf) (p : Bool) : Ex × St := (.normal, mg (ofSh sh19x0x37 L) [1, 37, 38, 39, 56] [(56, .c (.b p))] [1] [])
noncomputable def A19x0x37 (L : List Lf) : List (Bool × (Ex × St)) := bnd (F19x0x37 N (li L 12) (li L 13) (li L 14) (fun p => p)) fun q => [(true, K19x0x37w0 L q)]
theorem raw19x0x37 (L : List Lf) : pc Try.prog (T53x0 N) (h19x0s1 N).h 0 100 19 37 sh19x0x37 L [39, 38, 37, 1, 56] [1] = F19x0x37 N (li L 12) (li L 13) (li L 14) (fun p => some (K19x0x37w0 L p)) := by kernel_rfl
noncomputable def h19x0s2 : Sg Try.prog 0 19 :=
  (h19x0s1 N).cut (A19x0x37 N) progOk (T53x0_ok N) fun L x hx => (raw19x0x37 N L).trans ((tot19x0x37 N ..).trans (alt0 _ _ hx))
noncomputable def S19x0x18 (w1 : LD) (w2 : Int) (w8 : LD) (w3 : Int) (kr : Int → Option R) (k0 : Int → Option R) (k1 : Unit → Option R) : Option R :=
  bif (decide (w3 < w2)) then
    bif (inB w3 w1.length) then
      bnd (G51x0 N ((w1.getD w3.toNat (.i 0)).cell 0).toS) fun y0 =>
      bif y0.isSome then
        bif (!(y0.getD default)) then
          k0 8
        else
          bnd (G52x0 N w8 ((w1.getD w3.toNat (.i 0)).cell 0).toS) fun y1 =>
          bif y1.isSome then
            bif (decide ((y1.getD default) < w3)) then
              k0 5
            else
              bnd (V19x0x37 N ((w1.getD w3.toNat (.i 0)).cell 1).toI ((w1.getD w3.toNat (.i 0)).cell 2).toI ((w1.getD w3.toNat (.i 0)).cell 3).toI) fun y2 =>
              bif y2 then
                k0 9
              else
                kr (IntKind.wrap .i64 (w3 + 1))
          else
            none
      else
        none
    else
      none
  else
    k1 ()
noncomputable def L19x0x18 (N : Nat) {R : Type} (w1 : LD) (w2 : Int) (w8 : LD) : Nat → Int → (Int → Option R) → (Unit → Option R) → Option R
  | 0, _, _, _ => none
  | m + 1, w3, k0, k1 => S19x0x18 N w1 w2 w8 w3 (fun w3 => L19x0x18 N w1 w2 w8 m w3 k0 k1) k0 k1
noncomputable def G19x0x18 (w1 : LD) (w2 : Int) (w8 : LD) (w3 : Int) : Option (Sum (Int) (Unit)) := L19x0x18 N (R := (Sum (Int) (Unit))) w1 w2 w8 N w3 (fun p => some (.inl p)) (fun p => some (.inr p))
noncomputable def J19x0x18 (L x : List Lf) (kr : List Lf → Option R) (k0 : Int → Option R) (k1 : Unit → Option R) : Option R := S19x0x18 N (ll L 1) (li L 2) (ll L 8) (li x 0) (fun w3 => kr [.i w3]) k0 k1
theorem sb19x0x18 (L x : List Lf) (kr : List Lf → Option R) (k0 : Int → Option R) (k1 : Unit → Option R) : J19x0x18 N L x kr k0 k1 = (J19x0x18 N L x (fun y => some (.inl y)) (fun p => some (.inr (.inl p))) (fun p => some (.inr (.inr p)))).bind (sumE kr (sumE k0 k1)) := by
  unfold J19x0x18 S19x0x18
  repeat' (first | rfl | apply cond_b | (apply bnd_b; intro _))
noncomputable def Q19x0x18 (L : List Lf) (m : Nat) (x : List Lf) : Option (Sum (Int) (Unit)) := L19x0x18 N (R := (Sum (Int) (Unit))) (ll L 1) (li L 2) (ll L 8) m (li x 0) (fun p => some (.inl p)) (fun p => some (.inr p))
noncomputable def sh19x0x18 : Sh := { tmps := [(1, .c (.p 1 0)), (37, .c (.sl 66)), (38, .c (.i .i64)), (39, .c (.i .i64))], mem := [(1, .box ([.i .i64, .i .i64, .i .i64, .sl 66, .sl 68]))] }
noncomputable def K19x0x18w0 (L : List Lf) (p : Int) : Ex × St := (.ret, mg (ofSh sh19x0x18 L) [2] [(2, .c (.i .i64 p))] [1] [])
noncomputable def A19x0x18 (L : List Lf) : List (Bool × (Ex × St)) := bnd (Q19x0x18 N L N (pk sh19x0x18 [3] L)) fun q => [((inlB q), K19x0x18w0 L (inlV q)), ((inrQ q).isSome, ((.exit 1), mg (ofSh sh19x0x18 L) [1] [] [1] []))]
theorem step19x0x18 (m : Nat) (kn : St → Option (Ex × St)) (L x : List Lf) : lpB Try.prog (T53x0 N) (h19x0s2 N).h 0 19 18 sh19x0x18 [3] [2, 1] [1] (m + 100) kn L x = J19x0x18 N L x (fun y => kn (ofSh sh19x0x18 (mx sh19x0x18 [3] L y))) (fun p => some (K19x0x18w0 L p)) (fun _ => some ((.exit 1), mg (ofSh sh19x0x18 L) [1] [] [1] [])) := by kernel_rfl
noncomputable def h19x0s3 : Sg Try.prog 0 19 :=
  (h19x0s2 N).lp (A19x0x18 N) N progOk (T53x0_ok N) (fun m kn L x => (step19x0x18 N m kn L x).trans (sb19x0x18 N L x _ _ _)) (fun L m x => sb19x0x18 N L x (Q19x0x18 N L m) (fun p => some (.inl p)) (fun p => some (.inr p))) fun L x hx => (altS alt1) x hx
noncomputable def S19x0x48 (w1 : LD) (w2 w5 : Int) (w8 : LD) (w3 : Int) (kr : Int → Option R) (k0 : Int → Option R) (k1 : Unit → Option R) : Option R :=
  bif (decide (w3 < w2)) then
    bif (inB w3 w1.length) then
      bnd (G53x0 N w5 w8 ((w1.getD w3.toNat (.i 0)).cell 0).toI ((w1.getD w3.toNat (.i 0)).cell 1).toI ((w1.getD w3.toNat (.i 0)).cell 2).toI ((w1.getD w3.toNat (.i 0)).cell 3).toI ((w1.getD w3.toNat (.i 0)).cell 4).toI ((w1.getD w3.toNat (.i 0)).cell 5).toS) fun y0 =>
      bif y0.isSome then
        bif ((y0.getD default) != 0) then
          k0 (y0.getD default)
        else
          kr (IntKind.wrap .i64 (w3 + 1))
      else
        none
    else
      none
  else
    k1 ()
noncomputable def L19x0x48 (N : Nat) {R : Type} (w1 : LD) (w2 w5 : Int) (w8 : LD) : Nat → Int → (Int → Option R) → (Unit → Option R) → Option R
  | 0, _, _, _ => none
  | m + 1, w3, k0, k1 => S19x0x48 N w1 w2 w5 w8 w3 (fun w3 => L19x0x48 N w1 w2 w5 w8 m w3 k0 k1) k0 k1
noncomputable def G19x0x48 (w1 : LD) (w2 w5 : Int) (w8 : LD) (w3 : Int) : Option (Sum (Int) (Unit)) := L19x0x48 N (R := (Sum (Int) (Unit))) w1 w2 w5 w8 N w3 (fun p => some (.inl p)) (fun p => some (.inr p))
noncomputable def J19x0x48 (L x : List Lf) (kr : List Lf → Option R) (k0 : Int → Option R) (k1 : Unit → Option R) : Option R := S19x0x48 N (ll L 1) (li L 2) (li L 5) (ll L 8) (li x 0) (fun w3 => kr [.i w3]) k0 k1
theorem sb19x0x48 (L x : List Lf) (kr : List Lf → Option R) (k0 : Int → Option R) (k1 : Unit → Option R) : J19x0x48 N L x kr k0 k1 = (J19x0x48 N L x (fun y => some (.inl y)) (fun p => some (.inr (.inl p))) (fun p => some (.inr (.inr p)))).bind (sumE kr (sumE k0 k1)) := by
  unfold J19x0x48 S19x0x48
  repeat' (first | rfl | apply cond_b | (apply bnd_b; intro _))
noncomputable def Q19x0x48 (L : List Lf) (m : Nat) (x : List Lf) : Option (Sum (Int) (Unit)) := L19x0x48 N (R := (Sum (Int) (Unit))) (ll L 1) (li L 2) (li L 5) (ll L 8) m (li x 0) (fun p => some (.inl p)) (fun p => some (.inr p))
noncomputable def sh19x0x48 : Sh := { tmps := [(1, .c (.p 1 0)), (75, .c (.sl 68)), (76, .c (.i .i64)), (77, .c (.i .i64))], mem := [(1, .box ([.i .i64, .i .i64, .i .i64, .sl 66, .sl 68]))] }
noncomputable def A19x0x48 (L : List Lf) : List (Bool × (Ex × St)) := bnd (Q19x0x48 N L N (pk sh19x0x48 [3] L)) fun q => [((inlB q), (.ret, ⟨[(2, .c (.i .i64 (inlV q)))], []⟩)), ((inrQ q).isSome, ((.exit 4), ⟨[], []⟩))]
theorem step19x0x48 (m : Nat) (kn : St → Option (Ex × St)) (L x : List Lf) : lpB Try.prog (T53x0 N) (h19x0s3 N).h 0 19 48 sh19x0x48 [3] [2] [] (m + 100) kn L x = J19x0x48 N L x (fun y => kn (ofSh sh19x0x48 (mx sh19x0x48 [3] L y))) (fun p => some (.ret, ⟨[(2, .c (.i .i64 p))], []⟩)) (fun _ => some ((.exit 4), ⟨[], []⟩)) := by kernel_rfl
noncomputable def h19x0s4 : Sg Try.prog 0 19 :=
  (h19x0s3 N).lp (A19x0x48 N) N progOk (T53x0_ok N) (fun m kn L x => (step19x0x48 N m kn L x).trans (sb19x0x48 N L x _ _ _)) (fun L m x => sb19x0x48 N L x (Q19x0x48 N L m) (fun p => some (.inl p)) (fun p => some (.inr p))) fun L x hx => (altS alt1) x hx
noncomputable def F19x0 (v0 v1 v2 : Int) (v4 v6 : LD) (k0 : Int → Option R) : Option R :=
  bnd (V19x0x4 N v0 v1 v2) fun y0 =>
  bif y0 then
    k0 9
  else
    bnd (bif (decide ((v4.length : Int) > 4)) then true else (decide ((v6.length : Int) > 12))) fun y1 =>
    bif y1 then
      k0 3
    else
      bnd (G19x0x18 N v4 (v4.length : Int) v4 0) fun y2 =>
      bif (inlB y2) then
        k0 (inlV y2)
      else
        bif (inrQ y2).isSome then
          bnd (G19x0x48 N v6 (v6.length : Int) v1 v4 0) fun y3 =>
          bif (inlB y3) then
            k0 (inlV y3)
          else
            bif (inrQ y3).isSome then
              k0 0
            else
              none
        else
          none
noncomputable def G19x0 (v0 v1 v2 : Int) (v4 v6 : LD) : Option (Int) := F19x0 N v0 v1 v2 v4 v6 (fun p => some p)
theorem bind19x0 (v0 v1 v2 : Int) (v4 v6 : LD) (k0 : Int → Option R) : F19x0 N v0 v1 v2 v4 v6 k0 = (G19x0 N v0 v1 v2 v4 v6).bind k0 := by
  unfold G19x0 F19x0
  repeat' (first | rfl | apply cond_b | (apply bnd_b; intro _))
noncomputable def J19x0 (L : List Lf) (k0 : Int → Option R) : Option R := F19x0 N (li L 0) (li L 1) (li L 2) (ll L 4) (ll L 6) k0
noncomputable def sh19x0 : Sh := { tmps := [(0, .g ([.i .i64, .i .i64, .i .i64, .sl 66, .sl 68]))], mem := [] }
noncomputable def A19x0 (L : List Lf) : List (Bool × Res) := bnd (J19x0 N L (fun p => some p)) fun q => [(q.isSome, ([.c (.i .i64 (q.getD default))], []))]
theorem raw19x0 (L : List Lf) : bd Try.prog (T53x0 N) (h19x0s4 N).h 19 sh19x0 L = J19x0 N L (fun p => some ([.c (.i .i64 p)], [])) := by kernel_rfl
theorem ok19x0 : FnOk Try.prog 19 sh19x0 (A19x0 N) :=
  (h19x0s4 N).fn progOk (T53x0_ok N) fun L x hx => ((raw19x0 N L).trans ((bind19x0 N ..).trans (alt1 x hx)))
noncomputable def T19x0 : Oracle := ext 19 (spSh sh19x0 (A19x0 N)) (T53x0 N)
theorem T19x0_ok : OracleOk Try.prog (T19x0 N) := FnOk.to (ok19x0 N) (T53x0_ok N)
noncomputable def rg94x0 : List (Nat × List Nat) := [(0, [0, 1]), (1, [0, 1])]
noncomputable def hd94x0 : Hints := []
noncomputable def h94x0s0 (N : Nat) : Sg Try.prog 1 94 := .start hd94x0 rg94x0
noncomputable def F94x0 (v0 : Int) (v5 : LD) (k0 : Bool → R) : R :=
  bnd (V48x0 N v0 (-1) (IntKind.wrap .i64 ((v5.length : Int) - 1))) fun y0 =>
  k0 (!y0)
noncomputable def V94x0 (v0 : Int) (v5 : LD) : Bool := F94x0 N v0 v5 (fun p => p)
theorem tot94x0 (v0 : Int) (v5 : LD) (k0 : Bool → R) : F94x0 N v0 v5 k0 = k0 (V94x0 N v0 v5) := by
  unfold V94x0 F94x0
  repeat' (first | rfl | apply cond_k | (apply bnd_k; intro _))
noncomputable def sh94x0 : Sh := { tmps := [(0, .c (.i .i64)), (1, .c (.p 0 0))], mem := [(0, .box ([.i .i64, .i .i64, .i .i64, .sl 66, .sl 68]))] }
noncomputable def A94x0 (L : List Lf) : List (Bool × Res) := bnd (F94x0 N (li L 0) (ll L 5) (fun p => p)) fun q => [(true, ([.c (.b q)], mgA (ofSh sh94x0 L).mem [] [0]))]
theorem raw94x0 (L : List Lf) : bd Try.prog (T19x0 N) (h94x0s0 N).h 94 sh94x0 L = F94x0 N (li L 0) (ll L 5) (fun p => some ([.c (.b p)], mgA (ofSh sh94x0 L).mem [] [0])) := by kernel_rfl
theorem ok94x0 : FnOk Try.prog 94 sh94x0 (A94x0 N) :=
  (h94x0s0 N).fn progOk (T19x0_ok N) fun L x hx => ((raw94x0 N L).trans ((tot94x0 N ..).trans (alt0 _ _ hx)))
noncomputable def T94x0 : Oracle := ext 94 (spSh sh94x0 (A94x0 N)) (T19x0 N)
theorem T94x0_ok : OracleOk Try.prog (T94x0 N) := FnOk.to (ok94x0 N) (T19x0_ok N)
noncomputable def rg86x0 : List (Nat × List Nat) := [(0, [0, 1]), (1, [0, 1]), (2, [8, 7, 1, 0]), (3, [8, 1, 0, 7]), (4, [1, 0, 5, 8, 7]), (5, [5]), (6, [8, 7, 1, 0]), (7, [])]
noncomputable def hd86x0 : Hints := [(6, [8, 7, 1, 0], [0], [])]
noncomputable def h86x0s0 (N : Nat) : Sg Try.prog 1 86 := .start hd86x0 rg86x0
noncomputable def S86x0x6 (w1 : LD) (w2 : Int) (w8 : LD) (w3 : Int) (kr : Int → Option R) (k0 : Int → Option R) (k1 : Unit → Option R) : Option R :=
  bif (decide (w3 < w2)) then
    bif (inB w3 w1.length) then
      bnd (V94x0 N (w1.getD w3.toNat (.i 0)).toI w8) fun y0 =>
      bif y0 then
        k0 w3
      else
        kr (IntKind.wrap .i64 (w3 + 1))
    else
      none
  else
    k1 ()
noncomputable def L86x0x6 (N : Nat) {R : Type} (w1 : LD) (w2 : Int) (w8 : LD) : Nat → Int → (Int → Option R) → (Unit → Option R) → Option R
  | 0, _, _, _ => none
  | m + 1, w3, k0, k1 => S86x0x6 N w1 w2 w8 w3 (fun w3 => L86x0x6 N w1 w2 w8 m w3 k0 k1) k0 k1
noncomputable def G86x0x6 (w1 : LD) (w2 : Int) (w8 : LD) (w3 : Int) : Option (Sum (Int) (Unit)) := L86x0x6 N (R := (Sum (Int) (Unit))) w1 w2 w8 N w3 (fun p => some (.inl p)) (fun p => some (.inr p))
noncomputable def J86x0x6 (L x : List Lf) (kr : List Lf → Option R) (k0 : Int → Option R) (k1 : Unit → Option R) : Option R := S86x0x6 N (ll L 1) (li L 2) (ll L 8) (li x 0) (fun w3 => kr [.i w3]) k0 k1
theorem sb86x0x6 (L x : List Lf) (kr : List Lf → Option R) (k0 : Int → Option R) (k1 : Unit → Option R) : J86x0x6 N L x kr k0 k1 = (J86x0x6 N L x (fun y => some (.inl y)) (fun p => some (.inr (.inl p))) (fun p => some (.inr (.inr p)))).bind (sumE kr (sumE k0 k1)) := by
  unfold J86x0x6 S86x0x6
  repeat' (first | rfl | apply cond_b | (apply bnd_b; intro _))
noncomputable def Q86x0x6 (L : List Lf) (m : Nat) (x : List Lf) : Option (Sum (Int) (Unit)) := L86x0x6 N (R := (Sum (Int) (Unit))) (ll L 1) (li L 2) (ll L 8) m (li x 0) (fun p => some (.inl p)) (fun p => some (.inr p))
noncomputable def sh86x0x6 : Sh := { tmps := [(0, .c (.sl 3)), (1, .c (.f 94 [(0, 0)])), (7, .c (.i .i64)), (8, .c (.i .i64))], mem := [(0, .box ([.i .i64, .i .i64, .i .i64, .sl 66, .sl 68]))] }
noncomputable def K86x0x6w0 (L : List Lf) (p : Int) : Ex × St := (.ret, mg (ofSh sh86x0x6 L) [4] [(4, .c (.i .i64 p))] [0] [])
noncomputable def A86x0x6 (L : List Lf) : List (Bool × (Ex × St)) := bnd (Q86x0x6 N L N (pk sh86x0x6 [3] L)) fun q => [((inlB q), K86x0x6w0 L (inlV q)), ((inrQ q).isSome, ((.exit 0), mg (ofSh sh86x0x6 L) [] [] [0] []))]
theorem step86x0x6 (m : Nat) (kn : St → Option (Ex × St)) (L x : List Lf) : lpB Try.prog (T94x0 N) (h86x0s0 N).h 1 86 6 sh86x0x6 [3] [4] [0] (m + 100) kn L x = J86x0x6 N L x (fun y => kn (ofSh sh86x0x6 (mx sh86x0x6 [3] L y))) (fun p => some (K86x0x6w0 L p)) (fun _ => some ((.exit 0), mg (ofSh sh86x0x6 L) [] [] [0] [])) := by kernel_rfl
noncomputable def h86x0s1 : Sg Try.prog 1 86 :=
  (h86x0s0 N).lp (A86x0x6 N) N progOk (T94x0_ok N) (fun m kn L x => (step86x0x6 N m kn L x).trans (sb86x0x6 N L x _ _ _)) (fun L m x => sb86x0x6 N L x (Q86x0x6 N L m) (fun p => some (.inl p)) (fun p => some (.inr p))) fun L x hx => (altS alt1) x hx
noncomputable def F86x0 (v1 v6 : LD) (k0 : Int → Option R) : Option R :=
  bnd (G86x0x6 N v1 (v1.length : Int) v6 0) fun y0 =>
  bif (inlB y0) then
    k0 (inlV y0)
  else
    bif (inrQ y0).isSome then
      k0 (-1)
    else
      none
noncomputable def G86x0 (v1 v6 : LD) : Option (Int) := F86x0 N v1 v6 (fun p => some p)
theorem bind86x0 (v1 v6 : LD) (k0 : Int → Option R) : F86x0 N v1 v6 k0 = (G86x0 N v1 v6).bind k0 := by
  unfold G86x0 F86x0
  repeat' (first | rfl | apply cond_b | (apply bnd_b; intro _))
noncomputable def sh86x0 : Sh := { tmps := [(0, .c (.sl 3)), (1, .c (.f 94 [(0, 0)]))], mem := [(0, .box ([.i .i64, .i .i64, .i .i64, .sl 66, .sl 68]))] }
noncomputable def A86x0 (L : List Lf) : List (Bool × Res) := bnd (F86x0 N (ll L 1) (ll L 6) (fun p => some p)) fun q => [(q.isSome, ([.c (.i .i64 (q.getD default))], mgA (ofSh sh86x0 L).mem [] [0]))]
theorem raw86x0 (L : List Lf) : bd Try.prog (T94x0 N) (h86x0s1 N).h 86 sh86x0 L = F86x0 N (ll L 1) (ll L 6) (fun p => some ([.c (.i .i64 p)], mgA (ofSh sh86x0 L).mem [] [0])) := by kernel_rfl
theorem ok86x0 : FnOk Try.prog 86 sh86x0 (A86x0 N) :=
  (h86x0s1 N).fn progOk (T94x0_ok N) fun L x hx => ((raw86x0 N L).trans ((bind86x0 N ..).trans (alt1 x hx)))
noncomputable def T86x0 : Oracle := ext 86 (spSh sh86x0 (A86x0 N)) (T94x0 N)
theorem T86x0_ok : OracleOk Try.prog (T86x0 N) := FnOk.to (ok86x0 N) (T94x0_ok N)
noncomputable def rg65x0 : List (Nat × List Nat) := [(0, [0, 1]), (1, [0, 1])]
noncomputable def hd65x0 : Hints := []
noncomputable def h65x0s0 (N : Nat) : Sg Try.prog 1 65 := .start hd65x0 rg65x0
noncomputable def F65x0 (v1 v6 : LD) (k0 : Bool → Option R) : Option R :=
  bnd (G86x0 N v1 v6) fun y0 =>
  bif y0.isSome then
    k0 (decide ((y0.getD default) ≥ 0))
  else
    none
noncomputable def G65x0 (v1 v6 : LD) : Option (Bool) := F65x0 N v1 v6 (fun p => some p)
theorem bind65x0 (v1 v6 : LD) (k0 : Bool → Option R) : F65x0 N v1 v6 k0 = (G65x0 N v1 v6).bind k0 := by
  unfold G65x0 F65x0
  repeat' (first | rfl | apply cond_b | (apply bnd_b; intro _))
noncomputable def sh65x0 : Sh := { tmps := [(0, .c (.sl 3)), (1, .c (.f 94 [(0, 0)]))], mem := [(0, .box ([.i .i64, .i .i64, .i .i64, .sl 66, .sl 68]))] }
noncomputable def A65x0 (L : List Lf) : List (Bool × Res) := bnd (F65x0 N (ll L 1) (ll L 6) (fun p => some p)) fun q => [(q.isSome, ([.c (.b (q.getD default))], mgA (ofSh sh65x0 L).mem [] [0]))]
theorem raw65x0 (L : List Lf) : bd Try.prog (T86x0 N) (h65x0s0 N).h 65 sh65x0 L = F65x0 N (ll L 1) (ll L 6) (fun p => some ([.c (.b p)], mgA (ofSh sh65x0 L).mem [] [0])) := by kernel_rfl
theorem ok65x0 : FnOk Try.prog 65 sh65x0 (A65x0 N) :=
  (h65x0s0 N).fn progOk (T86x0_ok N) fun L x hx => ((raw65x0 N L).trans ((bind65x0 N ..).trans (alt1 x hx)))
noncomputable def T65x0 : Oracle := ext 65 (spSh sh65x0 (A65x0 N)) (T86x0 N)
theorem T65x0_ok : OracleOk Try.prog (T65x0 N) := FnOk.to (ok65x0 N) (T86x0_ok N)
noncomputable def rg77x0 : List (Nat × List Nat) := [(0, [0, 1]), (1, [1, 2])]
noncomputable def hd77x0 : Hints := [(4, [1, 2], [2], [])]
noncomputable def h77x0s0 (N : Nat) : Sg Try.prog 0 77 := .start hd77x0 rg77x0
noncomputable def F77x0x4 (w1 : LD) (w3 : Int) (w6 : LD) (k0 : Bool → Option R) : Option R :=
  bif (decide ((w1.length : Int) ≤ w3)) then
    bnd (G65x0 N w1 w6) fun y0 =>
    bif y0.isSome then
      k0 (!(y0.getD default))
    else
      none
  else
    k0 false
noncomputable def G77x0x4 (w1 : LD) (w3 : Int) (w6 : LD) : Option (Bool) := F77x0x4 N w1 w3 w6 (fun p => some p)
theorem bind77x0x4 (w1 : LD) (w3 : Int) (w6 : LD) (k0 : Bool → Option R) : F77x0x4 N w1 w3 w6 k0 = (G77x0x4 N w1 w3 w6).bind k0 := by
  unfold G77x0x4 F77x0x4
  repeat' (first | rfl | apply cond_b | (apply bnd_b; intro _))
noncomputable def sh77x0x4 : Sh := { tmps := [(1, .c (.sl 3)), (2, .c (.p 2 0))], mem := [(2, .box ([.i .i64, .i .i64, .i .i64, .sl 66, .sl 68]))] }
noncomputable def A77x0x4 (L : List Lf) : List (Bool × (Ex × St)) := bnd (F77x0x4 N (ll L 1) (li L 3) (ll L 6) (fun p => some p)) fun q => [(q.isSome, (.normal, ⟨[(4, .c (.b (q.getD default)))], []⟩))]
theorem raw77x0x4 (L : List Lf) : pc Try.prog (T65x0 N) (h77x0s0 N).h 0 100 77 4 sh77x0x4 L [4] [] = F77x0x4 N (ll L 1) (li L 3) (ll L 6) (fun p => some (.normal, ⟨[(4, .c (.b p))], []⟩)) := by kernel_rfl
noncomputable def h77x0s1 : Sg Try.prog 0 77 :=
  (h77x0s0 N).cut (A77x0x4 N) progOk (T65x0_ok N) fun L x hx => (raw77x0x4 N L).trans ((bind77x0x4 N ..).trans (alt1 x hx))
noncomputable def F77x0 (v1 : Int) (v4 v8 : LD) (k0 : Bool → Option R) : Option R :=
  bnd (G77x0x4 N v8 v1 v4) fun y0 =>
  bif y0.isSome then
    k0 (y0.getD default)
  else
    none
noncomputable def G77x0 (v1 : Int) (v4 v8 : LD) : Option (Bool) := F77x0 N v1 v4 v8 (fun p => some p)
theorem bind77x0 (v1 : Int) (v4 v8 : LD) (k0 : Bool → Option R) : F77x0 N v1 v4 v8 k0 = (G77x0 N v1 v4 v8).bind k0 := by
  unfold G77x0 F77x0
  repeat' (first | rfl | apply cond_b | (apply bnd_b; intro _))
noncomputable def sh77x0 : Sh := { tmps := [(0, .g ([.i .i64, .i .i64, .i .i64, .sl 66, .sl 68])), (1, .c (.sl 3))], mem := [] }
noncomputable def A77x0 (L : List Lf) : List (Bool × Res) := bnd (F77x0 N (li L 1) (ll L 4) (ll L 8) (fun p => some p)) fun q => [(q.isSome, ([.c (.b (q.getD default))], []))]
theorem raw77x0 (L : List Lf) : bd Try.prog (T65x0 N) (h77x0s1 N).h 77 sh77x0 L = F77x0 N (li L 1) (ll L 4) (ll L 8) (fun p => some ([.c (.b p)], [])) := by kernel_rfl
theorem ok77x0 : FnOk Try.prog 77 sh77x0 (A77x0 N) :=
  (h77x0s1 N).fn progOk (T65x0_ok N) fun L x hx => ((raw77x0 N L).trans ((bind77x0 N ..).trans (alt1 x hx)))
noncomputable def T77x0 : Oracle := ext 77 (spSh sh77x0 (A77x0 N)) (T65x0 N)
theorem T77x0_ok : OracleOk Try.prog (T77x0 N) := FnOk.to (ok77x0 N) (T65x0_ok N)
noncomputable def rg46x0 : List (Nat × List Nat) := [(0, [0, 1]), (1, [2, 1]), (2, [5, 2, 1]), (3, [5]), (4, [2, 1]), (5, []), (6, [])]
noncomputable def hd46x0 : Hints := []
noncomputable def h46x0s0 (N : Nat) : Sg Try.prog 0 46 := .start hd46x0 rg46x0
noncomputable def F46x0 (v0 v1 v2 : Int) (v4 v6 v8 : LD) (k0 : Int → Option R) : Option R :=
  bnd (G19x0 N v0 v1 v2 v4 v6) fun y0 =>
  bif y0.isSome then
    bif ((y0.getD default) != 0) then
      k0 (y0.getD default)
    else
      bnd (G77x0 N v1 v4 v8) fun y1 =>
      bif y1.isSome then
        bif (!(y1.getD default)) then
          k0 2
        else
          k0 0
      else
        none
  else
    none
noncomputable def G46x0 (v0 v1 v2 : Int) (v4 v6 v8 : LD) : Option (Int) := F46x0 N v0 v1 v2 v4 v6 v8 (fun p => some p)
theorem bind46x0 (v0 v1 v2 : Int) (v4 v6 v8 : LD) (k0 : Int → Option R) : F46x0 N v0 v1 v2 v4 v6 v8 k0 = (G46x0 N v0 v1 v2 v4 v6 v8).bind k0 := by
  unfold G46x0 F46x0
  repeat' (first | rfl | apply cond_b | (apply bnd_b; intro _))
noncomputable def J46x0 (L : List Lf) (k0 : Int → Option R) : Option R := F46x0 N (li L 0) (li L 1) (li L 2) (ll L 4) (ll L 6) (ll L 8) k0
noncomputable def sh46x0 : Sh := { tmps := [(0, .g ([.i .i64, .i .i64, .i .i64, .sl 66, .sl 68])), (1, .c (.sl 3))], mem := [] }
noncomputable def A46x0 (L : List Lf) : List (Bool × Res) := bnd (J46x0 N L (fun p => some p)) fun q => [(q.isSome, ([.c (.i .i64 (q.getD default))], []))]
theorem raw46x0 (L : List Lf) : bd Try.prog (T77x0 N) (h46x0s0 N).h 46 sh46x0 L = J46x0 N L (fun p => some ([.c (.i .i64 p)], [])) := by kernel_rfl
theorem ok46x0 : FnOk Try.prog 46 sh46x0 (A46x0 N) :=
  (h46x0s0 N).fn progOk (T77x0_ok N) fun L x hx => ((raw46x0 N L).trans ((bind46x0 N ..).trans (alt1 x hx)))
noncomputable def T46x0 : Oracle := ext 46 (spSh sh46x0 (A46x0 N)) (T77x0 N)
theorem T46x0_ok : OracleOk Try.prog (T46x0 N) := FnOk.to (ok46x0 N) (T77x0_ok N)
noncomputable def rg57x0 : List (Nat × List Nat) := [(0, [0, 1]), (1, [2, 1]), (2, [5, 1, 2]), (3, [5]), (4, [1, 2]), (5, []), (6, [])]
noncomputable def hd57x0 : Hints := []
noncomputable def h57x0s0 (N : Nat) : Sg Try.prog 0 57 := .start hd57x0 rg57x0
noncomputable def F57x0 (v0 v1 v2 : Int) (v4 v6 v8 : LD) (k0 : Int → Option R) : Option R :=
  bnd (G46x0 N v0 v1 v2 v4 v6 v8) fun y0 =>
  bif y0.isSome then
    bif ((y0.getD default) != 0) then
      k0 (y0.getD default)
    else
      bif ((v8.length : Int) != v1) then
        k0 2
      else
        k0 0
  else
    none
noncomputable def G57x0 (v0 v1 v2 : Int) (v4 v6 v8 : LD) : Option (Int) := F57x0 N v0 v1 v2 v4 v6 v8 (fun p => some p)
theorem bind57x0 (v0 v1 v2 : Int) (v4 v6 v8 : LD) (k0 : Int → Option R) : F57x0 N v0 v1 v2 v4 v6 v8 k0 = (G57x0 N v0 v1 v2 v4 v6 v8).bind k0 := by
  unfold G57x0 F57x0
  repeat' (first | rfl | apply cond_b | (apply bnd_b; intro _))
noncomputable def J57x0 (L : List Lf) (k0 : Int → Option R) : Option R := F57x0 N (li L 0) (li L 1) (li L 2) (ll L 4) (ll L 6) (ll L 8) k0
noncomputable def sh57x0 : Sh := { tmps := [(0, .g ([.i .i64, .i .i64, .i .i64, .sl 66, .sl 68])), (1, .c (.sl 3))], mem := [] }
noncomputable def A57x0 (L : List Lf) : List (Bool × Res) := bnd (J57x0 N L (fun p => some p)) fun q => [(q.isSome, ([.c (.i .i64 (q.getD default))], []))]
theorem raw57x0 (L : List Lf) : bd Try.prog (T46x0 N) (h57x0s0 N).h 57 sh57x0 L = J57x0 N L (fun p => some ([.c (.i .i64 p)], [])) := by kernel_rfl
theorem ok57x0 : FnOk Try.prog 57 sh57x0 (A57x0 N) :=
  (h57x0s0 N).fn progOk (T46x0_ok N) fun L x hx => ((raw57x0 N L).trans ((bind57x0 N ..).trans (alt1 x hx)))
noncomputable def T57x0 : Oracle := ext 57 (spSh sh57x0 (A57x0 N)) (T46x0 N)
theorem T57x0_ok : OracleOk Try.prog (T57x0 N) := FnOk.to (ok57x0 N) (T46x0_ok N)
noncomputable def rg79x0 : List (Nat × List Nat) := [(0, [0]), (1, [0, 2])]
noncomputable def hd79x0 : Hints := []
noncomputable def h79x0s0 (N : Nat) : Sg Try.prog 1 79 := .start hd79x0 rg79x0
noncomputable def F79x0 (N : Nat) (k0 : Unit → R) : R :=
  k0 ()
noncomputable def V79x0 : Unit := F79x0 N (fun p => p)
theorem tot79x0 (k0 : Unit → R) : F79x0 N k0 = k0 (V79x0 N) := by
  unfold V79x0 F79x0
  repeat' (first | rfl | apply cond_k | (apply bnd_k; intro _))
noncomputable def sh79x0 : Sh := { tmps := [(0, .c (.p 0 0))], mem := [(0, .box (.i .i64 :: .i .i64 :: .i .i64 :: .sl 66 :: .sl 68 :: rB 12 ([])))] }
noncomputable def K79x0w0 (L : List Lf) (_ : Unit) : Res := ([.g [.i .i64 0, .i .i64 0, .i .i64 (li L 2), .i .i64 0, .i .i64 0, .i .i64 0, .i .i64 0, .i .i64 0, .i .i64 0, .i .i64 0, .i .i64 0, .i .i64 0, .i .i64 0, .i .i64 0, .i .i64 0, .i .i64 0, .i .i64 0, .i .i64 0, .i .i64 0, .i .i64 0]], mgA (ofSh sh79x0 L).mem [] [0])
noncomputable def A79x0 (N : Nat) (L : List Lf) : List (Bool × Res) := [(true, K79x0w0 L ())]
theorem raw79x0 (L : List Lf) : bd Try.prog (T57x0 N) (h79x0s0 N).h 79 sh79x0 L = F79x0 N (fun _ => some (K79x0w0 L ())) := by kernel_rfl
theorem ok79x0 : FnOk Try.prog 79 sh79x0 (A79x0 N) :=
  (h79x0s0 N).fn progOk (T57x0_ok N) fun L x hx => ((raw79x0 N L).trans ((tot79x0 N ..).trans (alt0 _ _ hx)))
noncomputable def T79x0 : Oracle := ext 79 (spSh sh79x0 (A79x0 N)) (T57x0 N)
theorem T79x0_ok : OracleOk Try.prog (T79x0 N) := FnOk.to (ok79x0 N) (T57x0_ok N)
noncomputable def rg70x0 : List (Nat × List Nat) := [(0, [0, 1]), (1, [1, 4, 2]), (2, [4]), (3, [2, 1, 4])]
noncomputable def hd70x0 : Hints := []
noncomputable def h70x0s0 (N : Nat) : Sg Try.prog 0 70 := .start hd70x0 rg70x0
noncomputable def F70x0 (N : Nat) (v4 : LD) (v7 : Int) (k0 : Ty7 → Option R) : Option R :=
  bif (decide (v7 < 0)) then
    k0 (([] : List UInt8), 0, 0, 0, false)
  else
    bif (inB v7 v4.length) then
      k0 (((v4.getD v7.toNat (.i 0)).cell 0).toS, ((v4.getD v7.toNat (.i 0)).cell 1).toI, ((v4.getD v7.toNat (.i 0)).cell 2).toI, ((v4.getD v7.toNat (.i 0)).cell 3).toI, ((v4.getD v7.toNat (.i 0)).cell 4).toB)
    else
      none
noncomputable def G70x0 (v4 : LD) (v7 : Int) : Option (Ty7) := F70x0 N v4 v7 (fun p => some p)
theorem bind70x0 (v4 : LD) (v7 : Int) (k0 : Ty7 → Option R) : F70x0 N v4 v7 k0 = (G70x0 N v4 v7).bind k0 := by
  unfold G70x0 F70x0
  repeat' (first | rfl | apply cond_b | (apply bnd_b; intro _))
noncomputable def sh70x0 : Sh := { tmps := [(0, .g ([.i .i64, .i .i64, .i .i64, .sl 66, .sl 68])), (1, .c (.i .i64))], mem := [] }
noncomputable def K70x0w0 (L : List Lf) (p : Ty7) : Res := ([.g [.s p.1, .i .i64 p.2.1, .i .i64 p.2.2.1, .i .i64 p.2.2.2.1, .b p.2.2.2.2]], [])
noncomputable def A70x0 (L : List Lf) : List (Bool × Res) := bnd (F70x0 N (ll L 4) (li L 7) (fun p => some p)) fun q => [(q.isSome, K70x0w0 L (q.getD default))]
theorem raw70x0 (L : List Lf) : bd Try.prog (T79x0 N) (h70x0s0 N).h 70 sh70x0 L = F70x0 N (ll L 4) (li L 7) (fun p => some (K70x0w0 L p)) := by kernel_rfl
theorem ok70x0 : FnOk Try.prog 70 sh70x0 (A70x0 N) :=
  (h70x0s0 N).fn progOk (T79x0_ok N) fun L x hx => ((raw70x0 N L).trans ((bind70x0 N ..).trans (alt1 x hx)))
noncomputable def T70x0 : Oracle := ext 70 (spSh sh70x0 (A70x0 N)) (T79x0 N)
theorem T70x0_ok : OracleOk Try.prog (T70x0 N) := FnOk.to (ok70x0 N) (T79x0_ok N)
noncomputable def rg49x0 : List (Nat × List Nat) := [(0, [0, 1]), (1, [2, 1])]
noncomputable def hd49x0 : Hints := []
noncomputable def h49x0s0 (N : Nat) : Sg Try.prog 0 49 := .start hd49x0 rg49x0
noncomputable def F49x0 (N : Nat) (v0 v7 : Int) (k0 : Int → R) : R :=
  k0 ((IntKind.wrap .i64 (v0 + v7)).tmod 7)
noncomputable def V49x0 (v0 v7 : Int) : Int := F49x0 N v0 v7 (fun p => p)
theorem tot49x0 (v0 v7 : Int) (k0 : Int → R) : F49x0 N v0 v7 k0 = k0 (V49x0 N v0 v7) := by
  unfold V49x0 F49x0
  repeat' (first | rfl | apply cond_k | (apply bnd_k; intro _))
noncomputable def sh49x0 : Sh := { tmps := [(0, .g ([.i .i64, .i .i64, .i .i64, .sl 66, .sl 68])), (1, .c (.i .i64))], mem := [] }
noncomputable def A49x0 (L : List Lf) : List (Bool × Res) := bnd (F49x0 N (li L 0) (li L 7) (fun p => p)) fun q => [(true, ([.c (.i .i64 q)], []))]
theorem raw49x0 (L : List Lf) : bd Try.prog (T70x0 N) (h49x0s0 N).h 49 sh49x0 L = F49x0 N (li L 0) (li L 7) (fun p => some ([.c (.i .i64 p)], [])) := by kernel_rfl
theorem ok49x0 : FnOk Try.prog 49 sh49x0 (A49x0 N) :=
  (h49x0s0 N).fn progOk (T70x0_ok N) fun L x hx => ((raw49x0 N L).trans ((tot49x0 N ..).trans (alt0 _ _ hx)))
noncomputable def T49x0 : Oracle := ext 49 (spSh sh49x0 (A49x0 N)) (T70x0 N)
theorem T49x0_ok : OracleOk Try.prog (T49x0 N) := FnOk.to (ok49x0 N) (T70x0_ok N)
noncomputable def rg95x0 : List (Nat × List Nat) := [(0, [1, 0, 2, 3, 4, 5]), (1, [0, 2, 3, 7, 4, 5]), (2, [0, 3, 7, 13, 4, 5, 2]), (3, [7, 13, 3, 0, 14, 4, 5, 2]), (4, [13, 3, 0, 15, 14, 7, 4, 5, 2]), (5, [34, 3, 0, 15, 13, 14, 7, 4, 5, 2]), (7, [34, 3, 14, 13, 0, 15, 7, 4, 5, 2]), (9, [34, 7, 13, 4, 14, 15, 0, 5, 3, 2]), (11, [34, 4, 7, 13, 14, 15, 0, 5, 3, 2]), (13, [34, 14, 7, 15, 13, 0, 4, 5, 3, 2]), (15, [34, 0, 13, 7, 4, 5, 15, 3, 2]), (18, [34, 5, 7, 13, 15, 3, 0, 2]), (20, [34, 15, 13, 3, 0, 2, 7]), (21, [15, 13, 3, 0]), (19, [5, 7, 13]), (16, [0, 13, 7, 4]), (17, [16, 13, 4]), (14, [14, 7, 15, 13]), (12, [4, 7, 13]), (10, [7, 13]), (8, [3, 14, 13, 0, 15]), (6, [3, 0, 15, 13]), (22, [2, 7, 13])]
noncomputable def hd95x0 : Hints := [(19, [3, 0, 15, 13], [14, 0], []), (25, [3, 14, 13, 0, 15], [15, 14, 0], []), (64, [15, 13, 3, 0], [14, 0], [])]
noncomputable def h95x0s0 (N : Nat) : Sg Try.prog 1 95 := .start hd95x0 rg95x0
noncomputable def F95x0x19 (w0 w1 w2 w22 : Int) (k0 : Bool → R) : R :=
  bif (decide (w0 < 0)) then
    k0 true
  else
    bnd (V49x0 N w2 w1) fun y0 =>
    k0 (y0 != w22)
noncomputable def V95x0x19 (w0 w1 w2 w22 : Int) : Bool := F95x0x19 N w0 w1 w2 w22 (fun p => p)
theorem tot95x0x19 (w0 w1 w2 w22 : Int) (k0 : Bool → R) : F95x0x19 N w0 w1 w2 w22 k0 = k0 (V95x0x19 N w0 w1 w2 w22) := by
  unfold V95x0x19 F95x0x19
  repeat' (first | rfl | apply cond_k | (apply bnd_k; intro _))
noncomputable def J95x0x19 (L : List Lf) (k0 : Bool → R) : R := F95x0x19 N (li L 0) (li L 1) (li L 2) (li L 22) k0
noncomputable def sh95x0x19 : Sh := { tmps := [(0, .c (.p 0 0)), (3, .c (.i .i64)), (13, .c (.p 14 0)), (15, .c (.i .i64))], mem := [(0, .box (.i .i64 :: .i .i64 :: .i .i64 :: .sl 66 :: .sl 68 :: rB 12 ([]))), (14, .box (rI 5 ([.s])))] }
noncomputable def K95x0x19w0 (L : List Lf) (p : Bool) : Ex × St := (.normal, mg (ofSh sh95x0x19 L) [12] [(12, .c (.b p))] [0] [])
noncomputable def A95x0x19 (L : List Lf) : List (Bool × (Ex × St)) := bnd (J95x0x19 N L (fun p => p)) fun q => [(true, K95x0x19w0 L q)]
theorem raw95x0x19 (L : List Lf) : pc Try.prog (T49x0 N) (h95x0s0 N).h 1 100 95 19 sh95x0x19 L [12] [0] = J95x0x19 N L (fun p => some (K95x0x19w0 L p)) := by kernel_rfl
noncomputable def h95x0s1 : Sg Try.prog 1 95 :=
  (h95x0s0 N).cut (A95x0x19 N) progOk (T49x0_ok N) fun L x hx => (raw95x0x19 N L).trans ((tot95x0x19 N ..).trans (alt0 _ _ hx))
noncomputable def F95x0x25 (w0 w1 w2 w22 w23 w29 : Int) (k0 : Bool → R) : R :=
  bif (decide (w0 < 0)) then
    k0 true
  else
    bif (decide (w29 ≤ w23)) then
      k0 true
    else
      bnd (V49x0 N w2 w1) fun y0 =>
      k0 (y0 != w22)
noncomputable def V95x0x25 (w0 w1 w2 w22 w23 w29 : Int) : Bool := F95x0x25 N w0 w1 w2 w22 w23 w29 (fun p => p)
theorem tot95x0x25 (w0 w1 w2 w22 w23 w29 : Int) (k0 : Bool → R) : F95x0x25 N w0 w1 w2 w22 w23 w29 k0 = k0 (V95x0x25 N w0 w1 w2 w22 w23 w29) := by
  unfold V95x0x25 F95x0x25
  repeat' (first | rfl | apply cond_k | (apply bnd_k; intro _))
noncomputable def J95x0x25 (L : List Lf) (k0 : Bool → R) : R := F95x0x25 N (li L 0) (li L 1) (li L 2) (li L 22) (li L 23) (li L 29) k0
noncomputable def sh95x0x25 : Sh := { tmps := [(0, .c (.p 0 0)), (3, .c (.i .i64)), (13, .c (.p 14 0)), (14, .c (.p 15 0)), (15, .c (.i .i64))], mem := [(0, .box (.i .i64 :: .i .i64 :: .i .i64 :: .sl 66 :: .sl 68 :: rB 12 ([]))), (14, .box (rI 5 ([.s]))), (15, .box ([.s, .i .i64, .i .i64, .i .i64, .b]))] }
noncomputable def K95x0x25w0 (L : List Lf) (p : Bool) : Ex × St := (.normal, mg (ofSh sh95x0x25 L) [12] [(12, .c (.b p))] [0] [])
noncomputable def A95x0x25 (L : List Lf) : List (Bool × (Ex × St)) := bnd (J95x0x25 N L (fun p => p)) fun q => [(true, K95x0x25w0 L q)]
theorem raw95x0x25 (L : List Lf) : pc Try.prog (T49x0 N) (h95x0s1 N).h 1 100 95 25 sh95x0x25 L [12] [0] = J95x0x25 N L (fun p => some (K95x0x25w0 L p)) := by kernel_rfl
noncomputable def h95x0s2 : Sg Try.prog 1 95 :=
  (h95x0s1 N).cut (A95x0x25 N) progOk (T49x0_ok N) fun L x hx => (raw95x0x25 N L).trans ((tot95x0x25 N ..).trans (alt0 _ _ hx))
noncomputable def F95x0x64 (w0 w1 : Int) (w6 : LD) (w22 : Int) (w26 : LB) (k0 : Bool → Option R) : Option R :=
  bif (w1 != w22) then
    k0 true
  else
    bnd (G52x0 N w6 w26) fun y0 =>
    bif y0.isSome then
      k0 (w0 == (y0.getD default))
    else
      none
noncomputable def G95x0x64 (w0 w1 : Int) (w6 : LD) (w22 : Int) (w26 : LB) : Option (Bool) := F95x0x64 N w0 w1 w6 w22 w26 (fun p => some p)
theorem bind95x0x64 (w0 w1 : Int) (w6 : LD) (w22 : Int) (w26 : LB) (k0 : Bool → Option R) : F95x0x64 N w0 w1 w6 w22 w26 k0 = (G95x0x64 N w0 w1 w6 w22 w26).bind k0 := by
  unfold G95x0x64 F95x0x64
  repeat' (first | rfl | apply cond_b | (apply bnd_b; intro _))
noncomputable def J95x0x64 (L : List Lf) (k0 : Bool → Option R) : Option R := F95x0x64 N (li L 0) (li L 1) (ll L 6) (li L 22) (ls L 26) k0
noncomputable def sh95x0x64 : Sh := { tmps := [(0, .c (.p 0 0)), (3, .c (.i .i64)), (13, .c (.p 14 0)), (15, .c (.i .i64))], mem := [(0, .box (.i .i64 :: .i .i64 :: .i .i64 :: .sl 66 :: .sl 68 :: rB 12 ([]))), (14, .box (rI 5 ([.s])))] }
noncomputable def K95x0x64w0 (L : List Lf) (p : Bool) : Ex × St := (.normal, mg (ofSh sh95x0x64 L) [12] [(12, .c (.b p))] [0] [])
noncomputable def A95x0x64 (L : List Lf) : List (Bool × (Ex × St)) := bnd (J95x0x64 N L (fun p => some p)) fun q => [(q.isSome, K95x0x64w0 L (q.getD default))]
theorem raw95x0x64 (L : List Lf) : pc Try.prog (T49x0 N) (h95x0s2 N).h 1 100 95 64 sh95x0x64 L [12] [0] = J95x0x64 N L (fun p => some (K95x0x64w0 L p)) := by kernel_rfl
noncomputable def h95x0s3 : Sg Try.prog 1 95 :=
  (h95x0s2 N).cut (A95x0x64 N) progOk (T49x0_ok N) fun L x hx => (raw95x0x64 N L).trans ((bind95x0x64 N ..).trans (alt1 x hx))
noncomputable def F95x0 (v0 v1 v2 v3 v4 v5 v6 v7 v8 v9 v10 v11 v12 v13 v14 v15 v16 v17 v18 v19 v20 v21 : Int) (v22 v23 : Bool) (v24 : Int) (v28 v30 : LD) (k0 : Bool → Option R) : Option R :=
  bif (inB v20 v30.length) then
    bnd (G70x0 N v28 v21) fun y0 =>
    bif y0.isSome then
      bif (((v30.getD v20.toNat (.i 0)).cell 0).toI == 1) then
        bnd (V95x0x19 N v21 v0 v24 ((v30.getD v20.toNat (.i 0)).cell 1).toI) fun y1 =>
        k0 y1
      else
        bif (((v30.getD v20.toNat (.i 0)).cell 0).toI == 2) then
          bnd (V95x0x25 N v21 v0 v24 ((v30.getD v20.toNat (.i 0)).cell 1).toI ((v30.getD v20.toNat (.i 0)).cell 2).toI (y0.getD default).2.2.1) fun y2 =>
          k0 y2
        else
          bif (((v30.getD v20.toNat (.i 0)).cell 0).toI == 3) then
            k0 (decide (v1 ≤ ((v30.getD v20.toNat (.i 0)).cell 2).toI))
          else
            bif (((v30.getD v20.toNat (.i 0)).cell 0).toI == 4) then
              bnd (bif (!v22) then true else (decide (v1 ≥ ((v30.getD v20.toNat (.i 0)).cell 2).toI))) fun y3 =>
              k0 y3
            else
              bif (((v30.getD v20.toNat (.i 0)).cell 0).toI == 5) then
                bnd (bif (!(y0.getD default).2.2.2.2) then true else (v3 == 0)) fun y4 =>
                bnd (bif y4 then true else (decide ((IntKind.wrap .i64 ((IntKind.wrap .i64 (v0 + 1)) - v3)) ≥ ((v30.getD v20.toNat (.i 0)).cell 2).toI))) fun y5 =>
                k0 y5
              else
                bif (((v30.getD v20.toNat (.i 0)).cell 0).toI == 6) then
                  bnd (G52x0 N v28 ((v30.getD v20.toNat (.i 0)).cell 5).toS) fun y6 =>
                  bif y6.isSome then
                    bif (inB (y6.getD default) 4) then
                      bnd (bif (Nat.beq (y6.getD default).toNat 0) then v4 else (bif (Nat.beq (y6.getD default).toNat 1) then v5 else (bif (Nat.beq (y6.getD default).toNat 2) then v6 else v7))) fun y7 =>
                      bnd (decide (y7 ≤ ((v30.getD v20.toNat (.i 0)).cell 4).toI)) fun y8 =>
                      bnd (bif y8 then (bif (!v22) then true else (decide (y7 ≥ ((v30.getD v20.toNat (.i 0)).cell 3).toI))) else false) fun y9 =>
                      k0 y9
                    else
                      none
                  else
                    none
                else
                  bif (((v30.getD v20.toNat (.i 0)).cell 0).toI == 7) then
                    bnd (bif (!v23) then true else (decide ((IntKind.wrap .i64 (100 * v1)) ≤ (IntKind.wrap .i64 (((v30.getD v20.toNat (.i 0)).cell 2).toI * v2))))) fun y10 =>
                    k0 y10
                  else
                    bif (((v30.getD v20.toNat (.i 0)).cell 0).toI == 8) then
                      bnd (G95x0x64 N v21 v0 v28 ((v30.getD v20.toNat (.i 0)).cell 1).toI ((v30.getD v20.toNat (.i 0)).cell 5).toS) fun y11 =>
                      bif y11.isSome then
                        k0 (y11.getD default)
                      else
                        none
                    else
                      bif (inB v20 12) then
                        bnd (bif (Nat.beq v20.toNat 0) then v8 else (bif (Nat.beq v20.toNat 1) then v9 else (bif (Nat.beq v20.toNat 2) then v10 else (bif (Nat.beq v20.toNat 3) then v11 else (bif (Nat.beq v20.toNat 4) then v12 else (bif (Nat.beq v20.toNat 5) then v13 else (bif (Nat.beq v20.toNat 6) then v14 else (bif (Nat.beq v20.toNat 7) then v15 else (bif (Nat.beq v20.toNat 8) then v16 else (bif (Nat.beq v20.toNat 9) then v17 else (bif (Nat.beq v20.toNat 10) then v18 else v19))))))))))) fun y12 =>
                        bnd (decide (y12 ≤ ((v30.getD v20.toNat (.i 0)).cell 2).toI)) fun y13 =>
                        k0 y13
                      else
                        none
    else
      none
  else
    none
noncomputable def G95x0 (v0 v1 v2 v3 v4 v5 v6 v7 v8 v9 v10 v11 v12 v13 v14 v15 v16 v17 v18 v19 v20 v21 : Int) (v22 v23 : Bool) (v24 : Int) (v28 v30 : LD) : Option (Bool) := F95x0 N v0 v1 v2 v3 v4 v5 v6 v7 v8 v9 v10 v11 v12 v13 v14 v15 v16 v17 v18 v19 v20 v21 v22 v23 v24 v28 v30 (fun p => some p)
theorem bind95x0 (v0 v1 v2 v3 v4 v5 v6 v7 v8 v9 v10 v11 v12 v13 v14 v15 v16 v17 v18 v19 v20 v21 : Int) (v22 v23 : Bool) (v24 : Int) (v28 v30 : LD) (k0 : Bool → Option R) : F95x0 N v0 v1 v2 v3 v4 v5 v6 v7 v8 v9 v10 v11 v12 v13 v14 v15 v16 v17 v18 v19 v20 v21 v22 v23 v24 v28 v30 k0 = (G95x0 N v0 v1 v2 v3 v4 v5 v6 v7 v8 v9 v10 v11 v12 v13 v14 v15 v16 v17 v18 v19 v20 v21 v22 v23 v24 v28 v30).bind k0 := by
  unfold G95x0 F95x0
  repeat' (first | rfl | apply cond_b | (apply bnd_b; intro _))
noncomputable def J95x0 (L : List Lf) (k0 : Bool → Option R) : Option R := F95x0 N (li L 0) (li L 1) (li L 2) (li L 3) (li L 4) (li L 5) (li L 6) (li L 7) (li L 8) (li L 9) (li L 10) (li L 11) (li L 12) (li L 13) (li L 14) (li L 15) (li L 16) (li L 17) (li L 18) (li L 19) (li L 20) (li L 21) (lb L 22) (lb L 23) (li L 24) (ll L 28) (ll L 30) k0
noncomputable def sh95x0 : Sh := { tmps := [(0, .c (.p 0 0)), (1, .g (rI 20 ([]))), (2, .c (.i .i64)), (3, .c (.i .i64)), (4, .c (.b)), (5, .c (.b))], mem := [(0, .box (.i .i64 :: .i .i64 :: .i .i64 :: .sl 66 :: .sl 68 :: rB 12 ([])))] }
noncomputable def A95x0 (L : List Lf) : List (Bool × Res) := bnd (J95x0 N L (fun p => some p)) fun q => [(q.isSome, ([.c (.b (q.getD default))], mgA (ofSh sh95x0 L).mem [] [0]))]
theorem raw95x0 (L : List Lf) : bd Try.prog (T49x0 N) (h95x0s3 N).h 95 sh95x0 L = J95x0 N L (fun p => some ([.c (.b p)], mgA (ofSh sh95x0 L).mem [] [0])) := by kernel_rfl
theorem ok95x0 : FnOk Try.prog 95 sh95x0 (A95x0 N) :=
  (h95x0s3 N).fn progOk (T49x0_ok N) fun L x hx => ((raw95x0 N L).trans ((bind95x0 N ..).trans (alt1 x hx)))
noncomputable def T95x0 : Oracle := ext 95 (spSh sh95x0 (A95x0 N)) (T49x0 N)
theorem T95x0_ok : OracleOk Try.prog (T95x0 N) := FnOk.to (ok95x0 N) (T49x0_ok N)
noncomputable def rg96x0 : List (Nat × List Nat) := [(0, [1, 0]), (1, [0, 3, 4]), (2, [0, 5, 3, 4]), (3, [14, 13, 12, 5, 0, 3, 4]), (4, [14, 12, 5, 0, 3, 13, 4]), (5, [7, 5, 0, 6, 3, 14, 13, 12, 4]), (6, [0, 6, 3, 7, 14, 13, 12, 5, 4]), (7, [6, 3, 14, 13, 12, 5, 0, 4]), (8, [14, 13, 12, 5, 0, 3, 4]), (9, [5, 3, 4]), (10, [3, 5, 4]), (11, [5, 3, 4]), (12, [3, 5, 4]), (13, [5, 3, 4]), (14, [3, 5, 4]), (15, [5, 3, 4]), (16, [3, 4]), (17, [3, 4])]
noncomputable def hd96x0 : Hints := [(9, [14, 13, 12, 5, 0, 3, 4], [6, 5, 4, 0], []), (16, [7, 5, 0, 6, 3, 14, 13, 12, 4], [8, 6, 5, 4, 0], []), (23, [6, 3, 14, 13, 12, 5, 0, 4, 47], [6, 5, 4, 0], []), (38, [3, 5, 4, 63], [6, 5, 4, 0], []), (32, [3, 5, 4, 54], [6, 5, 4, 0], []), (44, [3, 5, 4, 67], [6, 5, 4, 0], []), (50, [3, 4, 71], [5, 4, 0], [])]
noncomputable def h96x0s0 (N : Nat) : Sg Try.prog 1 96 := .start hd96x0 rg96x0
noncomputable def F96x0x16 (N : Nat) (w0 : Int) (w12 w13 w14 w15 w16 w17 w18 w19 w20 w21 w22 w23 w64 w65 w66 w67 w68 w69 w70 w71 w72 w73 : Bool) (w74 : Int) (k0 : Ty5 → Option R) : Option R :=
  bif (inB w74 10) then
    bnd (bif (Nat.beq w74.toNat 0) then w64 else (bif (Nat.beq w74.toNat 1) then w65 else (bif (Nat.beq w74.toNat 2) then w66 else (bif (Nat.beq w74.toNat 3) then w67 else (bif (Nat.beq w74.toNat 4) then w68 else (bif (Nat.beq w74.toNat 5) then w69 else (bif (Nat.beq w74.toNat 6) then w70 else (bif (Nat.beq w74.toNat 7) then w71 else (bif (Nat.beq w74.toNat 8) then w72 else w73))))))))) fun y0 =>
    bif y0 then
      bif (inB w74 10) then
        k0 ((bif (Nat.beq w74.toNat 0) then true else w64), (bif (Nat.beq w74.toNat 1) then true else w65), (bif (Nat.beq w74.toNat 2) then true else w66), (bif (Nat.beq w74.toNat 3) then true else w67), (bif (Nat.beq w74.toNat 4) then true else w68), (bif (Nat.beq w74.toNat 5) then true else w69), (bif (Nat.beq w74.toNat 6) then true else w70), (bif (Nat.beq w74.toNat 7) then true else w71), (bif (Nat.beq w74.toNat 8) then true else w72), (bif (Nat.beq w74.toNat 9) then true else w73))
      else
        none
    else
      bif (inB w0 12) then
        bnd (bif (Nat.beq w0.toNat 0) then w12 else (bif (Nat.beq w0.toNat 1) then w13 else (bif (Nat.beq w0.toNat 2) then w14 else (bif (Nat.beq w0.toNat 3) then w15 else (bif (Nat.beq w0.toNat 4) then w16 else (bif (Nat.beq w0.toNat 5) then w17 else (bif (Nat.beq w0.toNat 6) then w18 else (bif (Nat.beq w0.toNat 7) then w19 else (bif (Nat.beq w0.toNat 8) then w20 else (bif (Nat.beq w0.toNat 9) then w21 else (bif (Nat.beq w0.toNat 10) then w22 else w23))))))))))) fun y1 =>
        bif (inB w74 10) then
          k0 ((bif (Nat.beq w74.toNat 0) then (!y1) else w64), (bif (Nat.beq w74.toNat 1) then (!y1) else w65), (bif (Nat.beq w74.toNat 2) then (!y1) else w66), (bif (Nat.beq w74.toNat 3) then (!y1) else w67), (bif (Nat.beq w74.toNat 4) then (!y1) else w68), (bif (Nat.beq w74.toNat 5) then (!y1) else w69), (bif (Nat.beq w74.toNat 6) then (!y1) else w70), (bif (Nat.beq w74.toNat 7) then (!y1) else w71), (bif (Nat.beq w74.toNat 8) then (!y1) else w72), (bif (Nat.beq w74.toNat 9) then (!y1) else w73))
        else
          none
      else
        none
  else
    none
noncomputable def G96x0x16 (w0 : Int) (w12 w13 w14 w15 w16 w17 w18 w19 w20 w21 w22 w23 w64 w65 w66 w67 w68 w69 w70 w71 w72 w73 : Bool) (w74 : Int) : Option (Ty5) := F96x0x16 N w0 w12 w13 w14 w15 w16 w17 w18 w19 w20 w21 w22 w23 w64 w65 w66 w67 w68 w69 w70 w71 w72 w73 w74 (fun p => some p)
theorem bind96x0x16 (w0 : Int) (w12 w13 w14 w15 w16 w17 w18 w19 w20 w21 w22 w23 w64 w65 w66 w67 w68 w69 w70 w71 w72 w73 : Bool) (w74 : Int) (k0 : Ty5 → Option R) : F96x0x16 N w0 w12 w13 w14 w15 w16 w17 w18 w19 w20 w21 w22 w23 w64 w65 w66 w67 w68 w69 w70 w71 w72 w73 w74 k0 = (G96x0x16 N w0 w12 w13 w14 w15 w16 w17 w18 w19 w20 w21 w22 w23 w64 w65 w66 w67 w68 w69 w70 w71 w72 w73 w74).bind k0 := by
  unfold G96x0x16 F96x0x16
  repeat' (first | rfl | apply cond_b | (apply bnd_b; intro _))
noncomputable def J96x0x16 (L : List Lf) (k0 : Ty5 → Option R) : Option R := F96x0x16 N (li L 0) (lb L 12) (lb L 13) (lb L 14) (lb L 15) (lb L 16) (lb L 17) (lb L 18) (lb L 19) (lb L 20) (lb L 21) (lb L 22) (lb L 23) (lb L 64) (lb L 65) (lb L 66) (lb L 67) (lb L 68) (lb L 69) (lb L 70) (lb L 71) (lb L 72) (lb L 73) (li L 74) k0
noncomputable def sh96x0x16 : Sh := { tmps := [(0, .c (.p 0 0)), (3, .c (.p 4 0)), (4, .c (.p 5 0)), (5, .c (.p 6 0)), (6, .c (.i .i64)), (7, .c (.p 8 0)), (12, .c (.sl 68)), (13, .c (.i .i64)), (14, .c (.i .i64))], mem := [(0, .box (.i .i64 :: .i .i64 :: .i .i64 :: .sl 66 :: .sl 68 :: rB 12 ([]))), (4, .box (rI 20 ([]))), (5, .box (rI 20 ([]))), (6, .box (rB 10 ([]))), (8, .box (rI 5 ([.s])))] }
noncomputable def K96x0x16w0 (L : List Lf) (p : Ty5) : Ex × St := let p1 := p.2; let p2 := p1.2; let p3 := p2.2; let p4 := p3.2; let p5 := p4.2; let p6 := p5.2; let p7 := p6.2; let p8 := p7.2; let p9 := p8.2; (.normal, mg (ofSh sh96x0x16 L) [0, 3, 4, 5, 6, 7, 12, 13, 14] [] [0, 4, 5, 6, 8] [(6, .box [.b p.1, .b p1.1, .b p2.1, .b p3.1, .b p4.1, .b p5.1, .b p6.1, .b p7.1, .b p8.1, .b p9])])
noncomputable def A96x0x16 (L : List Lf) : List (Bool × (Ex × St)) := bnd (J96x0x16 N L (fun p => some p)) fun q => [(q.isSome, K96x0x16w0 L (q.getD default))]
theorem raw96x0x16 (L : List Lf) : pc Try.prog (T95x0 N) (h96x0s0 N).h 1 100 96 16 sh96x0x16 L [0, 6, 3, 7, 14, 13, 12, 5, 4] [8, 6, 5, 4, 0] = J96x0x16 N L (fun p => some (K96x0x16w0 L p)) := by kernel_rfl
noncomputable def h96x0s1 : Sg Try.prog 1 96 :=
  (h96x0s0 N).cut (A96x0x16 N) progOk (T95x0_ok N) fun L x hx => (raw96x0x16 N L).trans ((bind96x0x16 N ..).trans (alt1 x hx))
noncomputable def F96x0x23 (N : Nat) (w0 : Int) (w5 : Bool) (w33 w34 w35 w36 w37 w38 w39 w40 w41 w42 w43 w44 : Int) (k0 : Ty4 → Option R) : Option R :=
  bif w5 then
    bif (inB w0 12) then
      k0 ((bif (Nat.beq w0.toNat 0) then 0 else w33), (bif (Nat.beq w0.toNat 1) then 0 else w34), (bif (Nat.beq w0.toNat 2) then 0 else w35), (bif (Nat.beq w0.toNat 3) then 0 else w36), (bif (Nat.beq w0.toNat 4) then 0 else w37), (bif (Nat.beq w0.toNat 5) then 0 else w38), (bif (Nat.beq w0.toNat 6) then 0 else w39), (bif (Nat.beq w0.toNat 7) then 0 else w40), (bif (Nat.beq w0.toNat 8) then 0 else w41), (bif (Nat.beq w0.toNat 9) then 0 else w42), (bif (Nat.beq w0.toNat 10) then 0 else w43), (bif (Nat.beq w0.toNat 11) then 0 else w44))
    else
      none
  else
    k0 (w33, w34, w35, w36, w37, w38, w39, w40, w41, w42, w43, w44)
noncomputable def G96x0x23 (w0 : Int) (w5 : Bool) (w33 w34 w35 w36 w37 w38 w39 w40 w41 w42 w43 w44 : Int) : Option (Ty4) := F96x0x23 N w0 w5 w33 w34 w35 w36 w37 w38 w39 w40 w41 w42 w43 w44 (fun p => some p)
theorem bind96x0x23 (w0 : Int) (w5 : Bool) (w33 w34 w35 w36 w37 w38 w39 w40 w41 w42 w43 w44 : Int) (k0 : Ty4 → Option R) : F96x0x23 N w0 w5 w33 w34 w35 w36 w37 w38 w39 w40 w41 w42 w43 w44 k0 = (G96x0x23 N w0 w5 w33 w34 w35 w36 w37 w38 w39 w40 w41 w42 w43 w44).bind k0 := by
  unfold G96x0x23 F96x0x23
  repeat' (first | rfl | apply cond_b | (apply bnd_b; intro _))
noncomputable def J96x0x23 (L : List Lf) (k0 : Ty4 → Option R) : Option R := F96x0x23 N (li L 0) (lb L 5) (li L 33) (li L 34) (li L 35) (li L 36) (li L 37) (li L 38) (li L 39) (li L 40) (li L 41) (li L 42) (li L 43) (li L 44) k0
noncomputable def sh96x0x23 : Sh := { tmps := [(0, .c (.p 0 0)), (3, .c (.p 4 0)), (4, .c (.p 5 0)), (5, .c (.p 6 0)), (6, .c (.i .i64)), (12, .c (.sl 68)), (13, .c (.i .i64)), (14, .c (.i .i64)), (47, .c (.b))], mem := [(0, .box (.i .i64 :: .i .i64 :: .i .i64 :: .sl 66 :: .sl 68 :: rB 12 ([]))), (4, .box (rI 20 ([]))), (5, .box (rI 20 ([]))), (6, .box (rB 10 ([])))] }
noncomputable def K96x0x23w0 (L : List Lf) (p : Ty4) : Ex × St := let p1 := p.2; let p2 := p1.2; let p3 := p2.2; let p4 := p3.2; let p5 := p4.2; let p6 := p5.2; let p7 := p6.2; let p8 := p7.2; let p9 := p8.2; let p10 := p9.2; let p11 := p10.2; (.normal, mg (ofSh sh96x0x23 L) [0, 3, 4, 5, 12, 13, 14] [] [0, 4, 5, 6] [(4, .box (rL L 25 8 ([.i .i64 p.1, .i .i64 p1.1, .i .i64 p2.1, .i .i64 p3.1, .i .i64 p4.1, .i .i64 p5.1, .i .i64 p6.1, .i .i64 p7.1, .i .i64 p8.1, .i .i64 p9.1, .i .i64 p10.1, .i .i64 p11])))])
noncomputable def A96x0x23 (L : List Lf) : List (Bool × (Ex × St)) := bnd (J96x0x23 N L (fun p => some p)) fun q => [(q.isSome, K96x0x23w0 L (q.getD default))]
theorem raw96x0x23 (L : List Lf) : pc Try.prog (T95x0 N) (h96x0s1 N).h 1 100 96 23 sh96x0x23 L [14, 13, 12, 5, 0, 3, 4] [6, 5, 4, 0] = J96x0x23 N L (fun p => some (K96x0x23w0 L p)) := by kernel_rfl
noncomputable def h96x0s2 : Sg Try.prog 1 96 :=
  (h96x0s1 N).cut (A96x0x23 N) progOk (T95x0_ok N) fun L x hx => (raw96x0x23 N L).trans ((bind96x0x23 N ..).trans (alt1 x hx))
noncomputable def S96x0x9 (w1 : LD) (w2 : Int) (w11 w12 w13 w14 w15 w16 w17 w18 w19 w20 w21 w22 : Bool) (w23 : Int) (w3 w31 w32 w33 w34 w35 w36 w37 w38 w39 w40 w41 w42 : Int) (w63 w64 w65 w66 w67 w68 w69 w70 w71 w72 : Bool) (kr : Int → Int → Int → Int → Int → Int → Int → Int → Int → Int → Int → Int → Int → Bool → Bool → Bool → Bool → Bool → Bool → Bool → Bool → Bool → Bool → Option R) (k0 : Ty0 → Option R) : Option R :=
  bif (decide (w3 < w2)) then
    bif (inB w3 w1.length) then
      bnd (G96x0x16 N w3 w11 w12 w13 w14 w15 w16 w17 w18 w19 w20 w21 w22 w63 w64 w65 w66 w67 w68 w69 w70 w71 w72 ((w1.getD w3.toNat (.i 0)).cell 0).toI) fun y0 =>
      bif y0.isSome then
        bif (inB w3 12) then
          bnd (bif (Nat.beq w3.toNat 0) then w11 else (bif (Nat.beq w3.toNat 1) then w12 else (bif (Nat.beq w3.toNat 2) then w13 else (bif (Nat.beq w3.toNat 3) then w14 else (bif (Nat.beq w3.toNat 4) then w15 else (bif (Nat.beq w3.toNat 5) then w16 else (bif (Nat.beq w3.toNat 6) then w17 else (bif (Nat.beq w3.toNat 7) then w18 else (bif (Nat.beq w3.toNat 8) then w19 else (bif (Nat.beq w3.toNat 9) then w20 else (bif (Nat.beq w3.toNat 10) then w21 else w22))))))))))) fun y1 =>
          bnd (bif y1 then true else (decide (w23 ≥ ((w1.getD w3.toNat (.i 0)).cell 1).toI))) fun y2 =>
          bnd (G96x0x23 N w3 y2 w31 w32 w33 w34 w35 w36 w37 w38 w39 w40 w41 w42) fun y3 =>
          bif y3.isSome then
            kr (IntKind.wrap .i64 (w3 + 1)) (y3.getD default).1 (y3.getD default).2.1 (y3.getD default).2.2.1 (y3.getD default).2.2.2.1 (y3.getD default).2.2.2.2.1 (y3.getD default).2.2.2.2.2.1 (y3.getD default).2.2.2.2.2.2.1 (y3.getD default).2.2.2.2.2.2.2.1 (y3.getD default).2.2.2.2.2.2.2.2.1 (y3.getD default).2.2.2.2.2.2.2.2.2.1 (y3.getD default).2.2.2.2.2.2.2.2.2.2.1 (y3.getD default).2.2.2.2.2.2.2.2.2.2.2 (y0.getD default).1 (y0.getD default).2.1 (y0.getD default).2.2.1 (y0.getD default).2.2.2.1 (y0.getD default).2.2.2.2.1 (y0.getD default).2.2.2.2.2.1 (y0.getD default).2.2.2.2.2.2.1 (y0.getD default).2.2.2.2.2.2.2.1 (y0.getD default).2.2.2.2.2.2.2.2.1 (y0.getD default).2.2.2.2.2.2.2.2.2
          else
            none
        else
          none
      else
        none
    else
      none
  else
    k0 (w31, w32, w33, w34, w35, w36, w37, w38, w39, w40, w41, w42, w63, w64, w65, w66, w67, w68, w69, w70, w71, w72)
noncomputable def L96x0x9 (N : Nat) {R : Type} (w1 : LD) (w2 : Int) (w11 w12 w13 w14 w15 w16 w17 w18 w19 w20 w21 w22 : Bool) (w23 : Int) : Nat → Int → Int → Int → Int → Int → Int → Int → Int → Int → Int → Int → Int → Int → Bool → Bool → Bool → Bool → Bool → Bool → Bool → Bool → Bool → Bool → (Ty0 → Option R) → Option R
  | 0, _, _, _, _, _, _, _, _, _, _, _, _, _, _, _, _, _, _, _, _, _, _, _, _ => none
  | m + 1, w3, w31, w32, w33, w34, w35, w36, w37, w38, w39, w40, w41, w42, w63, w64, w65, w66, w67, w68, w69, w70, w71, w72, k0 => S96x0x9 N w1 w2 w11 w12 w13 w14 w15 w16 w17 w18 w19 w20 w21 w22 w23 w3 w31 w32 w33 w34 w35 w36 w37 w38 w39 w40 w41 w42 w63 w64 w65 w66 w67 w68 w69 w70 w71 w72 (fun w3 w31 w32 w33 w34 w35 w36 w37 w38 w39 w40 w41 w42 w63 w64 w65 w66 w67 w68 w69 w70 w71 w72 => L96x0x9 N w1 w2 w11 w12 w13 w14 w15 w16 w17 w18 w19 w20 w21 w22 w23 m w3 w31 w32 w33 w34 w35 w36 w37 w38 w39 w40 w41 w42 w63 w64 w65 w66 w67 w68 w69 w70 w71 w72 k0) k0
noncomputable def G96x0x9 (w1 : LD) (w2 : Int) (w11 w12 w13 w14 w15 w16 w17 w18 w19 w20 w21 w22 : Bool) (w23 : Int) (w3 w31 w32 w33 w34 w35 w36 w37 w38 w39 w40 w41 w42 : Int) (w63 w64 w65 w66 w67 w68 w69 w70 w71 w72 : Bool) : Option (Ty0) := L96x0x9 N (R := (Ty0)) w1 w2 w11 w12 w13 w14 w15 w16 w17 w18 w19 w20 w21 w22 w23 N w3 w31 w32 w33 w34 w35 w36 w37 w38 w39 w40 w41 w42 w63 w64 w65 w66 w67 w68 w69 w70 w71 w72 (fun p => some p)
noncomputable def J96x0x9 (L x : List Lf) (kr : List Lf → Option R) (k0 : Ty0 → Option R) : Option R := S96x0x9 N (ll L 1) (li L 2) (lb L 11) (lb L 12) (lb L 13) (lb L 14) (lb L 15) (lb L 16) (lb L 17) (lb L 18) (lb L 19) (lb L 20) (lb L 21) (lb L 22) (li L 23) (li x 0) (li x 1) (li x 2) (li x 3) (li x 4) (li x 5) (li x 6) (li x 7) (li x 8) (li x 9) (li x 10) (li x 11) (li x 12) (lb x 13) (lb x 14) (lb x 15) (lb x 16) (lb x 17) (lb x 18) (lb x 19) (lb x 20) (lb x 21) (lb x 22) (fun w3 w31 w32 w33 w34 w35 w36 w37 w38 w39 w40 w41 w42 w63 w64 w65 w66 w67 w68 w69 w70 w71 w72 => kr [.i w3, .i w31, .i w32, .i w33, .i w34, .i w35, .i w36, .i w37, .i w38, .i w39, .i w40, .i w41, .i w42, .b w63, .b w64, .b w65, .b w66, .b w67, .b w68, .b w69, .b w70, .b w71, .b w72]) k0
theorem sb96x0x9 (L x : List Lf) (kr : List Lf → Option R) (k0 : Ty0 → Option R) : J96x0x9 N L x kr k0 = (J96x0x9 N L x (fun y => some (.inl y)) (fun p => some (.inr p))).bind (sumE kr k0) := by
  unfold J96x0x9 S96x0x9
  repeat' (first | rfl | apply cond_b | (apply bnd_b; intro _))
noncomputable def Q96x0x9 (L : List Lf) (m : Nat) (x : List Lf) : Option (Ty0) := L96x0x9 N (R := (Ty0)) (ll L 1) (li L 2) (lb L 11) (lb L 12) (lb L 13) (lb L 14) (lb L 15) (lb L 16) (lb L 17) (lb L 18) (lb L 19) (lb L 20) (lb L 21) (lb L 22) (li L 23) m (li x 0) (li x 1) (li x 2) (li x 3) (li x 4) (li x 5) (li x 6) (li x 7) (li x 8) (li x 9) (li x 10) (li x 11) (li x 12) (lb x 13) (lb x 14) (lb x 15) (lb x 16) (lb x 17) (lb x 18) (lb x 19) (lb x 20) (lb x 21) (lb x 22) (fun p => some p)
noncomputable def sh96x0x9 : Sh := { tmps := [(0, .c (.p 0 0)), (3, .c (.p 4 0)), (4, .c (.p 5 0)), (5, .c (.p 6 0)), (12, .c (.sl 68)), (13, .c (.i .i64)), (14, .c (.i .i64))], mem := [(0, .box (.i .i64 :: .i .i64 :: .i .i64 :: .sl 66 :: .sl 68 :: rB 12 ([]))), (4, .box (rI 20 ([]))), (5, .box (rI 20 ([]))), (6, .box (rB 10 ([])))] }
noncomputable def K96x0x9w0 (L : List Lf) (p : Ty0) : Ex × St := let p1 := p.2; let p2 := p1.2; let p3 := p2.2; let p4 := p3.2; let p5 := p4.2; let p6 := p5.2; let p7 := p6.2; let p8 := p7.2; let p9 := p8.2; let p10 := p9.2; let p11 := p10.2; let p12 := p11.2; let p13 := p12.2; let p14 := p13.2; let p15 := p14.2; let p16 := p15.2; let p17 := p16.2; let p18 := p17.2; let p19 := p18.2; let p20 := p19.2; let p21 := p20.2; ((.exit 0), mg (ofSh sh96x0x9 L) [3, 4, 5] [] [0, 4, 5, 6] [(4, .box (rL L 23 8 ([.i .i64 p.1, .i .i64 p1.1, .i .i64 p2.1, .i .i64 p3.1, .i .i64 p4.1, .i .i64 p5.1, .i .i64 p6.1, .i .i64 p7.1, .i .i64 p8.1, .i .i64 p9.1, .i .i64 p10.1, .i .i64 p11.1]))), (6, .box [.b p12.1, .b p13.1, .b p14.1, .b p15.1, .b p16.1, .b p17.1, .b p18.1, .b p19.1, .b p20.1, .b p21])])
noncomputable def A96x0x9 (L : List Lf) : List (Bool × (Ex × St)) := bnd (Q96x0x9 N L N (pk sh96x0x9 [3, 31, 32, 33, 34, 35, 36, 37, 38, 39, 40, 41, 42, 63, 64, 65, 66, 67, 68, 69, 70, 71, 72] L)) fun q => [(q.isSome, K96x0x9w0 L (q.getD default))]
theorem step96x0x9 (m : Nat) (kn : St → Option (Ex × St)) (L x : List Lf) : lpB Try.prog (T95x0 N) (h96x0s2 N).h 1 96 9 sh96x0x9 [3, 31, 32, 33, 34, 35, 36, 37, 38, 39, 40, 41, 42, 63, 64, 65, 66, 67, 68, 69, 70, 71, 72] [4, 5, 3] [6, 5, 4, 0] (m + 100) kn L x = J96x0x9 N L x (fun y => kn (ofSh sh96x0x9 (mx sh96x0x9 [3, 31, 32, 33, 34, 35, 36, 37, 38, 39, 40, 41, 42, 63, 64, 65, 66, 67, 68, 69, 70, 71, 72] L y))) (fun p => some (K96x0x9w0 L p)) := by kernel_rfl
noncomputable def h96x0s3 : Sg Try.prog 1 96 :=
  (h96x0s2 N).lp (A96x0x9 N) N progOk (T95x0_ok N) (fun m kn L x => (step96x0x9 N m kn L x).trans (sb96x0x9 N L x _ _)) (fun L m x => sb96x0x9 N L x (Q96x0x9 N L m) some) fun L x hx => alt1 x hx
noncomputable def F96x0x38 (N : Nat) (w0 : Bool) (w21 : Int) (k0 : Int → R) : R :=
  bif w0 then
    k0 0
  else
    k0 w21
noncomputable def V96x0x38 (w0 : Bool) (w21 : Int) : Int := F96x0x38 N w0 w21 (fun p => p)
theorem tot96x0x38 (w0 : Bool) (w21 : Int) (k0 : Int → R) : F96x0x38 N w0 w21 k0 = k0 (V96x0x38 N w0 w21) := by
  unfold V96x0x38 F96x0x38
  repeat' (first | rfl | apply cond_k | (apply bnd_k; intro _))
noncomputable def sh96x0x38 : Sh := { tmps := [(3, .c (.p 4 0)), (4, .c (.p 5 0)), (5, .c (.p 6 0)), (63, .c (.b))], mem := [(0, .box (.i .i64 :: .i .i64 :: .i .i64 :: .sl 66 :: .sl 68 :: rB 12 ([]))), (4, .box (rI 20 ([]))), (5, .box (rI 20 ([]))), (6, .box (rB 10 ([])))] }
noncomputable def K96x0x38w0 (L : List Lf) (p : Int) : Ex × St := (.normal, mg (ofSh sh96x0x38 L) [3, 4, 5] [] [0, 4, 5, 6] [(4, .box (.i .i64 (li L 20) :: .i .i64 p :: rL L 22 18 ([])))])
noncomputable def A96x0x38 (L : List Lf) : List (Bool × (Ex × St)) := bnd (F96x0x38 N (lb L 0) (li L 21) (fun p => p)) fun q => [(true, K96x0x38w0 L q)]
theorem raw96x0x38 (L : List Lf) : pc Try.prog (T95x0 N) (h96x0s3 N).h 1 100 96 38 sh96x0x38 L [5, 3, 4] [6, 5, 4, 0] = F96x0x38 N (lb L 0) (li L 21) (fun p => some (K96x0x38w0 L p)) := by kernel_rfl
noncomputable def h96x0s4 : Sg Try.prog 1 96 :=
  (h96x0s3 N).cut (A96x0x38 N) progOk (T95x0_ok N) fun L x hx => (raw96x0x38 N L).trans ((tot96x0x38 N ..).trans (alt0 _ _ hx))
noncomputable def F96x0x32 (w0 : Bool) (w21 w22 : Int) (w63 w64 : Bool) (k0 : Int × Int → R) : R :=
  bif w0 then
    bnd (V96x0x38 N (bif (!w63) then (!w64) else false) w21) fun y0 =>
    k0 (y0, 0)
  else
    k0 (w21, w22)
noncomputable def V96x0x32 (w0 : Bool) (w21 w22 : Int) (w63 w64 : Bool) : Int × Int := F96x0x32 N w0 w21 w22 w63 w64 (fun p => p)
theorem tot96x0x32 (w0 : Bool) (w21 w22 : Int) (w63 w64 : Bool) (k0 : Int × Int → R) : F96x0x32 N w0 w21 w22 w63 w64 k0 = k0 (V96x0x32 N w0 w21 w22 w63 w64) := by
  unfold V96x0x32 F96x0x32
  repeat' (first | rfl | apply cond_k | (apply bnd_k; intro _))
noncomputable def J96x0x32 (L : List Lf) (k0 : Int × Int → R) : R := F96x0x32 N (lb L 0) (li L 21) (li L 22) (lb L 63) (lb L 64) k0
noncomputable def sh96x0x32 : Sh := { tmps := [(3, .c (.p 4 0)), (4, .c (.p 5 0)), (5, .c (.p 6 0)), (54, .c (.b))], mem := [(0, .box (.i .i64 :: .i .i64 :: .i .i64 :: .sl 66 :: .sl 68 :: rB 12 ([]))), (4, .box (rI 20 ([]))), (5, .box (rI 20 ([]))), (6, .box (rB 10 ([])))] }
noncomputable def K96x0x32w0 (L : List Lf) (p : Int × Int) : Ex × St := (.normal, mg (ofSh sh96x0x32 L) [3, 4, 5] [] [0, 4, 5, 6] [(4, .box (.i .i64 (li L 20) :: .i .i64 p.1 :: .i .i64 p.2 :: rL L 23 17 ([])))])
noncomputable def A96x0x32 (L : List Lf) : List (Bool × (Ex × St)) := bnd (J96x0x32 N L (fun p => p)) fun q => [(true, K96x0x32w0 L q)]
theorem raw96x0x32 (L : List Lf) : pc Try.prog (T95x0 N) (h96x0s4 N).h 1 100 96 32 sh96x0x32 L [5, 3, 4] [6, 5, 4, 0] = J96x0x32 N L (fun p => some (K96x0x32w0 L p)) := by kernel_rfl
noncomputable def h96x0s5 : Sg Try.prog 1 96 :=
  (h96x0s4 N).cut (A96x0x32 N) progOk (T95x0_ok N) fun L x hx => (raw96x0x32 N L).trans ((tot96x0x32 N ..).trans (alt0 _ _ hx))
noncomputable def F96x0x44 (N : Nat) (w0 : Bool) (w23 : Int) (k0 : Int → R) : R :=
  bif w0 then
    k0 0
  else
    k0 w23
noncomputable def V96x0x44 (w0 : Bool) (w23 : Int) : Int := F96x0x44 N w0 w23 (fun p => p)
theorem tot96x0x44 (w0 : Bool) (w23 : Int) (k0 : Int → R) : F96x0x44 N w0 w23 k0 = k0 (V96x0x44 N w0 w23) := by
  unfold V96x0x44 F96x0x44
  repeat' (first | rfl | apply cond_k | (apply bnd_k; intro _))
noncomputable def sh96x0x44 : Sh := { tmps := [(3, .c (.p 4 0)), (4, .c (.p 5 0)), (5, .c (.p 6 0)), (67, .c (.b))], mem := [(0, .box (.i .i64 :: .i .i64 :: .i .i64 :: .sl 66 :: .sl 68 :: rB 12 ([]))), (4, .box (rI 20 ([]))), (5, .box (rI 20 ([]))), (6, .box (rB 10 ([])))] }
noncomputable def K96x0x44w0 (L : List Lf) (p : Int) : Ex × St := (.normal, mg (ofSh sh96x0x44 L) [3, 4, 5] [] [0, 4, 5, 6] [(4, .box (.i .i64 (li L 20) :: .i .i64 (li L 21) :: .i .i64 (li L 22) :: .i .i64 p :: rL L 24 16 ([])))])
noncomputable def A96x0x44 (L : List Lf) : List (Bool × (Ex × St)) := bnd (F96x0x44 N (lb L 0) (li L 23) (fun p => p)) fun q => [(true, K96x0x44w0 L q)]
theorem raw96x0x44 (L : List Lf) : pc Try.prog (T95x0 N) (h96x0s5 N).h 1 100 96 44 sh96x0x44 L [5, 3, 4] [6, 5, 4, 0] = F96x0x44 N (lb L 0) (li L 23) (fun p => some (K96x0x44w0 L p)) := by kernel_rfl
noncomputable def h96x0s6 : Sg Try.prog 1 96 :=
  (h96x0s5 N).cut (A96x0x44 N) progOk (T95x0_ok N) fun L x hx => (raw96x0x44 N L).trans ((tot96x0x44 N ..).trans (alt0 _ _ hx))
noncomputable def F96x0x50 (N : Nat) (w0 : Bool) (w24 w25 w26 w27 : Int) (k0 : Int × Int × Int × Int → R) : R :=
  bif w0 then
    k0 (0, 0, 0, 0)
  else
    k0 (w24, w25, w26, w27)
noncomputable def V96x0x50 (w0 : Bool) (w24 w25 w26 w27 : Int) : Int × Int × Int × Int := F96x0x50 N w0 w24 w25 w26 w27 (fun p => p)
theorem tot96x0x50 (w0 : Bool) (w24 w25 w26 w27 : Int) (k0 : Int × Int × Int × Int → R) : F96x0x50 N w0 w24 w25 w26 w27 k0 = k0 (V96x0x50 N w0 w24 w25 w26 w27) := by
  unfold V96x0x50 F96x0x50
  repeat' (first | rfl | apply cond_k | (apply bnd_k; intro _))
noncomputable def J96x0x50 (L : List Lf) (k0 : Int × Int × Int × Int → R) : R := F96x0x50 N (lb L 0) (li L 24) (li L 25) (li L 26) (li L 27) k0
noncomputable def sh96x0x50 : Sh := { tmps := [(3, .c (.p 4 0)), (4, .c (.p 5 0)), (71, .c (.b))], mem := [(0, .box (.i .i64 :: .i .i64 :: .i .i64 :: .sl 66 :: .sl 68 :: rB 12 ([]))), (4, .box (rI 20 ([]))), (5, .box (rI 20 ([])))] }
noncomputable def K96x0x50w0 (L : List Lf) (p : Int × Int × Int × Int) : Ex × St := (.normal, mg (ofSh sh96x0x50 L) [3, 4] [] [0, 4, 5] [(4, .box (rL L 20 4 (.i .i64 p.1 :: .i .i64 p.2.1 :: .i .i64 p.2.2.1 :: .i .i64 p.2.2.2 :: rL L 28 12 ([]))))])
noncomputable def A96x0x50 (L : List Lf) : List (Bool × (Ex × St)) := bnd (J96x0x50 N L (fun p => p)) fun q => [(true, K96x0x50w0 L q)]
theorem raw96x0x50 (L : List Lf) : pc Try.prog (T95x0 N) (h96x0s6 N).h 1 100 96 50 sh96x0x50 L [3, 4] [5, 4, 0] = J96x0x50 N L (fun p => some (K96x0x50w0 L p)) := by kernel_rfl
noncomputable def h96x0s7 : Sg Try.prog 1 96 :=
  (h96x0s6 N).cut (A96x0x50 N) progOk (T95x0_ok N) fun L x hx => (raw96x0x50 N L).trans ((tot96x0x50 N ..).trans (alt0 _ _ hx))
noncomputable def F96x0 (v0 v1 v2 v3 v4 v5 v6 v7 v8 v9 v10 v11 v12 v13 v14 v15 v16 v17 v18 v19 : Int) (v26 : LD) (v27 v28 v29 v30 v31 v32 v33 v34 v35 v36 v37 v38 : Bool) (k0 : Ty2 → Option R) : Option R :=
  bnd (G96x0x9 N v26 (v26.length : Int) v27 v28 v29 v30 v31 v32 v33 v34 v35 v36 v37 v38 v0 0 v8 v9 v10 v11 v12 v13 v14 v15 v16 v17 v18 v19 false false false false false false false false false false) fun y0 =>
  bif y0.isSome then
    bnd (y0.getD default).2.2.2.2.2.2.2.2.2.2.2.2.2.2.2.2.2.2.2.1 fun y1 =>
    bnd (V96x0x32 N (!y1) v1 v2 (y0.getD default).2.2.2.2.2.2.2.2.2.2.2.2.2.2.2.1 (y0.getD default).2.2.2.2.2.2.2.2.2.2.2.2.2.2.2.2.1) fun y2 =>
    bnd (!(y0.getD default).2.2.2.2.2.2.2.2.2.2.2.2.2.2.2.2.2.1) fun y3 =>
    bnd (V96x0x44 N y3 v3) fun y4 =>
    bnd (y0.getD default).2.2.2.2.2.2.2.2.2.2.2.2.2.2.2.2.2.2.1 fun y5 =>
    bnd (V96x0x50 N (!y5) v4 v5 v6 v7) fun y6 =>
    k0 (y2.1, y2.2, y4, y6.1, y6.2.1, y6.2.2.1, y6.2.2.2, (y0.getD default).1, (y0.getD default).2.1, (y0.getD default).2.2.1, (y0.getD default).2.2.2.1, (y0.getD default).2.2.2.2.1, (y0.getD default).2.2.2.2.2.1, (y0.getD default).2.2.2.2.2.2.1, (y0.getD default).2.2.2.2.2.2.2.1, (y0.getD default).2.2.2.2.2.2.2.2.1, (y0.getD default).2.2.2.2.2.2.2.2.2.1, (y0.getD default).2.2.2.2.2.2.2.2.2.2.1, (y0.getD default).2.2.2.2.2.2.2.2.2.2.2.1)
  else
    none
noncomputable def G96x0 (v0 v1 v2 v3 v4 v5 v6 v7 v8 v9 v10 v11 v12 v13 v14 v15 v16 v17 v18 v19 : Int) (v26 : LD) (v27 v28 v29 v30 v31 v32 v33 v34 v35 v36 v37 v38 : Bool) : Option (Ty2) := F96x0 N v0 v1 v2 v3 v4 v5 v6 v7 v8 v9 v10 v11 v12 v13 v14 v15 v16 v17 v18 v19 v26 v27 v28 v29 v30 v31 v32 v33 v34 v35 v36 v37 v38 (fun p => some p)
theorem bind96x0 (v0 v1 v2 v3 v4 v5 v6 v7 v8 v9 v10 v11 v12 v13 v14 v15 v16 v17 v18 v19 : Int) (v26 : LD) (v27 v28 v29 v30 v31 v32 v33 v34 v35 v36 v37 v38 : Bool) (k0 : Ty2 → Option R) : F96x0 N v0 v1 v2 v3 v4 v5 v6 v7 v8 v9 v10 v11 v12 v13 v14 v15 v16 v17 v18 v19 v26 v27 v28 v29 v30 v31 v32 v33 v34 v35 v36 v37 v38 k0 = (G96x0 N v0 v1 v2 v3 v4 v5 v6 v7 v8 v9 v10 v11 v12 v13 v14 v15 v16 v17 v18 v19 v26 v27 v28 v29 v30 v31 v32 v33 v34 v35 v36 v37 v38).bind k0 := by
  unfold G96x0 F96x0
  repeat' (first | rfl | apply cond_b | (apply bnd_b; intro _))
noncomputable def J96x0 (L : List Lf) (k0 : Ty2 → Option R) : Option R := F96x0 N (li L 0) (li L 1) (li L 2) (li L 3) (li L 4) (li L 5) (li L 6) (li L 7) (li L 8) (li L 9) (li L 10) (li L 11) (li L 12) (li L 13) (li L 14) (li L 15) (li L 16) (li L 17) (li L 18) (li L 19) (ll L 26) (lb L 27) (lb L 28) (lb L 29) (lb L 30) (lb L 31) (lb L 32) (lb L 33) (lb L 34) (lb L 35) (lb L 36) (lb L 37) (lb L 38) k0
noncomputable def sh96x0 : Sh := { tmps := [(0, .c (.p 0 0)), (1, .g (rI 20 ([])))], mem := [(0, .box (.i .i64 :: .i .i64 :: .i .i64 :: .sl 66 :: .sl 68 :: rB 12 ([])))] }
noncomputable def K96x0w0 (L : List Lf) (p : Ty2) : Res := let p1 := p.2; let p2 := p1.2; let p3 := p2.2; let p4 := p3.2; let p5 := p4.2; let p6 := p5.2; let p7 := p6.2; let p8 := p7.2; let p9 := p8.2; let p10 := p9.2; let p11 := p10.2; let p12 := p11.2; let p13 := p12.2; let p14 := p13.2; let p15 := p14.2; let p16 := p15.2; let p17 := p16.2; let p18 := p17.2; ([.g [.i .i64 (li L 0), .i .i64 p.1, .i .i64 p1.1, .i .i64 p2.1, .i .i64 p3.1, .i .i64 p4.1, .i .i64 p5.1, .i .i64 p6.1, .i .i64 p7.1, .i .i64 p8.1, .i .i64 p9.1, .i .i64 p10.1, .i .i64 p11.1, .i .i64 p12.1, .i .i64 p13.1, .i .i64 p14.1, .i .i64 p15.1, .i .i64 p16.1, .i .i64 p17.1, .i .i64 p18]], mgA (ofSh sh96x0 L).mem [] [0])
noncomputable def A96x0 (L : List Lf) : List (Bool × Res) := bnd (J96x0 N L (fun p => some p)) fun q => [(q.isSome, K96x0w0 L (q.getD default))]
theorem raw96x0 (L : List Lf) : bd Try.prog (T95x0 N) (h96x0s7 N).h 96 sh96x0 L = J96x0 N L (fun p => some (K96x0w0 L p)) := by kernel_rfl
theorem ok96x0 : FnOk Try.prog 96 sh96x0 (A96x0 N) :=
  (h96x0s7 N).fn progOk (T95x0_ok N) fun L x hx => ((raw96x0 N L).trans ((bind96x0 N ..).trans (alt1 x hx)))
noncomputable def T96x0 : Oracle := ext 96 (spSh sh96x0 (A96x0 N)) (T95x0 N)
theorem T96x0_ok : OracleOk Try.prog (T96x0 N) := FnOk.to (ok96x0 N) (T95x0_ok N)
noncomputable def rg88x0 : List (Nat × List Nat) := [(0, [1, 0, 2]), (1, [0, 2, 4, 6]), (2, [4, 8, 2, 0, 6]), (3, [4, 8, 2, 9, 0, 6]), (4, [2, 4, 9, 0, 8, 6]), (5, [2, 4, 9, 0, 8, 6]), (6, [9, 0, 4, 8, 2, 6]), (7, [10, 9, 0, 4, 8, 2, 6]), (8, [0, 9, 4, 8, 2, 10, 11, 6]), (9, [57, 56, 55, 9, 4, 8, 0, 2, 10, 11, 6]), (10, [57, 55, 9, 4, 8, 0, 2, 10, 11, 6, 56]), (11, [13, 9, 12, 4, 8, 0, 2, 10, 11, 6, 57, 56, 55]), (12, [12, 4, 8, 0, 2, 10, 11, 6, 57, 56, 55, 9]), (13, [0, 12, 4, 2, 10, 11, 6, 57, 56, 55, 9, 8]), (14, [6]), (15, [57, 56, 55, 9, 4, 8, 0, 2, 10, 11, 6]), (16, [8, 9, 4, 11, 0, 6]), (17, [9, 4, 11, 0, 6]), (18, [11, 4, 0, 6]), (19, [4, 0, 6]), (20, [4, 0, 6]), (21, [0, 4, 6])]
noncomputable def hd88x0 : Hints := [(17, [2, 4, 9, 0, 8, 6, 29], [9, 7, 5, 0], []), (27, [57, 56, 55, 9, 4, 8, 0, 2, 10, 11, 6], [9, 7, 5, 0], []), (34, [13, 9, 12, 4, 8, 0, 2, 10, 11, 6, 57, 56, 55], [14, 9, 7, 5, 0], []), (38, [12, 4, 8, 0, 2, 10, 11, 6, 57, 56, 55, 9, 76], [9, 7, 5, 0], []), (40, [0, 12, 4, 2, 10, 11, 6, 57, 56, 55, 9, 8], [9, 7, 5, 0], []), (53, [9, 4, 11, 0, 6, 106], [7, 5, 0], []), (59, [4, 0, 6, 110], [7, 5, 0], [])]
noncomputable def h88x0s0 (N : Nat) : Sg Try.prog 1 88 := .start hd88x0 rg88x0
noncomputable def F88x0x17 (N : Nat) (w0 : Int) (w2 : Bool) (w26 w27 w28 w29 : Int) (k0 : Int × Int × Int × Int → Option R) : Option R :=
  bif w2 then
    bif (inB w0 4) then
      bnd (bif (Nat.beq w0.toNat 0) then w26 else (bif (Nat.beq w0.toNat 1) then w27 else (bif (Nat.beq w0.toNat 2) then w28 else w29))) fun y0 =>
      bif (inB w0 4) then
        bnd (bif (Nat.beq w0.toNat 0) then (IntKind.wrap .i64 (y0 + 1)) else w26) fun y1 =>
        bnd (bif (Nat.beq w0.toNat 1) then (IntKind.wrap .i64 (y0 + 1)) else w27) fun y2 =>
        bnd (bif (Nat.beq w0.toNat 2) then (IntKind.wrap .i64 (y0 + 1)) else w28) fun y3 =>
        bnd (bif (Nat.beq w0.toNat 3) then (IntKind.wrap .i64 (y0 + 1)) else w29) fun y4 =>
        k0 (y1, y2, y3, y4)
      else
        none
    else
      none
  else
    k0 (w26, w27, w28, w29)
noncomputable def G88x0x17 (w0 : Int) (w2 : Bool) (w26 w27 w28 w29 : Int) : Option (Int × Int × Int × Int) := F88x0x17 N w0 w2 w26 w27 w28 w29 (fun p => some p)
theorem bind88x0x17 (w0 : Int) (w2 : Bool) (w26 w27 w28 w29 : Int) (k0 : Int × Int × Int × Int → Option R) : F88x0x17 N w0 w2 w26 w27 w28 w29 k0 = (G88x0x17 N w0 w2 w26 w27 w28 w29).bind k0 := by
  unfold G88x0x17 F88x0x17
  repeat' (first | rfl | apply cond_b | (apply bnd_b; intro _))
noncomputable def J88x0x17 (L : List Lf) (k0 : Int × Int × Int × Int → Option R) : Option R := F88x0x17 N (li L 0) (lb L 2) (li L 26) (li L 27) (li L 28) (li L 29) k0
noncomputable def sh88x0x17 : Sh := { tmps := [(0, .c (.p 0 0)), (2, .c (.i .i64)), (4, .c (.p 5 0)), (6, .c (.p 7 0)), (8, .c (.p 9 0)), (9, .c (.i .i64)), (29, .c (.b))], mem := [(0, .box (.i .i64 :: .i .i64 :: .i .i64 :: .sl 66 :: .sl 68 :: rB 12 ([]))), (5, .box (rI 20 ([]))), (7, .box (rI 20 ([]))), (9, .box ([.s, .i .i64, .i .i64, .i .i64, .b]))] }
noncomputable def K88x0x17w0 (L : List Lf) (p : Int × Int × Int × Int) : Ex × St := (.normal, mg (ofSh sh88x0x17 L) [0, 2, 4, 6, 8, 9] [] [0, 5, 7, 9] [(5, .box (rL L 22 4 (.i .i64 p.1 :: .i .i64 p.2.1 :: .i .i64 p.2.2.1 :: .i .i64 p.2.2.2 :: rL L 30 12 ([]))))])
noncomputable def A88x0x17 (L : List Lf) : List (Bool × (Ex × St)) := bnd (J88x0x17 N L (fun p => some p)) fun q => [(q.isSome, K88x0x17w0 L (q.getD default))]
theorem raw88x0x17 (L : List Lf) : pc Try.prog (T96x0 N) (h88x0s0 N).h 1 100 88 17 sh88x0x17 L [9, 0, 4, 8, 2, 6] [9, 7, 5, 0] = J88x0x17 N L (fun p => some (K88x0x17w0 L p)) := by kernel_rfl
noncomputable def h88x0s1 : Sg Try.prog 1 88 :=
  (h88x0s0 N).cut (A88x0x17 N) progOk (T96x0_ok N) fun L x hx => (raw88x0x17 N L).trans ((bind88x0x17 N ..).trans (alt1 x hx))
noncomputable def F88x0x34 (w1 w73 w74 w76 : Int) (k0 : Bool → R) : R :=
  bif (w73 == 9) then
    bnd (V48x0 N w1 (IntKind.wrap .i64 (w74 - w76)) (IntKind.wrap .i64 (w74 - 1))) fun y0 =>
    k0 y0
  else
    k0 false
noncomputable def V88x0x34 (w1 w73 w74 w76 : Int) : Bool := F88x0x34 N w1 w73 w74 w76 (fun p => p)
theorem tot88x0x34 (w1 w73 w74 w76 : Int) (k0 : Bool → R) : F88x0x34 N w1 w73 w74 w76 k0 = k0 (V88x0x34 N w1 w73 w74 w76) := by
  unfold V88x0x34 F88x0x34
  repeat' (first | rfl | apply cond_k | (apply bnd_k; intro _))
noncomputable def J88x0x34 (L : List Lf) (k0 : Bool → R) : R := F88x0x34 N (li L 1) (li L 73) (li L 74) (li L 76) k0
noncomputable def sh88x0x34 : Sh := { tmps := [(0, .c (.p 0 0)), (2, .c (.i .i64)), (4, .c (.p 5 0)), (6, .c (.p 7 0)), (8, .c (.p 9 0)), (9, .c (.i .i64)), (10, .c (.b)), (11, .c (.b)), (12, .c (.i .i64)), (13, .c (.p 14 0)), (55, .c (.sl 68)), (56, .c (.i .i64)), (57, .c (.i .i64))], mem := [(0, .box (.i .i64 :: .i .i64 :: .i .i64 :: .sl 66 :: .sl 68 :: rB 12 ([]))), (5, .box (rI 20 ([]))), (7, .box (rI 20 ([]))), (9, .box ([.s, .i .i64, .i .i64, .i .i64, .b])), (14, .box (rI 5 ([.s])))] }
noncomputable def K88x0x34w0 (L : List Lf) (p : Bool) : Ex × St := (.normal, mg (ofSh sh88x0x34 L) [0, 2, 4, 6, 8, 9, 10, 11, 12, 55, 56, 57, 76] [(76, .c (.b p))] [0, 5, 7, 9] [])
noncomputable def A88x0x34 (L : List Lf) : List (Bool × (Ex × St)) := bnd (J88x0x34 N L (fun p => p)) fun q => [(true, K88x0x34w0 L q)]
theorem raw88x0x34 (L : List Lf) : pc Try.prog (T96x0 N) (h88x0s1 N).h 1 100 88 34 sh88x0x34 L [12, 4, 8, 0, 2, 10, 11, 6, 57, 56, 55, 9, 76] [9, 7, 5, 0] = J88x0x34 N L (fun p => some (K88x0x34w0 L p)) := by kernel_rfl
noncomputable def h88x0s2 : Sg Try.prog 1 88 :=
  (h88x0s1 N).cut (A88x0x34 N) progOk (T96x0_ok N) fun L x hx => (raw88x0x34 N L).trans ((tot88x0x34 N ..).trans (alt0 _ _ hx))
noncomputable def F88x0x38 (N : Nat) (w4 : Int) (w9 : Bool) (w37 w38 w39 w40 w41 w42 w43 w44 w45 w46 w47 w48 w70 : Int) (k0 : Ty4 → Option R) : Option R :=
  bif w9 then
    bif (inB w4 12) then
      bnd (bif (Nat.beq w4.toNat 0) then w37 else (bif (Nat.beq w4.toNat 1) then w38 else (bif (Nat.beq w4.toNat 2) then w39 else (bif (Nat.beq w4.toNat 3) then w40 else (bif (Nat.beq w4.toNat 4) then w41 else (bif (Nat.beq w4.toNat 5) then w42 else (bif (Nat.beq w4.toNat 6) then w43 else (bif (Nat.beq w4.toNat 7) then w44 else (bif (Nat.beq w4.toNat 8) then w45 else (bif (Nat.beq w4.toNat 9) then w46 else (bif (Nat.beq w4.toNat 10) then w47 else w48))))))))))) fun y0 =>
      bif (inB w4 12) then
        bnd (bif (Nat.beq w4.toNat 0) then (IntKind.wrap .i64 (y0 + w70)) else w37) fun y1 =>
        bnd (bif (Nat.beq w4.toNat 1) then (IntKind.wrap .i64 (y0 + w70)) else w38) fun y2 =>
        bnd (bif (Nat.beq w4.toNat 2) then (IntKind.wrap .i64 (y0 + w70)) else w39) fun y3 =>
        bnd (bif (Nat.beq w4.toNat 3) then (IntKind.wrap .i64 (y0 + w70)) else w40) fun y4 =>
        bnd (bif (Nat.beq w4.toNat 4) then (IntKind.wrap .i64 (y0 + w70)) else w41) fun y5 =>
        bnd (bif (Nat.beq w4.toNat 5) then (IntKind.wrap .i64 (y0 + w70)) else w42) fun y6 =>
        bnd (bif (Nat.beq w4.toNat 6) then (IntKind.wrap .i64 (y0 + w70)) else w43) fun y7 =>
        bnd (bif (Nat.beq w4.toNat 7) then (IntKind.wrap .i64 (y0 + w70)) else w44) fun y8 =>
        bnd (bif (Nat.beq w4.toNat 8) then (IntKind.wrap .i64 (y0 + w70)) else w45) fun y9 =>
        bnd (bif (Nat.beq w4.toNat 9) then (IntKind.wrap .i64 (y0 + w70)) else w46) fun y10 =>
        bnd (bif (Nat.beq w4.toNat 10) then (IntKind.wrap .i64 (y0 + w70)) else w47) fun y11 =>
        bnd (bif (Nat.beq w4.toNat 11) then (IntKind.wrap .i64 (y0 + w70)) else w48) fun y12 =>
        k0 (y1, y2, y3, y4, y5, y6, y7, y8, y9, y10, y11, y12)
      else
        none
    else
      none
  else
    k0 (w37, w38, w39, w40, w41, w42, w43, w44, w45, w46, w47, w48)
noncomputable def G88x0x38 (w4 : Int) (w9 : Bool) (w37 w38 w39 w40 w41 w42 w43 w44 w45 w46 w47 w48 w70 : Int) : Option (Ty4) := F88x0x38 N w4 w9 w37 w38 w39 w40 w41 w42 w43 w44 w45 w46 w47 w48 w70 (fun p => some p)
theorem bind88x0x38 (w4 : Int) (w9 : Bool) (w37 w38 w39 w40 w41 w42 w43 w44 w45 w46 w47 w48 w70 : Int) (k0 : Ty4 → Option R) : F88x0x38 N w4 w9 w37 w38 w39 w40 w41 w42 w43 w44 w45 w46 w47 w48 w70 k0 = (G88x0x38 N w4 w9 w37 w38 w39 w40 w41 w42 w43 w44 w45 w46 w47 w48 w70).bind k0 := by
  unfold G88x0x38 F88x0x38
  repeat' (first | rfl | apply cond_b | (apply bnd_b; intro _))
noncomputable def J88x0x38 (L : List Lf) (k0 : Ty4 → Option R) : Option R := F88x0x38 N (li L 4) (lb L 9) (li L 37) (li L 38) (li L 39) (li L 40) (li L 41) (li L 42) (li L 43) (li L 44) (li L 45) (li L 46) (li L 47) (li L 48) (li L 70) k0
noncomputable def sh88x0x38 : Sh := { tmps := [(0, .c (.p 0 0)), (2, .c (.i .i64)), (4, .c (.p 5 0)), (6, .c (.p 7 0)), (8, .c (.p 9 0)), (9, .c (.i .i64)), (10, .c (.b)), (11, .c (.b)), (12, .c (.i .i64)), (55, .c (.sl 68)), (56, .c (.i .i64)), (57, .c (.i .i64)), (76, .c (.b))], mem := [(0, .box (.i .i64 :: .i .i64 :: .i .i64 :: .sl 66 :: .sl 68 :: rB 12 ([]))), (5, .box (rI 20 ([]))), (7, .box (rI 20 ([]))), (9, .box ([.s, .i .i64, .i .i64, .i .i64, .b]))] }
noncomputable def K88x0x38w0 (L : List Lf) (p : Ty4) : Ex × St := let p1 := p.2; let p2 := p1.2; let p3 := p2.2; let p4 := p3.2; let p5 := p4.2; let p6 := p5.2; let p7 := p6.2; let p8 := p7.2; let p9 := p8.2; let p10 := p9.2; let p11 := p10.2; (.normal, mg (ofSh sh88x0x38 L) [0, 2, 4, 6, 8, 9, 10, 11, 12, 55, 56, 57] [] [0, 5, 7, 9] [(5, .box (rL L 29 8 ([.i .i64 p.1, .i .i64 p1.1, .i .i64 p2.1, .i .i64 p3.1, .i .i64 p4.1, .i .i64 p5.1, .i .i64 p6.1, .i .i64 p7.1, .i .i64 p8.1, .i .i64 p9.1, .i .i64 p10.1, .i .i64 p11])))])
noncomputable def A88x0x38 (L : List Lf) : List (Bool × (Ex × St)) := bnd (J88x0x38 N L (fun p => some p)) fun q => [(q.isSome, K88x0x38w0 L (q.getD default))]
theorem raw88x0x38 (L : List Lf) : pc Try.prog (T96x0 N) (h88x0s2 N).h 1 100 88 38 sh88x0x38 L [0, 12, 4, 2, 10, 11, 6, 57, 56, 55, 9, 8] [9, 7, 5, 0] = J88x0x38 N L (fun p => some (K88x0x38w0 L p)) := by kernel_rfl
noncomputable def h88x0s3 : Sg Try.prog 1 88 :=
  (h88x0s2 N).cut (A88x0x38 N) progOk (T96x0_ok N) fun L x hx => (raw88x0x38 N L).trans ((bind88x0x38 N ..).trans (alt1 x hx))
noncomputable def F88x0x40 (w0 : Int) (w2 w3 : Bool) (w4 w9 : Int) (w13 w15 : LD) (w16 w17 w18 w19 w20 w21 w22 w23 w24 w25 w26 w27 : Bool) (w28 w29 w30 w31 w32 w33 w34 w35 w36 w37 w38 w39 w40 w41 w42 w43 w44 w45 w46 w47 : Int) (k0 : Bool → Option R) : Option R :=
  bif (inB w4 12) then
    bnd (bif (Nat.beq w4.toNat 0) then w16 else (bif (Nat.beq w4.toNat 1) then w17 else (bif (Nat.beq w4.toNat 2) then w18 else (bif (Nat.beq w4.toNat 3) then w19 else (bif (Nat.beq w4.toNat 4) then w20 else (bif (Nat.beq w4.toNat 5) then w21 else (bif (Nat.beq w4.toNat 6) then w22 else (bif (Nat.beq w4.toNat 7) then w23 else (bif (Nat.beq w4.toNat 8) then w24 else (bif (Nat.beq w4.toNat 9) then w25 else (bif (Nat.beq w4.toNat 10) then w26 else w27))))))))))) fun y0 =>
    bif (!y0) then
      bnd (G95x0 N w28 w29 w30 w31 w32 w33 w34 w35 w36 w37 w38 w39 w40 w41 w42 w43 w44 w45 w46 w47 w4 w0 w2 w3 w9 w13 w15) fun y1 =>
      bif y1.isSome then
        k0 (!(y1.getD default))
      else
        none
    else
      k0 false
  else
    none
noncomputable def G88x0x40 (w0 : Int) (w2 w3 : Bool) (w4 w9 : Int) (w13 w15 : LD) (w16 w17 w18 w19 w20 w21 w22 w23 w24 w25 w26 w27 : Bool) (w28 w29 w30 w31 w32 w33 w34 w35 w36 w37 w38 w39 w40 w41 w42 w43 w44 w45 w46 w47 : Int) : Option (Bool) := F88x0x40 N w0 w2 w3 w4 w9 w13 w15 w16 w17 w18 w19 w20 w21 w22 w23 w24 w25 w26 w27 w28 w29 w30 w31 w32 w33 w34 w35 w36 w37 w38 w39 w40 w41 w42 w43 w44 w45 w46 w47 (fun p => some p)
theorem bind88x0x40 (w0 : Int) (w2 w3 : Bool) (w4 w9 : Int) (w13 w15 : LD) (w16 w17 w18 w19 w20 w21 w22 w23 w24 w25 w26 w27 : Bool) (w28 w29 w30 w31 w32 w33 w34 w35 w36 w37 w38 w39 w40 w41 w42 w43 w44 w45 w46 w47 : Int) (k0 : Bool → Option R) : F88x0x40 N w0 w2 w3 w4 w9 w13 w15 w16 w17 w18 w19 w20 w21 w22 w23 w24 w25 w26 w27 w28 w29 w30 w31 w32 w33 w34 w35 w36 w37 w38 w39 w40 w41 w42 w43 w44 w45 w46 w47 k0 = (G88x0x40 N w0 w2 w3 w4 w9 w13 w15 w16 w17 w18 w19 w20 w21 w22 w23 w24 w25 w26 w27 w28 w29 w30 w31 w32 w33 w34 w35 w36 w37 w38 w39 w40 w41 w42 w43 w44 w45 w46 w47).bind k0 := by
  unfold G88x0x40 F88x0x40
  repeat' (first | rfl | apply cond_b | (apply bnd_b; intro _))
noncomputable def J88x0x40 (L : List Lf) (k0 : Bool → Option R) : Option R := F88x0x40 N (li L 0) (lb L 2) (lb L 3) (li L 4) (li L 9) (ll L 13) (ll L 15) (lb L 16) (lb L 17) (lb L 18) (lb L 19) (lb L 20) (lb L 21) (lb L 22) (lb L 23) (lb L 24) (lb L 25) (lb L 26) (lb L 27) (li L 28) (li L 29) (li L 30) (li L 31) (li L 32) (li L 33) (li L 34) (li L 35) (li L 36) (li L 37) (li L 38) (li L 39) (li L 40) (li L 41) (li L 42) (li L 43) (li L 44) (li L 45) (li L 46) (li L 47) k0
noncomputable def sh88x0x40 : Sh := { tmps := [(0, .c (.p 0 0)), (2, .c (.i .i64)), (4, .c (.p 5 0)), (6, .c (.p 7 0)), (8, .c (.p 9 0)), (9, .c (.i .i64)), (10, .c (.b)), (11, .c (.b)), (12, .c (.i .i64)), (55, .c (.sl 68)), (56, .c (.i .i64)), (57, .c (.i .i64))], mem := [(0, .box (.i .i64 :: .i .i64 :: .i .i64 :: .sl 66 :: .sl 68 :: rB 12 ([]))), (5, .box (rI 20 ([]))), (7, .box (rI 20 ([]))), (9, .box ([.s, .i .i64, .i .i64, .i .i64, .b]))] }
noncomputable def K88x0x40w0 (L : List Lf) (p : Bool) : Ex × St := (.normal, mg (ofSh sh88x0x40 L) [0, 2, 4, 6, 8, 9, 10, 11, 55, 56, 57, 102] [(102, .c (.b p))] [0, 5, 7, 9] [])
noncomputable def A88x0x40 (L : List Lf) : List (Bool × (Ex × St)) := bnd (J88x0x40 N L (fun p => some p)) fun q => [(q.isSome, K88x0x40w0 L (q.getD default))]
theorem raw88x0x40 (L : List Lf) : pc Try.prog (T96x0 N) (h88x0s3 N).h 1 100 88 40 sh88x0x40 L [6, 57, 56, 55, 9, 4, 8, 0, 2, 10, 11, 102] [9, 7, 5, 0] = J88x0x40 N L (fun p => some (K88x0x40w0 L p)) := by kernel_rfl
noncomputable def h88x0s4 : Sg Try.prog 1 88 :=
  (h88x0s3 N).cut (A88x0x40 N) progOk (T96x0_ok N) fun L x hx => (raw88x0x40 N L).trans ((bind88x0x40 N ..).trans (alt1 x hx))
noncomputable def S88x0x27 (w0 w1 : Int) (w2 w3 : Bool) (w5 : LD) (w6 w8 : Int) (w12 w14 : LD) (w15 w16 w17 w18 w19 w20 w21 w22 w23 w24 w25 w26 : Bool) (w27 w28 w29 w30 w31 w32 w33 w34 w68 : Int) (w7 w35 w36 w37 w38 w39 w40 w41 w42 w43 w44 w45 w46 : Int) (kr : Int → Int → Int → Int → Int → Int → Int → Int → Int → Int → Int → Int → Int → Option R) (k0 : Ty4 → Option R) (k1 : Ty4 → Option R) : Option R :=
  bif (decide (w7 < w6)) then
    bif (inB w7 w5.length) then
      bnd (V88x0x34 N w1 ((w5.getD w7.toNat (.i 0)).cell 0).toI ((w5.getD w7.toNat (.i 0)).cell 1).toI ((w5.getD w7.toNat (.i 0)).cell 3).toI) fun y0 =>
      bnd (G88x0x38 N w7 y0 w35 w36 w37 w38 w39 w40 w41 w42 w43 w44 w45 w46 w68) fun y1 =>
      bif y1.isSome then
        bnd (G88x0x40 N w0 w2 w3 w7 w8 w12 w14 w15 w16 w17 w18 w19 w20 w21 w22 w23 w24 w25 w26 w27 w28 w29 w30 w31 w32 w33 w34 (y1.getD default).1 (y1.getD default).2.1 (y1.getD default).2.2.1 (y1.getD default).2.2.2.1 (y1.getD default).2.2.2.2.1 (y1.getD default).2.2.2.2.2.1 (y1.getD default).2.2.2.2.2.2.1 (y1.getD default).2.2.2.2.2.2.2.1 (y1.getD default).2.2.2.2.2.2.2.2.1 (y1.getD default).2.2.2.2.2.2.2.2.2.1 (y1.getD default).2.2.2.2.2.2.2.2.2.2.1 (y1.getD default).2.2.2.2.2.2.2.2.2.2.2) fun y2 =>
        bif y2.isSome then
          bif (y2.getD default) then
            k0 (y1.getD default)
          else
            kr (IntKind.wrap .i64 (w7 + 1)) (y1.getD default).1 (y1.getD default).2.1 (y1.getD default).2.2.1 (y1.getD default).2.2.2.1 (y1.getD default).2.2.2.2.1 (y1.getD default).2.2.2.2.2.1 (y1.getD default).2.2.2.2.2.2.1 (y1.getD default).2.2.2.2.2.2.2.1 (y1.getD default).2.2.2.2.2.2.2.2.1 (y1.getD default).2.2.2.2.2.2.2.2.2.1 (y1.getD default).2.2.2.2.2.2.2.2.2.2.1 (y1.getD default).2.2.2.2.2.2.2.2.2.2.2
        else
          none
      else
        none
    else
      none
  else
    k1 (w35, w36, w37, w38, w39, w40, w41, w42, w43, w44, w45, w46)
noncomputable def L88x0x27 (N : Nat) {R : Type} (w0 w1 : Int) (w2 w3 : Bool) (w5 : LD) (w6 w8 : Int) (w12 w14 : LD) (w15 w16 w17 w18 w19 w20 w21 w22 w23 w24 w25 w26 : Bool) (w27 w28 w29 w30 w31 w32 w33 w34 w68 : Int) : Nat → Int → Int → Int → Int → Int → Int → Int → Int → Int → Int → Int → Int → Int → (Ty4 → Option R) → (Ty4 → Option R) → Option R
  | 0, _, _, _, _, _, _, _, _, _, _, _, _, _, _, _ => none
  | m + 1, w7, w35, w36, w37, w38, w39, w40, w41, w42, w43, w44, w45, w46, k0, k1 => S88x0x27 N w0 w1 w2 w3 w5 w6 w8 w12 w14 w15 w16 w17 w18 w19 w20 w21 w22 w23 w24 w25 w26 w27 w28 w29 w30 w31 w32 w33 w34 w68 w7 w35 w36 w37 w38 w39 w40 w41 w42 w43 w44 w45 w46 (fun w7 w35 w36 w37 w38 w39 w40 w41 w42 w43 w44 w45 w46 => L88x0x27 N w0 w1 w2 w3 w5 w6 w8 w12 w14 w15 w16 w17 w18 w19 w20 w21 w22 w23 w24 w25 w26 w27 w28 w29 w30 w31 w32 w33 w34 w68 m w7 w35 w36 w37 w38 w39 w40 w41 w42 w43 w44 w45 w46 k0 k1) k0 k1
noncomputable def G88x0x27 (w0 w1 : Int) (w2 w3 : Bool) (w5 : LD) (w6 w8 : Int) (w12 w14 : LD) (w15 w16 w17 w18 w19 w20 w21 w22 w23 w24 w25 w26 : Bool) (w27 w28 w29 w30 w31 w32 w33 w34 w68 : Int) (w7 w35 w36 w37 w38 w39 w40 w41 w42 w43 w44 w45 w46 : Int) : Option (Sum (Ty4) (Ty4)) := L88x0x27 N (R := (Sum (Ty4) (Ty4))) w0 w1 w2 w3 w5 w6 w8 w12 w14 w15 w16 w17 w18 w19 w20 w21 w22 w23 w24 w25 w26 w27 w28 w29 w30 w31 w32 w33 w34 w68 N w7 w35 w36 w37 w38 w39 w40 w41 w42 w43 w44 w45 w46 (fun p => some (.inl p)) (fun p => some (.inr p))
noncomputable def J88x0x27 (L x : List Lf) (kr : List Lf → Option R) (k0 : Ty4 → Option R) (k1 : Ty4 → Option R) : Option R := S88x0x27 N (li L 0) (li L 1) (lb L 2) (lb L 3) (ll L 5) (li L 6) (li L 8) (ll L 12) (ll L 14) (lb L 15) (lb L 16) (lb L 17) (lb L 18) (lb L 19) (lb L 20) (lb L 21) (lb L 22) (lb L 23) (lb L 24) (lb L 25) (lb L 26) (li L 27) (li L 28) (li L 29) (li L 30) (li L 31) (li L 32) (li L 33) (li L 34) (li L 68) (li x 0) (li x 1) (li x 2) (li x 3) (li x 4) (li x 5) (li x 6) (li x 7) (li x 8) (li x 9) (li x 10) (li x 11) (li x 12) (fun w7 w35 w36 w37 w38 w39 w40 w41 w42 w43 w44 w45 w46 => kr [.i w7, .i w35, .i w36, .i w37, .i w38, .i w39, .i w40, .i w41, .i w42, .i w43, .i w44, .i w45, .i w46]) k0 k1
theorem sb88x0x27 (L x : List Lf) (kr : List Lf → Option R) (k0 : Ty4 → Option R) (k1 : Ty4 → Option R) : J88x0x27 N L x kr k0 k1 = (J88x0x27 N L x (fun y => some (.inl y)) (fun p => some (.inr (.inl p))) (fun p => some (.inr (.inr p)))).bind (sumE kr (sumE k0 k1)) := by
  unfold J88x0x27 S88x0x27
  repeat' (first | rfl | apply cond_b | (apply bnd_b; intro _))
noncomputable def Q88x0x27 (L : List Lf) (m : Nat) (x : List Lf) : Option (Sum (Ty4) (Ty4)) := L88x0x27 N (R := (Sum (Ty4) (Ty4))) (li L 0) (li L 1) (lb L 2) (lb L 3) (ll L 5) (li L 6) (li L 8) (ll L 12) (ll L 14) (lb L 15) (lb L 16) (lb L 17) (lb L 18) (lb L 19) (lb L 20) (lb L 21) (lb L 22) (lb L 23) (lb L 24) (lb L 25) (lb L 26) (li L 27) (li L 28) (li L 29) (li L 30) (li L 31) (li L 32) (li L 33) (li L 34) (li L 68) m (li x 0) (li x 1) (li x 2) (li x 3) (li x 4) (li x 5) (li x 6) (li x 7) (li x 8) (li x 9) (li x 10) (li x 11) (li x 12) (fun p => some (.inl p)) (fun p => some (.inr p))
noncomputable def sh88x0x27 : Sh := { tmps := [(0, .c (.p 0 0)), (2, .c (.i .i64)), (4, .c (.p 5 0)), (6, .c (.p 7 0)), (8, .c (.p 9 0)), (9, .c (.i .i64)), (10, .c (.b)), (11, .c (.b)), (55, .c (.sl 68)), (56, .c (.i .i64)), (57, .c (.i .i64))], mem := [(0, .box (.i .i64 :: .i .i64 :: .i .i64 :: .sl 66 :: .sl 68 :: rB 12 ([]))), (5, .box (rI 20 ([]))), (7, .box (rI 20 ([]))), (9, .box ([.s, .i .i64, .i .i64, .i .i64, .b]))] }
noncomputable def K88x0x27w0 (L : List Lf) (p : Ty4) : Ex × St := let p1 := p.2; let p2 := p1.2; let p3 := p2.2; let p4 := p3.2; let p5 := p4.2; let p6 := p5.2; let p7 := p6.2; let p8 := p7.2; let p9 := p8.2; let p10 := p9.2; let p11 := p10.2; (.ret, mg (ofSh sh88x0x27 L) [6, 7] [(7, .c (.b false))] [0, 5, 7, 9] [(5, .box (rL L 27 8 ([.i .i64 p.1, .i .i64 p1.1, .i .i64 p2.1, .i .i64 p3.1, .i .i64 p4.1, .i .i64 p5.1, .i .i64 p6.1, .i .i64 p7.1, .i .i64 p8.1, .i .i64 p9.1, .i .i64 p10.1, .i .i64 p11]))), (7, .box [.i .i64 0, .i .i64 0, .i .i64 0, .i .i64 0, .i .i64 0, .i .i64 0, .i .i64 0, .i .i64 0, .i .i64 0, .i .i64 0, .i .i64 0, .i .i64 0, .i .i64 0, .i .i64 0, .i .i64 0, .i .i64 0, .i .i64 0, .i .i64 0, .i .i64 0, .i .i64 0])])
noncomputable def K88x0x27w1 (L : List Lf) (p : Ty4) : Ex × St := let p1 := p.2; let p2 := p1.2; let p3 := p2.2; let p4 := p3.2; let p5 := p4.2; let p6 := p5.2; let p7 := p6.2; let p8 := p7.2; let p9 := p8.2; let p10 := p9.2; let p11 := p10.2; ((.exit 0), mg (ofSh sh88x0x27 L) [0, 4, 6, 8, 9, 11] [] [0, 5, 7, 9] [(5, .box (rL L 27 8 ([.i .i64 p.1, .i .i64 p1.1, .i .i64 p2.1, .i .i64 p3.1, .i .i64 p4.1, .i .i64 p5.1, .i .i64 p6.1, .i .i64 p7.1, .i .i64 p8.1, .i .i64 p9.1, .i .i64 p10.1, .i .i64 p11])))])
noncomputable def A88x0x27 (L : List Lf) : List (Bool × (Ex × St)) := bnd (Q88x0x27 N L N (pk sh88x0x27 [7, 35, 36, 37, 38, 39, 40, 41, 42, 43, 44, 45, 46] L)) fun q => [((inlB q), K88x0x27w0 L (inlV q)), ((inrQ q).isSome, K88x0x27w1 L ((inrQ q).getD default))]
theorem step88x0x27 (m : Nat) (kn : St → Option (Ex × St)) (L x : List Lf) : lpB Try.prog (T96x0 N) (h88x0s4 N).h 1 88 27 sh88x0x27 [7, 35, 36, 37, 38, 39, 40, 41, 42, 43, 44, 45, 46] [6, 7, 8, 9, 4, 11, 0] [7, 0, 9, 5] (m + 100) kn L x = J88x0x27 N L x (fun y => kn (ofSh sh88x0x27 (mx sh88x0x27 [7, 35, 36, 37, 38, 39, 40, 41, 42, 43, 44, 45, 46] L y))) (fun p => some (K88x0x27w0 L p)) (fun p => some (K88x0x27w1 L p)) := by kernel_rfl
noncomputable def h88x0s5 : Sg Try.prog 1 88 :=
  (h88x0s4 N).lp (A88x0x27 N) N progOk (T96x0_ok N) (fun m kn L x => (step88x0x27 N m kn L x).trans (sb88x0x27 N L x _ _ _)) (fun L m x => sb88x0x27 N L x (Q88x0x27 N L m) (fun p => some (.inl p)) (fun p => some (.inr p))) fun L x hx => (altS alt1) x hx
noncomputable def F88x0x53 (N : Nat) (w0 : Int) (w2 : Bool) (w25 : Int) (k0 : Int → R) : R :=
  bif w2 then
    k0 (IntKind.wrap .i64 (w0 + 1))
  else
    k0 w25
noncomputable def V88x0x53 (w0 : Int) (w2 : Bool) (w25 : Int) : Int := F88x0x53 N w0 w2 w25 (fun p => p)
theorem tot88x0x53 (w0 : Int) (w2 : Bool) (w25 : Int) (k0 : Int → R) : F88x0x53 N w0 w2 w25 k0 = k0 (V88x0x53 N w0 w2 w25) := by
  unfold V88x0x53 F88x0x53
  repeat' (first | rfl | apply cond_k | (apply bnd_k; intro _))
noncomputable def sh88x0x53 : Sh := { tmps := [(0, .c (.p 0 0)), (4, .c (.p 5 0)), (6, .c (.p 7 0)), (9, .c (.i .i64)), (11, .c (.b)), (106, .c (.b))], mem := [(0, .box (.i .i64 :: .i .i64 :: .i .i64 :: .sl 66 :: .sl 68 :: rB 12 ([]))), (5, .box (rI 20 ([]))), (7, .box (rI 20 ([])))] }
noncomputable def K88x0x53w0 (L : List Lf) (p : Int) : Ex × St := (.normal, mg (ofSh sh88x0x53 L) [0, 4, 6, 11] [] [0, 5, 7] [(5, .box (.i .i64 (li L 22) :: .i .i64 (li L 23) :: .i .i64 (li L 24) :: .i .i64 p :: rL L 26 16 ([])))])
noncomputable def A88x0x53 (L : List Lf) : List (Bool × (Ex × St)) := bnd (F88x0x53 N (li L 0) (lb L 2) (li L 25) (fun p => p)) fun q => [(true, K88x0x53w0 L q)]
theorem raw88x0x53 (L : List Lf) : pc Try.prog (T96x0 N) (h88x0s5 N).h 1 100 88 53 sh88x0x53 L [11, 4, 0, 6] [7, 5, 0] = F88x0x53 N (li L 0) (lb L 2) (li L 25) (fun p => some (K88x0x53w0 L p)) := by kernel_rfl
noncomputable def h88x0s6 : Sg Try.prog 1 88 :=
  (h88x0s5 N).cut (A88x0x53 N) progOk (T96x0_ok N) fun L x hx => (raw88x0x53 N L).trans ((tot88x0x53 N ..).trans (alt0 _ _ hx))
noncomputable def F88x0x59 (N : Nat) (w0 : Bool) (w21 w22 w24 w25 w26 w27 : Int) (k0 : Int × Int × Int × Int × Int × Int → R) : R :=
  bif w0 then
    k0 (0, w21, 0, 0, 0, 0)
  else
    k0 (w21, w22, w24, w25, w26, w27)
noncomputable def V88x0x59 (w0 : Bool) (w21 w22 w24 w25 w26 w27 : Int) : Int × Int × Int × Int × Int × Int := F88x0x59 N w0 w21 w22 w24 w25 w26 w27 (fun p => p)
theorem tot88x0x59 (w0 : Bool) (w21 w22 w24 w25 w26 w27 : Int) (k0 : Int × Int × Int × Int × Int × Int → R) : F88x0x59 N w0 w21 w22 w24 w25 w26 w27 k0 = k0 (V88x0x59 N w0 w21 w22 w24 w25 w26 w27) := by
  unfold V88x0x59 F88x0x59
  repeat' (first | rfl | apply cond_k | (apply bnd_k; intro _))
noncomputable def J88x0x59 (L : List Lf) (k0 : Int × Int × Int × Int × Int × Int → R) : R := F88x0x59 N (lb L 0) (li L 21) (li L 22) (li L 24) (li L 25) (li L 26) (li L 27) k0
noncomputable def sh88x0x59 : Sh := { tmps := [(0, .c (.p 0 0)), (4, .c (.p 5 0)), (6, .c (.p 7 0)), (110, .c (.b))], mem := [(0, .box (.i .i64 :: .i .i64 :: .i .i64 :: .sl 66 :: .sl 68 :: rB 12 ([]))), (5, .box (rI 20 ([]))), (7, .box (rI 20 ([])))] }
noncomputable def K88x0x59w0 (L : List Lf) (p : Int × Int × Int × Int × Int × Int) : Ex × St := let p1 := p.2; let p2 := p1.2; let p3 := p2.2; let p4 := p3.2; let p5 := p4.2; (.normal, mg (ofSh sh88x0x59 L) [0, 4, 6] [] [0, 5, 7] [(5, .box (.i .i64 (li L 20) :: .i .i64 p.1 :: .i .i64 p1.1 :: .i .i64 (li L 23) :: .i .i64 p2.1 :: .i .i64 p3.1 :: .i .i64 p4.1 :: .i .i64 p5 :: rL L 28 12 ([])))])
noncomputable def A88x0x59 (L : List Lf) : List (Bool × (Ex × St)) := bnd (J88x0x59 N L (fun p => p)) fun q => [(true, K88x0x59w0 L q)]
theorem raw88x0x59 (L : List Lf) : pc Try.prog (T96x0 N) (h88x0s6 N).h 1 100 88 59 sh88x0x59 L [4, 0, 6] [7, 5, 0] = J88x0x59 N L (fun p => some (K88x0x59w0 L p)) := by kernel_rfl
noncomputable def h88x0s7 : Sg Try.prog 1 88 :=
  (h88x0s6 N).cut (A88x0x59 N) progOk (T96x0_ok N) fun L x hx => (raw88x0x59 N L).trans ((tot88x0x59 N ..).trans (alt0 _ _ hx))
noncomputable def F88x0 (v0 v1 v2 v3 v4 v5 v6 v7 v8 v9 v10 v11 v12 v13 v14 v15 v16 v17 v18 v19 v20 v21 v22 : Int) (v25 v27 : LD) (v28 v29 v30 v31 v32 v33 v34 v35 v36 v37 v38 v39 : Bool) (k0 : Ty1 → Option R) : Option R :=
  bnd (G70x0 N v25 v20) fun y0 =>
  bif y0.isSome then
    bnd (G88x0x17 N v20 (decide (v20 ≥ 0)) v4 v5 v6 v7) fun y1 =>
    bif y1.isSome then
      bnd (bif ((v0.tmod 7) == 6) then true else (v0 == (IntKind.wrap .i64 (v22 - 1)))) fun y2 =>
      bnd (G88x0x27 N v20 v0 ((v0.tmod 7) == 6) y2 v27 (v27.length : Int) v21 v25 v27 v28 v29 v30 v31 v32 v33 v34 v35 v36 v37 v38 v39 v0 (IntKind.wrap .i64 (v1 + (y0.getD default).2.1)) v2 v3 (y1.getD default).1 (y1.getD default).2.1 (y1.getD default).2.2.1 (y1.getD default).2.2.2 (y0.getD default).2.1 0 v8 v9 v10 v11 v12 v13 v14 v15 v16 v17 v18 v19) fun y3 =>
      bif (inlB y3) then
        k0 (0, 0, 0, 0, 0, 0, 0, 0, 0, 0, 0, 0, 0, 0, 0, 0, 0, 0, 0, 0, false)
      else
        bif (inrQ y3).isSome then
          bnd (V88x0x53 N v0 (y0.getD default).2.2.2.2 v3) fun y4 =>
          bnd (V88x0x59 N y2 (IntKind.wrap .i64 (v1 + (y0.getD default).2.1)) v2 (y1.getD default).1 (y1.getD default).2.1 (y1.getD default).2.2.1 (y1.getD default).2.2.2) fun y5 =>
          bnd (G96x0 N (IntKind.wrap .i64 (v0 + 1)) y5.1 y5.2.1 y4 y5.2.2.1 y5.2.2.2.1 y5.2.2.2.2.1 y5.2.2.2.2.2 ((inrQ y3).getD default).1 ((inrQ y3).getD default).2.1 ((inrQ y3).getD default).2.2.1 ((inrQ y3).getD default).2.2.2.1 ((inrQ y3).getD default).2.2.2.2.1 ((inrQ y3).getD default).2.2.2.2.2.1 ((inrQ y3).getD default).2.2.2.2.2.2.1 ((inrQ y3).getD default).2.2.2.2.2.2.2.1 ((inrQ y3).getD default).2.2.2.2.2.2.2.2.1 ((inrQ y3).getD default).2.2.2.2.2.2.2.2.2.1 ((inrQ y3).getD default).2.2.2.2.2.2.2.2.2.2.1 ((inrQ y3).getD default).2.2.2.2.2.2.2.2.2.2.2 v27 v28 v29 v30 v31 v32 v33 v34 v35 v36 v37 v38 v39) fun y6 =>
          bif y6.isSome then
            k0 ((IntKind.wrap .i64 (v0 + 1)), (y6.getD default).1, (y6.getD default).2.1, (y6.getD default).2.2.1, (y6.getD default).2.2.2.1, (y6.getD default).2.2.2.2.1, (y6.getD default).2.2.2.2.2.1, (y6.getD default).2.2.2.2.2.2.1, (y6.getD default).2.2.2.2.2.2.2.1, (y6.getD default).2.2.2.2.2.2.2.2.1, (y6.getD default).2.2.2.2.2.2.2.2.2.1, (y6.getD default).2.2.2.2.2.2.2.2.2.2.1, (y6.getD default).2.2.2.2.2.2.2.2.2.2.2.1, (y6.getD default).2.2.2.2.2.2.2.2.2.2.2.2.1, (y6.getD default).2.2.2.2.2.2.2.2.2.2.2.2.2.1, (y6.getD default).2.2.2.2.2.2.2.2.2.2.2.2.2.2.1, (y6.getD default).2.2.2.2.2.2.2.2.2.2.2.2.2.2.2.1, (y6.getD default).2.2.2.2.2.2.2.2.2.2.2.2.2.2.2.2.1, (y6.getD default).2.2.2.2.2.2.2.2.2.2.2.2.2.2.2.2.2.1, (y6.getD default).2.2.2.2.2.2.2.2.2.2.2.2.2.2.2.2.2.2, true)
          else
            none
        else
          none
    else
      none
  else
    none
noncomputable def G88x0 (v0 v1 v2 v3 v4 v5 v6 v7 v8 v9 v10 v11 v12 v13 v14 v15 v16 v17 v18 v19 v20 v21 v22 : Int) (v25 v27 : LD) (v28 v29 v30 v31 v32 v33 v34 v35 v36 v37 v38 v39 : Bool) : Option (Ty1) := F88x0 N v0 v1 v2 v3 v4 v5 v6 v7 v8 v9 v10 v11 v12 v13 v14 v15 v16 v17 v18 v19 v20 v21 v22 v25 v27 v28 v29 v30 v31 v32 v33 v34 v35 v36 v37 v38 v39 (fun p => some p)
theorem bind88x0 (v0 v1 v2 v3 v4 v5 v6 v7 v8 v9 v10 v11 v12 v13 v14 v15 v16 v17 v18 v19 v20 v21 v22 : Int) (v25 v27 : LD) (v28 v29 v30 v31 v32 v33 v34 v35 v36 v37 v38 v39 : Bool) (k0 : Ty1 → Option R) : F88x0 N v0 v1 v2 v3 v4 v5 v6 v7 v8 v9 v10 v11 v12 v13 v14 v15 v16 v17 v18 v19 v20 v21 v22 v25 v27 v28 v29 v30 v31 v32 v33 v34 v35 v36 v37 v38 v39 k0 = (G88x0 N v0 v1 v2 v3 v4 v5 v6 v7 v8 v9 v10 v11 v12 v13 v14 v15 v16 v17 v18 v19 v20 v21 v22 v25 v27 v28 v29 v30 v31 v32 v33 v34 v35 v36 v37 v38 v39).bind k0 := by
  unfold G88x0 F88x0
  repeat' (first | rfl | apply cond_b | (apply bnd_b; intro _))
noncomputable def J88x0 (L : List Lf) (k0 : Ty1 → Option R) : Option R := F88x0 N (li L 0) (li L 1) (li L 2) (li L 3) (li L 4) (li L 5) (li L 6) (li L 7) (li L 8) (li L 9) (li L 10) (li L 11) (li L 12) (li L 13) (li L 14) (li L 15) (li L 16) (li L 17) (li L 18) (li L 19) (li L 20) (li L 21) (li L 22) (ll L 25) (ll L 27) (lb L 28) (lb L 29) (lb L 30) (lb L 31) (lb L 32) (lb L 33) (lb L 34) (lb L 35) (lb L 36) (lb L 37) (lb L 38) (lb L 39) k0
noncomputable def sh88x0 : Sh := { tmps := [(0, .c (.p 0 0)), (1, .g (rI 20 ([]))), (2, .c (.i .i64))], mem := [(0, .box (.i .i64 :: .i .i64 :: .i .i64 :: .sl 66 :: .sl 68 :: rB 12 ([])))] }
noncomputable def K88x0w0 (L : List Lf) (p : Ty1) : Res := let p1 := p.2; let p2 := p1.2; let p3 := p2.2; let p4 := p3.2; let p5 := p4.2; let p6 := p5.2; let p7 := p6.2; let p8 := p7.2; let p9 := p8.2; let p10 := p9.2; let p11 := p10.2; let p12 := p11.2; let p13 := p12.2; let p14 := p13.2; let p15 := p14.2; let p16 := p15.2; let p17 := p16.2; let p18 := p17.2; let p19 := p18.2; let p20 := p19.2; ([.g [.i .i64 p.1, .i .i64 p1.1, .i .i64 p2.1, .i .i64 p3.1, .i .i64 p4.1, .i .i64 p5.1, .i .i64 p6.1, .i .i64 p7.1, .i .i64 p8.1, .i .i64 p9.1, .i .i64 p10.1, .i .i64 p11.1, .i .i64 p12.1, .i .i64 p13.1, .i .i64 p14.1, .i .i64 p15.1, .i .i64 p16.1, .i .i64 p17.1, .i .i64 p18.1, .i .i64 p19.1], .c (.b p20)], mgA (ofSh sh88x0 L).mem [] [0])
noncomputable def A88x0 (L : List Lf) : List (Bool × Res) := bnd (J88x0 N L (fun p => some p)) fun q => [(q.isSome, K88x0w0 L (q.getD default))]
theorem raw88x0 (L : List Lf) : bd Try.prog (T96x0 N) (h88x0s7 N).h 88 sh88x0 L = J88x0 N L (fun p => some (K88x0w0 L p)) := by kernel_rfl
theorem ok88x0 : FnOk Try.prog 88 sh88x0 (A88x0 N) :=
  (h88x0s7 N).fn progOk (T96x0_ok N) fun L x hx => ((raw88x0 N L).trans ((bind88x0 N ..).trans (alt1 x hx)))
noncomputable def T88x0 : Oracle := ext 88 (spSh sh88x0 (A88x0 N)) (T96x0 N)
theorem T88x0_ok : OracleOk Try.prog (T88x0 N) := FnOk.to (ok88x0 N) (T96x0_ok N)
noncomputable def rg69x0 : List (Nat × List Nat) := [(0, [0, 1, 2]), (1, [3, 1, 2]), (2, [3, 1, 7, 2]), (3, [18, 17, 1, 7, 2]), (4, [18, 1, 7, 17, 2]), (5, [8, 1, 7, 18, 17, 2]), (6, [18, 17, 1, 7, 2]), (7, [7, 2]), (8, [2, 9, 7]), (9, [31, 30, 29, 9, 7]), (10, [29, 31, 9, 7, 30]), (11, [9, 12, 7, 31, 30, 29]), (12, [10, 31, 30, 29, 9, 7]), (13, []), (14, [31, 30, 29, 9, 7]), (15, [])]
noncomputable def hd69x0 : Hints := [(9, [18, 17, 1, 7, 2], [7], []), (27, [31, 30, 29, 9, 7], [9, 7], [])]
noncomputable def h69x0s0 (N : Nat) : Sg Try.prog 0 69 := .start hd69x0 rg69x0
noncomputable def S69x0x9 (N : Nat) (w0 w3 : Int) (w4 : Int) (w12 w13 w14 w15 w16 w17 w18 w19 w20 w21 w22 w23 : Bool) (kr : Int → Bool → Bool → Bool → Bool → Bool → Bool → Bool → Bool → Bool → Bool → Bool → Bool → Option R) (k0 : Ty3 → Option R) : Option R :=
  bif (decide (w4 < w3)) then
    bif (inB w4 12) then
      kr (IntKind.wrap .i64 (w4 + 1)) (bif (Nat.beq w4.toNat 0) then (w4 != w0) else w12) (bif (Nat.beq w4.toNat 1) then (w4 != w0) else w13) (bif (Nat.beq w4.toNat 2) then (w4 != w0) else w14) (bif (Nat.beq w4.toNat 3) then (w4 != w0) else w15) (bif (Nat.beq w4.toNat 4) then (w4 != w0) else w16) (bif (Nat.beq w4.toNat 5) then (w4 != w0) else w17) (bif (Nat.beq w4.toNat 6) then (w4 != w0) else w18) (bif (Nat.beq w4.toNat 7) then (w4 != w0) else w19) (bif (Nat.beq w4.toNat 8) then (w4 != w0) else w20) (bif (Nat.beq w4.toNat 9) then (w4 != w0) else w21) (bif (Nat.beq w4.toNat 10) then (w4 != w0) else w22) (bif (Nat.beq w4.toNat 11) then (w4 != w0) else w23)
    else
      none
  else
    k0 (w12, w13, w14, w15, w16, w17, w18, w19, w20, w21, w22, w23)
noncomputable def L69x0x9 (N : Nat) {R : Type} (w0 w3 : Int) : Nat → Int → Bool → Bool → Bool → Bool → Bool → Bool → Bool → Bool → Bool → Bool → Bool → Bool → (Ty3 → Option R) → Option R
  | 0, _, _, _, _, _, _, _, _, _, _, _, _, _, _ => none
  | m + 1, w4, w12, w13, w14, w15, w16, w17, w18, w19, w20, w21, w22, w23, k0 => S69x0x9 N w0 w3 w4 w12 w13 w14 w15 w16 w17 w18 w19 w20 w21 w22 w23 (fun w4 w12 w13 w14 w15 w16 w17 w18 w19 w20 w21 w22 w23 => L69x0x9 N w0 w3 m w4 w12 w13 w14 w15 w16 w17 w18 w19 w20 w21 w22 w23 k0) k0
noncomputable def G69x0x9 (w0 w3 : Int) (w4 : Int) (w12 w13 w14 w15 w16 w17 w18 w19 w20 w21 w22 w23 : Bool) : Option (Ty3) := L69x0x9 N (R := (Ty3)) w0 w3 N w4 w12 w13 w14 w15 w16 w17 w18 w19 w20 w21 w22 w23 (fun p => some p)
noncomputable def J69x0x9 (L x : List Lf) (kr : List Lf → Option R) (k0 : Ty3 → Option R) : Option R := S69x0x9 N (li L 0) (li L 3) (li x 0) (lb x 1) (lb x 2) (lb x 3) (lb x 4) (lb x 5) (lb x 6) (lb x 7) (lb x 8) (lb x 9) (lb x 10) (lb x 11) (lb x 12) (fun w4 w12 w13 w14 w15 w16 w17 w18 w19 w20 w21 w22 w23 => kr [.i w4, .b w12, .b w13, .b w14, .b w15, .b w16, .b w17, .b w18, .b w19, .b w20, .b w21, .b w22, .b w23]) k0
theorem sb69x0x9 (L x : List Lf) (kr : List Lf → Option R) (k0 : Ty3 → Option R) : J69x0x9 N L x kr k0 = (J69x0x9 N L x (fun y => some (.inl y)) (fun p => some (.inr p))).bind (sumE kr k0) := by
  unfold J69x0x9 S69x0x9
  repeat' (first | rfl | apply cond_b | (apply bnd_b; intro _))
noncomputable def Q69x0x9 (L : List Lf) (m : Nat) (x : List Lf) : Option (Ty3) := L69x0x9 N (R := (Ty3)) (li L 0) (li L 3) m (li x 0) (lb x 1) (lb x 2) (lb x 3) (lb x 4) (lb x 5) (lb x 6) (lb x 7) (lb x 8) (lb x 9) (lb x 10) (lb x 11) (lb x 12) (fun p => some p)
noncomputable def sh69x0x9 : Sh := { tmps := [(1, .c (.i .i64)), (2, .c (.sl 3)), (7, .c (.p 7 0)), (17, .c (.i .i64)), (18, .c (.i .i64))], mem := [(7, .box (.i .i64 :: .i .i64 :: .i .i64 :: .sl 66 :: .sl 68 :: rB 12 ([])))] }
noncomputable def K69x0x9w0 (L : List Lf) (p : Ty3) : Ex × St := let p1 := p.2; let p2 := p1.2; let p3 := p2.2; let p4 := p3.2; let p5 := p4.2; let p6 := p5.2; let p7 := p6.2; let p8 := p7.2; let p9 := p8.2; let p10 := p9.2; let p11 := p10.2; ((.exit 0), mg (ofSh sh69x0x9 L) [2, 7] [] [7] [(7, .box [.i .i64 (li L 5), .i .i64 (li L 6), .i .i64 (li L 7), .sl 66 (lb L 8) (ll L 9), .sl 68 (lb L 10) (ll L 11), .b p.1, .b p1.1, .b p2.1, .b p3.1, .b p4.1, .b p5.1, .b p6.1, .b p7.1, .b p8.1, .b p9.1, .b p10.1, .b p11])])
noncomputable def A69x0x9 (L : List Lf) : List (Bool × (Ex × St)) := bnd (Q69x0x9 N L N (pk sh69x0x9 [4, 12, 13, 14, 15, 16, 17, 18, 19, 20, 21, 22, 23] L)) fun q => [(q.isSome, K69x0x9w0 L (q.getD default))]
theorem step69x0x9 (m : Nat) (kn : St → Option (Ex × St)) (L x : List Lf) : lpB Try.prog (T88x0 N) (h69x0s0 N).h 0 69 9 sh69x0x9 [4, 12, 13, 14, 15, 16, 17, 18, 19, 20, 21, 22, 23] [6, 7, 2] [7] (m + 100) kn L x = J69x0x9 N L x (fun y => kn (ofSh sh69x0x9 (mx sh69x0x9 [4, 12, 13, 14, 15, 16, 17, 18, 19, 20, 21, 22, 23] L y))) (fun p => some (K69x0x9w0 L p)) := by kernel_rfl
noncomputable def h69x0s1 : Sg Try.prog 0 69 :=
  (h69x0s0 N).lp (A69x0x9 N) N progOk (T88x0_ok N) (fun m kn L x => (step69x0x9 N m kn L x).trans (sb69x0x9 N L x _ _)) (fun L m x => sb69x0x9 N L x (Q69x0x9 N L m) some) fun L x hx => alt1 x hx
noncomputable def S69x0x27 (w1 : LD) (w2 w4 w5 : Int) (w8 w10 : LD) (w11 w12 w13 w14 w15 w16 w17 w18 w19 w20 w21 w22 : Bool) (w3 w23 w24 w25 w26 w27 w28 w29 w30 w31 w32 w33 w34 w35 w36 w37 w38 w39 w40 w41 w42 : Int) (kr : Int → Int → Int → Int → Int → Int → Int → Int → Int → Int → Int → Int → Int → Int → Int → Int → Int → Int → Int → Int → Int → Option R) (k0 : Unit → Option R) (k1 : Unit → Option R) : Option R :=
  bif (decide (w3 < w2)) then
    bif (inB w3 w1.length) then
      bnd (G88x0 N w23 w24 w25 w26 w27 w28 w29 w30 w31 w32 w33 w34 w35 w36 w37 w38 w39 w40 w41 w42 (w1.getD w3.toNat (.i 0)).toI w4 w5 w8 w10 w11 w12 w13 w14 w15 w16 w17 w18 w19 w20 w21 w22) fun y0 =>
      bif y0.isSome then
        bnd (y0.getD default).2.2.2.2.2.2.2.2.2.2.2.2.2.2.2.2.2.2.1 fun y1 =>
        bnd (y0.getD default).2.2.2.2.2.2.2.2.2.2.2.2.2.2.2.2.2.2.2.1 fun y2 =>
        bnd (y0.getD default).2.2.2.2.2.2.2.2.2.2.2.2.2.2.2.2.2.2.2.2 fun y3 =>
        bif (!y3) then
          k0 ()
        else
          kr (IntKind.wrap .i64 (w3 + 1)) (y0.getD default).1 (y0.getD default).2.1 (y0.getD default).2.2.1 (y0.getD default).2.2.2.1 (y0.getD default).2.2.2.2.1 (y0.getD default).2.2.2.2.2.1 (y0.getD default).2.2.2.2.2.2.1 (y0.getD default).2.2.2.2.2.2.2.1 (y0.getD default).2.2.2.2.2.2.2.2.1 (y0.getD default).2.2.2.2.2.2.2.2.2.1 (y0.getD default).2.2.2.2.2.2.2.2.2.2.1 (y0.getD default).2.2.2.2.2.2.2.2.2.2.2.1 (y0.getD default).2.2.2.2.2.2.2.2.2.2.2.2.1 (y0.getD default).2.2.2.2.2.2.2.2.2.2.2.2.2.1 (y0.getD default).2.2.2.2.2.2.2.2.2.2.2.2.2.2.1 (y0.getD default).2.2.2.2.2.2.2.2.2.2.2.2.2.2.2.1 (y0.getD default).2.2.2.2.2.2.2.2.2.2.2.2.2.2.2.2.1 (y0.getD default).2.2.2.2.2.2.2.2.2.2.2.2.2.2.2.2.2.1 y1 y2
      else
        none
    else
      none
  else
    k1 ()
noncomputable def L69x0x27 (N : Nat) {R : Type} (w1 : LD) (w2 w4 w5 : Int) (w8 w10 : LD) (w11 w12 w13 w14 w15 w16 w17 w18 w19 w20 w21 w22 : Bool) : Nat → Int → Int → Int → Int → Int → Int → Int → Int → Int → Int → Int → Int → Int → Int → Int → Int → Int → Int → Int → Int → Int → (Unit → Option R) → (Unit → Option R) → Option R
  | 0, _, _, _, _, _, _, _, _, _, _, _, _, _, _, _, _, _, _, _, _, _, _, _ => none
  | m + 1, w3, w23, w24, w25, w26, w27, w28, w29, w30, w31, w32, w33, w34, w35, w36, w37, w38, w39, w40, w41, w42, k0, k1 => S69x0x27 N w1 w2 w4 w5 w8 w10 w11 w12 w13 w14 w15 w16 w17 w18 w19 w20 w21 w22 w3 w23 w24 w25 w26 w27 w28 w29 w30 w31 w32 w33 w34 w35 w36 w37 w38 w39 w40 w41 w42 (fun w3 w23 w24 w25 w26 w27 w28 w29 w30 w31 w32 w33 w34 w35 w36 w37 w38 w39 w40 w41 w42 => L69x0x27 N w1 w2 w4 w5 w8 w10 w11 w12 w13 w14 w15 w16 w17 w18 w19 w20 w21 w22 m w3 w23 w24 w25 w26 w27 w28 w29 w30 w31 w32 w33 w34 w35 w36 w37 w38 w39 w40 w41 w42 k0 k1) k0 k1
noncomputable def G69x0x27 (w1 : LD) (w2 w4 w5 : Int) (w8 w10 : LD) (w11 w12 w13 w14 w15 w16 w17 w18 w19 w20 w21 w22 : Bool) (w3 w23 w24 w25 w26 w27 w28 w29 w30 w31 w32 w33 w34 w35 w36 w37 w38 w39 w40 w41 w42 : Int) : Option (Sum (Unit) (Unit)) := L69x0x27 N (R := (Sum (Unit) (Unit))) w1 w2 w4 w5 w8 w10 w11 w12 w13 w14 w15 w16 w17 w18 w19 w20 w21 w22 N w3 w23 w24 w25 w26 w27 w28 w29 w30 w31 w32 w33 w34 w35 w36 w37 w38 w39 w40 w41 w42 (fun p => some (.inl p)) (fun p => some (.inr p))
noncomputable def J69x0x27 (L x : List Lf) (kr : List Lf → Option R) (k0 : Unit → Option R) (k1 : Unit → Option R) : Option R := S69x0x27 N (ll L 1) (li L 2) (li L 4) (li L 5) (ll L 8) (ll L 10) (lb L 11) (lb L 12) (lb L 13) (lb L 14) (lb L 15) (lb L 16) (lb L 17) (lb L 18) (lb L 19) (lb L 20) (lb L 21) (lb L 22) (li x 0) (li x 1) (li x 2) (li x 3) (li x 4) (li x 5) (li x 6) (li x 7) (li x 8) (li x 9) (li x 10) (li x 11) (li x 12) (li x 13) (li x 14) (li x 15) (li x 16) (li x 17) (li x 18) (li x 19) (li x 20) (fun w3 w23 w24 w25 w26 w27 w28 w29 w30 w31 w32 w33 w34 w35 w36 w37 w38 w39 w40 w41 w42 => kr [.i w3, .i w23, .i w24, .i w25, .i w26, .i w27, .i w28, .i w29, .i w30, .i w31, .i w32, .i w33, .i w34, .i w35, .i w36, .i w37, .i w38, .i w39, .i w40, .i w41, .i w42]) k0 k1
theorem sb69x0x27 (L x : List Lf) (kr : List Lf → Option R) (k0 : Unit → Option R) (k1 : Unit → Option R) : J69x0x27 N L x kr k0 k1 = (J69x0x27 N L x (fun y => some (.inl y)) (fun p => some (.inr (.inl p))) (fun p => some (.inr (.inr p)))).bind (sumE kr (sumE k0 k1)) := by
  unfold J69x0x27 S69x0x27
  repeat' (first | rfl | apply cond_b | (apply bnd_b; intro _))
noncomputable def Q69x0x27 (L : List Lf) (m : Nat) (x : List Lf) : Option (Sum (Unit) (Unit)) := L69x0x27 N (R := (Sum (Unit) (Unit))) (ll L 1) (li L 2) (li L 4) (li L 5) (ll L 8) (ll L 10) (lb L 11) (lb L 12) (lb L 13) (lb L 14) (lb L 15) (lb L 16) (lb L 17) (lb L 18) (lb L 19) (lb L 20) (lb L 21) (lb L 22) m (li x 0) (li x 1) (li x 2) (li x 3) (li x 4) (li x 5) (li x 6) (li x 7) (li x 8) (li x 9) (li x 10) (li x 11) (li x 12) (li x 13) (li x 14) (li x 15) (li x 16) (li x 17) (li x 18) (li x 19) (li x 20) (fun p => some (.inl p)) (fun p => some (.inr p))
noncomputable def sh69x0x27 : Sh := { tmps := [(7, .c (.p 7 0)), (9, .c (.p 9 0)), (29, .c (.sl 3)), (30, .c (.i .i64)), (31, .c (.i .i64))], mem := [(7, .box (.i .i64 :: .i .i64 :: .i .i64 :: .sl 66 :: .sl 68 :: rB 12 ([]))), (9, .box (rI 20 ([])))] }
noncomputable def A69x0x27 (L : List Lf) : List (Bool × (Ex × St)) := bnd (Q69x0x27 N L N (pk sh69x0x27 [3, 23, 24, 25, 26, 27, 28, 29, 30, 31, 32, 33, 34, 35, 36, 37, 38, 39, 40, 41, 42] L)) fun q => [((inlB q), (.ret, ⟨[(6, .c (.b false))], []⟩)), ((inrQ q).isSome, ((.exit 2), ⟨[], []⟩))]
theorem step69x0x27 (m : Nat) (kn : St → Option (Ex × St)) (L x : List Lf) : lpB Try.prog (T88x0 N) (h69x0s1 N).h 0 69 27 sh69x0x27 [3, 23, 24, 25, 26, 27, 28, 29, 30, 31, 32, 33, 34, 35, 36, 37, 38, 39, 40, 41, 42] [6] [] (m + 100) kn L x = J69x0x27 N L x (fun y => kn (ofSh sh69x0x27 (mx sh69x0x27 [3, 23, 24, 25, 26, 27, 28, 29, 30, 31, 32, 33, 34, 35, 36, 37, 38, 39, 40, 41, 42] L y))) (fun _ => some (.ret, ⟨[(6, .c (.b false))], []⟩)) (fun _ => some ((.exit 2), ⟨[], []⟩)) := by kernel_rfl
noncomputable def h69x0s2 : Sg Try.prog 0 69 :=
  (h69x0s1 N).lp (A69x0x27 N) N progOk (T88x0_ok N) (fun m kn L x => (step69x0x27 N m kn L x).trans (sb69x0x27 N L x _ _ _)) (fun L m x => sb69x0x27 N L x (Q69x0x27 N L m) (fun p => some (.inl p)) (fun p => some (.inr p))) fun L x hx => (altS alt1) x hx
noncomputable def F69x0 (v0 v1 v2 : Int) (v4 v6 : LD) (v7 : Int) (v9 : LD) (k0 : Bool → Option R) : Option R :=
  bnd (G69x0x9 N v7 (v6.length : Int) 0 false false false false false false false false false false false false) fun y0 =>
  bif y0.isSome then
    bnd (G69x0x27 N v9 (v9.length : Int) v0 v1 v4 v6 (y0.getD default).1 (y0.getD default).2.1 (y0.getD default).2.2.1 (y0.getD default).2.2.2.1 (y0.getD default).2.2.2.2.1 (y0.getD default).2.2.2.2.2.1 (y0.getD default).2.2.2.2.2.2.1 (y0.getD default).2.2.2.2.2.2.2.1 (y0.getD default).2.2.2.2.2.2.2.2.1 (y0.getD default).2.2.2.2.2.2.2.2.2.1 (y0.getD default).2.2.2.2.2.2.2.2.2.2.1 (y0.getD default).2.2.2.2.2.2.2.2.2.2.2 0 0 0 v2 0 0 0 0 0 0 0 0 0 0 0 0 0 0 0 0 0) fun y1 =>
    bif (inlB y1) then
      k0 false
    else
      bif (inrQ y1).isSome then
        k0 true
      else
        none
  else
    none
noncomputable def G69x0 (v0 v1 v2 : Int) (v4 v6 : LD) (v7 : Int) (v9 : LD) : Option (Bool) := F69x0 N v0 v1 v2 v4 v6 v7 v9 (fun p => some p)
theorem bind69x0 (v0 v1 v2 : Int) (v4 v6 : LD) (v7 : Int) (v9 : LD) (k0 : Bool → Option R) : F69x0 N v0 v1 v2 v4 v6 v7 v9 k0 = (G69x0 N v0 v1 v2 v4 v6 v7 v9).bind k0 := by
  unfold G69x0 F69x0
  repeat' (first | rfl | apply cond_b | (apply bnd_b; intro _))
noncomputable def J69x0 (L : List Lf) (k0 : Bool → Option R) : Option R := F69x0 N (li L 0) (li L 1) (li L 2) (ll L 4) (ll L 6) (li L 7) (ll L 9) k0
noncomputable def sh69x0 : Sh := { tmps := [(0, .g ([.i .i64, .i .i64, .i .i64, .sl 66, .sl 68])), (1, .c (.i .i64)), (2, .c (.sl 3))], mem := [] }
noncomputable def A69x0 (L : List Lf) : List (Bool × Res) := bnd (J69x0 N L (fun p => some p)) fun q => [(q.isSome, ([.c (.b (q.getD default))], []))]
theorem raw69x0 (L : List Lf) : bd Try.prog (T88x0 N) (h69x0s2 N).h 69 sh69x0 L = J69x0 N L (fun p => some ([.c (.b p)], [])) := by kernel_rfl
theorem ok69x0 : FnOk Try.prog 69 sh69x0 (A69x0 N) :=
  (h69x0s2 N).fn progOk (T88x0_ok N) fun L x hx => ((raw69x0 N L).trans ((bind69x0 N ..).trans (alt1 x hx)))
noncomputable def T69x0 : Oracle := ext 69 (spSh sh69x0 (A69x0 N)) (T88x0 N)
theorem T69x0_ok : OracleOk Try.prog (T69x0 N) := FnOk.to (ok69x0 N) (T88x0_ok N)
noncomputable def rg35x0 : List (Nat × List Nat) := [(0, [0, 2, 1]), (1, [3, 2, 1]), (2, [8, 1, 3, 2]), (3, [8]), (4, [1, 3, 2]), (5, []), (6, [3, 1, 2])]
noncomputable def hd35x0 : Hints := []
noncomputable def h35x0s0 (N : Nat) : Sg Try.prog 0 35 := .start hd35x0 rg35x0
noncomputable def F35x0 (v0 v1 v2 : Int) (v4 v6 : LD) (v7 : Int) (v9 : LD) (k0 : Bool × Int → Option R) : Option R :=
  bnd (G57x0 N v0 v1 v2 v4 v6 v9) fun y0 =>
  bif y0.isSome then
    bif ((y0.getD default) != 0) then
      k0 (false, (y0.getD default))
    else
      bnd (V48x0 N v7 0 (IntKind.wrap .i64 ((v6.length : Int) - 1))) fun y1 =>
      bif (!y1) then
        k0 (false, 4)
      else
        bnd (G69x0 N v0 v1 v2 v4 v6 v7 v9) fun y2 =>
        bif y2.isSome then
          k0 ((y2.getD default), 0)
        else
          none
  else
    none
noncomputable def G35x0 (v0 v1 v2 : Int) (v4 v6 : LD) (v7 : Int) (v9 : LD) : Option (Bool × Int) := F35x0 N v0 v1 v2 v4 v6 v7 v9 (fun p => some p)
theorem bind35x0 (v0 v1 v2 : Int) (v4 v6 : LD) (v7 : Int) (v9 : LD) (k0 : Bool × Int → Option R) : F35x0 N v0 v1 v2 v4 v6 v7 v9 k0 = (G35x0 N v0 v1 v2 v4 v6 v7 v9).bind k0 := by
  unfold G35x0 F35x0
  repeat' (first | rfl | apply cond_b | (apply bnd_b; intro _))
noncomputable def J35x0 (L : List Lf) (k0 : Bool × Int → Option R) : Option R := F35x0 N (li L 0) (li L 1) (li L 2) (ll L 4) (ll L 6) (li L 7) (ll L 9) k0
noncomputable def sh35x0 : Sh := { tmps := [(0, .g ([.i .i64, .i .i64, .i .i64, .sl 66, .sl 68])), (1, .c (.i .i64)), (2, .c (.sl 3))], mem := [] }
noncomputable def A35x0 (L : List Lf) : List (Bool × Res) := bnd (J35x0 N L (fun p => some p)) fun q => [(q.isSome, ([.c (.b (q.getD default).1), .c (.i .i64 (q.getD default).2)], []))]
theorem raw35x0 (L : List Lf) : bd Try.prog (T69x0 N) (h35x0s0 N).h 35 sh35x0 L = J35x0 N L (fun p => some ([.c (.b p.1), .c (.i .i64 p.2)], [])) := by kernel_rfl
theorem ok35x0 : FnOk Try.prog 35 sh35x0 (A35x0 N) :=
  (h35x0s0 N).fn progOk (T69x0_ok N) fun L x hx => ((raw35x0 N L).trans ((bind35x0 N ..).trans (alt1 x hx)))
noncomputable def T35x0 : Oracle := ext 35 (spSh sh35x0 (A35x0 N)) (T69x0 N)
theorem T35x0_ok : OracleOk Try.prog (T35x0 N) := FnOk.to (ok35x0 N) (T69x0_ok N)
noncomputable def rg50x0 : List (Nat × List Nat) := [(0, [0, 1, 2]), (1, [0, 1, 2])]
noncomputable def hd50x0 : Hints := []
noncomputable def h50x0s0 (N : Nat) : Sg Try.prog 0 50 := .start hd50x0 rg50x0
noncomputable def F50x0 (N : Nat) (v0 v1 v2 : Int) (k0 : Bool → R) : R :=
  k0 (bif (decide (v0 < v1)) then true else (decide (v0 > v2)))
noncomputable def V50x0 (v0 v1 v2 : Int) : Bool := F50x0 N v0 v1 v2 (fun p => p)
theorem tot50x0 (v0 v1 v2 : Int) (k0 : Bool → R) : F50x0 N v0 v1 v2 k0 = k0 (V50x0 N v0 v1 v2) := by
  unfold V50x0 F50x0
  repeat' (first | rfl | apply cond_k | (apply bnd_k; intro _))
noncomputable def sh50x0 : Sh := { tmps := [(0, .c (.i .i64)), (1, .c (.i .i64)), (2, .c (.i .i64))], mem := [] }
noncomputable def A50x0 (L : List Lf) : List (Bool × Res) := bnd (F50x0 N (li L 0) (li L 1) (li L 2) (fun p => p)) fun q => [(true, ([.c (.b q)], []))]
theorem raw50x0 (L : List Lf) : bd Try.prog (T35x0 N) (h50x0s0 N).h 50 sh50x0 L = F50x0 N (li L 0) (li L 1) (li L 2) (fun p => some ([.c (.b p)], [])) := by kernel_rfl
theorem ok50x0 : FnOk Try.prog 50 sh50x0 (A50x0 N) :=
  (h50x0s0 N).fn progOk (T35x0_ok N) fun L x hx => ((raw50x0 N L).trans ((tot50x0 N ..).trans (alt0 _ _ hx)))
noncomputable def T50x0 : Oracle := ext 50 (spSh sh50x0 (A50x0 N)) (T35x0 N)
theorem T50x0_ok : OracleOk Try.prog (T50x0 N) := FnOk.to (ok50x0 N) (T35x0_ok N)
noncomputable def rg54x0 : List (Nat × List Nat) := [(0, [0]), (1, [0]), (2, [3, 0]), (4, [0, 3]), (5, [4, 3, 0]), (6, []), (3, [3, 0]), (7, [0])]
noncomputable def hd54x0 : Hints := [(6, [3, 0], [], [])]
noncomputable def h54x0s0 (N : Nat) : Sg Try.prog 0 54 := .start hd54x0 rg54x0
noncomputable def S54x0x6 (N : Nat) (w0 : LB) (w1 : Int) (kr : Int → Option R) (k0 : Unit → Option R) (k1 : Unit → Option R) : Option R :=
  bif (decide (w1 < (w0.length : Int))) then
    bif (inB w1 w0.length) then
      bnd (bif (decide (((w0.getD w1.toNat 0).toNat : Int) ≥ 97)) then (decide (((w0.getD w1.toNat 0).toNat : Int) ≤ 122)) else false) fun y0 =>
      bnd (bif y0 then true else (bif (decide (((w0.getD w1.toNat 0).toNat : Int) ≥ 65)) then (decide (((w0.getD w1.toNat 0).toNat : Int) ≤ 90)) else false)) fun y1 =>
      bnd (bif y1 then true else (bif (decide (((w0.getD w1.toNat 0).toNat : Int) ≥ 48)) then (decide (((w0.getD w1.toNat 0).toNat : Int) ≤ 57)) else false)) fun y2 =>
      bnd (bif y2 then true else (((w0.getD w1.toNat 0).toNat : Int) == 45)) fun y3 =>
      bnd (bif y3 then true else (((w0.getD w1.toNat 0).toNat : Int) == 95)) fun y4 =>
      bnd (bif y4 then true else (((w0.getD w1.toNat 0).toNat : Int) == 46)) fun y5 =>
      bif (!y5) then
        k0 ()
      else
        kr (IntKind.wrap .i64 (w1 + 1))
    else
      none
  else
    k1 ()
noncomputable def L54x0x6 (N : Nat) {R : Type} (w0 : LB) : Nat → Int → (Unit → Option R) → (Unit → Option R) → Option R
  | 0, _, _, _ => none
  | m + 1, w1, k0, k1 => S54x0x6 N w0 w1 (fun w1 => L54x0x6 N w0 m w1 k0 k1) k0 k1
noncomputable def G54x0x6 (w0 : LB) (w1 : Int) : Option (Sum (Unit) (Unit)) := L54x0x6 N (R := (Sum (Unit) (Unit))) w0 N w1 (fun p => some (.inl p)) (fun p => some (.inr p))
noncomputable def J54x0x6 (L x : List Lf) (kr : List Lf → Option R) (k0 : Unit → Option R) (k1 : Unit → Option R) : Option R := S54x0x6 N (ls L 0) (li x 0) (fun w1 => kr [.i w1]) k0 k1
theorem sb54x0x6 (L x : List Lf) (kr : List Lf → Option R) (k0 : Unit → Option R) (k1 : Unit → Option R) : J54x0x6 N L x kr k0 k1 = (J54x0x6 N L x (fun y => some (.inl y)) (fun p => some (.inr (.inl p))) (fun p => some (.inr (.inr p)))).bind (sumE kr (sumE k0 k1)) := by
  unfold J54x0x6 S54x0x6
  repeat' (first | rfl | apply cond_b | (apply bnd_b; intro _))
noncomputable def Q54x0x6 (L : List Lf) (m : Nat) (x : List Lf) : Option (Sum (Unit) (Unit)) := L54x0x6 N (R := (Sum (Unit) (Unit))) (ls L 0) m (li x 0) (fun p => some (.inl p)) (fun p => some (.inr p))
noncomputable def sh54x0x6 : Sh := { tmps := [(0, .c (.s)), (3, .c (.i .i64))], mem := [] }
noncomputable def A54x0x6 (L : List Lf) : List (Bool × (Ex × St)) := bnd (Q54x0x6 N L N (pk sh54x0x6 [1] L)) fun q => [((inlB q), (.ret, ⟨[(2, .c (.b false))], []⟩)), ((inrQ q).isSome, ((.exit 0), ⟨[(0, .c (.s (ls L 0)))], []⟩))]
theorem step54x0x6 (m : Nat) (kn : St → Option (Ex × St)) (L x : List Lf) : lpB Try.prog (T50x0 N) (h54x0s0 N).h 0 54 6 sh54x0x6 [1] [2, 0] [] (m + 100) kn L x = J54x0x6 N L x (fun y => kn (ofSh sh54x0x6 (mx sh54x0x6 [1] L y))) (fun _ => some (.ret, ⟨[(2, .c (.b false))], []⟩)) (fun _ => some ((.exit 0), ⟨[(0, .c (.s (ls L 0)))], []⟩)) := by kernel_rfl
noncomputable def h54x0s1 : Sg Try.prog 0 54 :=
  (h54x0s0 N).lp (A54x0x6 N) N progOk (T50x0_ok N) (fun m kn L x => (step54x0x6 N m kn L x).trans (sb54x0x6 N L x _ _ _)) (fun L m x => sb54x0x6 N L x (Q54x0x6 N L m) (fun p => some (.inl p)) (fun p => some (.inr p))) fun L x hx => (altS alt1) x hx
noncomputable def F54x0 (v0 : LB) (k0 : Bool → Option R) : Option R :=
  bnd (G54x0x6 N v0 0) fun y0 =>
  bif (inlB y0) then
    k0 false
  else
    bif (inrQ y0).isSome then
      bnd (bif (decide ((v0.length : Int) ≥ 1)) then (decide ((v0.length : Int) ≤ 60)) else false) fun y1 =>
      k0 y1
    else
      none
noncomputable def G54x0 (v0 : LB) : Option (Bool) := F54x0 N v0 (fun p => some p)
theorem bind54x0 (v0 : LB) (k0 : Bool → Option R) : F54x0 N v0 k0 = (G54x0 N v0).bind k0 := by
  unfold G54x0 F54x0
  repeat' (first | rfl | apply cond_b | (apply bnd_b; intro _))
noncomputable def sh54x0 : Sh := { tmps := [(0, .c (.s))], mem := [] }
noncomputable def A54x0 (L : List Lf) : List (Bool × Res) := bnd (F54x0 N (ls L 0) (fun p => some p)) fun q => [(q.isSome, ([.c (.b (q.getD default))], []))]
theorem raw54x0 (L : List Lf) : bd Try.prog (T50x0 N) (h54x0s1 N).h 54 sh54x0 L = F54x0 N (ls L 0) (fun p => some ([.c (.b p)], [])) := by kernel_rfl
theorem ok54x0 : FnOk Try.prog 54 sh54x0 (A54x0 N) :=
  (h54x0s1 N).fn progOk (T50x0_ok N) fun L x hx => ((raw54x0 N L).trans ((bind54x0 N ..).trans (alt1 x hx)))
noncomputable def T54x0 : Oracle := ext 54 (spSh sh54x0 (A54x0 N)) (T50x0 N)
theorem T54x0_ok : OracleOk Try.prog (T54x0 N) := FnOk.to (ok54x0 N) (T50x0_ok N)
noncomputable def rg55x0 : List (Nat × List Nat) := [(0, [0, 1]), (1, [2, 1]), (2, [10, 9, 8, 1]), (3, [10, 8, 1, 9]), (4, [6, 1, 5, 10, 9, 8]), (5, [5]), (6, [10, 9, 8, 1]), (7, [])]
noncomputable def hd55x0 : Hints := [(6, [10, 9, 8, 1], [], [])]
noncomputable def h55x0s0 (N : Nat) : Sg Try.prog 0 55 := .start hd55x0 rg55x0
noncomputable def S55x0x6 (N : Nat) (w0 : LB) (w2 : LD) (w3 : Int) (w4 : Int) (kr : Int → Option R) (k0 : Int → Option R) (k1 : Unit → Option R) : Option R :=
  bif (decide (w4 < w3)) then
    bif (inB w4 w2.length) then
      bif (((w2.getD w4.toNat (.i 0)).cell 0).toS == w0) then
        k0 w4
      else
        kr (IntKind.wrap .i64 (w4 + 1))
    else
      none
  else
    k1 ()
noncomputable def L55x0x6 (N : Nat) {R : Type} (w0 : LB) (w2 : LD) (w3 : Int) : Nat → Int → (Int → Option R) → (Unit → Option R) → Option R
  | 0, _, _, _ => none
  | m + 1, w4, k0, k1 => S55x0x6 N w0 w2 w3 w4 (fun w4 => L55x0x6 N w0 w2 w3 m w4 k0 k1) k0 k1
noncomputable def G55x0x6 (w0 : LB) (w2 : LD) (w3 : Int) (w4 : Int) : Option (Sum (Int) (Unit)) := L55x0x6 N (R := (Sum (Int) (Unit))) w0 w2 w3 N w4 (fun p => some (.inl p)) (fun p => some (.inr p))
noncomputable def J55x0x6 (L x : List Lf) (kr : List Lf → Option R) (k0 : Int → Option R) (k1 : Unit → Option R) : Option R := S55x0x6 N (ls L 0) (ll L 2) (li L 3) (li x 0) (fun w4 => kr [.i w4]) k0 k1
theorem sb55x0x6 (L x : List Lf) (kr : List Lf → Option R) (k0 : Int → Option R) (k1 : Unit → Option R) : J55x0x6 N L x kr k0 k1 = (J55x0x6 N L x (fun y => some (.inl y)) (fun p => some (.inr (.inl p))) (fun p => some (.inr (.inr p)))).bind (sumE kr (sumE k0 k1)) := by
  unfold J55x0x6 S55x0x6
  repeat' (first | rfl | apply cond_b | (apply bnd_b; intro _))
noncomputable def Q55x0x6 (L : List Lf) (m : Nat) (x : List Lf) : Option (Sum (Int) (Unit)) := L55x0x6 N (R := (Sum (Int) (Unit))) (ls L 0) (ll L 2) (li L 3) m (li x 0) (fun p => some (.inl p)) (fun p => some (.inr p))
noncomputable def sh55x0x6 : Sh := { tmps := [(1, .c (.s)), (8, .c (.sl 66)), (9, .c (.i .i64)), (10, .c (.i .i64))], mem := [] }
noncomputable def A55x0x6 (L : List Lf) : List (Bool × (Ex × St)) := bnd (Q55x0x6 N L N (pk sh55x0x6 [4] L)) fun q => [((inlB q), (.ret, ⟨[(4, .c (.i .i64 (inlV q)))], []⟩)), ((inrQ q).isSome, ((.exit 0), ⟨[], []⟩))]
theorem step55x0x6 (m : Nat) (kn : St → Option (Ex × St)) (L x : List Lf) : lpB Try.prog (T54x0 N) (h55x0s0 N).h 0 55 6 sh55x0x6 [4] [4] [] (m + 100) kn L x = J55x0x6 N L x (fun y => kn (ofSh sh55x0x6 (mx sh55x0x6 [4] L y))) (fun p => some (.ret, ⟨[(4, .c (.i .i64 p))], []⟩)) (fun _ => some ((.exit 0), ⟨[], []⟩)) := by kernel_rfl
noncomputable def h55x0s1 : Sg Try.prog 0 55 :=
  (h55x0s0 N).lp (A55x0x6 N) N progOk (T54x0_ok N) (fun m kn L x => (step55x0x6 N m kn L x).trans (sb55x0x6 N L x _ _ _)) (fun L m x => sb55x0x6 N L x (Q55x0x6 N L m) (fun p => some (.inl p)) (fun p => some (.inr p))) fun L x hx => (altS alt1) x hx
noncomputable def F55x0 (v4 : LD) (v7 : LB) (k0 : Int → Option R) : Option R :=
  bnd (G55x0x6 N v7 v4 (v4.length : Int) 0) fun y0 =>
  bif (inlB y0) then
    k0 (inlV y0)
  else
    bif (inrQ y0).isSome then
      k0 (-1)
    else
      none
noncomputable def G55x0 (v4 : LD) (v7 : LB) : Option (Int) := F55x0 N v4 v7 (fun p => some p)
theorem bind55x0 (v4 : LD) (v7 : LB) (k0 : Int → Option R) : F55x0 N v4 v7 k0 = (G55x0 N v4 v7).bind k0 := by
  unfold G55x0 F55x0
  repeat' (first | rfl | apply cond_b | (apply bnd_b; intro _))
noncomputable def sh55x0 : Sh := { tmps := [(0, .g ([.i .i64, .i .i64, .i .i64, .sl 66, .sl 68])), (1, .c (.s))], mem := [] }
noncomputable def A55x0 (L : List Lf) : List (Bool × Res) := bnd (F55x0 N (ll L 4) (ls L 7) (fun p => some p)) fun q => [(q.isSome, ([.c (.i .i64 (q.getD default))], []))]
theorem raw55x0 (L : List Lf) : bd Try.prog (T54x0 N) (h55x0s1 N).h 55 sh55x0 L = F55x0 N (ll L 4) (ls L 7) (fun p => some ([.c (.i .i64 p)], [])) := by kernel_rfl
theorem ok55x0 : FnOk Try.prog 55 sh55x0 (A55x0 N) :=
  (h55x0s1 N).fn progOk (T54x0_ok N) fun L x hx => ((raw55x0 N L).trans ((bind55x0 N ..).trans (alt1 x hx)))
noncomputable def T55x0 : Oracle := ext 55 (spSh sh55x0 (A55x0 N)) (T54x0 N)
theorem T55x0_ok : OracleOk Try.prog (T55x0 N) := FnOk.to (ok55x0 N) (T54x0_ok N)
noncomputable def rg84x0 : List (Nat × List Nat) := [(0, [0]), (1, [1, 2]), (2, [1, 3, 2]), (4, [8, 1, 3, 2]), (6, [8, 1, 3, 2]), (8, [8, 1, 3, 2]), (9, [8, 1, 3, 2]), (10, [8, 1, 3, 2]), (11, [8, 1, 3, 2]), (13, [8, 1, 3, 2]), (15, [8, 1, 3, 2]), (3, [1, 3, 2]), (16, [1, 3, 2]), (14, [1, 3, 2]), (12, [1, 3, 2]), (7, [1, 3, 2]), (5, [1, 3, 2]), (17, [3, 2])]
noncomputable def hd84x0 : Hints := [(33002, [1, 3, 2, 8, 31], [3, 2, 1], []), (30002, [1, 3, 2, 8, 31], [3, 2, 1], []), (27002, [1, 3, 2, 8, 31], [3, 2, 1], []), (9050, [1, 3, 2, 50], [3, 2, 1], []), (45044, [1, 3, 2, 8, 39], [3, 2, 1], []), (39038, [1, 3, 2, 8, 31], [3, 2, 1], []), (24023, [1, 3, 2, 8, 23], [3, 2, 1], []), (18017, [1, 3, 2, 8, 18], [3, 2, 1], [])]
noncomputable def h84x0s0 (N : Nat) : Sg Try.prog 0 84 := .start hd84x0 rg84x0
noncomputable def F84x0x33002 (N : Nat) (w0 : Int) (w1 : Bool) (k0 : Bool → R) : R :=
  bif w1 then
    k0 true
  else
    k0 (w0 == 7)
noncomputable def V84x0x33002 (w0 : Int) (w1 : Bool) : Bool := F84x0x33002 N w0 w1 (fun p => p)
theorem tot84x0x33002 (w0 : Int) (w1 : Bool) (k0 : Bool → R) : F84x0x33002 N w0 w1 k0 = k0 (V84x0x33002 N w0 w1) := by
  unfold V84x0x33002 F84x0x33002
  repeat' (first | rfl | apply cond_k | (apply bnd_k; intro _))
noncomputable def sh84x0x33002 : Sh := { tmps := [(1, .c (.p 1 0)), (2, .c (.p 2 0)), (3, .c (.p 3 0)), (8, .c (.i .i64)), (31, .c (.b))], mem := [(1, .box (rI 5 ([.s]))), (2, .box (rI 5 ([.s]))), (3, .box (rI 5 ([.s])))] }
noncomputable def K84x0x33002w0 (L : List Lf) (p : Bool) : Ex × St := (.normal, mg (ofSh sh84x0x33002 L) [1, 2, 3, 8, 31] [(31, .c (.b p))] [1, 2, 3] [])
noncomputable def A84x0x33002 (L : List Lf) : List (Bool × (Ex × St)) := bnd (F84x0x33002 N (li L 0) (lb L 1) (fun p => p)) fun q => [(true, K84x0x33002w0 L q)]
theorem raw84x0x33002 (L : List Lf) : pc Try.prog (T55x0 N) (h84x0s0 N).h 0 100 84 33002 sh84x0x33002 L [1, 3, 2, 8, 31] [3, 2, 1] = F84x0x33002 N (li L 0) (lb L 1) (fun p => some (K84x0x33002w0 L p)) := by kernel_rfl
noncomputable def h84x0s1 : Sg Try.prog 0 84 :=
  (h84x0s0 N).cut (A84x0x33002 N) progOk (T55x0_ok N) fun L x hx => (raw84x0x33002 N L).trans ((tot84x0x33002 N ..).trans (alt0 _ _ hx))
noncomputable def F84x0x30002 (w0 : Int) (w1 : Bool) (k0 : Bool → R) : R :=
  bif w1 then
    k0 true
  else
    bnd (V84x0x33002 N w0 (w0 == 5)) fun y0 =>
    k0 y0
noncomputable def V84x0x30002 (w0 : Int) (w1 : Bool) : Bool := F84x0x30002 N w0 w1 (fun p => p)
theorem tot84x0x30002 (w0 : Int) (w1 : Bool) (k0 : Bool → R) : F84x0x30002 N w0 w1 k0 = k0 (V84x0x30002 N w0 w1) := by
  unfold V84x0x30002 F84x0x30002
  repeat' (first | rfl | apply cond_k | (apply bnd_k; intro _))
noncomputable def sh84x0x30002 : Sh := { tmps := [(1, .c (.p 1 0)), (2, .c (.p 2 0)), (3, .c (.p 3 0)), (8, .c (.i .i64)), (31, .c (.b))], mem := [(1, .box (rI 5 ([.s]))), (2, .box (rI 5 ([.s]))), (3, .box (rI 5 ([.s])))] }
noncomputable def K84x0x30002w0 (L : List Lf) (p : Bool) : Ex × St := (.normal, mg (ofSh sh84x0x30002 L) [1, 2, 3, 8, 31] [(31, .c (.b p))] [1, 2, 3] [])
noncomputable def A84x0x30002 (L : List Lf) : List (Bool × (Ex × St)) := bnd (F84x0x30002 N (li L 0) (lb L 1) (fun p => p)) fun q => [(true, K84x0x30002w0 L q)]
theorem raw84x0x30002 (L : List Lf) : pc Try.prog (T55x0 N) (h84x0s1 N).h 0 100 84 30002 sh84x0x30002 L [1, 3, 2, 8, 31] [3, 2, 1] = F84x0x30002 N (li L 0) (lb L 1) (fun p => some (K84x0x30002w0 L p)) := by kernel_rfl
noncomputable def h84x0s2 : Sg Try.prog 0 84 :=
  (h84x0s1 N).cut (A84x0x30002 N) progOk (T55x0_ok N) fun L x hx => (raw84x0x30002 N L).trans ((tot84x0x30002 N ..).trans (alt0 _ _ hx))
noncomputable def F84x0x27002 (w0 : Int) (w1 : Bool) (k0 : Bool → R) : R :=
  bif w1 then
    k0 true
  else
    bnd (V84x0x30002 N w0 (w0 == 4)) fun y0 =>
    k0 y0
noncomputable def V84x0x27002 (w0 : Int) (w1 : Bool) : Bool := F84x0x27002 N w0 w1 (fun p => p)
theorem tot84x0x27002 (w0 : Int) (w1 : Bool) (k0 : Bool → R) : F84x0x27002 N w0 w1 k0 = k0 (V84x0x27002 N w0 w1) := by
  unfold V84x0x27002 F84x0x27002
  repeat' (first | rfl | apply cond_k | (apply bnd_k; intro _))
noncomputable def sh84x0x27002 : Sh := { tmps := [(1, .c (.p 1 0)), (2, .c (.p 2 0)), (3, .c (.p 3 0)), (8, .c (.i .i64)), (31, .c (.b))], mem := [(1, .box (rI 5 ([.s]))), (2, .box (rI 5 ([.s]))), (3, .box (rI 5 ([.s])))] }
noncomputable def K84x0x27002w0 (L : List Lf) (p : Bool) : Ex × St := (.normal, mg (ofSh sh84x0x27002 L) [1, 2, 3, 8, 31] [(31, .c (.b p))] [1, 2, 3] [])
noncomputable def A84x0x27002 (L : List Lf) : List (Bool × (Ex × St)) := bnd (F84x0x27002 N (li L 0) (lb L 1) (fun p => p)) fun q => [(true, K84x0x27002w0 L q)]
theorem raw84x0x27002 (L : List Lf) : pc Try.prog (T55x0 N) (h84x0s2 N).h 0 100 84 27002 sh84x0x27002 L [1, 3, 2, 8, 31] [3, 2, 1] = F84x0x27002 N (li L 0) (lb L 1) (fun p => some (K84x0x27002w0 L p)) := by kernel_rfl
noncomputable def h84x0s3 : Sg Try.prog 0 84 :=
  (h84x0s2 N).cut (A84x0x27002 N) progOk (T55x0_ok N) fun L x hx => (raw84x0x27002 N L).trans ((tot84x0x27002 N ..).trans (alt0 _ _ hx))
noncomputable def F84x0x9050 (N : Nat) (w0 : Bool) (w3 w4 : Int) (w6 : LB) (w15 w16 : Int) (w18 : LB) (k0 : Int × Int × LB → R) : R :=
  bif w0 then
    k0 (w15, w16, w6)
  else
    k0 (w3, w4, w18)
noncomputable def V84x0x9050 (w0 : Bool) (w3 w4 : Int) (w6 : LB) (w15 w16 : Int) (w18 : LB) : Int × Int × LB := F84x0x9050 N w0 w3 w4 w6 w15 w16 w18 (fun p => p)
theorem tot84x0x9050 (w0 : Bool) (w3 w4 : Int) (w6 : LB) (w15 w16 : Int) (w18 : LB) (k0 : Int × Int × LB → R) : F84x0x9050 N w0 w3 w4 w6 w15 w16 w18 k0 = k0 (V84x0x9050 N w0 w3 w4 w6 w15 w16 w18) := by
  unfold V84x0x9050 F84x0x9050
  repeat' (first | rfl | apply cond_k | (apply bnd_k; intro _))
noncomputable def J84x0x9050 (L : List Lf) (k0 : Int × Int × LB → R) : R := F84x0x9050 N (lb L 0) (li L 3) (li L 4) (ls L 6) (li L 15) (li L 16) (ls L 18) k0
noncomputable def sh84x0x9050 : Sh := { tmps := [(1, .c (.p 1 0)), (2, .c (.p 2 0)), (3, .c (.p 3 0)), (50, .c (.b))], mem := [(1, .box (rI 5 ([.s]))), (2, .box (rI 5 ([.s]))), (3, .box (rI 5 ([.s])))] }
noncomputable def K84x0x9050w0 (L : List Lf) (p : Int × Int × LB) : Ex × St := (.normal, mg (ofSh sh84x0x9050 L) [2, 3] [] [2, 3] [(3, .box [.i .i64 (li L 13), .i .i64 (li L 2), .i .i64 p.1, .i .i64 p.2.1, .i .i64 (li L 17), .s p.2.2])])
noncomputable def A84x0x9050 (L : List Lf) : List (Bool × (Ex × St)) := bnd (J84x0x9050 N L (fun p => p)) fun q => [(true, K84x0x9050w0 L q)]
theorem raw84x0x9050 (L : List Lf) : pc Try.prog (T55x0 N) (h84x0s3 N).h 0 100 84 9050 sh84x0x9050 L [3, 2] [3, 2] = J84x0x9050 N L (fun p => some (K84x0x9050w0 L p)) := by kernel_rfl
noncomputable def h84x0s4 : Sg Try.prog 0 84 :=
  (h84x0s3 N).cut (A84x0x9050 N) progOk (T55x0_ok N) fun L x hx => (raw84x0x9050 N L).trans ((tot84x0x9050 N ..).trans (alt0 _ _ hx))
noncomputable def F84x0x45044 (w0 : Int) (w1 : Bool) (w3 w4 w5 w6 : Int) (w7 : LB) (w15 w16 w17 w18 : Int) (w19 : LB) (k0 : Ty8 → R) : R :=
  bif w1 then
    k0 (w15, w16, w5, w6, w7)
  else
    bnd (V84x0x9050 N (w0 == 8) w4 w5 w7 w16 w17 w19) fun y0 =>
    k0 (w3, y0.1, y0.2.1, w18, y0.2.2)
noncomputable def V84x0x45044 (w0 : Int) (w1 : Bool) (w3 w4 w5 w6 : Int) (w7 : LB) (w15 w16 w17 w18 : Int) (w19 : LB) : Ty8 := F84x0x45044 N w0 w1 w3 w4 w5 w6 w7 w15 w16 w17 w18 w19 (fun p => p)
theorem tot84x0x45044 (w0 : Int) (w1 : Bool) (w3 w4 w5 w6 : Int) (w7 : LB) (w15 w16 w17 w18 : Int) (w19 : LB) (k0 : Ty8 → R) : F84x0x45044 N w0 w1 w3 w4 w5 w6 w7 w15 w16 w17 w18 w19 k0 = k0 (V84x0x45044 N w0 w1 w3 w4 w5 w6 w7 w15 w16 w17 w18 w19) := by
  unfold V84x0x45044 F84x0x45044
  repeat' (first | rfl | apply cond_k | (apply bnd_k; intro _))
noncomputable def J84x0x45044 (L : List Lf) (k0 : Ty8 → R) : R := F84x0x45044 N (li L 0) (lb L 1) (li L 3) (li L 4) (li L 5) (li L 6) (ls L 7) (li L 15) (li L 16) (li L 17) (li L 18) (ls L 19) k0
noncomputable def sh84x0x45044 : Sh := { tmps := [(1, .c (.p 1 0)), (2, .c (.p 2 0)), (3, .c (.p 3 0)), (8, .c (.i .i64)), (39, .c (.b))], mem := [(1, .box (rI 5 ([.s]))), (2, .box (rI 5 ([.s]))), (3, .box (rI 5 ([.s])))] }
noncomputable def K84x0x45044w0 (L : List Lf) (p : Ty8) : Ex × St := (.normal, mg (ofSh sh84x0x45044 L) [2, 3] [] [2, 3] [(3, .box [.i .i64 (li L 14), .i .i64 p.1, .i .i64 p.2.1, .i .i64 p.2.2.1, .i .i64 p.2.2.2.1, .s p.2.2.2.2])])
noncomputable def A84x0x45044 (L : List Lf) : List (Bool × (Ex × St)) := bnd (J84x0x45044 N L (fun p => p)) fun q => [(true, K84x0x45044w0 L q)]
theorem raw84x0x45044 (L : List Lf) : pc Try.prog (T55x0 N) (h84x0s4 N).h 0 100 84 45044 sh84x0x45044 L [3, 2] [3, 2] = J84x0x45044 N L (fun p => some (K84x0x45044w0 L p)) := by kernel_rfl
noncomputable def h84x0s5 : Sg Try.prog 0 84 :=
  (h84x0s4 N).cut (A84x0x45044 N) progOk (T55x0_ok N) fun L x hx => (raw84x0x45044 N L).trans ((tot84x0x45044 N ..).trans (alt0 _ _ hx))
noncomputable def F84x0x39038 (w0 : Int) (w1 : Bool) (w3 w4 w5 w6 : Int) (w7 : LB) (w15 w16 w17 w18 : Int) (w19 : LB) (k0 : Ty8 → R) : R :=
  bif w1 then
    k0 (w15, w4, w17, w18, w19)
  else
    bnd (V84x0x45044 N w0 (w0 == 6) w3 w4 w5 w6 w7 w15 w16 w17 w18 w19) fun y0 =>
    k0 y0
noncomputable def V84x0x39038 (w0 : Int) (w1 : Bool) (w3 w4 w5 w6 : Int) (w7 : LB) (w15 w16 w17 w18 : Int) (w19 : LB) : Ty8 := F84x0x39038 N w0 w1 w3 w4 w5 w6 w7 w15 w16 w17 w18 w19 (fun p => p)
theorem tot84x0x39038 (w0 : Int) (w1 : Bool) (w3 w4 w5 w6 : Int) (w7 : LB) (w15 w16 w17 w18 : Int) (w19 : LB) (k0 : Ty8 → R) : F84x0x39038 N w0 w1 w3 w4 w5 w6 w7 w15 w16 w17 w18 w19 k0 = k0 (V84x0x39038 N w0 w1 w3 w4 w5 w6 w7 w15 w16 w17 w18 w19) := by
  unfold V84x0x39038 F84x0x39038
  repeat' (first | rfl | apply cond_k | (apply bnd_k; intro _))
noncomputable def J84x0x39038 (L : List Lf) (k0 : Ty8 → R) : R := F84x0x39038 N (li L 0) (lb L 1) (li L 3) (li L 4) (li L 5) (li L 6) (ls L 7) (li L 15) (li L 16) (li L 17) (li L 18) (ls L 19) k0
noncomputable def sh84x0x39038 : Sh := { tmps := [(1, .c (.p 1 0)), (2, .c (.p 2 0)), (3, .c (.p 3 0)), (8, .c (.i .i64)), (31, .c (.b))], mem := [(1, .box (rI 5 ([.s]))), (2, .box (rI 5 ([.s]))), (3, .box (rI 5 ([.s])))] }
noncomputable def K84x0x39038w0 (L : List Lf) (p : Ty8) : Ex × St := (.normal, mg (ofSh sh84x0x39038 L) [2, 3] [] [2, 3] [(3, .box [.i .i64 (li L 14), .i .i64 p.1, .i .i64 p.2.1, .i .i64 p.2.2.1, .i .i64 p.2.2.2.1, .s p.2.2.2.2])])
noncomputable def A84x0x39038 (L : List Lf) : List (Bool × (Ex × St)) := bnd (J84x0x39038 N L (fun p => p)) fun q => [(true, K84x0x39038w0 L q)]
theorem raw84x0x39038 (L : List Lf) : pc Try.prog (T55x0 N) (h84x0s5 N).h 0 100 84 39038 sh84x0x39038 L [3, 2] [3, 2] = J84x0x39038 N L (fun p => some (K84x0x39038w0 L p)) := by kernel_rfl
noncomputable def h84x0s6 : Sg Try.prog 0 84 :=
  (h84x0s5 N).cut (A84x0x39038 N) progOk (T55x0_ok N) fun L x hx => (raw84x0x39038 N L).trans ((tot84x0x39038 N ..).trans (alt0 _ _ hx))
noncomputable def F84x0x24023 (w0 : Int) (w1 : Bool) (w3 w4 w5 w6 : Int) (w7 : LB) (w15 w16 w17 w18 : Int) (w19 : LB) (k0 : Ty8 → R) : R :=
  bif w1 then
    k0 (w3, w4, w17, w18, w19)
  else
    bnd (V84x0x27002 N w0 (w0 == 3)) fun y0 =>
    bnd (V84x0x39038 N w0 y0 w3 w4 w5 w6 w7 w15 w16 w17 w18 w19) fun y1 =>
    k0 y1
noncomputable def V84x0x24023 (w0 : Int) (w1 : Bool) (w3 w4 w5 w6 : Int) (w7 : LB) (w15 w16 w17 w18 : Int) (w19 : LB) : Ty8 := F84x0x24023 N w0 w1 w3 w4 w5 w6 w7 w15 w16 w17 w18 w19 (fun p => p)
theorem tot84x0x24023 (w0 : Int) (w1 : Bool) (w3 w4 w5 w6 : Int) (w7 : LB) (w15 w16 w17 w18 : Int) (w19 : LB) (k0 : Ty8 → R) : F84x0x24023 N w0 w1 w3 w4 w5 w6 w7 w15 w16 w17 w18 w19 k0 = k0 (V84x0x24023 N w0 w1 w3 w4 w5 w6 w7 w15 w16 w17 w18 w19) := by
  unfold V84x0x24023 F84x0x24023
  repeat' (first | rfl | apply cond_k | (apply bnd_k; intro _))
noncomputable def J84x0x24023 (L : List Lf) (k0 : Ty8 → R) : R := F84x0x24023 N (li L 0) (lb L 1) (li L 3) (li L 4) (li L 5) (li L 6) (ls L 7) (li L 15) (li L 16) (li L 17) (li L 18) (ls L 19) k0
noncomputable def sh84x0x24023 : Sh := { tmps := [(1, .c (.p 1 0)), (2, .c (.p 2 0)), (3, .c (.p 3 0)), (8, .c (.i .i64)), (23, .c (.b))], mem := [(1, .box (rI 5 ([.s]))), (2, .box (rI 5 ([.s]))), (3, .box (rI 5 ([.s])))] }
noncomputable def K84x0x24023w0 (L : List Lf) (p : Ty8) : Ex × St := (.normal, mg (ofSh sh84x0x24023 L) [2, 3] [] [2, 3] [(3, .box [.i .i64 (li L 14), .i .i64 p.1, .i .i64 p.2.1, .i .i64 p.2.2.1, .i .i64 p.2.2.2.1, .s p.2.2.2.2])])
noncomputable def A84x0x24023 (L : List Lf) : List (Bool × (Ex × St)) := bnd (J84x0x24023 N L (fun p => p)) fun q => [(true, K84x0x24023w0 L q)]
theorem raw84x0x24023 (L : List Lf) : pc Try.prog (T55x0 N) (h84x0s6 N).h 0 100 84 24023 sh84x0x24023 L [3, 2] [3, 2] = J84x0x24023 N L (fun p => some (K84x0x24023w0 L p)) := by kernel_rfl
noncomputable def h84x0s7 : Sg Try.prog 0 84 :=
  (h84x0s6 N).cut (A84x0x24023 N) progOk (T55x0_ok N) fun L x hx => (raw84x0x24023 N L).trans ((tot84x0x24023 N ..).trans (alt0 _ _ hx))
noncomputable def F84x0x18017 (w0 : Int) (w1 : Bool) (w3 w4 w5 w6 : Int) (w7 : LB) (w15 w16 w17 w18 : Int) (w19 : LB) (k0 : Ty8 → R) : R :=
  bif w1 then
    k0 (w3, w16, w17, w18, w19)
  else
    bnd (V84x0x24023 N w0 (w0 == 2) w3 w4 w5 w6 w7 w15 w16 w17 w18 w19) fun y0 =>
    k0 y0
noncomputable def V84x0x18017 (w0 : Int) (w1 : Bool) (w3 w4 w5 w6 : Int) (w7 : LB) (w15 w16 w17 w18 : Int) (w19 : LB) : Ty8 := F84x0x18017 N w0 w1 w3 w4 w5 w6 w7 w15 w16 w17 w18 w19 (fun p => p)
theorem tot84x0x18017 (w0 : Int) (w1 : Bool) (w3 w4 w5 w6 : Int) (w7 : LB) (w15 w16 w17 w18 : Int) (w19 : LB) (k0 : Ty8 → R) : F84x0x18017 N w0 w1 w3 w4 w5 w6 w7 w15 w16 w17 w18 w19 k0 = k0 (V84x0x18017 N w0 w1 w3 w4 w5 w6 w7 w15 w16 w17 w18 w19) := by
  unfold V84x0x18017 F84x0x18017
  repeat' (first | rfl | apply cond_k | (apply bnd_k; intro _))
noncomputable def J84x0x18017 (L : List Lf) (k0 : Ty8 → R) : R := F84x0x18017 N (li L 0) (lb L 1) (li L 3) (li L 4) (li L 5) (li L 6) (ls L 7) (li L 15) (li L 16) (li L 17) (li L 18) (ls L 19) k0
noncomputable def sh84x0x18017 : Sh := { tmps := [(1, .c (.p 1 0)), (2, .c (.p 2 0)), (3, .c (.p 3 0)), (8, .c (.i .i64)), (18, .c (.b))], mem := [(1, .box (rI 5 ([.s]))), (2, .box (rI 5 ([.s]))), (3, .box (rI 5 ([.s])))] }
noncomputable def K84x0x18017w0 (L : List Lf) (p : Ty8) : Ex × St := (.normal, mg (ofSh sh84x0x18017 L) [2, 3] [] [2, 3] [(3, .box [.i .i64 (li L 14), .i .i64 p.1, .i .i64 p.2.1, .i .i64 p.2.2.1, .i .i64 p.2.2.2.1, .s p.2.2.2.2])])
noncomputable def A84x0x18017 (L : List Lf) : List (Bool × (Ex × St)) := bnd (J84x0x18017 N L (fun p => p)) fun q => [(true, K84x0x18017w0 L q)]
theorem raw84x0x18017 (L : List Lf) : pc Try.prog (T55x0 N) (h84x0s7 N).h 0 100 84 18017 sh84x0x18017 L [3, 2] [3, 2] = J84x0x18017 N L (fun p => some (K84x0x18017w0 L p)) := by kernel_rfl
noncomputable def h84x0s8 : Sg Try.prog 0 84 :=
  (h84x0s7 N).cut (A84x0x18017 N) progOk (T55x0_ok N) fun L x hx => (raw84x0x18017 N L).trans ((tot84x0x18017 N ..).trans (alt0 _ _ hx))
noncomputable def F84x0 (v0 v1 v2 v3 v4 : Int) (v5 : LB) (k0 : Ty8 → R) : R :=
  bnd (V84x0x18017 N v0 (v0 == 1) v1 v2 v3 v4 v5 0 0 0 0 ([] : List UInt8)) fun y0 =>
  k0 y0
noncomputable def V84x0 (v0 v1 v2 v3 v4 : Int) (v5 : LB) : Ty8 := F84x0 N v0 v1 v2 v3 v4 v5 (fun p => p)
theorem tot84x0 (v0 v1 v2 v3 v4 : Int) (v5 : LB) (k0 : Ty8 → R) : F84x0 N v0 v1 v2 v3 v4 v5 k0 = k0 (V84x0 N v0 v1 v2 v3 v4 v5) := by
  unfold V84x0 F84x0
  repeat' (first | rfl | apply cond_k | (apply bnd_k; intro _))
noncomputable def J84x0 (L : List Lf) (k0 : Ty8 → R) : R := F84x0 N (li L 0) (li L 1) (li L 2) (li L 3) (li L 4) (ls L 5) k0
noncomputable def sh84x0 : Sh := { tmps := [(0, .g (rI 5 ([.s])))], mem := [] }
noncomputable def K84x0w0 (L : List Lf) (p : Ty8) : Res := ([.g [.i .i64 (li L 0), .i .i64 p.1, .i .i64 p.2.1, .i .i64 p.2.2.1, .i .i64 p.2.2.2.1, .s p.2.2.2.2]], [])
noncomputable def A84x0 (L : List Lf) : List (Bool × Res) := bnd (J84x0 N L (fun p => p)) fun q => [(true, K84x0w0 L q)]
theorem raw84x0 (L : List Lf) : bd Try.prog (T55x0 N) (h84x0s8 N).h 84 sh84x0 L = J84x0 N L (fun p => some (K84x0w0 L p)) := by kernel_rfl
theorem ok84x0 : FnOk Try.prog 84 sh84x0 (A84x0 N) :=
  (h84x0s8 N).fn progOk (T55x0_ok N) fun L x hx => ((raw84x0 N L).trans ((tot84x0 N ..).trans (alt0 _ _ hx)))
noncomputable def T84x0 : Oracle := ext 84 (spSh sh84x0 (A84x0 N)) (T55x0 N)
theorem T84x0_ok : OracleOk Try.prog (T84x0 N) := FnOk.to (ok84x0 N) (T55x0_ok N)
noncomputable def rg56x0 : List (Nat × List Nat) := [(0, [0, 1]), (1, [3, 2]), (2, []), (3, [3, 2]), (4, [3, 2, 5]), (5, [10, 3, 2, 5]), (6, [10, 3, 2, 5]), (8, [10, 3, 2, 5]), (9, [10, 3, 2, 5]), (10, [3, 2]), (7, [3, 2]), (11, [3, 5, 2]), (12, [27, 5, 3, 2]), (13, [27, 5, 3, 2]), (14, [27, 5, 3, 2]), (15, [27, 5, 3, 2]), (16, [27, 5, 3, 2]), (18, [27, 5, 3, 2]), (20, [27, 5, 3, 2]), (21, [5, 3, 2]), (19, [5, 3, 2]), (17, [5, 3, 2]), (22, [3, 5, 2]), (23, [5, 3, 2]), (24, [5, 3, 2]), (25, []), (26, [3, 2]), (27, [2, 3]), (28, []), (29, [3]), (30, []), (31, [])]
noncomputable def hd56x0 : Hints := [(18002, [3, 2, 10, 5, 11], [3, 2], []), (27002, [3, 2, 5, 17, 10], [3, 2], []), (32, [3, 2, 5, 17], [3, 2], []), (24023, [3, 2, 10, 5, 11], [3, 2], []), (48002, [5, 3, 2, 27, 28], [3, 2], []), (45002, [5, 3, 2, 27, 28], [3, 2], []), (42002, [5, 3, 2, 27, 28], [3, 2], []), (39002, [5, 3, 2, 27, 28], [3, 2], []), (52, [5, 3, 2], [3, 2], []), (58, [5, 3, 2], [3, 2], []), (65, [5, 3, 2, 48], [3, 2], []), (60059, [5, 3, 2, 27, 40], [3, 2], []), (54053, [5, 3, 2, 27, 28], [3, 2], []), (70, [5, 3, 2], [3, 2], []), (71, [5, 3, 2, 70], [3, 2], []), (83, [2, 3, 90], [3, 2], [])]
noncomputable def h56x0s0 (N : Nat) : Sg Try.prog 0 56 := .start hd56x0 rg56x0
noncomputable def F56x0x18002 (N : Nat) (w1 : Int) (w2 : Bool) (k0 : Bool → R) : R :=
  bif w2 then
    k0 true
  else
    k0 (w1 == 2)
noncomputable def V56x0x18002 (w1 : Int) (w2 : Bool) : Bool := F56x0x18002 N w1 w2 (fun p => p)
theorem tot56x0x18002 (w1 : Int) (w2 : Bool) (k0 : Bool → R) : F56x0x18002 N w1 w2 k0 = k0 (V56x0x18002 N w1 w2) := by
  unfold V56x0x18002 F56x0x18002
  repeat' (first | rfl | apply cond_k | (apply bnd_k; intro _))
noncomputable def sh56x0x18002 : Sh := { tmps := [(2, .c (.p 2 0)), (3, .c (.p 3 0)), (5, .c (.b)), (10, .c (.i .i64)), (11, .c (.b))], mem := [(2, .box ([.i .i64, .i .i64, .i .i64, .sl 66, .sl 68])), (3, .box (rI 5 ([.s])))] }
noncomputable def K56x0x18002w0 (L : List Lf) (p : Bool) : Ex × St := (.normal, mg (ofSh sh56x0x18002 L) [2, 3, 5, 10, 11] [(11, .c (.b p))] [2, 3] [])
noncomputable def A56x0x18002 (L : List Lf) : List (Bool × (Ex × St)) := bnd (F56x0x18002 N (li L 1) (lb L 2) (fun p => p)) fun q => [(true, K56x0x18002w0 L q)]
theorem raw56x0x18002 (L : List Lf) : pc Try.prog (T84x0 N) (h56x0s0 N).h 0 100 56 18002 sh56x0x18002 L [3, 2, 10, 5, 11] [3, 2] = F56x0x18002 N (li L 1) (lb L 2) (fun p => some (K56x0x18002w0 L p)) := by kernel_rfl
noncomputable def h56x0s1 : Sg Try.prog 0 56 :=
  (h56x0s0 N).cut (A56x0x18002 N) progOk (T84x0_ok N) fun L x hx => (raw56x0x18002 N L).trans ((tot56x0x18002 N ..).trans (alt0 _ _ hx))
noncomputable def F56x0x27002 (N : Nat) (w1 : Int) (w2 : Bool) (k0 : Bool → R) : R :=
  bif w2 then
    k0 true
  else
    k0 (w1 == 9)
noncomputable def V56x0x27002 (w1 : Int) (w2 : Bool) : Bool := F56x0x27002 N w1 w2 (fun p => p)
theorem tot56x0x27002 (w1 : Int) (w2 : Bool) (k0 : Bool → R) : F56x0x27002 N w1 w2 k0 = k0 (V56x0x27002 N w1 w2) := by
  unfold V56x0x27002 F56x0x27002
  repeat' (first | rfl | apply cond_k | (apply bnd_k; intro _))
noncomputable def sh56x0x27002 : Sh := { tmps := [(2, .c (.p 2 0)), (3, .c (.p 3 0)), (5, .c (.b)), (10, .c (.i .i64)), (17, .c (.b))], mem := [(2, .box ([.i .i64, .i .i64, .i .i64, .sl 66, .sl 68])), (3, .box (rI 5 ([.s])))] }
noncomputable def K56x0x27002w0 (L : List Lf) (p : Bool) : Ex × St := (.normal, mg (ofSh sh56x0x27002 L) [2, 3, 5, 17] [(17, .c (.b p))] [2, 3] [])
noncomputable def A56x0x27002 (L : List Lf) : List (Bool × (Ex × St)) := bnd (F56x0x27002 N (li L 1) (lb L 2) (fun p => p)) fun q => [(true, K56x0x27002w0 L q)]
theorem raw56x0x27002 (L : List Lf) : pc Try.prog (T84x0 N) (h56x0s1 N).h 0 100 56 27002 sh56x0x27002 L [3, 2, 5, 17] [3, 2] = F56x0x27002 N (li L 1) (lb L 2) (fun p => some (K56x0x27002w0 L p)) := by kernel_rfl
noncomputable def h56x0s2 : Sg Try.prog 0 56 :=
  (h56x0s1 N).cut (A56x0x27002 N) progOk (T84x0_ok N) fun L x hx => (raw56x0x27002 N L).trans ((tot56x0x27002 N ..).trans (alt0 _ _ hx))
noncomputable def F56x0x32 (w0 w1 : Bool) (w3 w10 : Int) (k0 : Bool → R) : R :=
  bif w1 then
    bnd (V50x0 N w10 0 (IntKind.wrap .i64 (w3 - 1))) fun y0 =>
    k0 y0
  else
    k0 w0
noncomputable def V56x0x32 (w0 w1 : Bool) (w3 w10 : Int) : Bool := F56x0x32 N w0 w1 w3 w10 (fun p => p)
theorem tot56x0x32 (w0 w1 : Bool) (w3 w10 : Int) (k0 : Bool → R) : F56x0x32 N w0 w1 w3 w10 k0 = k0 (V56x0x32 N w0 w1 w3 w10) := by
  unfold V56x0x32 F56x0x32
  repeat' (first | rfl | apply cond_k | (apply bnd_k; intro _))
noncomputable def J56x0x32 (L : List Lf) (k0 : Bool → R) : R := F56x0x32 N (lb L 0) (lb L 1) (li L 3) (li L 10) k0
noncomputable def sh56x0x32 : Sh := { tmps := [(2, .c (.p 2 0)), (3, .c (.p 3 0)), (5, .c (.b)), (17, .c (.b))], mem := [(2, .box ([.i .i64, .i .i64, .i .i64, .sl 66, .sl 68])), (3, .box (rI 5 ([.s])))] }
noncomputable def K56x0x32w0 (L : List Lf) (p : Bool) : Ex × St := (.normal, mg (ofSh sh56x0x32 L) [2, 3, 5] [(5, .c (.b p))] [2, 3] [])
noncomputable def A56x0x32 (L : List Lf) : List (Bool × (Ex × St)) := bnd (J56x0x32 N L (fun p => p)) fun q => [(true, K56x0x32w0 L q)]
theorem raw56x0x32 (L : List Lf) : pc Try.prog (T84x0 N) (h56x0s2 N).h 0 100 56 32 sh56x0x32 L [3, 5, 2] [3, 2] = J56x0x32 N L (fun p => some (K56x0x32w0 L p)) := by kernel_rfl
noncomputable def h56x0s3 : Sg Try.prog 0 56 :=
  (h56x0s2 N).cut (A56x0x32 N) progOk (T84x0_ok N) fun L x hx => (raw56x0x32 N L).trans ((tot56x0x32 N ..).trans (alt0 _ _ hx))
noncomputable def F56x0x24023 (w0 : Bool) (w1 : Int) (w2 : Bool) (w4 w11 : Int) (k0 : Bool → R) : R :=
  bif w2 then
    bnd (V50x0 N w11 0 6) fun y0 =>
    k0 y0
  else
    bnd (V56x0x27002 N w1 (w1 == 8)) fun y1 =>
    bnd (V56x0x32 N w0 y1 w4 w11) fun y2 =>
    k0 y2
noncomputable def V56x0x24023 (w0 : Bool) (w1 : Int) (w2 : Bool) (w4 w11 : Int) : Bool := F56x0x24023 N w0 w1 w2 w4 w11 (fun p => p)
theorem tot56x0x24023 (w0 : Bool) (w1 : Int) (w2 : Bool) (w4 w11 : Int) (k0 : Bool → R) : F56x0x24023 N w0 w1 w2 w4 w11 k0 = k0 (V56x0x24023 N w0 w1 w2 w4 w11) := by
  unfold V56x0x24023 F56x0x24023
  repeat' (first | rfl | apply cond_k | (apply bnd_k; intro _))
noncomputable def J56x0x24023 (L : List Lf) (k0 : Bool → R) : R := F56x0x24023 N (lb L 0) (li L 1) (lb L 2) (li L 4) (li L 11) k0
noncomputable def sh56x0x24023 : Sh := { tmps := [(2, .c (.p 2 0)), (3, .c (.p 3 0)), (5, .c (.b)), (10, .c (.i .i64)), (11, .c (.b))], mem := [(2, .box ([.i .i64, .i .i64, .i .i64, .sl 66, .sl 68])), (3, .box (rI 5 ([.s])))] }
noncomputable def K56x0x24023w0 (L : List Lf) (p : Bool) : Ex × St := (.normal, mg (ofSh sh56x0x24023 L) [2, 3, 5] [(5, .c (.b p))] [2, 3] [])
noncomputable def A56x0x24023 (L : List Lf) : List (Bool × (Ex × St)) := bnd (J56x0x24023 N L (fun p => p)) fun q => [(true, K56x0x24023w0 L q)]
theorem raw56x0x24023 (L : List Lf) : pc Try.prog (T84x0 N) (h56x0s3 N).h 0 100 56 24023 sh56x0x24023 L [3, 5, 2] [3, 2] = J56x0x24023 N L (fun p => some (K56x0x24023w0 L p)) := by kernel_rfl
noncomputable def h56x0s4 : Sg Try.prog 0 56 :=
  (h56x0s3 N).cut (A56x0x24023 N) progOk (T84x0_ok N) fun L x hx => (raw56x0x24023 N L).trans ((tot56x0x24023 N ..).trans (alt0 _ _ hx))
noncomputable def F56x0x48002 (N : Nat) (w1 : Int) (w2 : Bool) (k0 : Bool → R) : R :=
  bif w2 then
    k0 true
  else
    k0 (w1 == 9)
noncomputable def V56x0x48002 (w1 : Int) (w2 : Bool) : Bool := F56x0x48002 N w1 w2 (fun p => p)
theorem tot56x0x48002 (w1 : Int) (w2 : Bool) (k0 : Bool → R) : F56x0x48002 N w1 w2 k0 = k0 (V56x0x48002 N w1 w2) := by
  unfold V56x0x48002 F56x0x48002
  repeat' (first | rfl | apply cond_k | (apply bnd_k; intro _))
noncomputable def sh56x0x48002 : Sh := { tmps := [(2, .c (.p 2 0)), (3, .c (.p 3 0)), (5, .c (.b)), (27, .c (.i .i64)), (28, .c (.b))], mem := [(2, .box ([.i .i64, .i .i64, .i .i64, .sl 66, .sl 68])), (3, .box (rI 5 ([.s])))] }
noncomputable def K56x0x48002w0 (L : List Lf) (p : Bool) : Ex × St := (.normal, mg (ofSh sh56x0x48002 L) [2, 3, 5, 27, 28] [(28, .c (.b p))] [2, 3] [])
noncomputable def A56x0x48002 (L : List Lf) : List (Bool × (Ex × St)) := bnd (F56x0x48002 N (li L 1) (lb L 2) (fun p => p)) fun q => [(true, K56x0x48002w0 L q)]
theorem raw56x0x48002 (L : List Lf) : pc Try.prog (T84x0 N) (h56x0s4 N).h 0 100 56 48002 sh56x0x48002 L [5, 3, 2, 27, 28] [3, 2] = F56x0x48002 N (li L 1) (lb L 2) (fun p => some (K56x0x48002w0 L p)) := by kernel_rfl
noncomputable def h56x0s5 : Sg Try.prog 0 56 :=
  (h56x0s4 N).cut (A56x0x48002 N) progOk (T84x0_ok N) fun L x hx => (raw56x0x48002 N L).trans ((tot56x0x48002 N ..).trans (alt0 _ _ hx))
noncomputable def F56x0x45002 (w1 : Int) (w2 : Bool) (k0 : Bool → R) : R :=
  bif w2 then
    k0 true
  else
    bnd (V56x0x48002 N w1 (w1 == 7)) fun y0 =>
    k0 y0
noncomputable def V56x0x45002 (w1 : Int) (w2 : Bool) : Bool := F56x0x45002 N w1 w2 (fun p => p)
theorem tot56x0x45002 (w1 : Int) (w2 : Bool) (k0 : Bool → R) : F56x0x45002 N w1 w2 k0 = k0 (V56x0x45002 N w1 w2) := by
  unfold V56x0x45002 F56x0x45002
  repeat' (first | rfl | apply cond_k | (apply bnd_k; intro _))
noncomputable def sh56x0x45002 : Sh := { tmps := [(2, .c (.p 2 0)), (3, .c (.p 3 0)), (5, .c (.b)), (27, .c (.i .i64)), (28, .c (.b))], mem := [(2, .box ([.i .i64, .i .i64, .i .i64, .sl 66, .sl 68])), (3, .box (rI 5 ([.s])))] }
noncomputable def K56x0x45002w0 (L : List Lf) (p : Bool) : Ex × St := (.normal, mg (ofSh sh56x0x45002 L) [2, 3, 5, 27, 28] [(28, .c (.b p))] [2, 3] [])
noncomputable def A56x0x45002 (L : List Lf) : List (Bool × (Ex × St)) := bnd (F56x0x45002 N (li L 1) (lb L 2) (fun p => p)) fun q => [(true, K56x0x45002w0 L q)]
theorem raw56x0x45002 (L : List Lf) : pc Try.prog (T84x0 N) (h56x0s5 N).h 0 100 56 45002 sh56x0x45002 L [5, 3, 2, 27, 28] [3, 2] = F56x0x45002 N (li L 1) (lb L 2) (fun p => some (K56x0x45002w0 L p)) := by kernel_rfl
noncomputable def h56x0s6 : Sg Try.prog 0 56 :=
  (h56x0s5 N).cut (A56x0x45002 N) progOk (T84x0_ok N) fun L x hx => (raw56x0x45002 N L).trans ((tot56x0x45002 N ..).trans (alt0 _ _ hx))
noncomputable def F56x0x42002 (w1 : Int) (w2 : Bool) (k0 : Bool → R) : R :=
  bif w2 then
    k0 true
  else
    bnd (V56x0x45002 N w1 (w1 == 4)) fun y0 =>
    k0 y0
noncomputable def V56x0x42002 (w1 : Int) (w2 : Bool) : Bool := F56x0x42002 N w1 w2 (fun p => p)
theorem tot56x0x42002 (w1 : Int) (w2 : Bool) (k0 : Bool → R) : F56x0x42002 N w1 w2 k0 = k0 (V56x0x42002 N w1 w2) := by
  unfold V56x0x42002 F56x0x42002
  repeat' (first | rfl | apply cond_k | (apply bnd_k; intro _))
noncomputable def sh56x0x42002 : Sh := { tmps := [(2, .c (.p 2 0)), (3, .c (.p 3 0)), (5, .c (.b)), (27, .c (.i .i64)), (28, .c (.b))], mem := [(2, .box ([.i .i64, .i .i64, .i .i64, .sl 66, .sl 68])), (3, .box (rI 5 ([.s])))] }
noncomputable def K56x0x42002w0 (L : List Lf) (p : Bool) : Ex × St := (.normal, mg (ofSh sh56x0x42002 L) [2, 3, 5, 27, 28] [(28, .c (.b p))] [2, 3] [])
noncomputable def A56x0x42002 (L : List Lf) : List (Bool × (Ex × St)) := bnd (F56x0x42002 N (li L 1) (lb L 2) (fun p => p)) fun q => [(true, K56x0x42002w0 L q)]
theorem raw56x0x42002 (L : List Lf) : pc Try.prog (T84x0 N) (h56x0s6 N).h 0 100 56 42002 sh56x0x42002 L [5, 3, 2, 27, 28] [3, 2] = F56x0x42002 N (li L 1) (lb L 2) (fun p => some (K56x0x42002w0 L p)) := by kernel_rfl
noncomputable def h56x0s7 : Sg Try.prog 0 56 :=
  (h56x0s6 N).cut (A56x0x42002 N) progOk (T84x0_ok N) fun L x hx => (raw56x0x42002 N L).trans ((tot56x0x42002 N ..).trans (alt0 _ _ hx))
noncomputable def F56x0x39002 (w1 : Int) (w2 : Bool) (k0 : Bool → R) : R :=
  bif w2 then
    k0 true
  else
    bnd (V56x0x42002 N w1 (w1 == 3)) fun y0 =>
    k0 y0
noncomputable def V56x0x39002 (w1 : Int) (w2 : Bool) : Bool := F56x0x39002 N w1 w2 (fun p => p)
theorem tot56x0x39002 (w1 : Int) (w2 : Bool) (k0 : Bool → R) : F56x0x39002 N w1 w2 k0 = k0 (V56x0x39002 N w1 w2) := by
  unfold V56x0x39002 F56x0x39002
  repeat' (first | rfl | apply cond_k | (apply bnd_k; intro _))
noncomputable def sh56x0x39002 : Sh := { tmps := [(2, .c (.p 2 0)), (3, .c (.p 3 0)), (5, .c (.b)), (27, .c (.i .i64)), (28, .c (.b))], mem := [(2, .box ([.i .i64, .i .i64, .i .i64, .sl 66, .sl 68])), (3, .box (rI 5 ([.s])))] }
noncomputable def K56x0x39002w0 (L : List Lf) (p : Bool) : Ex × St := (.normal, mg (ofSh sh56x0x39002 L) [2, 3, 5, 27, 28] [(28, .c (.b p))] [2, 3] [])
noncomputable def A56x0x39002 (L : List Lf) : List (Bool × (Ex × St)) := bnd (F56x0x39002 N (li L 1) (lb L 2) (fun p => p)) fun q => [(true, K56x0x39002w0 L q)]
theorem raw56x0x39002 (L : List Lf) : pc Try.prog (T84x0 N) (h56x0s7 N).h 0 100 56 39002 sh56x0x39002 L [5, 3, 2, 27, 28] [3, 2] = F56x0x39002 N (li L 1) (lb L 2) (fun p => some (K56x0x39002w0 L p)) := by kernel_rfl
noncomputable def h56x0s8 : Sg Try.prog 0 56 :=
  (h56x0s7 N).cut (A56x0x39002 N) progOk (T84x0_ok N) fun L x hx => (raw56x0x39002 N L).trans ((tot56x0x39002 N ..).trans (alt0 _ _ hx))
noncomputable def F56x0x52 (w0 : Bool) (w10 : Int) (k0 : Bool → R) : R :=
  bif w0 then
    k0 true
  else
    bnd (V50x0 N w10 0 100000) fun y0 =>
    k0 y0
noncomputable def V56x0x52 (w0 : Bool) (w10 : Int) : Bool := F56x0x52 N w0 w10 (fun p => p)
theorem tot56x0x52 (w0 : Bool) (w10 : Int) (k0 : Bool → R) : F56x0x52 N w0 w10 k0 = k0 (V56x0x52 N w0 w10) := by
  unfold V56x0x52 F56x0x52
  repeat' (first | rfl | apply cond_k | (apply bnd_k; intro _))
noncomputable def sh56x0x52 : Sh := { tmps := [(2, .c (.p 2 0)), (3, .c (.p 3 0)), (5, .c (.b))], mem := [(2, .box ([.i .i64, .i .i64, .i .i64, .sl 66, .sl 68])), (3, .box (rI 5 ([.s])))] }
noncomputable def K56x0x52w0 (L : List Lf) (p : Bool) : Ex × St := (.normal, mg (ofSh sh56x0x52 L) [2, 3, 5] [(5, .c (.b p))] [2, 3] [])
noncomputable def A56x0x52 (L : List Lf) : List (Bool × (Ex × St)) := bnd (F56x0x52 N (lb L 0) (li L 10) (fun p => p)) fun q => [(true, K56x0x52w0 L q)]
theorem raw56x0x52 (L : List Lf) : pc Try.prog (T84x0 N) (h56x0s8 N).h 0 100 56 52 sh56x0x52 L [3, 5, 2] [3, 2] = F56x0x52 N (lb L 0) (li L 10) (fun p => some (K56x0x52w0 L p)) := by kernel_rfl
noncomputable def h56x0s9 : Sg Try.prog 0 56 :=
  (h56x0s8 N).cut (A56x0x52 N) progOk (T84x0_ok N) fun L x hx => (raw56x0x52 N L).trans ((tot56x0x52 N ..).trans (alt0 _ _ hx))
noncomputable def F56x0x58 (w0 : Bool) (w10 : Int) (k0 : Bool → R) : R :=
  bif w0 then
    k0 true
  else
    bnd (V50x0 N w10 1 14) fun y0 =>
    k0 y0
noncomputable def V56x0x58 (w0 : Bool) (w10 : Int) : Bool := F56x0x58 N w0 w10 (fun p => p)
theorem tot56x0x58 (w0 : Bool) (w10 : Int) (k0 : Bool → R) : F56x0x58 N w0 w10 k0 = k0 (V56x0x58 N w0 w10) := by
  unfold V56x0x58 F56x0x58
  repeat' (first | rfl | apply cond_k | (apply bnd_k; intro _))
noncomputable def sh56x0x58 : Sh := { tmps := [(2, .c (.p 2 0)), (3, .c (.p 3 0)), (5, .c (.b))], mem := [(2, .box ([.i .i64, .i .i64, .i .i64, .sl 66, .sl 68])), (3, .box (rI 5 ([.s])))] }
noncomputable def K56x0x58w0 (L : List Lf) (p : Bool) : Ex × St := (.normal, mg (ofSh sh56x0x58 L) [2, 3, 5] [(5, .c (.b p))] [2, 3] [])
noncomputable def A56x0x58 (L : List Lf) : List (Bool × (Ex × St)) := bnd (F56x0x58 N (lb L 0) (li L 10) (fun p => p)) fun q => [(true, K56x0x58w0 L q)]
theorem raw56x0x58 (L : List Lf) : pc Try.prog (T84x0 N) (h56x0s9 N).h 0 100 56 58 sh56x0x58 L [3, 5, 2] [3, 2] = F56x0x58 N (lb L 0) (li L 10) (fun p => some (K56x0x58w0 L p)) := by kernel_rfl
noncomputable def h56x0s10 : Sg Try.prog 0 56 :=
  (h56x0s9 N).cut (A56x0x58 N) progOk (T84x0_ok N) fun L x hx => (raw56x0x58 N L).trans ((tot56x0x58 N ..).trans (alt0 _ _ hx))
noncomputable def F56x0x65 (N : Nat) (w0 w1 : Bool) (w12 w13 : Int) (k0 : Bool → R) : R :=
  bif w1 then
    bnd (bif (bif w0 then true else (decide (w12 < 0))) then true else (decide (w12 > w13))) fun y0 =>
    k0 (bif y0 then true else (decide (w13 > 7)))
  else
    k0 w0
noncomputable def V56x0x65 (w0 w1 : Bool) (w12 w13 : Int) : Bool := F56x0x65 N w0 w1 w12 w13 (fun p => p)
theorem tot56x0x65 (w0 w1 : Bool) (w12 w13 : Int) (k0 : Bool → R) : F56x0x65 N w0 w1 w12 w13 k0 = k0 (V56x0x65 N w0 w1 w12 w13) := by
  unfold V56x0x65 F56x0x65
  repeat' (first | rfl | apply cond_k | (apply bnd_k; intro _))
noncomputable def J56x0x65 (L : List Lf) (k0 : Bool → R) : R := F56x0x65 N (lb L 0) (lb L 1) (li L 12) (li L 13) k0
noncomputable def sh56x0x65 : Sh := { tmps := [(2, .c (.p 2 0)), (3, .c (.p 3 0)), (5, .c (.b)), (48, .c (.b))], mem := [(2, .box ([.i .i64, .i .i64, .i .i64, .sl 66, .sl 68])), (3, .box (rI 5 ([.s])))] }
noncomputable def K56x0x65w0 (L : List Lf) (p : Bool) : Ex × St := (.normal, mg (ofSh sh56x0x65 L) [2, 3, 5] [(5, .c (.b p))] [2, 3] [])
noncomputable def A56x0x65 (L : List Lf) : List (Bool × (Ex × St)) := bnd (J56x0x65 N L (fun p => p)) fun q => [(true, K56x0x65w0 L q)]
theorem raw56x0x65 (L : List Lf) : pc Try.prog (T84x0 N) (h56x0s10 N).h 0 100 56 65 sh56x0x65 L [3, 5, 2] [3, 2] = J56x0x65 N L (fun p => some (K56x0x65w0 L p)) := by kernel_rfl
noncomputable def h56x0s11 : Sg Try.prog 0 56 :=
  (h56x0s10 N).cut (A56x0x65 N) progOk (T84x0_ok N) fun L x hx => (raw56x0x65 N L).trans ((tot56x0x65 N ..).trans (alt0 _ _ hx))
noncomputable def F56x0x60059 (w0 : Bool) (w1 : Int) (w2 : Bool) (w12 w13 w14 : Int) (k0 : Bool → R) : R :=
  bif w2 then
    bnd (V56x0x58 N w0 w12) fun y0 =>
    k0 y0
  else
    bnd (V56x0x65 N w0 (w1 == 6) w13 w14) fun y1 =>
    k0 y1
noncomputable def V56x0x60059 (w0 : Bool) (w1 : Int) (w2 : Bool) (w12 w13 w14 : Int) : Bool := F56x0x60059 N w0 w1 w2 w12 w13 w14 (fun p => p)
theorem tot56x0x60059 (w0 : Bool) (w1 : Int) (w2 : Bool) (w12 w13 w14 : Int) (k0 : Bool → R) : F56x0x60059 N w0 w1 w2 w12 w13 w14 k0 = k0 (V56x0x60059 N w0 w1 w2 w12 w13 w14) := by
  unfold V56x0x60059 F56x0x60059
  repeat' (first | rfl | apply cond_k | (apply bnd_k; intro _))
noncomputable def J56x0x60059 (L : List Lf) (k0 : Bool → R) : R := F56x0x60059 N (lb L 0) (li L 1) (lb L 2) (li L 12) (li L 13) (li L 14) k0
noncomputable def sh56x0x60059 : Sh := { tmps := [(2, .c (.p 2 0)), (3, .c (.p 3 0)), (5, .c (.b)), (27, .c (.i .i64)), (40, .c (.b))], mem := [(2, .box ([.i .i64, .i .i64, .i .i64, .sl 66, .sl 68])), (3, .box (rI 5 ([.s])))] }
noncomputable def K56x0x60059w0 (L : List Lf) (p : Bool) : Ex × St := (.normal, mg (ofSh sh56x0x60059 L) [2, 3, 5] [(5, .c (.b p))] [2, 3] [])
noncomputable def A56x0x60059 (L : List Lf) : List (Bool × (Ex × St)) := bnd (J56x0x60059 N L (fun p => p)) fun q => [(true, K56x0x60059w0 L q)]
theorem raw56x0x60059 (L : List Lf) : pc Try.prog (T84x0 N) (h56x0s11 N).h 0 100 56 60059 sh56x0x60059 L [3, 5, 2] [3, 2] = J56x0x60059 N L (fun p => some (K56x0x60059w0 L p)) := by kernel_rfl
noncomputable def h56x0s12 : Sg Try.prog 0 56 :=
  (h56x0s11 N).cut (A56x0x60059 N) progOk (T84x0_ok N) fun L x hx => (raw56x0x60059 N L).trans ((tot56x0x60059 N ..).trans (alt0 _ _ hx))
noncomputable def F56x0x54053 (w0 : Bool) (w1 : Int) (w2 : Bool) (w12 w13 w14 : Int) (k0 : Bool → R) : R :=
  bif w2 then
    bnd (V56x0x52 N w0 w12) fun y0 =>
    k0 y0
  else
    bnd (V56x0x60059 N w0 w1 (w1 == 5) w12 w13 w14) fun y1 =>
    k0 y1
noncomputable def V56x0x54053 (w0 : Bool) (w1 : Int) (w2 : Bool) (w12 w13 w14 : Int) : Bool := F56x0x54053 N w0 w1 w2 w12 w13 w14 (fun p => p)
theorem tot56x0x54053 (w0 : Bool) (w1 : Int) (w2 : Bool) (w12 w13 w14 : Int) (k0 : Bool → R) : F56x0x54053 N w0 w1 w2 w12 w13 w14 k0 = k0 (V56x0x54053 N w0 w1 w2 w12 w13 w14) := by
  unfold V56x0x54053 F56x0x54053
  repeat' (first | rfl | apply cond_k | (apply bnd_k; intro _))
noncomputable def J56x0x54053 (L : List Lf) (k0 : Bool → R) : R := F56x0x54053 N (lb L 0) (li L 1) (lb L 2) (li L 12) (li L 13) (li L 14) k0
noncomputable def sh56x0x54053 : Sh := { tmps := [(2, .c (.p 2 0)), (3, .c (.p 3 0)), (5, .c (.b)), (27, .c (.i .i64)), (28, .c (.b))], mem := [(2, .box ([.i .i64, .i .i64, .i .i64, .sl 66, .sl 68])), (3, .box (rI 5 ([.s])))] }
noncomputable def K56x0x54053w0 (L : List Lf) (p : Bool) : Ex × St := (.normal, mg (ofSh sh56x0x54053 L) [2, 3, 5] [(5, .c (.b p))] [2, 3] [])
noncomputable def A56x0x54053 (L : List Lf) : List (Bool × (Ex × St)) := bnd (J56x0x54053 N L (fun p => p)) fun q => [(true, K56x0x54053w0 L q)]
theorem raw56x0x54053 (L : List Lf) : pc Try.prog (T84x0 N) (h56x0s12 N).h 0 100 56 54053 sh56x0x54053 L [3, 5, 2] [3, 2] = J56x0x54053 N L (fun p => some (K56x0x54053w0 L p)) := by kernel_rfl
noncomputable def h56x0s13 : Sg Try.prog 0 56 :=
  (h56x0s12 N).cut (A56x0x54053 N) progOk (T84x0_ok N) fun L x hx => (raw56x0x54053 N L).trans ((tot56x0x54053 N ..).trans (alt0 _ _ hx))
noncomputable def F56x0x70 (w0 : Bool) (w11 : Int) (k0 : Bool → R) : R :=
  bif w0 then
    k0 true
  else
    bnd (V50x0 N w11 1 14) fun y0 =>
    k0 y0
noncomputable def V56x0x70 (w0 : Bool) (w11 : Int) : Bool := F56x0x70 N w0 w11 (fun p => p)
theorem tot56x0x70 (w0 : Bool) (w11 : Int) (k0 : Bool → R) : F56x0x70 N w0 w11 k0 = k0 (V56x0x70 N w0 w11) := by
  unfold V56x0x70 F56x0x70
  repeat' (first | rfl | apply cond_k | (apply bnd_k; intro _))
noncomputable def sh56x0x70 : Sh := { tmps := [(2, .c (.p 2 0)), (3, .c (.p 3 0)), (5, .c (.b))], mem := [(2, .box ([.i .i64, .i .i64, .i .i64, .sl 66, .sl 68])), (3, .box (rI 5 ([.s])))] }
noncomputable def K56x0x70w0 (L : List Lf) (p : Bool) : Ex × St := (.normal, mg (ofSh sh56x0x70 L) [2, 3, 5] [(5, .c (.b p))] [2, 3] [])
noncomputable def A56x0x70 (L : List Lf) : List (Bool × (Ex × St)) := bnd (F56x0x70 N (lb L 0) (li L 11) (fun p => p)) fun q => [(true, K56x0x70w0 L q)]
theorem raw56x0x70 (L : List Lf) : pc Try.prog (T84x0 N) (h56x0s13 N).h 0 100 56 70 sh56x0x70 L [5, 3, 2] [3, 2] = F56x0x70 N (lb L 0) (li L 11) (fun p => some (K56x0x70w0 L p)) := by kernel_rfl
noncomputable def h56x0s14 : Sg Try.prog 0 56 :=
  (h56x0s13 N).cut (A56x0x70 N) progOk (T84x0_ok N) fun L x hx => (raw56x0x70 N L).trans ((tot56x0x70 N ..).trans (alt0 _ _ hx))
noncomputable def F56x0x71 (w0 w1 : Bool) (w12 : Int) (k0 : Bool → R) : R :=
  bif w1 then
    bnd (V56x0x70 N w0 w12) fun y0 =>
    k0 y0
  else
    k0 w0
noncomputable def V56x0x71 (w0 w1 : Bool) (w12 : Int) : Bool := F56x0x71 N w0 w1 w12 (fun p => p)
theorem tot56x0x71 (w0 w1 : Bool) (w12 : Int) (k0 : Bool → R) : F56x0x71 N w0 w1 w12 k0 = k0 (V56x0x71 N w0 w1 w12) := by
  unfold V56x0x71 F56x0x71
  repeat' (first | rfl | apply cond_k | (apply bnd_k; intro _))
noncomputable def sh56x0x71 : Sh := { tmps := [(2, .c (.p 2 0)), (3, .c (.p 3 0)), (5, .c (.b)), (70, .c (.b))], mem := [(2, .box ([.i .i64, .i .i64, .i .i64, .sl 66, .sl 68])), (3, .box (rI 5 ([.s])))] }
noncomputable def K56x0x71w0 (L : List Lf) (p : Bool) : Ex × St := (.normal, mg (ofSh sh56x0x71 L) [2, 3, 5] [(5, .c (.b p))] [2, 3] [])
noncomputable def A56x0x71 (L : List Lf) : List (Bool × (Ex × St)) := bnd (F56x0x71 N (lb L 0) (lb L 1) (li L 12) (fun p => p)) fun q => [(true, K56x0x71w0 L q)]
theorem raw56x0x71 (L : List Lf) : pc Try.prog (T84x0 N) (h56x0s14 N).h 0 100 56 71 sh56x0x71 L [5, 3, 2] [3, 2] = F56x0x71 N (lb L 0) (lb L 1) (li L 12) (fun p => some (K56x0x71w0 L p)) := by kernel_rfl
noncomputable def h56x0s15 : Sg Try.prog 0 56 :=
  (h56x0s14 N).cut (A56x0x71 N) progOk (T84x0_ok N) fun L x hx => (raw56x0x71 N L).trans ((tot56x0x71 N ..).trans (alt0 _ _ hx))
noncomputable def F56x0x83 (w0 : Bool) (w5 : LD) (w13 : LB) (k0 : Unit → Option R) (k1 : Unit → Option R) : Option R :=
  bif w0 then
    bnd (G55x0 N w5 w13) fun y0 =>
    bif y0.isSome then
      bif (decide ((y0.getD default) < 0)) then
        k0 ()
      else
        k1 ()
    else
      none
  else
    k1 ()
noncomputable def G56x0x83 (w0 : Bool) (w5 : LD) (w13 : LB) : Option (Sum (Unit) (Unit)) := F56x0x83 N w0 w5 w13 (fun p => some (.inl p)) (fun p => some (.inr p))
theorem bind56x0x83 (w0 : Bool) (w5 : LD) (w13 : LB) (k0 : Unit → Option R) (k1 : Unit → Option R) : F56x0x83 N w0 w5 w13 k0 k1 = (G56x0x83 N w0 w5 w13).bind (sumE k0 k1) := by
  unfold G56x0x83 F56x0x83
  repeat' (first | rfl | apply cond_b | (apply bnd_b; intro _))
noncomputable def sh56x0x83 : Sh := { tmps := [(2, .c (.p 2 0)), (3, .c (.p 3 0)), (90, .c (.b))], mem := [(2, .box ([.i .i64, .i .i64, .i .i64, .sl 66, .sl 68])), (3, .box (rI 5 ([.s])))] }
noncomputable def K56x0x83w0 (L : List Lf) (_ : Unit) : Ex × St := (.ret, mg (ofSh sh56x0x83 L) [4] [(4, .c (.i .i64 4))] [3] [])
noncomputable def A56x0x83 (L : List Lf) : List (Bool × (Ex × St)) := bnd (F56x0x83 N (lb L 0) (ll L 5) (ls L 13) (fun p => some (.inl p)) (fun p => some (.inr p))) fun q => [((inlB q), K56x0x83w0 L ()), ((inrQ q).isSome, (.normal, mg (ofSh sh56x0x83 L) [3] [] [3] []))]
theorem raw56x0x83 (L : List Lf) : pc Try.prog (T84x0 N) (h56x0s15 N).h 0 100 56 83 sh56x0x83 L [3, 4] [3] = F56x0x83 N (lb L 0) (ll L 5) (ls L 13) (fun _ => some (K56x0x83w0 L ())) (fun _ => some (.normal, mg (ofSh sh56x0x83 L) [3] [] [3] [])) := by kernel_rfl
noncomputable def h56x0s16 : Sg Try.prog 0 56 :=
  (h56x0s15 N).cut (A56x0x83 N) progOk (T84x0_ok N) fun L x hx => (raw56x0x83 N L).trans ((bind56x0x83 N ..).trans ((altS alt1) x hx))
noncomputable def F56x0 (v1 : Int) (v4 : LD) (v7 v8 v9 v10 v11 : Int) (v12 : LB) (k0 : Int → Option R) : Option R :=
  bnd (V50x0 N v7 1 9) fun y0 =>
  bif y0 then
    k0 7
  else
    bnd (V56x0x18002 N v7 (v7 == 1)) fun y1 =>
    bnd (V56x0x24023 N false v7 y1 v1 v8) fun y2 =>
    bnd (V56x0x39002 N v7 (v7 == 2)) fun y3 =>
    bnd (V56x0x54053 N y2 v7 y3 v9 v10 v11) fun y4 =>
    bnd (V56x0x71 N y4 (v7 == 9) v10) fun y5 =>
    bif y5 then
      k0 9
    else
      bnd (bif (v7 == 6) then true else (bif (v7 == 8) then (!(v12 == ([] : List UInt8))) else false)) fun y6 =>
      bnd (G56x0x83 N y6 v4 v12) fun y7 =>
      bif (inlB y7) then
        k0 4
      else
        bif (inrQ y7).isSome then
          bnd (V84x0 N v7 v8 v9 v10 v11 v12) fun y8 =>
          bnd (!((v7 == v7) && ((y8.1 == v8) && ((y8.2.1 == v9) && ((y8.2.2.1 == v10) && ((y8.2.2.2.1 == v11) && ((y8.2.2.2.2 == v12) && true))))))) fun y9 =>
          bif y9 then
            k0 2
          else
            k0 0
        else
          none
noncomputable def G56x0 (v1 : Int) (v4 : LD) (v7 v8 v9 v10 v11 : Int) (v12 : LB) : Option (Int) := F56x0 N v1 v4 v7 v8 v9 v10 v11 v12 (fun p => some p)
theorem bind56x0 (v1 : Int) (v4 : LD) (v7 v8 v9 v10 v11 : Int) (v12 : LB) (k0 : Int → Option R) : F56x0 N v1 v4 v7 v8 v9 v10 v11 v12 k0 = (G56x0 N v1 v4 v7 v8 v9 v10 v11 v12).bind k0 := by
  unfold G56x0 F56x0
  repeat' (first | rfl | apply cond_b | (apply bnd_b; intro _))
noncomputable def J56x0 (L : List Lf) (k0 : Int → Option R) : Option R := F56x0 N (li L 1) (ll L 4) (li L 7) (li L 8) (li L 9) (li L 10) (li L 11) (ls L 12) k0
noncomputable def sh56x0 : Sh := { tmps := [(0, .g ([.i .i64, .i .i64, .i .i64, .sl 66, .sl 68])), (1, .g (rI 5 ([.s])))], mem := [] }
noncomputable def A56x0 (L : List Lf) : List (Bool × Res) := bnd (J56x0 N L (fun p => some p)) fun q => [(q.isSome, ([.c (.i .i64 (q.getD default))], []))]
theorem raw56x0 (L : List Lf) : bd Try.prog (T84x0 N) (h56x0s16 N).h 56 sh56x0 L = J56x0 N L (fun p => some ([.c (.i .i64 p)], [])) := by kernel_rfl
theorem ok56x0 : FnOk Try.prog 56 sh56x0 (A56x0 N) :=
  (h56x0s16 N).fn progOk (T84x0_ok N) fun L x hx => ((raw56x0 N L).trans ((bind56x0 N ..).trans (alt1 x hx)))
noncomputable def T56x0 : Oracle := ext 56 (spSh sh56x0 (A56x0 N)) (T84x0 N)
theorem T56x0_ok : OracleOk Try.prog (T56x0 N) := FnOk.to (ok56x0 N) (T84x0_ok N)
noncomputable def rg20x0 : List (Nat × List Nat) := [(0, [0]), (1, [1]), (2, []), (3, [1]), (4, []), (5, [1]), (6, [34, 33, 32, 1]), (7, [34, 32, 1, 33]), (8, [4, 1, 3, 34, 33, 32]), (9, []), (10, [1, 4, 3, 34, 33, 32]), (11, []), (12, [4, 34, 33, 32, 1]), (13, []), (14, [34, 33, 32, 1]), (15, [1]), (16, [66, 65, 64, 1]), (17, [64, 66, 1, 65]), (18, [1, 6, 66, 65, 64]), (19, [7, 66, 65, 64, 1]), (20, [7]), (21, [66, 65, 64, 1]), (22, [])]
noncomputable def hd20x0 : Hints := [(4, [1], [1], []), (18, [34, 33, 32, 1], [1], []), (37, [4, 34, 33, 32, 1], [4, 1], []), (48, [66, 65, 64, 1], [1], [])]
noncomputable def h20x0s0 (N : Nat) : Sg Try.prog 0 20 := .start hd20x0 rg20x0
noncomputable def F20x0x4 (w0 w1 w2 : Int) (k0 : Bool → R) : R :=
  bnd (V50x0 N w0 0 999985) fun y0 =>
  bif y0 then
    k0 true
  else
    bnd (V50x0 N w1 1 14) fun y1 =>
    bif y1 then
      k0 true
    else
      bnd (V50x0 N w2 0 100000) fun y2 =>
      k0 y2
noncomputable def V20x0x4 (w0 w1 w2 : Int) : Bool := F20x0x4 N w0 w1 w2 (fun p => p)
theorem tot20x0x4 (w0 w1 w2 : Int) (k0 : Bool → R) : F20x0x4 N w0 w1 w2 k0 = k0 (V20x0x4 N w0 w1 w2) := by
  unfold V20x0x4 F20x0x4
  repeat' (first | rfl | apply cond_k | (apply bnd_k; intro _))
noncomputable def sh20x0x4 : Sh := { tmps := [(1, .c (.p 1 0))], mem := [(1, .box ([.i .i64, .i .i64, .i .i64, .sl 66, .sl 68]))] }
noncomputable def K20x0x4w0 (L : List Lf) (p : Bool) : Ex × St := (.normal, mg (ofSh sh20x0x4 L) [1, 20] [(20, .c (.b p))] [1] [])
noncomputable def A20x0x4 (L : List Lf) : List (Bool × (Ex × St)) := bnd (F20x0x4 N (li L 0) (li L 1) (li L 2) (fun p => p)) fun q => [(true, K20x0x4w0 L q)]
theorem raw20x0x4 (L : List Lf) : pc Try.prog (T56x0 N) (h20x0s0 N).h 0 100 20 4 sh20x0x4 L [1, 20] [1] = F20x0x4 N (li L 0) (li L 1) (li L 2) (fun p => some (K20x0x4w0 L p)) := by kernel_rfl
noncomputable def h20x0s1 : Sg Try.prog 0 20 :=
  (h20x0s0 N).cut (A20x0x4 N) progOk (T56x0_ok N) fun L x hx => (raw20x0x4 N L).trans ((tot20x0x4 N ..).trans (alt0 _ _ hx))
noncomputable def F20x0x37 (w12 w13 w14 : Int) (k0 : Bool → R) : R :=
  bnd (V50x0 N w12 0 1000) fun y0 =>
  bif y0 then
    k0 true
  else
    bnd (V50x0 N w13 0 1000) fun y1 =>
    bif y1 then
      k0 true
    else
      bnd (V50x0 N w14 0 1000) fun y2 =>
      k0 y2
noncomputable def V20x0x37 (w12 w13 w14 : Int) : Bool := F20x0x37 N w12 w13 w14 (fun p => p)
theorem tot20x0x37 (w12 w13 w14 : Int) (k0 : Bool → R) : F20x0x37 N w12 w13 w14 k0 = k0 (V20x0x37 N w12 w13 w14) := by
  unfold V20x0x37 F20x0x37
  repeat' (first | rfl | apply cond_k | (apply bnd_k; intro _))
noncomputable def sh20x0x37 : Sh := { tmps := [(1, .c (.p 1 0)), (4, .c (.p 4 0)), (32, .c (.sl 66)), (33, .c (.i .i64)), (34, .c (.i .i64))], mem := [(1, .box ([.i .i64, .i .i64, .i .i64, .sl 66, .sl 68])), (4, .box ([.s, .i .i64, .i .i64, .i .i64, .b]))] }
noncomputable def K20x0x37w0 (L : List Lf) (p : Bool) : Ex × St := (.normal, mg (ofSh sh20x0x37 L) [1, 32, 33, 34, 61] [(61, .c (.b p))] [1] [])
noncomputable def A20x0x37 (L : List Lf) : List (Bool × (Ex × St)) := bnd (F20x0x37 N (li L 12) (li L 13) (li L 14) (fun p => p)) fun q => [(true, K20x0x37w0 L q)]
theorem raw20x0x37 (L : List Lf) : pc Try.prog (T56x0 N) (h20x0s1 N).h 0 100 20 37 sh20x0x37 L [34, 33, 32, 1, 61] [1] = F20x0x37 N (li L 12) (li L 13) (li L 14) (fun p => some (K20x0x37w0 L p)) := by kernel_rfl
noncomputable def h20x0s2 : Sg Try.prog 0 20 :=
  (h20x0s1 N).cut (A20x0x37 N) progOk (T56x0_ok N) fun L x hx => (raw20x0x37 N L).trans ((tot20x0x37 N ..).trans (alt0 _ _ hx))
noncomputable def S20x0x18 (w1 : LD) (w2 : Int) (w8 : LD) (w3 : Int) (kr : Int → Option R) (k0 : Int → Option R) (k1 : Unit → Option R) : Option R :=
  bif (decide (w3 < w2)) then
    bif (inB w3 w1.length) then
      bnd (G54x0 N ((w1.getD w3.toNat (.i 0)).cell 0).toS) fun y0 =>
      bif y0.isSome then
        bif (!(y0.getD default)) then
          k0 8
        else
          bnd (G55x0 N w8 ((w1.getD w3.toNat (.i 0)).cell 0).toS) fun y1 =>
          bif y1.isSome then
            bif (decide ((y1.getD default) < w3)) then
              k0 5
            else
              bnd (V20x0x37 N ((w1.getD w3.toNat (.i 0)).cell 1).toI ((w1.getD w3.toNat (.i 0)).cell 2).toI ((w1.getD w3.toNat (.i 0)).cell 3).toI) fun y2 =>
              bif y2 then
                k0 9
              else
                kr (IntKind.wrap .i64 (w3 + 1))
          else
            none
      else
        none
    else
      none
  else
    k1 ()
noncomputable def L20x0x18 (N : Nat) {R : Type} (w1 : LD) (w2 : Int) (w8 : LD) : Nat → Int → (Int → Option R) → (Unit → Option R) → Option R
  | 0, _, _, _ => none
  | m + 1, w3, k0, k1 => S20x0x18 N w1 w2 w8 w3 (fun w3 => L20x0x18 N w1 w2 w8 m w3 k0 k1) k0 k1
noncomputable def G20x0x18 (w1 : LD) (w2 : Int) (w8 : LD) (w3 : Int) : Option (Sum (Int) (Unit)) := L20x0x18 N (R := (Sum (Int) (Unit))) w1 w2 w8 N w3 (fun p => some (.inl p)) (fun p => some (.inr p))
noncomputable def J20x0x18 (L x : List Lf) (kr : List Lf → Option R) (k0 : Int → Option R) (k1 : Unit → Option R) : Option R := S20x0x18 N (ll L 1) (li L 2) (ll L 8) (li x 0) (fun w3 => kr [.i w3]) k0 k1
theorem sb20x0x18 (L x : List Lf) (kr : List Lf → Option R) (k0 : Int → Option R) (k1 : Unit → Option R) : J20x0x18 N L x kr k0 k1 = (J20x0x18 N L x (fun y => some (.inl y)) (fun p => some (.inr (.inl p))) (fun p => some (.inr (.inr p)))).bind (sumE kr (sumE k0 k1)) := by
  unfold J20x0x18 S20x0x18
  repeat' (first | rfl | apply cond_b | (apply bnd_b; intro _))
noncomputable def Q20x0x18 (L : List Lf) (m : Nat) (x : List Lf) : Option (Sum (Int) (Unit)) := L20x0x18 N (R := (Sum (Int) (Unit))) (ll L 1) (li L 2) (ll L 8) m (li x 0) (fun p => some (.inl p)) (fun p => some (.inr p))
noncomputable def sh20x0x18 : Sh := { tmps := [(1, .c (.p 1 0)), (32, .c (.sl 66)), (33, .c (.i .i64)), (34, .c (.i .i64))], mem := [(1, .box ([.i .i64, .i .i64, .i .i64, .sl 66, .sl 68]))] }
noncomputable def K20x0x18w0 (L : List Lf) (p : Int) : Ex × St := (.ret, mg (ofSh sh20x0x18 L) [2] [(2, .c (.i .i64 p))] [1] [])
noncomputable def A20x0x18 (L : List Lf) : List (Bool × (Ex × St)) := bnd (Q20x0x18 N L N (pk sh20x0x18 [3] L)) fun q => [((inlB q), K20x0x18w0 L (inlV q)), ((inrQ q).isSome, ((.exit 0), mg (ofSh sh20x0x18 L) [1] [] [1] []))]
theorem step20x0x18 (m : Nat) (kn : St → Option (Ex × St)) (L x : List Lf) : lpB Try.prog (T56x0 N) (h20x0s2 N).h 0 20 18 sh20x0x18 [3] [2, 1] [1] (m + 100) kn L x = J20x0x18 N L x (fun y => kn (ofSh sh20x0x18 (mx sh20x0x18 [3] L y))) (fun p => some (K20x0x18w0 L p)) (fun _ => some ((.exit 0), mg (ofSh sh20x0x18 L) [1] [] [1] [])) := by kernel_rfl
noncomputable def h20x0s3 : Sg Try.prog 0 20 :=
  (h20x0s2 N).lp (A20x0x18 N) N progOk (T56x0_ok N) (fun m kn L x => (step20x0x18 N m kn L x).trans (sb20x0x18 N L x _ _ _)) (fun L m x => sb20x0x18 N L x (Q20x0x18 N L m) (fun p => some (.inl p)) (fun p => some (.inr p))) fun L x hx => (altS alt1) x hx
noncomputable def S20x0x48 (w1 : LD) (w2 w5 : Int) (w8 : LD) (w3 : Int) (kr : Int → Option R) (k0 : Int → Option R) (k1 : Unit → Option R) : Option R :=
  bif (decide (w3 < w2)) then
    bif (inB w3 w1.length) then
      bnd (G56x0 N w5 w8 ((w1.getD w3.toNat (.i 0)).cell 0).toI ((w1.getD w3.toNat (.i 0)).cell 1).toI ((w1.getD w3.toNat (.i 0)).cell 2).toI ((w1.getD w3.toNat (.i 0)).cell 3).toI ((w1.getD w3.toNat (.i 0)).cell 4).toI ((w1.getD w3.toNat (.i 0)).cell 5).toS) fun y0 =>
      bif y0.isSome then
        bif ((y0.getD default) != 0) then
          k0 (y0.getD default)
        else
          kr (IntKind.wrap .i64 (w3 + 1))
      else
        none
    else
      none
  else
    k1 ()
noncomputable def L20x0x48 (N : Nat) {R : Type} (w1 : LD) (w2 w5 : Int) (w8 : LD) : Nat → Int → (Int → Option R) → (Unit → Option R) → Option R
  | 0, _, _, _ => none
  | m + 1, w3, k0, k1 => S20x0x48 N w1 w2 w5 w8 w3 (fun w3 => L20x0x48 N w1 w2 w5 w8 m w3 k0 k1) k0 k1
noncomputable def G20x0x48 (w1 : LD) (w2 w5 : Int) (w8 : LD) (w3 : Int) : Option (Sum (Int) (Unit)) := L20x0x48 N (R := (Sum (Int) (Unit))) w1 w2 w5 w8 N w3 (fun p => some (.inl p)) (fun p => some (.inr p))
noncomputable def J20x0x48 (L x : List Lf) (kr : List Lf → Option R) (k0 : Int → Option R) (k1 : Unit → Option R) : Option R := S20x0x48 N (ll L 1) (li L 2) (li L 5) (ll L 8) (li x 0) (fun w3 => kr [.i w3]) k0 k1
theorem sb20x0x48 (L x : List Lf) (kr : List Lf → Option R) (k0 : Int → Option R) (k1 : Unit → Option R) : J20x0x48 N L x kr k0 k1 = (J20x0x48 N L x (fun y => some (.inl y)) (fun p => some (.inr (.inl p))) (fun p => some (.inr (.inr p)))).bind (sumE kr (sumE k0 k1)) := by
  unfold J20x0x48 S20x0x48
  repeat' (first | rfl | apply cond_b | (apply bnd_b; intro _))
noncomputable def Q20x0x48 (L : List Lf) (m : Nat) (x : List Lf) : Option (Sum (Int) (Unit)) := L20x0x48 N (R := (Sum (Int) (Unit))) (ll L 1) (li L 2) (li L 5) (ll L 8) m (li x 0) (fun p => some (.inl p)) (fun p => some (.inr p))
noncomputable def sh20x0x48 : Sh := { tmps := [(1, .c (.p 1 0)), (64, .c (.sl 68)), (65, .c (.i .i64)), (66, .c (.i .i64))], mem := [(1, .box ([.i .i64, .i .i64, .i .i64, .sl 66, .sl 68]))] }
noncomputable def A20x0x48 (L : List Lf) : List (Bool × (Ex × St)) := bnd (Q20x0x48 N L N (pk sh20x0x48 [3] L)) fun q => [((inlB q), (.ret, ⟨[(2, .c (.i .i64 (inlV q)))], []⟩)), ((inrQ q).isSome, ((.exit 2), ⟨[], []⟩))]
theorem step20x0x48 (m : Nat) (kn : St → Option (Ex × St)) (L x : List Lf) : lpB Try.prog (T56x0 N) (h20x0s3 N).h 0 20 48 sh20x0x48 [3] [2] [] (m + 100) kn L x = J20x0x48 N L x (fun y => kn (ofSh sh20x0x48 (mx sh20x0x48 [3] L y))) (fun p => some (.ret, ⟨[(2, .c (.i .i64 p))], []⟩)) (fun _ => some ((.exit 2), ⟨[], []⟩)) := by kernel_rfl
noncomputable def h20x0s4 : Sg Try.prog 0 20 :=
  (h20x0s3 N).lp (A20x0x48 N) N progOk (T56x0_ok N) (fun m kn L x => (step20x0x48 N m kn L x).trans (sb20x0x48 N L x _ _ _)) (fun L m x => sb20x0x48 N L x (Q20x0x48 N L m) (fun p => some (.inl p)) (fun p => some (.inr p))) fun L x hx => (altS alt1) x hx
noncomputable def F20x0 (v0 v1 v2 : Int) (v4 v6 : LD) (k0 : Int → Option R) : Option R :=
  bnd (V20x0x4 N v0 v1 v2) fun y0 =>
  bif y0 then
    k0 9
  else
    bnd (bif (decide ((v4.length : Int) > 4)) then true else (decide ((v6.length : Int) > 12))) fun y1 =>
    bif y1 then
      k0 3
    else
      bnd (G20x0x18 N v4 (v4.length : Int) v4 0) fun y2 =>
      bif (inlB y2) then
        k0 (inlV y2)
      else
        bif (inrQ y2).isSome then
          bnd (G20x0x48 N v6 (v6.length : Int) v1 v4 0) fun y3 =>
          bif (inlB y3) then
            k0 (inlV y3)
          else
            bif (inrQ y3).isSome then
              k0 0
            else
              none
        else
          none
noncomputable def G20x0 (v0 v1 v2 : Int) (v4 v6 : LD) : Option (Int) := F20x0 N v0 v1 v2 v4 v6 (fun p => some p)
theorem bind20x0 (v0 v1 v2 : Int) (v4 v6 : LD) (k0 : Int → Option R) : F20x0 N v0 v1 v2 v4 v6 k0 = (G20x0 N v0 v1 v2 v4 v6).bind k0 := by
  unfold G20x0 F20x0
  repeat' (first | rfl | apply cond_b | (apply bnd_b; intro _))
noncomputable def J20x0 (L : List Lf) (k0 : Int → Option R) : Option R := F20x0 N (li L 0) (li L 1) (li L 2) (ll L 4) (ll L 6) k0
noncomputable def sh20x0 : Sh := { tmps := [(0, .g ([.i .i64, .i .i64, .i .i64, .sl 66, .sl 68]))], mem := [] }
noncomputable def A20x0 (L : List Lf) : List (Bool × Res) := bnd (J20x0 N L (fun p => some p)) fun q => [(q.isSome, ([.c (.i .i64 (q.getD default))], []))]
theorem raw20x0 (L : List Lf) : bd Try.prog (T56x0 N) (h20x0s4 N).h 20 sh20x0 L = J20x0 N L (fun p => some ([.c (.i .i64 p)], [])) := by kernel_rfl
theorem ok20x0 : FnOk Try.prog 20 sh20x0 (A20x0 N) :=
  (h20x0s4 N).fn progOk (T56x0_ok N) fun L x hx => ((raw20x0 N L).trans ((bind20x0 N ..).trans (alt1 x hx)))
noncomputable def T20x0 : Oracle := ext 20 (spSh sh20x0 (A20x0 N)) (T56x0 N)
theorem T20x0_ok : OracleOk Try.prog (T20x0 N) := FnOk.to (ok20x0 N) (T56x0_ok N)
noncomputable def rg73x0 : List (Nat × List Nat) := [(0, [0, 1]), (1, [1, 2]), (2, [9, 8, 7, 2]), (3, [7, 9, 2, 8]), (4, [6, 2, 9, 8, 7]), (5, []), (6, [9, 8, 7, 2]), (7, [])]
noncomputable def hd73x0 : Hints := [(6, [9, 8, 7, 2], [2], [])]
noncomputable def h73x0s0 (N : Nat) : Sg Try.prog 0 73 := .start hd73x0 rg73x0
noncomputable def S73x0x6 (w1 : LD) (w2 : Int) (w8 : LD) (w3 : Int) (kr : Int → Option R) (k0 : Unit → Option R) (k1 : Unit → Option R) : Option R :=
  bif (decide (w3 < w2)) then
    bif (inB w3 w1.length) then
      bnd (V50x0 N (w1.getD w3.toNat (.i 0)).toI (-1) (IntKind.wrap .i64 ((w8.length : Int) - 1))) fun y0 =>
      bif y0 then
        k0 ()
      else
        kr (IntKind.wrap .i64 (w3 + 1))
    else
      none
  else
    k1 ()
noncomputable def L73x0x6 (N : Nat) {R : Type} (w1 : LD) (w2 : Int) (w8 : LD) : Nat → Int → (Unit → Option R) → (Unit → Option R) → Option R
  | 0, _, _, _ => none
  | m + 1, w3, k0, k1 => S73x0x6 N w1 w2 w8 w3 (fun w3 => L73x0x6 N w1 w2 w8 m w3 k0 k1) k0 k1
noncomputable def G73x0x6 (w1 : LD) (w2 : Int) (w8 : LD) (w3 : Int) : Option (Sum (Unit) (Unit)) := L73x0x6 N (R := (Sum (Unit) (Unit))) w1 w2 w8 N w3 (fun p => some (.inl p)) (fun p => some (.inr p))
noncomputable def J73x0x6 (L x : List Lf) (kr : List Lf → Option R) (k0 : Unit → Option R) (k1 : Unit → Option R) : Option R := S73x0x6 N (ll L 1) (li L 2) (ll L 8) (li x 0) (fun w3 => kr [.i w3]) k0 k1
theorem sb73x0x6 (L x : List Lf) (kr : List Lf → Option R) (k0 : Unit → Option R) (k1 : Unit → Option R) : J73x0x6 N L x kr k0 k1 = (J73x0x6 N L x (fun y => some (.inl y)) (fun p => some (.inr (.inl p))) (fun p => some (.inr (.inr p)))).bind (sumE kr (sumE k0 k1)) := by
  unfold J73x0x6 S73x0x6
  repeat' (first | rfl | apply cond_b | (apply bnd_b; intro _))
noncomputable def Q73x0x6 (L : List Lf) (m : Nat) (x : List Lf) : Option (Sum (Unit) (Unit)) := L73x0x6 N (R := (Sum (Unit) (Unit))) (ll L 1) (li L 2) (ll L 8) m (li x 0) (fun p => some (.inl p)) (fun p => some (.inr p))
noncomputable def sh73x0x6 : Sh := { tmps := [(2, .c (.p 2 0)), (7, .c (.sl 3)), (8, .c (.i .i64)), (9, .c (.i .i64))], mem := [(2, .box ([.i .i64, .i .i64, .i .i64, .sl 66, .sl 68]))] }
noncomputable def A73x0x6 (L : List Lf) : List (Bool × (Ex × St)) := bnd (Q73x0x6 N L N (pk sh73x0x6 [3] L)) fun q => [((inlB q), (.ret, ⟨[(4, .c (.i .i64 2))], []⟩)), ((inrQ q).isSome, ((.exit 0), ⟨[], []⟩))]
theorem step73x0x6 (m : Nat) (kn : St → Option (Ex × St)) (L x : List Lf) : lpB Try.prog (T20x0 N) (h73x0s0 N).h 0 73 6 sh73x0x6 [3] [4] [] (m + 100) kn L x = J73x0x6 N L x (fun y => kn (ofSh sh73x0x6 (mx sh73x0x6 [3] L y))) (fun _ => some (.ret, ⟨[(4, .c (.i .i64 2))], []⟩)) (fun _ => some ((.exit 0), ⟨[], []⟩)) := by kernel_rfl
noncomputable def h73x0s1 : Sg Try.prog 0 73 :=
  (h73x0s0 N).lp (A73x0x6 N) N progOk (T20x0_ok N) (fun m kn L x => (step73x0x6 N m kn L x).trans (sb73x0x6 N L x _ _ _)) (fun L m x => sb73x0x6 N L x (Q73x0x6 N L m) (fun p => some (.inl p)) (fun p => some (.inr p))) fun L x hx => (altS alt1) x hx
noncomputable def F73x0 (v4 v8 : LD) (k0 : Int → Option R) : Option R :=
  bnd (G73x0x6 N v8 (v8.length : Int) v4 0) fun y0 =>
  bif (inlB y0) then
    k0 2
  else
    bif (inrQ y0).isSome then
      k0 0
    else
      none
noncomputable def G73x0 (v4 v8 : LD) : Option (Int) := F73x0 N v4 v8 (fun p => some p)
theorem bind73x0 (v4 v8 : LD) (k0 : Int → Option R) : F73x0 N v4 v8 k0 = (G73x0 N v4 v8).bind k0 := by
  unfold G73x0 F73x0
  repeat' (first | rfl | apply cond_b | (apply bnd_b; intro _))
noncomputable def sh73x0 : Sh := { tmps := [(0, .g ([.i .i64, .i .i64, .i .i64, .sl 66, .sl 68])), (1, .c (.sl 3))], mem := [] }
noncomputable def A73x0 (L : List Lf) : List (Bool × Res) := bnd (F73x0 N (ll L 4) (ll L 8) (fun p => some p)) fun q => [(q.isSome, ([.c (.i .i64 (q.getD default))], []))]
theorem raw73x0 (L : List Lf) : bd Try.prog (T20x0 N) (h73x0s1 N).h 73 sh73x0 L = F73x0 N (ll L 4) (ll L 8) (fun p => some ([.c (.i .i64 p)], [])) := by kernel_rfl
theorem ok73x0 : FnOk Try.prog 73 sh73x0 (A73x0 N) :=
  (h73x0s1 N).fn progOk (T20x0_ok N) fun L x hx => ((raw73x0 N L).trans ((bind73x0 N ..).trans (alt1 x hx)))
noncomputable def T73x0 : Oracle := ext 73 (spSh sh73x0 (A73x0 N)) (T20x0 N)
theorem T73x0_ok : OracleOk Try.prog (T73x0 N) := FnOk.to (ok73x0 N) (T20x0_ok N)
noncomputable def rg58x0 : List (Nat × List Nat) := [(0, [0, 1]), (1, [2, 1]), (2, [5, 1, 2]), (3, [5]), (4, [1, 2]), (5, []), (6, [2, 1])]
noncomputable def hd58x0 : Hints := []
noncomputable def h58x0s0 (N : Nat) : Sg Try.prog 0 58 := .start hd58x0 rg58x0
noncomputable def F58x0 (v0 v1 v2 : Int) (v4 v6 v8 : LD) (k0 : Int → Option R) : Option R :=
  bnd (G20x0 N v0 v1 v2 v4 v6) fun y0 =>
  bif y0.isSome then
    bif ((y0.getD default) != 0) then
      k0 (y0.getD default)
    else
      bif ((v8.length : Int) != v1) then
        k0 2
      else
        bnd (G73x0 N v4 v8) fun y1 =>
        bif y1.isSome then
          k0 (y1.getD default)
        else
          none
  else
    none
noncomputable def G58x0 (v0 v1 v2 : Int) (v4 v6 v8 : LD) : Option (Int) := F58x0 N v0 v1 v2 v4 v6 v8 (fun p => some p)
theorem bind58x0 (v0 v1 v2 : Int) (v4 v6 v8 : LD) (k0 : Int → Option R) : F58x0 N v0 v1 v2 v4 v6 v8 k0 = (G58x0 N v0 v1 v2 v4 v6 v8).bind k0 := by
  unfold G58x0 F58x0
  repeat' (first | rfl | apply cond_b | (apply bnd_b; intro _))
noncomputable def J58x0 (L : List Lf) (k0 : Int → Option R) : Option R := F58x0 N (li L 0) (li L 1) (li L 2) (ll L 4) (ll L 6) (ll L 8) k0
noncomputable def sh58x0 : Sh := { tmps := [(0, .g ([.i .i64, .i .i64, .i .i64, .sl 66, .sl 68])), (1, .c (.sl 3))], mem := [] }
noncomputable def A58x0 (L : List Lf) : List (Bool × Res) := bnd (J58x0 N L (fun p => some p)) fun q => [(q.isSome, ([.c (.i .i64 (q.getD default))], []))]
theorem raw58x0 (L : List Lf) : bd Try.prog (T73x0 N) (h58x0s0 N).h 58 sh58x0 L = J58x0 N L (fun p => some ([.c (.i .i64 p)], [])) := by kernel_rfl
theorem ok58x0 : FnOk Try.prog 58 sh58x0 (A58x0 N) :=
  (h58x0s0 N).fn progOk (T73x0_ok N) fun L x hx => ((raw58x0 N L).trans ((bind58x0 N ..).trans (alt1 x hx)))
noncomputable def T58x0 : Oracle := ext 58 (spSh sh58x0 (A58x0 N)) (T73x0 N)
theorem T58x0_ok : OracleOk Try.prog (T58x0 N) := FnOk.to (ok58x0 N) (T73x0_ok N)
noncomputable def rg63x0 : List (Nat × List Nat) := [(0, [0, 1]), (1, [1, 4, 2]), (2, [4]), (3, [2, 1, 4])]
noncomputable def hd63x0 : Hints := []
noncomputable def h63x0s0 (N : Nat) : Sg Try.prog 0 63 := .start hd63x0 rg63x0
noncomputable def F63x0 (N : Nat) (v4 : LD) (v7 : Int) (k0 : Ty7 → Option R) : Option R :=
  bif (decide (v7 < 0)) then
    k0 (([] : List UInt8), 0, 0, 0, false)
  else
    bif (inB v7 v4.length) then
      k0 (((v4.getD v7.toNat (.i 0)).cell 0).toS, ((v4.getD v7.toNat (.i 0)).cell 1).toI, ((v4.getD v7.toNat (.i 0)).cell 2).toI, ((v4.getD v7.toNat (.i 0)).cell 3).toI, ((v4.getD v7.toNat (.i 0)).cell 4).toB)
    else
      none
noncomputable def G63x0 (v4 : LD) (v7 : Int) : Option (Ty7) := F63x0 N v4 v7 (fun p => some p)
theorem bind63x0 (v4 : LD) (v7 : Int) (k0 : Ty7 → Option R) : F63x0 N v4 v7 k0 = (G63x0 N v4 v7).bind k0 := by
  unfold G63x0 F63x0
  repeat' (first | rfl | apply cond_b | (apply bnd_b; intro _))
noncomputable def sh63x0 : Sh := { tmps := [(0, .g ([.i .i64, .i .i64, .i .i64, .sl 66, .sl 68])), (1, .c (.i .i64))], mem := [] }
noncomputable def K63x0w0 (L : List Lf) (p : Ty7) : Res := ([.g [.s p.1, .i .i64 p.2.1, .i .i64 p.2.2.1, .i .i64 p.2.2.2.1, .b p.2.2.2.2]], [])
noncomputable def A63x0 (L : List Lf) : List (Bool × Res) := bnd (F63x0 N (ll L 4) (li L 7) (fun p => some p)) fun q => [(q.isSome, K63x0w0 L (q.getD default))]
theorem raw63x0 (L : List Lf) : bd Try.prog (T58x0 N) (h63x0s0 N).h 63 sh63x0 L = F63x0 N (ll L 4) (li L 7) (fun p => some (K63x0w0 L p)) := by kernel_rfl
theorem ok63x0 : FnOk Try.prog 63 sh63x0 (A63x0 N) :=
  (h63x0s0 N).fn progOk (T58x0_ok N) fun L x hx => ((raw63x0 N L).trans ((bind63x0 N ..).trans (alt1 x hx)))
noncomputable def T63x0 : Oracle := ext 63 (spSh sh63x0 (A63x0 N)) (T58x0 N)
theorem T63x0_ok : OracleOk Try.prog (T63x0 N) := FnOk.to (ok63x0 N) (T58x0_ok N)
noncomputable def rg71x0 : List (Nat × List Nat) := [(0, [0, 1]), (1, [1, 2]), (2, [1, 5, 2]), (3, [10, 9, 8, 5, 2]), (4, [10, 8, 5, 2, 9]), (5, [6, 5, 2, 7, 10, 9, 8]), (6, [5, 6, 2, 7, 10, 9, 8]), (7, [5, 6, 2, 7, 10, 9, 8]), (8, [10, 9, 8, 5, 2]), (9, [5])]
noncomputable def hd71x0 : Hints := [(9, [10, 9, 8, 5, 2], [2, 5], [5]), (20, [5, 6, 2, 7, 10, 9, 8, 17], [5, 2], [])]
noncomputable def h71x0s0 (N : Nat) : Sg Try.prog 0 71 := .start hd71x0 rg71x0
noncomputable def F71x0x20 (N : Nat) (w6 : Bool) (w15 : LD) (k0 : LD → Option R) (k1 : Unit → Option R) : Option R :=
  bif w6 then
    bif (decide ((w15.length + 1) * 8 ≤ room) && decide ((w15.length + 1) ≤ strMax)) then
      k0 (w15 ++ [(.i 0)])
    else
      none
  else
    k1 ()
noncomputable def G71x0x20 (w6 : Bool) (w15 : LD) : Option (Sum (LD) (Unit)) := F71x0x20 N w6 w15 (fun p => some (.inl p)) (fun p => some (.inr p))
theorem bind71x0x20 (w6 : Bool) (w15 : LD) (k0 : LD → Option R) (k1 : Unit → Option R) : F71x0x20 N w6 w15 k0 k1 = (G71x0x20 N w6 w15).bind (sumE k0 k1) := by
  unfold G71x0x20 F71x0x20
  repeat' (first | rfl | apply cond_b | (apply bnd_b; intro _))
noncomputable def sh71x0x20 : Sh := { tmps := [(2, .c (.p 2 0)), (5, .c (.o 5)), (6, .c (.i .i64)), (7, .c (.i .i64)), (8, .c (.sl 3)), (9, .c (.i .i64)), (10, .c (.i .i64)), (17, .c (.b))], mem := [(2, .box ([.i .i64, .i .i64, .i .i64, .sl 66, .sl 68])), (5, .row 3 true)] }
noncomputable def K71x0x20w0 (L : List Lf) (p : LD) : Ex × St := (.normal, mg (ofSh sh71x0x20 L) [2, 5, 6, 7, 8, 9, 10] [(5, .c (.o 20))] [2, 20] [(20, .row 3 true false p)])
noncomputable def K71x0x20w1 (L : List Lf) (_ : Unit) : Ex × St := (.normal, mg (ofSh sh71x0x20 L) [2, 5, 6, 7, 8, 9, 10] [] [2, 5] [])
noncomputable def A71x0x20 (L : List Lf) : List (Bool × (Ex × St)) := bnd (F71x0x20 N (lb L 6) (ll L 15) (fun p => some (.inl p)) (fun p => some (.inr p))) fun q => [((inlB q), K71x0x20w0 L (inlV q)), ((inrQ q).isSome, K71x0x20w1 L ())]
theorem raw71x0x20 (L : List Lf) : pc Try.prog (T63x0 N) (h71x0s0 N).h 0 100 71 20 sh71x0x20 L [5, 6, 2, 7, 10, 9, 8] [20, 2, 5] = F71x0x20 N (lb L 6) (ll L 15) (fun p => some (K71x0x20w0 L p)) (fun _ => some (K71x0x20w1 L ())) := by kernel_rfl
noncomputable def h71x0s1 : Sg Try.prog 0 71 :=
  (h71x0s0 N).cut (A71x0x20 N) progOk (T63x0_ok N) fun L x hx => (raw71x0x20 N L).trans ((bind71x0x20 N ..).trans ((altS alt1) x hx))
noncomputable def S71x0x9 (w1 : LD) (w2 : Int) (w8 : LD) (w3 : Int) (w11 : Bool) (w12 : LD) (kr : Int → Bool → LD → Option R) (k0 : Bool × LD → Option R) : Option R :=
  bif (decide (w3 < w2)) then
    bif (inB w3 w1.length) then
      bnd (G71x0x20 N ((w3.tmod 7) == 0) w12) fun y0 =>
      bif (inlB y0) then
        bif (inB (IntKind.wrap .i64 (w3.tdiv 7)) (inlV y0).length) then
          bif (decide ((IntKind.wrap .i64 (w3.tdiv 7)).toNat < (inlV y0).length)) then
            bnd ((inlV y0).getD (IntKind.wrap .i64 (w3.tdiv 7)).toNat (.i 0)).toI fun y1 =>
            bnd (G63x0 N w8 (w1.getD w3.toNat (.i 0)).toI) fun y2 =>
            bif y2.isSome then
              bnd (IntKind.wrap .i64 (y1 + (y2.getD default).2.1)) fun y3 =>
              bif (inB (IntKind.wrap .i64 (w3.tdiv 7)) (inlV y0).length) then
                bif (decide ((IntKind.wrap .i64 (w3.tdiv 7)).toNat < (inlV y0).length)) then
                  bnd (((inlV y0).set (IntKind.wrap .i64 (w3.tdiv 7)).toNat (.i y3)) : List D) fun y4 =>
                  kr (IntKind.wrap .i64 (w3 + 1)) false y4
                else
                  none
              else
                none
            else
              none
          else
            none
        else
          none
      else
        bif (inrQ y0).isSome then
          bif (inB (IntKind.wrap .i64 (w3.tdiv 7)) w12.length) then
            bif (decide ((IntKind.wrap .i64 (w3.tdiv 7)).toNat < w12.length)) then
              bnd (G63x0 N w8 (w1.getD w3.toNat (.i 0)).toI) fun y2 =>
              bif y2.isSome then
                bnd (IntKind.wrap .i64 ((w12.getD (IntKind.wrap .i64 (w3.tdiv 7)).toNat (.i 0)).toI + (y2.getD default).2.1)) fun y5 =>
                bif (inB (IntKind.wrap .i64 (w3.tdiv 7)) w12.length) then
                  bif (decide ((IntKind.wrap .i64 (w3.tdiv 7)).toNat < w12.length)) then
                    bnd ((w12.set (IntKind.wrap .i64 (w3.tdiv 7)).toNat (.i y5)) : List D) fun y6 =>
                    kr (IntKind.wrap .i64 (w3 + 1)) w11 y6
                  else
                    none
                else
                  none
              else
                none
            else
              none
          else
            none
        else
          none
    else
      none
  else
    k0 (w11, w12)
noncomputable def L71x0x9 (N : Nat) {R : Type} (w1 : LD) (w2 : Int) (w8 : LD) : Nat → Int → Bool → LD → (Bool × LD → Option R) → Option R
  | 0, _, _, _, _ => none
  | m + 1, w3, w11, w12, k0 => S71x0x9 N w1 w2 w8 w3 w11 w12 (fun w3 w11 w12 => L71x0x9 N w1 w2 w8 m w3 w11 w12 k0) k0
noncomputable def G71x0x9 (w1 : LD) (w2 : Int) (w8 : LD) (w3 : Int) (w11 : Bool) (w12 : LD) : Option (Bool × LD) := L71x0x9 N (R := (Bool × LD)) w1 w2 w8 N w3 w11 w12 (fun p => some p)
noncomputable def J71x0x9 (L x : List Lf) (kr : List Lf → Option R) (k0 : Bool × LD → Option R) : Option R := S71x0x9 N (ll L 1) (li L 2) (ll L 8) (li x 0) (lb x 1) (ll x 2) (fun w3 w11 w12 => kr [.i w3, .b w11, .l w12]) k0
theorem sb71x0x9 (L x : List Lf) (kr : List Lf → Option R) (k0 : Bool × LD → Option R) : J71x0x9 N L x kr k0 = (J71x0x9 N L x (fun y => some (.inl y)) (fun p => some (.inr p))).bind (sumE kr k0) := by
  unfold J71x0x9 S71x0x9
  repeat' (first | rfl | apply cond_b | (apply bnd_b; intro _))
noncomputable def Q71x0x9 (L : List Lf) (m : Nat) (x : List Lf) : Option (Bool × LD) := L71x0x9 N (R := (Bool × LD)) (ll L 1) (li L 2) (ll L 8) m (li x 0) (lb x 1) (ll x 2) (fun p => some p)
noncomputable def sh71x0x9 : Sh := { tmps := [(2, .c (.p 2 0)), (5, .c (.o 5)), (8, .c (.sl 3)), (9, .c (.i .i64)), (10, .c (.i .i64))], mem := [(2, .box ([.i .i64, .i .i64, .i .i64, .sl 66, .sl 68])), (5, .row 3 true)] }
noncomputable def A71x0x9 (L : List Lf) : List (Bool × (Ex × St)) := bnd (Q71x0x9 N L N (pk sh71x0x9 [3, 11, 12] L)) fun q => [(q.isSome, ((.exit 0), ⟨[(5, .c (.o 5))], [(5, .row 3 true (q.getD default).1 (q.getD default).2)]⟩))]
theorem step71x0x9 (m : Nat) (kn : St → Option (Ex × St)) (L x : List Lf) : lpB Try.prog (T63x0 N) (h71x0s1 N).h 0 71 9 sh71x0x9 [3, 11, 12] [4, 5] [5] (m + 100) kn L x = J71x0x9 N L x (fun y => kn (ofSh sh71x0x9 (mx sh71x0x9 [3, 11, 12] L y))) (fun p => some ((.exit 0), ⟨[(5, .c (.o 5))], [(5, .row 3 true p.1 p.2)]⟩)) := by kernel_rfl
noncomputable def h71x0s2 : Sg Try.prog 0 71 :=
  (h71x0s1 N).lp (A71x0x9 N) N progOk (T63x0_ok N) (fun m kn L x => (step71x0x9 N m kn L x).trans (sb71x0x9 N L x _ _)) (fun L m x => sb71x0x9 N L x (Q71x0x9 N L m) some) fun L x hx => alt1 x hx
noncomputable def F71x0 (v4 v8 : LD) (k0 : Bool × LD → Option R) : Option R :=
  bnd (G71x0x9 N v8 (v8.length : Int) v4 0 true []) fun y0 =>
  bif y0.isSome then
    k0 (y0.getD default)
  else
    none
noncomputable def G71x0 (v4 v8 : LD) : Option (Bool × LD) := F71x0 N v4 v8 (fun p => some p)
theorem bind71x0 (v4 v8 : LD) (k0 : Bool × LD → Option R) : F71x0 N v4 v8 k0 = (G71x0 N v4 v8).bind k0 := by
  unfold G71x0 F71x0
  repeat' (first | rfl | apply cond_b | (apply bnd_b; intro _))
noncomputable def sh71x0 : Sh := { tmps := [(0, .g ([.i .i64, .i .i64, .i .i64, .sl 66, .sl 68])), (1, .c (.sl 3))], mem := [] }
noncomputable def A71x0 (L : List Lf) : List (Bool × Res) := bnd (F71x0 N (ll L 4) (ll L 8) (fun p => some p)) fun q => [(q.isSome, ([.c (.sl 3 (q.getD default).1 (q.getD default).2)], []))]
theorem raw71x0 (L : List Lf) : bd Try.prog (T63x0 N) (h71x0s2 N).h 71 sh71x0 L = F71x0 N (ll L 4) (ll L 8) (fun p => some ([.c (.sl 3 p.1 p.2)], [])) := by kernel_rfl
theorem ok71x0 : FnOk Try.prog 71 sh71x0 (A71x0 N) :=
  (h71x0s2 N).fn progOk (T63x0_ok N) fun L x hx => ((raw71x0 N L).trans ((bind71x0 N ..).trans (alt1 x hx)))
noncomputable def T71x0 : Oracle := ext 71 (spSh sh71x0 (A71x0 N)) (T63x0 N)
theorem T71x0_ok : OracleOk Try.prog (T71x0 N) := FnOk.to (ok71x0 N) (T63x0_ok N)
noncomputable def rg62x0 : List (Nat × List Nat) := [(0, [0, 1, 2]), (1, [3, 2, 4]), (2, [4, 2, 3, 7]), (9, [28, 2, 3, 4, 7]), (10, [28, 2, 3, 4, 7]), (18, [28, 7, 4, 2, 3]), (25, [28, 7, 2, 4, 3]), (32, [28, 2, 3, 4, 7]), (43, [28, 7, 2, 3, 4]), (56, [28, 3, 7, 4, 2]), (65, [28, 3, 2, 4]), (3, [4, 3, 2]), (4, [4, 22, 3, 2]), (5, [23, 4, 22, 3, 2]), (7, [22, 3, 2, 23, 4]), (6, [23, 4, 22, 3, 2]), (8, [22, 4]), (66, [3, 2, 4]), (57, [3, 7, 4]), (58, [7, 4, 19]), (59, [221, 220, 219, 4, 19]), (60, [219, 221, 4, 19, 220]), (61, [21, 4, 19, 221, 220, 219]), (62, []), (63, [21, 221, 220, 219, 4]), (64, [221, 220, 219, 4, 19]), (44, [7, 2, 3, 4]), (45, [170, 169, 2, 3, 4]), (46, [170, 2, 3, 4, 169]), (47, [16, 2, 3, 4, 170, 169]), (48, [16, 2, 3, 4, 17, 170, 169]), (49, [18, 16, 2, 3, 4, 17, 170, 169]), (51, [2, 18, 3, 4, 17, 16, 170, 169]), (52, [17, 18, 16, 2, 3, 4, 170, 169]), (50, [18, 16, 2, 3, 4, 17, 170, 169]), (53, [17, 4, 16, 2, 170, 169, 3]), (54, []), (55, [170, 169, 2, 3, 4]), (33, [2, 3, 4]), (34, [133, 132, 3, 2, 4]), (35, [133, 3, 2, 4, 132]), (36, [14, 3, 2, 4, 133, 132]), (37, [137, 136, 3, 2, 14, 4, 133, 132]), (38, [137, 3, 2, 14, 4, 136, 133, 132]), (39, [3, 2, 14, 15, 4, 137, 136, 133, 132]), (40, []), (41, [137, 136, 3, 2, 14, 4, 133, 132]), (42, [133, 132, 3, 2, 4]), (26, [7, 2, 4]), (27, [111, 110, 109, 2, 4]), (28, [111, 109, 2, 4, 110]), (29, [12, 2, 13, 4, 111, 110, 109]), (30, []), (31, [111, 110, 109, 2, 4]), (19, [7, 4]), (20, [98, 97, 96, 4]), (21, [96, 98, 4, 97]), (22, [11, 4, 98, 97, 96]), (23, []), (24, [98, 97, 96, 4]), (11, [2, 3, 4]), (12, [59, 58, 57, 3, 4]), (13, [59, 57, 3, 4, 58]), (14, [3, 8, 4, 59, 58, 57, 9]), (15, [4, 9, 3, 59, 58, 57]), (16, []), (17, [59, 58, 57, 3, 4]), (67, [])]
noncomputable def hd62x0 : Hints := [(30002, [2, 3, 4, 28, 7, 54], [4, 3], []), (36, [59, 58, 57, 3, 4], [4, 3], []), (46, [4, 9, 3, 59, 58, 57], [4, 3], []), (60, [98, 97, 96, 4], [4], []), (81, [111, 110, 109, 2, 4], [4], []), (102, [133, 132, 3, 2, 4], [4, 3], []), (111, [137, 136, 3, 2, 14, 4, 133, 132], [4, 3], []), (118, [3, 2, 14, 15, 4, 137, 136, 133, 132], [4, 3], []), (135, [170, 169, 2, 3, 4], [4, 3], []), (147, [18, 16, 2, 3, 4, 17, 170, 169], [4, 3], []), (158, [17, 18, 16, 2, 3, 4, 170, 169, 193], [4, 3], []), (177, [221, 220, 219, 4, 19], [4], []), (15, [23, 4, 22, 3, 2], [4, 3], []), (168134, [7, 2, 3, 4, 28, 166], [4, 3], []), (129101, [2, 3, 4, 28, 7, 129], [4, 3], []), (96080, [7, 2, 4, 28, 3, 107], [4, 3], []), (75059, [7, 4, 28, 2, 3, 94], [4, 3], []), (54035, [2, 3, 4, 28, 7, 54], [4, 3], [])]
noncomputable def h62x0s0 (N : Nat) : Sg Try.prog 0 62 := .start hd62x0 rg62x0
noncomputable def F62x0x30002 (N : Nat) (w4 : Int) (w5 : Bool) (k0 : Bool → R) : R :=
  bif w5 then
    k0 true
  else
    k0 (w4 == 2)
noncomputable def V62x0x30002 (w4 : Int) (w5 : Bool) : Bool := F62x0x30002 N w4 w5 (fun p => p)
theorem tot62x0x30002 (w4 : Int) (w5 : Bool) (k0 : Bool → R) : F62x0x30002 N w4 w5 k0 = k0 (V62x0x30002 N w4 w5) := by
  unfold V62x0x30002 F62x0x30002
  repeat' (first | rfl | apply cond_k | (apply bnd_k; intro _))
noncomputable def sh62x0x30002 : Sh := { tmps := [(2, .c (.sl 3)), (3, .c (.p 3 0)), (4, .c (.p 4 0)), (7, .c (.sl 3)), (28, .c (.i .i64)), (54, .c (.b))], mem := [(3, .box ([.i .i64, .i .i64, .i .i64, .sl 66, .sl 68])), (4, .box (rI 5 ([.s])))] }
noncomputable def K62x0x30002w0 (L : List Lf) (p : Bool) : Ex × St := (.normal, mg (ofSh sh62x0x30002 L) [2, 3, 4, 7, 28, 54] [(54, .c (.b p))] [3, 4] [])
noncomputable def A62x0x30002 (L : List Lf) : List (Bool × (Ex × St)) := bnd (F62x0x30002 N (li L 4) (lb L 5) (fun p => p)) fun q => [(true, K62x0x30002w0 L q)]
theorem raw62x0x30002 (L : List Lf) : pc Try.prog (T71x0 N) (h62x0s0 N).h 0 100 62 30002 sh62x0x30002 L [2, 3, 4, 28, 7, 54] [4, 3] = F62x0x30002 N (li L 4) (lb L 5) (fun p => some (K62x0x30002w0 L p)) := by kernel_rfl
noncomputable def h62x0s1 : Sg Try.prog 0 62 :=
  (h62x0s0 N).cut (A62x0x30002 N) progOk (T71x0_ok N) fun L x hx => (raw62x0x30002 N L).trans ((tot62x0x30002 N ..).trans (alt0 _ _ hx))
noncomputable def F62x0x46 (w0 : Int) (w9 : LD) (w12 w14 : Int) (k0 : Bool → Option R) : Option R :=
  bif (w12 == 1) then
    bif (decide (w0 ≥ 0)) then
      k0 true
    else
      bif (w12 == 2) then
        bnd (G63x0 N w9 w0) fun y0 =>
        bif y0.isSome then
          k0 (decide ((y0.getD default).2.2.1 > w14))
        else
          none
      else
        k0 false
  else
    bif (w12 == 2) then
      bnd (G63x0 N w9 w0) fun y0 =>
      bif y0.isSome then
        k0 (decide ((y0.getD default).2.2.1 > w14))
      else
        none
    else
      k0 false
noncomputable def G62x0x46 (w0 : Int) (w9 : LD) (w12 w14 : Int) : Option (Bool) := F62x0x46 N w0 w9 w12 w14 (fun p => some p)
theorem bind62x0x46 (w0 : Int) (w9 : LD) (w12 w14 : Int) (k0 : Bool → Option R) : F62x0x46 N w0 w9 w12 w14 k0 = (G62x0x46 N w0 w9 w12 w14).bind k0 := by
  unfold G62x0x46 F62x0x46
  repeat' (first | rfl | apply cond_b | (apply bnd_b; intro _))
noncomputable def J62x0x46 (L : List Lf) (k0 : Bool → Option R) : Option R := F62x0x46 N (li L 0) (ll L 9) (li L 12) (li L 14) k0
noncomputable def sh62x0x46 : Sh := { tmps := [(3, .c (.p 3 0)), (4, .c (.p 4 0)), (9, .c (.i .i64)), (57, .c (.sl 3)), (58, .c (.i .i64)), (59, .c (.i .i64))], mem := [(3, .box ([.i .i64, .i .i64, .i .i64, .sl 66, .sl 68])), (4, .box (rI 5 ([.s])))] }
noncomputable def K62x0x46w0 (L : List Lf) (p : Bool) : Ex × St := (.normal, mg (ofSh sh62x0x46 L) [3, 4, 57, 58, 59, 92] [(92, .c (.b p))] [3, 4] [])
noncomputable def A62x0x46 (L : List Lf) : List (Bool × (Ex × St)) := bnd (J62x0x46 N L (fun p => some p)) fun q => [(q.isSome, K62x0x46w0 L (q.getD default))]
theorem raw62x0x46 (L : List Lf) : pc Try.prog (T71x0 N) (h62x0s1 N).h 0 100 62 46 sh62x0x46 L [59, 58, 57, 3, 4, 92] [4, 3] = J62x0x46 N L (fun p => some (K62x0x46w0 L p)) := by kernel_rfl
noncomputable def h62x0s2 : Sg Try.prog 0 62 :=
  (h62x0s1 N).cut (A62x0x46 N) progOk (T71x0_ok N) fun L x hx => (raw62x0x46 N L).trans ((bind62x0x46 N ..).trans (alt1 x hx))
noncomputable def S62x0x36 (w1 : LD) (w2 w4 : Int) (w8 : LD) (w11 w12 w13 : Int) (w3 : Int) (kr : Int → Option R) (k0 : Unit → Option R) (k1 : Unit → Option R) : Option R :=
  bif (decide (w3 < w2)) then
    bif (inB w3 w1.length) then
      bif (((IntKind.wrap .i64 (w4 + w3)).tmod 7) != w12) then
        kr (IntKind.wrap .i64 (w3 + 1))
      else
        bnd (G62x0x46 N (w1.getD w3.toNat (.i 0)).toI w8 w11 w13) fun y0 =>
        bif y0.isSome then
          bif (y0.getD default) then
            k0 ()
          else
            kr (IntKind.wrap .i64 (w3 + 1))
        else
          none
    else
      none
  else
    k1 ()
noncomputable def L62x0x36 (N : Nat) {R : Type} (w1 : LD) (w2 w4 : Int) (w8 : LD) (w11 w12 w13 : Int) : Nat → Int → (Unit → Option R) → (Unit → Option R) → Option R
  | 0, _, _, _ => none
  | m + 1, w3, k0, k1 => S62x0x36 N w1 w2 w4 w8 w11 w12 w13 w3 (fun w3 => L62x0x36 N w1 w2 w4 w8 w11 w12 w13 m w3 k0 k1) k0 k1
noncomputable def G62x0x36 (w1 : LD) (w2 w4 : Int) (w8 : LD) (w11 w12 w13 : Int) (w3 : Int) : Option (Sum (Unit) (Unit)) := L62x0x36 N (R := (Sum (Unit) (Unit))) w1 w2 w4 w8 w11 w12 w13 N w3 (fun p => some (.inl p)) (fun p => some (.inr p))
noncomputable def J62x0x36 (L x : List Lf) (kr : List Lf → Option R) (k0 : Unit → Option R) (k1 : Unit → Option R) : Option R := S62x0x36 N (ll L 1) (li L 2) (li L 4) (ll L 8) (li L 11) (li L 12) (li L 13) (li x 0) (fun w3 => kr [.i w3]) k0 k1
theorem sb62x0x36 (L x : List Lf) (kr : List Lf → Option R) (k0 : Unit → Option R) (k1 : Unit → Option R) : J62x0x36 N L x kr k0 k1 = (J62x0x36 N L x (fun y => some (.inl y)) (fun p => some (.inr (.inl p))) (fun p => some (.inr (.inr p)))).bind (sumE kr (sumE k0 k1)) := by
  unfold J62x0x36 S62x0x36
  repeat' (first | rfl | apply cond_b | (apply bnd_b; intro _))
noncomputable def Q62x0x36 (L : List Lf) (m : Nat) (x : List Lf) : Option (Sum (Unit) (Unit)) := L62x0x36 N (R := (Sum (Unit) (Unit))) (ll L 1) (li L 2) (li L 4) (ll L 8) (li L 11) (li L 12) (li L 13) m (li x 0) (fun p => some (.inl p)) (fun p => some (.inr p))
noncomputable def sh62x0x36 : Sh := { tmps := [(3, .c (.p 3 0)), (4, .c (.p 4 0)), (57, .c (.sl 3)), (58, .c (.i .i64)), (59, .c (.i .i64))], mem := [(3, .box ([.i .i64, .i .i64, .i .i64, .sl 66, .sl 68])), (4, .box (rI 5 ([.s])))] }
noncomputable def A62x0x36 (L : List Lf) : List (Bool × (Ex × St)) := bnd (Q62x0x36 N L N (pk sh62x0x36 [3] L)) fun q => [((inlB q), (.ret, ⟨[(6, .c (.b false))], []⟩)), ((inrQ q).isSome, ((.exit 3), ⟨[], []⟩))]
theorem step62x0x36 (m : Nat) (kn : St → Option (Ex × St)) (L x : List Lf) : lpB Try.prog (T71x0 N) (h62x0s2 N).h 0 62 36 sh62x0x36 [3] [6] [] (m + 100) kn L x = J62x0x36 N L x (fun y => kn (ofSh sh62x0x36 (mx sh62x0x36 [3] L y))) (fun _ => some (.ret, ⟨[(6, .c (.b false))], []⟩)) (fun _ => some ((.exit 3), ⟨[], []⟩)) := by kernel_rfl
noncomputable def h62x0s3 : Sg Try.prog 0 62 :=
  (h62x0s2 N).lp (A62x0x36 N) N progOk (T71x0_ok N) (fun m kn L x => (step62x0x36 N m kn L x).trans (sb62x0x36 N L x _ _ _)) (fun L m x => sb62x0x36 N L x (Q62x0x36 N L m) (fun p => some (.inl p)) (fun p => some (.inr p))) fun L x hx => (altS alt1) x hx
noncomputable def S62x0x60 (N : Nat) (w1 : LD) (w2 w6 : Int) (w3 : Int) (kr : Int → Option R) (k0 : Unit → Option R) (k1 : Unit → Option R) : Option R :=
  bif (decide (w3 < w2)) then
    bif (inB w3 w1.length) then
      bif (decide ((w1.getD w3.toNat (.i 0)).toI > w6)) then
        k0 ()
      else
        kr (IntKind.wrap .i64 (w3 + 1))
    else
      none
  else
    k1 ()
noncomputable def L62x0x60 (N : Nat) {R : Type} (w1 : LD) (w2 w6 : Int) : Nat → Int → (Unit → Option R) → (Unit → Option R) → Option R
  | 0, _, _, _ => none
  | m + 1, w3, k0, k1 => S62x0x60 N w1 w2 w6 w3 (fun w3 => L62x0x60 N w1 w2 w6 m w3 k0 k1) k0 k1
noncomputable def G62x0x60 (w1 : LD) (w2 w6 : Int) (w3 : Int) : Option (Sum (Unit) (Unit)) := L62x0x60 N (R := (Sum (Unit) (Unit))) w1 w2 w6 N w3 (fun p => some (.inl p)) (fun p => some (.inr p))
noncomputable def J62x0x60 (L x : List Lf) (kr : List Lf → Option R) (k0 : Unit → Option R) (k1 : Unit → Option R) : Option R := S62x0x60 N (ll L 1) (li L 2) (li L 6) (li x 0) (fun w3 => kr [.i w3]) k0 k1
theorem sb62x0x60 (L x : List Lf) (kr : List Lf → Option R) (k0 : Unit → Option R) (k1 : Unit → Option R) : J62x0x60 N L x kr k0 k1 = (J62x0x60 N L x (fun y => some (.inl y)) (fun p => some (.inr (.inl p))) (fun p => some (.inr (.inr p)))).bind (sumE kr (sumE k0 k1)) := by
  unfold J62x0x60 S62x0x60
  repeat' (first | rfl | apply cond_b | (apply bnd_b; intro _))
noncomputable def Q62x0x60 (L : List Lf) (m : Nat) (x : List Lf) : Option (Sum (Unit) (Unit)) := L62x0x60 N (R := (Sum (Unit) (Unit))) (ll L 1) (li L 2) (li L 6) m (li x 0) (fun p => some (.inl p)) (fun p => some (.inr p))
noncomputable def sh62x0x60 : Sh := { tmps := [(4, .c (.p 4 0)), (96, .c (.sl 3)), (97, .c (.i .i64)), (98, .c (.i .i64))], mem := [(4, .box (rI 5 ([.s])))] }
noncomputable def A62x0x60 (L : List Lf) : List (Bool × (Ex × St)) := bnd (Q62x0x60 N L N (pk sh62x0x60 [3] L)) fun q => [((inlB q), (.ret, ⟨[(6, .c (.b false))], []⟩)), ((inrQ q).isSome, ((.exit 5), ⟨[], []⟩))]
theorem step62x0x60 (m : Nat) (kn : St → Option (Ex × St)) (L x : List Lf) : lpB Try.prog (T71x0 N) (h62x0s3 N).h 0 62 60 sh62x0x60 [3] [6] [] (m + 100) kn L x = J62x0x60 N L x (fun y => kn (ofSh sh62x0x60 (mx sh62x0x60 [3] L y))) (fun _ => some (.ret, ⟨[(6, .c (.b false))], []⟩)) (fun _ => some ((.exit 5), ⟨[], []⟩)) := by kernel_rfl
noncomputable def h62x0s4 : Sg Try.prog 0 62 :=
  (h62x0s3 N).lp (A62x0x60 N) N progOk (T71x0_ok N) (fun m kn L x => (step62x0x60 N m kn L x).trans (sb62x0x60 N L x _ _ _)) (fun L m x => sb62x0x60 N L x (Q62x0x60 N L m) (fun p => some (.inl p)) (fun p => some (.inr p))) fun L x hx => (altS alt1) x hx
noncomputable def S62x0x81 (N : Nat) (w1 w3 : LD) (w4 w8 : Int) (w5 : Int) (kr : Int → Option R) (k0 : Unit → Option R) (k1 : Unit → Option R) : Option R :=
  bif (decide (w5 < w4)) then
    bif (inB w5 w3.length) then
      bnd (decide ((IntKind.wrap .i64 ((IntKind.wrap .i64 (7 * w5)) + 7)) ≤ (w1.length : Int))) fun y0 =>
      bnd (bif y0 then (decide ((w3.getD w5.toNat (.i 0)).toI < w8)) else false) fun y1 =>
      bif y1 then
        k0 ()
      else
        kr (IntKind.wrap .i64 (w5 + 1))
    else
      none
  else
    k1 ()
noncomputable def L62x0x81 (N : Nat) {R : Type} (w1 w3 : LD) (w4 w8 : Int) : Nat → Int → (Unit → Option R) → (Unit → Option R) → Option R
  | 0, _, _, _ => none
  | m + 1, w5, k0, k1 => S62x0x81 N w1 w3 w4 w8 w5 (fun w5 => L62x0x81 N w1 w3 w4 w8 m w5 k0 k1) k0 k1
noncomputable def G62x0x81 (w1 w3 : LD) (w4 w8 : Int) (w5 : Int) : Option (Sum (Unit) (Unit)) := L62x0x81 N (R := (Sum (Unit) (Unit))) w1 w3 w4 w8 N w5 (fun p => some (.inl p)) (fun p => some (.inr p))
noncomputable def J62x0x81 (L x : List Lf) (kr : List Lf → Option R) (k0 : Unit → Option R) (k1 : Unit → Option R) : Option R := S62x0x81 N (ll L 1) (ll L 3) (li L 4) (li L 8) (li x 0) (fun w5 => kr [.i w5]) k0 k1
theorem sb62x0x81 (L x : List Lf) (kr : List Lf → Option R) (k0 : Unit → Option R) (k1 : Unit → Option R) : J62x0x81 N L x kr k0 k1 = (J62x0x81 N L x (fun y => some (.inl y)) (fun p => some (.inr (.inl p))) (fun p => some (.inr (.inr p)))).bind (sumE kr (sumE k0 k1)) := by
  unfold J62x0x81 S62x0x81
  repeat' (first | rfl | apply cond_b | (apply bnd_b; intro _))
noncomputable def Q62x0x81 (L : List Lf) (m : Nat) (x : List Lf) : Option (Sum (Unit) (Unit)) := L62x0x81 N (R := (Sum (Unit) (Unit))) (ll L 1) (ll L 3) (li L 4) (li L 8) m (li x 0) (fun p => some (.inl p)) (fun p => some (.inr p))
noncomputable def sh62x0x81 : Sh := { tmps := [(2, .c (.sl 3)), (4, .c (.p 4 0)), (109, .c (.sl 3)), (110, .c (.i .i64)), (111, .c (.i .i64))], mem := [(4, .box (rI 5 ([.s])))] }
noncomputable def A62x0x81 (L : List Lf) : List (Bool × (Ex × St)) := bnd (Q62x0x81 N L N (pk sh62x0x81 [5] L)) fun q => [((inlB q), (.ret, ⟨[(6, .c (.b false))], []⟩)), ((inrQ q).isSome, ((.exit 7), ⟨[], []⟩))]
theorem step62x0x81 (m : Nat) (kn : St → Option (Ex × St)) (L x : List Lf) : lpB Try.prog (T71x0 N) (h62x0s4 N).h 0 62 81 sh62x0x81 [5] [6] [] (m + 100) kn L x = J62x0x81 N L x (fun y => kn (ofSh sh62x0x81 (mx sh62x0x81 [5] L y))) (fun _ => some (.ret, ⟨[(6, .c (.b false))], []⟩)) (fun _ => some ((.exit 7), ⟨[], []⟩)) := by kernel_rfl
noncomputable def h62x0s5 : Sg Try.prog 0 62 :=
  (h62x0s4 N).lp (A62x0x81 N) N progOk (T71x0_ok N) (fun m kn L x => (step62x0x81 N m kn L x).trans (sb62x0x81 N L x _ _ _)) (fun L m x => sb62x0x81 N L x (Q62x0x81 N L m) (fun p => some (.inl p)) (fun p => some (.inr p))) fun L x hx => (altS alt1) x hx
noncomputable def F62x0x118 (w1 : LD) (w2 w3 : Int) (w12 : LD) (w17 : Int) (k0 : Bool → Option R) : Option R :=
  bif (inB w2 w1.length) then
    bnd (G63x0 N w12 (w1.getD w2.toNat (.i 0)).toI) fun y0 =>
    bif y0.isSome then
      bif (y0.getD default).2.2.2.2 then
        bif (inB w3 w1.length) then
          bnd (G63x0 N w12 (w1.getD w3.toNat (.i 0)).toI) fun y1 =>
          bif y1.isSome then
            bif (y1.getD default).2.2.2.2 then
              k0 (decide ((IntKind.wrap .i64 (w2 - w3)) < w17))
            else
              k0 false
          else
            none
        else
          none
      else
        k0 false
    else
      none
  else
    none
noncomputable def G62x0x118 (w1 : LD) (w2 w3 : Int) (w12 : LD) (w17 : Int) : Option (Bool) := F62x0x118 N w1 w2 w3 w12 w17 (fun p => some p)
theorem bind62x0x118 (w1 : LD) (w2 w3 : Int) (w12 : LD) (w17 : Int) (k0 : Bool → Option R) : F62x0x118 N w1 w2 w3 w12 w17 k0 = (G62x0x118 N w1 w2 w3 w12 w17).bind k0 := by
  unfold G62x0x118 F62x0x118
  repeat' (first | rfl | apply cond_b | (apply bnd_b; intro _))
noncomputable def J62x0x118 (L : List Lf) (k0 : Bool → Option R) : Option R := F62x0x118 N (ll L 1) (li L 2) (li L 3) (ll L 12) (li L 17) k0
noncomputable def sh62x0x118 : Sh := { tmps := [(2, .c (.sl 3)), (3, .c (.p 3 0)), (4, .c (.p 4 0)), (14, .c (.i .i64)), (15, .c (.i .i64)), (132, .c (.i .i64)), (133, .c (.i .i64)), (136, .c (.i .i64)), (137, .c (.i .i64))], mem := [(3, .box ([.i .i64, .i .i64, .i .i64, .sl 66, .sl 68])), (4, .box (rI 5 ([.s])))] }
noncomputable def K62x0x118w0 (L : List Lf) (p : Bool) : Ex × St := (.normal, mg (ofSh sh62x0x118 L) [2, 3, 4, 14, 132, 133, 136, 137, 163] [(163, .c (.b p))] [3, 4] [])
noncomputable def A62x0x118 (L : List Lf) : List (Bool × (Ex × St)) := bnd (J62x0x118 N L (fun p => some p)) fun q => [(q.isSome, K62x0x118w0 L (q.getD default))]
theorem raw62x0x118 (L : List Lf) : pc Try.prog (T71x0 N) (h62x0s5 N).h 0 100 62 118 sh62x0x118 L [137, 136, 3, 2, 14, 4, 133, 132, 163] [4, 3] = J62x0x118 N L (fun p => some (K62x0x118w0 L p)) := by kernel_rfl
noncomputable def h62x0s6 : Sg Try.prog 0 62 :=
  (h62x0s5 N).cut (A62x0x118 N) progOk (T71x0_ok N) fun L x hx => (raw62x0x118 N L).trans ((bind62x0x118 N ..).trans (alt1 x hx))
noncomputable def S62x0x111 (w1 : LD) (w2 w5 : Int) (w11 : LD) (w16 : Int) (w6 : Int) (kr : Int → Option R) (k0 : Unit → Option R) (k1 : Unit → Option R) : Option R :=
  bif (decide (w6 < w5)) then
    bnd (G62x0x118 N w1 w2 w6 w11 w16) fun y0 =>
    bif y0.isSome then
      bif (y0.getD default) then
        k0 ()
      else
        kr (IntKind.wrap .i64 (w6 + 1))
    else
      none
  else
    k1 ()
noncomputable def L62x0x111 (N : Nat) {R : Type} (w1 : LD) (w2 w5 : Int) (w11 : LD) (w16 : Int) : Nat → Int → (Unit → Option R) → (Unit → Option R) → Option R
  | 0, _, _, _ => none
  | m + 1, w6, k0, k1 => S62x0x111 N w1 w2 w5 w11 w16 w6 (fun w6 => L62x0x111 N w1 w2 w5 w11 w16 m w6 k0 k1) k0 k1
noncomputable def G62x0x111 (w1 : LD) (w2 w5 : Int) (w11 : LD) (w16 : Int) (w6 : Int) : Option (Sum (Unit) (Unit)) := L62x0x111 N (R := (Sum (Unit) (Unit))) w1 w2 w5 w11 w16 N w6 (fun p => some (.inl p)) (fun p => some (.inr p))
noncomputable def J62x0x111 (L x : List Lf) (kr : List Lf → Option R) (k0 : Unit → Option R) (k1 : Unit → Option R) : Option R := S62x0x111 N (ll L 1) (li L 2) (li L 5) (ll L 11) (li L 16) (li x 0) (fun w6 => kr [.i w6]) k0 k1
theorem sb62x0x111 (L x : List Lf) (kr : List Lf → Option R) (k0 : Unit → Option R) (k1 : Unit → Option R) : J62x0x111 N L x kr k0 k1 = (J62x0x111 N L x (fun y => some (.inl y)) (fun p => some (.inr (.inl p))) (fun p => some (.inr (.inr p)))).bind (sumE kr (sumE k0 k1)) := by
  unfold J62x0x111 S62x0x111
  repeat' (first | rfl | apply cond_b | (apply bnd_b; intro _))
noncomputable def Q62x0x111 (L : List Lf) (m : Nat) (x : List Lf) : Option (Sum (Unit) (Unit)) := L62x0x111 N (R := (Sum (Unit) (Unit))) (ll L 1) (li L 2) (li L 5) (ll L 11) (li L 16) m (li x 0) (fun p => some (.inl p)) (fun p => some (.inr p))
noncomputable def sh62x0x111 : Sh := { tmps := [(2, .c (.sl 3)), (3, .c (.p 3 0)), (4, .c (.p 4 0)), (14, .c (.i .i64)), (132, .c (.i .i64)), (133, .c (.i .i64)), (136, .c (.i .i64)), (137, .c (.i .i64))], mem := [(3, .box ([.i .i64, .i .i64, .i .i64, .sl 66, .sl 68])), (4, .box (rI 5 ([.s])))] }
noncomputable def K62x0x111w0 (L : List Lf) (_ : Unit) : Ex × St := (.ret, mg (ofSh sh62x0x111 L) [6] [(6, .c (.b false))] [3, 4] [])
noncomputable def K62x0x111w1 (L : List Lf) (_ : Unit) : Ex × St := ((.exit 11), mg (ofSh sh62x0x111 L) [2, 3, 4, 132, 133] [] [3, 4] [])
noncomputable def A62x0x111 (L : List Lf) : List (Bool × (Ex × St)) := bnd (Q62x0x111 N L N (pk sh62x0x111 [6] L)) fun q => [((inlB q), K62x0x111w0 L ()), ((inrQ q).isSome, K62x0x111w1 L ())]
theorem step62x0x111 (m : Nat) (kn : St → Option (Ex × St)) (L x : List Lf) : lpB Try.prog (T71x0 N) (h62x0s6 N).h 0 62 111 sh62x0x111 [6] [6, 133, 132, 3, 2, 4] [4, 3] (m + 100) kn L x = J62x0x111 N L x (fun y => kn (ofSh sh62x0x111 (mx sh62x0x111 [6] L y))) (fun _ => some (K62x0x111w0 L ())) (fun _ => some (K62x0x111w1 L ())) := by kernel_rfl
noncomputable def h62x0s7 : Sg Try.prog 0 62 :=
  (h62x0s6 N).lp (A62x0x111 N) N progOk (T71x0_ok N) (fun m kn L x => (step62x0x111 N m kn L x).trans (sb62x0x111 N L x _ _ _)) (fun L m x => sb62x0x111 N L x (Q62x0x111 N L m) (fun p => some (.inl p)) (fun p => some (.inr p))) fun L x hx => (altS alt1) x hx
noncomputable def S62x0x102 (w1 : LD) (w2 : Int) (w8 : LD) (w13 : Int) (w3 : Int) (kr : Int → Option R) (k0 : Unit → Option R) (k1 : Unit → Option R) : Option R :=
  bif (decide (w3 < w2)) then
    bnd (G62x0x111 N w1 w3 w3 w8 w13 0) fun y0 =>
    bif (inlB y0) then
      k0 ()
    else
      bif (inrQ y0).isSome then
        kr (IntKind.wrap .i64 (w3 + 1))
      else
        none
  else
    k1 ()
noncomputable def L62x0x102 (N : Nat) {R : Type} (w1 : LD) (w2 : Int) (w8 : LD) (w13 : Int) : Nat → Int → (Unit → Option R) → (Unit → Option R) → Option R
  | 0, _, _, _ => none
  | m + 1, w3, k0, k1 => S62x0x102 N w1 w2 w8 w13 w3 (fun w3 => L62x0x102 N w1 w2 w8 w13 m w3 k0 k1) k0 k1
noncomputable def G62x0x102 (w1 : LD) (w2 : Int) (w8 : LD) (w13 : Int) (w3 : Int) : Option (Sum (Unit) (Unit)) := L62x0x102 N (R := (Sum (Unit) (Unit))) w1 w2 w8 w13 N w3 (fun p => some (.inl p)) (fun p => some (.inr p))
noncomputable def J62x0x102 (L x : List Lf) (kr : List Lf → Option R) (k0 : Unit → Option R) (k1 : Unit → Option R) : Option R := S62x0x102 N (ll L 1) (li L 2) (ll L 8) (li L 13) (li x 0) (fun w3 => kr [.i w3]) k0 k1
theorem sb62x0x102 (L x : List Lf) (kr : List Lf → Option R) (k0 : Unit → Option R) (k1 : Unit → Option R) : J62x0x102 N L x kr k0 k1 = (J62x0x102 N L x (fun y => some (.inl y)) (fun p => some (.inr (.inl p))) (fun p => some (.inr (.inr p)))).bind (sumE kr (sumE k0 k1)) := by
  unfold J62x0x102 S62x0x102
  repeat' (first | rfl | apply cond_b | (apply bnd_b; intro _))
noncomputable def Q62x0x102 (L : List Lf) (m : Nat) (x : List Lf) : Option (Sum (Unit) (Unit)) := L62x0x102 N (R := (Sum (Unit) (Unit))) (ll L 1) (li L 2) (ll L 8) (li L 13) m (li x 0) (fun p => some (.inl p)) (fun p => some (.inr p))
noncomputable def sh62x0x102 : Sh := { tmps := [(2, .c (.sl 3)), (3, .c (.p 3 0)), (4, .c (.p 4 0)), (132, .c (.i .i64)), (133, .c (.i .i64))], mem := [(3, .box ([.i .i64, .i .i64, .i .i64, .sl 66, .sl 68])), (4, .box (rI 5 ([.s])))] }
noncomputable def A62x0x102 (L : List Lf) : List (Bool × (Ex × St)) := bnd (Q62x0x102 N L N (pk sh62x0x102 [3] L)) fun q => [((inlB q), (.ret, ⟨[(6, .c (.b false))], []⟩)), ((inrQ q).isSome, ((.exit 9), ⟨[], []⟩))]
theorem step62x0x102 (m : Nat) (kn : St → Option (Ex × St)) (L x : List Lf) : lpB Try.prog (T71x0 N) (h62x0s7 N).h 0 62 102 sh62x0x102 [3] [6] [] (m + 100) kn L x = J62x0x102 N L x (fun y => kn (ofSh sh62x0x102 (mx sh62x0x102 [3] L y))) (fun _ => some (.ret, ⟨[(6, .c (.b false))], []⟩)) (fun _ => some ((.exit 9), ⟨[], []⟩)) := by kernel_rfl
noncomputable def h62x0s8 : Sg Try.prog 0 62 :=
  (h62x0s7 N).lp (A62x0x102 N) N progOk (T71x0_ok N) (fun m kn L x => (step62x0x102 N m kn L x).trans (sb62x0x102 N L x _ _ _)) (fun L m x => sb62x0x102 N L x (Q62x0x102 N L m) (fun p => some (.inl p)) (fun p => some (.inr p))) fun L x hx => (altS alt1) x hx
noncomputable def F62x0x158 (N : Nat) (w3 : Int) (w7 : Bool) (k0 : Int → R) : R :=
  bif w7 then
    k0 (IntKind.wrap .i64 (w3 + 1))
  else
    k0 w3
noncomputable def V62x0x158 (w3 : Int) (w7 : Bool) : Int := F62x0x158 N w3 w7 (fun p => p)
theorem tot62x0x158 (w3 : Int) (w7 : Bool) (k0 : Int → R) : F62x0x158 N w3 w7 k0 = k0 (V62x0x158 N w3 w7) := by
  unfold V62x0x158 F62x0x158
  repeat' (first | rfl | apply cond_k | (apply bnd_k; intro _))
noncomputable def sh62x0x158 : Sh := { tmps := [(2, .c (.sl 3)), (3, .c (.p 3 0)), (4, .c (.p 4 0)), (16, .c (.i .i64)), (17, .c (.i .i64)), (18, .c (.i .i64)), (169, .c (.i .i64)), (170, .c (.i .i64)), (193, .c (.b))], mem := [(3, .box ([.i .i64, .i .i64, .i .i64, .sl 66, .sl 68])), (4, .box (rI 5 ([.s])))] }
noncomputable def K62x0x158w0 (L : List Lf) (p : Int) : Ex × St := (.normal, mg (ofSh sh62x0x158 L) [2, 3, 4, 16, 17, 18, 169, 170] [(17, .c (.i .i64 p))] [3, 4] [])
noncomputable def A62x0x158 (L : List Lf) : List (Bool × (Ex × St)) := bnd (F62x0x158 N (li L 3) (lb L 7) (fun p => p)) fun q => [(true, K62x0x158w0 L q)]
theorem raw62x0x158 (L : List Lf) : pc Try.prog (T71x0 N) (h62x0s8 N).h 0 100 62 158 sh62x0x158 L [18, 16, 2, 3, 4, 17, 170, 169] [4, 3] = F62x0x158 N (li L 3) (lb L 7) (fun p => some (K62x0x158w0 L p)) := by kernel_rfl
noncomputable def h62x0s9 : Sg Try.prog 0 62 :=
  (h62x0s8 N).cut (A62x0x158 N) progOk (T71x0_ok N) fun L x hx => (raw62x0x158 N L).trans ((tot62x0x158 N ..).trans (alt0 _ _ hx))
noncomputable def S62x0x147 (w1 : LD) (w2 : Int) (w11 : LD) (w19 : LB) (w3 w4 : Int) (kr : Int → Int → Option R) (k0 : Int → Option R) : Option R :=
  bnd (min2 (IntKind.wrap .i64 ((IntKind.wrap .i64 (7 * w2)) + 7)) (w1.length : Int)) fun y0 =>
  bif (decide (w4 < y0)) then
    bif (inB w4 w1.length) then
      bnd (G55x0 N w11 w19) fun y1 =>
      bif y1.isSome then
        bnd (V62x0x158 N w3 ((w1.getD w4.toNat (.i 0)).toI == (y1.getD default))) fun y2 =>
        kr y2 (IntKind.wrap .i64 (w4 + 1))
      else
        none
    else
      none
  else
    k0 w3
noncomputable def L62x0x147 (N : Nat) {R : Type} (w1 : LD) (w2 : Int) (w11 : LD) (w19 : LB) : Nat → Int → Int → (Int → Option R) → Option R
  | 0, _, _, _ => none
  | m + 1, w3, w4, k0 => S62x0x147 N w1 w2 w11 w19 w3 w4 (fun w3 w4 => L62x0x147 N w1 w2 w11 w19 m w3 w4 k0) k0
noncomputable def G62x0x147 (w1 : LD) (w2 : Int) (w11 : LD) (w19 : LB) (w3 w4 : Int) : Option (Int) := L62x0x147 N (R := (Int)) w1 w2 w11 w19 N w3 w4 (fun p => some p)
noncomputable def J62x0x147 (L x : List Lf) (kr : List Lf → Option R) (k0 : Int → Option R) : Option R := S62x0x147 N (ll L 1) (li L 2) (ll L 11) (ls L 19) (li x 0) (li x 1) (fun w3 w4 => kr [.i w3, .i w4]) k0
theorem sb62x0x147 (L x : List Lf) (kr : List Lf → Option R) (k0 : Int → Option R) : J62x0x147 N L x kr k0 = (J62x0x147 N L x (fun y => some (.inl y)) (fun p => some (.inr p))).bind (sumE kr k0) := by
  unfold J62x0x147 S62x0x147
  repeat' (first | rfl | apply cond_b | (apply bnd_b; intro _))
noncomputable def Q62x0x147 (L : List Lf) (m : Nat) (x : List Lf) : Option (Int) := L62x0x147 N (R := (Int)) (ll L 1) (li L 2) (ll L 11) (ls L 19) m (li x 0) (li x 1) (fun p => some p)
noncomputable def sh62x0x147 : Sh := { tmps := [(2, .c (.sl 3)), (3, .c (.p 3 0)), (4, .c (.p 4 0)), (16, .c (.i .i64)), (17, .c (.i .i64)), (18, .c (.i .i64)), (169, .c (.i .i64)), (170, .c (.i .i64))], mem := [(3, .box ([.i .i64, .i .i64, .i .i64, .sl 66, .sl 68])), (4, .box (rI 5 ([.s])))] }
noncomputable def K62x0x147w0 (L : List Lf) (p : Int) : Ex × St := ((.exit 15), mg (ofSh sh62x0x147 L) [2, 3, 4, 16, 17, 169, 170] [(17, .c (.i .i64 p))] [3, 4] [])
noncomputable def A62x0x147 (L : List Lf) : List (Bool × (Ex × St)) := bnd (Q62x0x147 N L N (pk sh62x0x147 [3, 4] L)) fun q => [(q.isSome, K62x0x147w0 L (q.getD default))]
theorem step62x0x147 (m : Nat) (kn : St → Option (Ex × St)) (L x : List Lf) : lpB Try.prog (T71x0 N) (h62x0s9 N).h 0 62 147 sh62x0x147 [3, 4] [6, 17, 4, 16, 2, 170, 169, 3] [4, 3] (m + 100) kn L x = J62x0x147 N L x (fun y => kn (ofSh sh62x0x147 (mx sh62x0x147 [3, 4] L y))) (fun p => some (K62x0x147w0 L p)) := by kernel_rfl
noncomputable def h62x0s10 : Sg Try.prog 0 62 :=
  (h62x0s9 N).lp (A62x0x147 N) N progOk (T71x0_ok N) (fun m kn L x => (step62x0x147 N m kn L x).trans (sb62x0x147 N L x _ _)) (fun L m x => sb62x0x147 N L x (Q62x0x147 N L m) some) fun L x hx => alt1 x hx
noncomputable def S62x0x135 (w1 : LD) (w2 : Int) (w8 : LD) (w14 w15 : Int) (w16 : LB) (w3 : Int) (kr : Int → Option R) (k0 : Unit → Option R) (k1 : Unit → Option R) : Option R :=
  bif (decide (w3 < w2)) then
    bnd (G62x0x147 N w1 w3 w8 w16 0 (IntKind.wrap .i64 (7 * w3))) fun y0 =>
    bif y0.isSome then
      bnd (bif (decide ((y0.getD default) > w15)) then true else (bif (decide ((IntKind.wrap .i64 ((IntKind.wrap .i64 (7 * w3)) + 7)) ≤ (w1.length : Int))) then (decide ((y0.getD default) < w14)) else false)) fun y1 =>
      bif y1 then
        k0 ()
      else
        kr (IntKind.wrap .i64 (w3 + 1))
    else
      none
  else
    k1 ()
noncomputable def L62x0x135 (N : Nat) {R : Type} (w1 : LD) (w2 : Int) (w8 : LD) (w14 w15 : Int) (w16 : LB) : Nat → Int → (Unit → Option R) → (Unit → Option R) → Option R
  | 0, _, _, _ => none
  | m + 1, w3, k0, k1 => S62x0x135 N w1 w2 w8 w14 w15 w16 w3 (fun w3 => L62x0x135 N w1 w2 w8 w14 w15 w16 m w3 k0 k1) k0 k1
noncomputable def G62x0x135 (w1 : LD) (w2 : Int) (w8 : LD) (w14 w15 : Int) (w16 : LB) (w3 : Int) : Option (Sum (Unit) (Unit)) := L62x0x135 N (R := (Sum (Unit) (Unit))) w1 w2 w8 w14 w15 w16 N w3 (fun p => some (.inl p)) (fun p => some (.inr p))
noncomputable def J62x0x135 (L x : List Lf) (kr : List Lf → Option R) (k0 : Unit → Option R) (k1 : Unit → Option R) : Option R := S62x0x135 N (ll L 1) (li L 2) (ll L 8) (li L 14) (li L 15) (ls L 16) (li x 0) (fun w3 => kr [.i w3]) k0 k1
theorem sb62x0x135 (L x : List Lf) (kr : List Lf → Option R) (k0 : Unit → Option R) (k1 : Unit → Option R) : J62x0x135 N L x kr k0 k1 = (J62x0x135 N L x (fun y => some (.inl y)) (fun p => some (.inr (.inl p))) (fun p => some (.inr (.inr p)))).bind (sumE kr (sumE k0 k1)) := by
  unfold J62x0x135 S62x0x135
  repeat' (first | rfl | apply cond_b | (apply bnd_b; intro _))
noncomputable def Q62x0x135 (L : List Lf) (m : Nat) (x : List Lf) : Option (Sum (Unit) (Unit)) := L62x0x135 N (R := (Sum (Unit) (Unit))) (ll L 1) (li L 2) (ll L 8) (li L 14) (li L 15) (ls L 16) m (li x 0) (fun p => some (.inl p)) (fun p => some (.inr p))
noncomputable def sh62x0x135 : Sh := { tmps := [(2, .c (.sl 3)), (3, .c (.p 3 0)), (4, .c (.p 4 0)), (169, .c (.i .i64)), (170, .c (.i .i64))], mem := [(3, .box ([.i .i64, .i .i64, .i .i64, .sl 66, .sl 68])), (4, .box (rI 5 ([.s])))] }
noncomputable def A62x0x135 (L : List Lf) : List (Bool × (Ex × St)) := bnd (Q62x0x135 N L N (pk sh62x0x135 [3] L)) fun q => [((inlB q), (.ret, ⟨[(6, .c (.b false))], []⟩)), ((inrQ q).isSome, ((.exit 13), ⟨[], []⟩))]
theorem step62x0x135 (m : Nat) (kn : St → Option (Ex × St)) (L x : List Lf) : lpB Try.prog (T71x0 N) (h62x0s10 N).h 0 62 135 sh62x0x135 [3] [6] [] (m + 100) kn L x = J62x0x135 N L x (fun y => kn (ofSh sh62x0x135 (mx sh62x0x135 [3] L y))) (fun _ => some (.ret, ⟨[(6, .c (.b false))], []⟩)) (fun _ => some ((.exit 13), ⟨[], []⟩)) := by kernel_rfl
noncomputable def h62x0s11 : Sg Try.prog 0 62 :=
  (h62x0s10 N).lp (A62x0x135 N) N progOk (T71x0_ok N) (fun m kn L x => (step62x0x135 N m kn L x).trans (sb62x0x135 N L x _ _ _)) (fun L m x => sb62x0x135 N L x (Q62x0x135 N L m) (fun p => some (.inl p)) (fun p => some (.inr p))) fun L x hx => (altS alt1) x hx
noncomputable def S62x0x177 (N : Nat) (w2 : LD) (w3 w7 : Int) (w0 w4 : Int) (kr : Int → Int → Option R) (k0 : Unit → Option R) (k1 : Unit → Option R) : Option R :=
  bif (decide (w4 < w3)) then
    bif (inB w4 w2.length) then
      bnd (decide ((IntKind.wrap .i64 ((w2.getD w4.toNat (.i 0)).toI * 100)) > (IntKind.wrap .i64 (w7 * w0)))) fun y0 =>
      bif y0 then
        k0 ()
      else
        kr (w2.getD w4.toNat (.i 0)).toI (IntKind.wrap .i64 (w4 + 1))
    else
      none
  else
    k1 ()
noncomputable def L62x0x177 (N : Nat) {R : Type} (w2 : LD) (w3 w7 : Int) : Nat → Int → Int → (Unit → Option R) → (Unit → Option R) → Option R
  | 0, _, _, _, _ => none
  | m + 1, w0, w4, k0, k1 => S62x0x177 N w2 w3 w7 w0 w4 (fun w0 w4 => L62x0x177 N w2 w3 w7 m w0 w4 k0 k1) k0 k1
noncomputable def G62x0x177 (w2 : LD) (w3 w7 : Int) (w0 w4 : Int) : Option (Sum (Unit) (Unit)) := L62x0x177 N (R := (Sum (Unit) (Unit))) w2 w3 w7 N w0 w4 (fun p => some (.inl p)) (fun p => some (.inr p))
noncomputable def J62x0x177 (L x : List Lf) (kr : List Lf → Option R) (k0 : Unit → Option R) (k1 : Unit → Option R) : Option R := S62x0x177 N (ll L 2) (li L 3) (li L 7) (li x 0) (li x 1) (fun w0 w4 => kr [.i w0, .i w4]) k0 k1
theorem sb62x0x177 (L x : List Lf) (kr : List Lf → Option R) (k0 : Unit → Option R) (k1 : Unit → Option R) : J62x0x177 N L x kr k0 k1 = (J62x0x177 N L x (fun y => some (.inl y)) (fun p => some (.inr (.inl p))) (fun p => some (.inr (.inr p)))).bind (sumE kr (sumE k0 k1)) := by
  unfold J62x0x177 S62x0x177
  repeat' (first | rfl | apply cond_b | (apply bnd_b; intro _))
noncomputable def Q62x0x177 (L : List Lf) (m : Nat) (x : List Lf) : Option (Sum (Unit) (Unit)) := L62x0x177 N (R := (Sum (Unit) (Unit))) (ll L 2) (li L 3) (li L 7) m (li x 0) (li x 1) (fun p => some (.inl p)) (fun p => some (.inr p))
noncomputable def sh62x0x177 : Sh := { tmps := [(4, .c (.p 4 0)), (19, .c (.i .i64)), (219, .c (.sl 3)), (220, .c (.i .i64)), (221, .c (.i .i64))], mem := [(4, .box (rI 5 ([.s])))] }
noncomputable def A62x0x177 (L : List Lf) : List (Bool × (Ex × St)) := bnd (Q62x0x177 N L N (pk sh62x0x177 [0, 4] L)) fun q => [((inlB q), (.ret, ⟨[(6, .c (.b false))], []⟩)), ((inrQ q).isSome, ((.exit 17), ⟨[], []⟩))]
theorem step62x0x177 (m : Nat) (kn : St → Option (Ex × St)) (L x : List Lf) : lpB Try.prog (T71x0 N) (h62x0s11 N).h 0 62 177 sh62x0x177 [0, 4] [6] [] (m + 100) kn L x = J62x0x177 N L x (fun y => kn (ofSh sh62x0x177 (mx sh62x0x177 [0, 4] L y))) (fun _ => some (.ret, ⟨[(6, .c (.b false))], []⟩)) (fun _ => some ((.exit 17), ⟨[], []⟩)) := by kernel_rfl
noncomputable def h62x0s12 : Sg Try.prog 0 62 :=
  (h62x0s11 N).lp (A62x0x177 N) N progOk (T71x0_ok N) (fun m kn L x => (step62x0x177 N m kn L x).trans (sb62x0x177 N L x _ _ _)) (fun L m x => sb62x0x177 N L x (Q62x0x177 N L m) (fun p => some (.inl p)) (fun p => some (.inr p))) fun L x hx => (altS alt1) x hx
noncomputable def S62x0x15 (w1 w8 : LD) (w12 : Int) (w2 w3 : Int) (kr : Int → Int → Option R) (k0 : Int → Option R) : Option R :=
  bif (decide (w3 < w12)) then
    bif (inB w3 w1.length) then
      bnd (G63x0 N w8 (w1.getD w3.toNat (.i 0)).toI) fun y0 =>
      bif y0.isSome then
        kr (IntKind.wrap .i64 (w2 + (y0.getD default).2.1)) (IntKind.wrap .i64 (w3 + 1))
      else
        none
    else
      none
  else
    k0 w2
noncomputable def L62x0x15 (N : Nat) {R : Type} (w1 w8 : LD) (w12 : Int) : Nat → Int → Int → (Int → Option R) → Option R
  | 0, _, _, _ => none
  | m + 1, w2, w3, k0 => S62x0x15 N w1 w8 w12 w2 w3 (fun w2 w3 => L62x0x15 N w1 w8 w12 m w2 w3 k0) k0
noncomputable def G62x0x15 (w1 w8 : LD) (w12 : Int) (w2 w3 : Int) : Option (Int) := L62x0x15 N (R := (Int)) w1 w8 w12 N w2 w3 (fun p => some p)
noncomputable def J62x0x15 (L x : List Lf) (kr : List Lf → Option R) (k0 : Int → Option R) : Option R := S62x0x15 N (ll L 1) (ll L 8) (li L 12) (li x 0) (li x 1) (fun w2 w3 => kr [.i w2, .i w3]) k0
theorem sb62x0x15 (L x : List Lf) (kr : List Lf → Option R) (k0 : Int → Option R) : J62x0x15 N L x kr k0 = (J62x0x15 N L x (fun y => some (.inl y)) (fun p => some (.inr p))).bind (sumE kr k0) := by
  unfold J62x0x15 S62x0x15
  repeat' (first | rfl | apply cond_b | (apply bnd_b; intro _))
noncomputable def Q62x0x15 (L : List Lf) (m : Nat) (x : List Lf) : Option (Int) := L62x0x15 N (R := (Int)) (ll L 1) (ll L 8) (li L 12) m (li x 0) (li x 1) (fun p => some p)
noncomputable def sh62x0x15 : Sh := { tmps := [(2, .c (.sl 3)), (3, .c (.p 3 0)), (4, .c (.p 4 0)), (22, .c (.i .i64)), (23, .c (.i .i64))], mem := [(3, .box ([.i .i64, .i .i64, .i .i64, .sl 66, .sl 68])), (4, .box (rI 5 ([.s])))] }
noncomputable def K62x0x15w0 (L : List Lf) (p : Int) : Ex × St := ((.exit 1), mg (ofSh sh62x0x15 L) [4, 22] [(22, .c (.i .i64 p))] [4] [])
noncomputable def A62x0x15 (L : List Lf) : List (Bool × (Ex × St)) := bnd (Q62x0x15 N L N (pk sh62x0x15 [2, 3] L)) fun q => [(q.isSome, K62x0x15w0 L (q.getD default))]
theorem step62x0x15 (m : Nat) (kn : St → Option (Ex × St)) (L x : List Lf) : lpB Try.prog (T71x0 N) (h62x0s12 N).h 0 62 15 sh62x0x15 [2, 3] [6, 22, 4] [4] (m + 100) kn L x = J62x0x15 N L x (fun y => kn (ofSh sh62x0x15 (mx sh62x0x15 [2, 3] L y))) (fun p => some (K62x0x15w0 L p)) := by kernel_rfl
noncomputable def h62x0s13 : Sg Try.prog 0 62 :=
  (h62x0s12 N).lp (A62x0x15 N) N progOk (T71x0_ok N) (fun m kn L x => (step62x0x15 N m kn L x).trans (sb62x0x15 N L x _ _)) (fun L m x => sb62x0x15 N L x (Q62x0x15 N L m) some) fun L x hx => alt1 x hx
noncomputable def F62x0x168134 (w1 w3 : LD) (w4 : Int) (w5 : Bool) (w8 : Int) (w10 : LD) (w14 w15 w16 w17 : Int) (w18 : LB) (k0 : Bool → Option R) (k1 : Unit → Option R) : Option R :=
  bif w5 then
    bnd (G62x0x135 N w1 (w3.length : Int) w10 w16 w17 w18 0) fun y0 =>
    bif (inlB y0) then
      k0 false
    else
      bif (inrQ y0).isSome then
        k1 ()
      else
        none
  else
    bif (w4 == 7) then
      bnd (G62x0x177 N w3 (w3.length : Int) w15 w8 0) fun y1 =>
      bif (inlB y1) then
        k0 false
      else
        bif (inrQ y1).isSome then
          k1 ()
        else
          none
    else
      bif (w4 == 8) then
        bif (inB w14 w1.length) then
          bnd (G63x0 N w10 (w1.getD w14.toNat (.i 0)).toI) fun y2 =>
          bif y2.isSome then
            k0 ((y2.getD default).1 == w18)
          else
            none
        else
          none
      else
        bnd (G62x0x15 N w1 w10 w14 0 (max2 0 (IntKind.wrap .i64 (w14 - w16)))) fun y3 =>
        bif y3.isSome then
          k0 (decide ((y3.getD default) ≤ w15))
        else
          none
noncomputable def G62x0x168134 (w1 w3 : LD) (w4 : Int) (w5 : Bool) (w8 : Int) (w10 : LD) (w14 w15 w16 w17 : Int) (w18 : LB) : Option (Sum (Bool) (Unit)) := F62x0x168134 N w1 w3 w4 w5 w8 w10 w14 w15 w16 w17 w18 (fun p => some (.inl p)) (fun p => some (.inr p))
theorem bind62x0x168134 (w1 w3 : LD) (w4 : Int) (w5 : Bool) (w8 : Int) (w10 : LD) (w14 w15 w16 w17 : Int) (w18 : LB) (k0 : Bool → Option R) (k1 : Unit → Option R) : F62x0x168134 N w1 w3 w4 w5 w8 w10 w14 w15 w16 w17 w18 k0 k1 = (G62x0x168134 N w1 w3 w4 w5 w8 w10 w14 w15 w16 w17 w18).bind (sumE k0 k1) := by
  unfold G62x0x168134 F62x0x168134
  repeat' (first | rfl | apply cond_b | (apply bnd_b; intro _))
noncomputable def J62x0x168134 (L : List Lf) (k0 : Bool → Option R) (k1 : Unit → Option R) : Option R := F62x0x168134 N (ll L 1) (ll L 3) (li L 4) (lb L 5) (li L 8) (ll L 10) (li L 14) (li L 15) (li L 16) (li L 17) (ls L 18) k0 k1
noncomputable def sh62x0x168134 : Sh := { tmps := [(2, .c (.sl 3)), (3, .c (.p 3 0)), (4, .c (.p 4 0)), (7, .c (.sl 3)), (28, .c (.i .i64)), (166, .c (.b))], mem := [(3, .box ([.i .i64, .i .i64, .i .i64, .sl 66, .sl 68])), (4, .box (rI 5 ([.s])))] }
noncomputable def A62x0x168134 (L : List Lf) : List (Bool × (Ex × St)) := bnd (J62x0x168134 N L (fun p => some (.inl p)) (fun p => some (.inr p))) fun q => [((inlB q), (.ret, ⟨[(6, .c (.b (inlV q)))], []⟩)), ((inrQ q).isSome, (.normal, ⟨[], []⟩))]
theorem raw62x0x168134 (L : List Lf) : pc Try.prog (T71x0 N) (h62x0s13 N).h 0 100 62 168134 sh62x0x168134 L [6] [] = J62x0x168134 N L (fun p => some (.ret, ⟨[(6, .c (.b p))], []⟩)) (fun _ => some (.normal, ⟨[], []⟩)) := by kernel_rfl
noncomputable def h62x0s14 : Sg Try.prog 0 62 :=
  (h62x0s13 N).cut (A62x0x168134 N) progOk (T71x0_ok N) fun L x hx => (raw62x0x168134 N L).trans ((bind62x0x168134 N ..).trans ((altS alt1) x hx))
noncomputable def F62x0x129101 (w1 w3 : LD) (w4 : Int) (w5 : Bool) (w8 : Int) (w10 : LD) (w14 w15 w16 w17 : Int) (w18 : LB) (k0 : Bool → Option R) (k1 : Unit → Option R) : Option R :=
  bif w5 then
    bnd (G62x0x102 N w1 (w1.length : Int) w10 w15 0) fun y0 =>
    bif (inlB y0) then
      k0 false
    else
      bif (inrQ y0).isSome then
        k1 ()
      else
        none
  else
    bnd (G62x0x168134 N w1 w3 w4 (w4 == 6) w8 w10 w14 w15 w16 w17 w18) fun y1 =>
    bif (inlB y1) then
      k0 (inlV y1)
    else
      bif (inrQ y1).isSome then
        k1 ()
      else
        none
noncomputable def G62x0x129101 (w1 w3 : LD) (w4 : Int) (w5 : Bool) (w8 : Int) (w10 : LD) (w14 w15 w16 w17 : Int) (w18 : LB) : Option (Sum (Bool) (Unit)) := F62x0x129101 N w1 w3 w4 w5 w8 w10 w14 w15 w16 w17 w18 (fun p => some (.inl p)) (fun p => some (.inr p))
theorem bind62x0x129101 (w1 w3 : LD) (w4 : Int) (w5 : Bool) (w8 : Int) (w10 : LD) (w14 w15 w16 w17 : Int) (w18 : LB) (k0 : Bool → Option R) (k1 : Unit → Option R) : F62x0x129101 N w1 w3 w4 w5 w8 w10 w14 w15 w16 w17 w18 k0 k1 = (G62x0x129101 N w1 w3 w4 w5 w8 w10 w14 w15 w16 w17 w18).bind (sumE k0 k1) := by
  unfold G62x0x129101 F62x0x129101
  repeat' (first | rfl | apply cond_b | (apply bnd_b; intro _))
noncomputable def J62x0x129101 (L : List Lf) (k0 : Bool → Option R) (k1 : Unit → Option R) : Option R := F62x0x129101 N (ll L 1) (ll L 3) (li L 4) (lb L 5) (li L 8) (ll L 10) (li L 14) (li L 15) (li L 16) (li L 17) (ls L 18) k0 k1
noncomputable def sh62x0x129101 : Sh := { tmps := [(2, .c (.sl 3)), (3, .c (.p 3 0)), (4, .c (.p 4 0)), (7, .c (.sl 3)), (28, .c (.i .i64)), (129, .c (.b))], mem := [(3, .box ([.i .i64, .i .i64, .i .i64, .sl 66, .sl 68])), (4, .box (rI 5 ([.s])))] }
noncomputable def A62x0x129101 (L : List Lf) : List (Bool × (Ex × St)) := bnd (J62x0x129101 N L (fun p => some (.inl p)) (fun p => some (.inr p))) fun q => [((inlB q), (.ret, ⟨[(6, .c (.b (inlV q)))], []⟩)), ((inrQ q).isSome, (.normal, ⟨[], []⟩))]
theorem raw62x0x129101 (L : List Lf) : pc Try.prog (T71x0 N) (h62x0s14 N).h 0 100 62 129101 sh62x0x129101 L [6] [] = J62x0x129101 N L (fun p => some (.ret, ⟨[(6, .c (.b p))], []⟩)) (fun _ => some (.normal, ⟨[], []⟩)) := by kernel_rfl
noncomputable def h62x0s15 : Sg Try.prog 0 62 :=
  (h62x0s14 N).cut (A62x0x129101 N) progOk (T71x0_ok N) fun L x hx => (raw62x0x129101 N L).trans ((bind62x0x129101 N ..).trans ((altS alt1) x hx))
noncomputable def F62x0x96080 (w1 w3 : LD) (w4 : Int) (w5 : Bool) (w8 : Int) (w10 : LD) (w14 w15 w16 w17 : Int) (w18 : LB) (k0 : Bool → Option R) (k1 : Unit → Option R) : Option R :=
  bif w5 then
    bnd (G62x0x81 N w1 w3 (w3.length : Int) w15 0) fun y0 =>
    bif (inlB y0) then
      k0 false
    else
      bif (inrQ y0).isSome then
        k1 ()
      else
        none
  else
    bnd (G62x0x129101 N w1 w3 w4 (w4 == 5) w8 w10 w14 w15 w16 w17 w18) fun y1 =>
    bif (inlB y1) then
      k0 (inlV y1)
    else
      bif (inrQ y1).isSome then
        k1 ()
      else
        none
noncomputable def G62x0x96080 (w1 w3 : LD) (w4 : Int) (w5 : Bool) (w8 : Int) (w10 : LD) (w14 w15 w16 w17 : Int) (w18 : LB) : Option (Sum (Bool) (Unit)) := F62x0x96080 N w1 w3 w4 w5 w8 w10 w14 w15 w16 w17 w18 (fun p => some (.inl p)) (fun p => some (.inr p))
theorem bind62x0x96080 (w1 w3 : LD) (w4 : Int) (w5 : Bool) (w8 : Int) (w10 : LD) (w14 w15 w16 w17 : Int) (w18 : LB) (k0 : Bool → Option R) (k1 : Unit → Option R) : F62x0x96080 N w1 w3 w4 w5 w8 w10 w14 w15 w16 w17 w18 k0 k1 = (G62x0x96080 N w1 w3 w4 w5 w8 w10 w14 w15 w16 w17 w18).bind (sumE k0 k1) := by
  unfold G62x0x96080 F62x0x96080
  repeat' (first | rfl | apply cond_b | (apply bnd_b; intro _))
noncomputable def J62x0x96080 (L : List Lf) (k0 : Bool → Option R) (k1 : Unit → Option R) : Option R := F62x0x96080 N (ll L 1) (ll L 3) (li L 4) (lb L 5) (li L 8) (ll L 10) (li L 14) (li L 15) (li L 16) (li L 17) (ls L 18) k0 k1
noncomputable def sh62x0x96080 : Sh := { tmps := [(2, .c (.sl 3)), (3, .c (.p 3 0)), (4, .c (.p 4 0)), (7, .c (.sl 3)), (28, .c (.i .i64)), (107, .c (.b))], mem := [(3, .box ([.i .i64, .i .i64, .i .i64, .sl 66, .sl 68])), (4, .box (rI 5 ([.s])))] }
noncomputable def A62x0x96080 (L : List Lf) : List (Bool × (Ex × St)) := bnd (J62x0x96080 N L (fun p => some (.inl p)) (fun p => some (.inr p))) fun q => [((inlB q), (.ret, ⟨[(6, .c (.b (inlV q)))], []⟩)), ((inrQ q).isSome, (.normal, ⟨[], []⟩))]
theorem raw62x0x96080 (L : List Lf) : pc Try.prog (T71x0 N) (h62x0s15 N).h 0 100 62 96080 sh62x0x96080 L [6] [] = J62x0x96080 N L (fun p => some (.ret, ⟨[(6, .c (.b p))], []⟩)) (fun _ => some (.normal, ⟨[], []⟩)) := by kernel_rfl
noncomputable def h62x0s16 : Sg Try.prog 0 62 :=
  (h62x0s15 N).cut (A62x0x96080 N) progOk (T71x0_ok N) fun L x hx => (raw62x0x96080 N L).trans ((bind62x0x96080 N ..).trans ((altS alt1) x hx))
noncomputable def F62x0x75059 (w1 w3 : LD) (w4 : Int) (w5 : Bool) (w8 : Int) (w10 : LD) (w14 w15 w16 w17 : Int) (w18 : LB) (k0 : Bool → Option R) (k1 : Unit → Option R) : Option R :=
  bif w5 then
    bnd (G62x0x60 N w3 (w3.length : Int) w15 0) fun y0 =>
    bif (inlB y0) then
      k0 false
    else
      bif (inrQ y0).isSome then
        k1 ()
      else
        none
  else
    bnd (G62x0x96080 N w1 w3 w4 (w4 == 4) w8 w10 w14 w15 w16 w17 w18) fun y1 =>
    bif (inlB y1) then
      k0 (inlV y1)
    else
      bif (inrQ y1).isSome then
        k1 ()
      else
        none
noncomputable def G62x0x75059 (w1 w3 : LD) (w4 : Int) (w5 : Bool) (w8 : Int) (w10 : LD) (w14 w15 w16 w17 : Int) (w18 : LB) : Option (Sum (Bool) (Unit)) := F62x0x75059 N w1 w3 w4 w5 w8 w10 w14 w15 w16 w17 w18 (fun p => some (.inl p)) (fun p => some (.inr p))
theorem bind62x0x75059 (w1 w3 : LD) (w4 : Int) (w5 : Bool) (w8 : Int) (w10 : LD) (w14 w15 w16 w17 : Int) (w18 : LB) (k0 : Bool → Option R) (k1 : Unit → Option R) : F62x0x75059 N w1 w3 w4 w5 w8 w10 w14 w15 w16 w17 w18 k0 k1 = (G62x0x75059 N w1 w3 w4 w5 w8 w10 w14 w15 w16 w17 w18).bind (sumE k0 k1) := by
  unfold G62x0x75059 F62x0x75059
  repeat' (first | rfl | apply cond_b | (apply bnd_b; intro _))
end Go.Proofs.Ytefmjfcdgadggaa
