/- Functions of the program as plain Lean definitions, each with the proof that the program computes it. No condition. Printed by a program of the prover, part 1. -/
import Derived.Test.YtmhaghcfopdifaaGreatDoorHk1
import Derived.Test.YtmhaghcfopdifaaGreatDoorChecked
import Derived.KernelRfl
set_option linter.all false
set_option maxRecDepth 100000
namespace Go.Proofs.YtmhaghcfopdifaaGreatDoor
open Go Go.AM
noncomputable section
variable (N : Nat) {R : Type}
abbrev LD : Type := List D
abbrev LB : Type := List UInt8
abbrev Ty0 : Type := Bool × LD × Bool × LD × Bool × LD × Bool × LD × Bool × LD
abbrev Ty1 : Type := LB × Int × Int × Int × Int × Int × Int × Bool × LD × Int
abbrev Ty2 : Type := Int × Int × Int × Int × Int × Int × Int × Int × Int × Int × Int
abbrev Ty3 : Type := Int × Int × Int × Int × Int × Int × Int × Int
def rg210x0 : List (Nat × List Nat) := [(0, [0]), (1, [0])]
def hd210x0 : Hints := []
def h210x0s0 (N : Nat) : Sg Tryz.prog 0 210 := .start hd210x0 rg210x0
def F210x0 (N : Nat) (v0 : Int) (k0 : Bool → R) : R :=
 k0 (bif (decide (v0 ≥ 48)) then (decide (v0 ≤ 57)) else false)
def V210x0 (v0 : Int) : Bool := F210x0 N v0 (fun p => p)
theorem tot210x0 (v0 : Int) (k0 : Bool → R) : F210x0 N v0 k0 = k0 (V210x0 N v0) := by
 unfold V210x0 F210x0
 repeat' (first | rfl | apply cond_k | (apply bnd_k; intro _))
def sh210x0 : Sh := { tmps := [(0, .c (.i .u8))], mem := [] }
def A210x0 (L : List Lf) : List (Bool × Res) := bnd (F210x0 N (li L 0) (fun p => p)) fun q => [(true, ([.c (.b q)], []))]
theorem raw210x0 (L : List Lf) : bd Tryz.prog noOracle (h210x0s0 N).h 210 sh210x0 L = F210x0 N (li L 0) (fun p => some ([.c (.b p)], [])) := by kernel_rfl
theorem ok210x0 : FnOk Tryz.prog 210 sh210x0 (A210x0 N) :=
 (h210x0s0 N).fn progOk noOracle_ok fun L x hx => ((raw210x0 N L).trans ((tot210x0 N ..).trans (alt0 _ _ hx)))
def T210x0 : Oracle := ext 210 (spSh sh210x0 (A210x0 N)) noOracle
theorem T210x0_ok : OracleOk Tryz.prog (T210x0 N) := FnOk.to (ok210x0 N) noOracle_ok
def rg117x0 : List (Nat × List Nat) := [(0, [0]), (1, [0]), (2, [8, 7, 0]), (3, [8, 0, 7]), (4, [0, 3, 8, 7]), (5, [4, 8, 7, 0]), (6, [5, 4, 8, 7, 0]), (7, []), (8, [8, 7, 0]), (9, [0])]
def hd117x0 : Hints := [(6, [8, 7, 0], [], []), (19, [5, 4, 8, 7, 0], [], [])]
def h117x0s0 (N : Nat) : Sg Tryz.prog 0 117 := .start hd117x0 rg117x0
def F117x0x19 (w0 : Bool) (w1 : Int) (k0 : Bool → R) : R :=
 bif (!w0) then
  bnd (V210x0 N w1) fun y0 =>
  bnd (bif (bif (!y0) then (w1 != 45) else false) then (w1 != 95) else false) fun y1 =>
  k0 (bif y1 then (w1 != 46) else false)
 else
  k0 false
def V117x0x19 (w0 : Bool) (w1 : Int) : Bool := F117x0x19 N w0 w1 (fun p => p)
theorem tot117x0x19 (w0 : Bool) (w1 : Int) (k0 : Bool → R) : F117x0x19 N w0 w1 k0 = k0 (V117x0x19 N w0 w1) := by
 unfold V117x0x19 F117x0x19
 repeat' (first | rfl | apply cond_k | (apply bnd_k; intro _))
def sh117x0x19 : Sh := { tmps := [(5, .c (.b)), (4, .c (.i .u8)), (8, .c (.i .i64)), (7, .c (.i .i64)), (0, .c (.s))], mem := [] }
def K117x0x19w0 (L : List Lf) (p : Bool) : Ex × St := (.normal, mg (ofSh sh117x0x19 L) [8, 7, 0, 46] [(46, .c (.b p))] [] [])
def A117x0x19 (L : List Lf) : List (Bool × (Ex × St)) := bnd (F117x0x19 N (lb L 0) (li L 1) (fun p => p)) fun q => [(true, K117x0x19w0 L q)]
theorem raw117x0x19 (L : List Lf) : pc Tryz.prog (T210x0 N) (h117x0s0 N).h 0 100 117 19 sh117x0x19 L [8, 7, 0, 46] [] = F117x0x19 N (lb L 0) (li L 1) (fun p => some (K117x0x19w0 L p)) := by kernel_rfl
def h117x0s1 : Sg Tryz.prog 0 117 :=
 (h117x0s0 N).cut (A117x0x19 N) progOk (T210x0_ok N) fun L x hx => (raw117x0x19 N L).trans ((tot117x0x19 N ..).trans (alt0 _ _ hx))
def S117x0x6 (w1 : Int) (w2 : LB) (w0 : Int) (kr : Int → Option R) (k0 : Unit → Option R) (k1 : Unit → Option R) : Option R :=
 bif (decide (w0 < w1)) then
  bif (inB w0 w2.length) then
   bnd (bif (decide (((w2.getD w0.toNat 0).toNat : Int) ≥ 97)) then (decide (((w2.getD w0.toNat 0).toNat : Int) ≤ 122)) else false) fun y0 =>
   bnd (bif y0 then true else (bif (decide (((w2.getD w0.toNat 0).toNat : Int) ≥ 65)) then (decide (((w2.getD w0.toNat 0).toNat : Int) ≤ 90)) else false)) fun y1 =>
   bnd (V117x0x19 N y1 ((w2.getD w0.toNat 0).toNat : Int)) fun y2 =>
   bif y2 then
    k0 ()
   else
    kr (IntKind.wrap .i64 (w0 + 1))
  else
   none
 else
  k1 ()
def L117x0x6 (N : Nat) {R : Type} (w1 : Int) (w2 : LB) : Nat → Int → (Unit → Option R) → (Unit → Option R) → Option R
 | 0, _, _, _ => none
 | m + 1, w0, k0, k1 => S117x0x6 N w1 w2 w0 (fun w0 => L117x0x6 N w1 w2 m w0 k0 k1) k0 k1
def G117x0x6 (w1 : Int) (w2 : LB) (w0 : Int) : Option (Sum (Unit) (Unit)) := L117x0x6 N (R := (Sum (Unit) (Unit))) w1 w2 N w0 (fun p => some (.inl p)) (fun p => some (.inr p))
def J117x0x6 (L x : List Lf) (kr : List Lf → Option R) (k0 : Unit → Option R) (k1 : Unit → Option R) : Option R := S117x0x6 N (li L 1) (ls L 2) (li x 0) (fun w0 => kr [.i w0]) k0 k1
theorem sb117x0x6 (L x : List Lf) (kr : List Lf → Option R) (k0 : Unit → Option R) (k1 : Unit → Option R) : J117x0x6 N L x kr k0 k1 = (J117x0x6 N L x (fun y => some (.inl y)) (fun p => some (.inr (.inl p))) (fun p => some (.inr (.inr p)))).bind (sumE kr (sumE k0 k1)) := by
 unfold J117x0x6 S117x0x6
 repeat' (first | with_reducible apply cond_b | (with_reducible apply bnd_b; intro _) | rfl)
def Q117x0x6 (L : List Lf) (m : Nat) (x : List Lf) : Option (Sum (Unit) (Unit)) := L117x0x6 N (R := (Sum (Unit) (Unit))) (li L 1) (ls L 2) m (li x 0) (fun p => some (.inl p)) (fun p => some (.inr p))
def sh117x0x6 : Sh := { tmps := [(8, .c (.i .i64)), (7, .c (.i .i64)), (0, .c (.s))], mem := [] }
def A117x0x6 (L : List Lf) : List (Bool × (Ex × St)) := bnd (Q117x0x6 N L N (pk sh117x0x6 [0] L)) fun q => [((inlB q), (.ret, ⟨[(2, .c (.b false))], []⟩)), ((inrQ q).isSome, ((.exit 0), ⟨[(0, .c (.s (ls L 2)))], []⟩))]
theorem step117x0x6 (m : Nat) (kn : St → Option (Ex × St)) (L x : List Lf) : lpB Tryz.prog (T210x0 N) (h117x0s1 N).h 0 117 6 sh117x0x6 [0] [2, 0] [] (m + 100) kn L x = J117x0x6 N L x (fun y => kn (ofSh sh117x0x6 (mx sh117x0x6 [0] L y))) (fun _ => some (.ret, ⟨[(2, .c (.b false))], []⟩)) (fun _ => some ((.exit 0), ⟨[(0, .c (.s (ls L 2)))], []⟩)) := by kernel_rfl
theorem ql117x0x6 (L : List Lf) (m : Nat) (x : List Lf) : Q117x0x6 N L (m + 1) x = J117x0x6 N L x (Q117x0x6 N L m) (fun p => some (.inl p)) (fun p => some (.inr p)) := by kernel_rfl
def h117x0s2 : Sg Tryz.prog 0 117 :=
 (h117x0s1 N).lp (A117x0x6 N) N progOk (T210x0_ok N) (fun m kn L x => (step117x0x6 N m kn L x).trans (sb117x0x6 N L x _ _ _)) (fun L m x => (ql117x0x6 N L m x).trans (sb117x0x6 N L x (Q117x0x6 N L m) (fun p => some (.inl p)) (fun p => some (.inr p)))) fun L x hx => (altS alt1) x hx
def F117x0 (v0 : LB) (k0 : Bool → Option R) : Option R :=
 bnd (G117x0x6 N (v0.length : Int) v0 0) fun y0 =>
 bif (inlB y0) then
  k0 false
 else
  bif (inrQ y0).isSome then
   bnd (bif (decide ((v0.length : Int) ≥ 1)) then (decide ((v0.length : Int) ≤ 60)) else false) fun y1 =>
   k0 y1
  else
   none
def G117x0 (v0 : LB) : Option (Bool) := F117x0 N v0 (fun p => some p)
theorem bind117x0 (v0 : LB) (k0 : Bool → Option R) : F117x0 N v0 k0 = (G117x0 N v0).bind k0 := by
 unfold G117x0 F117x0
 repeat' (first | with_reducible apply cond_b | (with_reducible apply bnd_b; intro _) | rfl)
def sh117x0 : Sh := { tmps := [(0, .c (.s))], mem := [] }
def A117x0 (L : List Lf) : List (Bool × Res) := bnd (F117x0 N (ls L 0) (fun p => some p)) fun q => [(q.isSome, ([.c (.b (q.getD default))], []))]
theorem raw117x0 (L : List Lf) : bd Tryz.prog (T210x0 N) (h117x0s2 N).h 117 sh117x0 L = F117x0 N (ls L 0) (fun p => some ([.c (.b p)], [])) := by kernel_rfl
theorem ok117x0 : FnOk Tryz.prog 117 sh117x0 (A117x0 N) :=
 (h117x0s2 N).fn progOk (T210x0_ok N) fun L x hx => ((raw117x0 N L).trans ((bind117x0 N ..).trans (alt1 x hx)))
def T117x0 : Oracle := ext 117 (spSh sh117x0 (A117x0 N)) (T210x0 N)
theorem T117x0_ok : OracleOk Tryz.prog (T117x0 N) := FnOk.to (ok117x0 N) (T210x0_ok N)
def rg200x0 : List (Nat × List Nat) := [(0, [0, 1, 2]), (1, [0, 1, 2])]
def hd200x0 : Hints := []
def h200x0s0 (N : Nat) : Sg Tryz.prog 0 200 := .start hd200x0 rg200x0
def F200x0 (N : Nat) (v0 v1 v2 : Int) (k0 : Bool → R) : R :=
 k0 (bif (decide (v0 ≥ v1)) then (decide (v0 ≤ v2)) else false)
def V200x0 (v0 v1 v2 : Int) : Bool := F200x0 N v0 v1 v2 (fun p => p)
theorem tot200x0 (v0 v1 v2 : Int) (k0 : Bool → R) : F200x0 N v0 v1 v2 k0 = k0 (V200x0 N v0 v1 v2) := by
 unfold V200x0 F200x0
 repeat' (first | rfl | apply cond_k | (apply bnd_k; intro _))
def sh200x0 : Sh := { tmps := [(0, .c (.i .i64)), (1, .c (.i .i64)), (2, .c (.i .i64))], mem := [] }
def A200x0 (L : List Lf) : List (Bool × Res) := bnd (F200x0 N (li L 0) (li L 1) (li L 2) (fun p => p)) fun q => [(true, ([.c (.b q)], []))]
theorem raw200x0 (L : List Lf) : bd Tryz.prog (T117x0 N) (h200x0s0 N).h 200 sh200x0 L = F200x0 N (li L 0) (li L 1) (li L 2) (fun p => some ([.c (.b p)], [])) := by kernel_rfl
theorem ok200x0 : FnOk Tryz.prog 200 sh200x0 (A200x0 N) :=
 (h200x0s0 N).fn progOk (T117x0_ok N) fun L x hx => ((raw200x0 N L).trans ((tot200x0 N ..).trans (alt0 _ _ hx)))
def T200x0 : Oracle := ext 200 (spSh sh200x0 (A200x0 N)) (T117x0 N)
theorem T200x0_ok : OracleOk Tryz.prog (T200x0 N) := FnOk.to (ok200x0 N) (T117x0_ok N)
def rg201x0 : List (Nat × List Nat) := [(0, [0]), (1, [1]), (2, [3, 1])]
def hd201x0 : Hints := [(4, [1], [1], []), (7, [3, 1], [1], [])]
def h201x0s0 (N : Nat) : Sg Tryz.prog 0 201 := .start hd201x0 rg201x0
def F201x0x4 (w1 w2 w3 : Int) (k0 : Bool → R) : R :=
 bnd (V200x0 N w1 (-100000000) 100000000) fun y0 =>
 bif y0 then
  bnd (V200x0 N w2 (-100000000) 100000000) fun y1 =>
  bif y1 then
   bnd (V200x0 N w3 (-100000) 100000) fun y2 =>
   k0 y2
  else
   k0 false
 else
  k0 false
def V201x0x4 (w1 w2 w3 : Int) : Bool := F201x0x4 N w1 w2 w3 (fun p => p)
theorem tot201x0x4 (w1 w2 w3 : Int) (k0 : Bool → R) : F201x0x4 N w1 w2 w3 k0 = k0 (V201x0x4 N w1 w2 w3) := by
 unfold V201x0x4 F201x0x4
 repeat' (first | rfl | apply cond_k | (apply bnd_k; intro _))
def sh201x0x4 : Sh := { tmps := [(1, .c (.p 1 0))], mem := [(1, .box (rI 7 ([])))] }
def K201x0x4w0 (L : List Lf) (p : Bool) : Ex × St := (.normal, mg (ofSh sh201x0x4 L) [3, 1] [(3, .c (.b p))] [1] [])
def A201x0x4 (L : List Lf) : List (Bool × (Ex × St)) := bnd (F201x0x4 N (li L 1) (li L 2) (li L 3) (fun p => p)) fun q => [(true, K201x0x4w0 L q)]
theorem raw201x0x4 (L : List Lf) : pc Tryz.prog (T200x0 N) (h201x0s0 N).h 0 100 201 4 sh201x0x4 L [3, 1] [1] = F201x0x4 N (li L 1) (li L 2) (li L 3) (fun p => some (K201x0x4w0 L p)) := by kernel_rfl
def h201x0s1 : Sg Tryz.prog 0 201 :=
 (h201x0s0 N).cut (A201x0x4 N) progOk (T200x0_ok N) fun L x hx => (raw201x0x4 N L).trans ((tot201x0x4 N ..).trans (alt0 _ _ hx))
def F201x0x7 (w0 : Bool) (w5 w6 w7 : Int) (k0 : Bool → R) : R :=
 bif w0 then
  bnd (V200x0 N w5 (-1) 300) fun y0 =>
  bif y0 then
   bnd (V200x0 N w6 (-1) 3000) fun y1 =>
   bif y1 then
    bnd (V200x0 N w7 (-1) 300) fun y2 =>
    k0 y2
   else
    k0 false
  else
   k0 false
 else
  k0 false
def V201x0x7 (w0 : Bool) (w5 w6 w7 : Int) : Bool := F201x0x7 N w0 w5 w6 w7 (fun p => p)
theorem tot201x0x7 (w0 : Bool) (w5 w6 w7 : Int) (k0 : Bool → R) : F201x0x7 N w0 w5 w6 w7 k0 = k0 (V201x0x7 N w0 w5 w6 w7) := by
 unfold V201x0x7 F201x0x7
 repeat' (first | rfl | apply cond_k | (apply bnd_k; intro _))
def J201x0x7 (L : List Lf) (k0 : Bool → R) : R := F201x0x7 N (lb L 0) (li L 5) (li L 6) (li L 7) k0
def sh201x0x7 : Sh := { tmps := [(3, .c (.b)), (1, .c (.p 1 0))], mem := [(1, .box (rI 7 ([])))] }
def A201x0x7 (L : List Lf) : List (Bool × (Ex × St)) := bnd (J201x0x7 N L (fun p => p)) fun q => [(true, (.normal, ⟨[(2, .c (.b q))], []⟩))]
theorem raw201x0x7 (L : List Lf) : pc Tryz.prog (T200x0 N) (h201x0s1 N).h 0 100 201 7 sh201x0x7 L [2] [] = J201x0x7 N L (fun p => some (.normal, ⟨[(2, .c (.b p))], []⟩)) := by kernel_rfl
def h201x0s2 : Sg Tryz.prog 0 201 :=
 (h201x0s1 N).cut (A201x0x7 N) progOk (T200x0_ok N) fun L x hx => (raw201x0x7 N L).trans ((tot201x0x7 N ..).trans (alt0 _ _ hx))
def F201x0 (v1 v2 v3 v4 v5 v6 : Int) (k0 : Bool → R) : R :=
 bnd (V201x0x4 N v1 v2 v3) fun y0 =>
 bnd (V201x0x7 N y0 v4 v5 v6) fun y1 =>
 k0 y1
def V201x0 (v1 v2 v3 v4 v5 v6 : Int) : Bool := F201x0 N v1 v2 v3 v4 v5 v6 (fun p => p)
theorem tot201x0 (v1 v2 v3 v4 v5 v6 : Int) (k0 : Bool → R) : F201x0 N v1 v2 v3 v4 v5 v6 k0 = k0 (V201x0 N v1 v2 v3 v4 v5 v6) := by
 unfold V201x0 F201x0
 repeat' (first | rfl | apply cond_k | (apply bnd_k; intro _))
def J201x0 (L : List Lf) (k0 : Bool → R) : R := F201x0 N (li L 1) (li L 2) (li L 3) (li L 4) (li L 5) (li L 6) k0
def sh201x0 : Sh := { tmps := [(0, .g (rI 7 ([])))], mem := [] }
def A201x0 (L : List Lf) : List (Bool × Res) := bnd (J201x0 N L (fun p => p)) fun q => [(true, ([.c (.b q)], []))]
theorem raw201x0 (L : List Lf) : bd Tryz.prog (T200x0 N) (h201x0s2 N).h 201 sh201x0 L = J201x0 N L (fun p => some ([.c (.b p)], [])) := by kernel_rfl
theorem ok201x0 : FnOk Tryz.prog 201 sh201x0 (A201x0 N) :=
 (h201x0s2 N).fn progOk (T200x0_ok N) fun L x hx => ((raw201x0 N L).trans ((tot201x0 N ..).trans (alt0 _ _ hx)))
def T201x0 : Oracle := ext 201 (spSh sh201x0 (A201x0 N)) (T200x0 N)
theorem T201x0_ok : OracleOk Tryz.prog (T201x0 N) := FnOk.to (ok201x0 N) (T200x0_ok N)
def rg111x0 : List (Nat × List Nat) := [(0, [0]), (1, [1]), (2, [3, 1]), (3, [1, 3]), (4, [])]
def hd111x0 : Hints := []
def h111x0s0 (N : Nat) : Sg Tryz.prog 0 111 := .start hd111x0 rg111x0
def F111x0 (N : Nat) (v4 : LD) (k0 : Int → Option R) : Option R :=
 bif (decide ((v4.length : Int) > 0)) then
  bif (inB (IntKind.wrap .i64 ((v4.length : Int) - 1)) v4.length) then
   bnd ((v4.getD (IntKind.wrap .i64 ((v4.length : Int) - 1)).toNat (.i 0)) : D) fun y0 =>
   k0 (y0.cell 0).toI
  else
   none
 else
  k0 0
def G111x0 (v4 : LD) : Option (Int) := F111x0 N v4 (fun p => some p)
theorem bind111x0 (v4 : LD) (k0 : Int → Option R) : F111x0 N v4 k0 = (G111x0 N v4).bind k0 := by
 unfold G111x0 F111x0
 repeat' (first | with_reducible apply cond_b | (with_reducible apply bnd_b; intro _) | rfl)
def sh111x0 : Sh := { tmps := [(0, .g (.s :: [.i .i64, .i .i64, .sl 216, .sl 219, .sl 9]))], mem := [] }
def A111x0 (L : List Lf) : List (Bool × Res) := bnd (F111x0 N (ll L 4) (fun p => some p)) fun q => [(q.isSome, ([.c (.i .i64 (q.getD default))], []))]
theorem raw111x0 (L : List Lf) : bd Tryz.prog (T201x0 N) (h111x0s0 N).h 111 sh111x0 L = F111x0 N (ll L 4) (fun p => some ([.c (.i .i64 p)], [])) := by kernel_rfl
theorem ok111x0 : FnOk Tryz.prog 111 sh111x0 (A111x0 N) :=
 (h111x0s0 N).fn progOk (T201x0_ok N) fun L x hx => ((raw111x0 N L).trans ((bind111x0 N ..).trans (alt1 x hx)))
def T111x0 : Oracle := ext 111 (spSh sh111x0 (A111x0 N)) (T201x0 N)
theorem T111x0_ok : OracleOk Tryz.prog (T111x0 N) := FnOk.to (ok111x0 N) (T201x0_ok N)
def rg202x0 : List (Nat × List Nat) := [(0, [0]), (1, [0]), (2, [6, 5, 0]), (3, [6, 0, 5]), (4, [0, 3, 6, 5]), (5, []), (6, [6, 5, 0]), (7, [0])]
def hd202x0 : Hints := [(6, [6, 5, 0], [], [])]
def h202x0s0 (N : Nat) : Sg Tryz.prog 0 202 := .start hd202x0 rg202x0
def S202x0x6 (w1 : Int) (w2 : LB) (w0 : Int) (kr : Int → Option R) (k0 : Unit → Option R) (k1 : Unit → Option R) : Option R :=
 bif (decide (w0 < w1)) then
  bif (inB w0 w2.length) then
   bnd (V200x0 N (IntKind.wrap .i64 ((w2.getD w0.toNat 0).toNat : Int)) 32 126) fun y0 =>
   bif (!y0) then
    k0 ()
   else
    kr (IntKind.wrap .i64 (w0 + 1))
  else
   none
 else
  k1 ()
def L202x0x6 (N : Nat) {R : Type} (w1 : Int) (w2 : LB) : Nat → Int → (Unit → Option R) → (Unit → Option R) → Option R
 | 0, _, _, _ => none
 | m + 1, w0, k0, k1 => S202x0x6 N w1 w2 w0 (fun w0 => L202x0x6 N w1 w2 m w0 k0 k1) k0 k1
def G202x0x6 (w1 : Int) (w2 : LB) (w0 : Int) : Option (Sum (Unit) (Unit)) := L202x0x6 N (R := (Sum (Unit) (Unit))) w1 w2 N w0 (fun p => some (.inl p)) (fun p => some (.inr p))
def J202x0x6 (L x : List Lf) (kr : List Lf → Option R) (k0 : Unit → Option R) (k1 : Unit → Option R) : Option R := S202x0x6 N (li L 1) (ls L 2) (li x 0) (fun w0 => kr [.i w0]) k0 k1
theorem sb202x0x6 (L x : List Lf) (kr : List Lf → Option R) (k0 : Unit → Option R) (k1 : Unit → Option R) : J202x0x6 N L x kr k0 k1 = (J202x0x6 N L x (fun y => some (.inl y)) (fun p => some (.inr (.inl p))) (fun p => some (.inr (.inr p)))).bind (sumE kr (sumE k0 k1)) := by
 unfold J202x0x6 S202x0x6
 repeat' (first | with_reducible apply cond_b | (with_reducible apply bnd_b; intro _) | rfl)
def Q202x0x6 (L : List Lf) (m : Nat) (x : List Lf) : Option (Sum (Unit) (Unit)) := L202x0x6 N (R := (Sum (Unit) (Unit))) (li L 1) (ls L 2) m (li x 0) (fun p => some (.inl p)) (fun p => some (.inr p))
def sh202x0x6 : Sh := { tmps := [(6, .c (.i .i64)), (5, .c (.i .i64)), (0, .c (.s))], mem := [] }
def A202x0x6 (L : List Lf) : List (Bool × (Ex × St)) := bnd (Q202x0x6 N L N (pk sh202x0x6 [0] L)) fun q => [((inlB q), (.ret, ⟨[(2, .c (.b false))], []⟩)), ((inrQ q).isSome, ((.exit 0), ⟨[(0, .c (.s (ls L 2)))], []⟩))]
theorem step202x0x6 (m : Nat) (kn : St → Option (Ex × St)) (L x : List Lf) : lpB Tryz.prog (T111x0 N) (h202x0s0 N).h 0 202 6 sh202x0x6 [0] [2, 0] [] (m + 100) kn L x = J202x0x6 N L x (fun y => kn (ofSh sh202x0x6 (mx sh202x0x6 [0] L y))) (fun _ => some (.ret, ⟨[(2, .c (.b false))], []⟩)) (fun _ => some ((.exit 0), ⟨[(0, .c (.s (ls L 2)))], []⟩)) := by kernel_rfl
theorem ql202x0x6 (L : List Lf) (m : Nat) (x : List Lf) : Q202x0x6 N L (m + 1) x = J202x0x6 N L x (Q202x0x6 N L m) (fun p => some (.inl p)) (fun p => some (.inr p)) := by kernel_rfl
def h202x0s1 : Sg Tryz.prog 0 202 :=
 (h202x0s0 N).lp (A202x0x6 N) N progOk (T111x0_ok N) (fun m kn L x => (step202x0x6 N m kn L x).trans (sb202x0x6 N L x _ _ _)) (fun L m x => (ql202x0x6 N L m x).trans (sb202x0x6 N L x (Q202x0x6 N L m) (fun p => some (.inl p)) (fun p => some (.inr p)))) fun L x hx => (altS alt1) x hx
def F202x0 (v0 : LB) (k0 : Bool → Option R) : Option R :=
 bnd (G202x0x6 N (v0.length : Int) v0 0) fun y0 =>
 bif (inlB y0) then
  k0 false
 else
  bif (inrQ y0).isSome then
   k0 (decide ((v0.length : Int) ≤ 60))
  else
   none
def G202x0 (v0 : LB) : Option (Bool) := F202x0 N v0 (fun p => some p)
theorem bind202x0 (v0 : LB) (k0 : Bool → Option R) : F202x0 N v0 k0 = (G202x0 N v0).bind k0 := by
 unfold G202x0 F202x0
 repeat' (first | with_reducible apply cond_b | (with_reducible apply bnd_b; intro _) | rfl)
def sh202x0 : Sh := { tmps := [(0, .c (.s))], mem := [] }
def A202x0 (L : List Lf) : List (Bool × Res) := bnd (F202x0 N (ls L 0) (fun p => some p)) fun q => [(q.isSome, ([.c (.b (q.getD default))], []))]
theorem raw202x0 (L : List Lf) : bd Tryz.prog (T111x0 N) (h202x0s1 N).h 202 sh202x0 L = F202x0 N (ls L 0) (fun p => some ([.c (.b p)], [])) := by kernel_rfl
theorem ok202x0 : FnOk Tryz.prog 202 sh202x0 (A202x0 N) :=
 (h202x0s1 N).fn progOk (T111x0_ok N) fun L x hx => ((raw202x0 N L).trans ((bind202x0 N ..).trans (alt1 x hx)))
def T202x0 : Oracle := ext 202 (spSh sh202x0 (A202x0 N)) (T111x0 N)
theorem T202x0_ok : OracleOk Tryz.prog (T202x0 N) := FnOk.to (ok202x0 N) (T111x0_ok N)
def rg108x0 : List (Nat × List Nat) := [(0, [0]), (1, [1]), (3, [1]), (5, [1]), (7, [1]), (8, []), (6, []), (4, []), (2, []), (9, [1]), (10, [45, 44, 43, 1]), (11, [45, 43, 1, 44]), (12, [3, 4, 1, 45, 44, 43]), (13, [3, 4, 1, 45, 44, 43]), (15, [4, 1, 45, 44, 43]), (16, []), (14, []), (17, [45, 44, 43, 1]), (18, [1]), (19, [1, 5]), (20, [95, 94, 93, 5, 1]), (21, [95, 93, 5, 1, 94]), (22, [7, 5, 6, 1, 95, 94, 93]), (24, [6, 7, 1, 95, 94, 93, 5]), (26, [7, 95, 94, 93, 5, 1]), (27, []), (25, []), (23, []), (28, [95, 94, 93, 5, 1]), (29, [1]), (30, [141, 140, 139, 1]), (31, [141, 139, 1, 140]), (32, [9, 8, 1, 141, 140, 139]), (34, [8, 9, 1, 141, 140, 139]), (35, []), (33, []), (36, [141, 140, 139, 1]), (37, [])]
def hd108x0 : Hints := [(30, [45, 44, 43, 1], [1], []), (40, [3, 4, 1, 45, 44, 43], [1, 4], []), (39002, [4, 1, 45, 44, 43, 50, 3], [1, 4], []), (46, [4, 1, 45, 44, 43], [1, 4], []), (60, [95, 94, 93, 5, 1], [1], []), (73, [6, 7, 1, 95, 94, 93, 5], [1, 7], []), (90, [141, 140, 139, 1], [1], [])]
def h108x0s0 (N : Nat) : Sg Tryz.prog 0 108 := .start hd108x0 rg108x0
def F108x0x40 (N : Nat) (w0 : Int) (w9 : LD) (w14 : Int) (k0 : Bool → Option R) : Option R :=
 bif (decide (w0 > 0)) then
  bif (inB (IntKind.wrap .i64 (w0 - 1)) w9.length) then
   bnd ((w9.getD (IntKind.wrap .i64 (w0 - 1)).toNat (.i 0)).cell 0).toI fun y0 =>
   k0 (decide (w14 ≤ y0))
  else
   none
 else
  k0 false
def G108x0x40 (w0 : Int) (w9 : LD) (w14 : Int) : Option (Bool) := F108x0x40 N w0 w9 w14 (fun p => some p)
theorem bind108x0x40 (w0 : Int) (w9 : LD) (w14 : Int) (k0 : Bool → Option R) : F108x0x40 N w0 w9 w14 k0 = (G108x0x40 N w0 w9 w14).bind k0 := by
 unfold G108x0x40 F108x0x40
 repeat' (first | with_reducible apply cond_b | (with_reducible apply bnd_b; intro _) | rfl)
def sh108x0x40 : Sh := { tmps := [(3, .c (.i .i64)), (4, .c (.p 4 0)), (1, .c (.p 1 0)), (45, .c (.i .i64)), (44, .c (.i .i64)), (43, .c (.sl 216))], mem := [(1, .box (.s :: [.i .i64, .i .i64, .sl 216, .sl 219, .sl 9])), (4, .box (rI 7 ([])))] }
def K108x0x40w0 (L : List Lf) (p : Bool) : Ex × St := (.normal, mg (ofSh sh108x0x40 L) [4, 1, 45, 44, 43, 50] [(50, .c (.b p))] [1, 4] [])
def A108x0x40 (L : List Lf) : List (Bool × (Ex × St)) := bnd (F108x0x40 N (li L 0) (ll L 9) (li L 14) (fun p => some p)) fun q => [(q.isSome, K108x0x40w0 L (q.getD default))]
theorem raw108x0x40 (L : List Lf) : pc Tryz.prog (T202x0 N) (h108x0s0 N).h 0 100 108 40 sh108x0x40 L [4, 1, 45, 44, 43, 50] [1, 4] = F108x0x40 N (li L 0) (ll L 9) (li L 14) (fun p => some (K108x0x40w0 L p)) := by kernel_rfl
def h108x0s1 : Sg Tryz.prog 0 108 :=
 (h108x0s0 N).cut (A108x0x40 N) progOk (T202x0_ok N) fun L x hx => (raw108x0x40 N L).trans ((bind108x0x40 N ..).trans (alt1 x hx))
def F108x0x39002 (w4 : Bool) (w5 : Int) (w10 : LD) (w15 : Int) (k0 : Bool → Option R) : Option R :=
 bif w4 then
  k0 true
 else
  bnd (G108x0x40 N w5 w10 w15) fun y0 =>
  bif y0.isSome then
   k0 (y0.getD default)
  else
   none
def G108x0x39002 (w4 : Bool) (w5 : Int) (w10 : LD) (w15 : Int) : Option (Bool) := F108x0x39002 N w4 w5 w10 w15 (fun p => some p)
theorem bind108x0x39002 (w4 : Bool) (w5 : Int) (w10 : LD) (w15 : Int) (k0 : Bool → Option R) : F108x0x39002 N w4 w5 w10 w15 k0 = (G108x0x39002 N w4 w5 w10 w15).bind k0 := by
 unfold G108x0x39002 F108x0x39002
 repeat' (first | with_reducible apply cond_b | (with_reducible apply bnd_b; intro _) | rfl)
def J108x0x39002 (L : List Lf) (k0 : Bool → Option R) : Option R := F108x0x39002 N (lb L 4) (li L 5) (ll L 10) (li L 15) k0
def sh108x0x39002 : Sh := { tmps := [(4, .c (.p 4 0)), (1, .c (.p 1 0)), (45, .c (.i .i64)), (44, .c (.i .i64)), (43, .c (.sl 216)), (50, .c (.b)), (3, .c (.i .i64))], mem := [(1, .box (.s :: [.i .i64, .i .i64, .sl 216, .sl 219, .sl 9])), (4, .box (rI 7 ([])))] }
def K108x0x39002w0 (L : List Lf) (p : Bool) : Ex × St := (.normal, mg (ofSh sh108x0x39002 L) [4, 1, 45, 44, 43, 50] [(50, .c (.b p))] [1, 4] [])
def A108x0x39002 (L : List Lf) : List (Bool × (Ex × St)) := bnd (J108x0x39002 N L (fun p => some p)) fun q => [(q.isSome, K108x0x39002w0 L (q.getD default))]
theorem raw108x0x39002 (L : List Lf) : pc Tryz.prog (T202x0 N) (h108x0s1 N).h 0 100 108 39002 sh108x0x39002 L [4, 1, 45, 44, 43, 50] [1, 4] = J108x0x39002 N L (fun p => some (K108x0x39002w0 L p)) := by kernel_rfl
def h108x0s2 : Sg Tryz.prog 0 108 :=
 (h108x0s1 N).cut (A108x0x39002 N) progOk (T202x0_ok N) fun L x hx => (raw108x0x39002 N L).trans ((bind108x0x39002 N ..).trans (alt1 x hx))
def F108x0x46 (w6 w13 w14 w15 w16 w17 w18 w19 : Int) (k0 : Bool → R) : R :=
 bnd (bif (decide (w13 > 1000000)) then true else (decide ((IntKind.wrap .i64 (w6 + w13)) > 86399999999))) fun y0 =>
 bif y0 then
  k0 true
 else
  bnd (V201x0 N w14 w15 w16 w17 w18 w19) fun y1 =>
  k0 (!y1)
def V108x0x46 (w6 w13 w14 w15 w16 w17 w18 w19 : Int) : Bool := F108x0x46 N w6 w13 w14 w15 w16 w17 w18 w19 (fun p => p)
theorem tot108x0x46 (w6 w13 w14 w15 w16 w17 w18 w19 : Int) (k0 : Bool → R) : F108x0x46 N w6 w13 w14 w15 w16 w17 w18 w19 k0 = k0 (V108x0x46 N w6 w13 w14 w15 w16 w17 w18 w19) := by
 unfold V108x0x46 F108x0x46
 repeat' (first | rfl | apply cond_k | (apply bnd_k; intro _))
def J108x0x46 (L : List Lf) (k0 : Bool → R) : R := F108x0x46 N (li L 6) (li L 13) (li L 14) (li L 15) (li L 16) (li L 17) (li L 18) (li L 19) k0
def sh108x0x46 : Sh := { tmps := [(4, .c (.p 4 0)), (1, .c (.p 1 0)), (45, .c (.i .i64)), (44, .c (.i .i64)), (43, .c (.sl 216))], mem := [(1, .box (.s :: [.i .i64, .i .i64, .sl 216, .sl 219, .sl 9])), (4, .box (rI 7 ([])))] }
def K108x0x46w0 (L : List Lf) (p : Bool) : Ex × St := (.normal, mg (ofSh sh108x0x46 L) [45, 44, 43, 1, 72] [(72, .c (.b p))] [1] [])
def A108x0x46 (L : List Lf) : List (Bool × (Ex × St)) := bnd (J108x0x46 N L (fun p => p)) fun q => [(true, K108x0x46w0 L q)]
theorem raw108x0x46 (L : List Lf) : pc Tryz.prog (T202x0 N) (h108x0s2 N).h 0 100 108 46 sh108x0x46 L [45, 44, 43, 1, 72] [1] = J108x0x46 N L (fun p => some (K108x0x46w0 L p)) := by kernel_rfl
def h108x0s3 : Sg Tryz.prog 0 108 :=
 (h108x0s2 N).cut (A108x0x46 N) progOk (T202x0_ok N) fun L x hx => (raw108x0x46 N L).trans ((tot108x0x46 N ..).trans (alt0 _ _ hx))
def S108x0x30 (w1 : Int) (w3 : LD) (w6 : Int) (w8 : LD) (w0 : Int) (kr : Int → Option R) (k0 : Int → Option R) (k1 : Unit → Option R) : Option R :=
 bif (decide (w0 < w1)) then
  bif (inB w0 w3.length) then
   bnd (bif (w0 == 0) then (((w3.getD w0.toNat (.i 0)).cell 0).toI != 0) else false) fun y0 =>
   bnd (G108x0x39002 N y0 w0 w8 ((w3.getD w0.toNat (.i 0)).cell 0).toI) fun y1 =>
   bif y1.isSome then
    bif (y1.getD default) then
     k0 10
    else
     bnd (V108x0x46 N w6 ((w3.getD w0.toNat (.i 0)).cell 0).toI ((w3.getD w0.toNat (.i 0)).cell 1).toI ((w3.getD w0.toNat (.i 0)).cell 2).toI ((w3.getD w0.toNat (.i 0)).cell 3).toI ((w3.getD w0.toNat (.i 0)).cell 4).toI ((w3.getD w0.toNat (.i 0)).cell 5).toI ((w3.getD w0.toNat (.i 0)).cell 6).toI) fun y2 =>
     bif y2 then
      k0 9
     else
      kr (IntKind.wrap .i64 (w0 + 1))
   else
    none
  else
   none
 else
  k1 ()
def L108x0x30 (N : Nat) {R : Type} (w1 : Int) (w3 : LD) (w6 : Int) (w8 : LD) : Nat → Int → (Int → Option R) → (Unit → Option R) → Option R
 | 0, _, _, _ => none
 | m + 1, w0, k0, k1 => S108x0x30 N w1 w3 w6 w8 w0 (fun w0 => L108x0x30 N w1 w3 w6 w8 m w0 k0 k1) k0 k1
def G108x0x30 (w1 : Int) (w3 : LD) (w6 : Int) (w8 : LD) (w0 : Int) : Option (Sum (Int) (Unit)) := L108x0x30 N (R := (Sum (Int) (Unit))) w1 w3 w6 w8 N w0 (fun p => some (.inl p)) (fun p => some (.inr p))
def J108x0x30 (L x : List Lf) (kr : List Lf → Option R) (k0 : Int → Option R) (k1 : Unit → Option R) : Option R := S108x0x30 N (li L 1) (ll L 3) (li L 6) (ll L 8) (li x 0) (fun w0 => kr [.i w0]) k0 k1
theorem sb108x0x30 (L x : List Lf) (kr : List Lf → Option R) (k0 : Int → Option R) (k1 : Unit → Option R) : J108x0x30 N L x kr k0 k1 = (J108x0x30 N L x (fun y => some (.inl y)) (fun p => some (.inr (.inl p))) (fun p => some (.inr (.inr p)))).bind (sumE kr (sumE k0 k1)) := by
 unfold J108x0x30 S108x0x30
 repeat' (first | with_reducible apply cond_b | (with_reducible apply bnd_b; intro _) | rfl)
def Q108x0x30 (L : List Lf) (m : Nat) (x : List Lf) : Option (Sum (Int) (Unit)) := L108x0x30 N (R := (Sum (Int) (Unit))) (li L 1) (ll L 3) (li L 6) (ll L 8) m (li x 0) (fun p => some (.inl p)) (fun p => some (.inr p))
def sh108x0x30 : Sh := { tmps := [(45, .c (.i .i64)), (44, .c (.i .i64)), (43, .c (.sl 216)), (1, .c (.p 1 0))], mem := [(1, .box (.s :: [.i .i64, .i .i64, .sl 216, .sl 219, .sl 9]))] }
def K108x0x30w0 (L : List Lf) (p : Int) : Ex × St := (.ret, mg (ofSh sh108x0x30 L) [2] [(2, .c (.i .i64 p))] [1] [])
def A108x0x30 (L : List Lf) : List (Bool × (Ex × St)) := bnd (Q108x0x30 N L N (pk sh108x0x30 [0] L)) fun q => [((inlB q), K108x0x30w0 L (inlV q)), ((inrQ q).isSome, ((.exit 1), mg (ofSh sh108x0x30 L) [1] [] [1] []))]
theorem step108x0x30 (m : Nat) (kn : St → Option (Ex × St)) (L x : List Lf) : lpB Tryz.prog (T202x0 N) (h108x0s3 N).h 0 108 30 sh108x0x30 [0] [2, 1] [1] (m + 100) kn L x = J108x0x30 N L x (fun y => kn (ofSh sh108x0x30 (mx sh108x0x30 [0] L y))) (fun p => some (K108x0x30w0 L p)) (fun _ => some ((.exit 1), mg (ofSh sh108x0x30 L) [1] [] [1] [])) := by kernel_rfl
theorem ql108x0x30 (L : List Lf) (m : Nat) (x : List Lf) : Q108x0x30 N L (m + 1) x = J108x0x30 N L x (Q108x0x30 N L m) (fun p => some (.inl p)) (fun p => some (.inr p)) := by kernel_rfl
def h108x0s4 : Sg Tryz.prog 0 108 :=
 (h108x0s3 N).lp (A108x0x30 N) N progOk (T202x0_ok N) (fun m kn L x => (step108x0x30 N m kn L x).trans (sb108x0x30 N L x _ _ _)) (fun L m x => (ql108x0x30 N L m x).trans (sb108x0x30 N L x (Q108x0x30 N L m) (fun p => some (.inl p)) (fun p => some (.inr p)))) fun L x hx => (altS alt1) x hx
def F108x0x73 (N : Nat) (w0 : Int) (w12 : LD) (w15 : Int) (k0 : Bool → Option R) : Option R :=
 bif (decide (w0 > 0)) then
  bif (inB (IntKind.wrap .i64 (w0 - 1)) w12.length) then
   bnd ((w12.getD (IntKind.wrap .i64 (w0 - 1)).toNat (.i 0)).cell 1).toI fun y0 =>
   k0 (decide (w15 < y0))
  else
   none
 else
  k0 false
def G108x0x73 (w0 : Int) (w12 : LD) (w15 : Int) : Option (Bool) := F108x0x73 N w0 w12 w15 (fun p => some p)
theorem bind108x0x73 (w0 : Int) (w12 : LD) (w15 : Int) (k0 : Bool → Option R) : F108x0x73 N w0 w12 w15 k0 = (G108x0x73 N w0 w12 w15).bind k0 := by
 unfold G108x0x73 F108x0x73
 repeat' (first | with_reducible apply cond_b | (with_reducible apply bnd_b; intro _) | rfl)
def sh108x0x73 : Sh := { tmps := [(6, .c (.i .i64)), (7, .c (.p 7 0)), (1, .c (.p 1 0)), (95, .c (.i .i64)), (94, .c (.i .i64)), (93, .c (.sl 219)), (5, .c (.i .i64))], mem := [(1, .box (.s :: [.i .i64, .i .i64, .sl 216, .sl 219, .sl 9])), (7, .box ([.i .i64, .i .i64, .s]))] }
def K108x0x73w0 (L : List Lf) (p : Bool) : Ex × St := (.normal, mg (ofSh sh108x0x73 L) [7, 95, 94, 93, 5, 1, 117] [(117, .c (.b p))] [1, 7] [])
def A108x0x73 (L : List Lf) : List (Bool × (Ex × St)) := bnd (F108x0x73 N (li L 0) (ll L 12) (li L 15) (fun p => some p)) fun q => [(q.isSome, K108x0x73w0 L (q.getD default))]
theorem raw108x0x73 (L : List Lf) : pc Tryz.prog (T202x0 N) (h108x0s4 N).h 0 100 108 73 sh108x0x73 L [7, 95, 94, 93, 5, 1, 117] [1, 7] = F108x0x73 N (li L 0) (ll L 12) (li L 15) (fun p => some (K108x0x73w0 L p)) := by kernel_rfl
def h108x0s5 : Sg Tryz.prog 0 108 :=
 (h108x0s4 N).cut (A108x0x73 N) progOk (T202x0_ok N) fun L x hx => (raw108x0x73 N L).trans ((bind108x0x73 N ..).trans (alt1 x hx))
def S108x0x60 (w1 : Int) (w3 : LD) (w4 : Int) (w11 : LD) (w0 : Int) (kr : Int → Option R) (k0 : Int → Option R) (k1 : Unit → Option R) : Option R :=
 bif (decide (w0 < w1)) then
  bif (inB w0 w3.length) then
   bnd (bif (decide (((w3.getD w0.toNat (.i 0)).cell 0).toI < 0)) then true else (decide (((w3.getD w0.toNat (.i 0)).cell 0).toI ≥ ((w3.getD w0.toNat (.i 0)).cell 1).toI))) fun y0 =>
   bnd (bif y0 then true else (decide (((w3.getD w0.toNat (.i 0)).cell 1).toI > w4))) fun y1 =>
   bif y1 then
    k0 9
   else
    bnd (G108x0x73 N w0 w11 ((w3.getD w0.toNat (.i 0)).cell 0).toI) fun y2 =>
    bif y2.isSome then
     bif (y2.getD default) then
      k0 10
     else
      bnd (G202x0 N ((w3.getD w0.toNat (.i 0)).cell 2).toS) fun y3 =>
      bif y3.isSome then
       bif (!(y3.getD default)) then
        k0 8
       else
        kr (IntKind.wrap .i64 (w0 + 1))
      else
       none
    else
     none
  else
   none
 else
  k1 ()
def L108x0x60 (N : Nat) {R : Type} (w1 : Int) (w3 : LD) (w4 : Int) (w11 : LD) : Nat → Int → (Int → Option R) → (Unit → Option R) → Option R
 | 0, _, _, _ => none
 | m + 1, w0, k0, k1 => S108x0x60 N w1 w3 w4 w11 w0 (fun w0 => L108x0x60 N w1 w3 w4 w11 m w0 k0 k1) k0 k1
def G108x0x60 (w1 : Int) (w3 : LD) (w4 : Int) (w11 : LD) (w0 : Int) : Option (Sum (Int) (Unit)) := L108x0x60 N (R := (Sum (Int) (Unit))) w1 w3 w4 w11 N w0 (fun p => some (.inl p)) (fun p => some (.inr p))
def J108x0x60 (L x : List Lf) (kr : List Lf → Option R) (k0 : Int → Option R) (k1 : Unit → Option R) : Option R := S108x0x60 N (li L 1) (ll L 3) (li L 4) (ll L 11) (li x 0) (fun w0 => kr [.i w0]) k0 k1
theorem sb108x0x60 (L x : List Lf) (kr : List Lf → Option R) (k0 : Int → Option R) (k1 : Unit → Option R) : J108x0x60 N L x kr k0 k1 = (J108x0x60 N L x (fun y => some (.inl y)) (fun p => some (.inr (.inl p))) (fun p => some (.inr (.inr p)))).bind (sumE kr (sumE k0 k1)) := by
 unfold J108x0x60 S108x0x60
 repeat' (first | with_reducible apply cond_b | (with_reducible apply bnd_b; intro _) | rfl)
def Q108x0x60 (L : List Lf) (m : Nat) (x : List Lf) : Option (Sum (Int) (Unit)) := L108x0x60 N (R := (Sum (Int) (Unit))) (li L 1) (ll L 3) (li L 4) (ll L 11) m (li x 0) (fun p => some (.inl p)) (fun p => some (.inr p))
def sh108x0x60 : Sh := { tmps := [(95, .c (.i .i64)), (94, .c (.i .i64)), (93, .c (.sl 219)), (5, .c (.i .i64)), (1, .c (.p 1 0))], mem := [(1, .box (.s :: [.i .i64, .i .i64, .sl 216, .sl 219, .sl 9]))] }
def K108x0x60w0 (L : List Lf) (p : Int) : Ex × St := (.ret, mg (ofSh sh108x0x60 L) [2] [(2, .c (.i .i64 p))] [1] [])
def A108x0x60 (L : List Lf) : List (Bool × (Ex × St)) := bnd (Q108x0x60 N L N (pk sh108x0x60 [0] L)) fun q => [((inlB q), K108x0x60w0 L (inlV q)), ((inrQ q).isSome, ((.exit 4), mg (ofSh sh108x0x60 L) [1] [] [1] []))]
theorem step108x0x60 (m : Nat) (kn : St → Option (Ex × St)) (L x : List Lf) : lpB Tryz.prog (T202x0 N) (h108x0s5 N).h 0 108 60 sh108x0x60 [0] [2, 1] [1] (m + 100) kn L x = J108x0x60 N L x (fun y => kn (ofSh sh108x0x60 (mx sh108x0x60 [0] L y))) (fun p => some (K108x0x60w0 L p)) (fun _ => some ((.exit 4), mg (ofSh sh108x0x60 L) [1] [] [1] [])) := by kernel_rfl
theorem ql108x0x60 (L : List Lf) (m : Nat) (x : List Lf) : Q108x0x60 N L (m + 1) x = J108x0x60 N L x (Q108x0x60 N L m) (fun p => some (.inl p)) (fun p => some (.inr p)) := by kernel_rfl
def h108x0s6 : Sg Tryz.prog 0 108 :=
 (h108x0s5 N).lp (A108x0x60 N) N progOk (T202x0_ok N) (fun m kn L x => (step108x0x60 N m kn L x).trans (sb108x0x60 N L x _ _ _)) (fun L m x => (ql108x0x60 N L m x).trans (sb108x0x60 N L x (Q108x0x60 N L m) (fun p => some (.inl p)) (fun p => some (.inr p)))) fun L x hx => (altS alt1) x hx
def S108x0x90 (w1 : Int) (w3 w12 : LD) (w0 : Int) (kr : Int → Option R) (k0 : Int → Option R) (k1 : Unit → Option R) : Option R :=
 bif (decide (w0 < w1)) then
  bif (inB w0 w3.length) then
   bnd (G117x0 N (w3.getD w0.toNat (.i 0)).toS) fun y0 =>
   bif y0.isSome then
    bif (!(y0.getD default)) then
     k0 8
    else
     bif (bif (inB (IntKind.wrap .i64 (w0 - 1)) w12.length) then true else (!((decide (w0 > 0)) == true))) then
      bnd (bif (decide (w0 > 0)) then ((Op.bytesLess (w3.getD w0.toNat (.i 0)).toS (w12.getD (IntKind.wrap .i64 (w0 - 1)).toNat (.i 0)).toS) || ((w3.getD w0.toNat (.i 0)).toS == (w12.getD (IntKind.wrap .i64 (w0 - 1)).toNat (.i 0)).toS)) else false) fun y1 =>
      bif y1 then
       k0 10
      else
       kr (IntKind.wrap .i64 (w0 + 1))
     else
      none
   else
    none
  else
   none
 else
  k1 ()
def L108x0x90 (N : Nat) {R : Type} (w1 : Int) (w3 w12 : LD) : Nat → Int → (Int → Option R) → (Unit → Option R) → Option R
 | 0, _, _, _ => none
 | m + 1, w0, k0, k1 => S108x0x90 N w1 w3 w12 w0 (fun w0 => L108x0x90 N w1 w3 w12 m w0 k0 k1) k0 k1
def G108x0x90 (w1 : Int) (w3 w12 : LD) (w0 : Int) : Option (Sum (Int) (Unit)) := L108x0x90 N (R := (Sum (Int) (Unit))) w1 w3 w12 N w0 (fun p => some (.inl p)) (fun p => some (.inr p))
def J108x0x90 (L x : List Lf) (kr : List Lf → Option R) (k0 : Int → Option R) (k1 : Unit → Option R) : Option R := S108x0x90 N (li L 1) (ll L 3) (ll L 12) (li x 0) (fun w0 => kr [.i w0]) k0 k1
theorem sb108x0x90 (L x : List Lf) (kr : List Lf → Option R) (k0 : Int → Option R) (k1 : Unit → Option R) : J108x0x90 N L x kr k0 k1 = (J108x0x90 N L x (fun y => some (.inl y)) (fun p => some (.inr (.inl p))) (fun p => some (.inr (.inr p)))).bind (sumE kr (sumE k0 k1)) := by
 unfold J108x0x90 S108x0x90
 repeat' (first | with_reducible apply cond_b | (with_reducible apply bnd_b; intro _) | rfl)
def Q108x0x90 (L : List Lf) (m : Nat) (x : List Lf) : Option (Sum (Int) (Unit)) := L108x0x90 N (R := (Sum (Int) (Unit))) (li L 1) (ll L 3) (ll L 12) m (li x 0) (fun p => some (.inl p)) (fun p => some (.inr p))
def sh108x0x90 : Sh := { tmps := [(141, .c (.i .i64)), (140, .c (.i .i64)), (139, .c (.sl 9)), (1, .c (.p 1 0))], mem := [(1, .box (.s :: [.i .i64, .i .i64, .sl 216, .sl 219, .sl 9]))] }
def A108x0x90 (L : List Lf) : List (Bool × (Ex × St)) := bnd (Q108x0x90 N L N (pk sh108x0x90 [0] L)) fun q => [((inlB q), (.ret, ⟨[(2, .c (.i .i64 (inlV q)))], []⟩)), ((inrQ q).isSome, ((.exit 7), ⟨[], []⟩))]
theorem step108x0x90 (m : Nat) (kn : St → Option (Ex × St)) (L x : List Lf) : lpB Tryz.prog (T202x0 N) (h108x0s6 N).h 0 108 90 sh108x0x90 [0] [2] [] (m + 100) kn L x = J108x0x90 N L x (fun y => kn (ofSh sh108x0x90 (mx sh108x0x90 [0] L y))) (fun p => some (.ret, ⟨[(2, .c (.i .i64 p))], []⟩)) (fun _ => some ((.exit 7), ⟨[], []⟩)) := by kernel_rfl
theorem ql108x0x90 (L : List Lf) (m : Nat) (x : List Lf) : Q108x0x90 N L (m + 1) x = J108x0x90 N L x (Q108x0x90 N L m) (fun p => some (.inl p)) (fun p => some (.inr p)) := by kernel_rfl
def h108x0s7 : Sg Tryz.prog 0 108 :=
 (h108x0s6 N).lp (A108x0x90 N) N progOk (T202x0_ok N) (fun m kn L x => (step108x0x90 N m kn L x).trans (sb108x0x90 N L x _ _ _)) (fun L m x => (ql108x0x90 N L m x).trans (sb108x0x90 N L x (Q108x0x90 N L m) (fun p => some (.inl p)) (fun p => some (.inr p)))) fun L x hx => (altS alt1) x hx
def F108x0 (v0 : LB) (v1 v2 : Int) (v4 v6 v8 : LD) (k0 : Int → Option R) : Option R :=
 bnd (G117x0 N v0) fun y0 =>
 bif y0.isSome then
  bif (!(y0.getD default)) then
   k0 8
  else
   bnd (V200x0 N v1 1 5) fun y1 =>
   bif (!y1) then
    k0 7
   else
    bnd (V200x0 N v2 0 86399999999) fun y2 =>
    bif (!y2) then
     k0 9
    else
     bnd (bif (decide ((v4.length : Int) > 20000)) then true else (decide ((v6.length : Int) > 200))) fun y3 =>
     bnd (bif y3 then true else (decide ((v8.length : Int) > 20))) fun y4 =>
     bif y4 then
      k0 3
     else
      bnd (G108x0x30 N (v4.length : Int) v4 v2 v4 0) fun y5 =>
      bif (inlB y5) then
       k0 (inlV y5)
      else
       bif (inrQ y5).isSome then
        bnd (G111x0 N v4) fun y6 =>
        bif y6.isSome then
         bnd (G108x0x60 N (v6.length : Int) v6 (y6.getD default) v6 0) fun y7 =>
         bif (inlB y7) then
          k0 (inlV y7)
         else
          bif (inrQ y7).isSome then
           bnd (G108x0x90 N (v8.length : Int) v8 v8 0) fun y8 =>
           bif (inlB y8) then
            k0 (inlV y8)
           else
            bif (inrQ y8).isSome then
             k0 0
            else
             none
          else
           none
        else
         none
       else
        none
 else
  none
def G108x0 (v0 : LB) (v1 v2 : Int) (v4 v6 v8 : LD) : Option (Int) := F108x0 N v0 v1 v2 v4 v6 v8 (fun p => some p)
theorem bind108x0 (v0 : LB) (v1 v2 : Int) (v4 v6 v8 : LD) (k0 : Int → Option R) : F108x0 N v0 v1 v2 v4 v6 v8 k0 = (G108x0 N v0 v1 v2 v4 v6 v8).bind k0 := by
 unfold G108x0 F108x0
 repeat' (first | with_reducible apply cond_b | (with_reducible apply bnd_b; intro _) | rfl)
def J108x0 (L : List Lf) (k0 : Int → Option R) : Option R := F108x0 N (ls L 0) (li L 1) (li L 2) (ll L 4) (ll L 6) (ll L 8) k0
def sh108x0 : Sh := { tmps := [(0, .g (.s :: [.i .i64, .i .i64, .sl 216, .sl 219, .sl 9]))], mem := [] }
def A108x0 (L : List Lf) : List (Bool × Res) := bnd (J108x0 N L (fun p => some p)) fun q => [(q.isSome, ([.c (.i .i64 (q.getD default))], []))]
theorem raw108x0 (L : List Lf) : bd Tryz.prog (T202x0 N) (h108x0s7 N).h 108 sh108x0 L = J108x0 N L (fun p => some ([.c (.i .i64 p)], [])) := by kernel_rfl
theorem ok108x0 : FnOk Tryz.prog 108 sh108x0 (A108x0 N) :=
 (h108x0s7 N).fn progOk (T202x0_ok N) fun L x hx => ((raw108x0 N L).trans ((bind108x0 N ..).trans (alt1 x hx)))
def T108x0 : Oracle := ext 108 (spSh sh108x0 (A108x0 N)) (T202x0 N)
theorem T108x0_ok : OracleOk Tryz.prog (T108x0 N) := FnOk.to (ok108x0 N) (T202x0_ok N)
def rg109x0 : List (Nat × List Nat) := [(0, [0, 1, 2]), (1, [0, 1, 2])]
def hd109x0 : Hints := []
def h109x0s0 (N : Nat) : Sg Tryz.prog 0 109 := .start hd109x0 rg109x0
def F109x0 (N : Nat) (v0 v1 v2 : Int) (k0 : Bool → R) : R :=
 k0 (bif (decide (v0 ≥ v1)) then (decide (v0 ≤ v2)) else false)
def V109x0 (v0 v1 v2 : Int) : Bool := F109x0 N v0 v1 v2 (fun p => p)
theorem tot109x0 (v0 v1 v2 : Int) (k0 : Bool → R) : F109x0 N v0 v1 v2 k0 = k0 (V109x0 N v0 v1 v2) := by
 unfold V109x0 F109x0
 repeat' (first | rfl | apply cond_k | (apply bnd_k; intro _))
def sh109x0 : Sh := { tmps := [(0, .c (.i .i64)), (1, .c (.i .i64)), (2, .c (.i .i64))], mem := [] }
def A109x0 (L : List Lf) : List (Bool × Res) := bnd (F109x0 N (li L 0) (li L 1) (li L 2) (fun p => p)) fun q => [(true, ([.c (.b q)], []))]
theorem raw109x0 (L : List Lf) : bd Tryz.prog (T108x0 N) (h109x0s0 N).h 109 sh109x0 L = F109x0 N (li L 0) (li L 1) (li L 2) (fun p => some ([.c (.b p)], [])) := by kernel_rfl
theorem ok109x0 : FnOk Tryz.prog 109 sh109x0 (A109x0 N) :=
 (h109x0s0 N).fn progOk (T108x0_ok N) fun L x hx => ((raw109x0 N L).trans ((tot109x0 N ..).trans (alt0 _ _ hx)))
def T109x0 : Oracle := ext 109 (spSh sh109x0 (A109x0 N)) (T108x0 N)
theorem T109x0_ok : OracleOk Tryz.prog (T109x0 N) := FnOk.to (ok109x0 N) (T108x0_ok N)
def rg306x0 : List (Nat × List Nat) := [(0, [0]), (1, [1])]
def hd306x0 : Hints := []
def h306x0s0 (N : Nat) : Sg Tryz.prog 0 306 := .start hd306x0 rg306x0
def F306x0 (N : Nat) (k0 : Unit → R) : R :=
 k0 ()
def V306x0 : Unit := F306x0 N (fun p => p)
theorem tot306x0 (k0 : Unit → R) : F306x0 N k0 = k0 (V306x0 N) := by
 unfold V306x0 F306x0
 repeat' (first | rfl | apply cond_k | (apply bnd_k; intro _))
def sh306x0 : Sh := { tmps := [(0, .g (.s :: [.i .i64, .i .i64, .sl 216, .sl 219, .sl 9]))], mem := [] }
def K306x0w0 (L : List Lf) (_ : Unit) : Res := ([.c (.f 369 [(1, 0)])], [(1, .box [.s (ls L 0), .i .i64 (li L 1), .i .i64 (li L 2), .sl 216 (lb L 3) (ll L 4), .sl 219 (lb L 5) (ll L 6), .sl 9 (lb L 7) (ll L 8)])])
def A306x0 (N : Nat) (L : List Lf) : List (Bool × Res) := [(true, K306x0w0 L ())]
theorem raw306x0 (L : List Lf) : bd Tryz.prog (T109x0 N) (h306x0s0 N).h 306 sh306x0 L = F306x0 N (fun _ => some (K306x0w0 L ())) := by kernel_rfl
theorem ok306x0 : FnOk Tryz.prog 306 sh306x0 (A306x0 N) :=
 (h306x0s0 N).fn progOk (T109x0_ok N) fun L x hx => ((raw306x0 N L).trans ((tot306x0 N ..).trans (alt0 _ _ hx)))
def T306x0 : Oracle := ext 306 (spSh sh306x0 (A306x0 N)) (T109x0 N)
theorem T306x0_ok : OracleOk Tryz.prog (T306x0 N) := FnOk.to (ok306x0 N) (T109x0_ok N)
def rg370x0 : List (Nat × List Nat) := [(0, [0, 1, 2]), (1, [0, 1, 2])]
def hd370x0 : Hints := []
def h370x0s0 (N : Nat) : Sg Tryz.prog 0 370 := .start hd370x0 rg370x0
def F370x0 (N : Nat) (v0 v1 v2 : Int) (k0 : Bool → R) : R :=
 k0 (bif (decide (v0 ≥ v1)) then (decide (v0 ≤ v2)) else false)
def V370x0 (v0 v1 v2 : Int) : Bool := F370x0 N v0 v1 v2 (fun p => p)
theorem tot370x0 (v0 v1 v2 : Int) (k0 : Bool → R) : F370x0 N v0 v1 v2 k0 = k0 (V370x0 N v0 v1 v2) := by
 unfold V370x0 F370x0
 repeat' (first | rfl | apply cond_k | (apply bnd_k; intro _))
def sh370x0 : Sh := { tmps := [(0, .c (.i .i64)), (1, .c (.i .i64)), (2, .c (.i .i64))], mem := [] }
def A370x0 (L : List Lf) : List (Bool × Res) := bnd (F370x0 N (li L 0) (li L 1) (li L 2) (fun p => p)) fun q => [(true, ([.c (.b q)], []))]
theorem raw370x0 (L : List Lf) : bd Tryz.prog (T306x0 N) (h370x0s0 N).h 370 sh370x0 L = F370x0 N (li L 0) (li L 1) (li L 2) (fun p => some ([.c (.b p)], [])) := by kernel_rfl
theorem ok370x0 : FnOk Tryz.prog 370 sh370x0 (A370x0 N) :=
 (h370x0s0 N).fn progOk (T306x0_ok N) fun L x hx => ((raw370x0 N L).trans ((tot370x0 N ..).trans (alt0 _ _ hx)))
def T370x0 : Oracle := ext 370 (spSh sh370x0 (A370x0 N)) (T306x0 N)
theorem T370x0_ok : OracleOk Tryz.prog (T370x0 N) := FnOk.to (ok370x0 N) (T306x0_ok N)
def rg406x0 : List (Nat × List Nat) := [(0, [0, 1]), (1, [3, 2])]
def hd406x0 : Hints := []
def h406x0s0 (N : Nat) : Sg Tryz.prog 0 406 := .start hd406x0 rg406x0
def F406x0 (N : Nat) (v1 v2 v8 v9 : Int) (k0 : Int → R) : R :=
 bnd (IntKind.wrap .i64 ((IntKind.wrap .i64 (v8 - v1)) * (IntKind.wrap .i64 (v8 - v1)))) fun y0 =>
 bnd (IntKind.wrap .i64 ((IntKind.wrap .i64 (v9 - v2)) * (IntKind.wrap .i64 (v9 - v2)))) fun y1 =>
 k0 (IntKind.wrap .i64 (y0 + y1))
def V406x0 (v1 v2 v8 v9 : Int) : Int := F406x0 N v1 v2 v8 v9 (fun p => p)
theorem tot406x0 (v1 v2 v8 v9 : Int) (k0 : Int → R) : F406x0 N v1 v2 v8 v9 k0 = k0 (V406x0 N v1 v2 v8 v9) := by
 unfold V406x0 F406x0
 repeat' (first | rfl | apply cond_k | (apply bnd_k; intro _))
def J406x0 (L : List Lf) (k0 : Int → R) : R := F406x0 N (li L 1) (li L 2) (li L 8) (li L 9) k0
def sh406x0 : Sh := { tmps := [(0, .g (rI 7 ([]))), (1, .g (rI 7 ([])))], mem := [] }
def A406x0 (L : List Lf) : List (Bool × Res) := bnd (J406x0 N L (fun p => p)) fun q => [(true, ([.c (.i .i64 q)], []))]
theorem raw406x0 (L : List Lf) : bd Tryz.prog (T370x0 N) (h406x0s0 N).h 406 sh406x0 L = J406x0 N L (fun p => some ([.c (.i .i64 p)], [])) := by kernel_rfl
theorem ok406x0 : FnOk Tryz.prog 406 sh406x0 (A406x0 N) :=
 (h406x0s0 N).fn progOk (T370x0_ok N) fun L x hx => ((raw406x0 N L).trans ((tot406x0 N ..).trans (alt0 _ _ hx)))
def T406x0 : Oracle := ext 406 (spSh sh406x0 (A406x0 N)) (T370x0 N)
theorem T406x0_ok : OracleOk Tryz.prog (T406x0 N) := FnOk.to (ok406x0 N) (T370x0_ok N)
def rg405x0 : List (Nat × List Nat) := [(0, [0]), (1, [0]), (2, []), (3, [0]), (4, [4, 0]), (5, [5, 4, 0]), (7, [4, 5, 0]), (8, [6, 0, 5, 4]), (9, [6, 5, 0]), (6, [5, 4, 0]), (10, [4])]
def hd405x0 : Hints := [(15, [5, 4, 0], [], []), (29, [6, 5, 0, 4, 26], [], [])]
def h405x0s0 (N : Nat) : Sg Tryz.prog 0 405 := .start hd405x0 rg405x0
def F405x0x29 (N : Nat) (w0 w3 : Int) (w4 : Bool) (k0 : Int → R) : R :=
 bif w4 then
  k0 w0
 else
  k0 w3
def V405x0x29 (w0 w3 : Int) (w4 : Bool) : Int := F405x0x29 N w0 w3 w4 (fun p => p)
theorem tot405x0x29 (w0 w3 : Int) (w4 : Bool) (k0 : Int → R) : F405x0x29 N w0 w3 w4 k0 = k0 (V405x0x29 N w0 w3 w4) := by
 unfold V405x0x29 F405x0x29
 repeat' (first | rfl | apply cond_k | (apply bnd_k; intro _))
def sh405x0x29 : Sh := { tmps := [(6, .c (.i .i64)), (5, .c (.i .i64)), (0, .c (.i .i64)), (4, .c (.i .i64)), (26, .c (.b))], mem := [] }
def K405x0x29w0 (L : List Lf) (p : Int) : Ex × St := (.normal, mg (ofSh sh405x0x29 L) [5, 4, 0] [(4, .c (.i .i64 p))] [] [])
def A405x0x29 (L : List Lf) : List (Bool × (Ex × St)) := bnd (F405x0x29 N (li L 0) (li L 3) (lb L 4) (fun p => p)) fun q => [(true, K405x0x29w0 L q)]
theorem raw405x0x29 (L : List Lf) : pc Tryz.prog (T406x0 N) (h405x0s0 N).h 0 100 405 29 sh405x0x29 L [5, 4, 0] [] = F405x0x29 N (li L 0) (li L 3) (lb L 4) (fun p => some (K405x0x29w0 L p)) := by kernel_rfl
def h405x0s1 : Sg Tryz.prog 0 405 :=
 (h405x0s0 N).cut (A405x0x29 N) progOk (T406x0_ok N) fun L x hx => (raw405x0x29 N L).trans ((tot405x0x29 N ..).trans (alt0 _ _ hx))
def S405x0x15 (w2 : Int) (w0 w1 : Int) (kr : Int → Int → Option R) (k0 : Int → Option R) : Option R :=
 bif (decide (w0 > 0)) then
  bnd (IntKind.wrap .i64 ((IntKind.wrap .i64 (w1 + w0)) * (IntKind.wrap .i64 (w1 + w0)))) fun y0 =>
  bif (bif (!((IntKind.wrap .i64 (w1 + w0)) == 0)) then true else (!((decide (y0 > 0)) == true))) then
   bnd (bif (decide (y0 > 0)) then (decide ((IntKind.wrap .i64 (w1 + w0)) ≤ (IntKind.wrap .i64 (w2.tdiv (IntKind.wrap .i64 (w1 + w0)))))) else false) fun y1 =>
   bnd (V405x0x29 N (IntKind.wrap .i64 (w1 + w0)) w1 y1) fun y2 =>
   kr (w0.fdiv (2 ^ 1)) y2
  else
   none
 else
  k0 w1
def L405x0x15 (N : Nat) {R : Type} (w2 : Int) : Nat → Int → Int → (Int → Option R) → Option R
 | 0, _, _, _ => none
 | m + 1, w0, w1, k0 => S405x0x15 N w2 w0 w1 (fun w0 w1 => L405x0x15 N w2 m w0 w1 k0) k0
def G405x0x15 (w2 : Int) (w0 w1 : Int) : Option (Int) := L405x0x15 N (R := (Int)) w2 N w0 w1 (fun p => some p)
def J405x0x15 (L x : List Lf) (kr : List Lf → Option R) (k0 : Int → Option R) : Option R := S405x0x15 N (li L 2) (li x 0) (li x 1) (fun w0 w1 => kr [.i w0, .i w1]) k0
theorem sb405x0x15 (L x : List Lf) (kr : List Lf → Option R) (k0 : Int → Option R) : J405x0x15 N L x kr k0 = (J405x0x15 N L x (fun y => some (.inl y)) (fun p => some (.inr p))).bind (sumE kr k0) := by
 unfold J405x0x15 S405x0x15
 repeat' (first | with_reducible apply cond_b | (with_reducible apply bnd_b; intro _) | rfl)
def Q405x0x15 (L : List Lf) (m : Nat) (x : List Lf) : Option (Int) := L405x0x15 N (R := (Int)) (li L 2) m (li x 0) (li x 1) (fun p => some p)
def sh405x0x15 : Sh := { tmps := [(5, .c (.i .i64)), (4, .c (.i .i64)), (0, .c (.i .i64))], mem := [] }
def A405x0x15 (L : List Lf) : List (Bool × (Ex × St)) := bnd (Q405x0x15 N L N (pk sh405x0x15 [0, 1] L)) fun q => [(q.isSome, ((.exit 0), ⟨[(4, .c (.i .i64 (q.getD default)))], []⟩))]
theorem step405x0x15 (m : Nat) (kn : St → Option (Ex × St)) (L x : List Lf) : lpB Tryz.prog (T406x0 N) (h405x0s1 N).h 0 405 15 sh405x0x15 [0, 1] [2, 3, 4] [] (m + 100) kn L x = J405x0x15 N L x (fun y => kn (ofSh sh405x0x15 (mx sh405x0x15 [0, 1] L y))) (fun p => some ((.exit 0), ⟨[(4, .c (.i .i64 p))], []⟩)) := by kernel_rfl
theorem ql405x0x15 (L : List Lf) (m : Nat) (x : List Lf) : Q405x0x15 N L (m + 1) x = J405x0x15 N L x (Q405x0x15 N L m) some := by kernel_rfl
def h405x0s2 : Sg Tryz.prog 0 405 :=
 (h405x0s1 N).lp (A405x0x15 N) N progOk (T406x0_ok N) (fun m kn L x => (step405x0x15 N m kn L x).trans (sb405x0x15 N L x _ _)) (fun L m x => (ql405x0x15 N L m x).trans (sb405x0x15 N L x (Q405x0x15 N L m) some)) fun L x hx => alt1 x hx
def F405x0 (v0 : Int) (k0 : Int × Int → Option R) : Option R :=
 bif (decide (v0 < 0)) then
  k0 (0, 1)
 else
  bnd (G405x0x15 N v0 2147483648 0) fun y0 =>
  bif y0.isSome then
   k0 ((y0.getD default), 0)
  else
   none
def G405x0 (v0 : Int) : Option (Int × Int) := F405x0 N v0 (fun p => some p)
theorem bind405x0 (v0 : Int) (k0 : Int × Int → Option R) : F405x0 N v0 k0 = (G405x0 N v0).bind k0 := by
 unfold G405x0 F405x0
 repeat' (first | with_reducible apply cond_b | (with_reducible apply bnd_b; intro _) | rfl)
def sh405x0 : Sh := { tmps := [(0, .c (.i .i64))], mem := [] }
def A405x0 (L : List Lf) : List (Bool × Res) := bnd (F405x0 N (li L 0) (fun p => some p)) fun q => [(q.isSome, ([.c (.i .i64 (q.getD default).1), .c (.i .i64 (q.getD default).2)], []))]
theorem raw405x0 (L : List Lf) : bd Tryz.prog (T406x0 N) (h405x0s2 N).h 405 sh405x0 L = F405x0 N (li L 0) (fun p => some ([.c (.i .i64 p.1), .c (.i .i64 p.2)], [])) := by kernel_rfl
theorem ok405x0 : FnOk Tryz.prog 405 sh405x0 (A405x0 N) :=
 (h405x0s2 N).fn progOk (T406x0_ok N) fun L x hx => ((raw405x0 N L).trans ((bind405x0 N ..).trans (alt1 x hx)))
def T405x0 : Oracle := ext 405 (spSh sh405x0 (A405x0 N)) (T406x0 N)
theorem T405x0_ok : OracleOk Tryz.prog (T405x0 N) := FnOk.to (ok405x0 N) (T406x0_ok N)
def rg371x0 : List (Nat × List Nat) := [(0, [0, 1]), (1, [2, 3]), (2, [5])]
def hd371x0 : Hints := []
def h371x0s0 (N : Nat) : Sg Tryz.prog 0 371 := .start hd371x0 rg371x0
def F371x0 (v1 v2 v8 v9 : Int) (k0 : Int → Option R) : Option R :=
 bnd (V406x0 N v1 v2 v8 v9) fun y0 =>
 bnd (G405x0 N y0) fun y1 =>
 bif y1.isSome then
  k0 (y1.getD default).1
 else
  none
def G371x0 (v1 v2 v8 v9 : Int) : Option (Int) := F371x0 N v1 v2 v8 v9 (fun p => some p)
theorem bind371x0 (v1 v2 v8 v9 : Int) (k0 : Int → Option R) : F371x0 N v1 v2 v8 v9 k0 = (G371x0 N v1 v2 v8 v9).bind k0 := by
 unfold G371x0 F371x0
 repeat' (first | with_reducible apply cond_b | (with_reducible apply bnd_b; intro _) | rfl)
def J371x0 (L : List Lf) (k0 : Int → Option R) : Option R := F371x0 N (li L 1) (li L 2) (li L 8) (li L 9) k0
def sh371x0 : Sh := { tmps := [(0, .g (rI 7 ([]))), (1, .g (rI 7 ([])))], mem := [] }
def A371x0 (L : List Lf) : List (Bool × Res) := bnd (J371x0 N L (fun p => some p)) fun q => [(q.isSome, ([.c (.i .i64 (q.getD default))], []))]
theorem raw371x0 (L : List Lf) : bd Tryz.prog (T405x0 N) (h371x0s0 N).h 371 sh371x0 L = J371x0 N L (fun p => some ([.c (.i .i64 p)], [])) := by kernel_rfl
theorem ok371x0 : FnOk Tryz.prog 371 sh371x0 (A371x0 N) :=
 (h371x0s0 N).fn progOk (T405x0_ok N) fun L x hx => ((raw371x0 N L).trans ((bind371x0 N ..).trans (alt1 x hx)))
def T371x0 : Oracle := ext 371 (spSh sh371x0 (A371x0 N)) (T405x0 N)
theorem T371x0_ok : OracleOk Tryz.prog (T371x0 N) := FnOk.to (ok371x0 N) (T405x0_ok N)
def rg307x0 : List (Nat × List Nat) := [(0, [0, 1]), (1, [2, 3]), (2, [18, 17, 16, 2, 3]), (3, [16, 18, 17, 2, 3]), (4, [7, 18, 17, 16, 2, 3]), (5, []), (6, [18, 17, 16, 2, 3]), (7, [2, 3])]
def hd307x0 : Hints := [(6, [18, 17, 16, 2, 3], [16, 3, 2], [])]
def h307x0s0 (N : Nat) : Sg Tryz.prog 0 307 := .start hd307x0 rg307x0
def S307x0x6 (w1 : Int) (w3 : LD) (w0 : Int) (kr : Int → Option R) (k0 : Unit → Option R) (k1 : Unit → Option R) : Option R :=
 bif (decide (w0 < w1)) then
  bif (inB w0 w3.length) then
   bif (decide (w0.toNat < w3.length)) then
    bnd (V370x0 N (w3.getD w0.toNat (.i 0)).toI (-100000000) 100000000) fun y0 =>
    bif (!y0) then
     k0 ()
    else
     kr (IntKind.wrap .i64 (w0 + 1))
   else
    none
  else
   none
 else
  k1 ()
def L307x0x6 (N : Nat) {R : Type} (w1 : Int) (w3 : LD) : Nat → Int → (Unit → Option R) → (Unit → Option R) → Option R
 | 0, _, _, _ => none
 | m + 1, w0, k0, k1 => S307x0x6 N w1 w3 w0 (fun w0 => L307x0x6 N w1 w3 m w0 k0 k1) k0 k1
def G307x0x6 (w1 : Int) (w3 : LD) (w0 : Int) : Option (Sum (Unit) (Unit)) := L307x0x6 N (R := (Sum (Unit) (Unit))) w1 w3 N w0 (fun p => some (.inl p)) (fun p => some (.inr p))
def J307x0x6 (L x : List Lf) (kr : List Lf → Option R) (k0 : Unit → Option R) (k1 : Unit → Option R) : Option R := S307x0x6 N (li L 1) (ll L 3) (li x 0) (fun w0 => kr [.i w0]) k0 k1
theorem sb307x0x6 (L x : List Lf) (kr : List Lf → Option R) (k0 : Unit → Option R) (k1 : Unit → Option R) : J307x0x6 N L x kr k0 k1 = (J307x0x6 N L x (fun y => some (.inl y)) (fun p => some (.inr (.inl p))) (fun p => some (.inr (.inr p)))).bind (sumE kr (sumE k0 k1)) := by
 unfold J307x0x6 S307x0x6
 repeat' (first | with_reducible apply cond_b | (with_reducible apply bnd_b; intro _) | rfl)
def Q307x0x6 (L : List Lf) (m : Nat) (x : List Lf) : Option (Sum (Unit) (Unit)) := L307x0x6 N (R := (Sum (Unit) (Unit))) (li L 1) (ll L 3) m (li x 0) (fun p => some (.inl p)) (fun p => some (.inr p))
def sh307x0x6 : Sh := { tmps := [(18, .c (.i .i64)), (17, .c (.i .i64)), (16, .c (.o 16)), (2, .c (.p 2 0)), (3, .c (.p 3 0))], mem := [(16, .row 3 true), (3, .box (rI 7 ([]))), (2, .box (rI 7 ([])))] }
def K307x0x6w0 (L : List Lf) (_ : Unit) : Ex × St := (.ret, mg (ofSh sh307x0x6 L) [4, 5] [(4, .c (.i .i64 0)), (5, .c (.i .i64 9))] [3, 2] [])
def A307x0x6 (L : List Lf) : List (Bool × (Ex × St)) := bnd (Q307x0x6 N L N (pk sh307x0x6 [0] L)) fun q => [((inlB q), K307x0x6w0 L ()), ((inrQ q).isSome, ((.exit 0), mg (ofSh sh307x0x6 L) [2, 3] [] [3, 2] []))]
theorem step307x0x6 (m : Nat) (kn : St → Option (Ex × St)) (L x : List Lf) : lpB Tryz.prog (T371x0 N) (h307x0s0 N).h 0 307 6 sh307x0x6 [0] [4, 5, 2, 3] [3, 2] (m + 100) kn L x = J307x0x6 N L x (fun y => kn (ofSh sh307x0x6 (mx sh307x0x6 [0] L y))) (fun _ => some (K307x0x6w0 L ())) (fun _ => some ((.exit 0), mg (ofSh sh307x0x6 L) [2, 3] [] [3, 2] [])) := by kernel_rfl
theorem ql307x0x6 (L : List Lf) (m : Nat) (x : List Lf) : Q307x0x6 N L (m + 1) x = J307x0x6 N L x (Q307x0x6 N L m) (fun p => some (.inl p)) (fun p => some (.inr p)) := by kernel_rfl
def h307x0s1 : Sg Tryz.prog 0 307 :=
 (h307x0s0 N).lp (A307x0x6 N) N progOk (T371x0_ok N) (fun m kn L x => (step307x0x6 N m kn L x).trans (sb307x0x6 N L x _ _ _)) (fun L m x => (ql307x0x6 N L m x).trans (sb307x0x6 N L x (Q307x0x6 N L m) (fun p => some (.inl p)) (fun p => some (.inr p)))) fun L x hx => (altS alt1) x hx
def F307x0 (v1 v2 v8 v9 : Int) (k0 : Int × Int → Option R) : Option R :=
 bnd (G307x0x6 N 4 [(.i v1), (.i v2), (.i v8), (.i v9)] 0) fun y0 =>
 bif (inlB y0) then
  k0 (0, 9)
 else
  bif (inrQ y0).isSome then
   bnd (G371x0 N v1 v2 v8 v9) fun y1 =>
   bif y1.isSome then
    k0 ((y1.getD default), 0)
   else
    none
  else
   none
def G307x0 (v1 v2 v8 v9 : Int) : Option (Int × Int) := F307x0 N v1 v2 v8 v9 (fun p => some p)
theorem bind307x0 (v1 v2 v8 v9 : Int) (k0 : Int × Int → Option R) : F307x0 N v1 v2 v8 v9 k0 = (G307x0 N v1 v2 v8 v9).bind k0 := by
 unfold G307x0 F307x0
 repeat' (first | with_reducible apply cond_b | (with_reducible apply bnd_b; intro _) | rfl)
def J307x0 (L : List Lf) (k0 : Int × Int → Option R) : Option R := F307x0 N (li L 1) (li L 2) (li L 8) (li L 9) k0
def sh307x0 : Sh := { tmps := [(0, .g (rI 7 ([]))), (1, .g (rI 7 ([])))], mem := [] }
def A307x0 (L : List Lf) : List (Bool × Res) := bnd (J307x0 N L (fun p => some p)) fun q => [(q.isSome, ([.c (.i .i64 (q.getD default).1), .c (.i .i64 (q.getD default).2)], []))]
theorem raw307x0 (L : List Lf) : bd Tryz.prog (T371x0 N) (h307x0s1 N).h 307 sh307x0 L = J307x0 N L (fun p => some ([.c (.i .i64 p.1), .c (.i .i64 p.2)], [])) := by kernel_rfl
theorem ok307x0 : FnOk Tryz.prog 307 sh307x0 (A307x0 N) :=
 (h307x0s1 N).fn progOk (T371x0_ok N) fun L x hx => ((raw307x0 N L).trans ((bind307x0 N ..).trans (alt1 x hx)))
def T307x0 : Oracle := ext 307 (spSh sh307x0 (A307x0 N)) (T371x0 N)
theorem T307x0_ok : OracleOk Tryz.prog (T307x0 N) := FnOk.to (ok307x0 N) (T371x0_ok N)
def rg269x0y600000010 : List (Nat × List Nat) := [(3, [17, 18, 3, 5]), (4, [18, 6, 3, 5]), (5, [7, 6, 3, 5]), (6, [3, 6, 8, 5, 7]), (7, [3, 6, 8, 10, 5, 7]), (9, [24, 6, 8, 10, 5, 7]), (11, [24, 6, 8, 10, 5, 7]), (13, [24, 6, 8, 10, 5, 7]), (15, [24, 6, 7, 8, 5]), (8, [7, 6, 8, 5]), (16, [6, 7, 8, 5]), (17, [8, 5, 9]), (14, [6, 8, 10, 5]), (12, [6, 8, 10, 5]), (10, [6, 8, 10, 5]), (18, [8, 10, 5, 9]), (19, [52, 51, 8, 10, 5, 9]), (20, [52, 8, 10, 5, 51, 9]), (22, [8, 10, 5, 52, 51, 9, 11]), (24, [8, 5, 52, 51, 10, 9, 11]), (26, [10, 5, 9, 11, 8, 52, 51]), (21, [5, 9, 52, 51, 8, 10]), (27, [5, 9, 11, 8, 52, 51, 10]), (25, [5, 52, 51, 8, 10, 9]), (23, [5, 52, 51, 8, 10, 9]), (28, [52, 51, 8, 10, 5, 9])]
def hd269x0y600000010 : Hints := [(24050, [6, 7, 8, 5, 43], [1, 24000000012, 24000000011, 50002005, 2], []), (45044, [6, 8, 10, 5, 24, 7, 39], [1, 24000000012, 24000000011, 50002005, 2], []), (39038, [6, 8, 10, 5, 24, 7, 35], [1, 24000000012, 24000000011, 50002005, 2], []), (33032, [6, 8, 10, 5, 24, 7, 31], [1, 24000000012, 24000000011, 50002005, 2], []), (57, [52, 51, 8, 10, 5, 9], [1, 50002005, 2, 24050002005], [50002000]), (63083, [5, 9, 11, 8, 52, 51, 10, 74], [1, 24050002005, 2], []), (78077, [5, 52, 51, 8, 10, 9, 11, 68], [1, 24050002005, 2], []), (72071, [5, 52, 51, 8, 10, 9, 11, 59], [1, 24050002005, 2], [])]
def h269x0y600000010s0 (N : Nat) : Sg Tryz.prog 24000000005 269 anyX WideF := .start hd269x0y600000010 rg269x0y600000010
def F269x0y600000010x24050 (w1 : Bool) (w4 w5 w6 w11 w12 w13 : Int) (k0 : Int → Option R) : Option R :=
 bif w1 then
  bnd (G307x0 N w11 w12 w4 w5) fun y0 =>
  bif y0.isSome then
   k0 (y0.getD default).1
  else
   none
 else
  k0 (max2 (IntKind.wrap .i64 (w6 - w13)) 0)
def G269x0y600000010x24050 (w1 : Bool) (w4 w5 w6 w11 w12 w13 : Int) : Option (Int) := F269x0y600000010x24050 N w1 w4 w5 w6 w11 w12 w13 (fun p => some p)
theorem bind269x0y600000010x24050 (w1 : Bool) (w4 w5 w6 w11 w12 w13 : Int) (k0 : Int → Option R) : F269x0y600000010x24050 N w1 w4 w5 w6 w11 w12 w13 k0 = (G269x0y600000010x24050 N w1 w4 w5 w6 w11 w12 w13).bind k0 := by
 unfold G269x0y600000010x24050 F269x0y600000010x24050
 repeat' (first | with_reducible apply cond_b | (with_reducible apply bnd_b; intro _) | rfl)
def J269x0y600000010x24050 (L : List Lf) (k0 : Int → Option R) : Option R := F269x0y600000010x24050 N (lb L 1) (li L 4) (li L 5) (li L 6) (li L 11) (li L 12) (li L 13) k0
def sh269x0y600000010x24050 : Sh := { tmps := [(6, .c (.p 24000000011 0)), (7, .c (.p 24000000012 0)), (8, .c (.i .i64)), (5, .c (.p 2 0)), (43, .c (.b))], mem := [(1, .box ([.i .i64])), (24000000012, .box (rI 7 ([]))), (24000000011, .box (rI 7 ([]))), (50002005, .row 3 true), (2, .box ([.o 50002005]))] }
def K269x0y600000010x24050w0 (L : List Lf) (p : Int) : Ex × St := (.normal, mg (ofSh sh269x0y600000010x24050 L) [8, 10, 5, 9] [(10, .c (.b true)), (9, .c (.i .i64 p))] [1, 50002005, 2] [])
def A269x0y600000010x24050 (L : List Lf) : List (Bool × (Ex × St)) := bnd (J269x0y600000010x24050 N L (fun p => some p)) fun q => [(q.isSome, K269x0y600000010x24050w0 L (q.getD default))]
theorem raw269x0y600000010x24050 (L : List Lf) : pc Tryz.prog (T307x0 N) (h269x0y600000010s0 N).h 24000000005 100 269 24050 sh269x0y600000010x24050 L [8, 10, 5, 9] [1, 50002005, 2] = J269x0y600000010x24050 N L (fun p => some (K269x0y600000010x24050w0 L p)) := by kernel_rfl
def h269x0y600000010s1 : Sg Tryz.prog 24000000005 269 anyX WideF :=
 (h269x0y600000010s0 N).cut (A269x0y600000010x24050 N) progOk (T307x0_ok N) fun L x hx => (raw269x0y600000010x24050 N L).trans ((bind269x0y600000010x24050 N ..).trans (alt1 x hx))
def F269x0y600000010x45044 (w1 : Bool) (w2 : Int) (w3 : Bool) (w6 w7 w8 w13 w14 w15 w18 : Int) (k0 : Bool × Int → Option R) : Option R :=
 bif w3 then
  k0 (w1, w18)
 else
  bnd (G269x0y600000010x24050 N (w2 == 4) w6 w7 w8 w13 w14 w15) fun y0 =>
  bif y0.isSome then
   k0 (true, (y0.getD default))
  else
   none
def G269x0y600000010x45044 (w1 : Bool) (w2 : Int) (w3 : Bool) (w6 w7 w8 w13 w14 w15 w18 : Int) : Option (Bool × Int) := F269x0y600000010x45044 N w1 w2 w3 w6 w7 w8 w13 w14 w15 w18 (fun p => some p)
theorem bind269x0y600000010x45044 (w1 : Bool) (w2 : Int) (w3 : Bool) (w6 w7 w8 w13 w14 w15 w18 : Int) (k0 : Bool × Int → Option R) : F269x0y600000010x45044 N w1 w2 w3 w6 w7 w8 w13 w14 w15 w18 k0 = (G269x0y600000010x45044 N w1 w2 w3 w6 w7 w8 w13 w14 w15 w18).bind k0 := by
 unfold G269x0y600000010x45044 F269x0y600000010x45044
 repeat' (first | with_reducible apply cond_b | (with_reducible apply bnd_b; intro _) | rfl)
def J269x0y600000010x45044 (L : List Lf) (k0 : Bool × Int → Option R) : Option R := F269x0y600000010x45044 N (lb L 1) (li L 2) (lb L 3) (li L 6) (li L 7) (li L 8) (li L 13) (li L 14) (li L 15) (li L 18) k0
def sh269x0y600000010x45044 : Sh := { tmps := [(6, .c (.p 24000000011 0)), (8, .c (.i .i64)), (10, .c (.b)), (5, .c (.p 2 0)), (24, .c (.i .i64)), (7, .c (.p 24000000012 0)), (39, .c (.b))], mem := [(1, .box ([.i .i64])), (24000000012, .box (rI 7 ([]))), (24000000011, .box (rI 7 ([]))), (50002005, .row 3 true), (2, .box ([.o 50002005]))] }
def K269x0y600000010x45044w0 (L : List Lf) (p : Bool × Int) : Ex × St := (.normal, mg (ofSh sh269x0y600000010x45044 L) [8, 10, 5, 9] [(10, .c (.b p.1)), (9, .c (.i .i64 p.2))] [1, 50002005, 2] [])
def A269x0y600000010x45044 (L : List Lf) : List (Bool × (Ex × St)) := bnd (J269x0y600000010x45044 N L (fun p => some p)) fun q => [(q.isSome, K269x0y600000010x45044w0 L (q.getD default))]
theorem raw269x0y600000010x45044 (L : List Lf) : pc Tryz.prog (T307x0 N) (h269x0y600000010s1 N).h 24000000005 100 269 45044 sh269x0y600000010x45044 L [8, 10, 5, 9] [1, 50002005, 2] = J269x0y600000010x45044 N L (fun p => some (K269x0y600000010x45044w0 L p)) := by kernel_rfl
def h269x0y600000010s2 : Sg Tryz.prog 24000000005 269 anyX WideF :=
 (h269x0y600000010s1 N).cut (A269x0y600000010x45044 N) progOk (T307x0_ok N) fun L x hx => (raw269x0y600000010x45044 N L).trans ((bind269x0y600000010x45044 N ..).trans (alt1 x hx))
def F269x0y600000010x39038 (w1 : Bool) (w2 : Int) (w3 : Bool) (w6 w7 w8 w13 w14 w15 w17 w18 : Int) (k0 : Bool × Int → Option R) : Option R :=
 bif w3 then
  k0 (w1, w17)
 else
  bnd (G269x0y600000010x45044 N w1 w2 (w2 == 3) w6 w7 w8 w13 w14 w15 w18) fun y0 =>
  bif y0.isSome then
   k0 (y0.getD default)
  else
   none
def G269x0y600000010x39038 (w1 : Bool) (w2 : Int) (w3 : Bool) (w6 w7 w8 w13 w14 w15 w17 w18 : Int) : Option (Bool × Int) := F269x0y600000010x39038 N w1 w2 w3 w6 w7 w8 w13 w14 w15 w17 w18 (fun p => some p)
theorem bind269x0y600000010x39038 (w1 : Bool) (w2 : Int) (w3 : Bool) (w6 w7 w8 w13 w14 w15 w17 w18 : Int) (k0 : Bool × Int → Option R) : F269x0y600000010x39038 N w1 w2 w3 w6 w7 w8 w13 w14 w15 w17 w18 k0 = (G269x0y600000010x39038 N w1 w2 w3 w6 w7 w8 w13 w14 w15 w17 w18).bind k0 := by
 unfold G269x0y600000010x39038 F269x0y600000010x39038
 repeat' (first | with_reducible apply cond_b | (with_reducible apply bnd_b; intro _) | rfl)
def J269x0y600000010x39038 (L : List Lf) (k0 : Bool × Int → Option R) : Option R := F269x0y600000010x39038 N (lb L 1) (li L 2) (lb L 3) (li L 6) (li L 7) (li L 8) (li L 13) (li L 14) (li L 15) (li L 17) (li L 18) k0
def sh269x0y600000010x39038 : Sh := { tmps := [(6, .c (.p 24000000011 0)), (8, .c (.i .i64)), (10, .c (.b)), (5, .c (.p 2 0)), (24, .c (.i .i64)), (7, .c (.p 24000000012 0)), (35, .c (.b))], mem := [(1, .box ([.i .i64])), (24000000012, .box (rI 7 ([]))), (24000000011, .box (rI 7 ([]))), (50002005, .row 3 true), (2, .box ([.o 50002005]))] }
def K269x0y600000010x39038w0 (L : List Lf) (p : Bool × Int) : Ex × St := (.normal, mg (ofSh sh269x0y600000010x39038 L) [8, 10, 5, 9] [(10, .c (.b p.1)), (9, .c (.i .i64 p.2))] [1, 50002005, 2] [])
def A269x0y600000010x39038 (L : List Lf) : List (Bool × (Ex × St)) := bnd (J269x0y600000010x39038 N L (fun p => some p)) fun q => [(q.isSome, K269x0y600000010x39038w0 L (q.getD default))]
theorem raw269x0y600000010x39038 (L : List Lf) : pc Tryz.prog (T307x0 N) (h269x0y600000010s2 N).h 24000000005 100 269 39038 sh269x0y600000010x39038 L [8, 10, 5, 9] [1, 50002005, 2] = J269x0y600000010x39038 N L (fun p => some (K269x0y600000010x39038w0 L p)) := by kernel_rfl
def h269x0y600000010s3 : Sg Tryz.prog 24000000005 269 anyX WideF :=
 (h269x0y600000010s2 N).cut (A269x0y600000010x39038 N) progOk (T307x0_ok N) fun L x hx => (raw269x0y600000010x39038 N L).trans ((bind269x0y600000010x39038 N ..).trans (alt1 x hx))
def F269x0y600000010x33032 (w1 : Bool) (w2 : Int) (w3 : Bool) (w6 w7 w8 w13 w14 w15 w16 w17 w18 : Int) (k0 : Bool × Int → Option R) : Option R :=
 bif w3 then
  k0 (w1, w16)
 else
  bnd (G269x0y600000010x39038 N w1 w2 (w2 == 2) w6 w7 w8 w13 w14 w15 w17 w18) fun y0 =>
  bif y0.isSome then
   k0 (y0.getD default)
  else
   none
def G269x0y600000010x33032 (w1 : Bool) (w2 : Int) (w3 : Bool) (w6 w7 w8 w13 w14 w15 w16 w17 w18 : Int) : Option (Bool × Int) := F269x0y600000010x33032 N w1 w2 w3 w6 w7 w8 w13 w14 w15 w16 w17 w18 (fun p => some p)
theorem bind269x0y600000010x33032 (w1 : Bool) (w2 : Int) (w3 : Bool) (w6 w7 w8 w13 w14 w15 w16 w17 w18 : Int) (k0 : Bool × Int → Option R) : F269x0y600000010x33032 N w1 w2 w3 w6 w7 w8 w13 w14 w15 w16 w17 w18 k0 = (G269x0y600000010x33032 N w1 w2 w3 w6 w7 w8 w13 w14 w15 w16 w17 w18).bind k0 := by
 unfold G269x0y600000010x33032 F269x0y600000010x33032
 repeat' (first | with_reducible apply cond_b | (with_reducible apply bnd_b; intro _) | rfl)
def J269x0y600000010x33032 (L : List Lf) (k0 : Bool × Int → Option R) : Option R := F269x0y600000010x33032 N (lb L 1) (li L 2) (lb L 3) (li L 6) (li L 7) (li L 8) (li L 13) (li L 14) (li L 15) (li L 16) (li L 17) (li L 18) k0
def sh269x0y600000010x33032 : Sh := { tmps := [(6, .c (.p 24000000011 0)), (8, .c (.i .i64)), (10, .c (.b)), (5, .c (.p 2 0)), (24, .c (.i .i64)), (7, .c (.p 24000000012 0)), (31, .c (.b))], mem := [(1, .box ([.i .i64])), (24000000012, .box (rI 7 ([]))), (24000000011, .box (rI 7 ([]))), (50002005, .row 3 true), (2, .box ([.o 50002005]))] }
def K269x0y600000010x33032w0 (L : List Lf) (p : Bool × Int) : Ex × St := (.normal, mg (ofSh sh269x0y600000010x33032 L) [8, 10, 5, 9] [(10, .c (.b p.1)), (9, .c (.i .i64 p.2))] [1, 50002005, 2] [])
def A269x0y600000010x33032 (L : List Lf) : List (Bool × (Ex × St)) := bnd (J269x0y600000010x33032 N L (fun p => some p)) fun q => [(q.isSome, K269x0y600000010x33032w0 L (q.getD default))]
theorem raw269x0y600000010x33032 (L : List Lf) : pc Tryz.prog (T307x0 N) (h269x0y600000010s3 N).h 24000000005 100 269 33032 sh269x0y600000010x33032 L [8, 10, 5, 9] [1, 50002005, 2] = J269x0y600000010x33032 N L (fun p => some (K269x0y600000010x33032w0 L p)) := by kernel_rfl
def h269x0y600000010s4 : Sg Tryz.prog 24000000005 269 anyX WideF :=
 (h269x0y600000010s3 N).cut (A269x0y600000010x33032 N) progOk (T307x0_ok N) fun L x hx => (raw269x0y600000010x33032 N L).trans ((bind269x0y600000010x33032 N ..).trans (alt1 x hx))
def F269x0y600000010x63083 (N : Nat) (w0 w1 w2 : Int) (w6 : Bool) (w9 : LD) (k0 : LD → Option R) (k1 : LD → Option R) : Option R :=
 bif w6 then
  bif (!(w2 == 0)) then
   bnd (IntKind.wrap .i64 ((IntKind.wrap .i64 (w0 * (IntKind.wrap .i64 (w1 + 1)))).tdiv w2)) fun y0 =>
   bif (!(w2 == 0)) then
    bnd (IntKind.wrap .i64 (y0 - (IntKind.wrap .i64 ((IntKind.wrap .i64 (w0 * w1)).tdiv w2)))) fun y1 =>
    bif (decide ((w9.length + 1) * 8 ≤ room) && decide ((w9.length + 1) ≤ strMax)) then
     k0 (w9 ++ [(.i y1)])
    else
     none
   else
    none
  else
   none
 else
  bif (decide ((w9.length + 1) * 8 ≤ room) && decide ((w9.length + 1) ≤ strMax)) then
   k1 (w9 ++ [(.i w0)])
  else
   none
def G269x0y600000010x63083 (w0 w1 w2 : Int) (w6 : Bool) (w9 : LD) : Option (Sum (LD) (LD)) := F269x0y600000010x63083 N w0 w1 w2 w6 w9 (fun p => some (.inl p)) (fun p => some (.inr p))
theorem bind269x0y600000010x63083 (w0 w1 w2 : Int) (w6 : Bool) (w9 : LD) (k0 : LD → Option R) (k1 : LD → Option R) : F269x0y600000010x63083 N w0 w1 w2 w6 w9 k0 k1 = (G269x0y600000010x63083 N w0 w1 w2 w6 w9).bind (sumE k0 k1) := by
 unfold G269x0y600000010x63083 F269x0y600000010x63083
 repeat' (first | with_reducible apply cond_b | (with_reducible apply bnd_b; intro _) | rfl)
def J269x0y600000010x63083 (L : List Lf) (k0 : LD → Option R) (k1 : LD → Option R) : Option R := F269x0y600000010x63083 N (li L 0) (li L 1) (li L 2) (lb L 6) (ll L 9) k0 k1
def sh269x0y600000010x63083 : Sh := { tmps := [(5, .c (.p 2 0)), (9, .c (.i .i64)), (11, .c (.i .i64)), (8, .c (.i .i64)), (52, .c (.i .i64)), (51, .c (.i .i64)), (10, .c (.b)), (74, .c (.b))], mem := [(1, .box ([.i .i64])), (24050002005, .row 3 true), (2, .box ([.o 24050002005]))] }
def K269x0y600000010x63083w0 (L : List Lf) (p : LD) : Ex × St := (.normal, mg (ofSh sh269x0y600000010x63083 L) [52, 51, 8, 10, 5, 9] [] [1, 24000000095, 2] [(24000000095, .row 3 true false p), (2, .box [.o 24000000095])])
def K269x0y600000010x63083w1 (L : List Lf) (p : LD) : Ex × St := (.normal, mg (ofSh sh269x0y600000010x63083 L) [52, 51, 8, 10, 5, 9] [] [1, 2, 24000000063] [(2, .box [.o 24000000063]), (24000000063, .row 3 true false p)])
def A269x0y600000010x63083 (L : List Lf) : List (Bool × (Ex × St)) := bnd (J269x0y600000010x63083 N L (fun p => some (.inl p)) (fun p => some (.inr p))) fun q => [((inlB q), K269x0y600000010x63083w0 L (inlV q)), ((inrQ q).isSome, K269x0y600000010x63083w1 L ((inrQ q).getD default))]
theorem raw269x0y600000010x63083 (L : List Lf) : pc Tryz.prog (T307x0 N) (h269x0y600000010s4 N).h 24000000005 100 269 63083 sh269x0y600000010x63083 L [52, 51, 8, 10, 5, 9] [1, 24000000095, 2, 24000000063] = J269x0y600000010x63083 N L (fun p => some (K269x0y600000010x63083w0 L p)) (fun p => some (K269x0y600000010x63083w1 L p)) := by kernel_rfl
def h269x0y600000010s5 : Sg Tryz.prog 24000000005 269 anyX WideF :=
 (h269x0y600000010s4 N).cut (A269x0y600000010x63083 N) progOk (T307x0_ok N) fun L x hx => (raw269x0y600000010x63083 N L).trans ((bind269x0y600000010x63083 N ..).trans ((altS alt1) x hx))
def F269x0y600000010x78077 (w2 : Int) (w3 : Bool) (w4 w5 : Int) (w6 : Bool) (w9 : LD) (k0 : LD → Option R) (k1 : LD → Option R) (k2 : LD → Option R) : Option R :=
 bif w6 then
  bif (decide ((w9.length + 1) * 8 ≤ room) && decide ((w9.length + 1) ≤ strMax)) then
   k0 (w9 ++ [(.i (-1))])
  else
   none
 else
  bnd (G269x0y600000010x63083 N w4 w5 w2 w3 w9) fun y0 =>
  bif (inlB y0) then
   k1 (inlV y0)
  else
   bif (inrQ y0).isSome then
    k2 ((inrQ y0).getD default)
   else
    none
def G269x0y600000010x78077 (w2 : Int) (w3 : Bool) (w4 w5 : Int) (w6 : Bool) (w9 : LD) : Option (Sum (LD) (Sum (LD) (LD))) := F269x0y600000010x78077 N w2 w3 w4 w5 w6 w9 (fun p => some (.inl p)) (fun p => some (.inr (.inl p))) (fun p => some (.inr (.inr p)))
theorem bind269x0y600000010x78077 (w2 : Int) (w3 : Bool) (w4 w5 : Int) (w6 : Bool) (w9 : LD) (k0 : LD → Option R) (k1 : LD → Option R) (k2 : LD → Option R) : F269x0y600000010x78077 N w2 w3 w4 w5 w6 w9 k0 k1 k2 = (G269x0y600000010x78077 N w2 w3 w4 w5 w6 w9).bind (sumE k0 (sumE k1 k2)) := by
 unfold G269x0y600000010x78077 F269x0y600000010x78077
 repeat' (first | with_reducible apply cond_b | (with_reducible apply bnd_b; intro _) | rfl)
def J269x0y600000010x78077 (L : List Lf) (k0 : LD → Option R) (k1 : LD → Option R) (k2 : LD → Option R) : Option R := F269x0y600000010x78077 N (li L 2) (lb L 3) (li L 4) (li L 5) (lb L 6) (ll L 9) k0 k1 k2
def sh269x0y600000010x78077 : Sh := { tmps := [(5, .c (.p 2 0)), (52, .c (.i .i64)), (51, .c (.i .i64)), (8, .c (.i .i64)), (10, .c (.b)), (9, .c (.i .i64)), (11, .c (.i .i64)), (68, .c (.b))], mem := [(1, .box ([.i .i64])), (24050002005, .row 3 true), (2, .box ([.o 24050002005]))] }
def K269x0y600000010x78077w0 (L : List Lf) (p : LD) : Ex × St := (.normal, mg (ofSh sh269x0y600000010x78077 L) [52, 51, 8, 10, 5, 9] [] [1, 24000000078, 2] [(24000000078, .row 3 true false p), (2, .box [.o 24000000078])])
def K269x0y600000010x78077w1 (L : List Lf) (p : LD) : Ex × St := (.normal, mg (ofSh sh269x0y600000010x78077 L) [52, 51, 8, 10, 5, 9] [] [1, 2, 24000000095] [(2, .box [.o 24000000095]), (24000000095, .row 3 true false p)])
def K269x0y600000010x78077w2 (L : List Lf) (p : LD) : Ex × St := (.normal, mg (ofSh sh269x0y600000010x78077 L) [52, 51, 8, 10, 5, 9] [] [1, 2, 24000000063] [(2, .box [.o 24000000063]), (24000000063, .row 3 true false p)])
def A269x0y600000010x78077 (L : List Lf) : List (Bool × (Ex × St)) := bnd (J269x0y600000010x78077 N L (fun p => some (.inl p)) (fun p => some (.inr (.inl p))) (fun p => some (.inr (.inr p)))) fun q => [((inlB q), K269x0y600000010x78077w0 L (inlV q)), ((inlB (inrQ q)), K269x0y600000010x78077w1 L (inlV (inrQ q))), ((inrQ (inrQ q)).isSome, K269x0y600000010x78077w2 L ((inrQ (inrQ q)).getD default))]
theorem raw269x0y600000010x78077 (L : List Lf) : pc Tryz.prog (T307x0 N) (h269x0y600000010s5 N).h 24000000005 100 269 78077 sh269x0y600000010x78077 L [52, 51, 8, 10, 5, 9] [1, 24000000078, 2, 24000000095, 24000000063] = J269x0y600000010x78077 N L (fun p => some (K269x0y600000010x78077w0 L p)) (fun p => some (K269x0y600000010x78077w1 L p)) (fun p => some (K269x0y600000010x78077w2 L p)) := by kernel_rfl
def h269x0y600000010s6 : Sg Tryz.prog 24000000005 269 anyX WideF :=
 (h269x0y600000010s5 N).cut (A269x0y600000010x78077 N) progOk (T307x0_ok N) fun L x hx => (raw269x0y600000010x78077 N L).trans ((bind269x0y600000010x78077 N ..).trans ((altS (altS alt1)) x hx))
def F269x0y600000010x72071 (w2 : Int) (w3 : Bool) (w4 w5 : Int) (w6 : Bool) (w9 : LD) (k0 : LD → Option R) (k1 : LD → Option R) (k2 : LD → Option R) (k3 : LD → Option R) : Option R :=
 bif w6 then
  bif (decide ((w9.length + 1) * 8 ≤ room) && decide ((w9.length + 1) ≤ strMax)) then
   k0 (w9 ++ [(.i 0)])
  else
   none
 else
  bnd (G269x0y600000010x78077 N w2 w3 w4 w5 (decide (w2 > 60)) w9) fun y0 =>
  bif (inlB y0) then
   k1 (inlV y0)
  else
   bif (inlB (inrQ y0)) then
    k2 (inlV (inrQ y0))
   else
    bif (inrQ (inrQ y0)).isSome then
     k3 ((inrQ (inrQ y0)).getD default)
    else
     none
def G269x0y600000010x72071 (w2 : Int) (w3 : Bool) (w4 w5 : Int) (w6 : Bool) (w9 : LD) : Option (Sum (LD) (Sum (LD) (Sum (LD) (LD)))) := F269x0y600000010x72071 N w2 w3 w4 w5 w6 w9 (fun p => some (.inl p)) (fun p => some (.inr (.inl p))) (fun p => some (.inr (.inr (.inl p)))) (fun p => some (.inr (.inr (.inr p))))
theorem bind269x0y600000010x72071 (w2 : Int) (w3 : Bool) (w4 w5 : Int) (w6 : Bool) (w9 : LD) (k0 : LD → Option R) (k1 : LD → Option R) (k2 : LD → Option R) (k3 : LD → Option R) : F269x0y600000010x72071 N w2 w3 w4 w5 w6 w9 k0 k1 k2 k3 = (G269x0y600000010x72071 N w2 w3 w4 w5 w6 w9).bind (sumE k0 (sumE k1 (sumE k2 k3))) := by
 unfold G269x0y600000010x72071 F269x0y600000010x72071
 repeat' (first | with_reducible apply cond_b | (with_reducible apply bnd_b; intro _) | rfl)
def J269x0y600000010x72071 (L : List Lf) (k0 : LD → Option R) (k1 : LD → Option R) (k2 : LD → Option R) (k3 : LD → Option R) : Option R := F269x0y600000010x72071 N (li L 2) (lb L 3) (li L 4) (li L 5) (lb L 6) (ll L 9) k0 k1 k2 k3
def sh269x0y600000010x72071 : Sh := { tmps := [(5, .c (.p 2 0)), (52, .c (.i .i64)), (51, .c (.i .i64)), (8, .c (.i .i64)), (10, .c (.b)), (9, .c (.i .i64)), (11, .c (.i .i64)), (59, .c (.b))], mem := [(1, .box ([.i .i64])), (24050002005, .row 3 true), (2, .box ([.o 24050002005]))] }
def K269x0y600000010x72071w0 (L : List Lf) (p : LD) : Ex × St := (.normal, mg (ofSh sh269x0y600000010x72071 L) [52, 51, 8, 10, 5, 9] [] [1, 24000000072, 2] [(24000000072, .row 3 true false p), (2, .box [.o 24000000072])])
def K269x0y600000010x72071w1 (L : List Lf) (p : LD) : Ex × St := (.normal, mg (ofSh sh269x0y600000010x72071 L) [52, 51, 8, 10, 5, 9] [] [1, 2, 24000000078] [(2, .box [.o 24000000078]), (24000000078, .row 3 true false p)])
def K269x0y600000010x72071w2 (L : List Lf) (p : LD) : Ex × St := (.normal, mg (ofSh sh269x0y600000010x72071 L) [52, 51, 8, 10, 5, 9] [] [1, 2, 24000000095] [(2, .box [.o 24000000095]), (24000000095, .row 3 true false p)])
def K269x0y600000010x72071w3 (L : List Lf) (p : LD) : Ex × St := (.normal, mg (ofSh sh269x0y600000010x72071 L) [52, 51, 8, 10, 5, 9] [] [1, 2, 24000000063] [(2, .box [.o 24000000063]), (24000000063, .row 3 true false p)])
def A269x0y600000010x72071 (L : List Lf) : List (Bool × (Ex × St)) := bnd (J269x0y600000010x72071 N L (fun p => some (.inl p)) (fun p => some (.inr (.inl p))) (fun p => some (.inr (.inr (.inl p)))) (fun p => some (.inr (.inr (.inr p))))) fun q => [((inlB q), K269x0y600000010x72071w0 L (inlV q)), ((inlB (inrQ q)), K269x0y600000010x72071w1 L (inlV (inrQ q))), ((inlB (inrQ (inrQ q))), K269x0y600000010x72071w2 L (inlV (inrQ (inrQ q)))), ((inrQ (inrQ (inrQ q))).isSome, K269x0y600000010x72071w3 L ((inrQ (inrQ (inrQ q))).getD default))]
theorem raw269x0y600000010x72071 (L : List Lf) : pc Tryz.prog (T307x0 N) (h269x0y600000010s6 N).h 24000000005 100 269 72071 sh269x0y600000010x72071 L [52, 51, 8, 10, 5, 9] [1, 24000000072, 2, 24000000078, 24000000095, 24000000063] = J269x0y600000010x72071 N L (fun p => some (K269x0y600000010x72071w0 L p)) (fun p => some (K269x0y600000010x72071w1 L p)) (fun p => some (K269x0y600000010x72071w2 L p)) (fun p => some (K269x0y600000010x72071w3 L p)) := by kernel_rfl
def h269x0y600000010s7 : Sg Tryz.prog 24000000005 269 anyX WideF :=
 (h269x0y600000010s6 N).cut (A269x0y600000010x72071 N) progOk (T307x0_ok N) fun L x hx => (raw269x0y600000010x72071 N L).trans ((bind269x0y600000010x72071 N ..).trans ((altS (altS (altS alt1))) x hx))
def S269x0y600000010x57 (w1 w2 : Int) (w3 : Bool) (w4 : Int) (w0 : Int) (w6 : Bool) (w7 : LD) (kr : Int → Bool → LD → Option R) (k0 : Bool × LD → Option R) : Option R :=
 bif (decide (w0 < w1)) then
  bnd (G269x0y600000010x72071 N w2 w3 w4 w0 (bif (decide (w2 > 60)) then w3 else false) w7) fun y0 =>
  bif (inlB y0) then
   kr (IntKind.wrap .i64 (w0 + 1)) false (inlV y0)
  else
   bif (inlB (inrQ y0)) then
    kr (IntKind.wrap .i64 (w0 + 1)) false (inlV (inrQ y0))
   else
    bif (inlB (inrQ (inrQ y0))) then
     kr (IntKind.wrap .i64 (w0 + 1)) false (inlV (inrQ (inrQ y0)))
    else
     bif (inrQ (inrQ (inrQ y0))).isSome then
      kr (IntKind.wrap .i64 (w0 + 1)) false ((inrQ (inrQ (inrQ y0))).getD default)
     else
      none
 else
  k0 (w6, w7)
def L269x0y600000010x57 (N : Nat) {R : Type} (w1 w2 : Int) (w3 : Bool) (w4 : Int) : Nat → Int → Bool → LD → (Bool × LD → Option R) → Option R
 | 0, _, _, _, _ => none
 | m + 1, w0, w6, w7, k0 => S269x0y600000010x57 N w1 w2 w3 w4 w0 w6 w7 (fun w0 w6 w7 => L269x0y600000010x57 N w1 w2 w3 w4 m w0 w6 w7 k0) k0
def G269x0y600000010x57 (w1 w2 : Int) (w3 : Bool) (w4 : Int) (w0 : Int) (w6 : Bool) (w7 : LD) : Option (Bool × LD) := L269x0y600000010x57 N (R := (Bool × LD)) w1 w2 w3 w4 N w0 w6 w7 (fun p => some p)
def J269x0y600000010x57 (L x : List Lf) (kr : List Lf → Option R) (k0 : Bool × LD → Option R) : Option R := S269x0y600000010x57 N (li L 1) (li L 2) (lb L 3) (li L 4) (li x 0) (lb x 1) (ll x 2) (fun w0 w6 w7 => kr [.i w0, .b w6, .l w7]) k0
theorem sb269x0y600000010x57 (L x : List Lf) (kr : List Lf → Option R) (k0 : Bool × LD → Option R) : J269x0y600000010x57 N L x kr k0 = (J269x0y600000010x57 N L x (fun y => some (.inl y)) (fun p => some (.inr p))).bind (sumE kr k0) := by
 unfold J269x0y600000010x57 S269x0y600000010x57
 repeat' (first | with_reducible apply cond_b | (with_reducible apply bnd_b; intro _) | rfl)
def Q269x0y600000010x57 (L : List Lf) (m : Nat) (x : List Lf) : Option (Bool × LD) := L269x0y600000010x57 N (R := (Bool × LD)) (li L 1) (li L 2) (lb L 3) (li L 4) m (li x 0) (lb x 1) (ll x 2) (fun p => some p)
def sh269x0y600000010x57 : Sh := { tmps := [(52, .c (.i .i64)), (51, .c (.i .i64)), (8, .c (.i .i64)), (10, .c (.b)), (5, .c (.p 2 0)), (9, .c (.i .i64))], mem := [(1, .box ([.i .i64])), (2, .box ([.o 24050002005])), (24050002005, .row 3 true)] }
def K269x0y600000010x57w0 (L : List Lf) (p : Bool × LD) : Ex × St := ((.exit 3), mg (ofSh sh269x0y600000010x57 L) [] [] [24050002005, 2, 1] [(24050002005, .row 3 true p.1 p.2)])
def A269x0y600000010x57 (L : List Lf) : List (Bool × (Ex × St)) := bnd (Q269x0y600000010x57 N L N (pk sh269x0y600000010x57 [0, 6, 7] L)) fun q => [(q.isSome, K269x0y600000010x57w0 L (q.getD default))]
theorem step269x0y600000010x57 (m : Nat) (kn : St → Option (Ex × St)) (L x : List Lf) : lpB Tryz.prog (T307x0 N) (h269x0y600000010s7 N).h 24000000005 269 57 sh269x0y600000010x57 [0, 6, 7] [] [24050002005, 2, 1] (m + 100) kn L x = J269x0y600000010x57 N L x (fun y => kn (ofSh sh269x0y600000010x57 (mx sh269x0y600000010x57 [0, 6, 7] L y))) (fun p => some (K269x0y600000010x57w0 L p)) := by kernel_rfl
theorem ql269x0y600000010x57 (L : List Lf) (m : Nat) (x : List Lf) : Q269x0y600000010x57 N L (m + 1) x = J269x0y600000010x57 N L x (Q269x0y600000010x57 N L m) some := by kernel_rfl
def h269x0y600000010s8 : Sg Tryz.prog 24000000005 269 anyX WideF :=
 (h269x0y600000010s7 N).lp (A269x0y600000010x57 N) N progOk (T307x0_ok N) (fun m kn L x => (step269x0y600000010x57 N m kn L x).trans (sb269x0y600000010x57 N L x _ _)) (fun L m x => (ql269x0y600000010x57 N L m x).trans (sb269x0y600000010x57 N L x (Q269x0y600000010x57 N L m) some)) fun L x hx => alt1 x hx
def y269x0z600000010o : YInfo := rfY (piece Tryz.prog 269 600000010) [] 4 23 (h269x0y600000010s8 N).h
def y269x0z600000010 : YInfo := { (y269x0z600000010o N) with tm := [(3, .c (.p 1 0)), (5, .c (.p 2 0))] }
def rg369x0 : List (Nat × List Nat) := [(0, [1, 0]), (1, [3, 1, 0]), (3, [0, 1, 3]), (2, [3, 1, 0])]
def hd369x0 : Hints := [(3, [3, 1, 0], [3, 2, 1, 0, 4, 50002005], [50002000]), (10, [0, 1, 3], [1, 50002005, 2, 4, 0], [])]
def h369x0s0 : Sg Tryz.prog 5 369 (YCtx ((y269x0z600000010 N))) := .start hd369x0 rg369x0
def F369x0x10 (w0 w1 : Int) (w2 : Bool) (w3 w10 : LD) (k0 : Bool × LD → Option R) : Option R :=
 bif (inB (IntKind.wrap .i64 (w0 - 1)) w10.length) then
  bnd ((w10.getD (IntKind.wrap .i64 (w0 - 1)).toNat (.i 0)).cell 0).toI fun y0 =>
  bnd ((w10.getD (IntKind.wrap .i64 (w0 - 1)).toNat (.i 0)).cell 1).toI fun y1 =>
  bnd ((w10.getD (IntKind.wrap .i64 (w0 - 1)).toNat (.i 0)).cell 2).toI fun y2 =>
  bnd ((w10.getD (IntKind.wrap .i64 (w0 - 1)).toNat (.i 0)).cell 3).toI fun y3 =>
  bnd ((w10.getD (IntKind.wrap .i64 (w0 - 1)).toNat (.i 0)).cell 4).toI fun y4 =>
  bnd ((w10.getD (IntKind.wrap .i64 (w0 - 1)).toNat (.i 0)).cell 5).toI fun y5 =>
  bnd ((w10.getD (IntKind.wrap .i64 (w0 - 1)).toNat (.i 0)).cell 6).toI fun y6 =>
  bif (inB w0 w10.length) then
   bnd (IntKind.wrap .i64 (((w10.getD w0.toNat (.i 0)).cell 0).toI - y0)) fun y7 =>
   bnd (G269x0y600000010x33032 N false w1 (w1 == 1) ((w10.getD w0.toNat (.i 0)).cell 1).toI ((w10.getD w0.toNat (.i 0)).cell 2).toI ((w10.getD w0.toNat (.i 0)).cell 3).toI y1 y2 y3 y4 y5 y6) fun y8 =>
   bif y8.isSome then
    bnd (G269x0y600000010x57 N y7 y7 (y8.getD default).1 (y8.getD default).2 0 w2 w3) fun y9 =>
    bif y9.isSome then
     k0 (y9.getD default)
    else
     none
   else
    none
  else
   none
 else
  none
def G369x0x10 (w0 w1 : Int) (w2 : Bool) (w3 w10 : LD) : Option (Bool × LD) := F369x0x10 N w0 w1 w2 w3 w10 (fun p => some p)
theorem bind369x0x10 (w0 w1 : Int) (w2 : Bool) (w3 w10 : LD) (k0 : Bool × LD → Option R) : F369x0x10 N w0 w1 w2 w3 w10 k0 = (G369x0x10 N w0 w1 w2 w3 w10).bind k0 := by
 unfold G369x0x10 F369x0x10
 repeat' (first | with_reducible apply cond_b | (with_reducible apply bnd_b; intro _) | rfl)
def J369x0x10 (L : List Lf) (k0 : Bool × LD → Option R) : Option R := F369x0x10 N (li L 0) (li L 1) (lb L 2) (ll L 3) (ll L 10) k0
def sh369x0x10 : Sh := { tmps := [(0, .c (.y 4)), (1, .c (.p 0 0)), (3, .c (.i .i64))], mem := [(1, .box ([.i .i64])), (50002005, .row 3 true), (2, .box ([.o 50002005])), (4, .row 3 true), (0, .box (.s :: [.i .i64, .i .i64, .sl 216, .sl 219, .sl 9]))] }
def K369x0x10w0 (L : List Lf) (p : Bool × LD) : Ex × St := (.normal, mg (ofSh sh369x0x10 L) [3, 1, 0, 24] [(24, .c (.b false))] [24050002005, 2, 1, 0, 4] [(24050002005, .row 3 true p.1 p.2), (2, .box [.o 24050002005])])
def A369x0x10 (L : List Lf) : List (Bool × (Ex × St)) := bnd (J369x0x10 N L (fun p => some p)) fun q => [(q.isSome, K369x0x10w0 L (q.getD default))]
theorem raw369x0x10 (L : List Lf) : pcY Tryz.prog (T307x0 N) 5 ((y269x0z600000010 N)) 369 10 sh369x0x10 L [3, 1, 0, 24] [24050002005, 2, 1, 0, 4] = J369x0x10 N L (fun p => some (K369x0x10w0 L p)) := by kernel_rfl
def h369x0s1 : Sg Tryz.prog 5 369 (YCtx ((y269x0z600000010 N))) :=
 (h369x0s0 N).cutY (A369x0x10 N) progOk (T307x0_ok N) (yLaws 600000010 23 (h269x0y600000010s8 N) (by kernel_rfl) (by kernel_rfl)) fun L x hx => (raw369x0x10 N L).trans ((bind369x0x10 N ..).trans (alt1 x hx))
def S369x0x3 (w1 : Int) (w6 : LD) (w0 : Int) (w13 : Bool) (w14 : LD) (kr : Int → Bool → LD → Option R) (k0 : Bool × LD → Option R) : Option R :=
 bif (decide (w0 < (w6.length : Int))) then
  bnd (G369x0x10 N w0 w1 w13 w14 w6) fun y0 =>
  bif y0.isSome then
   kr (IntKind.wrap .i64 (w0 + 1)) (y0.getD default).1 (y0.getD default).2
  else
   none
 else
  k0 (w13, w14)
def L369x0x3 (N : Nat) {R : Type} (w1 : Int) (w6 : LD) : Nat → Int → Bool → LD → (Bool × LD → Option R) → Option R
 | 0, _, _, _, _ => none
 | m + 1, w0, w13, w14, k0 => S369x0x3 N w1 w6 w0 w13 w14 (fun w0 w13 w14 => L369x0x3 N w1 w6 m w0 w13 w14 k0) k0
def G369x0x3 (w1 : Int) (w6 : LD) (w0 : Int) (w13 : Bool) (w14 : LD) : Option (Bool × LD) := L369x0x3 N (R := (Bool × LD)) w1 w6 N w0 w13 w14 (fun p => some p)
def J369x0x3 (L x : List Lf) (kr : List Lf → Option R) (k0 : Bool × LD → Option R) : Option R := S369x0x3 N (li L 1) (ll L 6) (li x 0) (lb x 1) (ll x 2) (fun w0 w13 w14 => kr [.i w0, .b w13, .l w14]) k0
theorem sb369x0x3 (L x : List Lf) (kr : List Lf → Option R) (k0 : Bool × LD → Option R) : J369x0x3 N L x kr k0 = (J369x0x3 N L x (fun y => some (.inl y)) (fun p => some (.inr p))).bind (sumE kr k0) := by
 unfold J369x0x3 S369x0x3
 repeat' (first | with_reducible apply cond_b | (with_reducible apply bnd_b; intro _) | rfl)
def Q369x0x3 (L : List Lf) (m : Nat) (x : List Lf) : Option (Bool × LD) := L369x0x3 N (R := (Bool × LD)) (li L 1) (ll L 6) m (li x 0) (lb x 1) (ll x 2) (fun p => some p)
def sh369x0x3 : Sh := { tmps := [(3, .c (.i .i64)), (1, .c (.p 0 0)), (0, .c (.y 4))], mem := [(2, .box ([.o 50002005])), (1, .box ([.i .i64])), (0, .box (.s :: [.i .i64, .i .i64, .sl 216, .sl 219, .sl 9])), (4, .row 3 true), (50002005, .row 3 true)] }
def K369x0x3w0 (L : List Lf) (p : Bool × LD) : Ex × St := ((.exit 0), mg (ofSh sh369x0x3 L) [] [] [4, 0, 1, 50002005, 2] [(50002005, .row 3 true p.1 p.2)])
def A369x0x3 (L : List Lf) : List (Bool × (Ex × St)) := bnd (Q369x0x3 N L N (pk sh369x0x3 [0, 13, 14] L)) fun q => [(q.isSome, K369x0x3w0 L (q.getD default))]
theorem step369x0x3 (m : Nat) (kn : St → Option (Ex × St)) (L x : List Lf) : lpB Tryz.prog (T307x0 N) (h369x0s1 N).h 5 369 3 sh369x0x3 [0, 13, 14] [] [4, 0, 1, 50002005, 2] (m + 100) kn L x = J369x0x3 N L x (fun y => kn (ofSh sh369x0x3 (mx sh369x0x3 [0, 13, 14] L y))) (fun p => some (K369x0x3w0 L p)) := by kernel_rfl
theorem ql369x0x3 (L : List Lf) (m : Nat) (x : List Lf) : Q369x0x3 N L (m + 1) x = J369x0x3 N L x (Q369x0x3 N L m) some := by kernel_rfl
def h369x0s2 : Sg Tryz.prog 5 369 (YCtx ((y269x0z600000010 N))) :=
 (h369x0s1 N).lp (A369x0x3 N) N progOk (T307x0_ok N) (fun m kn L x => (step369x0x3 N m kn L x).trans (sb369x0x3 N L x _ _)) (fun L m x => (ql369x0x3 N L m x).trans (sb369x0x3 N L x (Q369x0x3 N L m) some)) fun L x hx => alt1 x hx
def F369x0 (v4 : LD) (v9 : Int) (v10 : Bool) (v11 : LD) (k0 : Bool × LD → Option R) : Option R :=
 bnd (G369x0x3 N v9 v4 1 v10 v11) fun y0 =>
 bif y0.isSome then
  k0 (y0.getD default)
 else
  none
def G369x0 (v4 : LD) (v9 : Int) (v10 : Bool) (v11 : LD) : Option (Bool × LD) := F369x0 N v4 v9 v10 v11 (fun p => some p)
theorem bind369x0 (v4 : LD) (v9 : Int) (v10 : Bool) (v11 : LD) (k0 : Bool × LD → Option R) : F369x0 N v4 v9 v10 v11 k0 = (G369x0 N v4 v9 v10 v11).bind k0 := by
 unfold G369x0 F369x0
 repeat' (first | with_reducible apply cond_b | (with_reducible apply bnd_b; intro _) | rfl)
def J369x0 (L : List Lf) (k0 : Bool × LD → Option R) : Option R := F369x0 N (ll L 4) (li L 9) (lb L 10) (ll L 11) k0
def sh369x0 : Sh := { tmps := [(0, .c (.y 4)), (1, .c (.p 0 0)), (3, .c (.p 1 0)), (5, .c (.p 2 0))], mem := [(0, .box (.s :: [.i .i64, .i .i64, .sl 216, .sl 219, .sl 9])), (1, .box ([.i .i64])), (2, .box ([.o 3])), (3, .row 3 true), (4, .row 3 true)] }
def K369x0w0 (L : List Lf) (p : Bool × LD) : Res := ([], mgA (ofSh sh369x0 L).mem [(50002005, .row 3 true p.1 p.2), (2, .box [.o 50002005])] [4, 0, 1, 50002005, 2])
def A369x0 (L : List Lf) : List (Bool × Res) := bnd (J369x0 N L (fun p => some p)) fun q => [(q.isSome, K369x0w0 L (q.getD default))]
theorem raw369x0 (L : List Lf) : bdY Tryz.prog (T307x0 N) ((h369x0s2 N)).h 369 2 sh369x0 L = J369x0 N L (fun p => some (K369x0w0 L p)) := by kernel_rfl
theorem ok369x0 : FnOkY (y269x0z600000010o N) Tryz.prog 369 2 sh369x0 (A369x0 N) :=
 Sg.fnY (fun L => (y269x0z600000010 N)) (fun L => (h369x0s2 N)) (fun L => by kernel_rfl) progOk (T307x0_ok N) fun L x hx => ((raw369x0 N L).trans ((bind369x0 N ..).trans (alt1 x hx)))
def rg269x0 : List (Nat × List Nat) := [(0, [0, 1]), (1, [2, 3]), (2, [2, 5, 3]), (29, [5])]
def hd269x0 : Hints := [(600000010, [5, 3, 16], [17000000001, 14, 5, 3], [])]
def h269x0s0 (N : Nat) : Sg Tryz.prog 0 269 := .start hd269x0 rg269x0
def F269x0x600000010 (w4 : LD) (w9 : Bool) (w10 : LD) (w11 : Int) (k0 : Bool × LD → Option R) : Option R :=
 bnd (G369x0 N w4 w11 w9 w10) fun y0 =>
 bif y0.isSome then
  k0 (y0.getD default)
 else
  none
def G269x0x600000010 (w4 : LD) (w9 : Bool) (w10 : LD) (w11 : Int) : Option (Bool × LD) := F269x0x600000010 N w4 w9 w10 w11 (fun p => some p)
theorem bind269x0x600000010 (w4 : LD) (w9 : Bool) (w10 : LD) (w11 : Int) (k0 : Bool × LD → Option R) : F269x0x600000010 N w4 w9 w10 w11 k0 = (G269x0x600000010 N w4 w9 w10 w11).bind k0 := by
 unfold G269x0x600000010 F269x0x600000010
 repeat' (first | with_reducible apply cond_b | (with_reducible apply bnd_b; intro _) | rfl)
def J269x0x600000010 (L : List Lf) (k0 : Bool × LD → Option R) : Option R := F269x0x600000010 N (ll L 4) (lb L 9) (ll L 10) (li L 11) k0
def sh269x0x600000010 : Sh := { tmps := [(5, .c (.p 5 0)), (3, .c (.p 3 0)), (16, .c (.f 369 [(17000000001, 0)]))], mem := [(17000000001, .box (.s :: [.i .i64, .i .i64, .sl 216, .sl 219, .sl 9])), (14, .row 3 true), (5, .box ([.o 14])), (3, .box ([.i .i64]))] }
def K269x0x600000010w0 (L : List Lf) (p : Bool × LD) : Ex × St := (.normal, ⟨[(5, .c (.p 5 0))], [(1000000050002005, .row 3 true p.1 p.2), (5, .box [.o 1000000050002005])]⟩)
def A269x0x600000010 (L : List Lf) : List (Bool × (Ex × St)) := bnd (J269x0x600000010 N L (fun p => some p)) fun q => [(q.isSome, K269x0x600000010w0 L (q.getD default))]
theorem raw269x0x600000010 (L : List Lf) : pcR Tryz.prog (y269x0z600000010o N) [3, 5] (spY 2 sh369x0 (A369x0 N)) 369 3 0 269 600000010 sh269x0x600000010 L [5] [1000000050002005, 5] = J269x0x600000010 N L (fun p => some (K269x0x600000010w0 L p)) := by kernel_rfl
def h269x0s1 : Sg Tryz.prog 0 269 :=
 (h269x0s0 N).rf (g := .tmp 16) (A269x0x600000010 N) (ok369x0 N) (fun L x hx => (raw269x0x600000010 N L).trans ((bind269x0x600000010 N ..).trans (alt1 x hx))) (by kernel_rfl)
def F269x0 (v4 : LD) (v9 : Int) (k0 : Bool × LD → Option R) : Option R :=
 bnd (G111x0 N v4) fun y0 =>
 bif y0.isSome then
  bif ((decide (0 ≤ (y0.getD default))) && (decide ((y0.getD default).toNat * 8 ≤ room) && decide ((y0.getD default).toNat ≤ strMax))) then
   bnd (G269x0x600000010 N v4 false [] v9) fun y1 =>
   bif y1.isSome then
    k0 (y1.getD default)
   else
    none
  else
   none
 else
  none
def G269x0 (v4 : LD) (v9 : Int) : Option (Bool × LD) := F269x0 N v4 v9 (fun p => some p)
theorem bind269x0 (v4 : LD) (v9 : Int) (k0 : Bool × LD → Option R) : F269x0 N v4 v9 k0 = (G269x0 N v4 v9).bind k0 := by
 unfold G269x0 F269x0
 repeat' (first | with_reducible apply cond_b | (with_reducible apply bnd_b; intro _) | rfl)
def sh269x0 : Sh := { tmps := [(0, .g (.s :: [.i .i64, .i .i64, .sl 216, .sl 219, .sl 9])), (1, .c (.i .i64))], mem := [] }
def A269x0 (L : List Lf) : List (Bool × Res) := bnd (F269x0 N (ll L 4) (li L 9) (fun p => some p)) fun q => [(q.isSome, ([.c (.sl 3 (q.getD default).1 (q.getD default).2)], []))]
theorem raw269x0 (L : List Lf) : bd Tryz.prog (T307x0 N) (h269x0s1 N).h 269 sh269x0 L = F269x0 N (ll L 4) (li L 9) (fun p => some ([.c (.sl 3 p.1 p.2)], [])) := by kernel_rfl
theorem ok269x0 : FnOk Tryz.prog 269 sh269x0 (A269x0 N) :=
 (h269x0s1 N).fn progOk (T307x0_ok N) fun L x hx => ((raw269x0 N L).trans ((bind269x0 N ..).trans (alt1 x hx)))
def T269x0 : Oracle := ext 269 (spSh sh269x0 (A269x0 N)) (T307x0 N)
theorem T269x0_ok : OracleOk Tryz.prog (T269x0 N) := FnOk.to (ok269x0 N) (T307x0_ok N)
def rg204x0 : List (Nat × List Nat) := [(0, [0]), (1, [1, 2]), (2, [1, 3, 2]), (3, [4, 1, 3, 2]), (5, [4, 1, 3, 2]), (4, [4, 1, 3, 2]), (6, [3, 2])]
def hd204x0 : Hints := []
def h204x0s0 (N : Nat) : Sg Tryz.prog 0 204 := .start hd204x0 rg204x0
def F204x0 (v4 : LD) (k0 : Ty0 → Option R) : Option R :=
 bnd (G269x0 N v4 1) fun y0 =>
 bif y0.isSome then
  bnd (G269x0 N v4 2) fun y1 =>
  bif y1.isSome then
   bnd (G269x0 N v4 3) fun y2 =>
   bif y2.isSome then
    bnd (G269x0 N v4 4) fun y3 =>
    bif y3.isSome then
     bnd (G269x0 N v4 5) fun y4 =>
     bif y4.isSome then
      k0 ((y0.getD default).1, (y0.getD default).2, (y1.getD default).1, (y1.getD default).2, (y2.getD default).1, (y2.getD default).2, (y3.getD default).1, (y3.getD default).2, (y4.getD default).1, (y4.getD default).2)
     else
      none
    else
     none
   else
    none
  else
   none
 else
  none
def G204x0 (v4 : LD) : Option (Ty0) := F204x0 N v4 (fun p => some p)
theorem bind204x0 (v4 : LD) (k0 : Ty0 → Option R) : F204x0 N v4 k0 = (G204x0 N v4).bind k0 := by
 unfold G204x0 F204x0
 repeat' (first | with_reducible apply cond_b | (with_reducible apply bnd_b; intro _) | rfl)
def sh204x0 : Sh := { tmps := [(0, .g (.s :: [.i .i64, .i .i64, .sl 216, .sl 219, .sl 9]))], mem := [] }
def K204x0w0 (L : List Lf) (p : Ty0) : Res := let p1 := p.2; let p2 := p1.2; let p3 := p2.2; let p4 := p3.2; let p5 := p4.2; let p6 := p5.2; let p7 := p6.2; let p8 := p7.2; let p9 := p8.2; ([.g [.sl 3 true [], .sl 3 p.1 p1.1, .sl 3 p2.1 p3.1, .sl 3 p4.1 p5.1, .sl 3 p6.1 p7.1, .sl 3 p8.1 p9]], [])
def A204x0 (L : List Lf) : List (Bool × Res) := bnd (F204x0 N (ll L 4) (fun p => some p)) fun q => [(q.isSome, K204x0w0 L (q.getD default))]
theorem raw204x0 (L : List Lf) : bd Tryz.prog (T269x0 N) (h204x0s0 N).h 204 sh204x0 L = F204x0 N (ll L 4) (fun p => some (K204x0w0 L p)) := by kernel_rfl
theorem ok204x0 : FnOk Tryz.prog 204 sh204x0 (A204x0 N) :=
 (h204x0s0 N).fn progOk (T269x0_ok N) fun L x hx => ((raw204x0 N L).trans ((bind204x0 N ..).trans (alt1 x hx)))
def T204x0 : Oracle := ext 204 (spSh sh204x0 (A204x0 N)) (T269x0 N)
theorem T204x0_ok : OracleOk Tryz.prog (T204x0 N) := FnOk.to (ok204x0 N) (T269x0_ok N)
def rg268x0 : List (Nat × List Nat) := [(0, [0]), (1, [0, 2, 3]), (2, [8, 7, 6, 2, 3]), (3, [6, 8, 2, 3, 7]), (4, [5, 2, 3, 8, 7, 6]), (5, [2, 5, 3, 8, 7, 6]), (6, [8, 7, 6, 2, 3]), (7, [2, 3])]
def hd268x0 : Hints := [(6, [8, 7, 6, 2, 3], [], []), (17, [2, 5, 3, 8, 7, 6, 13], [], [])]
def h268x0s0 (N : Nat) : Sg Tryz.prog 0 268 := .start hd268x0 rg268x0
def F268x0x17 (N : Nat) (w0 w1 w2 : Int) (w7 : Bool) (k0 : Int × Int → R) : R :=
 bif w7 then
  k0 ((IntKind.wrap .i64 (w0 + w1)), (IntKind.wrap .i64 (w2 + 1)))
 else
  k0 (w0, w2)
def V268x0x17 (w0 w1 w2 : Int) (w7 : Bool) : Int × Int := F268x0x17 N w0 w1 w2 w7 (fun p => p)
theorem tot268x0x17 (w0 w1 w2 : Int) (w7 : Bool) (k0 : Int × Int → R) : F268x0x17 N w0 w1 w2 w7 k0 = k0 (V268x0x17 N w0 w1 w2 w7) := by
 unfold V268x0x17 F268x0x17
 repeat' (first | rfl | apply cond_k | (apply bnd_k; intro _))
def J268x0x17 (L : List Lf) (k0 : Int × Int → R) : R := F268x0x17 N (li L 0) (li L 1) (li L 2) (lb L 7) k0
def sh268x0x17 : Sh := { tmps := [(2, .c (.i .i64)), (5, .c (.i .i64)), (3, .c (.i .i64)), (8, .c (.i .i64)), (7, .c (.i .i64)), (6, .c (.sl 3)), (13, .c (.b))], mem := [] }
def K268x0x17w0 (L : List Lf) (p : Int × Int) : Ex × St := (.normal, mg (ofSh sh268x0x17 L) [8, 7, 6, 2, 3] [(2, .c (.i .i64 p.1)), (3, .c (.i .i64 p.2))] [] [])
def A268x0x17 (L : List Lf) : List (Bool × (Ex × St)) := bnd (J268x0x17 N L (fun p => p)) fun q => [(true, K268x0x17w0 L q)]
theorem raw268x0x17 (L : List Lf) : pc Tryz.prog (T204x0 N) (h268x0s0 N).h 0 100 268 17 sh268x0x17 L [8, 7, 6, 2, 3] [] = J268x0x17 N L (fun p => some (K268x0x17w0 L p)) := by kernel_rfl
def h268x0s1 : Sg Tryz.prog 0 268 :=
 (h268x0s0 N).cut (A268x0x17 N) progOk (T204x0_ok N) fun L x hx => (raw268x0x17 N L).trans ((tot268x0x17 N ..).trans (alt0 _ _ hx))
def S268x0x6 (w1 : Int) (w3 : LD) (w0 w4 w5 : Int) (kr : Int → Int → Int → Option R) (k0 : Int × Int → Option R) : Option R :=
 bif (decide (w0 < w1)) then
  bif (inB w0 w3.length) then
   bnd (V268x0x17 N w4 (w3.getD w0.toNat (.i 0)).toI w5 (decide ((w3.getD w0.toNat (.i 0)).toI ≥ 0))) fun y0 =>
   kr (IntKind.wrap .i64 (w0 + 1)) y0.1 y0.2
  else
   none
 else
  k0 (w4, w5)
def L268x0x6 (N : Nat) {R : Type} (w1 : Int) (w3 : LD) : Nat → Int → Int → Int → (Int × Int → Option R) → Option R
 | 0, _, _, _, _ => none
 | m + 1, w0, w4, w5, k0 => S268x0x6 N w1 w3 w0 w4 w5 (fun w0 w4 w5 => L268x0x6 N w1 w3 m w0 w4 w5 k0) k0
def G268x0x6 (w1 : Int) (w3 : LD) (w0 w4 w5 : Int) : Option (Int × Int) := L268x0x6 N (R := (Int × Int)) w1 w3 N w0 w4 w5 (fun p => some p)
def J268x0x6 (L x : List Lf) (kr : List Lf → Option R) (k0 : Int × Int → Option R) : Option R := S268x0x6 N (li L 1) (ll L 3) (li x 0) (li x 1) (li x 2) (fun w0 w4 w5 => kr [.i w0, .i w4, .i w5]) k0
theorem sb268x0x6 (L x : List Lf) (kr : List Lf → Option R) (k0 : Int × Int → Option R) : J268x0x6 N L x kr k0 = (J268x0x6 N L x (fun y => some (.inl y)) (fun p => some (.inr p))).bind (sumE kr k0) := by
 unfold J268x0x6 S268x0x6
 repeat' (first | with_reducible apply cond_b | (with_reducible apply bnd_b; intro _) | rfl)
def Q268x0x6 (L : List Lf) (m : Nat) (x : List Lf) : Option (Int × Int) := L268x0x6 N (R := (Int × Int)) (li L 1) (ll L 3) m (li x 0) (li x 1) (li x 2) (fun p => some p)
def sh268x0x6 : Sh := { tmps := [(8, .c (.i .i64)), (7, .c (.i .i64)), (6, .c (.sl 3)), (2, .c (.i .i64)), (3, .c (.i .i64))], mem := [] }
def K268x0x6w0 (L : List Lf) (p : Int × Int) : Ex × St := ((.exit 0), ⟨[(2, .c (.i .i64 p.1)), (3, .c (.i .i64 p.2))], []⟩)
def A268x0x6 (L : List Lf) : List (Bool × (Ex × St)) := bnd (Q268x0x6 N L N (pk sh268x0x6 [0, 4, 5] L)) fun q => [(q.isSome, K268x0x6w0 L (q.getD default))]
theorem step268x0x6 (m : Nat) (kn : St → Option (Ex × St)) (L x : List Lf) : lpB Tryz.prog (T204x0 N) (h268x0s1 N).h 0 268 6 sh268x0x6 [0, 4, 5] [2, 3] [] (m + 100) kn L x = J268x0x6 N L x (fun y => kn (ofSh sh268x0x6 (mx sh268x0x6 [0, 4, 5] L y))) (fun p => some (K268x0x6w0 L p)) := by kernel_rfl
theorem ql268x0x6 (L : List Lf) (m : Nat) (x : List Lf) : Q268x0x6 N L (m + 1) x = J268x0x6 N L x (Q268x0x6 N L m) some := by kernel_rfl
def h268x0s2 : Sg Tryz.prog 0 268 :=
 (h268x0s1 N).lp (A268x0x6 N) N progOk (T204x0_ok N) (fun m kn L x => (step268x0x6 N m kn L x).trans (sb268x0x6 N L x _ _)) (fun L m x => (ql268x0x6 N L m x).trans (sb268x0x6 N L x (Q268x0x6 N L m) some)) fun L x hx => alt1 x hx
def F268x0 (v1 : LD) (k0 : Int × Int → Option R) : Option R :=
 bnd (G268x0x6 N (v1.length : Int) v1 0 0 0) fun y0 =>
 bif y0.isSome then
  k0 (y0.getD default)
 else
  none
def G268x0 (v1 : LD) : Option (Int × Int) := F268x0 N v1 (fun p => some p)
theorem bind268x0 (v1 : LD) (k0 : Int × Int → Option R) : F268x0 N v1 k0 = (G268x0 N v1).bind k0 := by
 unfold G268x0 F268x0
 repeat' (first | with_reducible apply cond_b | (with_reducible apply bnd_b; intro _) | rfl)
def sh268x0 : Sh := { tmps := [(0, .c (.sl 3))], mem := [] }
def A268x0 (L : List Lf) : List (Bool × Res) := bnd (F268x0 N (ll L 1) (fun p => some p)) fun q => [(q.isSome, ([.c (.i .i64 (q.getD default).1), .c (.i .i64 (q.getD default).2)], []))]
theorem raw268x0 (L : List Lf) : bd Tryz.prog (T204x0 N) (h268x0s2 N).h 268 sh268x0 L = F268x0 N (ll L 1) (fun p => some ([.c (.i .i64 p.1), .c (.i .i64 p.2)], [])) := by kernel_rfl
theorem ok268x0 : FnOk Tryz.prog 268 sh268x0 (A268x0 N) :=
 (h268x0s2 N).fn progOk (T204x0_ok N) fun L x hx => ((raw268x0 N L).trans ((bind268x0 N ..).trans (alt1 x hx)))
def T268x0 : Oracle := ext 268 (spSh sh268x0 (A268x0 N)) (T204x0 N)
theorem T268x0_ok : OracleOk Tryz.prog (T268x0 N) := FnOk.to (ok268x0 N) (T204x0_ok N)
def rg203x0 : List (Nat × List Nat) := [(0, [0, 1, 2]), (1, [1, 2, 3, 6]), (2, [3, 1, 2, 7, 6]), (3, [3, 1, 2, 7, 6]), (4, [3, 1, 2, 7, 6]), (5, [3, 1, 2, 7, 6]), (6, [3, 1, 2, 7, 6]), (7, [7, 6])]
def hd203x0 : Hints := []
def h203x0s0 (N : Nat) : Sg Tryz.prog 0 203 := .start hd203x0 rg203x0
def F203x0 (v3 v5 v7 v9 v11 : LD) (v12 v13 : Int) (k0 : Ty3 → Option R) : Option R :=
 bif (((decide (0 ≤ v12)) && (decide (v12 ≤ v13))) && (decide (v13 ≤ (v3.length : Int)))) then
  bnd (G268x0 N ((v3.take v13.toNat).drop v12.toNat)) fun y0 =>
  bif y0.isSome then
   bif (((decide (0 ≤ v12)) && (decide (v12 ≤ v13))) && (decide (v13 ≤ (v5.length : Int)))) then
    bnd (G268x0 N ((v5.take v13.toNat).drop v12.toNat)) fun y1 =>
    bif y1.isSome then
     bif (((decide (0 ≤ v12)) && (decide (v12 ≤ v13))) && (decide (v13 ≤ (v7.length : Int)))) then
      bnd (G268x0 N ((v7.take v13.toNat).drop v12.toNat)) fun y2 =>
      bif y2.isSome then
       bif (((decide (0 ≤ v12)) && (decide (v12 ≤ v13))) && (decide (v13 ≤ (v9.length : Int)))) then
        bnd (G268x0 N ((v9.take v13.toNat).drop v12.toNat)) fun y3 =>
        bif y3.isSome then
         bif (((decide (0 ≤ v12)) && (decide (v12 ≤ v13))) && (decide (v13 ≤ (v11.length : Int)))) then
          bnd (G268x0 N ((v11.take v13.toNat).drop v12.toNat)) fun y4 =>
          bif y4.isSome then
           k0 ((y3.getD default).1, (y4.getD default).1, (y0.getD default).1, (y1.getD default).1, (y2.getD default).1, (y0.getD default).2, (y1.getD default).2, (y2.getD default).2)
          else
           none
         else
          none
        else
         none
       else
        none
      else
       none
     else
      none
    else
     none
   else
    none
  else
   none
 else
  none
def G203x0 (v3 v5 v7 v9 v11 : LD) (v12 v13 : Int) : Option (Ty3) := F203x0 N v3 v5 v7 v9 v11 v12 v13 (fun p => some p)
theorem bind203x0 (v3 v5 v7 v9 v11 : LD) (v12 v13 : Int) (k0 : Ty3 → Option R) : F203x0 N v3 v5 v7 v9 v11 v12 v13 k0 = (G203x0 N v3 v5 v7 v9 v11 v12 v13).bind k0 := by
 unfold G203x0 F203x0
 repeat' (first | with_reducible apply cond_b | (with_reducible apply bnd_b; intro _) | rfl)
def J203x0 (L : List Lf) (k0 : Ty3 → Option R) : Option R := F203x0 N (ll L 3) (ll L 5) (ll L 7) (ll L 9) (ll L 11) (li L 12) (li L 13) k0
def sh203x0 : Sh := { tmps := [(0, .g ([.sl 3, .sl 3, .sl 3, .sl 3, .sl 3, .sl 3])), (1, .c (.i .i64)), (2, .c (.i .i64))], mem := [] }
def K203x0w0 (L : List Lf) (p : Ty3) : Res := let p1 := p.2; let p2 := p1.2; let p3 := p2.2; let p4 := p3.2; let p5 := p4.2; let p6 := p5.2; let p7 := p6.2; ([.g [.i .i64 (li L 12), .i .i64 (li L 13), .i .i64 p.1, .i .i64 p1.1, .i .i64 p2.1, .i .i64 p3.1, .i .i64 p4.1, .i .i64 p5.1, .i .i64 p6.1, .i .i64 p7]], [])
def A203x0 (L : List Lf) : List (Bool × Res) := bnd (J203x0 N L (fun p => some p)) fun q => [(q.isSome, K203x0w0 L (q.getD default))]
theorem raw203x0 (L : List Lf) : bd Tryz.prog (T268x0 N) (h203x0s0 N).h 203 sh203x0 L = J203x0 N L (fun p => some (K203x0w0 L p)) := by kernel_rfl
theorem ok203x0 : FnOk Tryz.prog 203 sh203x0 (A203x0 N) :=
 (h203x0s0 N).fn progOk (T268x0_ok N) fun L x hx => ((raw203x0 N L).trans ((bind203x0 N ..).trans (alt1 x hx)))
def T203x0 : Oracle := ext 203 (spSh sh203x0 (A203x0 N)) (T268x0 N)
theorem T203x0_ok : OracleOk Tryz.prog (T203x0 N) := FnOk.to (ok203x0 N) (T268x0_ok N)
def rg110x0 : List (Nat × List Nat) := [(0, [0, 1, 2]), (1, [3, 6, 1, 2]), (2, [8, 6, 1, 2, 3]), (3, [8, 6]), (4, [1, 2, 3, 6]), (5, [6]), (6, [3, 1, 2, 6])]
def hd110x0 : Hints := [(13, [1, 2, 3, 6], [6, 3], [])]
def h110x0s0 (N : Nat) : Sg Tryz.prog 0 110 := .start hd110x0 rg110x0
def F110x0x13 (w0 w1 : Int) (w16 : LD) (k0 : Bool → Option R) : Option R :=
 bif (bif (decide (w0 < 0)) then true else (decide (w0 > w1))) then
  k0 true
 else
  bnd (G111x0 N w16) fun y0 =>
  bif y0.isSome then
   k0 (decide (w1 > (y0.getD default)))
  else
   none
def G110x0x13 (w0 w1 : Int) (w16 : LD) : Option (Bool) := F110x0x13 N w0 w1 w16 (fun p => some p)
theorem bind110x0x13 (w0 w1 : Int) (w16 : LD) (k0 : Bool → Option R) : F110x0x13 N w0 w1 w16 k0 = (G110x0x13 N w0 w1 w16).bind k0 := by
 unfold G110x0x13 F110x0x13
 repeat' (first | with_reducible apply cond_b | (with_reducible apply bnd_b; intro _) | rfl)
def sh110x0x13 : Sh := { tmps := [(1, .c (.i .i64)), (2, .c (.i .i64)), (3, .c (.p 3 0)), (6, .c (.p 6 0))], mem := [(6, .box (rI 10 ([]))), (3, .box (.s :: [.i .i64, .i .i64, .sl 216, .sl 219, .sl 9]))] }
def K110x0x13w0 (L : List Lf) (p : Bool) : Ex × St := (.normal, mg (ofSh sh110x0x13 L) [6, 3, 1, 2, 27] [(27, .c (.b p))] [6, 3] [])
def A110x0x13 (L : List Lf) : List (Bool × (Ex × St)) := bnd (F110x0x13 N (li L 0) (li L 1) (ll L 16) (fun p => some p)) fun q => [(q.isSome, K110x0x13w0 L (q.getD default))]
theorem raw110x0x13 (L : List Lf) : pc Tryz.prog (T203x0 N) (h110x0s0 N).h 0 100 110 13 sh110x0x13 L [6, 3, 1, 2, 27] [6, 3] = F110x0x13 N (li L 0) (li L 1) (ll L 16) (fun p => some (K110x0x13w0 L p)) := by kernel_rfl
def h110x0s1 : Sg Tryz.prog 0 110 :=
 (h110x0s0 N).cut (A110x0x13 N) progOk (T203x0_ok N) fun L x hx => (raw110x0x13 N L).trans ((bind110x0x13 N ..).trans (alt1 x hx))
def F110x0 (v0 : LB) (v1 v2 : Int) (v4 v6 v8 : LD) (v9 v10 : Int) (k0 : Ty2 → Option R) : Option R :=
 bnd (G108x0 N v0 v1 v2 v4 v6 v8) fun y0 =>
 bif y0.isSome then
  bif ((y0.getD default) != 0) then
   k0 (0, 0, 0, 0, 0, 0, 0, 0, 0, 0, (y0.getD default))
  else
   bnd (G110x0x13 N v9 v10 v4) fun y1 =>
   bif y1.isSome then
    bif (y1.getD default) then
     k0 (0, 0, 0, 0, 0, 0, 0, 0, 0, 0, 9)
    else
     bnd (G204x0 N v4) fun y2 =>
     bif y2.isSome then
      bnd (G203x0 N (y2.getD default).2.1 (y2.getD default).2.2.2.1 (y2.getD default).2.2.2.2.2.1 (y2.getD default).2.2.2.2.2.2.2.1 (y2.getD default).2.2.2.2.2.2.2.2.2 v9 v10) fun y3 =>
      bif y3.isSome then
       k0 (v9, v10, (y3.getD default).1, (y3.getD default).2.1, (y3.getD default).2.2.1, (y3.getD default).2.2.2.1, (y3.getD default).2.2.2.2.1, (y3.getD default).2.2.2.2.2.1, (y3.getD default).2.2.2.2.2.2.1, (y3.getD default).2.2.2.2.2.2.2, 0)
      else
       none
     else
      none
   else
    none
 else
  none
def G110x0 (v0 : LB) (v1 v2 : Int) (v4 v6 v8 : LD) (v9 v10 : Int) : Option (Ty2) := F110x0 N v0 v1 v2 v4 v6 v8 v9 v10 (fun p => some p)
theorem bind110x0 (v0 : LB) (v1 v2 : Int) (v4 v6 v8 : LD) (v9 v10 : Int) (k0 : Ty2 → Option R) : F110x0 N v0 v1 v2 v4 v6 v8 v9 v10 k0 = (G110x0 N v0 v1 v2 v4 v6 v8 v9 v10).bind k0 := by
 unfold G110x0 F110x0
 repeat' (first | with_reducible apply cond_b | (with_reducible apply bnd_b; intro _) | rfl)
def J110x0 (L : List Lf) (k0 : Ty2 → Option R) : Option R := F110x0 N (ls L 0) (li L 1) (li L 2) (ll L 4) (ll L 6) (ll L 8) (li L 9) (li L 10) k0
def sh110x0 : Sh := { tmps := [(0, .g (.s :: [.i .i64, .i .i64, .sl 216, .sl 219, .sl 9])), (1, .c (.i .i64)), (2, .c (.i .i64))], mem := [] }
def K110x0w0 (L : List Lf) (p : Ty2) : Res := let p1 := p.2; let p2 := p1.2; let p3 := p2.2; let p4 := p3.2; let p5 := p4.2; let p6 := p5.2; let p7 := p6.2; let p8 := p7.2; let p9 := p8.2; let p10 := p9.2; ([.g [.i .i64 p.1, .i .i64 p1.1, .i .i64 p2.1, .i .i64 p3.1, .i .i64 p4.1, .i .i64 p5.1, .i .i64 p6.1, .i .i64 p7.1, .i .i64 p8.1, .i .i64 p9.1], .c (.i .i64 p10)], [])
def A110x0 (L : List Lf) : List (Bool × Res) := bnd (J110x0 N L (fun p => some p)) fun q => [(q.isSome, K110x0w0 L (q.getD default))]
theorem raw110x0 (L : List Lf) : bd Tryz.prog (T203x0 N) (h110x0s1 N).h 110 sh110x0 L = J110x0 N L (fun p => some (K110x0w0 L p)) := by kernel_rfl
theorem ok110x0 : FnOk Tryz.prog 110 sh110x0 (A110x0 N) :=
 (h110x0s1 N).fn progOk (T203x0_ok N) fun L x hx => ((raw110x0 N L).trans ((bind110x0 N ..).trans (alt1 x hx)))
def T110x0 : Oracle := ext 110 (spSh sh110x0 (A110x0 N)) (T203x0 N)
theorem T110x0_ok : OracleOk Tryz.prog (T110x0 N) := FnOk.to (ok110x0 N) (T203x0_ok N)
def rg112x0 : List (Nat × List Nat) := [(0, [0]), (1, [0]), (2, []), (3, [0])]
def hd112x0 : Hints := []
def h112x0s0 (N : Nat) : Sg Tryz.prog 0 112 := .start hd112x0 rg112x0 true
def F112x0 (N : Nat) (v0 : Bool) (v1 : LD) (k0 : Unit → Option R) (k1 : Bool → Option R) : Option R :=
 bif v0 then
  k0 ()
 else
  bif (decide ((0 + v1.length) * 16 ≤ room) && decide ((0 + v1.length) ≤ strMax)) then
   k1 (v1.isEmpty && false)
  else
   none
def G112x0 (v0 : Bool) (v1 : LD) : Option (Sum (Unit) (Bool)) := F112x0 N v0 v1 (fun p => some (.inl p)) (fun p => some (.inr p))
theorem bind112x0 (v0 : Bool) (v1 : LD) (k0 : Unit → Option R) (k1 : Bool → Option R) : F112x0 N v0 v1 k0 k1 = (G112x0 N v0 v1).bind (sumE k0 k1) := by
 unfold G112x0 F112x0
 repeat' (first | with_reducible apply cond_b | (with_reducible apply bnd_b; intro _) | rfl)
def sh112x0 : Sh := { tmps := [(0, .c (.sl 9))], mem := [] }
def A112x0 (L : List Lf) : List (Bool × Res) := bnd (F112x0 N (lb L 0) (ll L 1) (fun p => some (.inl p)) (fun p => some (.inr p))) fun q => [((inlB q), ([.c (.sl 9 true [])], [])), ((inrQ q).isSome, ([.c (.o 7)], [(7, .row 9 true ((inrQ q).getD default) (ll L 1))]))]
theorem raw112x0 (L : List Lf) : bd Tryz.prog (T110x0 N) (h112x0s0 N).h 112 sh112x0 L = F112x0 N (lb L 0) (ll L 1) (fun _ => some ([.c (.sl 9 true [])], [])) (fun p => some ([.c (.o 7)], [(7, .row 9 true p (ll L 1))])) := by kernel_rfl
theorem ok112x0 : FnOk Tryz.prog 112 sh112x0 (A112x0 N) :=
 (h112x0s0 N).fn progOk (T110x0_ok N) fun L x hx => ((raw112x0 N L).trans ((bind112x0 N ..).trans ((altS alt1) x hx)))
def T112x0 : Oracle := ext 112 (spSh sh112x0 (A112x0 N)) (T110x0 N)
theorem T112x0_ok : OracleOk Tryz.prog (T112x0 N) := FnOk.to (ok112x0 N) (T110x0_ok N)
def rg30x0 : List (Nat × List Nat) := [(0, [0, 1]), (1, [2, 4, 1]), (2, [6, 4, 1, 2]), (3, [6, 4]), (4, [1, 4, 2]), (5, [4]), (6, [2, 1, 4]), (7, [2, 7, 1, 4])]
def hd30x0 : Hints := [(22, [2, 7, 1, 4], [7, 4, 2], [])]
def h30x0s0 (N : Nat) : Sg Tryz.prog 0 30 := .start hd30x0 rg30x0
def F30x0x22 (w27 : Bool) (w28 : LD) (k0 : Unit → Option R) (k1 : Bool → Option R) : Option R :=
 bnd (G112x0 N w27 w28) fun y0 =>
 bif (inlB y0) then
  k0 ()
 else
  bif (inrQ y0).isSome then
   k1 ((inrQ y0).getD default)
  else
   none
def G30x0x22 (w27 : Bool) (w28 : LD) : Option (Sum (Unit) (Bool)) := F30x0x22 N w27 w28 (fun p => some (.inl p)) (fun p => some (.inr p))
theorem bind30x0x22 (w27 : Bool) (w28 : LD) (k0 : Unit → Option R) (k1 : Bool → Option R) : F30x0x22 N w27 w28 k0 k1 = (G30x0x22 N w27 w28).bind (sumE k0 k1) := by
 unfold G30x0x22 F30x0x22
 repeat' (first | with_reducible apply cond_b | (with_reducible apply bnd_b; intro _) | rfl)
def sh30x0x22 : Sh := { tmps := [(2, .c (.p 2 0)), (7, .c (.p 7 0)), (1, .c (.i .i64)), (4, .c (.p 4 0))], mem := [(7, .box (rI 10 ([]))), (4, .box (.s :: rI 6 ([.sl 9]))), (2, .box (.s :: [.i .i64, .i .i64, .sl 216, .sl 219, .sl 9]))] }
def K30x0x22w0 (L : List Lf) (_ : Unit) : Ex × St := (.normal, ⟨[(4, .c (.p 4 0)), (5, .c (.i .i64 0))], [(4, .box [.s (ls L 20), .i .i64 (li L 21), .i .i64 (li L 22), .i .i64 (li L 3), .i .i64 (li L 4), .i .i64 (li L 2), .i .i64 (li L 0), .sl 9 true []])]⟩)
def K30x0x22w1 (L : List Lf) (p : Bool) : Ex × St := (.normal, ⟨[(4, .c (.p 4 0)), (5, .c (.i .i64 0))], [(4, .box [.s (ls L 20), .i .i64 (li L 21), .i .i64 (li L 22), .i .i64 (li L 3), .i .i64 (li L 4), .i .i64 (li L 2), .i .i64 (li L 0), .o 42000000007]), (42000000007, .row 9 true p (ll L 28))]⟩)
def A30x0x22 (L : List Lf) : List (Bool × (Ex × St)) := bnd (F30x0x22 N (lb L 27) (ll L 28) (fun p => some (.inl p)) (fun p => some (.inr p))) fun q => [((inlB q), K30x0x22w0 L ()), ((inrQ q).isSome, K30x0x22w1 L ((inrQ q).getD default))]
theorem raw30x0x22 (L : List Lf) : pc Tryz.prog (T112x0 N) (h30x0s0 N).h 0 100 30 22 sh30x0x22 L [4, 5] [4, 42000000007] = F30x0x22 N (lb L 27) (ll L 28) (fun _ => some (K30x0x22w0 L ())) (fun p => some (K30x0x22w1 L p)) := by kernel_rfl
def h30x0s1 : Sg Tryz.prog 0 30 :=
 (h30x0s0 N).cut (A30x0x22 N) progOk (T112x0_ok N) fun L x hx => (raw30x0x22 N L).trans ((bind30x0x22 N ..).trans ((altS alt1) x hx))
def F30x0 (v0 : LB) (v1 v2 : Int) (v4 v6 : LD) (v7 : Bool) (v8 : LD) (v9 : Int) (k0 : Ty1 → Option R) : Option R :=
 bnd (G108x0 N v0 v1 v2 v4 v6 v8) fun y0 =>
 bif y0.isSome then
  bif ((y0.getD default) != 0) then
   k0 (([] : List UInt8), 0, 0, 0, 0, 0, 0, true, [], (y0.getD default))
  else
   bnd (V109x0 N v9 0 1000000) fun y1 =>
   bif (!y1) then
    k0 (([] : List UInt8), 0, 0, 0, 0, 0, 0, true, [], 9)
   else
    bnd (G111x0 N v4) fun y2 =>
    bif y2.isSome then
     bnd (G110x0 N v0 v1 v2 v4 v6 v8 0 (y2.getD default)) fun y3 =>
     bif y3.isSome then
      bnd (G30x0x22 N v7 v8) fun y4 =>
      bif (inlB y4) then
       k0 (v0, v1, v2, (y3.getD default).2.2.1, (y3.getD default).2.2.2.1, (y3.getD default).2.1, v9, true, [], 0)
      else
       bif (inrQ y4).isSome then
        k0 (v0, v1, v2, (y3.getD default).2.2.1, (y3.getD default).2.2.2.1, (y3.getD default).2.1, v9, ((inrQ y4).getD default), v8, 0)
       else
        none
     else
      none
    else
     none
 else
  none
def G30x0 (v0 : LB) (v1 v2 : Int) (v4 v6 : LD) (v7 : Bool) (v8 : LD) (v9 : Int) : Option (Ty1) := F30x0 N v0 v1 v2 v4 v6 v7 v8 v9 (fun p => some p)
theorem bind30x0 (v0 : LB) (v1 v2 : Int) (v4 v6 : LD) (v7 : Bool) (v8 : LD) (v9 : Int) (k0 : Ty1 → Option R) : F30x0 N v0 v1 v2 v4 v6 v7 v8 v9 k0 = (G30x0 N v0 v1 v2 v4 v6 v7 v8 v9).bind k0 := by
 unfold G30x0 F30x0
 repeat' (first | with_reducible apply cond_b | (with_reducible apply bnd_b; intro _) | rfl)
def J30x0 (L : List Lf) (k0 : Ty1 → Option R) : Option R := F30x0 N (ls L 0) (li L 1) (li L 2) (ll L 4) (ll L 6) (lb L 7) (ll L 8) (li L 9) k0
def sh30x0 : Sh := { tmps := [(0, .g (.s :: [.i .i64, .i .i64, .sl 216, .sl 219, .sl 9])), (1, .c (.i .i64))], mem := [] }
def K30x0w0 (L : List Lf) (p : Ty1) : Res := let p1 := p.2; let p2 := p1.2; let p3 := p2.2; let p4 := p3.2; let p5 := p4.2; let p6 := p5.2; let p7 := p6.2; let p8 := p7.2; let p9 := p8.2; ([.g [.s p.1, .i .i64 p1.1, .i .i64 p2.1, .i .i64 p3.1, .i .i64 p4.1, .i .i64 p5.1, .i .i64 p6.1, .sl 9 p7.1 p8.1], .c (.i .i64 p9)], [])
def A30x0 (L : List Lf) : List (Bool × Res) := bnd (J30x0 N L (fun p => some p)) fun q => [(q.isSome, K30x0w0 L (q.getD default))]
theorem raw30x0 (L : List Lf) : bd Tryz.prog (T112x0 N) (h30x0s1 N).h 30 sh30x0 L = J30x0 N L (fun p => some (K30x0w0 L p)) := by kernel_rfl
theorem ok30x0 : FnOk Tryz.prog 30 sh30x0 (A30x0 N) :=
 (h30x0s1 N).fn progOk (T112x0_ok N) fun L x hx => ((raw30x0 N L).trans ((bind30x0 N ..).trans (alt1 x hx)))
def T30x0 : Oracle := ext 30 (spSh sh30x0 (A30x0 N)) (T112x0 N)
theorem T30x0_ok : OracleOk Tryz.prog (T30x0 N) := FnOk.to (ok30x0 N) (T112x0_ok N)
def rg118x0 : List (Nat × List Nat) := [(0, [0]), (1, [0]), (2, [3, 0]), (4, [0, 3]), (5, [4, 3, 0]), (6, []), (3, [3, 0]), (7, [0])]
def hd118x0 : Hints := [(6, [3, 0], [], [])]
def h118x0s0 (N : Nat) : Sg Tryz.prog 0 118 := .start hd118x0 rg118x0
def S118x0x6 (N : Nat) (w1 : LB) (w0 : Int) (kr : Int → Option R) (k0 : Unit → Option R) (k1 : Unit → Option R) : Option R :=
 bif (decide (w0 < (w1.length : Int))) then
  bif (inB w0 w1.length) then
   bnd (bif (decide (((w1.getD w0.toNat 0).toNat : Int) ≥ 97)) then (decide (((w1.getD w0.toNat 0).toNat : Int) ≤ 122)) else false) fun y0 =>
   bnd (bif y0 then true else (bif (decide (((w1.getD w0.toNat 0).toNat : Int) ≥ 65)) then (decide (((w1.getD w0.toNat 0).toNat : Int) ≤ 90)) else false)) fun y1 =>
   bnd (bif y1 then true else (bif (decide (((w1.getD w0.toNat 0).toNat : Int) ≥ 48)) then (decide (((w1.getD w0.toNat 0).toNat : Int) ≤ 57)) else false)) fun y2 =>
   bnd (bif y2 then true else (((w1.getD w0.toNat 0).toNat : Int) == 45)) fun y3 =>
   bnd (bif y3 then true else (((w1.getD w0.toNat 0).toNat : Int) == 95)) fun y4 =>
   bnd (bif y4 then true else (((w1.getD w0.toNat 0).toNat : Int) == 46)) fun y5 =>
   bif (!y5) then
    k0 ()
   else
    kr (IntKind.wrap .i64 (w0 + 1))
  else
   none
 else
  k1 ()
def L118x0x6 (N : Nat) {R : Type} (w1 : LB) : Nat → Int → (Unit → Option R) → (Unit → Option R) → Option R
 | 0, _, _, _ => none
 | m + 1, w0, k0, k1 => S118x0x6 N w1 w0 (fun w0 => L118x0x6 N w1 m w0 k0 k1) k0 k1
def G118x0x6 (w1 : LB) (w0 : Int) : Option (Sum (Unit) (Unit)) := L118x0x6 N (R := (Sum (Unit) (Unit))) w1 N w0 (fun p => some (.inl p)) (fun p => some (.inr p))
def J118x0x6 (L x : List Lf) (kr : List Lf → Option R) (k0 : Unit → Option R) (k1 : Unit → Option R) : Option R := S118x0x6 N (ls L 1) (li x 0) (fun w0 => kr [.i w0]) k0 k1
theorem sb118x0x6 (L x : List Lf) (kr : List Lf → Option R) (k0 : Unit → Option R) (k1 : Unit → Option R) : J118x0x6 N L x kr k0 k1 = (J118x0x6 N L x (fun y => some (.inl y)) (fun p => some (.inr (.inl p))) (fun p => some (.inr (.inr p)))).bind (sumE kr (sumE k0 k1)) := by
 unfold J118x0x6 S118x0x6
 repeat' (first | with_reducible apply cond_b | (with_reducible apply bnd_b; intro _) | rfl)
def Q118x0x6 (L : List Lf) (m : Nat) (x : List Lf) : Option (Sum (Unit) (Unit)) := L118x0x6 N (R := (Sum (Unit) (Unit))) (ls L 1) m (li x 0) (fun p => some (.inl p)) (fun p => some (.inr p))
def sh118x0x6 : Sh := { tmps := [(3, .c (.i .i64)), (0, .c (.s))], mem := [] }
def A118x0x6 (L : List Lf) : List (Bool × (Ex × St)) := bnd (Q118x0x6 N L N (pk sh118x0x6 [0] L)) fun q => [((inlB q), (.ret, ⟨[(2, .c (.b false))], []⟩)), ((inrQ q).isSome, ((.exit 0), ⟨[(0, .c (.s (ls L 1)))], []⟩))]
theorem step118x0x6 (m : Nat) (kn : St → Option (Ex × St)) (L x : List Lf) : lpB Tryz.prog (T30x0 N) (h118x0s0 N).h 0 118 6 sh118x0x6 [0] [2, 0] [] (m + 100) kn L x = J118x0x6 N L x (fun y => kn (ofSh sh118x0x6 (mx sh118x0x6 [0] L y))) (fun _ => some (.ret, ⟨[(2, .c (.b false))], []⟩)) (fun _ => some ((.exit 0), ⟨[(0, .c (.s (ls L 1)))], []⟩)) := by kernel_rfl
theorem ql118x0x6 (L : List Lf) (m : Nat) (x : List Lf) : Q118x0x6 N L (m + 1) x = J118x0x6 N L x (Q118x0x6 N L m) (fun p => some (.inl p)) (fun p => some (.inr p)) := by kernel_rfl
def h118x0s1 : Sg Tryz.prog 0 118 :=
 (h118x0s0 N).lp (A118x0x6 N) N progOk (T30x0_ok N) (fun m kn L x => (step118x0x6 N m kn L x).trans (sb118x0x6 N L x _ _ _)) (fun L m x => (ql118x0x6 N L m x).trans (sb118x0x6 N L x (Q118x0x6 N L m) (fun p => some (.inl p)) (fun p => some (.inr p)))) fun L x hx => (altS alt1) x hx
def F118x0 (v0 : LB) (k0 : Bool → Option R) : Option R :=
 bnd (G118x0x6 N v0 0) fun y0 =>
 bif (inlB y0) then
  k0 false
 else
  bif (inrQ y0).isSome then
   bnd (bif (decide ((v0.length : Int) ≥ 1)) then (decide ((v0.length : Int) ≤ 60)) else false) fun y1 =>
   k0 y1
  else
   none
def G118x0 (v0 : LB) : Option (Bool) := F118x0 N v0 (fun p => some p)
theorem bind118x0 (v0 : LB) (k0 : Bool → Option R) : F118x0 N v0 k0 = (G118x0 N v0).bind k0 := by
 unfold G118x0 F118x0
 repeat' (first | with_reducible apply cond_b | (with_reducible apply bnd_b; intro _) | rfl)
def sh118x0 : Sh := { tmps := [(0, .c (.s))], mem := [] }
def A118x0 (L : List Lf) : List (Bool × Res) := bnd (F118x0 N (ls L 0) (fun p => some p)) fun q => [(q.isSome, ([.c (.b (q.getD default))], []))]
theorem raw118x0 (L : List Lf) : bd Tryz.prog (T30x0 N) (h118x0s1 N).h 118 sh118x0 L = F118x0 N (ls L 0) (fun p => some ([.c (.b p)], [])) := by kernel_rfl
theorem ok118x0 : FnOk Tryz.prog 118 sh118x0 (A118x0 N) :=
 (h118x0s1 N).fn progOk (T30x0_ok N) fun L x hx => ((raw118x0 N L).trans ((bind118x0 N ..).trans (alt1 x hx)))
def T118x0 : Oracle := ext 118 (spSh sh118x0 (A118x0 N)) (T30x0 N)
theorem T118x0_ok : OracleOk Tryz.prog (T118x0 N) := FnOk.to (ok118x0 N) (T30x0_ok N)
def rg205x0 : List (Nat × List Nat) := [(0, [0, 1, 2]), (1, [0, 1, 2])]
def hd205x0 : Hints := []
def h205x0s0 (N : Nat) : Sg Tryz.prog 0 205 := .start hd205x0 rg205x0
def F205x0 (N : Nat) (v0 v1 v2 : Int) (k0 : Bool → R) : R :=
 k0 (bif (decide (v0 < v1)) then true else (decide (v0 > v2)))
def V205x0 (v0 v1 v2 : Int) : Bool := F205x0 N v0 v1 v2 (fun p => p)
theorem tot205x0 (v0 v1 v2 : Int) (k0 : Bool → R) : F205x0 N v0 v1 v2 k0 = k0 (V205x0 N v0 v1 v2) := by
 unfold V205x0 F205x0
 repeat' (first | rfl | apply cond_k | (apply bnd_k; intro _))
def sh205x0 : Sh := { tmps := [(0, .c (.i .i64)), (1, .c (.i .i64)), (2, .c (.i .i64))], mem := [] }
def A205x0 (L : List Lf) : List (Bool × Res) := bnd (F205x0 N (li L 0) (li L 1) (li L 2) (fun p => p)) fun q => [(true, ([.c (.b q)], []))]
theorem raw205x0 (L : List Lf) : bd Tryz.prog (T118x0 N) (h205x0s0 N).h 205 sh205x0 L = F205x0 N (li L 0) (li L 1) (li L 2) (fun p => some ([.c (.b p)], [])) := by kernel_rfl
theorem ok205x0 : FnOk Tryz.prog 205 sh205x0 (A205x0 N) :=
 (h205x0s0 N).fn progOk (T118x0_ok N) fun L x hx => ((raw205x0 N L).trans ((tot205x0 N ..).trans (alt0 _ _ hx)))
def T205x0 : Oracle := ext 205 (spSh sh205x0 (A205x0 N)) (T118x0 N)
theorem T205x0_ok : OracleOk Tryz.prog (T205x0 N) := FnOk.to (ok205x0 N) (T118x0_ok N)
def rg206x0 : List (Nat × List Nat) := [(0, [0, 1]), (1, [2, 1]), (2, [1, 5, 2]), (3, []), (4, [5, 2]), (5, []), (6, [5]), (7, []), (8, [5]), (9, []), (10, [])]
def hd206x0 : Hints := [(7, [1, 5, 2], [5, 2], []), (19, [5], [5], []), (25, [5], [5], [])]
def h206x0s0 (N : Nat) : Sg Tryz.prog 0 206 := .start hd206x0 rg206x0
def F206x0x7 (N : Nat) (w0 w1 : Int) (w12 : LD) (k0 : Bool → Option R) : Option R :=
 bif (w0 == 0) then
  bif (w1 != 0) then
   k0 true
  else
   bif (decide (w0 > 0)) then
    bif (inB (IntKind.wrap .i64 (w0 - 1)) w12.length) then
     bnd ((w12.getD (IntKind.wrap .i64 (w0 - 1)).toNat (.i 0)).cell 0).toI fun y0 =>
     k0 (decide (w1 ≤ y0))
    else
     none
   else
    k0 false
 else
  bif (decide (w0 > 0)) then
   bif (inB (IntKind.wrap .i64 (w0 - 1)) w12.length) then
    bnd ((w12.getD (IntKind.wrap .i64 (w0 - 1)).toNat (.i 0)).cell 0).toI fun y0 =>
    k0 (decide (w1 ≤ y0))
   else
    none
  else
   k0 false
def G206x0x7 (w0 w1 : Int) (w12 : LD) : Option (Bool) := F206x0x7 N w0 w1 w12 (fun p => some p)
theorem bind206x0x7 (w0 w1 : Int) (w12 : LD) (k0 : Bool → Option R) : F206x0x7 N w0 w1 w12 k0 = (G206x0x7 N w0 w1 w12).bind k0 := by
 unfold G206x0x7 F206x0x7
 repeat' (first | with_reducible apply cond_b | (with_reducible apply bnd_b; intro _) | rfl)
def sh206x0x7 : Sh := { tmps := [(1, .c (.i .i64)), (5, .c (.p 5 0)), (2, .c (.p 2 0))], mem := [(5, .box (rI 7 ([]))), (2, .box (.s :: [.i .i64, .i .i64, .sl 216, .sl 219, .sl 9]))] }
def K206x0x7w0 (L : List Lf) (p : Bool) : Ex × St := (.normal, mg (ofSh sh206x0x7 L) [5, 2, 33] [(33, .c (.b p))] [2, 5] [])
def A206x0x7 (L : List Lf) : List (Bool × (Ex × St)) := bnd (F206x0x7 N (li L 0) (li L 1) (ll L 12) (fun p => some p)) fun q => [(q.isSome, K206x0x7w0 L (q.getD default))]
theorem raw206x0x7 (L : List Lf) : pc Tryz.prog (T205x0 N) (h206x0s0 N).h 0 100 206 7 sh206x0x7 L [5, 2, 33] [2, 5] = F206x0x7 N (li L 0) (li L 1) (ll L 12) (fun p => some (K206x0x7w0 L p)) := by kernel_rfl
def h206x0s1 : Sg Tryz.prog 0 206 :=
 (h206x0s0 N).cut (A206x0x7 N) progOk (T205x0_ok N) fun L x hx => (raw206x0x7 N L).trans ((bind206x0x7 N ..).trans (alt1 x hx))
def F206x0x19 (w1 w2 w3 : Int) (k0 : Bool → R) : R :=
 bnd (V205x0 N w1 (-100000000) 100000000) fun y0 =>
 bif y0 then
  k0 true
 else
  bnd (V205x0 N w2 (-100000000) 100000000) fun y1 =>
  bif y1 then
   k0 true
  else
   bnd (V205x0 N w3 (-100000) 100000) fun y2 =>
   k0 y2
def V206x0x19 (w1 w2 w3 : Int) : Bool := F206x0x19 N w1 w2 w3 (fun p => p)
theorem tot206x0x19 (w1 w2 w3 : Int) (k0 : Bool → R) : F206x0x19 N w1 w2 w3 k0 = k0 (V206x0x19 N w1 w2 w3) := by
 unfold V206x0x19 F206x0x19
 repeat' (first | rfl | apply cond_k | (apply bnd_k; intro _))
def sh206x0x19 : Sh := { tmps := [(5, .c (.p 5 0))], mem := [(5, .box (rI 7 ([])))] }
def K206x0x19w0 (L : List Lf) (p : Bool) : Ex × St := (.normal, mg (ofSh sh206x0x19 L) [5, 57] [(57, .c (.b p))] [5] [])
def A206x0x19 (L : List Lf) : List (Bool × (Ex × St)) := bnd (F206x0x19 N (li L 1) (li L 2) (li L 3) (fun p => p)) fun q => [(true, K206x0x19w0 L q)]
theorem raw206x0x19 (L : List Lf) : pc Tryz.prog (T205x0 N) (h206x0s1 N).h 0 100 206 19 sh206x0x19 L [5, 57] [5] = F206x0x19 N (li L 1) (li L 2) (li L 3) (fun p => some (K206x0x19w0 L p)) := by kernel_rfl
def h206x0s2 : Sg Tryz.prog 0 206 :=
 (h206x0s1 N).cut (A206x0x19 N) progOk (T205x0_ok N) fun L x hx => (raw206x0x19 N L).trans ((tot206x0x19 N ..).trans (alt0 _ _ hx))
def F206x0x25 (w4 w5 w6 : Int) (k0 : Bool → R) : R :=
 bnd (V205x0 N w4 (-1) 300) fun y0 =>
 bif y0 then
  k0 true
 else
  bnd (V205x0 N w5 (-1) 3000) fun y1 =>
  bif y1 then
   k0 true
  else
   bnd (V205x0 N w6 (-1) 300) fun y2 =>
   k0 y2
def V206x0x25 (w4 w5 w6 : Int) : Bool := F206x0x25 N w4 w5 w6 (fun p => p)
theorem tot206x0x25 (w4 w5 w6 : Int) (k0 : Bool → R) : F206x0x25 N w4 w5 w6 k0 = k0 (V206x0x25 N w4 w5 w6) := by
 unfold V206x0x25 F206x0x25
 repeat' (first | rfl | apply cond_k | (apply bnd_k; intro _))
def sh206x0x25 : Sh := { tmps := [(5, .c (.p 5 0))], mem := [(5, .box (rI 7 ([])))] }
def A206x0x25 (L : List Lf) : List (Bool × (Ex × St)) := bnd (F206x0x25 N (li L 4) (li L 5) (li L 6) (fun p => p)) fun q => [(true, (.normal, ⟨[(70, .c (.b q))], []⟩))]
theorem raw206x0x25 (L : List Lf) : pc Tryz.prog (T205x0 N) (h206x0s2 N).h 0 100 206 25 sh206x0x25 L [70] [] = F206x0x25 N (li L 4) (li L 5) (li L 6) (fun p => some (.normal, ⟨[(70, .c (.b p))], []⟩)) := by kernel_rfl
def h206x0s3 : Sg Tryz.prog 0 206 :=
 (h206x0s2 N).cut (A206x0x25 N) progOk (T205x0_ok N) fun L x hx => (raw206x0x25 N L).trans ((tot206x0x25 N ..).trans (alt0 _ _ hx))
def F206x0 (v2 : Int) (v4 : LD) (v9 : Int) (k0 : Int → Option R) : Option R :=
 bif (inB v9 v4.length) then
  bnd (G206x0x7 N v9 ((v4.getD v9.toNat (.i 0)).cell 0).toI v4) fun y0 =>
  bif y0.isSome then
   bif (y0.getD default) then
    k0 10
   else
    bnd (bif (decide (((v4.getD v9.toNat (.i 0)).cell 0).toI > 1000000)) then true else (decide ((IntKind.wrap .i64 (v2 + ((v4.getD v9.toNat (.i 0)).cell 0).toI)) > 86399999999))) fun y1 =>
    bif y1 then
     k0 9
    else
     bnd (V206x0x19 N ((v4.getD v9.toNat (.i 0)).cell 1).toI ((v4.getD v9.toNat (.i 0)).cell 2).toI ((v4.getD v9.toNat (.i 0)).cell 3).toI) fun y2 =>
     bif y2 then
      k0 9
     else
      bnd (V206x0x25 N ((v4.getD v9.toNat (.i 0)).cell 4).toI ((v4.getD v9.toNat (.i 0)).cell 5).toI ((v4.getD v9.toNat (.i 0)).cell 6).toI) fun y3 =>
      bif y3 then
       k0 9
      else
       k0 0
  else
   none
 else
  none
def G206x0 (v2 : Int) (v4 : LD) (v9 : Int) : Option (Int) := F206x0 N v2 v4 v9 (fun p => some p)
theorem bind206x0 (v2 : Int) (v4 : LD) (v9 : Int) (k0 : Int → Option R) : F206x0 N v2 v4 v9 k0 = (G206x0 N v2 v4 v9).bind k0 := by
 unfold G206x0 F206x0
 repeat' (first | with_reducible apply cond_b | (with_reducible apply bnd_b; intro _) | rfl)
def sh206x0 : Sh := { tmps := [(0, .g (.s :: [.i .i64, .i .i64, .sl 216, .sl 219, .sl 9])), (1, .c (.i .i64))], mem := [] }
def A206x0 (L : List Lf) : List (Bool × Res) := bnd (F206x0 N (li L 2) (ll L 4) (li L 9) (fun p => some p)) fun q => [(q.isSome, ([.c (.i .i64 (q.getD default))], []))]
theorem raw206x0 (L : List Lf) : bd Tryz.prog (T205x0 N) (h206x0s3 N).h 206 sh206x0 L = F206x0 N (li L 2) (ll L 4) (li L 9) (fun p => some ([.c (.i .i64 p)], [])) := by kernel_rfl
theorem ok206x0 : FnOk Tryz.prog 206 sh206x0 (A206x0 N) :=
 (h206x0s3 N).fn progOk (T205x0_ok N) fun L x hx => ((raw206x0 N L).trans ((bind206x0 N ..).trans (alt1 x hx)))
def T206x0 : Oracle := ext 206 (spSh sh206x0 (A206x0 N)) (T205x0 N)
theorem T206x0_ok : OracleOk Tryz.prog (T206x0 N) := FnOk.to (ok206x0 N) (T205x0_ok N)
def rg116x0 : List (Nat × List Nat) := [(0, [0]), (1, [1]), (2, []), (3, [1])]
def hd116x0 : Hints := []
def h116x0s0 (N : Nat) : Sg Tryz.prog 0 116 := .start hd116x0 rg116x0
def F116x0 (N : Nat) (v4 : LD) (k0 : Int → Option R) : Option R :=
 bif ((v4.length : Int) == 0) then
  k0 0
 else
  bif (inB (IntKind.wrap .i64 ((v4.length : Int) - 1)) v4.length) then
   bnd ((v4.getD (IntKind.wrap .i64 ((v4.length : Int) - 1)).toNat (.i 0)) : D) fun y0 =>
   k0 (y0.cell 0).toI
  else
   none
def G116x0 (v4 : LD) : Option (Int) := F116x0 N v4 (fun p => some p)
theorem bind116x0 (v4 : LD) (k0 : Int → Option R) : F116x0 N v4 k0 = (G116x0 N v4).bind k0 := by
 unfold G116x0 F116x0
 repeat' (first | with_reducible apply cond_b | (with_reducible apply bnd_b; intro _) | rfl)
def sh116x0 : Sh := { tmps := [(0, .g (.s :: [.i .i64, .i .i64, .sl 216, .sl 219, .sl 9]))], mem := [] }
def A116x0 (L : List Lf) : List (Bool × Res) := bnd (F116x0 N (ll L 4) (fun p => some p)) fun q => [(q.isSome, ([.c (.i .i64 (q.getD default))], []))]
theorem raw116x0 (L : List Lf) : bd Tryz.prog (T206x0 N) (h116x0s0 N).h 116 sh116x0 L = F116x0 N (ll L 4) (fun p => some ([.c (.i .i64 p)], [])) := by kernel_rfl
theorem ok116x0 : FnOk Tryz.prog 116 sh116x0 (A116x0 N) :=
 (h116x0s0 N).fn progOk (T206x0_ok N) fun L x hx => ((raw116x0 N L).trans ((bind116x0 N ..).trans (alt1 x hx)))
def T116x0 : Oracle := ext 116 (spSh sh116x0 (A116x0 N)) (T206x0 N)
theorem T116x0_ok : OracleOk Tryz.prog (T116x0 N) := FnOk.to (ok116x0 N) (T206x0_ok N)
def rg207x0 : List (Nat × List Nat) := [(0, [0, 1]), (1, [2, 1]), (2, [5, 2, 1]), (3, []), (4, [1, 5, 2]), (5, []), (6, [5]), (7, [6, 5]), (9, [5, 6]), (10, []), (8, [6, 5]), (11, [5]), (12, []), (13, [])]
def hd207x0 : Hints := [(7, [5, 2, 1], [5, 2], []), (13, [1, 5, 2], [2, 5], []), (21, [6, 5], [5], [])]
def h207x0s0 (N : Nat) : Sg Tryz.prog 0 207 := .start hd207x0 rg207x0
def F207x0x7 (w1 w2 : Int) (w8 : LD) (k0 : Bool → Option R) : Option R :=
 bif (decide (w1 < 0)) then
  k0 true
 else
  bif (decide (w1 ≥ w2)) then
   k0 true
  else
   bnd (G116x0 N w8) fun y0 =>
   bif y0.isSome then
    k0 (decide (w2 > (y0.getD default)))
   else
    none
def G207x0x7 (w1 w2 : Int) (w8 : LD) : Option (Bool) := F207x0x7 N w1 w2 w8 (fun p => some p)
theorem bind207x0x7 (w1 w2 : Int) (w8 : LD) (k0 : Bool → Option R) : F207x0x7 N w1 w2 w8 k0 = (G207x0x7 N w1 w2 w8).bind k0 := by
 unfold G207x0x7 F207x0x7
 repeat' (first | with_reducible apply cond_b | (with_reducible apply bnd_b; intro _) | rfl)
def sh207x0x7 : Sh := { tmps := [(5, .c (.p 5 0)), (2, .c (.p 2 0)), (1, .c (.i .i64))], mem := [(5, .box ([.i .i64, .i .i64, .s])), (2, .box (.s :: [.i .i64, .i .i64, .sl 216, .sl 219, .sl 9]))] }
def K207x0x7w0 (L : List Lf) (p : Bool) : Ex × St := (.normal, mg (ofSh sh207x0x7 L) [1, 5, 2, 28] [(28, .c (.b p))] [2, 5] [])
def A207x0x7 (L : List Lf) : List (Bool × (Ex × St)) := bnd (F207x0x7 N (li L 1) (li L 2) (ll L 8) (fun p => some p)) fun q => [(q.isSome, K207x0x7w0 L (q.getD default))]
theorem raw207x0x7 (L : List Lf) : pc Tryz.prog (T116x0 N) (h207x0s0 N).h 0 100 207 7 sh207x0x7 L [1, 5, 2, 28] [2, 5] = F207x0x7 N (li L 1) (li L 2) (ll L 8) (fun p => some (K207x0x7w0 L p)) := by kernel_rfl
def h207x0s1 : Sg Tryz.prog 0 207 :=
 (h207x0s0 N).cut (A207x0x7 N) progOk (T116x0_ok N) fun L x hx => (raw207x0x7 N L).trans ((bind207x0x7 N ..).trans (alt1 x hx))
def F207x0x13 (N : Nat) (w0 : Int) (w7 : LD) (w10 : Int) (k0 : Bool → Option R) : Option R :=
 bif (decide (w0 > 0)) then
  bif (inB (IntKind.wrap .i64 (w0 - 1)) w7.length) then
   bnd ((w7.getD (IntKind.wrap .i64 (w0 - 1)).toNat (.i 0)).cell 1).toI fun y0 =>
   k0 (decide (w10 < y0))
  else
   none
 else
  k0 false
def G207x0x13 (w0 : Int) (w7 : LD) (w10 : Int) : Option (Bool) := F207x0x13 N w0 w7 w10 (fun p => some p)
theorem bind207x0x13 (w0 : Int) (w7 : LD) (w10 : Int) (k0 : Bool → Option R) : F207x0x13 N w0 w7 w10 k0 = (G207x0x13 N w0 w7 w10).bind k0 := by
 unfold G207x0x13 F207x0x13
 repeat' (first | with_reducible apply cond_b | (with_reducible apply bnd_b; intro _) | rfl)
def sh207x0x13 : Sh := { tmps := [(1, .c (.i .i64)), (5, .c (.p 5 0)), (2, .c (.p 2 0))], mem := [(2, .box (.s :: [.i .i64, .i .i64, .sl 216, .sl 219, .sl 9])), (5, .box ([.i .i64, .i .i64, .s]))] }
def K207x0x13w0 (L : List Lf) (p : Bool) : Ex × St := (.normal, mg (ofSh sh207x0x13 L) [5, 42] [(42, .c (.b p))] [5] [])
def A207x0x13 (L : List Lf) : List (Bool × (Ex × St)) := bnd (F207x0x13 N (li L 0) (ll L 7) (li L 10) (fun p => some p)) fun q => [(q.isSome, K207x0x13w0 L (q.getD default))]
theorem raw207x0x13 (L : List Lf) : pc Tryz.prog (T116x0 N) (h207x0s1 N).h 0 100 207 13 sh207x0x13 L [5, 42] [5] = F207x0x13 N (li L 0) (ll L 7) (li L 10) (fun p => some (K207x0x13w0 L p)) := by kernel_rfl
def h207x0s2 : Sg Tryz.prog 0 207 :=
 (h207x0s1 N).cut (A207x0x13 N) progOk (T116x0_ok N) fun L x hx => (raw207x0x13 N L).trans ((bind207x0x13 N ..).trans (alt1 x hx))
def S207x0x21 (w3 : LB) (w0 : Int) (kr : Int → Option R) (k0 : Unit → Option R) (k1 : Unit → Option R) : Option R :=
 bif (decide (w0 < (w3.length : Int))) then
  bif (inB w0 w3.length) then
   bnd (V205x0 N (IntKind.wrap .i64 ((w3.getD w0.toNat 0).toNat : Int)) 32 126) fun y0 =>
   bif y0 then
    k0 ()
   else
    kr (IntKind.wrap .i64 (w0 + 1))
  else
   none
 else
  k1 ()
def L207x0x21 (N : Nat) {R : Type} (w3 : LB) : Nat → Int → (Unit → Option R) → (Unit → Option R) → Option R
 | 0, _, _, _ => none
 | m + 1, w0, k0, k1 => S207x0x21 N w3 w0 (fun w0 => L207x0x21 N w3 m w0 k0 k1) k0 k1
def G207x0x21 (w3 : LB) (w0 : Int) : Option (Sum (Unit) (Unit)) := L207x0x21 N (R := (Sum (Unit) (Unit))) w3 N w0 (fun p => some (.inl p)) (fun p => some (.inr p))
def J207x0x21 (L x : List Lf) (kr : List Lf → Option R) (k0 : Unit → Option R) (k1 : Unit → Option R) : Option R := S207x0x21 N (ls L 3) (li x 0) (fun w0 => kr [.i w0]) k0 k1
theorem sb207x0x21 (L x : List Lf) (kr : List Lf → Option R) (k0 : Unit → Option R) (k1 : Unit → Option R) : J207x0x21 N L x kr k0 k1 = (J207x0x21 N L x (fun y => some (.inl y)) (fun p => some (.inr (.inl p))) (fun p => some (.inr (.inr p)))).bind (sumE kr (sumE k0 k1)) := by
 unfold J207x0x21 S207x0x21
 repeat' (first | with_reducible apply cond_b | (with_reducible apply bnd_b; intro _) | rfl)
def Q207x0x21 (L : List Lf) (m : Nat) (x : List Lf) : Option (Sum (Unit) (Unit)) := L207x0x21 N (R := (Sum (Unit) (Unit))) (ls L 3) m (li x 0) (fun p => some (.inl p)) (fun p => some (.inr p))
def sh207x0x21 : Sh := { tmps := [(6, .c (.i .i64)), (5, .c (.p 5 0))], mem := [(5, .box ([.i .i64, .i .i64, .s]))] }
def K207x0x21w0 (L : List Lf) (_ : Unit) : Ex × St := (.ret, mg (ofSh sh207x0x21 L) [4] [(4, .c (.i .i64 8))] [5] [])
def A207x0x21 (L : List Lf) : List (Bool × (Ex × St)) := bnd (Q207x0x21 N L N (pk sh207x0x21 [0] L)) fun q => [((inlB q), K207x0x21w0 L ()), ((inrQ q).isSome, ((.exit 0), mg (ofSh sh207x0x21 L) [5] [] [5] []))]
theorem step207x0x21 (m : Nat) (kn : St → Option (Ex × St)) (L x : List Lf) : lpB Tryz.prog (T116x0 N) (h207x0s2 N).h 0 207 21 sh207x0x21 [0] [4, 5] [5] (m + 100) kn L x = J207x0x21 N L x (fun y => kn (ofSh sh207x0x21 (mx sh207x0x21 [0] L y))) (fun _ => some (K207x0x21w0 L ())) (fun _ => some ((.exit 0), mg (ofSh sh207x0x21 L) [5] [] [5] [])) := by kernel_rfl
theorem ql207x0x21 (L : List Lf) (m : Nat) (x : List Lf) : Q207x0x21 N L (m + 1) x = J207x0x21 N L x (Q207x0x21 N L m) (fun p => some (.inl p)) (fun p => some (.inr p)) := by kernel_rfl
def h207x0s3 : Sg Tryz.prog 0 207 :=
 (h207x0s2 N).lp (A207x0x21 N) N progOk (T116x0_ok N) (fun m kn L x => (step207x0x21 N m kn L x).trans (sb207x0x21 N L x _ _ _)) (fun L m x => (ql207x0x21 N L m x).trans (sb207x0x21 N L x (Q207x0x21 N L m) (fun p => some (.inl p)) (fun p => some (.inr p)))) fun L x hx => (altS alt1) x hx
def F207x0 (v4 v6 : LD) (v9 : Int) (k0 : Int → Option R) : Option R :=
 bif (inB v9 v6.length) then
  bnd (G207x0x7 N ((v6.getD v9.toNat (.i 0)).cell 0).toI ((v6.getD v9.toNat (.i 0)).cell 1).toI v4) fun y0 =>
  bif y0.isSome then
   bif (y0.getD default) then
    k0 9
   else
    bnd (G207x0x13 N v9 v6 ((v6.getD v9.toNat (.i 0)).cell 0).toI) fun y1 =>
    bif y1.isSome then
     bif (y1.getD default) then
      k0 10
     else
      bnd (G207x0x21 N ((v6.getD v9.toNat (.i 0)).cell 2).toS 0) fun y2 =>
      bif (inlB y2) then
       k0 8
      else
       bif (inrQ y2).isSome then
        bnd (decide ((((v6.getD v9.toNat (.i 0)).cell 2).toS.length : Int) > 60)) fun y3 =>
        bif y3 then
         k0 8
        else
         k0 0
       else
        none
    else
     none
  else
   none
 else
  none
def G207x0 (v4 v6 : LD) (v9 : Int) : Option (Int) := F207x0 N v4 v6 v9 (fun p => some p)
theorem bind207x0 (v4 v6 : LD) (v9 : Int) (k0 : Int → Option R) : F207x0 N v4 v6 v9 k0 = (G207x0 N v4 v6 v9).bind k0 := by
 unfold G207x0 F207x0
 repeat' (first | with_reducible apply cond_b | (with_reducible apply bnd_b; intro _) | rfl)
def sh207x0 : Sh := { tmps := [(0, .g (.s :: [.i .i64, .i .i64, .sl 216, .sl 219, .sl 9])), (1, .c (.i .i64))], mem := [] }
def A207x0 (L : List Lf) : List (Bool × Res) := bnd (F207x0 N (ll L 4) (ll L 6) (li L 9) (fun p => some p)) fun q => [(q.isSome, ([.c (.i .i64 (q.getD default))], []))]
theorem raw207x0 (L : List Lf) : bd Tryz.prog (T116x0 N) (h207x0s3 N).h 207 sh207x0 L = F207x0 N (ll L 4) (ll L 6) (li L 9) (fun p => some ([.c (.i .i64 p)], [])) := by kernel_rfl
theorem ok207x0 : FnOk Tryz.prog 207 sh207x0 (A207x0 N) :=
 (h207x0s3 N).fn progOk (T116x0_ok N) fun L x hx => ((raw207x0 N L).trans ((bind207x0 N ..).trans (alt1 x hx)))
def T207x0 : Oracle := ext 207 (spSh sh207x0 (A207x0 N)) (T116x0 N)
theorem T207x0_ok : OracleOk Tryz.prog (T207x0 N) := FnOk.to (ok207x0 N) (T116x0_ok N)
def rg113x0 : List (Nat × List Nat) := [(0, [0]), (1, [1]), (3, [1]), (5, [1]), (7, [1]), (8, []), (6, []), (4, []), (2, []), (9, [1]), (10, [42, 41, 1]), (11, [42, 1, 41]), (12, [1, 3, 42, 41]), (13, [4, 42, 41, 1]), (14, [4]), (15, [42, 41, 1]), (16, [1]), (17, [55, 54, 1]), (18, [55, 1, 54]), (19, [1, 5, 55, 54]), (20, [6, 55, 54, 1]), (21, [6]), (22, [55, 54, 1]), (23, [1]), (24, [68, 67, 66, 1]), (25, [68, 66, 1, 67]), (26, [8, 7, 1, 68, 67, 66]), (27, []), (28, [7, 8, 1, 68, 67, 66]), (29, []), (30, [68, 67, 66, 1]), (31, [])]
def hd113x0 : Hints := [(30, [42, 41, 1], [1], []), (51, [55, 54, 1], [1], []), (72, [68, 67, 66, 1], [1], [])]
def h113x0s0 (N : Nat) : Sg Tryz.prog 0 113 := .start hd113x0 rg113x0
def S113x0x30 (w1 w4 : Int) (w6 : LD) (w0 : Int) (kr : Int → Option R) (k0 : Int → Option R) (k1 : Unit → Option R) : Option R :=
 bif (decide (w0 < w1)) then
  bnd (G206x0 N w4 w6 w0) fun y0 =>
  bif y0.isSome then
   bif ((y0.getD default) != 0) then
    k0 (y0.getD default)
   else
    kr (IntKind.wrap .i64 (w0 + 1))
  else
   none
 else
  k1 ()
def L113x0x30 (N : Nat) {R : Type} (w1 w4 : Int) (w6 : LD) : Nat → Int → (Int → Option R) → (Unit → Option R) → Option R
 | 0, _, _, _ => none
 | m + 1, w0, k0, k1 => S113x0x30 N w1 w4 w6 w0 (fun w0 => L113x0x30 N w1 w4 w6 m w0 k0 k1) k0 k1
def G113x0x30 (w1 w4 : Int) (w6 : LD) (w0 : Int) : Option (Sum (Int) (Unit)) := L113x0x30 N (R := (Sum (Int) (Unit))) w1 w4 w6 N w0 (fun p => some (.inl p)) (fun p => some (.inr p))
def J113x0x30 (L x : List Lf) (kr : List Lf → Option R) (k0 : Int → Option R) (k1 : Unit → Option R) : Option R := S113x0x30 N (li L 1) (li L 4) (ll L 6) (li x 0) (fun w0 => kr [.i w0]) k0 k1
theorem sb113x0x30 (L x : List Lf) (kr : List Lf → Option R) (k0 : Int → Option R) (k1 : Unit → Option R) : J113x0x30 N L x kr k0 k1 = (J113x0x30 N L x (fun y => some (.inl y)) (fun p => some (.inr (.inl p))) (fun p => some (.inr (.inr p)))).bind (sumE kr (sumE k0 k1)) := by
 unfold J113x0x30 S113x0x30
 repeat' (first | with_reducible apply cond_b | (with_reducible apply bnd_b; intro _) | rfl)
def Q113x0x30 (L : List Lf) (m : Nat) (x : List Lf) : Option (Sum (Int) (Unit)) := L113x0x30 N (R := (Sum (Int) (Unit))) (li L 1) (li L 4) (ll L 6) m (li x 0) (fun p => some (.inl p)) (fun p => some (.inr p))
def sh113x0x30 : Sh := { tmps := [(42, .c (.i .i64)), (41, .c (.i .i64)), (1, .c (.p 1 0))], mem := [(1, .box (.s :: [.i .i64, .i .i64, .sl 216, .sl 219, .sl 9]))] }
def K113x0x30w0 (L : List Lf) (p : Int) : Ex × St := (.ret, mg (ofSh sh113x0x30 L) [2] [(2, .c (.i .i64 p))] [1] [])
def A113x0x30 (L : List Lf) : List (Bool × (Ex × St)) := bnd (Q113x0x30 N L N (pk sh113x0x30 [0] L)) fun q => [((inlB q), K113x0x30w0 L (inlV q)), ((inrQ q).isSome, ((.exit 1), mg (ofSh sh113x0x30 L) [1] [] [1] []))]
theorem step113x0x30 (m : Nat) (kn : St → Option (Ex × St)) (L x : List Lf) : lpB Tryz.prog (T207x0 N) (h113x0s0 N).h 0 113 30 sh113x0x30 [0] [2, 1] [1] (m + 100) kn L x = J113x0x30 N L x (fun y => kn (ofSh sh113x0x30 (mx sh113x0x30 [0] L y))) (fun p => some (K113x0x30w0 L p)) (fun _ => some ((.exit 1), mg (ofSh sh113x0x30 L) [1] [] [1] [])) := by kernel_rfl
theorem ql113x0x30 (L : List Lf) (m : Nat) (x : List Lf) : Q113x0x30 N L (m + 1) x = J113x0x30 N L x (Q113x0x30 N L m) (fun p => some (.inl p)) (fun p => some (.inr p)) := by kernel_rfl
def h113x0s1 : Sg Tryz.prog 0 113 :=
 (h113x0s0 N).lp (A113x0x30 N) N progOk (T207x0_ok N) (fun m kn L x => (step113x0x30 N m kn L x).trans (sb113x0x30 N L x _ _ _)) (fun L m x => (ql113x0x30 N L m x).trans (sb113x0x30 N L x (Q113x0x30 N L m) (fun p => some (.inl p)) (fun p => some (.inr p)))) fun L x hx => (altS alt1) x hx
def S113x0x51 (w1 : Int) (w6 w8 : LD) (w0 : Int) (kr : Int → Option R) (k0 : Int → Option R) (k1 : Unit → Option R) : Option R :=
 bif (decide (w0 < w1)) then
  bnd (G207x0 N w6 w8 w0) fun y0 =>
  bif y0.isSome then
   bif ((y0.getD default) != 0) then
    k0 (y0.getD default)
   else
    kr (IntKind.wrap .i64 (w0 + 1))
  else
   none
 else
  k1 ()
def L113x0x51 (N : Nat) {R : Type} (w1 : Int) (w6 w8 : LD) : Nat → Int → (Int → Option R) → (Unit → Option R) → Option R
 | 0, _, _, _ => none
 | m + 1, w0, k0, k1 => S113x0x51 N w1 w6 w8 w0 (fun w0 => L113x0x51 N w1 w6 w8 m w0 k0 k1) k0 k1
def G113x0x51 (w1 : Int) (w6 w8 : LD) (w0 : Int) : Option (Sum (Int) (Unit)) := L113x0x51 N (R := (Sum (Int) (Unit))) w1 w6 w8 N w0 (fun p => some (.inl p)) (fun p => some (.inr p))
def J113x0x51 (L x : List Lf) (kr : List Lf → Option R) (k0 : Int → Option R) (k1 : Unit → Option R) : Option R := S113x0x51 N (li L 1) (ll L 6) (ll L 8) (li x 0) (fun w0 => kr [.i w0]) k0 k1
theorem sb113x0x51 (L x : List Lf) (kr : List Lf → Option R) (k0 : Int → Option R) (k1 : Unit → Option R) : J113x0x51 N L x kr k0 k1 = (J113x0x51 N L x (fun y => some (.inl y)) (fun p => some (.inr (.inl p))) (fun p => some (.inr (.inr p)))).bind (sumE kr (sumE k0 k1)) := by
 unfold J113x0x51 S113x0x51
 repeat' (first | with_reducible apply cond_b | (with_reducible apply bnd_b; intro _) | rfl)
def Q113x0x51 (L : List Lf) (m : Nat) (x : List Lf) : Option (Sum (Int) (Unit)) := L113x0x51 N (R := (Sum (Int) (Unit))) (li L 1) (ll L 6) (ll L 8) m (li x 0) (fun p => some (.inl p)) (fun p => some (.inr p))
def sh113x0x51 : Sh := { tmps := [(55, .c (.i .i64)), (54, .c (.i .i64)), (1, .c (.p 1 0))], mem := [(1, .box (.s :: [.i .i64, .i .i64, .sl 216, .sl 219, .sl 9]))] }
def K113x0x51w0 (L : List Lf) (p : Int) : Ex × St := (.ret, mg (ofSh sh113x0x51 L) [2] [(2, .c (.i .i64 p))] [1] [])
def A113x0x51 (L : List Lf) : List (Bool × (Ex × St)) := bnd (Q113x0x51 N L N (pk sh113x0x51 [0] L)) fun q => [((inlB q), K113x0x51w0 L (inlV q)), ((inrQ q).isSome, ((.exit 3), mg (ofSh sh113x0x51 L) [1] [] [1] []))]
theorem step113x0x51 (m : Nat) (kn : St → Option (Ex × St)) (L x : List Lf) : lpB Tryz.prog (T207x0 N) (h113x0s1 N).h 0 113 51 sh113x0x51 [0] [2, 1] [1] (m + 100) kn L x = J113x0x51 N L x (fun y => kn (ofSh sh113x0x51 (mx sh113x0x51 [0] L y))) (fun p => some (K113x0x51w0 L p)) (fun _ => some ((.exit 3), mg (ofSh sh113x0x51 L) [1] [] [1] [])) := by kernel_rfl
theorem ql113x0x51 (L : List Lf) (m : Nat) (x : List Lf) : Q113x0x51 N L (m + 1) x = J113x0x51 N L x (Q113x0x51 N L m) (fun p => some (.inl p)) (fun p => some (.inr p)) := by kernel_rfl
def h113x0s2 : Sg Tryz.prog 0 113 :=
 (h113x0s1 N).lp (A113x0x51 N) N progOk (T207x0_ok N) (fun m kn L x => (step113x0x51 N m kn L x).trans (sb113x0x51 N L x _ _ _)) (fun L m x => (ql113x0x51 N L m x).trans (sb113x0x51 N L x (Q113x0x51 N L m) (fun p => some (.inl p)) (fun p => some (.inr p)))) fun L x hx => (altS alt1) x hx
def S113x0x72 (w1 : Int) (w3 w12 : LD) (w0 : Int) (kr : Int → Option R) (k0 : Int → Option R) (k1 : Unit → Option R) : Option R :=
 bif (decide (w0 < w1)) then
  bif (inB w0 w3.length) then
   bnd (G118x0 N (w3.getD w0.toNat (.i 0)).toS) fun y0 =>
   bif y0.isSome then
    bif (!(y0.getD default)) then
     k0 8
    else
     bif (bif (inB (IntKind.wrap .i64 (w0 - 1)) w12.length) then true else (!((decide (w0 > 0)) == true))) then
      bnd (bif (decide (w0 > 0)) then ((Op.bytesLess (w3.getD w0.toNat (.i 0)).toS (w12.getD (IntKind.wrap .i64 (w0 - 1)).toNat (.i 0)).toS) || ((w3.getD w0.toNat (.i 0)).toS == (w12.getD (IntKind.wrap .i64 (w0 - 1)).toNat (.i 0)).toS)) else false) fun y1 =>
      bif y1 then
       k0 10
      else
       kr (IntKind.wrap .i64 (w0 + 1))
     else
      none
   else
    none
  else
   none
 else
  k1 ()
def L113x0x72 (N : Nat) {R : Type} (w1 : Int) (w3 w12 : LD) : Nat → Int → (Int → Option R) → (Unit → Option R) → Option R
 | 0, _, _, _ => none
 | m + 1, w0, k0, k1 => S113x0x72 N w1 w3 w12 w0 (fun w0 => L113x0x72 N w1 w3 w12 m w0 k0 k1) k0 k1
def G113x0x72 (w1 : Int) (w3 w12 : LD) (w0 : Int) : Option (Sum (Int) (Unit)) := L113x0x72 N (R := (Sum (Int) (Unit))) w1 w3 w12 N w0 (fun p => some (.inl p)) (fun p => some (.inr p))
def J113x0x72 (L x : List Lf) (kr : List Lf → Option R) (k0 : Int → Option R) (k1 : Unit → Option R) : Option R := S113x0x72 N (li L 1) (ll L 3) (ll L 12) (li x 0) (fun w0 => kr [.i w0]) k0 k1
theorem sb113x0x72 (L x : List Lf) (kr : List Lf → Option R) (k0 : Int → Option R) (k1 : Unit → Option R) : J113x0x72 N L x kr k0 k1 = (J113x0x72 N L x (fun y => some (.inl y)) (fun p => some (.inr (.inl p))) (fun p => some (.inr (.inr p)))).bind (sumE kr (sumE k0 k1)) := by
 unfold J113x0x72 S113x0x72
 repeat' (first | with_reducible apply cond_b | (with_reducible apply bnd_b; intro _) | rfl)
def Q113x0x72 (L : List Lf) (m : Nat) (x : List Lf) : Option (Sum (Int) (Unit)) := L113x0x72 N (R := (Sum (Int) (Unit))) (li L 1) (ll L 3) (ll L 12) m (li x 0) (fun p => some (.inl p)) (fun p => some (.inr p))
def sh113x0x72 : Sh := { tmps := [(68, .c (.i .i64)), (67, .c (.i .i64)), (66, .c (.sl 9)), (1, .c (.p 1 0))], mem := [(1, .box (.s :: [.i .i64, .i .i64, .sl 216, .sl 219, .sl 9]))] }
def A113x0x72 (L : List Lf) : List (Bool × (Ex × St)) := bnd (Q113x0x72 N L N (pk sh113x0x72 [0] L)) fun q => [((inlB q), (.ret, ⟨[(2, .c (.i .i64 (inlV q)))], []⟩)), ((inrQ q).isSome, ((.exit 5), ⟨[], []⟩))]
theorem step113x0x72 (m : Nat) (kn : St → Option (Ex × St)) (L x : List Lf) : lpB Tryz.prog (T207x0 N) (h113x0s2 N).h 0 113 72 sh113x0x72 [0] [2] [] (m + 100) kn L x = J113x0x72 N L x (fun y => kn (ofSh sh113x0x72 (mx sh113x0x72 [0] L y))) (fun p => some (.ret, ⟨[(2, .c (.i .i64 p))], []⟩)) (fun _ => some ((.exit 5), ⟨[], []⟩)) := by kernel_rfl
theorem ql113x0x72 (L : List Lf) (m : Nat) (x : List Lf) : Q113x0x72 N L (m + 1) x = J113x0x72 N L x (Q113x0x72 N L m) (fun p => some (.inl p)) (fun p => some (.inr p)) := by kernel_rfl
def h113x0s3 : Sg Tryz.prog 0 113 :=
 (h113x0s2 N).lp (A113x0x72 N) N progOk (T207x0_ok N) (fun m kn L x => (step113x0x72 N m kn L x).trans (sb113x0x72 N L x _ _ _)) (fun L m x => (ql113x0x72 N L m x).trans (sb113x0x72 N L x (Q113x0x72 N L m) (fun p => some (.inl p)) (fun p => some (.inr p)))) fun L x hx => (altS alt1) x hx
def F113x0 (v0 : LB) (v1 v2 : Int) (v4 v6 v8 : LD) (k0 : Int → Option R) : Option R :=
 bnd (G118x0 N v0) fun y0 =>
 bif y0.isSome then
  bif (!(y0.getD default)) then
   k0 8
  else
   bnd (V205x0 N v1 1 5) fun y1 =>
   bif y1 then
    k0 7
   else
    bnd (V205x0 N v2 0 86399999999) fun y2 =>
    bif y2 then
     k0 9
    else
     bnd (bif (decide ((v4.length : Int) > 20000)) then true else (decide ((v6.length : Int) > 200))) fun y3 =>
     bnd (bif y3 then true else (decide ((v8.length : Int) > 20))) fun y4 =>
     bif y4 then
      k0 3
     else
      bnd (G113x0x30 N (v4.length : Int) v2 v4 0) fun y5 =>
      bif (inlB y5) then
       k0 (inlV y5)
      else
       bif (inrQ y5).isSome then
        bnd (G113x0x51 N (v6.length : Int) v4 v6 0) fun y6 =>
        bif (inlB y6) then
         k0 (inlV y6)
        else
         bif (inrQ y6).isSome then
          bnd (G113x0x72 N (v8.length : Int) v8 v8 0) fun y7 =>
          bif (inlB y7) then
           k0 (inlV y7)
          else
           bif (inrQ y7).isSome then
            k0 0
           else
            none
         else
          none
       else
        none
 else
  none
def G113x0 (v0 : LB) (v1 v2 : Int) (v4 v6 v8 : LD) : Option (Int) := F113x0 N v0 v1 v2 v4 v6 v8 (fun p => some p)
theorem bind113x0 (v0 : LB) (v1 v2 : Int) (v4 v6 v8 : LD) (k0 : Int → Option R) : F113x0 N v0 v1 v2 v4 v6 v8 k0 = (G113x0 N v0 v1 v2 v4 v6 v8).bind k0 := by
 unfold G113x0 F113x0
 repeat' (first | with_reducible apply cond_b | (with_reducible apply bnd_b; intro _) | rfl)
def J113x0 (L : List Lf) (k0 : Int → Option R) : Option R := F113x0 N (ls L 0) (li L 1) (li L 2) (ll L 4) (ll L 6) (ll L 8) k0
def sh113x0 : Sh := { tmps := [(0, .g (.s :: [.i .i64, .i .i64, .sl 216, .sl 219, .sl 9]))], mem := [] }
def A113x0 (L : List Lf) : List (Bool × Res) := bnd (J113x0 N L (fun p => some p)) fun q => [(q.isSome, ([.c (.i .i64 (q.getD default))], []))]
theorem raw113x0 (L : List Lf) : bd Tryz.prog (T207x0 N) (h113x0s3 N).h 113 sh113x0 L = J113x0 N L (fun p => some ([.c (.i .i64 p)], [])) := by kernel_rfl
theorem ok113x0 : FnOk Tryz.prog 113 sh113x0 (A113x0 N) :=
 (h113x0s3 N).fn progOk (T207x0_ok N) fun L x hx => ((raw113x0 N L).trans ((bind113x0 N ..).trans (alt1 x hx)))
def T113x0 : Oracle := ext 113 (spSh sh113x0 (A113x0 N)) (T207x0 N)
theorem T113x0_ok : OracleOk Tryz.prog (T113x0 N) := FnOk.to (ok113x0 N) (T207x0_ok N)
def rg114x0 : List (Nat × List Nat) := [(0, [0, 1, 2]), (1, [0, 1, 2])]
def hd114x0 : Hints := []
def h114x0s0 (N : Nat) : Sg Tryz.prog 0 114 := .start hd114x0 rg114x0
def F114x0 (N : Nat) (v0 v1 v2 : Int) (k0 : Bool → R) : R :=
 k0 (bif (decide (v0 < v1)) then true else (decide (v0 > v2)))
def V114x0 (v0 v1 v2 : Int) : Bool := F114x0 N v0 v1 v2 (fun p => p)
theorem tot114x0 (v0 v1 v2 : Int) (k0 : Bool → R) : F114x0 N v0 v1 v2 k0 = k0 (V114x0 N v0 v1 v2) := by
 unfold V114x0 F114x0
 repeat' (first | rfl | apply cond_k | (apply bnd_k; intro _))
def sh114x0 : Sh := { tmps := [(0, .c (.i .i64)), (1, .c (.i .i64)), (2, .c (.i .i64))], mem := [] }
def A114x0 (L : List Lf) : List (Bool × Res) := bnd (F114x0 N (li L 0) (li L 1) (li L 2) (fun p => p)) fun q => [(true, ([.c (.b q)], []))]
theorem raw114x0 (L : List Lf) : bd Tryz.prog (T113x0 N) (h114x0s0 N).h 114 sh114x0 L = F114x0 N (li L 0) (li L 1) (li L 2) (fun p => some ([.c (.b p)], [])) := by kernel_rfl
theorem ok114x0 : FnOk Tryz.prog 114 sh114x0 (A114x0 N) :=
 (h114x0s0 N).fn progOk (T113x0_ok N) fun L x hx => ((raw114x0 N L).trans ((tot114x0 N ..).trans (alt0 _ _ hx)))
def T114x0 : Oracle := ext 114 (spSh sh114x0 (A114x0 N)) (T113x0 N)
theorem T114x0_ok : OracleOk Tryz.prog (T114x0 N) := FnOk.to (ok114x0 N) (T113x0_ok N)
def rg372x0 : List (Nat × List Nat) := [(0, [0]), (1, [0]), (2, [3, 4, 0]), (3, [3, 4, 0]), (4, [5, 0, 4, 3]), (6, [5, 3, 0]), (5, [5, 4, 0]), (7, [3])]
def hd372x0 : Hints := [(6, [3, 4, 0], [], []), (18017, [5, 4, 0, 3, 18], [], [])]
def h372x0s0 (N : Nat) : Sg Tryz.prog 0 372 := .start hd372x0 rg372x0
def F372x0x18017 (N : Nat) (w0 w1 w3 : Int) (w4 : Bool) (k0 : Int × Int → R) : R :=
 bif w4 then
  k0 (w0, w1)
 else
  k0 (w3, (IntKind.wrap .i64 (w0 - 1)))
def V372x0x18017 (w0 w1 w3 : Int) (w4 : Bool) : Int × Int := F372x0x18017 N w0 w1 w3 w4 (fun p => p)
theorem tot372x0x18017 (w0 w1 w3 : Int) (w4 : Bool) (k0 : Int × Int → R) : F372x0x18017 N w0 w1 w3 w4 k0 = k0 (V372x0x18017 N w0 w1 w3 w4) := by
 unfold V372x0x18017 F372x0x18017
 repeat' (first | rfl | apply cond_k | (apply bnd_k; intro _))
def J372x0x18017 (L : List Lf) (k0 : Int × Int → R) : R := F372x0x18017 N (li L 0) (li L 1) (li L 3) (lb L 4) k0
def sh372x0x18017 : Sh := { tmps := [(5, .c (.i .i64)), (4, .c (.i .i64)), (0, .c (.i .i64)), (3, .c (.i .i64)), (18, .c (.b))], mem := [] }
def K372x0x18017w0 (L : List Lf) (p : Int × Int) : Ex × St := (.normal, ⟨[(3, .c (.i .i64 p.1)), (4, .c (.i .i64 p.2)), (0, .c (.i .i64 (li L 2)))], []⟩)
def A372x0x18017 (L : List Lf) : List (Bool × (Ex × St)) := bnd (J372x0x18017 N L (fun p => p)) fun q => [(true, K372x0x18017w0 L q)]
theorem raw372x0x18017 (L : List Lf) : pc Tryz.prog (T114x0 N) (h372x0s0 N).h 0 100 372 18017 sh372x0x18017 L [3, 4, 0] [] = J372x0x18017 N L (fun p => some (K372x0x18017w0 L p)) := by kernel_rfl
def h372x0s1 : Sg Tryz.prog 0 372 :=
 (h372x0s0 N).cut (A372x0x18017 N) progOk (T114x0_ok N) fun L x hx => (raw372x0x18017 N L).trans ((tot372x0x18017 N ..).trans (alt0 _ _ hx))
def S372x0x6 (w2 : Int) (w0 w1 : Int) (kr : Int → Int → Option R) (k0 : Int → Option R) : Option R :=
 bif (decide (w0 < w1)) then
  bnd (IntKind.wrap .i64 ((IntKind.wrap .i64 ((IntKind.wrap .i64 (w0 + w1)) + 1)).tdiv 2)) fun y0 =>
  bnd (V372x0x18017 N y0 w1 w0 (decide ((IntKind.wrap .i64 (y0 * y0)) ≤ w2))) fun y1 =>
  kr y1.1 y1.2
 else
  k0 w0
def L372x0x6 (N : Nat) {R : Type} (w2 : Int) : Nat → Int → Int → (Int → Option R) → Option R
 | 0, _, _, _ => none
 | m + 1, w0, w1, k0 => S372x0x6 N w2 w0 w1 (fun w0 w1 => L372x0x6 N w2 m w0 w1 k0) k0
def G372x0x6 (w2 : Int) (w0 w1 : Int) : Option (Int) := L372x0x6 N (R := (Int)) w2 N w0 w1 (fun p => some p)
def J372x0x6 (L x : List Lf) (kr : List Lf → Option R) (k0 : Int → Option R) : Option R := S372x0x6 N (li L 2) (li x 0) (li x 1) (fun w0 w1 => kr [.i w0, .i w1]) k0
theorem sb372x0x6 (L x : List Lf) (kr : List Lf → Option R) (k0 : Int → Option R) : J372x0x6 N L x kr k0 = (J372x0x6 N L x (fun y => some (.inl y)) (fun p => some (.inr p))).bind (sumE kr k0) := by
 unfold J372x0x6 S372x0x6
 repeat' (first | with_reducible apply cond_b | (with_reducible apply bnd_b; intro _) | rfl)
def Q372x0x6 (L : List Lf) (m : Nat) (x : List Lf) : Option (Int) := L372x0x6 N (R := (Int)) (li L 2) m (li x 0) (li x 1) (fun p => some p)
def sh372x0x6 : Sh := { tmps := [(3, .c (.i .i64)), (4, .c (.i .i64)), (0, .c (.i .i64))], mem := [] }
def A372x0x6 (L : List Lf) : List (Bool × (Ex × St)) := bnd (Q372x0x6 N L N (pk sh372x0x6 [0, 1] L)) fun q => [(q.isSome, ((.exit 0), ⟨[(3, .c (.i .i64 (q.getD default)))], []⟩))]
theorem step372x0x6 (m : Nat) (kn : St → Option (Ex × St)) (L x : List Lf) : lpB Tryz.prog (T114x0 N) (h372x0s1 N).h 0 372 6 sh372x0x6 [0, 1] [2, 3] [] (m + 100) kn L x = J372x0x6 N L x (fun y => kn (ofSh sh372x0x6 (mx sh372x0x6 [0, 1] L y))) (fun p => some ((.exit 0), ⟨[(3, .c (.i .i64 p))], []⟩)) := by kernel_rfl
theorem ql372x0x6 (L : List Lf) (m : Nat) (x : List Lf) : Q372x0x6 N L (m + 1) x = J372x0x6 N L x (Q372x0x6 N L m) some := by kernel_rfl
def h372x0s2 : Sg Tryz.prog 0 372 :=
 (h372x0s1 N).lp (A372x0x6 N) N progOk (T114x0_ok N) (fun m kn L x => (step372x0x6 N m kn L x).trans (sb372x0x6 N L x _ _)) (fun L m x => (ql372x0x6 N L m x).trans (sb372x0x6 N L x (Q372x0x6 N L m) some)) fun L x hx => alt1 x hx
def F372x0 (v0 : Int) (k0 : Int → Option R) : Option R :=
 bnd (G372x0x6 N v0 0 3037000499) fun y0 =>
 bif y0.isSome then
  k0 (y0.getD default)
 else
  none
def G372x0 (v0 : Int) : Option (Int) := F372x0 N v0 (fun p => some p)
theorem bind372x0 (v0 : Int) (k0 : Int → Option R) : F372x0 N v0 k0 = (G372x0 N v0).bind k0 := by
 unfold G372x0 F372x0
 repeat' (first | with_reducible apply cond_b | (with_reducible apply bnd_b; intro _) | rfl)
def sh372x0 : Sh := { tmps := [(0, .c (.i .i64))], mem := [] }
def A372x0 (L : List Lf) : List (Bool × Res) := bnd (F372x0 N (li L 0) (fun p => some p)) fun q => [(q.isSome, ([.c (.i .i64 (q.getD default))], []))]
theorem raw372x0 (L : List Lf) : bd Tryz.prog (T114x0 N) (h372x0s2 N).h 372 sh372x0 L = F372x0 N (li L 0) (fun p => some ([.c (.i .i64 p)], [])) := by kernel_rfl
theorem ok372x0 : FnOk Tryz.prog 372 sh372x0 (A372x0 N) :=
 (h372x0s2 N).fn progOk (T114x0_ok N) fun L x hx => ((raw372x0 N L).trans ((bind372x0 N ..).trans (alt1 x hx)))
def T372x0 : Oracle := ext 372 (spSh sh372x0 (A372x0 N)) (T114x0 N)
theorem T372x0_ok : OracleOk Tryz.prog (T372x0 N) := FnOk.to (ok372x0 N) (T114x0_ok N)
def rg373x0 : List (Nat × List Nat) := [(0, [0, 1]), (1, [1, 2]), (2, [5, 2]), (4, [5, 2]), (5, [2]), (3, [2]), (6, [2])]
def hd373x0 : Hints := []
def h373x0s0 (N : Nat) : Sg Tryz.prog 0 373 := .start hd373x0 rg373x0
def F373x0 (N : Nat) (v4 v5 v6 v7 : Int) (k0 : Int → R) : R :=
 bif (v7 == 1) then
  k0 v4
 else
  bif (v7 == 2) then
   k0 v5
  else
   k0 v6
def V373x0 (v4 v5 v6 v7 : Int) : Int := F373x0 N v4 v5 v6 v7 (fun p => p)
theorem tot373x0 (v4 v5 v6 v7 : Int) (k0 : Int → R) : F373x0 N v4 v5 v6 v7 k0 = k0 (V373x0 N v4 v5 v6 v7) := by
 unfold V373x0 F373x0
 repeat' (first | rfl | apply cond_k | (apply bnd_k; intro _))
def J373x0 (L : List Lf) (k0 : Int → R) : R := F373x0 N (li L 4) (li L 5) (li L 6) (li L 7) k0
def sh373x0 : Sh := { tmps := [(0, .g (rI 7 ([]))), (1, .c (.i .i64))], mem := [] }
def A373x0 (L : List Lf) : List (Bool × Res) := bnd (J373x0 N L (fun p => p)) fun q => [(true, ([.c (.i .i64 q)], []))]
theorem raw373x0 (L : List Lf) : bd Tryz.prog (T372x0 N) (h373x0s0 N).h 373 sh373x0 L = J373x0 N L (fun p => some ([.c (.i .i64 p)], [])) := by kernel_rfl
theorem ok373x0 : FnOk Tryz.prog 373 sh373x0 (A373x0 N) :=
 (h373x0s0 N).fn progOk (T372x0_ok N) fun L x hx => ((raw373x0 N L).trans ((tot373x0 N ..).trans (alt0 _ _ hx)))
def T373x0 : Oracle := ext 373 (spSh sh373x0 (A373x0 N)) (T372x0 N)
theorem T373x0_ok : OracleOk Tryz.prog (T373x0 N) := FnOk.to (ok373x0 N) (T372x0_ok N)
def rg308x0 : List (Nat × List Nat) := [(0, [0, 1, 2]), (1, [4, 3, 2]), (2, [7, 2, 4, 3]), (3, [2, 4, 3, 7, 8]), (4, [2, 4, 3, 7, 8, 9]), (5, [20, 4, 3, 7, 2, 8, 9]), (7, [20, 4, 3, 7, 2, 8, 9]), (8, [4, 3, 7, 2, 8]), (6, [4, 3, 7, 2, 8]), (9, [7, 3, 2, 9, 8]), (10, [7, 3, 2, 9, 8, 10]), (11, [56, 55, 3, 2, 9, 7, 8, 10]), (12, [56, 3, 2, 9, 7, 8, 10, 55]), (13, [3, 2, 9, 11, 7, 8, 10, 56, 55]), (14, [2, 9, 11, 7, 8, 10, 56, 55, 3, 12]), (15, [9, 11, 7, 8, 2, 10, 56, 55, 3]), (16, [8, 2, 10, 56, 55, 3, 9, 7, 12]), (17, [2, 10, 56, 55, 3, 9, 7, 8]), (18, [2, 10, 56, 55, 3, 9, 7, 8, 12]), (19, [10, 56, 55, 3, 2, 9, 7, 8]), (20, [10, 12, 56, 55, 3, 2, 9, 7, 8]), (21, [56, 55, 3, 2, 9, 7, 8, 10]), (22, [10])]
def hd308x0 : Hints := [(26, [4, 3, 7, 2, 8, 9, 47], [4, 3], []), (21020, [4, 3, 7, 2, 8, 20, 9, 21], [4, 3], []), (33, [56, 55, 3, 2, 9, 7, 8, 10], [3, 10], [10]), (47, [9, 11, 7, 8, 2, 10, 56, 55, 3, 12, 63], [10, 3], []), (59, [10, 56, 55, 3, 2, 9, 7, 8, 12, 78], [3, 10], []), (53, [2, 10, 56, 55, 3, 9, 7, 8, 12, 76], [3, 10], [])]
def h308x0s0 (N : Nat) : Sg Tryz.prog 0 308 := .start hd308x0 rg308x0
def F308x0x26 (N : Nat) (w3 : Int) (w4 : Bool) (w8 w15 : Int) (k0 : Int → R) : R :=
 bif w4 then
  k0 (max2 0 (IntKind.wrap .i64 (w8 - w15)))
 else
  k0 w3
def V308x0x26 (w3 : Int) (w4 : Bool) (w8 w15 : Int) : Int := F308x0x26 N w3 w4 w8 w15 (fun p => p)
theorem tot308x0x26 (w3 : Int) (w4 : Bool) (w8 w15 : Int) (k0 : Int → R) : F308x0x26 N w3 w4 w8 w15 k0 = k0 (V308x0x26 N w3 w4 w8 w15) := by
 unfold V308x0x26 F308x0x26
 repeat' (first | rfl | apply cond_k | (apply bnd_k; intro _))
def J308x0x26 (L : List Lf) (k0 : Int → R) : R := F308x0x26 N (li L 3) (lb L 4) (li L 8) (li L 15) k0
def sh308x0x26 : Sh := { tmps := [(4, .c (.p 4 0)), (3, .c (.p 3 0)), (7, .c (.i .i64)), (2, .c (.i .i64)), (8, .c (.b)), (9, .c (.i .i64)), (47, .c (.b))], mem := [(4, .box (rI 7 ([]))), (3, .box (rI 7 ([])))] }
def K308x0x26w0 (L : List Lf) (p : Int) : Ex × St := (.normal, mg (ofSh sh308x0x26 L) [7, 3, 2, 9, 8] [(9, .c (.i .i64 p))] [3] [])
def A308x0x26 (L : List Lf) : List (Bool × (Ex × St)) := bnd (J308x0x26 N L (fun p => p)) fun q => [(true, K308x0x26w0 L q)]
theorem raw308x0x26 (L : List Lf) : pc Tryz.prog (T373x0 N) (h308x0s0 N).h 0 100 308 26 sh308x0x26 L [7, 3, 2, 9, 8] [3] = J308x0x26 N L (fun p => some (K308x0x26w0 L p)) := by kernel_rfl
def h308x0s1 : Sg Tryz.prog 0 308 :=
 (h308x0s0 N).cut (A308x0x26 N) progOk (T373x0_ok N) fun L x hx => (raw308x0x26 N L).trans ((tot308x0x26 N ..).trans (alt0 _ _ hx))
def F308x0x21020 (w3 w4 : Int) (w5 : Bool) (w7 w8 w9 w14 w15 w16 : Int) (k0 : Int → Option R) : Option R :=
 bif w5 then
  bnd (IntKind.wrap .i64 ((IntKind.wrap .i64 (w7 - w14)) * (IntKind.wrap .i64 (w7 - w14)))) fun y0 =>
  bnd (IntKind.wrap .i64 ((IntKind.wrap .i64 (w8 - w15)) * (IntKind.wrap .i64 (w8 - w15)))) fun y1 =>
  bnd (G372x0 N (IntKind.wrap .i64 (y0 + y1))) fun y2 =>
  bif y2.isSome then
   k0 (y2.getD default)
  else
   none
 else
  bnd (V308x0x26 N w4 (w3 == 5) w9 w16) fun y3 =>
  k0 y3
def G308x0x21020 (w3 w4 : Int) (w5 : Bool) (w7 w8 w9 w14 w15 w16 : Int) : Option (Int) := F308x0x21020 N w3 w4 w5 w7 w8 w9 w14 w15 w16 (fun p => some p)
theorem bind308x0x21020 (w3 w4 : Int) (w5 : Bool) (w7 w8 w9 w14 w15 w16 : Int) (k0 : Int → Option R) : F308x0x21020 N w3 w4 w5 w7 w8 w9 w14 w15 w16 k0 = (G308x0x21020 N w3 w4 w5 w7 w8 w9 w14 w15 w16).bind k0 := by
 unfold G308x0x21020 F308x0x21020
 repeat' (first | with_reducible apply cond_b | (with_reducible apply bnd_b; intro _) | rfl)
def J308x0x21020 (L : List Lf) (k0 : Int → Option R) : Option R := F308x0x21020 N (li L 3) (li L 4) (lb L 5) (li L 7) (li L 8) (li L 9) (li L 14) (li L 15) (li L 16) k0
def sh308x0x21020 : Sh := { tmps := [(4, .c (.p 4 0)), (3, .c (.p 3 0)), (7, .c (.i .i64)), (2, .c (.i .i64)), (8, .c (.b)), (20, .c (.i .i64)), (9, .c (.i .i64)), (21, .c (.b))], mem := [(4, .box (rI 7 ([]))), (3, .box (rI 7 ([])))] }
def K308x0x21020w0 (L : List Lf) (p : Int) : Ex × St := (.normal, mg (ofSh sh308x0x21020 L) [7, 3, 2, 9, 8] [(9, .c (.i .i64 p))] [3] [])
def A308x0x21020 (L : List Lf) : List (Bool × (Ex × St)) := bnd (J308x0x21020 N L (fun p => some p)) fun q => [(q.isSome, K308x0x21020w0 L (q.getD default))]
theorem raw308x0x21020 (L : List Lf) : pc Tryz.prog (T373x0 N) (h308x0s1 N).h 0 100 308 21020 sh308x0x21020 L [7, 3, 2, 9, 8] [3] = J308x0x21020 N L (fun p => some (K308x0x21020w0 L p)) := by kernel_rfl
def h308x0s2 : Sg Tryz.prog 0 308 :=
 (h308x0s1 N).cut (A308x0x21020 N) progOk (T373x0_ok N) fun L x hx => (raw308x0x21020 N L).trans ((bind308x0x21020 N ..).trans (alt1 x hx))
def F308x0x47 (N : Nat) (w0 w1 w2 w7 : Int) (w8 : Bool) (k0 : Int → Option R) : Option R :=
 bif w8 then
  bif (!(w2 == 0)) then
   bnd (IntKind.wrap .i64 ((IntKind.wrap .i64 (w0 * (IntKind.wrap .i64 (w1 + 1)))).tdiv w2)) fun y0 =>
   bif (!(w2 == 0)) then
    bnd (IntKind.wrap .i64 (y0 - (IntKind.wrap .i64 ((IntKind.wrap .i64 (w0 * w1)).tdiv w2)))) fun y1 =>
    k0 y1
   else
    none
  else
   none
 else
  k0 w7
def G308x0x47 (w0 w1 w2 w7 : Int) (w8 : Bool) : Option (Int) := F308x0x47 N w0 w1 w2 w7 w8 (fun p => some p)
theorem bind308x0x47 (w0 w1 w2 w7 : Int) (w8 : Bool) (k0 : Int → Option R) : F308x0x47 N w0 w1 w2 w7 w8 k0 = (G308x0x47 N w0 w1 w2 w7 w8).bind k0 := by
 unfold G308x0x47 F308x0x47
 repeat' (first | with_reducible apply cond_b | (with_reducible apply bnd_b; intro _) | rfl)
def J308x0x47 (L : List Lf) (k0 : Int → Option R) : Option R := F308x0x47 N (li L 0) (li L 1) (li L 2) (li L 7) (lb L 8) k0
def sh308x0x47 : Sh := { tmps := [(9, .c (.i .i64)), (11, .c (.i .i64)), (7, .c (.i .i64)), (8, .c (.b)), (2, .c (.i .i64)), (10, .c (.o 10)), (56, .c (.i .i64)), (55, .c (.i .i64)), (3, .c (.p 3 0)), (12, .c (.i .i64)), (63, .c (.b))], mem := [(10, .row 3 true), (3, .box (rI 7 ([])))] }
def K308x0x47w0 (L : List Lf) (p : Int) : Ex × St := (.normal, mg (ofSh sh308x0x47 L) [8, 2, 10, 56, 55, 3, 9, 7, 12] [(12, .c (.i .i64 p))] [3, 10] [])
def A308x0x47 (L : List Lf) : List (Bool × (Ex × St)) := bnd (J308x0x47 N L (fun p => some p)) fun q => [(q.isSome, K308x0x47w0 L (q.getD default))]
theorem raw308x0x47 (L : List Lf) : pc Tryz.prog (T373x0 N) (h308x0s2 N).h 0 100 308 47 sh308x0x47 L [8, 2, 10, 56, 55, 3, 9, 7, 12] [3, 10] = J308x0x47 N L (fun p => some (K308x0x47w0 L p)) := by kernel_rfl
def h308x0s3 : Sg Tryz.prog 0 308 :=
 (h308x0s2 N).cut (A308x0x47 N) progOk (T373x0_ok N) fun L x hx => (raw308x0x47 N L).trans ((bind308x0x47 N ..).trans (alt1 x hx))
def F308x0x59 (N : Nat) (w6 : Int) (w7 : Bool) (k0 : Int → R) : R :=
 bif w7 then
  k0 0
 else
  k0 w6
def V308x0x59 (w6 : Int) (w7 : Bool) : Int := F308x0x59 N w6 w7 (fun p => p)
theorem tot308x0x59 (w6 : Int) (w7 : Bool) (k0 : Int → R) : F308x0x59 N w6 w7 k0 = k0 (V308x0x59 N w6 w7) := by
 unfold V308x0x59 F308x0x59
 repeat' (first | rfl | apply cond_k | (apply bnd_k; intro _))
def sh308x0x59 : Sh := { tmps := [(10, .c (.o 10)), (56, .c (.i .i64)), (55, .c (.i .i64)), (3, .c (.p 3 0)), (2, .c (.i .i64)), (9, .c (.i .i64)), (7, .c (.i .i64)), (8, .c (.b)), (12, .c (.i .i64)), (78, .c (.b))], mem := [(3, .box (rI 7 ([]))), (10, .row 3 true)] }
def K308x0x59w0 (L : List Lf) (p : Int) : Ex × St := (.normal, mg (ofSh sh308x0x59 L) [10, 12, 56, 55, 3, 2, 9, 7, 8] [(12, .c (.i .i64 p))] [3, 10] [])
def A308x0x59 (L : List Lf) : List (Bool × (Ex × St)) := bnd (F308x0x59 N (li L 6) (lb L 7) (fun p => p)) fun q => [(true, K308x0x59w0 L q)]
theorem raw308x0x59 (L : List Lf) : pc Tryz.prog (T373x0 N) (h308x0s3 N).h 0 100 308 59 sh308x0x59 L [10, 12, 56, 55, 3, 2, 9, 7, 8] [3, 10] = F308x0x59 N (li L 6) (lb L 7) (fun p => some (K308x0x59w0 L p)) := by kernel_rfl
def h308x0s4 : Sg Tryz.prog 0 308 :=
 (h308x0s3 N).cut (A308x0x59 N) progOk (T373x0_ok N) fun L x hx => (raw308x0x59 N L).trans ((tot308x0x59 N ..).trans (alt0 _ _ hx))
def F308x0x53 (w0 w6 : Int) (w7 : Bool) (k0 : Int → R) : R :=
 bif w7 then
  bnd (V308x0x59 N (-1) (decide (w0 ≥ 4))) fun y0 =>
  k0 y0
 else
  k0 w6
def V308x0x53 (w0 w6 : Int) (w7 : Bool) : Int := F308x0x53 N w0 w6 w7 (fun p => p)
theorem tot308x0x53 (w0 w6 : Int) (w7 : Bool) (k0 : Int → R) : F308x0x53 N w0 w6 w7 k0 = k0 (V308x0x53 N w0 w6 w7) := by
 unfold V308x0x53 F308x0x53
 repeat' (first | rfl | apply cond_k | (apply bnd_k; intro _))
def sh308x0x53 : Sh := { tmps := [(2, .c (.i .i64)), (10, .c (.o 10)), (56, .c (.i .i64)), (55, .c (.i .i64)), (3, .c (.p 3 0)), (9, .c (.i .i64)), (7, .c (.i .i64)), (8, .c (.b)), (12, .c (.i .i64)), (76, .c (.b))], mem := [(3, .box (rI 7 ([]))), (10, .row 3 true)] }
def K308x0x53w0 (L : List Lf) (p : Int) : Ex × St := (.normal, mg (ofSh sh308x0x53 L) [10, 12, 56, 55, 3, 2, 9, 7, 8] [(12, .c (.i .i64 p))] [3, 10] [])
def A308x0x53 (L : List Lf) : List (Bool × (Ex × St)) := bnd (F308x0x53 N (li L 0) (li L 6) (lb L 7) (fun p => p)) fun q => [(true, K308x0x53w0 L q)]
theorem raw308x0x53 (L : List Lf) : pc Tryz.prog (T373x0 N) (h308x0s4 N).h 0 100 308 53 sh308x0x53 L [10, 12, 56, 55, 3, 2, 9, 7, 8] [3, 10] = F308x0x53 N (li L 0) (li L 6) (lb L 7) (fun p => some (K308x0x53w0 L p)) := by kernel_rfl
def h308x0s5 : Sg Tryz.prog 0 308 :=
 (h308x0s4 N).cut (A308x0x53 N) progOk (T373x0_ok N) fun L x hx => (raw308x0x53 N L).trans ((tot308x0x53 N ..).trans (alt0 _ _ hx))
def S308x0x33 (w1 w2 w3 w4 : Int) (w5 : Bool) (w10 w11 w12 : Int) (w0 : Int) (w13 : Bool) (w14 : LD) (kr : Int → Bool → LD → Option R) (k0 : Bool × LD → Option R) : Option R :=
 bif (decide (w0 < w1)) then
  bnd (V373x0 N w10 w11 w12 w2) fun y0 =>
  bnd (G308x0x47 N w3 w0 w4 y0 (decide (w2 ≥ 4))) fun y1 =>
  bif y1.isSome then
   bnd (V308x0x53 N w2 (y1.getD default) w5) fun y2 =>
   bif (decide ((w14.length + 1) * 8 ≤ room) && decide ((w14.length + 1) ≤ strMax)) then
    kr (IntKind.wrap .i64 (w0 + 1)) false (w14 ++ [(.i y2)])
   else
    none
  else
   none
 else
  k0 (w13, w14)
def L308x0x33 (N : Nat) {R : Type} (w1 w2 w3 w4 : Int) (w5 : Bool) (w10 w11 w12 : Int) : Nat → Int → Bool → LD → (Bool × LD → Option R) → Option R
 | 0, _, _, _, _ => none
 | m + 1, w0, w13, w14, k0 => S308x0x33 N w1 w2 w3 w4 w5 w10 w11 w12 w0 w13 w14 (fun w0 w13 w14 => L308x0x33 N w1 w2 w3 w4 w5 w10 w11 w12 m w0 w13 w14 k0) k0
def G308x0x33 (w1 w2 w3 w4 : Int) (w5 : Bool) (w10 w11 w12 : Int) (w0 : Int) (w13 : Bool) (w14 : LD) : Option (Bool × LD) := L308x0x33 N (R := (Bool × LD)) w1 w2 w3 w4 w5 w10 w11 w12 N w0 w13 w14 (fun p => some p)
def J308x0x33 (L x : List Lf) (kr : List Lf → Option R) (k0 : Bool × LD → Option R) : Option R := S308x0x33 N (li L 1) (li L 2) (li L 3) (li L 4) (lb L 5) (li L 10) (li L 11) (li L 12) (li x 0) (lb x 1) (ll x 2) (fun w0 w13 w14 => kr [.i w0, .b w13, .l w14]) k0
theorem sb308x0x33 (L x : List Lf) (kr : List Lf → Option R) (k0 : Bool × LD → Option R) : J308x0x33 N L x kr k0 = (J308x0x33 N L x (fun y => some (.inl y)) (fun p => some (.inr p))).bind (sumE kr k0) := by
 unfold J308x0x33 S308x0x33
 repeat' (first | with_reducible apply cond_b | (with_reducible apply bnd_b; intro _) | rfl)
def Q308x0x33 (L : List Lf) (m : Nat) (x : List Lf) : Option (Bool × LD) := L308x0x33 N (R := (Bool × LD)) (li L 1) (li L 2) (li L 3) (li L 4) (lb L 5) (li L 10) (li L 11) (li L 12) m (li x 0) (lb x 1) (ll x 2) (fun p => some p)
def sh308x0x33 : Sh := { tmps := [(56, .c (.i .i64)), (55, .c (.i .i64)), (3, .c (.p 3 0)), (2, .c (.i .i64)), (9, .c (.i .i64)), (7, .c (.i .i64)), (8, .c (.b)), (10, .c (.o 10))], mem := [(3, .box (rI 7 ([]))), (10, .row 3 true)] }
def K308x0x33w0 (L : List Lf) (p : Bool × LD) : Ex × St := ((.exit 1), ⟨[(10, .c (.o 10))], [(10, .row 3 true p.1 p.2)]⟩)
def A308x0x33 (L : List Lf) : List (Bool × (Ex × St)) := bnd (Q308x0x33 N L N (pk sh308x0x33 [0, 13, 14] L)) fun q => [(q.isSome, K308x0x33w0 L (q.getD default))]
theorem step308x0x33 (m : Nat) (kn : St → Option (Ex × St)) (L x : List Lf) : lpB Tryz.prog (T373x0 N) (h308x0s5 N).h 0 308 33 sh308x0x33 [0, 13, 14] [6, 10] [10] (m + 100) kn L x = J308x0x33 N L x (fun y => kn (ofSh sh308x0x33 (mx sh308x0x33 [0, 13, 14] L y))) (fun p => some (K308x0x33w0 L p)) := by kernel_rfl
theorem ql308x0x33 (L : List Lf) (m : Nat) (x : List Lf) : Q308x0x33 N L (m + 1) x = J308x0x33 N L x (Q308x0x33 N L m) some := by kernel_rfl
def h308x0s6 : Sg Tryz.prog 0 308 :=
 (h308x0s5 N).lp (A308x0x33 N) N progOk (T373x0_ok N) (fun m kn L x => (step308x0x33 N m kn L x).trans (sb308x0x33 N L x _ _)) (fun L m x => (ql308x0x33 N L m x).trans (sb308x0x33 N L x (Q308x0x33 N L m) some)) fun L x hx => alt1 x hx
def F308x0 (v0 v1 v2 v3 v4 v5 v6 v7 v8 v9 v10 v14 : Int) (k0 : Bool × LD → Option R) : Option R :=
 bnd (G308x0x21020 N v14 0 (v14 == 4) v8 v9 v10 v1 v2 v3) fun y0 =>
 bif y0.isSome then
  bnd (G308x0x33 N (IntKind.wrap .i64 (v7 - v0)) v14 (y0.getD default) (IntKind.wrap .i64 (v7 - v0)) (decide ((IntKind.wrap .i64 (v7 - v0)) > 60)) v4 v5 v6 0 true []) fun y1 =>
  bif y1.isSome then
   k0 (y1.getD default)
  else
   none
 else
  none
def G308x0 (v0 v1 v2 v3 v4 v5 v6 v7 v8 v9 v10 v14 : Int) : Option (Bool × LD) := F308x0 N v0 v1 v2 v3 v4 v5 v6 v7 v8 v9 v10 v14 (fun p => some p)
theorem bind308x0 (v0 v1 v2 v3 v4 v5 v6 v7 v8 v9 v10 v14 : Int) (k0 : Bool × LD → Option R) : F308x0 N v0 v1 v2 v3 v4 v5 v6 v7 v8 v9 v10 v14 k0 = (G308x0 N v0 v1 v2 v3 v4 v5 v6 v7 v8 v9 v10 v14).bind k0 := by
 unfold G308x0 F308x0
 repeat' (first | with_reducible apply cond_b | (with_reducible apply bnd_b; intro _) | rfl)
def J308x0 (L : List Lf) (k0 : Bool × LD → Option R) : Option R := F308x0 N (li L 0) (li L 1) (li L 2) (li L 3) (li L 4) (li L 5) (li L 6) (li L 7) (li L 8) (li L 9) (li L 10) (li L 14) k0
def sh308x0 : Sh := { tmps := [(0, .g (rI 7 ([]))), (1, .g (rI 7 ([]))), (2, .c (.i .i64))], mem := [] }
def A308x0 (L : List Lf) : List (Bool × Res) := bnd (J308x0 N L (fun p => some p)) fun q => [(q.isSome, ([.c (.sl 3 (q.getD default).1 (q.getD default).2)], []))]
theorem raw308x0 (L : List Lf) : bd Tryz.prog (T373x0 N) (h308x0s6 N).h 308 sh308x0 L = J308x0 N L (fun p => some ([.c (.sl 3 p.1 p.2)], [])) := by kernel_rfl
theorem ok308x0 : FnOk Tryz.prog 308 sh308x0 (A308x0 N) :=
 (h308x0s6 N).fn progOk (T373x0_ok N) fun L x hx => ((raw308x0 N L).trans ((bind308x0 N ..).trans (alt1 x hx)))
def T308x0 : Oracle := ext 308 (spSh sh308x0 (A308x0 N)) (T373x0 N)
theorem T308x0_ok : OracleOk Tryz.prog (T308x0 N) := FnOk.to (ok308x0 N) (T373x0_ok N)
def rg271x0 : List (Nat × List Nat) := [(0, [0, 1]), (1, [2, 1]), (2, [6, 1, 2]), (3, [6]), (4, [1, 2]), (5, []), (6, [2, 1]), (7, [2, 7, 1]), (8, [8, 2, 7, 1]), (10, [7, 2, 8, 1]), (9, [8, 2, 7, 1]), (11, [7])]
def hd271x0 : Hints := [(24, [8, 2, 7, 1], [2, 7], [7])]
def h271x0s0 (N : Nat) : Sg Tryz.prog 0 271 := .start hd271x0 rg271x0
def S271x0x24 (w1 : Int) (w6 : LD) (w0 : Int) (w11 : Bool) (w12 : LD) (kr : Int → Bool → LD → Option R) (k0 : Bool × LD → Option R) : Option R :=
 bif (decide (w0 < (w6.length : Int))) then
  bif (inB (IntKind.wrap .i64 (w0 - 1)) w6.length) then
   bnd ((w6.getD (IntKind.wrap .i64 (w0 - 1)).toNat (.i 0)).cell 0).toI fun y0 =>
   bnd ((w6.getD (IntKind.wrap .i64 (w0 - 1)).toNat (.i 0)).cell 1).toI fun y1 =>
   bnd ((w6.getD (IntKind.wrap .i64 (w0 - 1)).toNat (.i 0)).cell 2).toI fun y2 =>
   bnd ((w6.getD (IntKind.wrap .i64 (w0 - 1)).toNat (.i 0)).cell 3).toI fun y3 =>
   bnd ((w6.getD (IntKind.wrap .i64 (w0 - 1)).toNat (.i 0)).cell 4).toI fun y4 =>
   bnd ((w6.getD (IntKind.wrap .i64 (w0 - 1)).toNat (.i 0)).cell 5).toI fun y5 =>
   bnd ((w6.getD (IntKind.wrap .i64 (w0 - 1)).toNat (.i 0)).cell 6).toI fun y6 =>
   bif (inB w0 w6.length) then
    bnd (G308x0 N y0 y1 y2 y3 y4 y5 y6 ((w6.getD w0.toNat (.i 0)).cell 0).toI ((w6.getD w0.toNat (.i 0)).cell 1).toI ((w6.getD w0.toNat (.i 0)).cell 2).toI ((w6.getD w0.toNat (.i 0)).cell 3).toI w1) fun y7 =>
    bif y7.isSome then
     bif (decide ((w12.length + (y7.getD default).2.length) * 8 ≤ room) && decide ((w12.length + (y7.getD default).2.length) ≤ strMax)) then
      kr (IntKind.wrap .i64 (w0 + 1)) ((y7.getD default).2.isEmpty && w11) (w12 ++ (y7.getD default).2)
     else
      none
    else
     none
   else
    none
  else
   none
 else
  k0 (w11, w12)
def L271x0x24 (N : Nat) {R : Type} (w1 : Int) (w6 : LD) : Nat → Int → Bool → LD → (Bool × LD → Option R) → Option R
 | 0, _, _, _, _ => none
 | m + 1, w0, w11, w12, k0 => S271x0x24 N w1 w6 w0 w11 w12 (fun w0 w11 w12 => L271x0x24 N w1 w6 m w0 w11 w12 k0) k0
def G271x0x24 (w1 : Int) (w6 : LD) (w0 : Int) (w11 : Bool) (w12 : LD) : Option (Bool × LD) := L271x0x24 N (R := (Bool × LD)) w1 w6 N w0 w11 w12 (fun p => some p)
def J271x0x24 (L x : List Lf) (kr : List Lf → Option R) (k0 : Bool × LD → Option R) : Option R := S271x0x24 N (li L 1) (ll L 6) (li x 0) (lb x 1) (ll x 2) (fun w0 w11 w12 => kr [.i w0, .b w11, .l w12]) k0
theorem sb271x0x24 (L x : List Lf) (kr : List Lf → Option R) (k0 : Bool × LD → Option R) : J271x0x24 N L x kr k0 = (J271x0x24 N L x (fun y => some (.inl y)) (fun p => some (.inr p))).bind (sumE kr k0) := by
 unfold J271x0x24 S271x0x24
 repeat' (first | with_reducible apply cond_b | (with_reducible apply bnd_b; intro _) | rfl)
def Q271x0x24 (L : List Lf) (m : Nat) (x : List Lf) : Option (Bool × LD) := L271x0x24 N (R := (Bool × LD)) (li L 1) (ll L 6) m (li x 0) (lb x 1) (ll x 2) (fun p => some p)
def sh271x0x24 : Sh := { tmps := [(8, .c (.i .i64)), (2, .c (.p 2 0)), (7, .c (.o 7)), (1, .c (.i .i64))], mem := [(2, .box (.s :: [.i .i64, .i .i64, .sl 216, .sl 219, .sl 9])), (7, .row 3 true)] }
def A271x0x24 (L : List Lf) : List (Bool × (Ex × St)) := bnd (Q271x0x24 N L N (pk sh271x0x24 [0, 11, 12] L)) fun q => [(q.isSome, ((.exit 0), ⟨[(7, .c (.o 7))], [(7, .row 3 true (q.getD default).1 (q.getD default).2)]⟩))]
theorem step271x0x24 (m : Nat) (kn : St → Option (Ex × St)) (L x : List Lf) : lpB Tryz.prog (T308x0 N) (h271x0s0 N).h 0 271 24 sh271x0x24 [0, 11, 12] [4, 5, 7] [7] (m + 100) kn L x = J271x0x24 N L x (fun y => kn (ofSh sh271x0x24 (mx sh271x0x24 [0, 11, 12] L y))) (fun p => some ((.exit 0), ⟨[(7, .c (.o 7))], [(7, .row 3 true p.1 p.2)]⟩)) := by kernel_rfl
theorem ql271x0x24 (L : List Lf) (m : Nat) (x : List Lf) : Q271x0x24 N L (m + 1) x = J271x0x24 N L x (Q271x0x24 N L m) some := by kernel_rfl
def h271x0s1 : Sg Tryz.prog 0 271 :=
 (h271x0s0 N).lp (A271x0x24 N) N progOk (T308x0_ok N) (fun m kn L x => (step271x0x24 N m kn L x).trans (sb271x0x24 N L x _ _)) (fun L m x => (ql271x0x24 N L m x).trans (sb271x0x24 N L x (Q271x0x24 N L m) some)) fun L x hx => alt1 x hx
def F271x0 (v0 : LB) (v1 v2 : Int) (v4 v6 v8 : LD) (v9 : Int) (k0 : Bool × LD × Int → Option R) : Option R :=
 bnd (G113x0 N v0 v1 v2 v4 v6 v8) fun y0 =>
 bif y0.isSome then
  bif ((y0.getD default) != 0) then
   k0 (true, [], (y0.getD default))
  else
   bif (bif (decide (v9 < 1)) then true else (decide (v9 > 5))) then
    k0 (true, [], 7)
   else
    bnd (G271x0x24 N v9 v4 1 true []) fun y1 =>
    bif y1.isSome then
     k0 ((y1.getD default).1, (y1.getD default).2, 0)
    else
     none
 else
  none
def G271x0 (v0 : LB) (v1 v2 : Int) (v4 v6 v8 : LD) (v9 : Int) : Option (Bool × LD × Int) := F271x0 N v0 v1 v2 v4 v6 v8 v9 (fun p => some p)
theorem bind271x0 (v0 : LB) (v1 v2 : Int) (v4 v6 v8 : LD) (v9 : Int) (k0 : Bool × LD × Int → Option R) : F271x0 N v0 v1 v2 v4 v6 v8 v9 k0 = (G271x0 N v0 v1 v2 v4 v6 v8 v9).bind k0 := by
 unfold G271x0 F271x0
 repeat' (first | with_reducible apply cond_b | (with_reducible apply bnd_b; intro _) | rfl)
def J271x0 (L : List Lf) (k0 : Bool × LD × Int → Option R) : Option R := F271x0 N (ls L 0) (li L 1) (li L 2) (ll L 4) (ll L 6) (ll L 8) (li L 9) k0
def sh271x0 : Sh := { tmps := [(0, .g (.s :: [.i .i64, .i .i64, .sl 216, .sl 219, .sl 9])), (1, .c (.i .i64))], mem := [] }
def A271x0 (L : List Lf) : List (Bool × Res) := bnd (J271x0 N L (fun p => some p)) fun q => [(q.isSome, ([.c (.sl 3 (q.getD default).1 (q.getD default).2.1), .c (.i .i64 (q.getD default).2.2)], []))]
theorem raw271x0 (L : List Lf) : bd Tryz.prog (T308x0 N) (h271x0s1 N).h 271 sh271x0 L = J271x0 N L (fun p => some ([.c (.sl 3 p.1 p.2.1), .c (.i .i64 p.2.2)], [])) := by kernel_rfl
theorem ok271x0 : FnOk Tryz.prog 271 sh271x0 (A271x0 N) :=
 (h271x0s1 N).fn progOk (T308x0_ok N) fun L x hx => ((raw271x0 N L).trans ((bind271x0 N ..).trans (alt1 x hx)))
def T271x0 : Oracle := ext 271 (spSh sh271x0 (A271x0 N)) (T308x0 N)
theorem T271x0_ok : OracleOk Tryz.prog (T271x0 N) := FnOk.to (ok271x0 N) (T308x0_ok N)
def rg209x0 : List (Nat × List Nat) := [(0, [0]), (1, [1, 2]), (2, [1, 3, 2]), (3, [4, 1, 3, 2]), (5, [4, 1, 3, 2]), (4, [4, 1, 3, 2]), (6, [3, 2])]
def hd209x0 : Hints := []
def h209x0s0 (N : Nat) : Sg Tryz.prog 0 209 := .start hd209x0 rg209x0
def F209x0 (v0 : LB) (v1 v2 : Int) (v4 v6 v8 : LD) (k0 : Ty0 → Option R) : Option R :=
 bnd (G271x0 N v0 v1 v2 v4 v6 v8 1) fun y0 =>
 bif y0.isSome then
  bnd (G271x0 N v0 v1 v2 v4 v6 v8 2) fun y1 =>
  bif y1.isSome then
   bnd (G271x0 N v0 v1 v2 v4 v6 v8 3) fun y2 =>
   bif y2.isSome then
    bnd (G271x0 N v0 v1 v2 v4 v6 v8 4) fun y3 =>
    bif y3.isSome then
     bnd (G271x0 N v0 v1 v2 v4 v6 v8 5) fun y4 =>
     bif y4.isSome then
      k0 ((y0.getD default).1, (y0.getD default).2.1, (y1.getD default).1, (y1.getD default).2.1, (y2.getD default).1, (y2.getD default).2.1, (y3.getD default).1, (y3.getD default).2.1, (y4.getD default).1, (y4.getD default).2.1)
     else
      none
    else
     none
   else
    none
  else
   none
 else
  none
def G209x0 (v0 : LB) (v1 v2 : Int) (v4 v6 v8 : LD) : Option (Ty0) := F209x0 N v0 v1 v2 v4 v6 v8 (fun p => some p)
theorem bind209x0 (v0 : LB) (v1 v2 : Int) (v4 v6 v8 : LD) (k0 : Ty0 → Option R) : F209x0 N v0 v1 v2 v4 v6 v8 k0 = (G209x0 N v0 v1 v2 v4 v6 v8).bind k0 := by
 unfold G209x0 F209x0
 repeat' (first | with_reducible apply cond_b | (with_reducible apply bnd_b; intro _) | rfl)
def J209x0 (L : List Lf) (k0 : Ty0 → Option R) : Option R := F209x0 N (ls L 0) (li L 1) (li L 2) (ll L 4) (ll L 6) (ll L 8) k0
def sh209x0 : Sh := { tmps := [(0, .g (.s :: [.i .i64, .i .i64, .sl 216, .sl 219, .sl 9]))], mem := [] }
def K209x0w0 (L : List Lf) (p : Ty0) : Res := let p1 := p.2; let p2 := p1.2; let p3 := p2.2; let p4 := p3.2; let p5 := p4.2; let p6 := p5.2; let p7 := p6.2; let p8 := p7.2; let p9 := p8.2; ([.g [.sl 3 true [], .sl 3 p.1 p1.1, .sl 3 p2.1 p3.1, .sl 3 p4.1 p5.1, .sl 3 p6.1 p7.1, .sl 3 p8.1 p9]], [])
def A209x0 (L : List Lf) : List (Bool × Res) := bnd (J209x0 N L (fun p => some p)) fun q => [(q.isSome, K209x0w0 L (q.getD default))]
theorem raw209x0 (L : List Lf) : bd Tryz.prog (T271x0 N) (h209x0s0 N).h 209 sh209x0 L = J209x0 N L (fun p => some (K209x0w0 L p)) := by kernel_rfl
theorem ok209x0 : FnOk Tryz.prog 209 sh209x0 (A209x0 N) :=
 (h209x0s0 N).fn progOk (T271x0_ok N) fun L x hx => ((raw209x0 N L).trans ((bind209x0 N ..).trans (alt1 x hx)))
def T209x0 : Oracle := ext 209 (spSh sh209x0 (A209x0 N)) (T271x0 N)
theorem T209x0_ok : OracleOk Tryz.prog (T209x0 N) := FnOk.to (ok209x0 N) (T271x0_ok N)
def rg270x0 : List (Nat × List Nat) := [(0, [0]), (1, [0, 2, 3]), (2, [8, 7, 6, 2, 3]), (3, [6, 8, 2, 3, 7]), (4, [5, 2, 3, 8, 7, 6]), (5, [2, 5, 3, 8, 7, 6]), (6, [8, 7, 6, 2, 3]), (7, [2, 3])]
def hd270x0 : Hints := [(6, [8, 7, 6, 2, 3], [], []), (17, [2, 5, 3, 8, 7, 6, 13], [], [])]
def h270x0s0 (N : Nat) : Sg Tryz.prog 0 270 := .start hd270x0 rg270x0
def F270x0x17 (N : Nat) (w0 w1 w2 : Int) (w7 : Bool) (k0 : Int × Int → R) : R :=
 bif w7 then
  k0 ((IntKind.wrap .i64 (w0 + w1)), (IntKind.wrap .i64 (w2 + 1)))
 else
  k0 (w0, w2)
def V270x0x17 (w0 w1 w2 : Int) (w7 : Bool) : Int × Int := F270x0x17 N w0 w1 w2 w7 (fun p => p)
theorem tot270x0x17 (w0 w1 w2 : Int) (w7 : Bool) (k0 : Int × Int → R) : F270x0x17 N w0 w1 w2 w7 k0 = k0 (V270x0x17 N w0 w1 w2 w7) := by
 unfold V270x0x17 F270x0x17
 repeat' (first | rfl | apply cond_k | (apply bnd_k; intro _))
def J270x0x17 (L : List Lf) (k0 : Int × Int → R) : R := F270x0x17 N (li L 0) (li L 1) (li L 2) (lb L 7) k0
def sh270x0x17 : Sh := { tmps := [(2, .c (.i .i64)), (5, .c (.i .i64)), (3, .c (.i .i64)), (8, .c (.i .i64)), (7, .c (.i .i64)), (6, .c (.sl 3)), (13, .c (.b))], mem := [] }
def K270x0x17w0 (L : List Lf) (p : Int × Int) : Ex × St := (.normal, mg (ofSh sh270x0x17 L) [8, 7, 6, 2, 3] [(2, .c (.i .i64 p.1)), (3, .c (.i .i64 p.2))] [] [])
def A270x0x17 (L : List Lf) : List (Bool × (Ex × St)) := bnd (J270x0x17 N L (fun p => p)) fun q => [(true, K270x0x17w0 L q)]
theorem raw270x0x17 (L : List Lf) : pc Tryz.prog (T209x0 N) (h270x0s0 N).h 0 100 270 17 sh270x0x17 L [8, 7, 6, 2, 3] [] = J270x0x17 N L (fun p => some (K270x0x17w0 L p)) := by kernel_rfl
def h270x0s1 : Sg Tryz.prog 0 270 :=
 (h270x0s0 N).cut (A270x0x17 N) progOk (T209x0_ok N) fun L x hx => (raw270x0x17 N L).trans ((tot270x0x17 N ..).trans (alt0 _ _ hx))
def S270x0x6 (w1 : Int) (w3 : LD) (w0 w4 w5 : Int) (kr : Int → Int → Int → Option R) (k0 : Int × Int → Option R) : Option R :=
 bif (decide (w0 < w1)) then
  bif (inB w0 w3.length) then
   bnd (V270x0x17 N w4 (w3.getD w0.toNat (.i 0)).toI w5 (decide ((w3.getD w0.toNat (.i 0)).toI ≥ 0))) fun y0 =>
   kr (IntKind.wrap .i64 (w0 + 1)) y0.1 y0.2
  else
   none
 else
  k0 (w4, w5)
def L270x0x6 (N : Nat) {R : Type} (w1 : Int) (w3 : LD) : Nat → Int → Int → Int → (Int × Int → Option R) → Option R
 | 0, _, _, _, _ => none
 | m + 1, w0, w4, w5, k0 => S270x0x6 N w1 w3 w0 w4 w5 (fun w0 w4 w5 => L270x0x6 N w1 w3 m w0 w4 w5 k0) k0
def G270x0x6 (w1 : Int) (w3 : LD) (w0 w4 w5 : Int) : Option (Int × Int) := L270x0x6 N (R := (Int × Int)) w1 w3 N w0 w4 w5 (fun p => some p)
def J270x0x6 (L x : List Lf) (kr : List Lf → Option R) (k0 : Int × Int → Option R) : Option R := S270x0x6 N (li L 1) (ll L 3) (li x 0) (li x 1) (li x 2) (fun w0 w4 w5 => kr [.i w0, .i w4, .i w5]) k0
theorem sb270x0x6 (L x : List Lf) (kr : List Lf → Option R) (k0 : Int × Int → Option R) : J270x0x6 N L x kr k0 = (J270x0x6 N L x (fun y => some (.inl y)) (fun p => some (.inr p))).bind (sumE kr k0) := by
 unfold J270x0x6 S270x0x6
 repeat' (first | with_reducible apply cond_b | (with_reducible apply bnd_b; intro _) | rfl)
def Q270x0x6 (L : List Lf) (m : Nat) (x : List Lf) : Option (Int × Int) := L270x0x6 N (R := (Int × Int)) (li L 1) (ll L 3) m (li x 0) (li x 1) (li x 2) (fun p => some p)
def sh270x0x6 : Sh := { tmps := [(8, .c (.i .i64)), (7, .c (.i .i64)), (6, .c (.sl 3)), (2, .c (.i .i64)), (3, .c (.i .i64))], mem := [] }
def K270x0x6w0 (L : List Lf) (p : Int × Int) : Ex × St := ((.exit 0), ⟨[(2, .c (.i .i64 p.1)), (3, .c (.i .i64 p.2))], []⟩)
def A270x0x6 (L : List Lf) : List (Bool × (Ex × St)) := bnd (Q270x0x6 N L N (pk sh270x0x6 [0, 4, 5] L)) fun q => [(q.isSome, K270x0x6w0 L (q.getD default))]
theorem step270x0x6 (m : Nat) (kn : St → Option (Ex × St)) (L x : List Lf) : lpB Tryz.prog (T209x0 N) (h270x0s1 N).h 0 270 6 sh270x0x6 [0, 4, 5] [2, 3] [] (m + 100) kn L x = J270x0x6 N L x (fun y => kn (ofSh sh270x0x6 (mx sh270x0x6 [0, 4, 5] L y))) (fun p => some (K270x0x6w0 L p)) := by kernel_rfl
theorem ql270x0x6 (L : List Lf) (m : Nat) (x : List Lf) : Q270x0x6 N L (m + 1) x = J270x0x6 N L x (Q270x0x6 N L m) some := by kernel_rfl
def h270x0s2 : Sg Tryz.prog 0 270 :=
 (h270x0s1 N).lp (A270x0x6 N) N progOk (T209x0_ok N) (fun m kn L x => (step270x0x6 N m kn L x).trans (sb270x0x6 N L x _ _)) (fun L m x => (ql270x0x6 N L m x).trans (sb270x0x6 N L x (Q270x0x6 N L m) some)) fun L x hx => alt1 x hx
def F270x0 (v1 : LD) (k0 : Int × Int → Option R) : Option R :=
 bnd (G270x0x6 N (v1.length : Int) v1 0 0 0) fun y0 =>
 bif y0.isSome then
  k0 (y0.getD default)
 else
  none
def G270x0 (v1 : LD) : Option (Int × Int) := F270x0 N v1 (fun p => some p)
theorem bind270x0 (v1 : LD) (k0 : Int × Int → Option R) : F270x0 N v1 k0 = (G270x0 N v1).bind k0 := by
 unfold G270x0 F270x0
 repeat' (first | with_reducible apply cond_b | (with_reducible apply bnd_b; intro _) | rfl)
def sh270x0 : Sh := { tmps := [(0, .c (.sl 3))], mem := [] }
def A270x0 (L : List Lf) : List (Bool × Res) := bnd (F270x0 N (ll L 1) (fun p => some p)) fun q => [(q.isSome, ([.c (.i .i64 (q.getD default).1), .c (.i .i64 (q.getD default).2)], []))]
theorem raw270x0 (L : List Lf) : bd Tryz.prog (T209x0 N) (h270x0s2 N).h 270 sh270x0 L = F270x0 N (ll L 1) (fun p => some ([.c (.i .i64 p.1), .c (.i .i64 p.2)], [])) := by kernel_rfl
theorem ok270x0 : FnOk Tryz.prog 270 sh270x0 (A270x0 N) :=
 (h270x0s2 N).fn progOk (T209x0_ok N) fun L x hx => ((raw270x0 N L).trans ((bind270x0 N ..).trans (alt1 x hx)))
def T270x0 : Oracle := ext 270 (spSh sh270x0 (A270x0 N)) (T209x0 N)
theorem T270x0_ok : OracleOk Tryz.prog (T270x0 N) := FnOk.to (ok270x0 N) (T209x0_ok N)
def rg208x0 : List (Nat × List Nat) := [(0, [0, 1, 2]), (1, [1, 2, 3, 6]), (2, [3, 1, 2, 7, 6]), (3, [3, 1, 2, 7, 6]), (4, [3, 1, 2, 7, 6]), (5, [3, 1, 2, 7, 6]), (6, [3, 1, 2, 7, 6]), (7, [7, 6])]
def hd208x0 : Hints := []
def h208x0s0 (N : Nat) : Sg Tryz.prog 0 208 := .start hd208x0 rg208x0
def F208x0 (v3 v5 v7 v9 v11 : LD) (v12 v13 : Int) (k0 : Ty3 → Option R) : Option R :=
 bif (((decide (0 ≤ v12)) && (decide (v12 ≤ v13))) && (decide (v13 ≤ (v9.length : Int)))) then
  bnd (G270x0 N ((v9.take v13.toNat).drop v12.toNat)) fun y0 =>
  bif y0.isSome then
   bif (((decide (0 ≤ v12)) && (decide (v12 ≤ v13))) && (decide (v13 ≤ (v11.length : Int)))) then
    bnd (G270x0 N ((v11.take v13.toNat).drop v12.toNat)) fun y1 =>
    bif y1.isSome then
     bif (((decide (0 ≤ v12)) && (decide (v12 ≤ v13))) && (decide (v13 ≤ (v3.length : Int)))) then
      bnd (G270x0 N ((v3.take v13.toNat).drop v12.toNat)) fun y2 =>
      bif y2.isSome then
       bif (((decide (0 ≤ v12)) && (decide (v12 ≤ v13))) && (decide (v13 ≤ (v5.length : Int)))) then
        bnd (G270x0 N ((v5.take v13.toNat).drop v12.toNat)) fun y3 =>
        bif y3.isSome then
         bif (((decide (0 ≤ v12)) && (decide (v12 ≤ v13))) && (decide (v13 ≤ (v7.length : Int)))) then
          bnd (G270x0 N ((v7.take v13.toNat).drop v12.toNat)) fun y4 =>
          bif y4.isSome then
           k0 ((y0.getD default).1, (y1.getD default).1, (y2.getD default).1, (y3.getD default).1, (y4.getD default).1, (y2.getD default).2, (y3.getD default).2, (y4.getD default).2)
          else
           none
         else
          none
        else
         none
       else
        none
      else
       none
     else
      none
    else
     none
   else
    none
  else
   none
 else
  none
def G208x0 (v3 v5 v7 v9 v11 : LD) (v12 v13 : Int) : Option (Ty3) := F208x0 N v3 v5 v7 v9 v11 v12 v13 (fun p => some p)
theorem bind208x0 (v3 v5 v7 v9 v11 : LD) (v12 v13 : Int) (k0 : Ty3 → Option R) : F208x0 N v3 v5 v7 v9 v11 v12 v13 k0 = (G208x0 N v3 v5 v7 v9 v11 v12 v13).bind k0 := by
 unfold G208x0 F208x0
 repeat' (first | with_reducible apply cond_b | (with_reducible apply bnd_b; intro _) | rfl)
def J208x0 (L : List Lf) (k0 : Ty3 → Option R) : Option R := F208x0 N (ll L 3) (ll L 5) (ll L 7) (ll L 9) (ll L 11) (li L 12) (li L 13) k0
def sh208x0 : Sh := { tmps := [(0, .g ([.sl 3, .sl 3, .sl 3, .sl 3, .sl 3, .sl 3])), (1, .c (.i .i64)), (2, .c (.i .i64))], mem := [] }
def K208x0w0 (L : List Lf) (p : Ty3) : Res := let p1 := p.2; let p2 := p1.2; let p3 := p2.2; let p4 := p3.2; let p5 := p4.2; let p6 := p5.2; let p7 := p6.2; ([.g [.i .i64 (li L 12), .i .i64 (li L 13), .i .i64 p.1, .i .i64 p1.1, .i .i64 p2.1, .i .i64 p3.1, .i .i64 p4.1, .i .i64 p5.1, .i .i64 p6.1, .i .i64 p7]], [])
def A208x0 (L : List Lf) : List (Bool × Res) := bnd (J208x0 N L (fun p => some p)) fun q => [(q.isSome, K208x0w0 L (q.getD default))]
theorem raw208x0 (L : List Lf) : bd Tryz.prog (T270x0 N) (h208x0s0 N).h 208 sh208x0 L = J208x0 N L (fun p => some (K208x0w0 L p)) := by kernel_rfl
theorem ok208x0 : FnOk Tryz.prog 208 sh208x0 (A208x0 N) :=
 (h208x0s0 N).fn progOk (T270x0_ok N) fun L x hx => ((raw208x0 N L).trans ((bind208x0 N ..).trans (alt1 x hx)))
def T208x0 : Oracle := ext 208 (spSh sh208x0 (A208x0 N)) (T270x0 N)
theorem T208x0_ok : OracleOk Tryz.prog (T208x0 N) := FnOk.to (ok208x0 N) (T270x0_ok N)
def rg115x0 : List (Nat × List Nat) := [(0, [0, 1, 2]), (1, [3, 6, 1, 2]), (2, [8, 6, 1, 2, 3]), (3, [8, 6]), (4, [1, 2, 3, 6]), (5, [6]), (6, [3, 1, 2, 6])]
def hd115x0 : Hints := [(13, [1, 2, 3, 6], [6, 3], [])]
def h115x0s0 (N : Nat) : Sg Tryz.prog 0 115 := .start hd115x0 rg115x0
def F115x0x13 (w0 w1 : Int) (w16 : LD) (k0 : Bool → Option R) : Option R :=
 bif (bif (decide (w0 < 0)) then true else (decide (w0 > w1))) then
  k0 true
 else
  bnd (G116x0 N w16) fun y0 =>
  bif y0.isSome then
   k0 (decide (w1 > (y0.getD default)))
  else
   none
def G115x0x13 (w0 w1 : Int) (w16 : LD) : Option (Bool) := F115x0x13 N w0 w1 w16 (fun p => some p)
theorem bind115x0x13 (w0 w1 : Int) (w16 : LD) (k0 : Bool → Option R) : F115x0x13 N w0 w1 w16 k0 = (G115x0x13 N w0 w1 w16).bind k0 := by
 unfold G115x0x13 F115x0x13
 repeat' (first | with_reducible apply cond_b | (with_reducible apply bnd_b; intro _) | rfl)
def sh115x0x13 : Sh := { tmps := [(1, .c (.i .i64)), (2, .c (.i .i64)), (3, .c (.p 3 0)), (6, .c (.p 6 0))], mem := [(6, .box (rI 10 ([]))), (3, .box (.s :: [.i .i64, .i .i64, .sl 216, .sl 219, .sl 9]))] }
def K115x0x13w0 (L : List Lf) (p : Bool) : Ex × St := (.normal, mg (ofSh sh115x0x13 L) [6, 3, 1, 2, 27] [(27, .c (.b p))] [6, 3] [])
def A115x0x13 (L : List Lf) : List (Bool × (Ex × St)) := bnd (F115x0x13 N (li L 0) (li L 1) (ll L 16) (fun p => some p)) fun q => [(q.isSome, K115x0x13w0 L (q.getD default))]
theorem raw115x0x13 (L : List Lf) : pc Tryz.prog (T208x0 N) (h115x0s0 N).h 0 100 115 13 sh115x0x13 L [6, 3, 1, 2, 27] [6, 3] = F115x0x13 N (li L 0) (li L 1) (ll L 16) (fun p => some (K115x0x13w0 L p)) := by kernel_rfl
def h115x0s1 : Sg Tryz.prog 0 115 :=
 (h115x0s0 N).cut (A115x0x13 N) progOk (T208x0_ok N) fun L x hx => (raw115x0x13 N L).trans ((bind115x0x13 N ..).trans (alt1 x hx))
def F115x0 (v0 : LB) (v1 v2 : Int) (v4 v6 v8 : LD) (v9 v10 : Int) (k0 : Ty2 → Option R) : Option R :=
 bnd (G113x0 N v0 v1 v2 v4 v6 v8) fun y0 =>
 bif y0.isSome then
  bif ((y0.getD default) != 0) then
   k0 (0, 0, 0, 0, 0, 0, 0, 0, 0, 0, (y0.getD default))
  else
   bnd (G115x0x13 N v9 v10 v4) fun y1 =>
   bif y1.isSome then
    bif (y1.getD default) then
     k0 (0, 0, 0, 0, 0, 0, 0, 0, 0, 0, 9)
    else
     bnd (G209x0 N v0 v1 v2 v4 v6 v8) fun y2 =>
     bif y2.isSome then
      bnd (G208x0 N (y2.getD default).2.1 (y2.getD default).2.2.2.1 (y2.getD default).2.2.2.2.2.1 (y2.getD default).2.2.2.2.2.2.2.1 (y2.getD default).2.2.2.2.2.2.2.2.2 v9 v10) fun y3 =>
      bif y3.isSome then
       k0 (v9, v10, (y3.getD default).1, (y3.getD default).2.1, (y3.getD default).2.2.1, (y3.getD default).2.2.2.1, (y3.getD default).2.2.2.2.1, (y3.getD default).2.2.2.2.2.1, (y3.getD default).2.2.2.2.2.2.1, (y3.getD default).2.2.2.2.2.2.2, 0)
      else
       none
     else
      none
   else
    none
 else
  none
def G115x0 (v0 : LB) (v1 v2 : Int) (v4 v6 v8 : LD) (v9 v10 : Int) : Option (Ty2) := F115x0 N v0 v1 v2 v4 v6 v8 v9 v10 (fun p => some p)
theorem bind115x0 (v0 : LB) (v1 v2 : Int) (v4 v6 v8 : LD) (v9 v10 : Int) (k0 : Ty2 → Option R) : F115x0 N v0 v1 v2 v4 v6 v8 v9 v10 k0 = (G115x0 N v0 v1 v2 v4 v6 v8 v9 v10).bind k0 := by
 unfold G115x0 F115x0
 repeat' (first | with_reducible apply cond_b | (with_reducible apply bnd_b; intro _) | rfl)
def J115x0 (L : List Lf) (k0 : Ty2 → Option R) : Option R := F115x0 N (ls L 0) (li L 1) (li L 2) (ll L 4) (ll L 6) (ll L 8) (li L 9) (li L 10) k0
def sh115x0 : Sh := { tmps := [(0, .g (.s :: [.i .i64, .i .i64, .sl 216, .sl 219, .sl 9])), (1, .c (.i .i64)), (2, .c (.i .i64))], mem := [] }
def K115x0w0 (L : List Lf) (p : Ty2) : Res := let p1 := p.2; let p2 := p1.2; let p3 := p2.2; let p4 := p3.2; let p5 := p4.2; let p6 := p5.2; let p7 := p6.2; let p8 := p7.2; let p9 := p8.2; let p10 := p9.2; ([.g [.i .i64 p.1, .i .i64 p1.1, .i .i64 p2.1, .i .i64 p3.1, .i .i64 p4.1, .i .i64 p5.1, .i .i64 p6.1, .i .i64 p7.1, .i .i64 p8.1, .i .i64 p9.1], .c (.i .i64 p10)], [])
def A115x0 (L : List Lf) : List (Bool × Res) := bnd (J115x0 N L (fun p => some p)) fun q => [(q.isSome, K115x0w0 L (q.getD default))]
theorem raw115x0 (L : List Lf) : bd Tryz.prog (T208x0 N) (h115x0s1 N).h 115 sh115x0 L = J115x0 N L (fun p => some (K115x0w0 L p)) := by kernel_rfl
theorem ok115x0 : FnOk Tryz.prog 115 sh115x0 (A115x0 N) :=
 (h115x0s1 N).fn progOk (T208x0_ok N) fun L x hx => ((raw115x0 N L).trans ((bind115x0 N ..).trans (alt1 x hx)))
def T115x0 : Oracle := ext 115 (spSh sh115x0 (A115x0 N)) (T208x0 N)
theorem T115x0_ok : OracleOk Tryz.prog (T115x0 N) := FnOk.to (ok115x0 N) (T208x0_ok N)
def rg31x0 : List (Nat × List Nat) := [(0, [0, 1]), (1, [2, 4, 1]), (2, [6, 4, 1, 2]), (3, [6, 4]), (4, [1, 4, 2]), (5, [4]), (6, [2, 1, 4]), (7, [2, 7, 1, 4])]
def hd31x0 : Hints := []
def h31x0s0 (N : Nat) : Sg Tryz.prog 0 31 := .start hd31x0 rg31x0
def F31x0 (v0 : LB) (v1 v2 : Int) (v4 v6 v8 : LD) (v9 : Int) (k0 : Ty1 → Option R) : Option R :=
 bnd (G113x0 N v0 v1 v2 v4 v6 v8) fun y0 =>
 bif y0.isSome then
  bif ((y0.getD default) != 0) then
   k0 (([] : List UInt8), 0, 0, 0, 0, 0, 0, true, [], (y0.getD default))
  else
   bnd (V114x0 N v9 0 1000000) fun y1 =>
   bif y1 then
    k0 (([] : List UInt8), 0, 0, 0, 0, 0, 0, true, [], 9)
   else
    bnd (G116x0 N v4) fun y2 =>
    bif y2.isSome then
     bnd (G115x0 N v0 v1 v2 v4 v6 v8 0 (y2.getD default)) fun y3 =>
     bif y3.isSome then
      bif (decide ((0 + v8.length) * 16 ≤ room) && decide ((0 + v8.length) ≤ strMax)) then
       k0 (v0, v1, v2, (y3.getD default).2.2.1, (y3.getD default).2.2.2.1, (y3.getD default).2.1, v9, (v8.isEmpty && false), v8, 0)
      else
       none
     else
      none
    else
     none
 else
  none
def G31x0 (v0 : LB) (v1 v2 : Int) (v4 v6 v8 : LD) (v9 : Int) : Option (Ty1) := F31x0 N v0 v1 v2 v4 v6 v8 v9 (fun p => some p)
theorem bind31x0 (v0 : LB) (v1 v2 : Int) (v4 v6 v8 : LD) (v9 : Int) (k0 : Ty1 → Option R) : F31x0 N v0 v1 v2 v4 v6 v8 v9 k0 = (G31x0 N v0 v1 v2 v4 v6 v8 v9).bind k0 := by
 unfold G31x0 F31x0
 repeat' (first | with_reducible apply cond_b | (with_reducible apply bnd_b; intro _) | rfl)
def J31x0 (L : List Lf) (k0 : Ty1 → Option R) : Option R := F31x0 N (ls L 0) (li L 1) (li L 2) (ll L 4) (ll L 6) (ll L 8) (li L 9) k0
def sh31x0 : Sh := { tmps := [(0, .g (.s :: [.i .i64, .i .i64, .sl 216, .sl 219, .sl 9])), (1, .c (.i .i64))], mem := [] }
def K31x0w0 (L : List Lf) (p : Ty1) : Res := let p1 := p.2; let p2 := p1.2; let p3 := p2.2; let p4 := p3.2; let p5 := p4.2; let p6 := p5.2; let p7 := p6.2; let p8 := p7.2; let p9 := p8.2; ([.g [.s p.1, .i .i64 p1.1, .i .i64 p2.1, .i .i64 p3.1, .i .i64 p4.1, .i .i64 p5.1, .i .i64 p6.1, .sl 9 p7.1 p8.1], .c (.i .i64 p9)], [])
def A31x0 (L : List Lf) : List (Bool × Res) := bnd (J31x0 N L (fun p => some p)) fun q => [(q.isSome, K31x0w0 L (q.getD default))]
theorem raw31x0 (L : List Lf) : bd Tryz.prog (T115x0 N) (h31x0s0 N).h 31 sh31x0 L = J31x0 N L (fun p => some (K31x0w0 L p)) := by kernel_rfl
theorem ok31x0 : FnOk Tryz.prog 31 sh31x0 (A31x0 N) :=
 (h31x0s0 N).fn progOk (T115x0_ok N) fun L x hx => ((raw31x0 N L).trans ((bind31x0 N ..).trans (alt1 x hx)))
def T31x0 : Oracle := ext 31 (spSh sh31x0 (A31x0 N)) (T115x0 N)
theorem T31x0_ok : OracleOk Tryz.prog (T31x0 N) := FnOk.to (ok31x0 N) (T115x0_ok N)
def rg63x0 : List (Nat × List Nat) := [(0, [0, 1]), (1, [0, 1]), (2, []), (3, [0, 1]), (4, [13, 12, 0, 1]), (5, [13, 0, 1, 12]), (6, [0, 5, 1, 13, 12]), (7, []), (8, [13, 12, 0, 1]), (9, [])]
def hd63x0 : Hints := [(12, [13, 12, 0, 1], [], [])]
def h63x0s0 (N : Nat) : Sg Tryz.prog 0 63 := .start hd63x0 rg63x0
def S63x0x12 (N : Nat) (w1 : Int) (w3 w5 : LD) (w0 : Int) (kr : Int → Option R) (k0 : Unit → Option R) (k1 : Unit → Option R) : Option R :=
 bif (decide (w0 < w1)) then
  bif (inB w0 w3.length) then
   bif (inB w0 w5.length) then
    bnd (!((w3.getD w0.toNat (.i 0)).toS == (w5.getD w0.toNat (.i 0)).toS)) fun y0 =>
    bif y0 then
     k0 ()
    else
     kr (IntKind.wrap .i64 (w0 + 1))
   else
    none
  else
   none
 else
  k1 ()
def L63x0x12 (N : Nat) {R : Type} (w1 : Int) (w3 w5 : LD) : Nat → Int → (Unit → Option R) → (Unit → Option R) → Option R
 | 0, _, _, _ => none
 | m + 1, w0, k0, k1 => S63x0x12 N w1 w3 w5 w0 (fun w0 => L63x0x12 N w1 w3 w5 m w0 k0 k1) k0 k1
def G63x0x12 (w1 : Int) (w3 w5 : LD) (w0 : Int) : Option (Sum (Unit) (Unit)) := L63x0x12 N (R := (Sum (Unit) (Unit))) w1 w3 w5 N w0 (fun p => some (.inl p)) (fun p => some (.inr p))
def J63x0x12 (L x : List Lf) (kr : List Lf → Option R) (k0 : Unit → Option R) (k1 : Unit → Option R) : Option R := S63x0x12 N (li L 1) (ll L 3) (ll L 5) (li x 0) (fun w0 => kr [.i w0]) k0 k1
theorem sb63x0x12 (L x : List Lf) (kr : List Lf → Option R) (k0 : Unit → Option R) (k1 : Unit → Option R) : J63x0x12 N L x kr k0 k1 = (J63x0x12 N L x (fun y => some (.inl y)) (fun p => some (.inr (.inl p))) (fun p => some (.inr (.inr p)))).bind (sumE kr (sumE k0 k1)) := by
 unfold J63x0x12 S63x0x12
 repeat' (first | with_reducible apply cond_b | (with_reducible apply bnd_b; intro _) | rfl)
def Q63x0x12 (L : List Lf) (m : Nat) (x : List Lf) : Option (Sum (Unit) (Unit)) := L63x0x12 N (R := (Sum (Unit) (Unit))) (li L 1) (ll L 3) (ll L 5) m (li x 0) (fun p => some (.inl p)) (fun p => some (.inr p))
def sh63x0x12 : Sh := { tmps := [(13, .c (.i .i64)), (12, .c (.i .i64)), (0, .c (.sl 9)), (1, .c (.sl 9))], mem := [] }
def A63x0x12 (L : List Lf) : List (Bool × (Ex × St)) := bnd (Q63x0x12 N L N (pk sh63x0x12 [0] L)) fun q => [((inlB q), (.ret, ⟨[(4, .c (.b false))], []⟩)), ((inrQ q).isSome, ((.exit 0), ⟨[], []⟩))]
theorem step63x0x12 (m : Nat) (kn : St → Option (Ex × St)) (L x : List Lf) : lpB Tryz.prog (T31x0 N) (h63x0s0 N).h 0 63 12 sh63x0x12 [0] [4] [] (m + 100) kn L x = J63x0x12 N L x (fun y => kn (ofSh sh63x0x12 (mx sh63x0x12 [0] L y))) (fun _ => some (.ret, ⟨[(4, .c (.b false))], []⟩)) (fun _ => some ((.exit 0), ⟨[], []⟩)) := by kernel_rfl
theorem ql63x0x12 (L : List Lf) (m : Nat) (x : List Lf) : Q63x0x12 N L (m + 1) x = J63x0x12 N L x (Q63x0x12 N L m) (fun p => some (.inl p)) (fun p => some (.inr p)) := by kernel_rfl
def h63x0s1 : Sg Tryz.prog 0 63 :=
 (h63x0s0 N).lp (A63x0x12 N) N progOk (T31x0_ok N) (fun m kn L x => (step63x0x12 N m kn L x).trans (sb63x0x12 N L x _ _ _)) (fun L m x => (ql63x0x12 N L m x).trans (sb63x0x12 N L x (Q63x0x12 N L m) (fun p => some (.inl p)) (fun p => some (.inr p)))) fun L x hx => (altS alt1) x hx
def F63x0 (v1 v3 : LD) (k0 : Bool → Option R) : Option R :=
 bif ((v1.length : Int) != (v3.length : Int)) then
  k0 false
 else
  bnd (G63x0x12 N (v1.length : Int) v1 v3 0) fun y0 =>
  bif (inlB y0) then
   k0 false
  else
   bif (inrQ y0).isSome then
    k0 true
   else
    none
def G63x0 (v1 v3 : LD) : Option (Bool) := F63x0 N v1 v3 (fun p => some p)
theorem bind63x0 (v1 v3 : LD) (k0 : Bool → Option R) : F63x0 N v1 v3 k0 = (G63x0 N v1 v3).bind k0 := by
 unfold G63x0 F63x0
 repeat' (first | with_reducible apply cond_b | (with_reducible apply bnd_b; intro _) | rfl)
def sh63x0 : Sh := { tmps := [(0, .c (.sl 9)), (1, .c (.sl 9))], mem := [] }
def A63x0 (L : List Lf) : List (Bool × Res) := bnd (F63x0 N (ll L 1) (ll L 3) (fun p => some p)) fun q => [(q.isSome, ([.c (.b (q.getD default))], []))]
theorem raw63x0 (L : List Lf) : bd Tryz.prog (T31x0 N) (h63x0s1 N).h 63 sh63x0 L = F63x0 N (ll L 1) (ll L 3) (fun p => some ([.c (.b p)], [])) := by kernel_rfl
theorem ok63x0 : FnOk Tryz.prog 63 sh63x0 (A63x0 N) :=
 (h63x0s1 N).fn progOk (T31x0_ok N) fun L x hx => ((raw63x0 N L).trans ((bind63x0 N ..).trans (alt1 x hx)))
def T63x0 : Oracle := ext 63 (spSh sh63x0 (A63x0 N)) (T31x0 N)
theorem T63x0_ok : OracleOk Tryz.prog (T63x0 N) := FnOk.to (ok63x0 N) (T31x0_ok N)
def rg32x0 : List (Nat × List Nat) := [(0, [0, 1]), (1, [2, 3])]
def hd32x0 : Hints := [(4, [2, 3], [3, 2], [])]
def h32x0s0 (N : Nat) : Sg Tryz.prog 0 32 := .start hd32x0 rg32x0
def F32x0x4 (w0 : LB) (w1 w2 w3 w4 w5 w6 : Int) (w8 : LD) (w9 : LB) (w10 w11 w12 w13 w14 w15 : Int) (w17 : LD) (k0 : Bool → Option R) : Option R :=
 bnd (bif (bif (w9 == w0) then (w10 == w1) else false) then (w11 == w2) else false) fun y0 =>
 bnd (bif (bif y0 then (w12 == w3) else false) then (w13 == w4) else false) fun y1 =>
 bnd (bif (bif y1 then (w14 == w5) else false) then (w15 == w6) else false) fun y2 =>
 bif y2 then
  bnd (G63x0 N w17 w8) fun y3 =>
  bif y3.isSome then
   k0 (y3.getD default)
  else
   none
 else
  k0 false
def G32x0x4 (w0 : LB) (w1 w2 w3 w4 w5 w6 : Int) (w8 : LD) (w9 : LB) (w10 w11 w12 w13 w14 w15 : Int) (w17 : LD) : Option (Bool) := F32x0x4 N w0 w1 w2 w3 w4 w5 w6 w8 w9 w10 w11 w12 w13 w14 w15 w17 (fun p => some p)
theorem bind32x0x4 (w0 : LB) (w1 w2 w3 w4 w5 w6 : Int) (w8 : LD) (w9 : LB) (w10 w11 w12 w13 w14 w15 : Int) (w17 : LD) (k0 : Bool → Option R) : F32x0x4 N w0 w1 w2 w3 w4 w5 w6 w8 w9 w10 w11 w12 w13 w14 w15 w17 k0 = (G32x0x4 N w0 w1 w2 w3 w4 w5 w6 w8 w9 w10 w11 w12 w13 w14 w15 w17).bind k0 := by
 unfold G32x0x4 F32x0x4
 repeat' (first | with_reducible apply cond_b | (with_reducible apply bnd_b; intro _) | rfl)
def J32x0x4 (L : List Lf) (k0 : Bool → Option R) : Option R := F32x0x4 N (ls L 0) (li L 1) (li L 2) (li L 3) (li L 4) (li L 5) (li L 6) (ll L 8) (ls L 9) (li L 10) (li L 11) (li L 12) (li L 13) (li L 14) (li L 15) (ll L 17) k0
def sh32x0x4 : Sh := { tmps := [(2, .c (.p 2 0)), (3, .c (.p 3 0))], mem := [(3, .box (.s :: rI 6 ([.sl 9]))), (2, .box (.s :: rI 6 ([.sl 9])))] }
def A32x0x4 (L : List Lf) : List (Bool × (Ex × St)) := bnd (J32x0x4 N L (fun p => some p)) fun q => [(q.isSome, (.normal, ⟨[(4, .c (.b (q.getD default)))], []⟩))]
theorem raw32x0x4 (L : List Lf) : pc Tryz.prog (T63x0 N) (h32x0s0 N).h 0 100 32 4 sh32x0x4 L [4] [] = J32x0x4 N L (fun p => some (.normal, ⟨[(4, .c (.b p))], []⟩)) := by kernel_rfl
def h32x0s1 : Sg Tryz.prog 0 32 :=
 (h32x0s0 N).cut (A32x0x4 N) progOk (T63x0_ok N) fun L x hx => (raw32x0x4 N L).trans ((bind32x0x4 N ..).trans (alt1 x hx))
def F32x0 (v0 : LB) (v1 v2 v3 v4 v5 v6 : Int) (v8 : LD) (v9 : LB) (v10 v11 v12 v13 v14 v15 : Int) (v17 : LD) (k0 : Bool → Option R) : Option R :=
 bnd (G32x0x4 N v9 v10 v11 v12 v13 v14 v15 v17 v0 v1 v2 v3 v4 v5 v6 v8) fun y0 =>
 bif y0.isSome then
  k0 (y0.getD default)
 else
  none
def G32x0 (v0 : LB) (v1 v2 v3 v4 v5 v6 : Int) (v8 : LD) (v9 : LB) (v10 v11 v12 v13 v14 v15 : Int) (v17 : LD) : Option (Bool) := F32x0 N v0 v1 v2 v3 v4 v5 v6 v8 v9 v10 v11 v12 v13 v14 v15 v17 (fun p => some p)
theorem bind32x0 (v0 : LB) (v1 v2 v3 v4 v5 v6 : Int) (v8 : LD) (v9 : LB) (v10 v11 v12 v13 v14 v15 : Int) (v17 : LD) (k0 : Bool → Option R) : F32x0 N v0 v1 v2 v3 v4 v5 v6 v8 v9 v10 v11 v12 v13 v14 v15 v17 k0 = (G32x0 N v0 v1 v2 v3 v4 v5 v6 v8 v9 v10 v11 v12 v13 v14 v15 v17).bind k0 := by
 unfold G32x0 F32x0
 repeat' (first | with_reducible apply cond_b | (with_reducible apply bnd_b; intro _) | rfl)
def J32x0 (L : List Lf) (k0 : Bool → Option R) : Option R := F32x0 N (ls L 0) (li L 1) (li L 2) (li L 3) (li L 4) (li L 5) (li L 6) (ll L 8) (ls L 9) (li L 10) (li L 11) (li L 12) (li L 13) (li L 14) (li L 15) (ll L 17) k0
def sh32x0 : Sh := { tmps := [(0, .g (.s :: rI 6 ([.sl 9]))), (1, .g (.s :: rI 6 ([.sl 9])))], mem := [] }
def A32x0 (L : List Lf) : List (Bool × Res) := bnd (J32x0 N L (fun p => some p)) fun q => [(q.isSome, ([.c (.b (q.getD default))], []))]
theorem raw32x0 (L : List Lf) : bd Tryz.prog (T63x0 N) (h32x0s1 N).h 32 sh32x0 L = J32x0 N L (fun p => some ([.c (.b p)], [])) := by kernel_rfl
theorem ok32x0 : FnOk Tryz.prog 32 sh32x0 (A32x0 N) :=
 (h32x0s1 N).fn progOk (T63x0_ok N) fun L x hx => ((raw32x0 N L).trans ((bind32x0 N ..).trans (alt1 x hx)))
def T32x0 : Oracle := ext 32 (spSh sh32x0 (A32x0 N)) (T63x0 N)
theorem T32x0_ok : OracleOk Tryz.prog (T32x0 N) := FnOk.to (ok32x0 N) (T63x0_ok N)
def rg33x0 : List (Nat × List Nat) := [(0, [0]), (1, [1]), (3, [1]), (5, [1]), (6, []), (4, []), (2, []), (7, [1]), (8, [32, 31, 30, 1]), (9, [30, 32, 31, 1]), (10, [4, 32, 31, 30, 1]), (11, []), (12, [32, 31, 30, 1]), (13, [1]), (14, []), (15, [1]), (16, [47, 46, 45, 1]), (17, [47, 45, 1, 46]), (18, [6, 5, 1, 47, 46, 45]), (20, [5, 6, 1, 47, 46, 45]), (21, []), (19, []), (22, [47, 46, 45, 1]), (23, [])]
def hd33x0 : Hints := [(24, [32, 31, 30, 1], [30, 1], []), (48, [47, 46, 45, 1], [1], [])]
def h33x0s0 (N : Nat) : Sg Tryz.prog 0 33 := .start hd33x0 rg33x0
def S33x0x24 (w1 : Int) (w3 : LD) (w0 : Int) (kr : Int → Option R) (k0 : Unit → Option R) (k1 : Unit → Option R) : Option R :=
 bif (decide (w0 < w1)) then
  bif (inB w0 w3.length) then
   bif (decide (w0.toNat < w3.length)) then
    bnd (V109x0 N (w3.getD w0.toNat (.i 0)).toI 0 10000000000000) fun y0 =>
    bif (!y0) then
     k0 ()
    else
     kr (IntKind.wrap .i64 (w0 + 1))
   else
    none
  else
   none
 else
  k1 ()
def L33x0x24 (N : Nat) {R : Type} (w1 : Int) (w3 : LD) : Nat → Int → (Unit → Option R) → (Unit → Option R) → Option R
 | 0, _, _, _ => none
 | m + 1, w0, k0, k1 => S33x0x24 N w1 w3 w0 (fun w0 => L33x0x24 N w1 w3 m w0 k0 k1) k0 k1
def G33x0x24 (w1 : Int) (w3 : LD) (w0 : Int) : Option (Sum (Unit) (Unit)) := L33x0x24 N (R := (Sum (Unit) (Unit))) w1 w3 N w0 (fun p => some (.inl p)) (fun p => some (.inr p))
def J33x0x24 (L x : List Lf) (kr : List Lf → Option R) (k0 : Unit → Option R) (k1 : Unit → Option R) : Option R := S33x0x24 N (li L 1) (ll L 3) (li x 0) (fun w0 => kr [.i w0]) k0 k1
theorem sb33x0x24 (L x : List Lf) (kr : List Lf → Option R) (k0 : Unit → Option R) (k1 : Unit → Option R) : J33x0x24 N L x kr k0 k1 = (J33x0x24 N L x (fun y => some (.inl y)) (fun p => some (.inr (.inl p))) (fun p => some (.inr (.inr p)))).bind (sumE kr (sumE k0 k1)) := by
 unfold J33x0x24 S33x0x24
 repeat' (first | with_reducible apply cond_b | (with_reducible apply bnd_b; intro _) | rfl)
def Q33x0x24 (L : List Lf) (m : Nat) (x : List Lf) : Option (Sum (Unit) (Unit)) := L33x0x24 N (R := (Sum (Unit) (Unit))) (li L 1) (ll L 3) m (li x 0) (fun p => some (.inl p)) (fun p => some (.inr p))
def sh33x0x24 : Sh := { tmps := [(32, .c (.i .i64)), (31, .c (.i .i64)), (30, .c (.o 30)), (1, .c (.p 1 0))], mem := [(30, .row 3 true), (1, .box (.s :: rI 6 ([.sl 9])))] }
def K33x0x24w0 (L : List Lf) (_ : Unit) : Ex × St := (.ret, mg (ofSh sh33x0x24 L) [2] [(2, .c (.i .i64 9))] [1] [])
def A33x0x24 (L : List Lf) : List (Bool × (Ex × St)) := bnd (Q33x0x24 N L N (pk sh33x0x24 [0] L)) fun q => [((inlB q), K33x0x24w0 L ()), ((inrQ q).isSome, ((.exit 1), mg (ofSh sh33x0x24 L) [1] [] [1] []))]
theorem step33x0x24 (m : Nat) (kn : St → Option (Ex × St)) (L x : List Lf) : lpB Tryz.prog (T32x0 N) (h33x0s0 N).h 0 33 24 sh33x0x24 [0] [2, 1] [1] (m + 100) kn L x = J33x0x24 N L x (fun y => kn (ofSh sh33x0x24 (mx sh33x0x24 [0] L y))) (fun _ => some (K33x0x24w0 L ())) (fun _ => some ((.exit 1), mg (ofSh sh33x0x24 L) [1] [] [1] [])) := by kernel_rfl
theorem ql33x0x24 (L : List Lf) (m : Nat) (x : List Lf) : Q33x0x24 N L (m + 1) x = J33x0x24 N L x (Q33x0x24 N L m) (fun p => some (.inl p)) (fun p => some (.inr p)) := by kernel_rfl
def h33x0s1 : Sg Tryz.prog 0 33 :=
 (h33x0s0 N).lp (A33x0x24 N) N progOk (T32x0_ok N) (fun m kn L x => (step33x0x24 N m kn L x).trans (sb33x0x24 N L x _ _ _)) (fun L m x => (ql33x0x24 N L m x).trans (sb33x0x24 N L x (Q33x0x24 N L m) (fun p => some (.inl p)) (fun p => some (.inr p)))) fun L x hx => (altS alt1) x hx
def S33x0x48 (w1 : Int) (w3 w12 : LD) (w0 : Int) (kr : Int → Option R) (k0 : Int → Option R) (k1 : Unit → Option R) : Option R :=
 bif (decide (w0 < w1)) then
  bif (inB w0 w3.length) then
   bnd (G117x0 N (w3.getD w0.toNat (.i 0)).toS) fun y0 =>
   bif y0.isSome then
    bif (!(y0.getD default)) then
     k0 8
    else
     bif (bif (inB (IntKind.wrap .i64 (w0 - 1)) w12.length) then true else (!((decide (w0 > 0)) == true))) then
      bnd (bif (decide (w0 > 0)) then ((Op.bytesLess (w3.getD w0.toNat (.i 0)).toS (w12.getD (IntKind.wrap .i64 (w0 - 1)).toNat (.i 0)).toS) || ((w3.getD w0.toNat (.i 0)).toS == (w12.getD (IntKind.wrap .i64 (w0 - 1)).toNat (.i 0)).toS)) else false) fun y1 =>
      bif y1 then
       k0 10
      else
       kr (IntKind.wrap .i64 (w0 + 1))
     else
      none
   else
    none
  else
   none
 else
  k1 ()
def L33x0x48 (N : Nat) {R : Type} (w1 : Int) (w3 w12 : LD) : Nat → Int → (Int → Option R) → (Unit → Option R) → Option R
 | 0, _, _, _ => none
 | m + 1, w0, k0, k1 => S33x0x48 N w1 w3 w12 w0 (fun w0 => L33x0x48 N w1 w3 w12 m w0 k0 k1) k0 k1
def G33x0x48 (w1 : Int) (w3 w12 : LD) (w0 : Int) : Option (Sum (Int) (Unit)) := L33x0x48 N (R := (Sum (Int) (Unit))) w1 w3 w12 N w0 (fun p => some (.inl p)) (fun p => some (.inr p))
def J33x0x48 (L x : List Lf) (kr : List Lf → Option R) (k0 : Int → Option R) (k1 : Unit → Option R) : Option R := S33x0x48 N (li L 1) (ll L 3) (ll L 12) (li x 0) (fun w0 => kr [.i w0]) k0 k1
theorem sb33x0x48 (L x : List Lf) (kr : List Lf → Option R) (k0 : Int → Option R) (k1 : Unit → Option R) : J33x0x48 N L x kr k0 k1 = (J33x0x48 N L x (fun y => some (.inl y)) (fun p => some (.inr (.inl p))) (fun p => some (.inr (.inr p)))).bind (sumE kr (sumE k0 k1)) := by
 unfold J33x0x48 S33x0x48
 repeat' (first | with_reducible apply cond_b | (with_reducible apply bnd_b; intro _) | rfl)
def Q33x0x48 (L : List Lf) (m : Nat) (x : List Lf) : Option (Sum (Int) (Unit)) := L33x0x48 N (R := (Sum (Int) (Unit))) (li L 1) (ll L 3) (ll L 12) m (li x 0) (fun p => some (.inl p)) (fun p => some (.inr p))
def sh33x0x48 : Sh := { tmps := [(47, .c (.i .i64)), (46, .c (.i .i64)), (45, .c (.sl 9)), (1, .c (.p 1 0))], mem := [(1, .box (.s :: rI 6 ([.sl 9])))] }
def A33x0x48 (L : List Lf) : List (Bool × (Ex × St)) := bnd (Q33x0x48 N L N (pk sh33x0x48 [0] L)) fun q => [((inlB q), (.ret, ⟨[(2, .c (.i .i64 (inlV q)))], []⟩)), ((inrQ q).isSome, ((.exit 3), ⟨[], []⟩))]
theorem step33x0x48 (m : Nat) (kn : St → Option (Ex × St)) (L x : List Lf) : lpB Tryz.prog (T32x0 N) (h33x0s1 N).h 0 33 48 sh33x0x48 [0] [2] [] (m + 100) kn L x = J33x0x48 N L x (fun y => kn (ofSh sh33x0x48 (mx sh33x0x48 [0] L y))) (fun p => some (.ret, ⟨[(2, .c (.i .i64 p))], []⟩)) (fun _ => some ((.exit 3), ⟨[], []⟩)) := by kernel_rfl
theorem ql33x0x48 (L : List Lf) (m : Nat) (x : List Lf) : Q33x0x48 N L (m + 1) x = J33x0x48 N L x (Q33x0x48 N L m) (fun p => some (.inl p)) (fun p => some (.inr p)) := by kernel_rfl
def h33x0s2 : Sg Tryz.prog 0 33 :=
 (h33x0s1 N).lp (A33x0x48 N) N progOk (T32x0_ok N) (fun m kn L x => (step33x0x48 N m kn L x).trans (sb33x0x48 N L x _ _ _)) (fun L m x => (ql33x0x48 N L m x).trans (sb33x0x48 N L x (Q33x0x48 N L m) (fun p => some (.inl p)) (fun p => some (.inr p)))) fun L x hx => (altS alt1) x hx
def F33x0 (v0 : LB) (v1 v2 v3 v4 v5 v6 : Int) (v8 : LD) (k0 : Int → Option R) : Option R :=
 bnd (G117x0 N v0) fun y0 =>
 bif y0.isSome then
  bif (!(y0.getD default)) then
   k0 8
  else
   bnd (V109x0 N v1 1 5) fun y1 =>
   bif (!y1) then
    k0 7
   else
    bnd (V109x0 N v2 0 86399999999) fun y2 =>
    bif (!y2) then
     k0 9
    else
     bnd (G33x0x24 N 4 [(.i v3), (.i v4), (.i v5), (.i v6)] 0) fun y3 =>
     bif (inlB y3) then
      k0 9
     else
      bif (inrQ y3).isSome then
       bif (decide ((v8.length : Int) > 20)) then
        k0 3
       else
        bnd (G33x0x48 N (v8.length : Int) v8 v8 0) fun y4 =>
        bif (inlB y4) then
         k0 (inlV y4)
        else
         bif (inrQ y4).isSome then
          k0 0
         else
          none
      else
       none
 else
  none
def G33x0 (v0 : LB) (v1 v2 v3 v4 v5 v6 : Int) (v8 : LD) : Option (Int) := F33x0 N v0 v1 v2 v3 v4 v5 v6 v8 (fun p => some p)
theorem bind33x0 (v0 : LB) (v1 v2 v3 v4 v5 v6 : Int) (v8 : LD) (k0 : Int → Option R) : F33x0 N v0 v1 v2 v3 v4 v5 v6 v8 k0 = (G33x0 N v0 v1 v2 v3 v4 v5 v6 v8).bind k0 := by
 unfold G33x0 F33x0
 repeat' (first | with_reducible apply cond_b | (with_reducible apply bnd_b; intro _) | rfl)
def J33x0 (L : List Lf) (k0 : Int → Option R) : Option R := F33x0 N (ls L 0) (li L 1) (li L 2) (li L 3) (li L 4) (li L 5) (li L 6) (ll L 8) k0
def sh33x0 : Sh := { tmps := [(0, .g (.s :: rI 6 ([.sl 9])))], mem := [] }
def A33x0 (L : List Lf) : List (Bool × Res) := bnd (J33x0 N L (fun p => some p)) fun q => [(q.isSome, ([.c (.i .i64 (q.getD default))], []))]
theorem raw33x0 (L : List Lf) : bd Tryz.prog (T32x0 N) (h33x0s2 N).h 33 sh33x0 L = J33x0 N L (fun p => some ([.c (.i .i64 p)], [])) := by kernel_rfl
theorem ok33x0 : FnOk Tryz.prog 33 sh33x0 (A33x0 N) :=
 (h33x0s2 N).fn progOk (T32x0_ok N) fun L x hx => ((raw33x0 N L).trans ((bind33x0 N ..).trans (alt1 x hx)))
def T33x0 : Oracle := ext 33 (spSh sh33x0 (A33x0 N)) (T32x0 N)
theorem T33x0_ok : OracleOk Tryz.prog (T33x0 N) := FnOk.to (ok33x0 N) (T32x0_ok N)
def rg34x0 : List (Nat × List Nat) := [(0, [0]), (1, [1]), (3, [1]), (5, [1]), (7, [1]), (8, []), (6, []), (4, []), (2, []), (9, [1]), (10, [46, 45, 44, 1]), (11, [46, 44, 1, 45]), (12, [4, 3, 1, 46, 45, 44]), (13, []), (14, [3, 4, 1, 46, 45, 44]), (15, []), (16, [46, 45, 44, 1]), (17, [])]
def hd34x0 : Hints := [(16, [1], [1], []), (30, [46, 45, 44, 1], [1], [])]
def h34x0s0 (N : Nat) : Sg Tryz.prog 0 34 := .start hd34x0 rg34x0
def F34x0x16 (w2 w3 w4 w5 w6 : Int) (k0 : Bool → R) : R :=
 bnd (V114x0 N w2 0 86399999999) fun y0 =>
 bif y0 then
  k0 true
 else
  bnd (V114x0 N w3 0 10000000000000) fun y1 =>
  bif y1 then
   k0 true
  else
   bnd (V114x0 N w4 0 10000000000000) fun y2 =>
   bif y2 then
    k0 true
   else
    bnd (V114x0 N w5 0 10000000000000) fun y3 =>
    bif y3 then
     k0 true
    else
     bnd (V114x0 N w6 0 10000000000000) fun y4 =>
     k0 y4
def V34x0x16 (w2 w3 w4 w5 w6 : Int) : Bool := F34x0x16 N w2 w3 w4 w5 w6 (fun p => p)
theorem tot34x0x16 (w2 w3 w4 w5 w6 : Int) (k0 : Bool → R) : F34x0x16 N w2 w3 w4 w5 w6 k0 = k0 (V34x0x16 N w2 w3 w4 w5 w6) := by
 unfold V34x0x16 F34x0x16
 repeat' (first | rfl | apply cond_k | (apply bnd_k; intro _))
def J34x0x16 (L : List Lf) (k0 : Bool → R) : R := F34x0x16 N (li L 2) (li L 3) (li L 4) (li L 5) (li L 6) k0
def sh34x0x16 : Sh := { tmps := [(1, .c (.p 1 0))], mem := [(1, .box (.s :: rI 6 ([.sl 9])))] }
def K34x0x16w0 (L : List Lf) (p : Bool) : Ex × St := (.normal, mg (ofSh sh34x0x16 L) [1, 14] [(14, .c (.b p))] [1] [])
def A34x0x16 (L : List Lf) : List (Bool × (Ex × St)) := bnd (J34x0x16 N L (fun p => p)) fun q => [(true, K34x0x16w0 L q)]
theorem raw34x0x16 (L : List Lf) : pc Tryz.prog (T33x0 N) (h34x0s0 N).h 0 100 34 16 sh34x0x16 L [1, 14] [1] = J34x0x16 N L (fun p => some (K34x0x16w0 L p)) := by kernel_rfl
def h34x0s1 : Sg Tryz.prog 0 34 :=
 (h34x0s0 N).cut (A34x0x16 N) progOk (T33x0_ok N) fun L x hx => (raw34x0x16 N L).trans ((tot34x0x16 N ..).trans (alt0 _ _ hx))
def S34x0x30 (w1 : Int) (w3 w12 : LD) (w0 : Int) (kr : Int → Option R) (k0 : Int → Option R) (k1 : Unit → Option R) : Option R :=
 bif (decide (w0 < w1)) then
  bif (inB w0 w3.length) then
   bnd (G118x0 N (w3.getD w0.toNat (.i 0)).toS) fun y0 =>
   bif y0.isSome then
    bif (!(y0.getD default)) then
     k0 8
    else
     bif (bif (inB (IntKind.wrap .i64 (w0 - 1)) w12.length) then true else (!((decide (w0 > 0)) == true))) then
      bnd (bif (decide (w0 > 0)) then ((Op.bytesLess (w3.getD w0.toNat (.i 0)).toS (w12.getD (IntKind.wrap .i64 (w0 - 1)).toNat (.i 0)).toS) || ((w3.getD w0.toNat (.i 0)).toS == (w12.getD (IntKind.wrap .i64 (w0 - 1)).toNat (.i 0)).toS)) else false) fun y1 =>
      bif y1 then
       k0 10
      else
       kr (IntKind.wrap .i64 (w0 + 1))
     else
      none
   else
    none
  else
   none
 else
  k1 ()
def L34x0x30 (N : Nat) {R : Type} (w1 : Int) (w3 w12 : LD) : Nat → Int → (Int → Option R) → (Unit → Option R) → Option R
 | 0, _, _, _ => none
 | m + 1, w0, k0, k1 => S34x0x30 N w1 w3 w12 w0 (fun w0 => L34x0x30 N w1 w3 w12 m w0 k0 k1) k0 k1
def G34x0x30 (w1 : Int) (w3 w12 : LD) (w0 : Int) : Option (Sum (Int) (Unit)) := L34x0x30 N (R := (Sum (Int) (Unit))) w1 w3 w12 N w0 (fun p => some (.inl p)) (fun p => some (.inr p))
def J34x0x30 (L x : List Lf) (kr : List Lf → Option R) (k0 : Int → Option R) (k1 : Unit → Option R) : Option R := S34x0x30 N (li L 1) (ll L 3) (ll L 12) (li x 0) (fun w0 => kr [.i w0]) k0 k1
theorem sb34x0x30 (L x : List Lf) (kr : List Lf → Option R) (k0 : Int → Option R) (k1 : Unit → Option R) : J34x0x30 N L x kr k0 k1 = (J34x0x30 N L x (fun y => some (.inl y)) (fun p => some (.inr (.inl p))) (fun p => some (.inr (.inr p)))).bind (sumE kr (sumE k0 k1)) := by
 unfold J34x0x30 S34x0x30
 repeat' (first | with_reducible apply cond_b | (with_reducible apply bnd_b; intro _) | rfl)
def Q34x0x30 (L : List Lf) (m : Nat) (x : List Lf) : Option (Sum (Int) (Unit)) := L34x0x30 N (R := (Sum (Int) (Unit))) (li L 1) (ll L 3) (ll L 12) m (li x 0) (fun p => some (.inl p)) (fun p => some (.inr p))
def sh34x0x30 : Sh := { tmps := [(46, .c (.i .i64)), (45, .c (.i .i64)), (44, .c (.sl 9)), (1, .c (.p 1 0))], mem := [(1, .box (.s :: rI 6 ([.sl 9])))] }
def A34x0x30 (L : List Lf) : List (Bool × (Ex × St)) := bnd (Q34x0x30 N L N (pk sh34x0x30 [0] L)) fun q => [((inlB q), (.ret, ⟨[(2, .c (.i .i64 (inlV q)))], []⟩)), ((inrQ q).isSome, ((.exit 1), ⟨[], []⟩))]
theorem step34x0x30 (m : Nat) (kn : St → Option (Ex × St)) (L x : List Lf) : lpB Tryz.prog (T33x0 N) (h34x0s1 N).h 0 34 30 sh34x0x30 [0] [2] [] (m + 100) kn L x = J34x0x30 N L x (fun y => kn (ofSh sh34x0x30 (mx sh34x0x30 [0] L y))) (fun p => some (.ret, ⟨[(2, .c (.i .i64 p))], []⟩)) (fun _ => some ((.exit 1), ⟨[], []⟩)) := by kernel_rfl
theorem ql34x0x30 (L : List Lf) (m : Nat) (x : List Lf) : Q34x0x30 N L (m + 1) x = J34x0x30 N L x (Q34x0x30 N L m) (fun p => some (.inl p)) (fun p => some (.inr p)) := by kernel_rfl
def h34x0s2 : Sg Tryz.prog 0 34 :=
 (h34x0s1 N).lp (A34x0x30 N) N progOk (T33x0_ok N) (fun m kn L x => (step34x0x30 N m kn L x).trans (sb34x0x30 N L x _ _ _)) (fun L m x => (ql34x0x30 N L m x).trans (sb34x0x30 N L x (Q34x0x30 N L m) (fun p => some (.inl p)) (fun p => some (.inr p)))) fun L x hx => (altS alt1) x hx
def F34x0 (v0 : LB) (v1 v2 v3 v4 v5 v6 : Int) (v8 : LD) (k0 : Int → Option R) : Option R :=
 bnd (G118x0 N v0) fun y0 =>
 bif y0.isSome then
  bif (!(y0.getD default)) then
   k0 8
  else
   bnd (V114x0 N v1 1 5) fun y1 =>
   bif y1 then
    k0 7
   else
    bnd (V34x0x16 N v2 v3 v4 v5 v6) fun y2 =>
    bif y2 then
     k0 9
    else
     bif (decide ((v8.length : Int) > 20)) then
      k0 3
     else
      bnd (G34x0x30 N (v8.length : Int) v8 v8 0) fun y3 =>
      bif (inlB y3) then
       k0 (inlV y3)
      else
       bif (inrQ y3).isSome then
        k0 0
       else
        none
 else
  none
def G34x0 (v0 : LB) (v1 v2 v3 v4 v5 v6 : Int) (v8 : LD) : Option (Int) := F34x0 N v0 v1 v2 v3 v4 v5 v6 v8 (fun p => some p)
theorem bind34x0 (v0 : LB) (v1 v2 v3 v4 v5 v6 : Int) (v8 : LD) (k0 : Int → Option R) : F34x0 N v0 v1 v2 v3 v4 v5 v6 v8 k0 = (G34x0 N v0 v1 v2 v3 v4 v5 v6 v8).bind k0 := by
 unfold G34x0 F34x0
 repeat' (first | with_reducible apply cond_b | (with_reducible apply bnd_b; intro _) | rfl)
def J34x0 (L : List Lf) (k0 : Int → Option R) : Option R := F34x0 N (ls L 0) (li L 1) (li L 2) (li L 3) (li L 4) (li L 5) (li L 6) (ll L 8) k0
def sh34x0 : Sh := { tmps := [(0, .g (.s :: rI 6 ([.sl 9])))], mem := [] }
def A34x0 (L : List Lf) : List (Bool × Res) := bnd (J34x0 N L (fun p => some p)) fun q => [(q.isSome, ([.c (.i .i64 (q.getD default))], []))]
theorem raw34x0 (L : List Lf) : bd Tryz.prog (T33x0 N) (h34x0s2 N).h 34 sh34x0 L = J34x0 N L (fun p => some ([.c (.i .i64 p)], [])) := by kernel_rfl
theorem ok34x0 : FnOk Tryz.prog 34 sh34x0 (A34x0 N) :=
 (h34x0s2 N).fn progOk (T33x0_ok N) fun L x hx => ((raw34x0 N L).trans ((bind34x0 N ..).trans (alt1 x hx)))
def T34x0 : Oracle := ext 34 (spSh sh34x0 (A34x0 N)) (T33x0 N)
theorem T34x0_ok : OracleOk Tryz.prog (T34x0 N) := FnOk.to (ok34x0 N) (T33x0_ok N)
def sh17x0 : Sh := toldSh
def A17x0 (N : Nat) (L : List Lf) : List (Bool × Res) := toldA L
theorem ok17x0 : FnOk Tryz.prog 17 sh17x0 (A17x0 N) := told_fn
def T17x0 : Oracle := ext 17 (spSh sh17x0 (A17x0 N)) (T34x0 N)
theorem T17x0_ok : OracleOk Tryz.prog (T17x0 N) := FnOk.to (ok17x0 N) (T34x0_ok N)
def rg8x0 : List (Nat × List Nat) := [(0, [0, 2, 1]), (1, [3, 1, 5]), (2, [3, 1, 7, 8, 5]), (3, [7, 9, 8, 10, 5])]
def hd8x0 : Hints := [(10, [7, 9, 8, 10, 5], [9, 7, 5], [])]
def h8x0s0 (N : Nat) : Sg Tryz.prog 0 8 := .start hd8x0 rg8x0
def F8x0x10 (w0 w1 : Int) (w2 : LB) (w3 w4 w5 w6 w7 w8 : Int) (w10 : LD) (w11 : LB) (w12 w13 w14 w15 w16 w17 : Int) (w19 : LD) (w20 : LB) (w21 w22 w23 w24 w25 w26 : Int) (w28 : LD) (k0 : Bool → Option R) : Option R :=
 bnd (G32x0 N w11 w12 w13 w14 w15 w16 w17 w19 w2 w3 w4 w5 w6 w7 w8 w10) fun y0 =>
 bif y0.isSome then
  bif (y0.getD default) then
   bif (w0 == w1) then
    bnd (G33x0 N w20 w21 w22 w23 w24 w25 w26 w28) fun y1 =>
    bif y1.isSome then
     bnd (G34x0 N w20 w21 w22 w23 w24 w25 w26 w28) fun y2 =>
     bif y2.isSome then
      bif ((y1.getD default) == (y2.getD default)) then
       k0 true
      else
       k0 false
     else
      none
    else
     none
   else
    k0 false
  else
   k0 false
 else
  none
def G8x0x10 (w0 w1 : Int) (w2 : LB) (w3 w4 w5 w6 w7 w8 : Int) (w10 : LD) (w11 : LB) (w12 w13 w14 w15 w16 w17 : Int) (w19 : LD) (w20 : LB) (w21 w22 w23 w24 w25 w26 : Int) (w28 : LD) : Option (Bool) := F8x0x10 N w0 w1 w2 w3 w4 w5 w6 w7 w8 w10 w11 w12 w13 w14 w15 w16 w17 w19 w20 w21 w22 w23 w24 w25 w26 w28 (fun p => some p)
theorem bind8x0x10 (w0 w1 : Int) (w2 : LB) (w3 w4 w5 w6 w7 w8 : Int) (w10 : LD) (w11 : LB) (w12 w13 w14 w15 w16 w17 : Int) (w19 : LD) (w20 : LB) (w21 w22 w23 w24 w25 w26 : Int) (w28 : LD) (k0 : Bool → Option R) : F8x0x10 N w0 w1 w2 w3 w4 w5 w6 w7 w8 w10 w11 w12 w13 w14 w15 w16 w17 w19 w20 w21 w22 w23 w24 w25 w26 w28 k0 = (G8x0x10 N w0 w1 w2 w3 w4 w5 w6 w7 w8 w10 w11 w12 w13 w14 w15 w16 w17 w19 w20 w21 w22 w23 w24 w25 w26 w28).bind k0 := by
 unfold G8x0x10 F8x0x10
 repeat' (first | with_reducible apply cond_b | (with_reducible apply bnd_b; intro _) | rfl)
def J8x0x10 (L : List Lf) (k0 : Bool → Option R) : Option R := F8x0x10 N (li L 0) (li L 1) (ls L 2) (li L 3) (li L 4) (li L 5) (li L 6) (li L 7) (li L 8) (ll L 10) (ls L 11) (li L 12) (li L 13) (li L 14) (li L 15) (li L 16) (li L 17) (ll L 19) (ls L 20) (li L 21) (li L 22) (li L 23) (li L 24) (li L 25) (li L 26) (ll L 28) k0
def sh8x0x10 : Sh := { tmps := [(7, .c (.p 7 0)), (9, .c (.p 9 0)), (8, .c (.i .i64)), (10, .c (.i .i64)), (5, .c (.p 5 0))], mem := [(9, .box (.s :: rI 6 ([.sl 9]))), (7, .box (.s :: rI 6 ([.sl 9]))), (5, .box (.s :: rI 6 ([.sl 9])))] }
def A8x0x10 (L : List Lf) : List (Bool × (Ex × St)) := bnd (J8x0x10 N L (fun p => some p)) fun q => [(q.isSome, (.normal, ⟨[(6, .c (.b (q.getD default)))], []⟩))]
theorem raw8x0x10 (L : List Lf) : pc Tryz.prog (T17x0 N) (h8x0s0 N).h 0 100 8 10 sh8x0x10 L [6] [] = J8x0x10 N L (fun p => some (.normal, ⟨[(6, .c (.b p))], []⟩)) := by kernel_rfl
def h8x0s1 : Sg Tryz.prog 0 8 :=
 (h8x0s0 N).cut (A8x0x10 N) progOk (T17x0_ok N) fun L x hx => (raw8x0x10 N L).trans ((bind8x0x10 N ..).trans (alt1 x hx))
def F8x0 (v0 : LB) (v1 v2 : Int) (v4 v6 : LD) (v7 : Bool) (v8 : LD) (v9 : Int) (v10 : LB) (v11 v12 v13 v14 v15 v16 : Int) (v18 : LD) (k0 : Bool → Option R) : Option R :=
 bnd (G30x0 N v0 v1 v2 v4 v6 v7 v8 v9) fun y0 =>
 bif y0.isSome then
  bnd (G31x0 N v0 v1 v2 v4 v6 v8 v9) fun y1 =>
  bif y1.isSome then
   bnd (G8x0x10 N (y0.getD default).2.2.2.2.2.2.2.2.2 (y1.getD default).2.2.2.2.2.2.2.2.2 (y1.getD default).1 (y1.getD default).2.1 (y1.getD default).2.2.1 (y1.getD default).2.2.2.1 (y1.getD default).2.2.2.2.1 (y1.getD default).2.2.2.2.2.1 (y1.getD default).2.2.2.2.2.2.1 (y1.getD default).2.2.2.2.2.2.2.2.1 (y0.getD default).1 (y0.getD default).2.1 (y0.getD default).2.2.1 (y0.getD default).2.2.2.1 (y0.getD default).2.2.2.2.1 (y0.getD default).2.2.2.2.2.1 (y0.getD default).2.2.2.2.2.2.1 (y0.getD default).2.2.2.2.2.2.2.2.1 v10 v11 v12 v13 v14 v15 v16 v18) fun y2 =>
   bif y2.isSome then
    k0 (y2.getD default)
   else
    none
  else
   none
 else
  none
def G8x0 (v0 : LB) (v1 v2 : Int) (v4 v6 : LD) (v7 : Bool) (v8 : LD) (v9 : Int) (v10 : LB) (v11 v12 v13 v14 v15 v16 : Int) (v18 : LD) : Option (Bool) := F8x0 N v0 v1 v2 v4 v6 v7 v8 v9 v10 v11 v12 v13 v14 v15 v16 v18 (fun p => some p)
theorem bind8x0 (v0 : LB) (v1 v2 : Int) (v4 v6 : LD) (v7 : Bool) (v8 : LD) (v9 : Int) (v10 : LB) (v11 v12 v13 v14 v15 v16 : Int) (v18 : LD) (k0 : Bool → Option R) : F8x0 N v0 v1 v2 v4 v6 v7 v8 v9 v10 v11 v12 v13 v14 v15 v16 v18 k0 = (G8x0 N v0 v1 v2 v4 v6 v7 v8 v9 v10 v11 v12 v13 v14 v15 v16 v18).bind k0 := by
 unfold G8x0 F8x0
 repeat' (first | with_reducible apply cond_b | (with_reducible apply bnd_b; intro _) | rfl)
def J8x0 (L : List Lf) (k0 : Bool → Option R) : Option R := F8x0 N (ls L 0) (li L 1) (li L 2) (ll L 4) (ll L 6) (lb L 7) (ll L 8) (li L 9) (ls L 10) (li L 11) (li L 12) (li L 13) (li L 14) (li L 15) (li L 16) (ll L 18) k0
def sh8x0 : Sh := { tmps := [(0, .g (.s :: [.i .i64, .i .i64, .sl 216, .sl 219, .sl 9])), (1, .c (.i .i64)), (2, .g (.s :: rI 6 ([.sl 9])))], mem := [] }
def A8x0 (L : List Lf) : List (Bool × Res) := bnd (J8x0 N L (fun p => some p)) fun q => [(q.isSome, ([.c (.b (q.getD default))], []))]
theorem raw8x0 (L : List Lf) : bd Tryz.prog (T17x0 N) (h8x0s1 N).h 8 sh8x0 L = J8x0 N L (fun p => some ([.c (.b p)], [])) := by kernel_rfl
theorem ok8x0 : FnOk Tryz.prog 8 sh8x0 (A8x0 N) :=
 (h8x0s1 N).fn progOk (T17x0_ok N) fun L x hx => ((raw8x0 N L).trans ((bind8x0 N ..).trans (alt1 x hx)))
def T8x0 : Oracle := ext 8 (spSh sh8x0 (A8x0 N)) (T17x0 N)
theorem T8x0_ok : OracleOk Tryz.prog (T8x0 N) := FnOk.to (ok8x0 N) (T17x0_ok N)
end
end Go.Proofs.YtmhaghcfopdifaaGreatDoor
