/- Functions of the program as plain Lean definitions, each with the proof that the program computes it. No condition. Printed by a program of the prover, part 1. -/
import Derived.Test.YtmhaghcfopdifaaGreatDoorHk1
import Derived.Test.YtmhaghcfopdifaaGreatDoorChecked
import Derived.KernelRfl
set_option linter.all false
set_option maxRecDepth 100000
namespace Go.Proofs.YtmhaghcfopdifaaGreatDoor
open Go Go.AM
noncomputable section
variable (N : Nat) {R : Type}
abbrev LD : Type := List D
abbrev LB : Type := List UInt8
abbrev Ty0 : Type := Int × Int × Int × LB
def sh196x0 : Sh := containsSh
def A196x0 (N : Nat) (L : List Lf) : List (Bool × Res) := containsA L
theorem ok196x0 : FnOk Tryz.prog 196 sh196x0 (A196x0 N) := contains_fn
def T196x0 : Oracle := ext 196 (spSh sh196x0 (A196x0 N)) noOracle
theorem T196x0_ok : OracleOk Tryz.prog (T196x0 N) := FnOk.to (ok196x0 N) noOracle_ok
abbrev Rc104x1 : Type := Int → Int → Int → Int → LB → Bool → LD → Option (Int)
def sh104x1 : Sh := { tmps := [(0, .g (.i .i64 :: [.i .i64, .i .i64, .i .i64, .s, .sl 24]))], mem := [] }
def B104x1 (N : Nat) (rc : Rc104x1) (L : List Lf) : List (Bool × Res) := bnd (rc (li L 0) (li L 1) (li L 2) (li L 3) (ls L 4) (lb L 5) (ll L 6)) fun q => [(q.isSome, ([.c (.i .i64 (q.getD default))], []))]
def O104x1 (rc : Rc104x1) : Oracle := ext 104 (spSh sh104x1 ((B104x1 N) rc)) (T196x0 N)
def rg104x1 : List (Nat × List Nat) := [(0, [0]), (1, [1]), (2, [1, 3]), (3, [9, 8, 7, 3]), (4, [7, 9, 3, 8]), (5, [3, 5, 9, 8, 7]), (6, [9, 8, 7, 3]), (7, [3])]
def hd104x1 : Hints := [(9, [9, 8, 7, 3], [], [])]
def h104x1s0 (rc : Rc104x1) (hR : OracleOk Tryz.prog ((O104x1 N) rc)) : Sg Tryz.prog 0 104 := .start hd104x1 rg104x1
def S104x1x9 (N : Nat) (rc : Rc104x1) (w2 : LD) (w3 : Int) (w0 w4 : Int) (kr : Int → Int → Option R) (k0 : Int → Option R) : Option R :=
 bif (decide (w4 < w3)) then
  bif (inB w4 w2.length) then
   bnd (rc ((w2.getD w4.toNat (.i 0)).cell 0).toI ((w2.getD w4.toNat (.i 0)).cell 1).toI ((w2.getD w4.toNat (.i 0)).cell 2).toI ((w2.getD w4.toNat (.i 0)).cell 3).toI ((w2.getD w4.toNat (.i 0)).cell 4).toS ((w2.getD w4.toNat (.i 0)).cell 5).isNil ((w2.getD w4.toNat (.i 0)).cell 5).items) fun y0 =>
   bif y0.isSome then
    kr (IntKind.wrap .i64 (w0 + (y0.getD default))) (IntKind.wrap .i64 (w4 + 1))
   else
    none
  else
   none
 else
  k0 w0
def L104x1x9 (N : Nat) (rc : Rc104x1) {R : Type} (w2 : LD) (w3 : Int) : Nat → Int → Int → (Int → Option R) → Option R
 | 0, _, _, _ => none
 | m + 1, w0, w4, k0 => S104x1x9 N rc w2 w3 w0 w4 (fun w0 w4 => L104x1x9 N rc w2 w3 m w0 w4 k0) k0
def G104x1x9 (rc : Rc104x1) (w2 : LD) (w3 : Int) (w0 w4 : Int) : Option (Int) := L104x1x9 N rc (R := (Int)) w2 w3 N w0 w4 (fun p => some p)
def J104x1x9 (rc : Rc104x1) (L x : List Lf) (kr : List Lf → Option R) (k0 : Int → Option R) : Option R := S104x1x9 N rc (ll L 2) (li L 3) (li x 0) (li x 1) (fun w0 w4 => kr [.i w0, .i w4]) k0
theorem sb104x1x9 (rc : Rc104x1) (L x : List Lf) (kr : List Lf → Option R) (k0 : Int → Option R) : J104x1x9 N rc L x kr k0 = (J104x1x9 N rc L x (fun y => some (.inl y)) (fun p => some (.inr p))).bind (sumE kr k0) := by
 unfold J104x1x9 S104x1x9
 repeat' (first | with_reducible apply cond_b | (with_reducible apply bnd_b; intro _) | rfl)
def Q104x1x9 (rc : Rc104x1) (L : List Lf) (m : Nat) (x : List Lf) : Option (Int) := L104x1x9 N rc (R := (Int)) (ll L 2) (li L 3) m (li x 0) (li x 1) (fun p => some p)
def sh104x1x9 : Sh := { tmps := [(3, .c (.i .i64)), (7, .c (.sl 24)), (8, .c (.i .i64)), (9, .c (.i .i64))], mem := [] }
def A104x1x9 (rc : Rc104x1) (L : List Lf) : List (Bool × (Ex × St)) := bnd (Q104x1x9 N rc L N (pk sh104x1x9 [0, 4] L)) fun q => [(q.isSome, ((.exit 0), ⟨[(3, .c (.i .i64 (q.getD default)))], []⟩))]
theorem step104x1x9 (rc : Rc104x1) (hR : OracleOk Tryz.prog ((O104x1 N) rc)) (m : Nat) (kn : St → Option (Ex × St)) (L x : List Lf) : lpB Tryz.prog ((O104x1 N) rc) ((h104x1s0 N) rc hR).h 0 104 9 sh104x1x9 [0, 4] [2, 3] [] (m + 100) kn L x = J104x1x9 N rc L x (fun y => kn (ofSh sh104x1x9 (mx sh104x1x9 [0, 4] L y))) (fun p => some ((.exit 0), ⟨[(3, .c (.i .i64 p))], []⟩)) := by kernel_rfl
theorem ql104x1x9 (rc : Rc104x1) (L : List Lf) (m : Nat) (x : List Lf) : Q104x1x9 N rc L (m + 1) x = J104x1x9 N rc L x (Q104x1x9 N rc L m) some := by kernel_rfl
def h104x1s1 (rc : Rc104x1) (hR : OracleOk Tryz.prog ((O104x1 N) rc)) : Sg Tryz.prog 0 104 :=
 ((h104x1s0 N) rc hR).lp ((A104x1x9 N) rc) N progOk hR (fun m kn L x => (step104x1x9 N rc hR m kn L x).trans (sb104x1x9 N rc L x _ _)) (fun L m x => (ql104x1x9 N rc L m x).trans (sb104x1x9 N rc L x (Q104x1x9 N rc L m) some)) fun L x hx => alt1 x hx
def F104x1 (rc : Rc104x1) (v0 v1 v2 v3 : Int) (v4 : LB) (v5 : Bool) (v6 : LD) (k0 : Int → Option R) : Option R :=
 bnd (G104x1x9 N rc v6 (v6.length : Int) 1 0) fun y0 =>
 bif y0.isSome then
  k0 (y0.getD default)
 else
  none
def G104x1 (rc : Rc104x1) (v0 v1 v2 v3 : Int) (v4 : LB) (v5 : Bool) (v6 : LD) : Option (Int) := F104x1 N rc v0 v1 v2 v3 v4 v5 v6 (fun p => some p)
theorem bind104x1 (rc : Rc104x1) (v0 v1 v2 v3 : Int) (v4 : LB) (v5 : Bool) (v6 : LD) (k0 : Int → Option R) : F104x1 N rc v0 v1 v2 v3 v4 v5 v6 k0 = (G104x1 N rc v0 v1 v2 v3 v4 v5 v6).bind k0 := by
 unfold G104x1 F104x1
 repeat' (first | with_reducible apply cond_b | (with_reducible apply bnd_b; intro _) | rfl)
def J104x1 (rc : Rc104x1) (L : List Lf) (k0 : Int → Option R) : Option R := F104x1 N rc (li L 0) (li L 1) (li L 2) (li L 3) (ls L 4) (lb L 5) (ll L 6) k0
theorem raw104x1 (rc : Rc104x1) (hR : OracleOk Tryz.prog ((O104x1 N) rc)) (L : List Lf) : bd Tryz.prog ((O104x1 N) rc) ((h104x1s1 N) rc hR).h 104 sh104x1 L = J104x1 N rc L (fun p => some ([.c (.i .i64 p)], [])) := by kernel_rfl
theorem fin104x1 (rc : Rc104x1) (hR : OracleOk Tryz.prog ((O104x1 N) rc)) (L : List Lf) (x : Res) (hx : altK ((B104x1 N) (fun v0 v1 v2 v3 v4 v5 v6 => G104x1 N rc v0 v1 v2 v3 v4 v5 v6) L) some = some x) : CallOk Tryz.prog 104 (valsOf (ofSh sh104x1 L).tmps) (ofSh sh104x1 L).mem x :=
 callOk_of (n := 200) progOk hR ((h104x1s1 N) rc hR).ok rfl ((raw104x1 N rc hR L).trans ((bind104x1 N rc ..).trans (alt1 x hx)))
def R104x1 (N : Nat) : Nat → Rc104x1
 | 0 => fun _ _ _ _ _ _ _ => none
 | m + 1 => fun v0 v1 v2 v3 v4 v5 v6 => G104x1 N (R104x1 N m) v0 v1 v2 v3 v4 v5 v6
theorem Rok104x1 (N : Nat) : ∀ m, OracleOk Tryz.prog ((O104x1 N) (R104x1 N m))
 | 0 => ext_ok (T196x0_ok N) (AM.enters_of (by kernel_rfl)) (spSh_law fun L x hx => by
  have h : (none : Option Res) = some x := hx
  cases h)
 | m + 1 => ext_ok (T196x0_ok N) (AM.enters_of (by kernel_rfl)) (spSh_law fun L x hx => fin104x1 N (R104x1 N m) (Rok104x1 N m) L x hx)
def T104x1 : Oracle := (O104x1 N) (R104x1 N N)
theorem T104x1_ok : OracleOk Tryz.prog (T104x1 N) := Rok104x1 N N
def rg109x0 : List (Nat × List Nat) := [(0, [0, 1, 2]), (1, [0, 1, 2])]
def hd109x0 : Hints := []
def h109x0s0 (N : Nat) : Sg Tryz.prog 0 109 := .start hd109x0 rg109x0
def F109x0 (N : Nat) (v0 v1 v2 : Int) (k0 : Bool → R) : R :=
 k0 (bif (decide (v0 ≥ v1)) then (decide (v0 ≤ v2)) else false)
def V109x0 (v0 v1 v2 : Int) : Bool := F109x0 N v0 v1 v2 (fun p => p)
theorem tot109x0 (v0 v1 v2 : Int) (k0 : Bool → R) : F109x0 N v0 v1 v2 k0 = k0 (V109x0 N v0 v1 v2) := by
 unfold V109x0 F109x0
 repeat' (first | rfl | apply cond_k | (apply bnd_k; intro _))
def sh109x0 : Sh := { tmps := [(0, .c (.i .i64)), (1, .c (.i .i64)), (2, .c (.i .i64))], mem := [] }
def A109x0 (L : List Lf) : List (Bool × Res) := bnd (F109x0 N (li L 0) (li L 1) (li L 2) (fun p => p)) fun q => [(true, ([.c (.b q)], []))]
theorem raw109x0 (L : List Lf) : bd Tryz.prog (T104x1 N) (h109x0s0 N).h 109 sh109x0 L = F109x0 N (li L 0) (li L 1) (li L 2) (fun p => some ([.c (.b p)], [])) := by kernel_rfl
theorem ok109x0 : FnOk Tryz.prog 109 sh109x0 (A109x0 N) :=
 (h109x0s0 N).fn progOk (T104x1_ok N) fun L x hx => ((raw109x0 N L).trans ((tot109x0 N ..).trans (alt0 _ _ hx)))
def T109x0 : Oracle := ext 109 (spSh sh109x0 (A109x0 N)) (T104x1 N)
theorem T109x0_ok : OracleOk Tryz.prog (T109x0 N) := FnOk.to (ok109x0 N) (T104x1_ok N)
def rg123x0 : List (Nat × List Nat) := [(0, [0]), (1, [0])]
def hd123x0 : Hints := []
def h123x0s0 (N : Nat) : Sg Tryz.prog 0 123 := .start hd123x0 rg123x0
def F123x0 (v0 : Int) (k0 : Bool → R) : R :=
 bnd (V109x0 N v0 1 7) fun y0 =>
 k0 y0
def V123x0 (v0 : Int) : Bool := F123x0 N v0 (fun p => p)
theorem tot123x0 (v0 : Int) (k0 : Bool → R) : F123x0 N v0 k0 = k0 (V123x0 N v0) := by
 unfold V123x0 F123x0
 repeat' (first | rfl | apply cond_k | (apply bnd_k; intro _))
def sh123x0 : Sh := { tmps := [(0, .c (.i .i64))], mem := [] }
def A123x0 (L : List Lf) : List (Bool × Res) := bnd (F123x0 N (li L 0) (fun p => p)) fun q => [(true, ([.c (.b q)], []))]
theorem raw123x0 (L : List Lf) : bd Tryz.prog (T109x0 N) (h123x0s0 N).h 123 sh123x0 L = F123x0 N (li L 0) (fun p => some ([.c (.b p)], [])) := by kernel_rfl
theorem ok123x0 : FnOk Tryz.prog 123 sh123x0 (A123x0 N) :=
 (h123x0s0 N).fn progOk (T109x0_ok N) fun L x hx => ((raw123x0 N L).trans ((tot123x0 N ..).trans (alt0 _ _ hx)))
def T123x0 : Oracle := ext 123 (spSh sh123x0 (A123x0 N)) (T109x0 N)
theorem T123x0_ok : OracleOk Tryz.prog (T123x0 N) := FnOk.to (ok123x0 N) (T109x0_ok N)
def rg210x0 : List (Nat × List Nat) := [(0, [0]), (1, [0])]
def hd210x0 : Hints := []
def h210x0s0 (N : Nat) : Sg Tryz.prog 0 210 := .start hd210x0 rg210x0
def F210x0 (N : Nat) (v0 : Int) (k0 : Bool → R) : R :=
 k0 (bif (decide (v0 ≥ 48)) then (decide (v0 ≤ 57)) else false)
def V210x0 (v0 : Int) : Bool := F210x0 N v0 (fun p => p)
theorem tot210x0 (v0 : Int) (k0 : Bool → R) : F210x0 N v0 k0 = k0 (V210x0 N v0) := by
 unfold V210x0 F210x0
 repeat' (first | rfl | apply cond_k | (apply bnd_k; intro _))
def sh210x0 : Sh := { tmps := [(0, .c (.i .u8))], mem := [] }
def A210x0 (L : List Lf) : List (Bool × Res) := bnd (F210x0 N (li L 0) (fun p => p)) fun q => [(true, ([.c (.b q)], []))]
theorem raw210x0 (L : List Lf) : bd Tryz.prog (T123x0 N) (h210x0s0 N).h 210 sh210x0 L = F210x0 N (li L 0) (fun p => some ([.c (.b p)], [])) := by kernel_rfl
theorem ok210x0 : FnOk Tryz.prog 210 sh210x0 (A210x0 N) :=
 (h210x0s0 N).fn progOk (T123x0_ok N) fun L x hx => ((raw210x0 N L).trans ((tot210x0 N ..).trans (alt0 _ _ hx)))
def T210x0 : Oracle := ext 210 (spSh sh210x0 (A210x0 N)) (T123x0 N)
theorem T210x0_ok : OracleOk Tryz.prog (T210x0 N) := FnOk.to (ok210x0 N) (T123x0_ok N)
def rg117x0 : List (Nat × List Nat) := [(0, [0]), (1, [0]), (2, [8, 7, 0]), (3, [8, 0, 7]), (4, [0, 3, 8, 7]), (5, [4, 8, 7, 0]), (6, [5, 4, 8, 7, 0]), (7, []), (8, [8, 7, 0]), (9, [0])]
def hd117x0 : Hints := [(6, [8, 7, 0], [], []), (19, [5, 4, 8, 7, 0], [], [])]
def h117x0s0 (N : Nat) : Sg Tryz.prog 0 117 := .start hd117x0 rg117x0
def F117x0x19 (w1 : Int) (w2 : Bool) (k0 : Bool → R) : R :=
 bif (!w2) then
  bnd (V210x0 N w1) fun y0 =>
  bnd (bif (bif (!y0) then (w1 != 45) else false) then (w1 != 95) else false) fun y1 =>
  k0 (bif y1 then (w1 != 46) else false)
 else
  k0 false
def V117x0x19 (w1 : Int) (w2 : Bool) : Bool := F117x0x19 N w1 w2 (fun p => p)
theorem tot117x0x19 (w1 : Int) (w2 : Bool) (k0 : Bool → R) : F117x0x19 N w1 w2 k0 = k0 (V117x0x19 N w1 w2) := by
 unfold V117x0x19 F117x0x19
 repeat' (first | rfl | apply cond_k | (apply bnd_k; intro _))
def sh117x0x19 : Sh := { tmps := [(0, .c (.s)), (4, .c (.i .u8)), (5, .c (.b)), (7, .c (.i .i64)), (8, .c (.i .i64))], mem := [] }
def K117x0x19w0 (L : List Lf) (p : Bool) : Ex × St := (.normal, mg (ofSh sh117x0x19 L) [0, 7, 8, 46] [(46, .c (.b p))] [] [])
def A117x0x19 (L : List Lf) : List (Bool × (Ex × St)) := bnd (F117x0x19 N (li L 1) (lb L 2) (fun p => p)) fun q => [(true, K117x0x19w0 L q)]
theorem raw117x0x19 (L : List Lf) : pc Tryz.prog (T210x0 N) (h117x0s0 N).h 0 100 117 19 sh117x0x19 L [8, 7, 0, 46] [] = F117x0x19 N (li L 1) (lb L 2) (fun p => some (K117x0x19w0 L p)) := by kernel_rfl
def h117x0s1 : Sg Tryz.prog 0 117 :=
 (h117x0s0 N).cut (A117x0x19 N) progOk (T210x0_ok N) fun L x hx => (raw117x0x19 N L).trans ((tot117x0x19 N ..).trans (alt0 _ _ hx))
def S117x0x6 (w0 : LB) (w1 : Int) (w2 : Int) (kr : Int → Option R) (k0 : Unit → Option R) (k1 : Unit → Option R) : Option R :=
 bif (decide (w2 < w1)) then
  bif (inB w2 w0.length) then
   bnd (bif (decide (((w0.getD w2.toNat 0).toNat : Int) ≥ 97)) then (decide (((w0.getD w2.toNat 0).toNat : Int) ≤ 122)) else false) fun y0 =>
   bnd (bif y0 then true else (bif (decide (((w0.getD w2.toNat 0).toNat : Int) ≥ 65)) then (decide (((w0.getD w2.toNat 0).toNat : Int) ≤ 90)) else false)) fun y1 =>
   bnd (V117x0x19 N ((w0.getD w2.toNat 0).toNat : Int) y1) fun y2 =>
   bif y2 then
    k0 ()
   else
    kr (IntKind.wrap .i64 (w2 + 1))
  else
   none
 else
  k1 ()
def L117x0x6 (N : Nat) {R : Type} (w0 : LB) (w1 : Int) : Nat → Int → (Unit → Option R) → (Unit → Option R) → Option R
 | 0, _, _, _ => none
 | m + 1, w2, k0, k1 => S117x0x6 N w0 w1 w2 (fun w2 => L117x0x6 N w0 w1 m w2 k0 k1) k0 k1
def G117x0x6 (w0 : LB) (w1 : Int) (w2 : Int) : Option (Sum (Unit) (Unit)) := L117x0x6 N (R := (Sum (Unit) (Unit))) w0 w1 N w2 (fun p => some (.inl p)) (fun p => some (.inr p))
def J117x0x6 (L x : List Lf) (kr : List Lf → Option R) (k0 : Unit → Option R) (k1 : Unit → Option R) : Option R := S117x0x6 N (ls L 0) (li L 1) (li x 0) (fun w2 => kr [.i w2]) k0 k1
theorem sb117x0x6 (L x : List Lf) (kr : List Lf → Option R) (k0 : Unit → Option R) (k1 : Unit → Option R) : J117x0x6 N L x kr k0 k1 = (J117x0x6 N L x (fun y => some (.inl y)) (fun p => some (.inr (.inl p))) (fun p => some (.inr (.inr p)))).bind (sumE kr (sumE k0 k1)) := by
 unfold J117x0x6 S117x0x6
 repeat' (first | with_reducible apply cond_b | (with_reducible apply bnd_b; intro _) | rfl)
def Q117x0x6 (L : List Lf) (m : Nat) (x : List Lf) : Option (Sum (Unit) (Unit)) := L117x0x6 N (R := (Sum (Unit) (Unit))) (ls L 0) (li L 1) m (li x 0) (fun p => some (.inl p)) (fun p => some (.inr p))
def sh117x0x6 : Sh := { tmps := [(0, .c (.s)), (7, .c (.i .i64)), (8, .c (.i .i64))], mem := [] }
def A117x0x6 (L : List Lf) : List (Bool × (Ex × St)) := bnd (Q117x0x6 N L N (pk sh117x0x6 [2] L)) fun q => [((inlB q), (.ret, ⟨[(2, .c (.b false))], []⟩)), ((inrQ q).isSome, ((.exit 0), ⟨[(0, .c (.s (ls L 0)))], []⟩))]
theorem step117x0x6 (m : Nat) (kn : St → Option (Ex × St)) (L x : List Lf) : lpB Tryz.prog (T210x0 N) (h117x0s1 N).h 0 117 6 sh117x0x6 [2] [2, 0] [] (m + 100) kn L x = J117x0x6 N L x (fun y => kn (ofSh sh117x0x6 (mx sh117x0x6 [2] L y))) (fun _ => some (.ret, ⟨[(2, .c (.b false))], []⟩)) (fun _ => some ((.exit 0), ⟨[(0, .c (.s (ls L 0)))], []⟩)) := by kernel_rfl
theorem ql117x0x6 (L : List Lf) (m : Nat) (x : List Lf) : Q117x0x6 N L (m + 1) x = J117x0x6 N L x (Q117x0x6 N L m) (fun p => some (.inl p)) (fun p => some (.inr p)) := by kernel_rfl
def h117x0s2 : Sg Tryz.prog 0 117 :=
 (h117x0s1 N).lp (A117x0x6 N) N progOk (T210x0_ok N) (fun m kn L x => (step117x0x6 N m kn L x).trans (sb117x0x6 N L x _ _ _)) (fun L m x => (ql117x0x6 N L m x).trans (sb117x0x6 N L x (Q117x0x6 N L m) (fun p => some (.inl p)) (fun p => some (.inr p)))) fun L x hx => (altS alt1) x hx
def F117x0 (v0 : LB) (k0 : Bool → Option R) : Option R :=
 bnd (G117x0x6 N v0 (v0.length : Int) 0) fun y0 =>
 bif (inlB y0) then
  k0 false
 else
  bif (inrQ y0).isSome then
   bnd (bif (decide ((v0.length : Int) ≥ 1)) then (decide ((v0.length : Int) ≤ 60)) else false) fun y1 =>
   k0 y1
  else
   none
def G117x0 (v0 : LB) : Option (Bool) := F117x0 N v0 (fun p => some p)
theorem bind117x0 (v0 : LB) (k0 : Bool → Option R) : F117x0 N v0 k0 = (G117x0 N v0).bind k0 := by
 unfold G117x0 F117x0
 repeat' (first | with_reducible apply cond_b | (with_reducible apply bnd_b; intro _) | rfl)
def sh117x0 : Sh := { tmps := [(0, .c (.s))], mem := [] }
def A117x0 (L : List Lf) : List (Bool × Res) := bnd (F117x0 N (ls L 0) (fun p => some p)) fun q => [(q.isSome, ([.c (.b (q.getD default))], []))]
theorem raw117x0 (L : List Lf) : bd Tryz.prog (T210x0 N) (h117x0s2 N).h 117 sh117x0 L = F117x0 N (ls L 0) (fun p => some ([.c (.b p)], [])) := by kernel_rfl
theorem ok117x0 : FnOk Tryz.prog 117 sh117x0 (A117x0 N) :=
 (h117x0s2 N).fn progOk (T210x0_ok N) fun L x hx => ((raw117x0 N L).trans ((bind117x0 N ..).trans (alt1 x hx)))
def T117x0 : Oracle := ext 117 (spSh sh117x0 (A117x0 N)) (T210x0 N)
theorem T117x0_ok : OracleOk Tryz.prog (T117x0 N) := FnOk.to (ok117x0 N) (T210x0_ok N)
def rg200x0 : List (Nat × List Nat) := [(0, [0, 1, 2]), (1, [0, 1, 2])]
def hd200x0 : Hints := []
def h200x0s0 (N : Nat) : Sg Tryz.prog 0 200 := .start hd200x0 rg200x0
def F200x0 (N : Nat) (v0 v1 v2 : Int) (k0 : Bool → R) : R :=
 k0 (bif (decide (v0 ≥ v1)) then (decide (v0 ≤ v2)) else false)
def V200x0 (v0 v1 v2 : Int) : Bool := F200x0 N v0 v1 v2 (fun p => p)
theorem tot200x0 (v0 v1 v2 : Int) (k0 : Bool → R) : F200x0 N v0 v1 v2 k0 = k0 (V200x0 N v0 v1 v2) := by
 unfold V200x0 F200x0
 repeat' (first | rfl | apply cond_k | (apply bnd_k; intro _))
def sh200x0 : Sh := { tmps := [(0, .c (.i .i64)), (1, .c (.i .i64)), (2, .c (.i .i64))], mem := [] }
def A200x0 (L : List Lf) : List (Bool × Res) := bnd (F200x0 N (li L 0) (li L 1) (li L 2) (fun p => p)) fun q => [(true, ([.c (.b q)], []))]
theorem raw200x0 (L : List Lf) : bd Tryz.prog (T117x0 N) (h200x0s0 N).h 200 sh200x0 L = F200x0 N (li L 0) (li L 1) (li L 2) (fun p => some ([.c (.b p)], [])) := by kernel_rfl
theorem ok200x0 : FnOk Tryz.prog 200 sh200x0 (A200x0 N) :=
 (h200x0s0 N).fn progOk (T117x0_ok N) fun L x hx => ((raw200x0 N L).trans ((tot200x0 N ..).trans (alt0 _ _ hx)))
def T200x0 : Oracle := ext 200 (spSh sh200x0 (A200x0 N)) (T117x0 N)
theorem T200x0_ok : OracleOk Tryz.prog (T200x0 N) := FnOk.to (ok200x0 N) (T117x0_ok N)
def rg202x0 : List (Nat × List Nat) := [(0, [0]), (1, [0]), (2, [6, 5, 0]), (3, [6, 0, 5]), (4, [0, 3, 6, 5]), (5, []), (6, [6, 5, 0]), (7, [0])]
def hd202x0 : Hints := [(6, [6, 5, 0], [], [])]
def h202x0s0 (N : Nat) : Sg Tryz.prog 0 202 := .start hd202x0 rg202x0
def S202x0x6 (w0 : LB) (w1 : Int) (w2 : Int) (kr : Int → Option R) (k0 : Unit → Option R) (k1 : Unit → Option R) : Option R :=
 bif (decide (w2 < w1)) then
  bif (inB w2 w0.length) then
   bnd (V200x0 N (IntKind.wrap .i64 ((w0.getD w2.toNat 0).toNat : Int)) 32 126) fun y0 =>
   bif (!y0) then
    k0 ()
   else
    kr (IntKind.wrap .i64 (w2 + 1))
  else
   none
 else
  k1 ()
def L202x0x6 (N : Nat) {R : Type} (w0 : LB) (w1 : Int) : Nat → Int → (Unit → Option R) → (Unit → Option R) → Option R
 | 0, _, _, _ => none
 | m + 1, w2, k0, k1 => S202x0x6 N w0 w1 w2 (fun w2 => L202x0x6 N w0 w1 m w2 k0 k1) k0 k1
def G202x0x6 (w0 : LB) (w1 : Int) (w2 : Int) : Option (Sum (Unit) (Unit)) := L202x0x6 N (R := (Sum (Unit) (Unit))) w0 w1 N w2 (fun p => some (.inl p)) (fun p => some (.inr p))
def J202x0x6 (L x : List Lf) (kr : List Lf → Option R) (k0 : Unit → Option R) (k1 : Unit → Option R) : Option R := S202x0x6 N (ls L 0) (li L 1) (li x 0) (fun w2 => kr [.i w2]) k0 k1
theorem sb202x0x6 (L x : List Lf) (kr : List Lf → Option R) (k0 : Unit → Option R) (k1 : Unit → Option R) : J202x0x6 N L x kr k0 k1 = (J202x0x6 N L x (fun y => some (.inl y)) (fun p => some (.inr (.inl p))) (fun p => some (.inr (.inr p)))).bind (sumE kr (sumE k0 k1)) := by
 unfold J202x0x6 S202x0x6
 repeat' (first | with_reducible apply cond_b | (with_reducible apply bnd_b; intro _) | rfl)
def Q202x0x6 (L : List Lf) (m : Nat) (x : List Lf) : Option (Sum (Unit) (Unit)) := L202x0x6 N (R := (Sum (Unit) (Unit))) (ls L 0) (li L 1) m (li x 0) (fun p => some (.inl p)) (fun p => some (.inr p))
def sh202x0x6 : Sh := { tmps := [(0, .c (.s)), (5, .c (.i .i64)), (6, .c (.i .i64))], mem := [] }
def A202x0x6 (L : List Lf) : List (Bool × (Ex × St)) := bnd (Q202x0x6 N L N (pk sh202x0x6 [2] L)) fun q => [((inlB q), (.ret, ⟨[(2, .c (.b false))], []⟩)), ((inrQ q).isSome, ((.exit 0), ⟨[(0, .c (.s (ls L 0)))], []⟩))]
theorem step202x0x6 (m : Nat) (kn : St → Option (Ex × St)) (L x : List Lf) : lpB Tryz.prog (T200x0 N) (h202x0s0 N).h 0 202 6 sh202x0x6 [2] [2, 0] [] (m + 100) kn L x = J202x0x6 N L x (fun y => kn (ofSh sh202x0x6 (mx sh202x0x6 [2] L y))) (fun _ => some (.ret, ⟨[(2, .c (.b false))], []⟩)) (fun _ => some ((.exit 0), ⟨[(0, .c (.s (ls L 0)))], []⟩)) := by kernel_rfl
theorem ql202x0x6 (L : List Lf) (m : Nat) (x : List Lf) : Q202x0x6 N L (m + 1) x = J202x0x6 N L x (Q202x0x6 N L m) (fun p => some (.inl p)) (fun p => some (.inr p)) := by kernel_rfl
def h202x0s1 : Sg Tryz.prog 0 202 :=
 (h202x0s0 N).lp (A202x0x6 N) N progOk (T200x0_ok N) (fun m kn L x => (step202x0x6 N m kn L x).trans (sb202x0x6 N L x _ _ _)) (fun L m x => (ql202x0x6 N L m x).trans (sb202x0x6 N L x (Q202x0x6 N L m) (fun p => some (.inl p)) (fun p => some (.inr p)))) fun L x hx => (altS alt1) x hx
def F202x0 (v0 : LB) (k0 : Bool → Option R) : Option R :=
 bnd (G202x0x6 N v0 (v0.length : Int) 0) fun y0 =>
 bif (inlB y0) then
  k0 false
 else
  bif (inrQ y0).isSome then
   k0 (decide ((v0.length : Int) ≤ 60))
  else
   none
def G202x0 (v0 : LB) : Option (Bool) := F202x0 N v0 (fun p => some p)
theorem bind202x0 (v0 : LB) (k0 : Bool → Option R) : F202x0 N v0 k0 = (G202x0 N v0).bind k0 := by
 unfold G202x0 F202x0
 repeat' (first | with_reducible apply cond_b | (with_reducible apply bnd_b; intro _) | rfl)
def sh202x0 : Sh := { tmps := [(0, .c (.s))], mem := [] }
def A202x0 (L : List Lf) : List (Bool × Res) := bnd (F202x0 N (ls L 0) (fun p => some p)) fun q => [(q.isSome, ([.c (.b (q.getD default))], []))]
theorem raw202x0 (L : List Lf) : bd Tryz.prog (T200x0 N) (h202x0s1 N).h 202 sh202x0 L = F202x0 N (ls L 0) (fun p => some ([.c (.b p)], [])) := by kernel_rfl
theorem ok202x0 : FnOk Tryz.prog 202 sh202x0 (A202x0 N) :=
 (h202x0s1 N).fn progOk (T200x0_ok N) fun L x hx => ((raw202x0 N L).trans ((bind202x0 N ..).trans (alt1 x hx)))
def T202x0 : Oracle := ext 202 (spSh sh202x0 (A202x0 N)) (T200x0 N)
theorem T202x0_ok : OracleOk Tryz.prog (T202x0 N) := FnOk.to (ok202x0 N) (T200x0_ok N)
def rg198x0 : List (Nat × List Nat) := [(0, [0]), (1, [0])]
def hd198x0 : Hints := [(4, [0], [], [])]
def h198x0s0 (N : Nat) : Sg Tryz.prog 0 198 := .start hd198x0 rg198x0
def F198x0x4 (w0 : LB) (k0 : Bool → Option R) : Option R :=
 bif (!(w0 == ([] : List UInt8))) then
  bnd (G202x0 N w0) fun y0 =>
  bif y0.isSome then
   k0 (y0.getD default)
  else
   none
 else
  k0 false
def G198x0x4 (w0 : LB) : Option (Bool) := F198x0x4 N w0 (fun p => some p)
theorem bind198x0x4 (w0 : LB) (k0 : Bool → Option R) : F198x0x4 N w0 k0 = (G198x0x4 N w0).bind k0 := by
 unfold G198x0x4 F198x0x4
 repeat' (first | with_reducible apply cond_b | (with_reducible apply bnd_b; intro _) | rfl)
def sh198x0x4 : Sh := { tmps := [(0, .c (.s))], mem := [] }
def A198x0x4 (L : List Lf) : List (Bool × (Ex × St)) := bnd (F198x0x4 N (ls L 0) (fun p => some p)) fun q => [(q.isSome, (.normal, ⟨[(2, .c (.b (q.getD default)))], []⟩))]
theorem raw198x0x4 (L : List Lf) : pc Tryz.prog (T202x0 N) (h198x0s0 N).h 0 100 198 4 sh198x0x4 L [2] [] = F198x0x4 N (ls L 0) (fun p => some (.normal, ⟨[(2, .c (.b p))], []⟩)) := by kernel_rfl
def h198x0s1 : Sg Tryz.prog 0 198 :=
 (h198x0s0 N).cut (A198x0x4 N) progOk (T202x0_ok N) fun L x hx => (raw198x0x4 N L).trans ((bind198x0x4 N ..).trans (alt1 x hx))
def F198x0 (v0 : LB) (k0 : Bool → Option R) : Option R :=
 bnd (G198x0x4 N v0) fun y0 =>
 bif y0.isSome then
  k0 (y0.getD default)
 else
  none
def G198x0 (v0 : LB) : Option (Bool) := F198x0 N v0 (fun p => some p)
theorem bind198x0 (v0 : LB) (k0 : Bool → Option R) : F198x0 N v0 k0 = (G198x0 N v0).bind k0 := by
 unfold G198x0 F198x0
 repeat' (first | with_reducible apply cond_b | (with_reducible apply bnd_b; intro _) | rfl)
def sh198x0 : Sh := { tmps := [(0, .c (.s))], mem := [] }
def A198x0 (L : List Lf) : List (Bool × Res) := bnd (F198x0 N (ls L 0) (fun p => some p)) fun q => [(q.isSome, ([.c (.b (q.getD default))], []))]
theorem raw198x0 (L : List Lf) : bd Tryz.prog (T202x0 N) (h198x0s1 N).h 198 sh198x0 L = F198x0 N (ls L 0) (fun p => some ([.c (.b p)], [])) := by kernel_rfl
theorem ok198x0 : FnOk Tryz.prog 198 sh198x0 (A198x0 N) :=
 (h198x0s1 N).fn progOk (T202x0_ok N) fun L x hx => ((raw198x0 N L).trans ((bind198x0 N ..).trans (alt1 x hx)))
def T198x0 : Oracle := ext 198 (spSh sh198x0 (A198x0 N)) (T202x0 N)
theorem T198x0_ok : OracleOk Tryz.prog (T198x0 N) := FnOk.to (ok198x0 N) (T202x0_ok N)
abbrev Rc105x1 : Type := Int → Int → Int → Int → LB → Bool → LD → Int → Option (Int)
def sh105x1 : Sh := { tmps := [(0, .g (.i .i64 :: [.i .i64, .i .i64, .i .i64, .s, .sl 24])), (1, .c (.i .i64))], mem := [] }
def B105x1 (N : Nat) (rc : Rc105x1) (L : List Lf) : List (Bool × Res) := bnd (rc (li L 0) (li L 1) (li L 2) (li L 3) (ls L 4) (lb L 5) (ll L 6) (li L 7)) fun q => [(q.isSome, ([.c (.i .i64 (q.getD default))], []))]
def O105x1 (rc : Rc105x1) : Oracle := ext 105 (spSh sh105x1 ((B105x1 N) rc)) (T198x0 N)
def rg105x1 : List (Nat × List Nat) := [(0, [0, 1]), (1, [2, 1]), (2, [2, 1, 5]), (3, [2, 6, 1, 7, 5]), (4, [2, 6, 8, 9, 1, 7, 5]), (6, [6, 2, 8, 9, 1, 7, 5]), (7, [7, 2, 6, 8, 9, 1, 5]), (9, [6, 2, 8, 9, 1, 7, 5]), (11, [8, 2, 9, 6, 1, 7, 5]), (13, [9, 2, 6, 1, 7, 8, 5]), (15, [6, 2, 1, 7, 8, 9, 5]), (16, [6, 7, 2, 1, 8, 9, 5]), (17, [8, 9, 2, 1, 5]), (18, [5, 2, 1]), (20, [2, 1]), (22, [1, 2]), (23, []), (21, []), (19, []), (14, []), (12, []), (10, []), (8, []), (5, []), (24, [2, 1]), (25, [144, 143, 142, 1]), (26, [142, 144, 1, 143]), (27, [11, 1, 144, 143, 142]), (28, [12, 144, 143, 142, 1]), (29, [12]), (30, [144, 143, 142, 1]), (31, [])]
def hd105x1 : Hints := [(19, [6, 2, 8, 9, 1, 7, 5], [2], []), (22, [7, 2, 6, 8, 9, 1, 5], [2], []), (21002, [6, 2, 8, 9, 1, 7, 5, 33], [2], []), (28, [6, 2, 8, 9, 1, 7, 5], [2], []), (34, [8, 2, 9, 6, 1, 7, 5], [2], []), (40, [9, 2, 6, 1, 7, 8, 5], [2], []), (54002, [2, 1, 85, 5], [2], []), (51002, [2, 1, 85, 8, 9, 5], [2], []), (48002, [2, 1, 85, 6, 7, 8, 9, 5], [2], []), (75, [144, 143, 142, 1], [], [])]
def h105x1s0 (rc : Rc105x1) (hR : OracleOk Tryz.prog ((O105x1 N) rc)) : Sg Tryz.prog 0 105 := .start hd105x1 rg105x1
def F105x1x19 (rc : Rc105x1) (w2 : Bool) (w7 : Int) (k0 : Bool → R) : R :=
 bif w2 then
  bnd (V123x0 N w7) fun y0 =>
  k0 (!y0)
 else
  k0 false
def V105x1x19 (rc : Rc105x1) (w2 : Bool) (w7 : Int) : Bool := F105x1x19 N rc w2 w7 (fun p => p)
theorem tot105x1x19 (rc : Rc105x1) (w2 : Bool) (w7 : Int) (k0 : Bool → R) : F105x1x19 N rc w2 w7 k0 = k0 (V105x1x19 N rc w2 w7) := by
 unfold V105x1x19 F105x1x19
 repeat' (first | rfl | apply cond_k | (apply bnd_k; intro _))
def sh105x1x19 : Sh := { tmps := [(1, .c (.i .i64)), (2, .c (.p 2 0)), (5, .c (.b)), (6, .c (.b)), (7, .c (.b)), (8, .c (.b)), (9, .c (.b))], mem := [(2, .box (.i .i64 :: [.i .i64, .i .i64, .i .i64, .s, .sl 24]))] }
def K105x1x19w0 (L : List Lf) (p : Bool) : Ex × St := (.normal, mg (ofSh sh105x1x19 L) [1, 2, 5, 6, 7, 8, 9, 33] [(33, .c (.b p))] [2] [])
def A105x1x19 (rc : Rc105x1) (L : List Lf) : List (Bool × (Ex × St)) := bnd (F105x1x19 N rc (lb L 2) (li L 7) (fun p => p)) fun q => [(true, K105x1x19w0 L q)]
theorem raw105x1x19 (rc : Rc105x1) (hR : OracleOk Tryz.prog ((O105x1 N) rc)) (L : List Lf) : pc Tryz.prog ((O105x1 N) rc) ((h105x1s0 N) rc hR).h 0 100 105 19 sh105x1x19 L [6, 2, 8, 9, 1, 7, 5, 33] [2] = F105x1x19 N rc (lb L 2) (li L 7) (fun p => some (K105x1x19w0 L p)) := by kernel_rfl
def h105x1s1 (rc : Rc105x1) (hR : OracleOk Tryz.prog ((O105x1 N) rc)) : Sg Tryz.prog 0 105 :=
 ((h105x1s0 N) rc hR).cut ((A105x1x19 N) rc) progOk hR fun L x hx => (raw105x1x19 N rc hR L).trans ((tot105x1x19 N rc ..).trans (alt0 _ _ hx))
def F105x1x22 (rc : Rc105x1) (w3 : Bool) (w8 : Int) (k0 : Bool → R) : R :=
 bif w3 then
  bnd (V109x0 N w8 1 5) fun y0 =>
  k0 (!y0)
 else
  k0 false
def V105x1x22 (rc : Rc105x1) (w3 : Bool) (w8 : Int) : Bool := F105x1x22 N rc w3 w8 (fun p => p)
theorem tot105x1x22 (rc : Rc105x1) (w3 : Bool) (w8 : Int) (k0 : Bool → R) : F105x1x22 N rc w3 w8 k0 = k0 (V105x1x22 N rc w3 w8) := by
 unfold V105x1x22 F105x1x22
 repeat' (first | rfl | apply cond_k | (apply bnd_k; intro _))
def sh105x1x22 : Sh := { tmps := [(1, .c (.i .i64)), (2, .c (.p 2 0)), (5, .c (.b)), (6, .c (.b)), (7, .c (.b)), (8, .c (.b)), (9, .c (.b))], mem := [(2, .box (.i .i64 :: [.i .i64, .i .i64, .i .i64, .s, .sl 24]))] }
def K105x1x22w0 (L : List Lf) (p : Bool) : Ex × St := (.normal, mg (ofSh sh105x1x22 L) [1, 2, 5, 6, 7, 8, 9, 33] [(33, .c (.b p))] [2] [])
def A105x1x22 (rc : Rc105x1) (L : List Lf) : List (Bool × (Ex × St)) := bnd (F105x1x22 N rc (lb L 3) (li L 8) (fun p => p)) fun q => [(true, K105x1x22w0 L q)]
theorem raw105x1x22 (rc : Rc105x1) (hR : OracleOk Tryz.prog ((O105x1 N) rc)) (L : List Lf) : pc Tryz.prog ((O105x1 N) rc) ((h105x1s1 N) rc hR).h 0 100 105 22 sh105x1x22 L [6, 2, 8, 9, 1, 7, 5, 33] [2] = F105x1x22 N rc (lb L 3) (li L 8) (fun p => some (K105x1x22w0 L p)) := by kernel_rfl
def h105x1s2 (rc : Rc105x1) (hR : OracleOk Tryz.prog ((O105x1 N) rc)) : Sg Tryz.prog 0 105 :=
 ((h105x1s1 N) rc hR).cut ((A105x1x22 N) rc) progOk hR fun L x hx => (raw105x1x22 N rc hR L).trans ((tot105x1x22 N rc ..).trans (alt0 _ _ hx))
def F105x1x21002 (rc : Rc105x1) (w3 w6 : Bool) (w9 : Int) (k0 : Bool → R) : R :=
 bif w6 then
  k0 true
 else
  bnd (V105x1x22 N rc w3 w9) fun y0 =>
  k0 y0
def V105x1x21002 (rc : Rc105x1) (w3 w6 : Bool) (w9 : Int) : Bool := F105x1x21002 N rc w3 w6 w9 (fun p => p)
theorem tot105x1x21002 (rc : Rc105x1) (w3 w6 : Bool) (w9 : Int) (k0 : Bool → R) : F105x1x21002 N rc w3 w6 w9 k0 = k0 (V105x1x21002 N rc w3 w6 w9) := by
 unfold V105x1x21002 F105x1x21002
 repeat' (first | rfl | apply cond_k | (apply bnd_k; intro _))
def sh105x1x21002 : Sh := { tmps := [(1, .c (.i .i64)), (2, .c (.p 2 0)), (5, .c (.b)), (6, .c (.b)), (7, .c (.b)), (8, .c (.b)), (9, .c (.b)), (33, .c (.b))], mem := [(2, .box (.i .i64 :: [.i .i64, .i .i64, .i .i64, .s, .sl 24]))] }
def K105x1x21002w0 (L : List Lf) (p : Bool) : Ex × St := (.normal, mg (ofSh sh105x1x21002 L) [1, 2, 5, 6, 7, 8, 9, 33] [(33, .c (.b p))] [2] [])
def A105x1x21002 (rc : Rc105x1) (L : List Lf) : List (Bool × (Ex × St)) := bnd (F105x1x21002 N rc (lb L 3) (lb L 6) (li L 9) (fun p => p)) fun q => [(true, K105x1x21002w0 L q)]
theorem raw105x1x21002 (rc : Rc105x1) (hR : OracleOk Tryz.prog ((O105x1 N) rc)) (L : List Lf) : pc Tryz.prog ((O105x1 N) rc) ((h105x1s2 N) rc hR).h 0 100 105 21002 sh105x1x21002 L [6, 2, 8, 9, 1, 7, 5, 33] [2] = F105x1x21002 N rc (lb L 3) (lb L 6) (li L 9) (fun p => some (K105x1x21002w0 L p)) := by kernel_rfl
def h105x1s3 (rc : Rc105x1) (hR : OracleOk Tryz.prog ((O105x1 N) rc)) : Sg Tryz.prog 0 105 :=
 ((h105x1s2 N) rc hR).cut ((A105x1x21002 N) rc) progOk hR fun L x hx => (raw105x1x21002 N rc hR L).trans ((tot105x1x21002 N rc ..).trans (alt0 _ _ hx))
def F105x1x28 (rc : Rc105x1) (w2 : Bool) (w8 w9 : Int) (k0 : Bool → R) : R :=
 bif w2 then
  bnd (V109x0 N w8 (-1000000000000000) 1000000000000000) fun y0 =>
  bif (!y0) then
   k0 true
  else
   bnd (V109x0 N w9 (-1000000000000000) 1000000000000000) fun y1 =>
   k0 (bif (!y1) then true else (decide (w8 > w9)))
 else
  k0 false
def V105x1x28 (rc : Rc105x1) (w2 : Bool) (w8 w9 : Int) : Bool := F105x1x28 N rc w2 w8 w9 (fun p => p)
theorem tot105x1x28 (rc : Rc105x1) (w2 : Bool) (w8 w9 : Int) (k0 : Bool → R) : F105x1x28 N rc w2 w8 w9 k0 = k0 (V105x1x28 N rc w2 w8 w9) := by
 unfold V105x1x28 F105x1x28
 repeat' (first | rfl | apply cond_k | (apply bnd_k; intro _))
def sh105x1x28 : Sh := { tmps := [(1, .c (.i .i64)), (2, .c (.p 2 0)), (5, .c (.b)), (6, .c (.b)), (7, .c (.b)), (8, .c (.b)), (9, .c (.b))], mem := [(2, .box (.i .i64 :: [.i .i64, .i .i64, .i .i64, .s, .sl 24]))] }
def K105x1x28w0 (L : List Lf) (p : Bool) : Ex × St := (.normal, mg (ofSh sh105x1x28 L) [1, 2, 5, 6, 7, 8, 9, 48] [(48, .c (.b p))] [2] [])
def A105x1x28 (rc : Rc105x1) (L : List Lf) : List (Bool × (Ex × St)) := bnd (F105x1x28 N rc (lb L 2) (li L 8) (li L 9) (fun p => p)) fun q => [(true, K105x1x28w0 L q)]
theorem raw105x1x28 (rc : Rc105x1) (hR : OracleOk Tryz.prog ((O105x1 N) rc)) (L : List Lf) : pc Tryz.prog ((O105x1 N) rc) ((h105x1s3 N) rc hR).h 0 100 105 28 sh105x1x28 L [8, 2, 9, 6, 1, 7, 5, 48] [2] = F105x1x28 N rc (lb L 2) (li L 8) (li L 9) (fun p => some (K105x1x28w0 L p)) := by kernel_rfl
def h105x1s4 (rc : Rc105x1) (hR : OracleOk Tryz.prog ((O105x1 N) rc)) : Sg Tryz.prog 0 105 :=
 ((h105x1s3 N) rc hR).cut ((A105x1x28 N) rc) progOk hR fun L x hx => (raw105x1x28 N rc hR L).trans ((tot105x1x28 N rc ..).trans (alt0 _ _ hx))
def F105x1x34 (rc : Rc105x1) (w4 : Bool) (w10 : LB) (k0 : Bool → Option R) : Option R :=
 bif w4 then
  bnd (G117x0 N w10) fun y0 =>
  bif y0.isSome then
   k0 (!(y0.getD default))
  else
   none
 else
  k0 false
def G105x1x34 (rc : Rc105x1) (w4 : Bool) (w10 : LB) : Option (Bool) := F105x1x34 N rc w4 w10 (fun p => some p)
theorem bind105x1x34 (rc : Rc105x1) (w4 : Bool) (w10 : LB) (k0 : Bool → Option R) : F105x1x34 N rc w4 w10 k0 = (G105x1x34 N rc w4 w10).bind k0 := by
 unfold G105x1x34 F105x1x34
 repeat' (first | with_reducible apply cond_b | (with_reducible apply bnd_b; intro _) | rfl)
def sh105x1x34 : Sh := { tmps := [(1, .c (.i .i64)), (2, .c (.p 2 0)), (5, .c (.b)), (6, .c (.b)), (7, .c (.b)), (8, .c (.b)), (9, .c (.b))], mem := [(2, .box (.i .i64 :: [.i .i64, .i .i64, .i .i64, .s, .sl 24]))] }
def K105x1x34w0 (L : List Lf) (p : Bool) : Ex × St := (.normal, mg (ofSh sh105x1x34 L) [1, 2, 5, 6, 7, 8, 9, 69] [(69, .c (.b p))] [2] [])
def A105x1x34 (rc : Rc105x1) (L : List Lf) : List (Bool × (Ex × St)) := bnd (F105x1x34 N rc (lb L 4) (ls L 10) (fun p => some p)) fun q => [(q.isSome, K105x1x34w0 L (q.getD default))]
theorem raw105x1x34 (rc : Rc105x1) (hR : OracleOk Tryz.prog ((O105x1 N) rc)) (L : List Lf) : pc Tryz.prog ((O105x1 N) rc) ((h105x1s4 N) rc hR).h 0 100 105 34 sh105x1x34 L [9, 2, 6, 1, 7, 8, 5, 69] [2] = F105x1x34 N rc (lb L 4) (ls L 10) (fun p => some (K105x1x34w0 L p)) := by kernel_rfl
def h105x1s5 (rc : Rc105x1) (hR : OracleOk Tryz.prog ((O105x1 N) rc)) : Sg Tryz.prog 0 105 :=
 ((h105x1s4 N) rc hR).cut ((A105x1x34 N) rc) progOk hR fun L x hx => (raw105x1x34 N rc hR L).trans ((bind105x1x34 N rc ..).trans (alt1 x hx))
def F105x1x40 (rc : Rc105x1) (w5 : Bool) (w10 : LB) (k0 : Bool → Option R) : Option R :=
 bif w5 then
  bnd (G198x0 N w10) fun y0 =>
  bif y0.isSome then
   k0 (!(y0.getD default))
  else
   none
 else
  k0 false
def G105x1x40 (rc : Rc105x1) (w5 : Bool) (w10 : LB) : Option (Bool) := F105x1x40 N rc w5 w10 (fun p => some p)
theorem bind105x1x40 (rc : Rc105x1) (w5 : Bool) (w10 : LB) (k0 : Bool → Option R) : F105x1x40 N rc w5 w10 k0 = (G105x1x40 N rc w5 w10).bind k0 := by
 unfold G105x1x40 F105x1x40
 repeat' (first | with_reducible apply cond_b | (with_reducible apply bnd_b; intro _) | rfl)
def sh105x1x40 : Sh := { tmps := [(1, .c (.i .i64)), (2, .c (.p 2 0)), (5, .c (.b)), (6, .c (.b)), (7, .c (.b)), (8, .c (.b)), (9, .c (.b))], mem := [(2, .box (.i .i64 :: [.i .i64, .i .i64, .i .i64, .s, .sl 24]))] }
def K105x1x40w0 (L : List Lf) (p : Bool) : Ex × St := (.normal, mg (ofSh sh105x1x40 L) [1, 2, 5, 6, 7, 8, 9, 77] [(77, .c (.b p))] [2] [])
def A105x1x40 (rc : Rc105x1) (L : List Lf) : List (Bool × (Ex × St)) := bnd (F105x1x40 N rc (lb L 5) (ls L 10) (fun p => some p)) fun q => [(q.isSome, K105x1x40w0 L (q.getD default))]
theorem raw105x1x40 (rc : Rc105x1) (hR : OracleOk Tryz.prog ((O105x1 N) rc)) (L : List Lf) : pc Tryz.prog ((O105x1 N) rc) ((h105x1s5 N) rc hR).h 0 100 105 40 sh105x1x40 L [6, 2, 1, 7, 8, 9, 5, 77] [2] = F105x1x40 N rc (lb L 5) (ls L 10) (fun p => some (K105x1x40w0 L p)) := by kernel_rfl
def h105x1s6 (rc : Rc105x1) (hR : OracleOk Tryz.prog ((O105x1 N) rc)) : Sg Tryz.prog 0 105 :=
 ((h105x1s5 N) rc hR).cut ((A105x1x40 N) rc) progOk hR fun L x hx => (raw105x1x40 N rc hR L).trans ((bind105x1x40 N rc ..).trans (alt1 x hx))
def F105x1x54002 (N : Nat) (rc : Rc105x1) (w1 w2 : Bool) (w9 : LD) (k0 : Bool → R) : R :=
 bif w2 then
  k0 true
 else
  k0 (bif (!w1) then (decide ((w9.length : Int) > 0)) else false)
def V105x1x54002 (rc : Rc105x1) (w1 w2 : Bool) (w9 : LD) : Bool := F105x1x54002 N rc w1 w2 w9 (fun p => p)
theorem tot105x1x54002 (rc : Rc105x1) (w1 w2 : Bool) (w9 : LD) (k0 : Bool → R) : F105x1x54002 N rc w1 w2 w9 k0 = k0 (V105x1x54002 N rc w1 w2 w9) := by
 unfold V105x1x54002 F105x1x54002
 repeat' (first | rfl | apply cond_k | (apply bnd_k; intro _))
def sh105x1x54002 : Sh := { tmps := [(1, .c (.i .i64)), (2, .c (.p 2 0)), (5, .c (.b)), (85, .c (.b))], mem := [(2, .box (.i .i64 :: [.i .i64, .i .i64, .i .i64, .s, .sl 24]))] }
def K105x1x54002w0 (L : List Lf) (p : Bool) : Ex × St := (.normal, mg (ofSh sh105x1x54002 L) [1, 2, 85] [(85, .c (.b p))] [2] [])
def A105x1x54002 (rc : Rc105x1) (L : List Lf) : List (Bool × (Ex × St)) := bnd (F105x1x54002 N rc (lb L 1) (lb L 2) (ll L 9) (fun p => p)) fun q => [(true, K105x1x54002w0 L q)]
theorem raw105x1x54002 (rc : Rc105x1) (hR : OracleOk Tryz.prog ((O105x1 N) rc)) (L : List Lf) : pc Tryz.prog ((O105x1 N) rc) ((h105x1s6 N) rc hR).h 0 100 105 54002 sh105x1x54002 L [2, 1, 85] [2] = F105x1x54002 N rc (lb L 1) (lb L 2) (ll L 9) (fun p => some (K105x1x54002w0 L p)) := by kernel_rfl
def h105x1s7 (rc : Rc105x1) (hR : OracleOk Tryz.prog ((O105x1 N) rc)) : Sg Tryz.prog 0 105 :=
 ((h105x1s6 N) rc hR).cut ((A105x1x54002 N) rc) progOk hR fun L x hx => (raw105x1x54002 N rc hR L).trans ((tot105x1x54002 N rc ..).trans (alt0 _ _ hx))
def F105x1x51002 (rc : Rc105x1) (w1 w2 w3 w4 : Bool) (w9 : LB) (w11 : LD) (k0 : Bool → R) : R :=
 bif w4 then
  k0 true
 else
  bnd (bif (bif (!w2) then (!w3) else false) then (!(w9 == ([] : List UInt8))) else false) fun y0 =>
  bnd (V105x1x54002 N rc w1 y0 w11) fun y1 =>
  k0 y1
def V105x1x51002 (rc : Rc105x1) (w1 w2 w3 w4 : Bool) (w9 : LB) (w11 : LD) : Bool := F105x1x51002 N rc w1 w2 w3 w4 w9 w11 (fun p => p)
theorem tot105x1x51002 (rc : Rc105x1) (w1 w2 w3 w4 : Bool) (w9 : LB) (w11 : LD) (k0 : Bool → R) : F105x1x51002 N rc w1 w2 w3 w4 w9 w11 k0 = k0 (V105x1x51002 N rc w1 w2 w3 w4 w9 w11) := by
 unfold V105x1x51002 F105x1x51002
 repeat' (first | rfl | apply cond_k | (apply bnd_k; intro _))
def J105x1x51002 (rc : Rc105x1) (L : List Lf) (k0 : Bool → R) : R := F105x1x51002 N rc (lb L 1) (lb L 2) (lb L 3) (lb L 4) (ls L 9) (ll L 11) k0
def sh105x1x51002 : Sh := { tmps := [(1, .c (.i .i64)), (2, .c (.p 2 0)), (5, .c (.b)), (8, .c (.b)), (9, .c (.b)), (85, .c (.b))], mem := [(2, .box (.i .i64 :: [.i .i64, .i .i64, .i .i64, .s, .sl 24]))] }
def K105x1x51002w0 (L : List Lf) (p : Bool) : Ex × St := (.normal, mg (ofSh sh105x1x51002 L) [1, 2, 85] [(85, .c (.b p))] [2] [])
def A105x1x51002 (rc : Rc105x1) (L : List Lf) : List (Bool × (Ex × St)) := bnd (J105x1x51002 N rc L (fun p => p)) fun q => [(true, K105x1x51002w0 L q)]
theorem raw105x1x51002 (rc : Rc105x1) (hR : OracleOk Tryz.prog ((O105x1 N) rc)) (L : List Lf) : pc Tryz.prog ((O105x1 N) rc) ((h105x1s7 N) rc hR).h 0 100 105 51002 sh105x1x51002 L [2, 1, 85] [2] = J105x1x51002 N rc L (fun p => some (K105x1x51002w0 L p)) := by kernel_rfl
def h105x1s8 (rc : Rc105x1) (hR : OracleOk Tryz.prog ((O105x1 N) rc)) : Sg Tryz.prog 0 105 :=
 ((h105x1s7 N) rc hR).cut ((A105x1x51002 N) rc) progOk hR fun L x hx => (raw105x1x51002 N rc hR L).trans ((tot105x1x51002 N rc ..).trans (alt0 _ _ hx))
def F105x1x48002 (rc : Rc105x1) (w1 w2 w3 w4 w5 w6 : Bool) (w9 : Int) (w11 : LB) (w13 : LD) (k0 : Bool → R) : R :=
 bif w6 then
  k0 true
 else
  bnd (bif (bif (!w2) then (!w3) else false) then (w9 != 0) else false) fun y0 =>
  bnd (V105x1x51002 N rc w1 w4 w5 y0 w11 w13) fun y1 =>
  k0 y1
def V105x1x48002 (rc : Rc105x1) (w1 w2 w3 w4 w5 w6 : Bool) (w9 : Int) (w11 : LB) (w13 : LD) : Bool := F105x1x48002 N rc w1 w2 w3 w4 w5 w6 w9 w11 w13 (fun p => p)
theorem tot105x1x48002 (rc : Rc105x1) (w1 w2 w3 w4 w5 w6 : Bool) (w9 : Int) (w11 : LB) (w13 : LD) (k0 : Bool → R) : F105x1x48002 N rc w1 w2 w3 w4 w5 w6 w9 w11 w13 k0 = k0 (V105x1x48002 N rc w1 w2 w3 w4 w5 w6 w9 w11 w13) := by
 unfold V105x1x48002 F105x1x48002
 repeat' (first | rfl | apply cond_k | (apply bnd_k; intro _))
def J105x1x48002 (rc : Rc105x1) (L : List Lf) (k0 : Bool → R) : R := F105x1x48002 N rc (lb L 1) (lb L 2) (lb L 3) (lb L 4) (lb L 5) (lb L 6) (li L 9) (ls L 11) (ll L 13) k0
def sh105x1x48002 : Sh := { tmps := [(1, .c (.i .i64)), (2, .c (.p 2 0)), (5, .c (.b)), (6, .c (.b)), (7, .c (.b)), (8, .c (.b)), (9, .c (.b)), (85, .c (.b))], mem := [(2, .box (.i .i64 :: [.i .i64, .i .i64, .i .i64, .s, .sl 24]))] }
def K105x1x48002w0 (L : List Lf) (p : Bool) : Ex × St := (.normal, mg (ofSh sh105x1x48002 L) [1, 2, 85] [(85, .c (.b p))] [2] [])
def A105x1x48002 (rc : Rc105x1) (L : List Lf) : List (Bool × (Ex × St)) := bnd (J105x1x48002 N rc L (fun p => p)) fun q => [(true, K105x1x48002w0 L q)]
theorem raw105x1x48002 (rc : Rc105x1) (hR : OracleOk Tryz.prog ((O105x1 N) rc)) (L : List Lf) : pc Tryz.prog ((O105x1 N) rc) ((h105x1s8 N) rc hR).h 0 100 105 48002 sh105x1x48002 L [2, 1, 85] [2] = J105x1x48002 N rc L (fun p => some (K105x1x48002w0 L p)) := by kernel_rfl
def h105x1s9 (rc : Rc105x1) (hR : OracleOk Tryz.prog ((O105x1 N) rc)) : Sg Tryz.prog 0 105 :=
 ((h105x1s8 N) rc hR).cut ((A105x1x48002 N) rc) progOk hR fun L x hx => (raw105x1x48002 N rc hR L).trans ((tot105x1x48002 N rc ..).trans (alt0 _ _ hx))
def S105x1x75 (N : Nat) (rc : Rc105x1) (w0 : Int) (w2 : LD) (w3 : Int) (w4 : Int) (kr : Int → Option R) (k0 : Int → Option R) (k1 : Unit → Option R) : Option R :=
 bif (decide (w4 < w3)) then
  bif (inB w4 w2.length) then
   bnd (rc ((w2.getD w4.toNat (.i 0)).cell 0).toI ((w2.getD w4.toNat (.i 0)).cell 1).toI ((w2.getD w4.toNat (.i 0)).cell 2).toI ((w2.getD w4.toNat (.i 0)).cell 3).toI ((w2.getD w4.toNat (.i 0)).cell 4).toS ((w2.getD w4.toNat (.i 0)).cell 5).isNil ((w2.getD w4.toNat (.i 0)).cell 5).items (IntKind.wrap .i64 (w0 + 1))) fun y0 =>
   bif y0.isSome then
    bif ((y0.getD default) != 0) then
     k0 (y0.getD default)
    else
     kr (IntKind.wrap .i64 (w4 + 1))
   else
    none
  else
   none
 else
  k1 ()
def L105x1x75 (N : Nat) (rc : Rc105x1) {R : Type} (w0 : Int) (w2 : LD) (w3 : Int) : Nat → Int → (Int → Option R) → (Unit → Option R) → Option R
 | 0, _, _, _ => none
 | m + 1, w4, k0, k1 => S105x1x75 N rc w0 w2 w3 w4 (fun w4 => L105x1x75 N rc w0 w2 w3 m w4 k0 k1) k0 k1
def G105x1x75 (rc : Rc105x1) (w0 : Int) (w2 : LD) (w3 : Int) (w4 : Int) : Option (Sum (Int) (Unit)) := L105x1x75 N rc (R := (Sum (Int) (Unit))) w0 w2 w3 N w4 (fun p => some (.inl p)) (fun p => some (.inr p))
def J105x1x75 (rc : Rc105x1) (L x : List Lf) (kr : List Lf → Option R) (k0 : Int → Option R) (k1 : Unit → Option R) : Option R := S105x1x75 N rc (li L 0) (ll L 2) (li L 3) (li x 0) (fun w4 => kr [.i w4]) k0 k1
theorem sb105x1x75 (rc : Rc105x1) (L x : List Lf) (kr : List Lf → Option R) (k0 : Int → Option R) (k1 : Unit → Option R) : J105x1x75 N rc L x kr k0 k1 = (J105x1x75 N rc L x (fun y => some (.inl y)) (fun p => some (.inr (.inl p))) (fun p => some (.inr (.inr p)))).bind (sumE kr (sumE k0 k1)) := by
 unfold J105x1x75 S105x1x75
 repeat' (first | with_reducible apply cond_b | (with_reducible apply bnd_b; intro _) | rfl)
def Q105x1x75 (rc : Rc105x1) (L : List Lf) (m : Nat) (x : List Lf) : Option (Sum (Int) (Unit)) := L105x1x75 N rc (R := (Sum (Int) (Unit))) (li L 0) (ll L 2) (li L 3) m (li x 0) (fun p => some (.inl p)) (fun p => some (.inr p))
def sh105x1x75 : Sh := { tmps := [(1, .c (.i .i64)), (142, .c (.sl 24)), (143, .c (.i .i64)), (144, .c (.i .i64))], mem := [] }
def A105x1x75 (rc : Rc105x1) (L : List Lf) : List (Bool × (Ex × St)) := bnd (Q105x1x75 N rc L N (pk sh105x1x75 [4] L)) fun q => [((inlB q), (.ret, ⟨[(4, .c (.i .i64 (inlV q)))], []⟩)), ((inrQ q).isSome, ((.exit 1), ⟨[], []⟩))]
theorem step105x1x75 (rc : Rc105x1) (hR : OracleOk Tryz.prog ((O105x1 N) rc)) (m : Nat) (kn : St → Option (Ex × St)) (L x : List Lf) : lpB Tryz.prog ((O105x1 N) rc) ((h105x1s9 N) rc hR).h 0 105 75 sh105x1x75 [4] [4] [] (m + 100) kn L x = J105x1x75 N rc L x (fun y => kn (ofSh sh105x1x75 (mx sh105x1x75 [4] L y))) (fun p => some (.ret, ⟨[(4, .c (.i .i64 p))], []⟩)) (fun _ => some ((.exit 1), ⟨[], []⟩)) := by kernel_rfl
theorem ql105x1x75 (rc : Rc105x1) (L : List Lf) (m : Nat) (x : List Lf) : Q105x1x75 N rc L (m + 1) x = J105x1x75 N rc L x (Q105x1x75 N rc L m) (fun p => some (.inl p)) (fun p => some (.inr p)) := by kernel_rfl
def h105x1s10 (rc : Rc105x1) (hR : OracleOk Tryz.prog ((O105x1 N) rc)) : Sg Tryz.prog 0 105 :=
 ((h105x1s9 N) rc hR).lp ((A105x1x75 N) rc) N progOk hR (fun m kn L x => (step105x1x75 N rc hR m kn L x).trans (sb105x1x75 N rc L x _ _ _)) (fun L m x => (ql105x1x75 N rc L m x).trans (sb105x1x75 N rc L x (Q105x1x75 N rc L m) (fun p => some (.inl p)) (fun p => some (.inr p)))) fun L x hx => (altS alt1) x hx
def F105x1 (rc : Rc105x1) (v0 v1 v2 v3 : Int) (v4 : LB) (v5 : Bool) (v6 : LD) (v7 : Int) (k0 : Int → Option R) : Option R :=
 bnd (V109x0 N v0 1 3) fun y0 =>
 bnd (V109x0 N v0 1 7) fun y1 =>
 bif (!y1) then
  k0 7
 else
  bnd (V105x1x19 N rc (v0 == 7) v1) fun y2 =>
  bnd (V105x1x21002 N rc (v0 == 4) y2 v2) fun y3 =>
  bif y3 then
   k0 7
  else
   bnd (V105x1x28 N rc (v0 == 7) v2 v3) fun y4 =>
   bif y4 then
    k0 9
   else
    bnd (G105x1x34 N rc (v0 == 5) v4) fun y5 =>
    bif y5.isSome then
     bif (y5.getD default) then
      k0 8
     else
      bnd (G105x1x40 N rc (v0 == 6) v4) fun y6 =>
      bif y6.isSome then
       bif (y6.getD default) then
        k0 2
       else
        bnd (bif (!(v0 == 7)) then (bif (v1 != 0) then true else (v3 != 0)) else false) fun y7 =>
        bnd (V105x1x48002 N rc y0 (v0 == 7) (v0 == 4) (v0 == 5) (v0 == 6) y7 v2 v4 v6) fun y8 =>
        bif y8 then
         k0 2
        else
         bif (bif (v0 == 3) then ((v6.length : Int) != 1) else false) then
          k0 2
         else
          bif (decide (v7 > 20)) then
           k0 3
          else
           bnd (G105x1x75 N rc v7 v6 (v6.length : Int) 0) fun y9 =>
           bif (inlB y9) then
            k0 (inlV y9)
           else
            bif (inrQ y9).isSome then
             k0 0
            else
             none
      else
       none
    else
     none
def G105x1 (rc : Rc105x1) (v0 v1 v2 v3 : Int) (v4 : LB) (v5 : Bool) (v6 : LD) (v7 : Int) : Option (Int) := F105x1 N rc v0 v1 v2 v3 v4 v5 v6 v7 (fun p => some p)
theorem bind105x1 (rc : Rc105x1) (v0 v1 v2 v3 : Int) (v4 : LB) (v5 : Bool) (v6 : LD) (v7 : Int) (k0 : Int → Option R) : F105x1 N rc v0 v1 v2 v3 v4 v5 v6 v7 k0 = (G105x1 N rc v0 v1 v2 v3 v4 v5 v6 v7).bind k0 := by
 unfold G105x1 F105x1
 repeat' (first | with_reducible apply cond_b | (with_reducible apply bnd_b; intro _) | rfl)
def J105x1 (rc : Rc105x1) (L : List Lf) (k0 : Int → Option R) : Option R := F105x1 N rc (li L 0) (li L 1) (li L 2) (li L 3) (ls L 4) (lb L 5) (ll L 6) (li L 7) k0
theorem raw105x1 (rc : Rc105x1) (hR : OracleOk Tryz.prog ((O105x1 N) rc)) (L : List Lf) : bd Tryz.prog ((O105x1 N) rc) ((h105x1s10 N) rc hR).h 105 sh105x1 L = J105x1 N rc L (fun p => some ([.c (.i .i64 p)], [])) := by kernel_rfl
theorem fin105x1 (rc : Rc105x1) (hR : OracleOk Tryz.prog ((O105x1 N) rc)) (L : List Lf) (x : Res) (hx : altK ((B105x1 N) (fun v0 v1 v2 v3 v4 v5 v6 v7 => G105x1 N rc v0 v1 v2 v3 v4 v5 v6 v7) L) some = some x) : CallOk Tryz.prog 105 (valsOf (ofSh sh105x1 L).tmps) (ofSh sh105x1 L).mem x :=
 callOk_of (n := 200) progOk hR ((h105x1s10 N) rc hR).ok rfl ((raw105x1 N rc hR L).trans ((bind105x1 N rc ..).trans (alt1 x hx)))
def R105x1 (N : Nat) : Nat → Rc105x1
 | 0 => fun _ _ _ _ _ _ _ _ => none
 | m + 1 => fun v0 v1 v2 v3 v4 v5 v6 v7 => G105x1 N (R105x1 N m) v0 v1 v2 v3 v4 v5 v6 v7
theorem Rok105x1 (N : Nat) : ∀ m, OracleOk Tryz.prog ((O105x1 N) (R105x1 N m))
 | 0 => ext_ok (T198x0_ok N) (AM.enters_of (by kernel_rfl)) (spSh_law fun L x hx => by
  have h : (none : Option Res) = some x := hx
  cases h)
 | m + 1 => ext_ok (T198x0_ok N) (AM.enters_of (by kernel_rfl)) (spSh_law fun L x hx => fin105x1 N (R105x1 N m) (Rok105x1 N m) L x hx)
def T105x1 : Oracle := (O105x1 N) (R105x1 N N)
theorem T105x1_ok : OracleOk Tryz.prog (T105x1 N) := Rok105x1 N N
def rg28x0 : List (Nat × List Nat) := [(0, [0]), (1, [1]), (2, []), (3, [1])]
def hd28x0 : Hints := []
def h28x0s0 (N : Nat) : Sg Tryz.prog 0 28 := .start hd28x0 rg28x0
def F28x0 (v0 v1 v2 v3 : Int) (v4 : LB) (v5 : Bool) (v6 : LD) (k0 : Int → Option R) : Option R :=
 bnd (R104x1 N N v0 v1 v2 v3 v4 v5 v6) fun y0 =>
 bif y0.isSome then
  bif (decide ((y0.getD default) > 100)) then
   k0 3
  else
   bnd (R105x1 N N v0 v1 v2 v3 v4 v5 v6 0) fun y1 =>
   bif y1.isSome then
    k0 (y1.getD default)
   else
    none
 else
  none
def G28x0 (v0 v1 v2 v3 : Int) (v4 : LB) (v5 : Bool) (v6 : LD) : Option (Int) := F28x0 N v0 v1 v2 v3 v4 v5 v6 (fun p => some p)
theorem bind28x0 (v0 v1 v2 v3 : Int) (v4 : LB) (v5 : Bool) (v6 : LD) (k0 : Int → Option R) : F28x0 N v0 v1 v2 v3 v4 v5 v6 k0 = (G28x0 N v0 v1 v2 v3 v4 v5 v6).bind k0 := by
 unfold G28x0 F28x0
 repeat' (first | with_reducible apply cond_b | (with_reducible apply bnd_b; intro _) | rfl)
def J28x0 (L : List Lf) (k0 : Int → Option R) : Option R := F28x0 N (li L 0) (li L 1) (li L 2) (li L 3) (ls L 4) (lb L 5) (ll L 6) k0
def sh28x0 : Sh := { tmps := [(0, .g (.i .i64 :: [.i .i64, .i .i64, .i .i64, .s, .sl 24]))], mem := [] }
def A28x0 (L : List Lf) : List (Bool × Res) := bnd (J28x0 N L (fun p => some p)) fun q => [(q.isSome, ([.c (.i .i64 (q.getD default))], []))]
theorem raw28x0 (L : List Lf) : bd Tryz.prog (T105x1 N) (h28x0s0 N).h 28 sh28x0 L = J28x0 N L (fun p => some ([.c (.i .i64 p)], [])) := by kernel_rfl
theorem ok28x0 : FnOk Tryz.prog 28 sh28x0 (A28x0 N) :=
 (h28x0s0 N).fn progOk (T105x1_ok N) fun L x hx => ((raw28x0 N L).trans ((bind28x0 N ..).trans (alt1 x hx)))
def T28x0 : Oracle := ext 28 (spSh sh28x0 (A28x0 N)) (T105x1 N)
theorem T28x0_ok : OracleOk Tryz.prog (T28x0 N) := FnOk.to (ok28x0 N) (T105x1_ok N)
def rg33x0 : List (Nat × List Nat) := [(0, [0]), (1, [1]), (3, [1]), (5, [1]), (6, []), (4, []), (2, []), (7, [1]), (8, [32, 31, 30, 1]), (9, [30, 32, 31, 1]), (10, [4, 32, 31, 30, 1]), (11, []), (12, [32, 31, 30, 1]), (13, [1]), (14, []), (15, [1]), (16, [47, 46, 45, 1]), (17, [47, 45, 1, 46]), (18, [6, 5, 1, 47, 46, 45]), (20, [5, 6, 1, 47, 46, 45]), (21, []), (19, []), (22, [47, 46, 45, 1]), (23, [])]
def hd33x0 : Hints := [(24, [32, 31, 30, 1], [30, 1], []), (48, [47, 46, 45, 1], [1], [])]
def h33x0s0 (N : Nat) : Sg Tryz.prog 0 33 := .start hd33x0 rg33x0
def S33x0x24 (w0 : Int) (w12 : LD) (w1 : Int) (kr : Int → Option R) (k0 : Unit → Option R) (k1 : Unit → Option R) : Option R :=
 bif (decide (w1 < w0)) then
  bif (inB w1 w12.length) then
   bif (decide (w1.toNat < w12.length)) then
    bnd (V109x0 N (w12.getD w1.toNat (.i 0)).toI 0 10000000000000) fun y0 =>
    bif (!y0) then
     k0 ()
    else
     kr (IntKind.wrap .i64 (w1 + 1))
   else
    none
  else
   none
 else
  k1 ()
def L33x0x24 (N : Nat) {R : Type} (w0 : Int) (w12 : LD) : Nat → Int → (Unit → Option R) → (Unit → Option R) → Option R
 | 0, _, _, _ => none
 | m + 1, w1, k0, k1 => S33x0x24 N w0 w12 w1 (fun w1 => L33x0x24 N w0 w12 m w1 k0 k1) k0 k1
def G33x0x24 (w0 : Int) (w12 : LD) (w1 : Int) : Option (Sum (Unit) (Unit)) := L33x0x24 N (R := (Sum (Unit) (Unit))) w0 w12 N w1 (fun p => some (.inl p)) (fun p => some (.inr p))
def J33x0x24 (L x : List Lf) (kr : List Lf → Option R) (k0 : Unit → Option R) (k1 : Unit → Option R) : Option R := S33x0x24 N (li L 0) (ll L 12) (li x 0) (fun w1 => kr [.i w1]) k0 k1
theorem sb33x0x24 (L x : List Lf) (kr : List Lf → Option R) (k0 : Unit → Option R) (k1 : Unit → Option R) : J33x0x24 N L x kr k0 k1 = (J33x0x24 N L x (fun y => some (.inl y)) (fun p => some (.inr (.inl p))) (fun p => some (.inr (.inr p)))).bind (sumE kr (sumE k0 k1)) := by
 unfold J33x0x24 S33x0x24
 repeat' (first | with_reducible apply cond_b | (with_reducible apply bnd_b; intro _) | rfl)
def Q33x0x24 (L : List Lf) (m : Nat) (x : List Lf) : Option (Sum (Unit) (Unit)) := L33x0x24 N (R := (Sum (Unit) (Unit))) (li L 0) (ll L 12) m (li x 0) (fun p => some (.inl p)) (fun p => some (.inr p))
def sh33x0x24 : Sh := { tmps := [(1, .c (.p 1 0)), (30, .c (.o 30)), (31, .c (.i .i64)), (32, .c (.i .i64))], mem := [(1, .box (.s :: rI 6 ([.sl 9]))), (30, .row 3 true)] }
def K33x0x24w0 (L : List Lf) (_ : Unit) : Ex × St := (.ret, mg (ofSh sh33x0x24 L) [2] [(2, .c (.i .i64 9))] [1] [])
def A33x0x24 (L : List Lf) : List (Bool × (Ex × St)) := bnd (Q33x0x24 N L N (pk sh33x0x24 [1] L)) fun q => [((inlB q), K33x0x24w0 L ()), ((inrQ q).isSome, ((.exit 1), mg (ofSh sh33x0x24 L) [1] [] [1] []))]
theorem step33x0x24 (m : Nat) (kn : St → Option (Ex × St)) (L x : List Lf) : lpB Tryz.prog (T28x0 N) (h33x0s0 N).h 0 33 24 sh33x0x24 [1] [2, 1] [1] (m + 100) kn L x = J33x0x24 N L x (fun y => kn (ofSh sh33x0x24 (mx sh33x0x24 [1] L y))) (fun _ => some (K33x0x24w0 L ())) (fun _ => some ((.exit 1), mg (ofSh sh33x0x24 L) [1] [] [1] [])) := by kernel_rfl
theorem ql33x0x24 (L : List Lf) (m : Nat) (x : List Lf) : Q33x0x24 N L (m + 1) x = J33x0x24 N L x (Q33x0x24 N L m) (fun p => some (.inl p)) (fun p => some (.inr p)) := by kernel_rfl
def h33x0s1 : Sg Tryz.prog 0 33 :=
 (h33x0s0 N).lp (A33x0x24 N) N progOk (T28x0_ok N) (fun m kn L x => (step33x0x24 N m kn L x).trans (sb33x0x24 N L x _ _ _)) (fun L m x => (ql33x0x24 N L m x).trans (sb33x0x24 N L x (Q33x0x24 N L m) (fun p => some (.inl p)) (fun p => some (.inr p)))) fun L x hx => (altS alt1) x hx
def S33x0x48 (w1 : LD) (w2 : Int) (w12 : LD) (w3 : Int) (kr : Int → Option R) (k0 : Int → Option R) (k1 : Unit → Option R) : Option R :=
 bif (decide (w3 < w2)) then
  bif (inB w3 w1.length) then
   bnd (G117x0 N (w1.getD w3.toNat (.i 0)).toS) fun y0 =>
   bif y0.isSome then
    bif (!(y0.getD default)) then
     k0 8
    else
     bif (bif (inB (IntKind.wrap .i64 (w3 - 1)) w12.length) then true else (!((decide (w3 > 0)) == true))) then
      bnd (bif (decide (w3 > 0)) then ((Op.bytesLess (w1.getD w3.toNat (.i 0)).toS (w12.getD (IntKind.wrap .i64 (w3 - 1)).toNat (.i 0)).toS) || ((w1.getD w3.toNat (.i 0)).toS == (w12.getD (IntKind.wrap .i64 (w3 - 1)).toNat (.i 0)).toS)) else false) fun y1 =>
      bif y1 then
       k0 10
      else
       kr (IntKind.wrap .i64 (w3 + 1))
     else
      none
   else
    none
  else
   none
 else
  k1 ()
def L33x0x48 (N : Nat) {R : Type} (w1 : LD) (w2 : Int) (w12 : LD) : Nat → Int → (Int → Option R) → (Unit → Option R) → Option R
 | 0, _, _, _ => none
 | m + 1, w3, k0, k1 => S33x0x48 N w1 w2 w12 w3 (fun w3 => L33x0x48 N w1 w2 w12 m w3 k0 k1) k0 k1
def G33x0x48 (w1 : LD) (w2 : Int) (w12 : LD) (w3 : Int) : Option (Sum (Int) (Unit)) := L33x0x48 N (R := (Sum (Int) (Unit))) w1 w2 w12 N w3 (fun p => some (.inl p)) (fun p => some (.inr p))
def J33x0x48 (L x : List Lf) (kr : List Lf → Option R) (k0 : Int → Option R) (k1 : Unit → Option R) : Option R := S33x0x48 N (ll L 1) (li L 2) (ll L 12) (li x 0) (fun w3 => kr [.i w3]) k0 k1
theorem sb33x0x48 (L x : List Lf) (kr : List Lf → Option R) (k0 : Int → Option R) (k1 : Unit → Option R) : J33x0x48 N L x kr k0 k1 = (J33x0x48 N L x (fun y => some (.inl y)) (fun p => some (.inr (.inl p))) (fun p => some (.inr (.inr p)))).bind (sumE kr (sumE k0 k1)) := by
 unfold J33x0x48 S33x0x48
 repeat' (first | with_reducible apply cond_b | (with_reducible apply bnd_b; intro _) | rfl)
def Q33x0x48 (L : List Lf) (m : Nat) (x : List Lf) : Option (Sum (Int) (Unit)) := L33x0x48 N (R := (Sum (Int) (Unit))) (ll L 1) (li L 2) (ll L 12) m (li x 0) (fun p => some (.inl p)) (fun p => some (.inr p))
def sh33x0x48 : Sh := { tmps := [(1, .c (.p 1 0)), (45, .c (.sl 9)), (46, .c (.i .i64)), (47, .c (.i .i64))], mem := [(1, .box (.s :: rI 6 ([.sl 9])))] }
def A33x0x48 (L : List Lf) : List (Bool × (Ex × St)) := bnd (Q33x0x48 N L N (pk sh33x0x48 [3] L)) fun q => [((inlB q), (.ret, ⟨[(2, .c (.i .i64 (inlV q)))], []⟩)), ((inrQ q).isSome, ((.exit 3), ⟨[], []⟩))]
theorem step33x0x48 (m : Nat) (kn : St → Option (Ex × St)) (L x : List Lf) : lpB Tryz.prog (T28x0 N) (h33x0s1 N).h 0 33 48 sh33x0x48 [3] [2] [] (m + 100) kn L x = J33x0x48 N L x (fun y => kn (ofSh sh33x0x48 (mx sh33x0x48 [3] L y))) (fun p => some (.ret, ⟨[(2, .c (.i .i64 p))], []⟩)) (fun _ => some ((.exit 3), ⟨[], []⟩)) := by kernel_rfl
theorem ql33x0x48 (L : List Lf) (m : Nat) (x : List Lf) : Q33x0x48 N L (m + 1) x = J33x0x48 N L x (Q33x0x48 N L m) (fun p => some (.inl p)) (fun p => some (.inr p)) := by kernel_rfl
def h33x0s2 : Sg Tryz.prog 0 33 :=
 (h33x0s1 N).lp (A33x0x48 N) N progOk (T28x0_ok N) (fun m kn L x => (step33x0x48 N m kn L x).trans (sb33x0x48 N L x _ _ _)) (fun L m x => (ql33x0x48 N L m x).trans (sb33x0x48 N L x (Q33x0x48 N L m) (fun p => some (.inl p)) (fun p => some (.inr p)))) fun L x hx => (altS alt1) x hx
def F33x0 (v0 : LB) (v1 v2 v3 v4 v5 v6 : Int) (v8 : LD) (k0 : Int → Option R) : Option R :=
 bnd (G117x0 N v0) fun y0 =>
 bif y0.isSome then
  bif (!(y0.getD default)) then
   k0 8
  else
   bnd (V109x0 N v1 1 5) fun y1 =>
   bif (!y1) then
    k0 7
   else
    bnd (V109x0 N v2 0 86399999999) fun y2 =>
    bif (!y2) then
     k0 9
    else
     bnd (G33x0x24 N 4 [(.i v3), (.i v4), (.i v5), (.i v6)] 0) fun y3 =>
     bif (inlB y3) then
      k0 9
     else
      bif (inrQ y3).isSome then
       bif (decide ((v8.length : Int) > 20)) then
        k0 3
       else
        bnd (G33x0x48 N v8 (v8.length : Int) v8 0) fun y4 =>
        bif (inlB y4) then
         k0 (inlV y4)
        else
         bif (inrQ y4).isSome then
          k0 0
         else
          none
      else
       none
 else
  none
def G33x0 (v0 : LB) (v1 v2 v3 v4 v5 v6 : Int) (v8 : LD) : Option (Int) := F33x0 N v0 v1 v2 v3 v4 v5 v6 v8 (fun p => some p)
theorem bind33x0 (v0 : LB) (v1 v2 v3 v4 v5 v6 : Int) (v8 : LD) (k0 : Int → Option R) : F33x0 N v0 v1 v2 v3 v4 v5 v6 v8 k0 = (G33x0 N v0 v1 v2 v3 v4 v5 v6 v8).bind k0 := by
 unfold G33x0 F33x0
 repeat' (first | with_reducible apply cond_b | (with_reducible apply bnd_b; intro _) | rfl)
def J33x0 (L : List Lf) (k0 : Int → Option R) : Option R := F33x0 N (ls L 0) (li L 1) (li L 2) (li L 3) (li L 4) (li L 5) (li L 6) (ll L 8) k0
def sh33x0 : Sh := { tmps := [(0, .g (.s :: rI 6 ([.sl 9])))], mem := [] }
def A33x0 (L : List Lf) : List (Bool × Res) := bnd (J33x0 N L (fun p => some p)) fun q => [(q.isSome, ([.c (.i .i64 (q.getD default))], []))]
theorem raw33x0 (L : List Lf) : bd Tryz.prog (T28x0 N) (h33x0s2 N).h 33 sh33x0 L = J33x0 N L (fun p => some ([.c (.i .i64 p)], [])) := by kernel_rfl
theorem ok33x0 : FnOk Tryz.prog 33 sh33x0 (A33x0 N) :=
 (h33x0s2 N).fn progOk (T28x0_ok N) fun L x hx => ((raw33x0 N L).trans ((bind33x0 N ..).trans (alt1 x hx)))
def T33x0 : Oracle := ext 33 (spSh sh33x0 (A33x0 N)) (T28x0 N)
theorem T33x0_ok : OracleOk Tryz.prog (T33x0 N) := FnOk.to (ok33x0 N) (T28x0_ok N)
def rg101x0 : List (Nat × List Nat) := [(0, [0]), (1, [0]), (2, [0, 3]), (3, [8, 7, 6, 3]), (4, [6, 8, 3, 7]), (5, [5, 3, 8, 7, 6]), (6, [5]), (7, [8, 7, 6, 3]), (8, [3])]
def hd101x0 : Hints := [(9, [8, 7, 6, 3], [], [])]
def h101x0s0 (N : Nat) : Sg Tryz.prog 0 101 := .start hd101x0 rg101x0
def S101x0x9 (N : Nat) (w0 : Int) (w2 : LD) (w3 : Int) (w4 : Int) (kr : Int → Option R) (k0 : Int → Option R) (k1 : Unit → Option R) : Option R :=
 bif (decide (w4 < w3)) then
  bif (inB w4 w2.length) then
   bif ((w2.getD w4.toNat (.i 0)).toI != w0) then
    k0 (w2.getD w4.toNat (.i 0)).toI
   else
    kr (IntKind.wrap .i64 (w4 + 1))
  else
   none
 else
  k1 ()
def L101x0x9 (N : Nat) {R : Type} (w0 : Int) (w2 : LD) (w3 : Int) : Nat → Int → (Int → Option R) → (Unit → Option R) → Option R
 | 0, _, _, _ => none
 | m + 1, w4, k0, k1 => S101x0x9 N w0 w2 w3 w4 (fun w4 => L101x0x9 N w0 w2 w3 m w4 k0 k1) k0 k1
def G101x0x9 (w0 : Int) (w2 : LD) (w3 : Int) (w4 : Int) : Option (Sum (Int) (Unit)) := L101x0x9 N (R := (Sum (Int) (Unit))) w0 w2 w3 N w4 (fun p => some (.inl p)) (fun p => some (.inr p))
def J101x0x9 (L x : List Lf) (kr : List Lf → Option R) (k0 : Int → Option R) (k1 : Unit → Option R) : Option R := S101x0x9 N (li L 0) (ll L 2) (li L 3) (li x 0) (fun w4 => kr [.i w4]) k0 k1
theorem sb101x0x9 (L x : List Lf) (kr : List Lf → Option R) (k0 : Int → Option R) (k1 : Unit → Option R) : J101x0x9 N L x kr k0 k1 = (J101x0x9 N L x (fun y => some (.inl y)) (fun p => some (.inr (.inl p))) (fun p => some (.inr (.inr p)))).bind (sumE kr (sumE k0 k1)) := by
 unfold J101x0x9 S101x0x9
 repeat' (first | with_reducible apply cond_b | (with_reducible apply bnd_b; intro _) | rfl)
def Q101x0x9 (L : List Lf) (m : Nat) (x : List Lf) : Option (Sum (Int) (Unit)) := L101x0x9 N (R := (Sum (Int) (Unit))) (li L 0) (ll L 2) (li L 3) m (li x 0) (fun p => some (.inl p)) (fun p => some (.inr p))
def sh101x0x9 : Sh := { tmps := [(3, .c (.i .i64)), (6, .c (.sl 25)), (7, .c (.i .i64)), (8, .c (.i .i64))], mem := [] }
def A101x0x9 (L : List Lf) : List (Bool × (Ex × St)) := bnd (Q101x0x9 N L N (pk sh101x0x9 [4] L)) fun q => [((inlB q), (.ret, ⟨[(2, .c (.i .i64 (inlV q)))], []⟩)), ((inrQ q).isSome, ((.exit 0), ⟨[(3, .c (.i .i64 (li L 0)))], []⟩))]
theorem step101x0x9 (m : Nat) (kn : St → Option (Ex × St)) (L x : List Lf) : lpB Tryz.prog (T33x0 N) (h101x0s0 N).h 0 101 9 sh101x0x9 [4] [2, 3] [] (m + 100) kn L x = J101x0x9 N L x (fun y => kn (ofSh sh101x0x9 (mx sh101x0x9 [4] L y))) (fun p => some (.ret, ⟨[(2, .c (.i .i64 p))], []⟩)) (fun _ => some ((.exit 0), ⟨[(3, .c (.i .i64 (li L 0)))], []⟩)) := by kernel_rfl
theorem ql101x0x9 (L : List Lf) (m : Nat) (x : List Lf) : Q101x0x9 N L (m + 1) x = J101x0x9 N L x (Q101x0x9 N L m) (fun p => some (.inl p)) (fun p => some (.inr p)) := by kernel_rfl
def h101x0s1 : Sg Tryz.prog 0 101 :=
 (h101x0s0 N).lp (A101x0x9 N) N progOk (T33x0_ok N) (fun m kn L x => (step101x0x9 N m kn L x).trans (sb101x0x9 N L x _ _ _)) (fun L m x => (ql101x0x9 N L m x).trans (sb101x0x9 N L x (Q101x0x9 N L m) (fun p => some (.inl p)) (fun p => some (.inr p)))) fun L x hx => (altS alt1) x hx
def F101x0 (v1 : LD) (k0 : Int → Option R) : Option R :=
 bnd (G101x0x9 N 0 v1 (v1.length : Int) 0) fun y0 =>
 bif (inlB y0) then
  k0 (inlV y0)
 else
  bif (inrQ y0).isSome then
   k0 0
  else
   none
def G101x0 (v1 : LD) : Option (Int) := F101x0 N v1 (fun p => some p)
theorem bind101x0 (v1 : LD) (k0 : Int → Option R) : F101x0 N v1 k0 = (G101x0 N v1).bind k0 := by
 unfold G101x0 F101x0
 repeat' (first | with_reducible apply cond_b | (with_reducible apply bnd_b; intro _) | rfl)
def sh101x0 : Sh := { tmps := [(0, .c (.sl 25))], mem := [] }
def A101x0 (L : List Lf) : List (Bool × Res) := bnd (F101x0 N (ll L 1) (fun p => some p)) fun q => [(q.isSome, ([.c (.i .i64 (q.getD default))], []))]
theorem raw101x0 (L : List Lf) : bd Tryz.prog (T33x0 N) (h101x0s1 N).h 101 sh101x0 L = F101x0 N (ll L 1) (fun p => some ([.c (.i .i64 p)], [])) := by kernel_rfl
theorem ok101x0 : FnOk Tryz.prog 101 sh101x0 (A101x0 N) :=
 (h101x0s1 N).fn progOk (T33x0_ok N) fun L x hx => ((raw101x0 N L).trans ((bind101x0 N ..).trans (alt1 x hx)))
def T101x0 : Oracle := ext 101 (spSh sh101x0 (A101x0 N)) (T33x0 N)
theorem T101x0_ok : OracleOk Tryz.prog (T101x0 N) := FnOk.to (ok101x0 N) (T33x0_ok N)
abbrev Rc102x1 : Type := Int → Int → Int → Int → LB → Bool → LD → LB → Int → Int → Int → Int → Int → Int → Bool → LD → Option (Bool)
def sh102x1 : Sh := { tmps := [(0, .g (.i .i64 :: [.i .i64, .i .i64, .i .i64, .s, .sl 24])), (1, .g (.s :: rI 6 ([.sl 9])))], mem := [] }
def B102x1 (N : Nat) (rc : Rc102x1) (L : List Lf) : List (Bool × Res) := bnd (rc (li L 0) (li L 1) (li L 2) (li L 3) (ls L 4) (lb L 5) (ll L 6) (ls L 7) (li L 8) (li L 9) (li L 10) (li L 11) (li L 12) (li L 13) (lb L 14) (ll L 15)) fun q => [(q.isSome, ([.c (.b (q.getD default))], []))]
def O102x1 (rc : Rc102x1) : Oracle := ext 102 (spSh sh102x1 ((B102x1 N) rc)) (T101x0 N)
def rg193x0 : List (Nat × List Nat) := [(0, [0, 1]), (1, [2, 1])]
def hd193x0 : Hints := []
def h193x0s0 (rc : Rc102x1) (hR : OracleOk Tryz.prog ((O102x1 N) rc)) : Sg Tryz.prog 1 193 := .start hd193x0 rg193x0
def F193x0 (N : Nat) (rc : Rc102x1) (v0 v1 v2 v3 : Int) (v4 : LB) (v5 : Bool) (v6 : LD) (v7 : LB) (v8 v9 v10 v11 v12 v13 : Int) (v14 : Bool) (v15 : LD) (k0 : Bool → Option R) : Option R :=
 bnd (rc v0 v1 v2 v3 v4 v5 v6 v7 v8 v9 v10 v11 v12 v13 v14 v15) fun y0 =>
 bif y0.isSome then
  k0 (y0.getD default)
 else
  none
def G193x0 (rc : Rc102x1) (v0 v1 v2 v3 : Int) (v4 : LB) (v5 : Bool) (v6 : LD) (v7 : LB) (v8 v9 v10 v11 v12 v13 : Int) (v14 : Bool) (v15 : LD) : Option (Bool) := F193x0 N rc v0 v1 v2 v3 v4 v5 v6 v7 v8 v9 v10 v11 v12 v13 v14 v15 (fun p => some p)
theorem bind193x0 (rc : Rc102x1) (v0 v1 v2 v3 : Int) (v4 : LB) (v5 : Bool) (v6 : LD) (v7 : LB) (v8 v9 v10 v11 v12 v13 : Int) (v14 : Bool) (v15 : LD) (k0 : Bool → Option R) : F193x0 N rc v0 v1 v2 v3 v4 v5 v6 v7 v8 v9 v10 v11 v12 v13 v14 v15 k0 = (G193x0 N rc v0 v1 v2 v3 v4 v5 v6 v7 v8 v9 v10 v11 v12 v13 v14 v15).bind k0 := by
 unfold G193x0 F193x0
 repeat' (first | with_reducible apply cond_b | (with_reducible apply bnd_b; intro _) | rfl)
def J193x0 (rc : Rc102x1) (L : List Lf) (k0 : Bool → Option R) : Option R := F193x0 N rc (li L 0) (li L 1) (li L 2) (li L 3) (ls L 4) (lb L 5) (ll L 6) (ls L 7) (li L 8) (li L 9) (li L 10) (li L 11) (li L 12) (li L 13) (lb L 14) (ll L 15) k0
def sh193x0 : Sh := { tmps := [(0, .g (.i .i64 :: [.i .i64, .i .i64, .i .i64, .s, .sl 24])), (1, .c (.p 0 0))], mem := [(0, .box (.s :: rI 6 ([.sl 9])))] }
def A193x0 (rc : Rc102x1) (L : List Lf) : List (Bool × Res) := bnd (J193x0 N rc L (fun p => some p)) fun q => [(q.isSome, ([.c (.b (q.getD default))], mgA (ofSh sh193x0 L).mem [] [0]))]
theorem raw193x0 (rc : Rc102x1) (hR : OracleOk Tryz.prog ((O102x1 N) rc)) (L : List Lf) : bd Tryz.prog ((O102x1 N) rc) ((h193x0s0 N) rc hR).h 193 sh193x0 L = J193x0 N rc L (fun p => some ([.c (.b p)], mgA (ofSh sh193x0 L).mem [] [0])) := by kernel_rfl
theorem ok193x0 (rc : Rc102x1) (hR : OracleOk Tryz.prog ((O102x1 N) rc)) : FnOk Tryz.prog 193 sh193x0 ((A193x0 N) rc) :=
 ((h193x0s0 N) rc hR).fn progOk hR fun L x hx => ((raw193x0 N rc hR L).trans ((bind193x0 N rc ..).trans (alt1 x hx)))
def T193x0 (rc : Rc102x1) : Oracle := ext 193 (spSh sh193x0 ((A193x0 N) rc)) ((O102x1 N) rc)
theorem T193x0_ok (rc : Rc102x1) (hR : OracleOk Tryz.prog ((O102x1 N) rc)) : OracleOk Tryz.prog ((T193x0 N) rc) := FnOk.to ((ok193x0 N) rc hR) hR
def rg194x0 : List (Nat × List Nat) := [(0, [0, 1]), (1, [1, 2])]
def hd194x0 : Hints := []
def h194x0s0 (rc : Rc102x1) (hR : OracleOk Tryz.prog ((O102x1 N) rc)) : Sg Tryz.prog 2 194 := .start hd194x0 rg194x0
def F194x0 (rc : Rc102x1) (v0 v1 v2 v3 : Int) (v4 : LB) (v5 : Bool) (v6 : LD) (v7 : LB) (v8 v9 v10 v11 v12 v13 : Int) (v14 : Bool) (v15 : LD) (k0 : Bool → Option R) : Option R :=
 bnd (G193x0 N rc v0 v1 v2 v3 v4 v5 v6 v7 v8 v9 v10 v11 v12 v13 v14 v15) fun y0 =>
 bif y0.isSome then
  k0 (!(y0.getD default))
 else
  none
def G194x0 (rc : Rc102x1) (v0 v1 v2 v3 : Int) (v4 : LB) (v5 : Bool) (v6 : LD) (v7 : LB) (v8 v9 v10 v11 v12 v13 : Int) (v14 : Bool) (v15 : LD) : Option (Bool) := F194x0 N rc v0 v1 v2 v3 v4 v5 v6 v7 v8 v9 v10 v11 v12 v13 v14 v15 (fun p => some p)
theorem bind194x0 (rc : Rc102x1) (v0 v1 v2 v3 : Int) (v4 : LB) (v5 : Bool) (v6 : LD) (v7 : LB) (v8 v9 v10 v11 v12 v13 : Int) (v14 : Bool) (v15 : LD) (k0 : Bool → Option R) : F194x0 N rc v0 v1 v2 v3 v4 v5 v6 v7 v8 v9 v10 v11 v12 v13 v14 v15 k0 = (G194x0 N rc v0 v1 v2 v3 v4 v5 v6 v7 v8 v9 v10 v11 v12 v13 v14 v15).bind k0 := by
 unfold G194x0 F194x0
 repeat' (first | with_reducible apply cond_b | (with_reducible apply bnd_b; intro _) | rfl)
def J194x0 (rc : Rc102x1) (L : List Lf) (k0 : Bool → Option R) : Option R := F194x0 N rc (li L 0) (li L 1) (li L 2) (li L 3) (ls L 4) (lb L 5) (ll L 6) (ls L 7) (li L 8) (li L 9) (li L 10) (li L 11) (li L 12) (li L 13) (lb L 14) (ll L 15) k0
def sh194x0 : Sh := { tmps := [(0, .g (.i .i64 :: [.i .i64, .i .i64, .i .i64, .s, .sl 24])), (1, .c (.p 0 0))], mem := [(0, .box ([.f 193 [(1, 0)]])), (1, .box (.s :: rI 6 ([.sl 9])))] }
def A194x0 (rc : Rc102x1) (L : List Lf) : List (Bool × Res) := bnd (J194x0 N rc L (fun p => some p)) fun q => [(q.isSome, ([.c (.b (q.getD default))], mgA (ofSh sh194x0 L).mem [] [0, 1]))]
theorem raw194x0 (rc : Rc102x1) (hR : OracleOk Tryz.prog ((O102x1 N) rc)) (L : List Lf) : bd Tryz.prog ((T193x0 N) rc) ((h194x0s0 N) rc hR).h 194 sh194x0 L = J194x0 N rc L (fun p => some ([.c (.b p)], mgA (ofSh sh194x0 L).mem [] [0, 1])) := by kernel_rfl
theorem ok194x0 (rc : Rc102x1) (hR : OracleOk Tryz.prog ((O102x1 N) rc)) : FnOk Tryz.prog 194 sh194x0 ((A194x0 N) rc) :=
 ((h194x0s0 N) rc hR).fn progOk ((T193x0_ok N) rc hR) fun L x hx => ((raw194x0 N rc hR L).trans ((bind194x0 N rc ..).trans (alt1 x hx)))
def T194x0 (rc : Rc102x1) : Oracle := ext 194 (spSh sh194x0 ((A194x0 N) rc)) ((T193x0 N) rc)
theorem T194x0_ok (rc : Rc102x1) (hR : OracleOk Tryz.prog ((O102x1 N) rc)) : OracleOk Tryz.prog ((T194x0 N) rc) := FnOk.to ((ok194x0 N) rc hR) ((T193x0_ok N) rc hR)
def rg220x0 : List (Nat × List Nat) := [(0, [0, 1]), (1, [0, 1]), (2, [8, 7, 1, 0]), (3, [8, 1, 0, 7]), (4, [1, 0, 5, 8, 7]), (5, [5]), (6, [8, 7, 1, 0]), (7, [])]
def hd220x0 : Hints := [(6, [8, 7, 1, 0], [1, 0], [])]
def h220x0s0 (rc : Rc102x1) (hR : OracleOk Tryz.prog ((O102x1 N) rc)) : Sg Tryz.prog 2 220 := .start hd220x0 rg220x0
def S220x0x6 (rc : Rc102x1) (w1 : LD) (w2 : Int) (w4 : LB) (w5 w6 w7 w8 w9 w10 : Int) (w11 : Bool) (w12 : LD) (w3 : Int) (kr : Int → Option R) (k0 : Int → Option R) (k1 : Unit → Option R) : Option R :=
 bif (decide (w3 < w2)) then
  bif (inB w3 w1.length) then
   bnd (G194x0 N rc ((w1.getD w3.toNat (.i 0)).cell 0).toI ((w1.getD w3.toNat (.i 0)).cell 1).toI ((w1.getD w3.toNat (.i 0)).cell 2).toI ((w1.getD w3.toNat (.i 0)).cell 3).toI ((w1.getD w3.toNat (.i 0)).cell 4).toS ((w1.getD w3.toNat (.i 0)).cell 5).isNil ((w1.getD w3.toNat (.i 0)).cell 5).items w4 w5 w6 w7 w8 w9 w10 w11 w12) fun y0 =>
   bif y0.isSome then
    bif (y0.getD default) then
     k0 w3
    else
     kr (IntKind.wrap .i64 (w3 + 1))
   else
    none
  else
   none
 else
  k1 ()
def L220x0x6 (N : Nat) (rc : Rc102x1) {R : Type} (w1 : LD) (w2 : Int) (w4 : LB) (w5 w6 w7 w8 w9 w10 : Int) (w11 : Bool) (w12 : LD) : Nat → Int → (Int → Option R) → (Unit → Option R) → Option R
 | 0, _, _, _ => none
 | m + 1, w3, k0, k1 => S220x0x6 N rc w1 w2 w4 w5 w6 w7 w8 w9 w10 w11 w12 w3 (fun w3 => L220x0x6 N rc w1 w2 w4 w5 w6 w7 w8 w9 w10 w11 w12 m w3 k0 k1) k0 k1
def G220x0x6 (rc : Rc102x1) (w1 : LD) (w2 : Int) (w4 : LB) (w5 w6 w7 w8 w9 w10 : Int) (w11 : Bool) (w12 : LD) (w3 : Int) : Option (Sum (Int) (Unit)) := L220x0x6 N rc (R := (Sum (Int) (Unit))) w1 w2 w4 w5 w6 w7 w8 w9 w10 w11 w12 N w3 (fun p => some (.inl p)) (fun p => some (.inr p))
def J220x0x6 (rc : Rc102x1) (L x : List Lf) (kr : List Lf → Option R) (k0 : Int → Option R) (k1 : Unit → Option R) : Option R := S220x0x6 N rc (ll L 1) (li L 2) (ls L 4) (li L 5) (li L 6) (li L 7) (li L 8) (li L 9) (li L 10) (lb L 11) (ll L 12) (li x 0) (fun w3 => kr [.i w3]) k0 k1
theorem sb220x0x6 (rc : Rc102x1) (L x : List Lf) (kr : List Lf → Option R) (k0 : Int → Option R) (k1 : Unit → Option R) : J220x0x6 N rc L x kr k0 k1 = (J220x0x6 N rc L x (fun y => some (.inl y)) (fun p => some (.inr (.inl p))) (fun p => some (.inr (.inr p)))).bind (sumE kr (sumE k0 k1)) := by
 unfold J220x0x6 S220x0x6
 repeat' (first | with_reducible apply cond_b | (with_reducible apply bnd_b; intro _) | rfl)
def Q220x0x6 (rc : Rc102x1) (L : List Lf) (m : Nat) (x : List Lf) : Option (Sum (Int) (Unit)) := L220x0x6 N rc (R := (Sum (Int) (Unit))) (ll L 1) (li L 2) (ls L 4) (li L 5) (li L 6) (li L 7) (li L 8) (li L 9) (li L 10) (lb L 11) (ll L 12) m (li x 0) (fun p => some (.inl p)) (fun p => some (.inr p))
def sh220x0x6 : Sh := { tmps := [(0, .c (.sl 24)), (1, .c (.f 194 [(0, 0)])), (7, .c (.i .i64)), (8, .c (.i .i64))], mem := [(0, .box ([.f 193 [(1, 0)]])), (1, .box (.s :: rI 6 ([.sl 9])))] }
def K220x0x6w0 (L : List Lf) (p : Int) : Ex × St := (.ret, mg (ofSh sh220x0x6 L) [4] [(4, .c (.i .i64 p))] [0, 1] [])
def A220x0x6 (rc : Rc102x1) (L : List Lf) : List (Bool × (Ex × St)) := bnd (Q220x0x6 N rc L N (pk sh220x0x6 [3] L)) fun q => [((inlB q), K220x0x6w0 L (inlV q)), ((inrQ q).isSome, ((.exit 0), mg (ofSh sh220x0x6 L) [] [] [0, 1] []))]
theorem step220x0x6 (rc : Rc102x1) (hR : OracleOk Tryz.prog ((O102x1 N) rc)) (m : Nat) (kn : St → Option (Ex × St)) (L x : List Lf) : lpB Tryz.prog ((T194x0 N) rc) ((h220x0s0 N) rc hR).h 2 220 6 sh220x0x6 [3] [4] [1, 0] (m + 100) kn L x = J220x0x6 N rc L x (fun y => kn (ofSh sh220x0x6 (mx sh220x0x6 [3] L y))) (fun p => some (K220x0x6w0 L p)) (fun _ => some ((.exit 0), mg (ofSh sh220x0x6 L) [] [] [0, 1] [])) := by kernel_rfl
theorem ql220x0x6 (rc : Rc102x1) (L : List Lf) (m : Nat) (x : List Lf) : Q220x0x6 N rc L (m + 1) x = J220x0x6 N rc L x (Q220x0x6 N rc L m) (fun p => some (.inl p)) (fun p => some (.inr p)) := by kernel_rfl
def h220x0s1 (rc : Rc102x1) (hR : OracleOk Tryz.prog ((O102x1 N) rc)) : Sg Tryz.prog 2 220 :=
 ((h220x0s0 N) rc hR).lp ((A220x0x6 N) rc) N progOk ((T194x0_ok N) rc hR) (fun m kn L x => (step220x0x6 N rc hR m kn L x).trans (sb220x0x6 N rc L x _ _ _)) (fun L m x => (ql220x0x6 N rc L m x).trans (sb220x0x6 N rc L x (Q220x0x6 N rc L m) (fun p => some (.inl p)) (fun p => some (.inr p)))) fun L x hx => (altS alt1) x hx
def F220x0 (rc : Rc102x1) (v1 : LD) (v2 : LB) (v3 v4 v5 v6 v7 v8 : Int) (v9 : Bool) (v10 : LD) (k0 : Int → Option R) : Option R :=
 bnd (G220x0x6 N rc v1 (v1.length : Int) v2 v3 v4 v5 v6 v7 v8 v9 v10 0) fun y0 =>
 bif (inlB y0) then
  k0 (inlV y0)
 else
  bif (inrQ y0).isSome then
   k0 (-1)
  else
   none
def G220x0 (rc : Rc102x1) (v1 : LD) (v2 : LB) (v3 v4 v5 v6 v7 v8 : Int) (v9 : Bool) (v10 : LD) : Option (Int) := F220x0 N rc v1 v2 v3 v4 v5 v6 v7 v8 v9 v10 (fun p => some p)
theorem bind220x0 (rc : Rc102x1) (v1 : LD) (v2 : LB) (v3 v4 v5 v6 v7 v8 : Int) (v9 : Bool) (v10 : LD) (k0 : Int → Option R) : F220x0 N rc v1 v2 v3 v4 v5 v6 v7 v8 v9 v10 k0 = (G220x0 N rc v1 v2 v3 v4 v5 v6 v7 v8 v9 v10).bind k0 := by
 unfold G220x0 F220x0
 repeat' (first | with_reducible apply cond_b | (with_reducible apply bnd_b; intro _) | rfl)
def J220x0 (rc : Rc102x1) (L : List Lf) (k0 : Int → Option R) : Option R := F220x0 N rc (ll L 1) (ls L 2) (li L 3) (li L 4) (li L 5) (li L 6) (li L 7) (li L 8) (lb L 9) (ll L 10) k0
def sh220x0 : Sh := { tmps := [(0, .c (.sl 24)), (1, .c (.f 194 [(0, 0)]))], mem := [(0, .box ([.f 193 [(1, 0)]])), (1, .box (.s :: rI 6 ([.sl 9])))] }
def A220x0 (rc : Rc102x1) (L : List Lf) : List (Bool × Res) := bnd (J220x0 N rc L (fun p => some p)) fun q => [(q.isSome, ([.c (.i .i64 (q.getD default))], mgA (ofSh sh220x0 L).mem [] [0, 1]))]
theorem raw220x0 (rc : Rc102x1) (hR : OracleOk Tryz.prog ((O102x1 N) rc)) (L : List Lf) : bd Tryz.prog ((T194x0 N) rc) ((h220x0s1 N) rc hR).h 220 sh220x0 L = J220x0 N rc L (fun p => some ([.c (.i .i64 p)], mgA (ofSh sh220x0 L).mem [] [0, 1])) := by kernel_rfl
theorem ok220x0 (rc : Rc102x1) (hR : OracleOk Tryz.prog ((O102x1 N) rc)) : FnOk Tryz.prog 220 sh220x0 ((A220x0 N) rc) :=
 ((h220x0s1 N) rc hR).fn progOk ((T194x0_ok N) rc hR) fun L x hx => ((raw220x0 N rc hR L).trans ((bind220x0 N rc ..).trans (alt1 x hx)))
def T220x0 (rc : Rc102x1) : Oracle := ext 220 (spSh sh220x0 ((A220x0 N) rc)) ((T194x0 N) rc)
theorem T220x0_ok (rc : Rc102x1) (hR : OracleOk Tryz.prog ((O102x1 N) rc)) : OracleOk Tryz.prog ((T220x0 N) rc) := FnOk.to ((ok220x0 N) rc hR) ((T194x0_ok N) rc hR)
def rg126x0 : List (Nat × List Nat) := [(0, [0, 1]), (1, [0, 1])]
def hd126x0 : Hints := []
def h126x0s0 (rc : Rc102x1) (hR : OracleOk Tryz.prog ((O102x1 N) rc)) : Sg Tryz.prog 2 126 := .start hd126x0 rg126x0
def F126x0 (rc : Rc102x1) (v1 : LD) (v2 : LB) (v3 v4 v5 v6 v7 v8 : Int) (v9 : Bool) (v10 : LD) (k0 : Bool → Option R) : Option R :=
 bnd (G220x0 N rc v1 v2 v3 v4 v5 v6 v7 v8 v9 v10) fun y0 =>
 bif y0.isSome then
  k0 (decide ((y0.getD default) ≥ 0))
 else
  none
def G126x0 (rc : Rc102x1) (v1 : LD) (v2 : LB) (v3 v4 v5 v6 v7 v8 : Int) (v9 : Bool) (v10 : LD) : Option (Bool) := F126x0 N rc v1 v2 v3 v4 v5 v6 v7 v8 v9 v10 (fun p => some p)
theorem bind126x0 (rc : Rc102x1) (v1 : LD) (v2 : LB) (v3 v4 v5 v6 v7 v8 : Int) (v9 : Bool) (v10 : LD) (k0 : Bool → Option R) : F126x0 N rc v1 v2 v3 v4 v5 v6 v7 v8 v9 v10 k0 = (G126x0 N rc v1 v2 v3 v4 v5 v6 v7 v8 v9 v10).bind k0 := by
 unfold G126x0 F126x0
 repeat' (first | with_reducible apply cond_b | (with_reducible apply bnd_b; intro _) | rfl)
def J126x0 (rc : Rc102x1) (L : List Lf) (k0 : Bool → Option R) : Option R := F126x0 N rc (ll L 1) (ls L 2) (li L 3) (li L 4) (li L 5) (li L 6) (li L 7) (li L 8) (lb L 9) (ll L 10) k0
def sh126x0 : Sh := { tmps := [(0, .c (.sl 24)), (1, .c (.f 194 [(0, 0)]))], mem := [(0, .box ([.f 193 [(1, 0)]])), (1, .box (.s :: rI 6 ([.sl 9])))] }
def A126x0 (rc : Rc102x1) (L : List Lf) : List (Bool × Res) := bnd (J126x0 N rc L (fun p => some p)) fun q => [(q.isSome, ([.c (.b (q.getD default))], mgA (ofSh sh126x0 L).mem [] [0, 1]))]
theorem raw126x0 (rc : Rc102x1) (hR : OracleOk Tryz.prog ((O102x1 N) rc)) (L : List Lf) : bd Tryz.prog ((T220x0 N) rc) ((h126x0s0 N) rc hR).h 126 sh126x0 L = J126x0 N rc L (fun p => some ([.c (.b p)], mgA (ofSh sh126x0 L).mem [] [0, 1])) := by kernel_rfl
theorem ok126x0 (rc : Rc102x1) (hR : OracleOk Tryz.prog ((O102x1 N) rc)) : FnOk Tryz.prog 126 sh126x0 ((A126x0 N) rc) :=
 ((h126x0s0 N) rc hR).fn progOk ((T220x0_ok N) rc hR) fun L x hx => ((raw126x0 N rc hR L).trans ((bind126x0 N rc ..).trans (alt1 x hx)))
def T126x0 (rc : Rc102x1) : Oracle := ext 126 (spSh sh126x0 ((A126x0 N) rc)) ((T220x0 N) rc)
theorem T126x0_ok (rc : Rc102x1) (hR : OracleOk Tryz.prog ((O102x1 N) rc)) : OracleOk Tryz.prog ((T126x0 N) rc) := FnOk.to ((ok126x0 N) rc hR) ((T220x0_ok N) rc hR)
def rg220x1 : List (Nat × List Nat) := [(0, [0, 1]), (1, [0, 1]), (2, [8, 7, 1, 0]), (3, [8, 1, 0, 7]), (4, [1, 0, 5, 8, 7]), (5, [5]), (6, [8, 7, 1, 0]), (7, [])]
def hd220x1 : Hints := [(6, [8, 7, 1, 0], [0], [])]
def h220x1s0 (rc : Rc102x1) (hR : OracleOk Tryz.prog ((O102x1 N) rc)) : Sg Tryz.prog 1 220 := .start hd220x1 rg220x1
def S220x1x6 (rc : Rc102x1) (w1 : LD) (w2 : Int) (w4 : LB) (w5 w6 w7 w8 w9 w10 : Int) (w11 : Bool) (w12 : LD) (w3 : Int) (kr : Int → Option R) (k0 : Int → Option R) (k1 : Unit → Option R) : Option R :=
 bif (decide (w3 < w2)) then
  bif (inB w3 w1.length) then
   bnd (G193x0 N rc ((w1.getD w3.toNat (.i 0)).cell 0).toI ((w1.getD w3.toNat (.i 0)).cell 1).toI ((w1.getD w3.toNat (.i 0)).cell 2).toI ((w1.getD w3.toNat (.i 0)).cell 3).toI ((w1.getD w3.toNat (.i 0)).cell 4).toS ((w1.getD w3.toNat (.i 0)).cell 5).isNil ((w1.getD w3.toNat (.i 0)).cell 5).items w4 w5 w6 w7 w8 w9 w10 w11 w12) fun y0 =>
   bif y0.isSome then
    bif (y0.getD default) then
     k0 w3
    else
     kr (IntKind.wrap .i64 (w3 + 1))
   else
    none
  else
   none
 else
  k1 ()
def L220x1x6 (N : Nat) (rc : Rc102x1) {R : Type} (w1 : LD) (w2 : Int) (w4 : LB) (w5 w6 w7 w8 w9 w10 : Int) (w11 : Bool) (w12 : LD) : Nat → Int → (Int → Option R) → (Unit → Option R) → Option R
 | 0, _, _, _ => none
 | m + 1, w3, k0, k1 => S220x1x6 N rc w1 w2 w4 w5 w6 w7 w8 w9 w10 w11 w12 w3 (fun w3 => L220x1x6 N rc w1 w2 w4 w5 w6 w7 w8 w9 w10 w11 w12 m w3 k0 k1) k0 k1
def G220x1x6 (rc : Rc102x1) (w1 : LD) (w2 : Int) (w4 : LB) (w5 w6 w7 w8 w9 w10 : Int) (w11 : Bool) (w12 : LD) (w3 : Int) : Option (Sum (Int) (Unit)) := L220x1x6 N rc (R := (Sum (Int) (Unit))) w1 w2 w4 w5 w6 w7 w8 w9 w10 w11 w12 N w3 (fun p => some (.inl p)) (fun p => some (.inr p))
def J220x1x6 (rc : Rc102x1) (L x : List Lf) (kr : List Lf → Option R) (k0 : Int → Option R) (k1 : Unit → Option R) : Option R := S220x1x6 N rc (ll L 1) (li L 2) (ls L 4) (li L 5) (li L 6) (li L 7) (li L 8) (li L 9) (li L 10) (lb L 11) (ll L 12) (li x 0) (fun w3 => kr [.i w3]) k0 k1
theorem sb220x1x6 (rc : Rc102x1) (L x : List Lf) (kr : List Lf → Option R) (k0 : Int → Option R) (k1 : Unit → Option R) : J220x1x6 N rc L x kr k0 k1 = (J220x1x6 N rc L x (fun y => some (.inl y)) (fun p => some (.inr (.inl p))) (fun p => some (.inr (.inr p)))).bind (sumE kr (sumE k0 k1)) := by
 unfold J220x1x6 S220x1x6
 repeat' (first | with_reducible apply cond_b | (with_reducible apply bnd_b; intro _) | rfl)
def Q220x1x6 (rc : Rc102x1) (L : List Lf) (m : Nat) (x : List Lf) : Option (Sum (Int) (Unit)) := L220x1x6 N rc (R := (Sum (Int) (Unit))) (ll L 1) (li L 2) (ls L 4) (li L 5) (li L 6) (li L 7) (li L 8) (li L 9) (li L 10) (lb L 11) (ll L 12) m (li x 0) (fun p => some (.inl p)) (fun p => some (.inr p))
def sh220x1x6 : Sh := { tmps := [(0, .c (.sl 24)), (1, .c (.f 193 [(0, 0)])), (7, .c (.i .i64)), (8, .c (.i .i64))], mem := [(0, .box (.s :: rI 6 ([.sl 9])))] }
def K220x1x6w0 (L : List Lf) (p : Int) : Ex × St := (.ret, mg (ofSh sh220x1x6 L) [4] [(4, .c (.i .i64 p))] [0] [])
def A220x1x6 (rc : Rc102x1) (L : List Lf) : List (Bool × (Ex × St)) := bnd (Q220x1x6 N rc L N (pk sh220x1x6 [3] L)) fun q => [((inlB q), K220x1x6w0 L (inlV q)), ((inrQ q).isSome, ((.exit 0), mg (ofSh sh220x1x6 L) [] [] [0] []))]
theorem step220x1x6 (rc : Rc102x1) (hR : OracleOk Tryz.prog ((O102x1 N) rc)) (m : Nat) (kn : St → Option (Ex × St)) (L x : List Lf) : lpB Tryz.prog ((T126x0 N) rc) ((h220x1s0 N) rc hR).h 1 220 6 sh220x1x6 [3] [4] [0] (m + 100) kn L x = J220x1x6 N rc L x (fun y => kn (ofSh sh220x1x6 (mx sh220x1x6 [3] L y))) (fun p => some (K220x1x6w0 L p)) (fun _ => some ((.exit 0), mg (ofSh sh220x1x6 L) [] [] [0] [])) := by kernel_rfl
theorem ql220x1x6 (rc : Rc102x1) (L : List Lf) (m : Nat) (x : List Lf) : Q220x1x6 N rc L (m + 1) x = J220x1x6 N rc L x (Q220x1x6 N rc L m) (fun p => some (.inl p)) (fun p => some (.inr p)) := by kernel_rfl
def h220x1s1 (rc : Rc102x1) (hR : OracleOk Tryz.prog ((O102x1 N) rc)) : Sg Tryz.prog 1 220 :=
 ((h220x1s0 N) rc hR).lp ((A220x1x6 N) rc) N progOk ((T126x0_ok N) rc hR) (fun m kn L x => (step220x1x6 N rc hR m kn L x).trans (sb220x1x6 N rc L x _ _ _)) (fun L m x => (ql220x1x6 N rc L m x).trans (sb220x1x6 N rc L x (Q220x1x6 N rc L m) (fun p => some (.inl p)) (fun p => some (.inr p)))) fun L x hx => (altS alt1) x hx
def F220x1 (rc : Rc102x1) (v1 : LD) (v2 : LB) (v3 v4 v5 v6 v7 v8 : Int) (v9 : Bool) (v10 : LD) (k0 : Int → Option R) : Option R :=
 bnd (G220x1x6 N rc v1 (v1.length : Int) v2 v3 v4 v5 v6 v7 v8 v9 v10 0) fun y0 =>
 bif (inlB y0) then
  k0 (inlV y0)
 else
  bif (inrQ y0).isSome then
   k0 (-1)
  else
   none
def G220x1 (rc : Rc102x1) (v1 : LD) (v2 : LB) (v3 v4 v5 v6 v7 v8 : Int) (v9 : Bool) (v10 : LD) : Option (Int) := F220x1 N rc v1 v2 v3 v4 v5 v6 v7 v8 v9 v10 (fun p => some p)
theorem bind220x1 (rc : Rc102x1) (v1 : LD) (v2 : LB) (v3 v4 v5 v6 v7 v8 : Int) (v9 : Bool) (v10 : LD) (k0 : Int → Option R) : F220x1 N rc v1 v2 v3 v4 v5 v6 v7 v8 v9 v10 k0 = (G220x1 N rc v1 v2 v3 v4 v5 v6 v7 v8 v9 v10).bind k0 := by
 unfold G220x1 F220x1
 repeat' (first | with_reducible apply cond_b | (with_reducible apply bnd_b; intro _) | rfl)
def J220x1 (rc : Rc102x1) (L : List Lf) (k0 : Int → Option R) : Option R := F220x1 N rc (ll L 1) (ls L 2) (li L 3) (li L 4) (li L 5) (li L 6) (li L 7) (li L 8) (lb L 9) (ll L 10) k0
def sh220x1 : Sh := { tmps := [(0, .c (.sl 24)), (1, .c (.f 193 [(0, 0)]))], mem := [(0, .box (.s :: rI 6 ([.sl 9])))] }
def A220x1 (rc : Rc102x1) (L : List Lf) : List (Bool × Res) := bnd (J220x1 N rc L (fun p => some p)) fun q => [(q.isSome, ([.c (.i .i64 (q.getD default))], mgA (ofSh sh220x1 L).mem [] [0]))]
theorem raw220x1 (rc : Rc102x1) (hR : OracleOk Tryz.prog ((O102x1 N) rc)) (L : List Lf) : bd Tryz.prog ((T126x0 N) rc) ((h220x1s1 N) rc hR).h 220 sh220x1 L = J220x1 N rc L (fun p => some ([.c (.i .i64 p)], mgA (ofSh sh220x1 L).mem [] [0])) := by kernel_rfl
theorem ok220x1 (rc : Rc102x1) (hR : OracleOk Tryz.prog ((O102x1 N) rc)) : FnOk Tryz.prog 220 sh220x1 ((A220x1 N) rc) :=
 ((h220x1s1 N) rc hR).fn progOk ((T126x0_ok N) rc hR) fun L x hx => ((raw220x1 N rc hR L).trans ((bind220x1 N rc ..).trans (alt1 x hx)))
def T220x1 (rc : Rc102x1) : Oracle := ext 220 (spSh sh220x1 ((A220x1 N) rc)) ((T126x0 N) rc)
theorem T220x1_ok (rc : Rc102x1) (hR : OracleOk Tryz.prog ((O102x1 N) rc)) : OracleOk Tryz.prog ((T220x1 N) rc) := FnOk.to ((ok220x1 N) rc hR) ((T126x0_ok N) rc hR)
def rg126x1 : List (Nat × List Nat) := [(0, [0, 1]), (1, [0, 1])]
def hd126x1 : Hints := []
def h126x1s0 (rc : Rc102x1) (hR : OracleOk Tryz.prog ((O102x1 N) rc)) : Sg Tryz.prog 1 126 := .start hd126x1 rg126x1
def F126x1 (rc : Rc102x1) (v1 : LD) (v2 : LB) (v3 v4 v5 v6 v7 v8 : Int) (v9 : Bool) (v10 : LD) (k0 : Bool → Option R) : Option R :=
 bnd (G220x1 N rc v1 v2 v3 v4 v5 v6 v7 v8 v9 v10) fun y0 =>
 bif y0.isSome then
  k0 (decide ((y0.getD default) ≥ 0))
 else
  none
def G126x1 (rc : Rc102x1) (v1 : LD) (v2 : LB) (v3 v4 v5 v6 v7 v8 : Int) (v9 : Bool) (v10 : LD) : Option (Bool) := F126x1 N rc v1 v2 v3 v4 v5 v6 v7 v8 v9 v10 (fun p => some p)
theorem bind126x1 (rc : Rc102x1) (v1 : LD) (v2 : LB) (v3 v4 v5 v6 v7 v8 : Int) (v9 : Bool) (v10 : LD) (k0 : Bool → Option R) : F126x1 N rc v1 v2 v3 v4 v5 v6 v7 v8 v9 v10 k0 = (G126x1 N rc v1 v2 v3 v4 v5 v6 v7 v8 v9 v10).bind k0 := by
 unfold G126x1 F126x1
 repeat' (first | with_reducible apply cond_b | (with_reducible apply bnd_b; intro _) | rfl)
def J126x1 (rc : Rc102x1) (L : List Lf) (k0 : Bool → Option R) : Option R := F126x1 N rc (ll L 1) (ls L 2) (li L 3) (li L 4) (li L 5) (li L 6) (li L 7) (li L 8) (lb L 9) (ll L 10) k0
def sh126x1 : Sh := { tmps := [(0, .c (.sl 24)), (1, .c (.f 193 [(0, 0)]))], mem := [(0, .box (.s :: rI 6 ([.sl 9])))] }
def A126x1 (rc : Rc102x1) (L : List Lf) : List (Bool × Res) := bnd (J126x1 N rc L (fun p => some p)) fun q => [(q.isSome, ([.c (.b (q.getD default))], mgA (ofSh sh126x1 L).mem [] [0]))]
theorem raw126x1 (rc : Rc102x1) (hR : OracleOk Tryz.prog ((O102x1 N) rc)) (L : List Lf) : bd Tryz.prog ((T220x1 N) rc) ((h126x1s0 N) rc hR).h 126 sh126x1 L = J126x1 N rc L (fun p => some ([.c (.b p)], mgA (ofSh sh126x1 L).mem [] [0])) := by kernel_rfl
theorem ok126x1 (rc : Rc102x1) (hR : OracleOk Tryz.prog ((O102x1 N) rc)) : FnOk Tryz.prog 126 sh126x1 ((A126x1 N) rc) :=
 ((h126x1s0 N) rc hR).fn progOk ((T220x1_ok N) rc hR) fun L x hx => ((raw126x1 N rc hR L).trans ((bind126x1 N rc ..).trans (alt1 x hx)))
def T126x1 (rc : Rc102x1) : Oracle := ext 126 (spSh sh126x1 ((A126x1 N) rc)) ((T220x1 N) rc)
theorem T126x1_ok (rc : Rc102x1) (hR : OracleOk Tryz.prog ((O102x1 N) rc)) : OracleOk Tryz.prog ((T126x1 N) rc) := FnOk.to ((ok126x1 N) rc hR) ((T220x1_ok N) rc hR)
def rg182x0 : List (Nat × List Nat) := [(0, [0, 1]), (1, [0, 1]), (2, [8, 7, 1, 0]), (3, [8, 1, 0, 7]), (4, [1, 0, 5, 8, 7]), (5, [5]), (6, [8, 7, 1, 0]), (7, [])]
def hd182x0 : Hints := [(6, [8, 7, 1, 0], [], [])]
def h182x0s0 (rc : Rc102x1) (hR : OracleOk Tryz.prog ((O102x1 N) rc)) : Sg Tryz.prog 0 182 := .start hd182x0 rg182x0
def S182x0x6 (N : Nat) (rc : Rc102x1) (w1 : LD) (w2 : LB) (w3 : Int) (w4 : Int) (kr : Int → Option R) (k0 : Int → Option R) (k1 : Unit → Option R) : Option R :=
 bif (decide (w4 < w3)) then
  bif (inB w4 w1.length) then
   bif (w2 == (w1.getD w4.toNat (.i 0)).toS) then
    k0 w4
   else
    kr (IntKind.wrap .i64 (w4 + 1))
  else
   none
 else
  k1 ()
def L182x0x6 (N : Nat) (rc : Rc102x1) {R : Type} (w1 : LD) (w2 : LB) (w3 : Int) : Nat → Int → (Int → Option R) → (Unit → Option R) → Option R
 | 0, _, _, _ => none
 | m + 1, w4, k0, k1 => S182x0x6 N rc w1 w2 w3 w4 (fun w4 => L182x0x6 N rc w1 w2 w3 m w4 k0 k1) k0 k1
def G182x0x6 (rc : Rc102x1) (w1 : LD) (w2 : LB) (w3 : Int) (w4 : Int) : Option (Sum (Int) (Unit)) := L182x0x6 N rc (R := (Sum (Int) (Unit))) w1 w2 w3 N w4 (fun p => some (.inl p)) (fun p => some (.inr p))
def J182x0x6 (rc : Rc102x1) (L x : List Lf) (kr : List Lf → Option R) (k0 : Int → Option R) (k1 : Unit → Option R) : Option R := S182x0x6 N rc (ll L 1) (ls L 2) (li L 3) (li x 0) (fun w4 => kr [.i w4]) k0 k1
theorem sb182x0x6 (rc : Rc102x1) (L x : List Lf) (kr : List Lf → Option R) (k0 : Int → Option R) (k1 : Unit → Option R) : J182x0x6 N rc L x kr k0 k1 = (J182x0x6 N rc L x (fun y => some (.inl y)) (fun p => some (.inr (.inl p))) (fun p => some (.inr (.inr p)))).bind (sumE kr (sumE k0 k1)) := by
 unfold J182x0x6 S182x0x6
 repeat' (first | with_reducible apply cond_b | (with_reducible apply bnd_b; intro _) | rfl)
def Q182x0x6 (rc : Rc102x1) (L : List Lf) (m : Nat) (x : List Lf) : Option (Sum (Int) (Unit)) := L182x0x6 N rc (R := (Sum (Int) (Unit))) (ll L 1) (ls L 2) (li L 3) m (li x 0) (fun p => some (.inl p)) (fun p => some (.inr p))
def sh182x0x6 : Sh := { tmps := [(0, .c (.sl 9)), (1, .c (.s)), (7, .c (.i .i64)), (8, .c (.i .i64))], mem := [] }
def A182x0x6 (rc : Rc102x1) (L : List Lf) : List (Bool × (Ex × St)) := bnd (Q182x0x6 N rc L N (pk sh182x0x6 [4] L)) fun q => [((inlB q), (.ret, ⟨[(4, .c (.i .i64 (inlV q)))], []⟩)), ((inrQ q).isSome, ((.exit 0), ⟨[], []⟩))]
theorem step182x0x6 (rc : Rc102x1) (hR : OracleOk Tryz.prog ((O102x1 N) rc)) (m : Nat) (kn : St → Option (Ex × St)) (L x : List Lf) : lpB Tryz.prog ((T126x1 N) rc) ((h182x0s0 N) rc hR).h 0 182 6 sh182x0x6 [4] [4] [] (m + 100) kn L x = J182x0x6 N rc L x (fun y => kn (ofSh sh182x0x6 (mx sh182x0x6 [4] L y))) (fun p => some (.ret, ⟨[(4, .c (.i .i64 p))], []⟩)) (fun _ => some ((.exit 0), ⟨[], []⟩)) := by kernel_rfl
theorem ql182x0x6 (rc : Rc102x1) (L : List Lf) (m : Nat) (x : List Lf) : Q182x0x6 N rc L (m + 1) x = J182x0x6 N rc L x (Q182x0x6 N rc L m) (fun p => some (.inl p)) (fun p => some (.inr p)) := by kernel_rfl
def h182x0s1 (rc : Rc102x1) (hR : OracleOk Tryz.prog ((O102x1 N) rc)) : Sg Tryz.prog 0 182 :=
 ((h182x0s0 N) rc hR).lp ((A182x0x6 N) rc) N progOk ((T126x1_ok N) rc hR) (fun m kn L x => (step182x0x6 N rc hR m kn L x).trans (sb182x0x6 N rc L x _ _ _)) (fun L m x => (ql182x0x6 N rc L m x).trans (sb182x0x6 N rc L x (Q182x0x6 N rc L m) (fun p => some (.inl p)) (fun p => some (.inr p)))) fun L x hx => (altS alt1) x hx
def F182x0 (rc : Rc102x1) (v1 : LD) (v2 : LB) (k0 : Int → Option R) : Option R :=
 bnd (G182x0x6 N rc v1 v2 (v1.length : Int) 0) fun y0 =>
 bif (inlB y0) then
  k0 (inlV y0)
 else
  bif (inrQ y0).isSome then
   k0 (-1)
  else
   none
def G182x0 (rc : Rc102x1) (v1 : LD) (v2 : LB) : Option (Int) := F182x0 N rc v1 v2 (fun p => some p)
theorem bind182x0 (rc : Rc102x1) (v1 : LD) (v2 : LB) (k0 : Int → Option R) : F182x0 N rc v1 v2 k0 = (G182x0 N rc v1 v2).bind k0 := by
 unfold G182x0 F182x0
 repeat' (first | with_reducible apply cond_b | (with_reducible apply bnd_b; intro _) | rfl)
def sh182x0 : Sh := { tmps := [(0, .c (.sl 9)), (1, .c (.s))], mem := [] }
def A182x0 (rc : Rc102x1) (L : List Lf) : List (Bool × Res) := bnd (F182x0 N rc (ll L 1) (ls L 2) (fun p => some p)) fun q => [(q.isSome, ([.c (.i .i64 (q.getD default))], []))]
theorem raw182x0 (rc : Rc102x1) (hR : OracleOk Tryz.prog ((O102x1 N) rc)) (L : List Lf) : bd Tryz.prog ((T126x1 N) rc) ((h182x0s1 N) rc hR).h 182 sh182x0 L = F182x0 N rc (ll L 1) (ls L 2) (fun p => some ([.c (.i .i64 p)], [])) := by kernel_rfl
theorem ok182x0 (rc : Rc102x1) (hR : OracleOk Tryz.prog ((O102x1 N) rc)) : FnOk Tryz.prog 182 sh182x0 ((A182x0 N) rc) :=
 ((h182x0s1 N) rc hR).fn progOk ((T126x1_ok N) rc hR) fun L x hx => ((raw182x0 N rc hR L).trans ((bind182x0 N rc ..).trans (alt1 x hx)))
def T182x0 (rc : Rc102x1) : Oracle := ext 182 (spSh sh182x0 ((A182x0 N) rc)) ((T126x1 N) rc)
theorem T182x0_ok (rc : Rc102x1) (hR : OracleOk Tryz.prog ((O102x1 N) rc)) : OracleOk Tryz.prog ((T182x0 N) rc) := FnOk.to ((ok182x0 N) rc hR) ((T126x1_ok N) rc hR)
def rg195x0 : List (Nat × List Nat) := [(0, [0, 1]), (1, [0, 1])]
def hd195x0 : Hints := []
def h195x0s0 (rc : Rc102x1) (hR : OracleOk Tryz.prog ((O102x1 N) rc)) : Sg Tryz.prog 0 195 := .start hd195x0 rg195x0
def F195x0 (rc : Rc102x1) (v1 : LD) (v2 : LB) (k0 : Bool → Option R) : Option R :=
 bnd (G182x0 N rc v1 v2) fun y0 =>
 bif y0.isSome then
  k0 (decide ((y0.getD default) ≥ 0))
 else
  none
def G195x0 (rc : Rc102x1) (v1 : LD) (v2 : LB) : Option (Bool) := F195x0 N rc v1 v2 (fun p => some p)
theorem bind195x0 (rc : Rc102x1) (v1 : LD) (v2 : LB) (k0 : Bool → Option R) : F195x0 N rc v1 v2 k0 = (G195x0 N rc v1 v2).bind k0 := by
 unfold G195x0 F195x0
 repeat' (first | with_reducible apply cond_b | (with_reducible apply bnd_b; intro _) | rfl)
def sh195x0 : Sh := { tmps := [(0, .c (.sl 9)), (1, .c (.s))], mem := [] }
def A195x0 (rc : Rc102x1) (L : List Lf) : List (Bool × Res) := bnd (F195x0 N rc (ll L 1) (ls L 2) (fun p => some p)) fun q => [(q.isSome, ([.c (.b (q.getD default))], []))]
theorem raw195x0 (rc : Rc102x1) (hR : OracleOk Tryz.prog ((O102x1 N) rc)) (L : List Lf) : bd Tryz.prog ((T182x0 N) rc) ((h195x0s0 N) rc hR).h 195 sh195x0 L = F195x0 N rc (ll L 1) (ls L 2) (fun p => some ([.c (.b p)], [])) := by kernel_rfl
theorem ok195x0 (rc : Rc102x1) (hR : OracleOk Tryz.prog ((O102x1 N) rc)) : FnOk Tryz.prog 195 sh195x0 ((A195x0 N) rc) :=
 ((h195x0s0 N) rc hR).fn progOk ((T182x0_ok N) rc hR) fun L x hx => ((raw195x0 N rc hR L).trans ((bind195x0 N rc ..).trans (alt1 x hx)))
def T195x0 (rc : Rc102x1) : Oracle := ext 195 (spSh sh195x0 ((A195x0 N) rc)) ((T182x0 N) rc)
theorem T195x0_ok (rc : Rc102x1) (hR : OracleOk Tryz.prog ((O102x1 N) rc)) : OracleOk Tryz.prog ((T195x0 N) rc) := FnOk.to ((ok195x0 N) rc hR) ((T182x0_ok N) rc hR)
def rg97x0 : List (Nat × List Nat) := [(0, []), (1, [])]
def hd97x0 : Hints := []
def h97x0s0 (rc : Rc102x1) (hR : OracleOk Tryz.prog ((O102x1 N) rc)) : Sg Tryz.prog 0 97 := .start hd97x0 rg97x0
def F97x0 (N : Nat) (rc : Rc102x1) (k0 : Unit → R) : R :=
 k0 ()
def V97x0 (rc : Rc102x1) : Unit := F97x0 N rc (fun p => p)
theorem tot97x0 (rc : Rc102x1) (k0 : Unit → R) : F97x0 N rc k0 = k0 (V97x0 N rc) := by
 unfold V97x0 F97x0
 repeat' (first | rfl | apply cond_k | (apply bnd_k; intro _))
def sh97x0 : Sh := { tmps := [], mem := [] }
def K97x0w0 (L : List Lf) (_ : Unit) : Res := ([.c (.sl 125 false [(.a [(.s ([] : List UInt8)), (.b true)]), (.a [(.s ([115, 116, 97, 114, 116] : List UInt8)), (.i 183)]), (.a [(.s ([100, 97, 121] : List UInt8)), (.i 184)]), (.a [(.s ([119, 97, 121] : List UInt8)), (.i 185)]), (.a [(.s ([99, 108, 105, 109, 98] : List UInt8)), (.i 186)]), (.a [(.s ([115, 101, 99, 111, 110, 100, 115] : List UInt8)), (.i 187)]), (.a [(.s ([108, 111, 97, 100] : List UInt8)), (.i 188)]), (.a [(.s ([119, 101, 101, 107, 100, 97, 121] : List UInt8)), (.i 189)])])], [])
def A97x0 (N : Nat) (rc : Rc102x1) (L : List Lf) : List (Bool × Res) := [(true, K97x0w0 L ())]
theorem raw97x0 (rc : Rc102x1) (hR : OracleOk Tryz.prog ((O102x1 N) rc)) (L : List Lf) : bd Tryz.prog ((T195x0 N) rc) ((h97x0s0 N) rc hR).h 97 sh97x0 L = F97x0 N rc (fun _ => some (K97x0w0 L ())) := by kernel_rfl
theorem ok97x0 (rc : Rc102x1) (hR : OracleOk Tryz.prog ((O102x1 N) rc)) : FnOk Tryz.prog 97 sh97x0 ((A97x0 N) rc) :=
 ((h97x0s0 N) rc hR).fn progOk ((T195x0_ok N) rc hR) fun L x hx => ((raw97x0 N rc hR L).trans ((tot97x0 N rc ..).trans (alt0 _ _ hx)))
def T97x0 (rc : Rc102x1) : Oracle := ext 97 (spSh sh97x0 ((A97x0 N) rc)) ((T195x0 N) rc)
theorem T97x0_ok (rc : Rc102x1) (hR : OracleOk Tryz.prog ((O102x1 N) rc)) : OracleOk Tryz.prog ((T97x0 N) rc) := FnOk.to ((ok97x0 N) rc hR) ((T195x0_ok N) rc hR)
def rg183x0 : List (Nat × List Nat) := [(0, [0]), (1, [1])]
def hd183x0 : Hints := []
def h183x0s0 (rc : Rc102x1) (hR : OracleOk Tryz.prog ((O102x1 N) rc)) : Sg Tryz.prog 0 183 := .start hd183x0 rg183x0
def F183x0 (N : Nat) (rc : Rc102x1) (k0 : Unit → R) : R :=
 k0 ()
def V183x0 (rc : Rc102x1) : Unit := F183x0 N rc (fun p => p)
theorem tot183x0 (rc : Rc102x1) (k0 : Unit → R) : F183x0 N rc k0 = k0 (V183x0 N rc) := by
 unfold V183x0 F183x0
 repeat' (first | rfl | apply cond_k | (apply bnd_k; intro _))
def sh183x0 : Sh := { tmps := [(0, .g (.s :: rI 6 ([.sl 9])))], mem := [] }
def A183x0 (N : Nat) (rc : Rc102x1) (L : List Lf) : List (Bool × Res) := [(true, ([.c (.i .i64 (li L 2))], []))]
theorem raw183x0 (rc : Rc102x1) (hR : OracleOk Tryz.prog ((O102x1 N) rc)) (L : List Lf) : bd Tryz.prog ((T97x0 N) rc) ((h183x0s0 N) rc hR).h 183 sh183x0 L = F183x0 N rc (fun _ => some ([.c (.i .i64 (li L 2))], [])) := by kernel_rfl
theorem ok183x0 (rc : Rc102x1) (hR : OracleOk Tryz.prog ((O102x1 N) rc)) : FnOk Tryz.prog 183 sh183x0 ((A183x0 N) rc) :=
 ((h183x0s0 N) rc hR).fn progOk ((T97x0_ok N) rc hR) fun L x hx => ((raw183x0 N rc hR L).trans ((tot183x0 N rc ..).trans (alt0 _ _ hx)))
def T183x0 (rc : Rc102x1) : Oracle := ext 183 (spSh sh183x0 ((A183x0 N) rc)) ((T97x0 N) rc)
theorem T183x0_ok (rc : Rc102x1) (hR : OracleOk Tryz.prog ((O102x1 N) rc)) : OracleOk Tryz.prog ((T183x0 N) rc) := FnOk.to ((ok183x0 N) rc hR) ((T97x0_ok N) rc hR)
def rg184x0 : List (Nat × List Nat) := [(0, [0]), (1, [1])]
def hd184x0 : Hints := []
def h184x0s0 (rc : Rc102x1) (hR : OracleOk Tryz.prog ((O102x1 N) rc)) : Sg Tryz.prog 0 184 := .start hd184x0 rg184x0
def F184x0 (N : Nat) (rc : Rc102x1) (v2 : Int) (k0 : Int → R) : R :=
 k0 (IntKind.wrap .i64 (v2.tdiv 86400))
def V184x0 (rc : Rc102x1) (v2 : Int) : Int := F184x0 N rc v2 (fun p => p)
theorem tot184x0 (rc : Rc102x1) (v2 : Int) (k0 : Int → R) : F184x0 N rc v2 k0 = k0 (V184x0 N rc v2) := by
 unfold V184x0 F184x0
 repeat' (first | rfl | apply cond_k | (apply bnd_k; intro _))
def sh184x0 : Sh := { tmps := [(0, .g (.s :: rI 6 ([.sl 9])))], mem := [] }
def A184x0 (rc : Rc102x1) (L : List Lf) : List (Bool × Res) := bnd (F184x0 N rc (li L 2) (fun p => p)) fun q => [(true, ([.c (.i .i64 q)], []))]
theorem raw184x0 (rc : Rc102x1) (hR : OracleOk Tryz.prog ((O102x1 N) rc)) (L : List Lf) : bd Tryz.prog ((T183x0 N) rc) ((h184x0s0 N) rc hR).h 184 sh184x0 L = F184x0 N rc (li L 2) (fun p => some ([.c (.i .i64 p)], [])) := by kernel_rfl
theorem ok184x0 (rc : Rc102x1) (hR : OracleOk Tryz.prog ((O102x1 N) rc)) : FnOk Tryz.prog 184 sh184x0 ((A184x0 N) rc) :=
 ((h184x0s0 N) rc hR).fn progOk ((T183x0_ok N) rc hR) fun L x hx => ((raw184x0 N rc hR L).trans ((tot184x0 N rc ..).trans (alt0 _ _ hx)))
def T184x0 (rc : Rc102x1) : Oracle := ext 184 (spSh sh184x0 ((A184x0 N) rc)) ((T183x0 N) rc)
theorem T184x0_ok (rc : Rc102x1) (hR : OracleOk Tryz.prog ((O102x1 N) rc)) : OracleOk Tryz.prog ((T184x0 N) rc) := FnOk.to ((ok184x0 N) rc hR) ((T183x0_ok N) rc hR)
def rg185x0 : List (Nat × List Nat) := [(0, [0]), (1, [1])]
def hd185x0 : Hints := []
def h185x0s0 (rc : Rc102x1) (hR : OracleOk Tryz.prog ((O102x1 N) rc)) : Sg Tryz.prog 0 185 := .start hd185x0 rg185x0
def F185x0 (N : Nat) (rc : Rc102x1) (k0 : Unit → R) : R :=
 k0 ()
def V185x0 (rc : Rc102x1) : Unit := F185x0 N rc (fun p => p)
theorem tot185x0 (rc : Rc102x1) (k0 : Unit → R) : F185x0 N rc k0 = k0 (V185x0 N rc) := by
 unfold V185x0 F185x0
 repeat' (first | rfl | apply cond_k | (apply bnd_k; intro _))
def sh185x0 : Sh := { tmps := [(0, .g (.s :: rI 6 ([.sl 9])))], mem := [] }
def A185x0 (N : Nat) (rc : Rc102x1) (L : List Lf) : List (Bool × Res) := [(true, ([.c (.i .i64 (li L 3))], []))]
theorem raw185x0 (rc : Rc102x1) (hR : OracleOk Tryz.prog ((O102x1 N) rc)) (L : List Lf) : bd Tryz.prog ((T184x0 N) rc) ((h185x0s0 N) rc hR).h 185 sh185x0 L = F185x0 N rc (fun _ => some ([.c (.i .i64 (li L 3))], [])) := by kernel_rfl
theorem ok185x0 (rc : Rc102x1) (hR : OracleOk Tryz.prog ((O102x1 N) rc)) : FnOk Tryz.prog 185 sh185x0 ((A185x0 N) rc) :=
 ((h185x0s0 N) rc hR).fn progOk ((T184x0_ok N) rc hR) fun L x hx => ((raw185x0 N rc hR L).trans ((tot185x0 N rc ..).trans (alt0 _ _ hx)))
def T185x0 (rc : Rc102x1) : Oracle := ext 185 (spSh sh185x0 ((A185x0 N) rc)) ((T184x0 N) rc)
theorem T185x0_ok (rc : Rc102x1) (hR : OracleOk Tryz.prog ((O102x1 N) rc)) : OracleOk Tryz.prog ((T185x0 N) rc) := FnOk.to ((ok185x0 N) rc hR) ((T184x0_ok N) rc hR)
def rg186x0 : List (Nat × List Nat) := [(0, [0]), (1, [1])]
def hd186x0 : Hints := []
def h186x0s0 (rc : Rc102x1) (hR : OracleOk Tryz.prog ((O102x1 N) rc)) : Sg Tryz.prog 0 186 := .start hd186x0 rg186x0
def F186x0 (N : Nat) (rc : Rc102x1) (k0 : Unit → R) : R :=
 k0 ()
def V186x0 (rc : Rc102x1) : Unit := F186x0 N rc (fun p => p)
theorem tot186x0 (rc : Rc102x1) (k0 : Unit → R) : F186x0 N rc k0 = k0 (V186x0 N rc) := by
 unfold V186x0 F186x0
 repeat' (first | rfl | apply cond_k | (apply bnd_k; intro _))
def sh186x0 : Sh := { tmps := [(0, .g (.s :: rI 6 ([.sl 9])))], mem := [] }
def A186x0 (N : Nat) (rc : Rc102x1) (L : List Lf) : List (Bool × Res) := [(true, ([.c (.i .i64 (li L 4))], []))]
theorem raw186x0 (rc : Rc102x1) (hR : OracleOk Tryz.prog ((O102x1 N) rc)) (L : List Lf) : bd Tryz.prog ((T185x0 N) rc) ((h186x0s0 N) rc hR).h 186 sh186x0 L = F186x0 N rc (fun _ => some ([.c (.i .i64 (li L 4))], [])) := by kernel_rfl
theorem ok186x0 (rc : Rc102x1) (hR : OracleOk Tryz.prog ((O102x1 N) rc)) : FnOk Tryz.prog 186 sh186x0 ((A186x0 N) rc) :=
 ((h186x0s0 N) rc hR).fn progOk ((T185x0_ok N) rc hR) fun L x hx => ((raw186x0 N rc hR L).trans ((tot186x0 N rc ..).trans (alt0 _ _ hx)))
def T186x0 (rc : Rc102x1) : Oracle := ext 186 (spSh sh186x0 ((A186x0 N) rc)) ((T185x0 N) rc)
theorem T186x0_ok (rc : Rc102x1) (hR : OracleOk Tryz.prog ((O102x1 N) rc)) : OracleOk Tryz.prog ((T186x0 N) rc) := FnOk.to ((ok186x0 N) rc hR) ((T185x0_ok N) rc hR)
def rg187x0 : List (Nat × List Nat) := [(0, [0]), (1, [1])]
def hd187x0 : Hints := []
def h187x0s0 (rc : Rc102x1) (hR : OracleOk Tryz.prog ((O102x1 N) rc)) : Sg Tryz.prog 0 187 := .start hd187x0 rg187x0
def F187x0 (N : Nat) (rc : Rc102x1) (k0 : Unit → R) : R :=
 k0 ()
def V187x0 (rc : Rc102x1) : Unit := F187x0 N rc (fun p => p)
theorem tot187x0 (rc : Rc102x1) (k0 : Unit → R) : F187x0 N rc k0 = k0 (V187x0 N rc) := by
 unfold V187x0 F187x0
 repeat' (first | rfl | apply cond_k | (apply bnd_k; intro _))
def sh187x0 : Sh := { tmps := [(0, .g (.s :: rI 6 ([.sl 9])))], mem := [] }
def A187x0 (N : Nat) (rc : Rc102x1) (L : List Lf) : List (Bool × Res) := [(true, ([.c (.i .i64 (li L 5))], []))]
theorem raw187x0 (rc : Rc102x1) (hR : OracleOk Tryz.prog ((O102x1 N) rc)) (L : List Lf) : bd Tryz.prog ((T186x0 N) rc) ((h187x0s0 N) rc hR).h 187 sh187x0 L = F187x0 N rc (fun _ => some ([.c (.i .i64 (li L 5))], [])) := by kernel_rfl
theorem ok187x0 (rc : Rc102x1) (hR : OracleOk Tryz.prog ((O102x1 N) rc)) : FnOk Tryz.prog 187 sh187x0 ((A187x0 N) rc) :=
 ((h187x0s0 N) rc hR).fn progOk ((T186x0_ok N) rc hR) fun L x hx => ((raw187x0 N rc hR L).trans ((tot187x0 N rc ..).trans (alt0 _ _ hx)))
def T187x0 (rc : Rc102x1) : Oracle := ext 187 (spSh sh187x0 ((A187x0 N) rc)) ((T186x0 N) rc)
theorem T187x0_ok (rc : Rc102x1) (hR : OracleOk Tryz.prog ((O102x1 N) rc)) : OracleOk Tryz.prog ((T187x0 N) rc) := FnOk.to ((ok187x0 N) rc hR) ((T186x0_ok N) rc hR)
def rg188x0 : List (Nat × List Nat) := [(0, [0]), (1, [1])]
def hd188x0 : Hints := []
def h188x0s0 (rc : Rc102x1) (hR : OracleOk Tryz.prog ((O102x1 N) rc)) : Sg Tryz.prog 0 188 := .start hd188x0 rg188x0
def F188x0 (N : Nat) (rc : Rc102x1) (k0 : Unit → R) : R :=
 k0 ()
def V188x0 (rc : Rc102x1) : Unit := F188x0 N rc (fun p => p)
theorem tot188x0 (rc : Rc102x1) (k0 : Unit → R) : F188x0 N rc k0 = k0 (V188x0 N rc) := by
 unfold V188x0 F188x0
 repeat' (first | rfl | apply cond_k | (apply bnd_k; intro _))
def sh188x0 : Sh := { tmps := [(0, .g (.s :: rI 6 ([.sl 9])))], mem := [] }
def A188x0 (N : Nat) (rc : Rc102x1) (L : List Lf) : List (Bool × Res) := [(true, ([.c (.i .i64 (li L 6))], []))]
theorem raw188x0 (rc : Rc102x1) (hR : OracleOk Tryz.prog ((O102x1 N) rc)) (L : List Lf) : bd Tryz.prog ((T187x0 N) rc) ((h188x0s0 N) rc hR).h 188 sh188x0 L = F188x0 N rc (fun _ => some ([.c (.i .i64 (li L 6))], [])) := by kernel_rfl
theorem ok188x0 (rc : Rc102x1) (hR : OracleOk Tryz.prog ((O102x1 N) rc)) : FnOk Tryz.prog 188 sh188x0 ((A188x0 N) rc) :=
 ((h188x0s0 N) rc hR).fn progOk ((T187x0_ok N) rc hR) fun L x hx => ((raw188x0 N rc hR L).trans ((tot188x0 N rc ..).trans (alt0 _ _ hx)))
def T188x0 (rc : Rc102x1) : Oracle := ext 188 (spSh sh188x0 ((A188x0 N) rc)) ((T187x0 N) rc)
theorem T188x0_ok (rc : Rc102x1) (hR : OracleOk Tryz.prog ((O102x1 N) rc)) : OracleOk Tryz.prog ((T188x0 N) rc) := FnOk.to ((ok188x0 N) rc hR) ((T187x0_ok N) rc hR)
def rg189x0 : List (Nat × List Nat) := [(0, [0]), (1, [1])]
def hd189x0 : Hints := []
def h189x0s0 (rc : Rc102x1) (hR : OracleOk Tryz.prog ((O102x1 N) rc)) : Sg Tryz.prog 0 189 := .start hd189x0 rg189x0
def F189x0 (N : Nat) (rc : Rc102x1) (v2 : Int) (k0 : Int → R) : R :=
 k0 ((IntKind.wrap .i64 (v2.tdiv 86400)).tmod 7)
def V189x0 (rc : Rc102x1) (v2 : Int) : Int := F189x0 N rc v2 (fun p => p)
theorem tot189x0 (rc : Rc102x1) (v2 : Int) (k0 : Int → R) : F189x0 N rc v2 k0 = k0 (V189x0 N rc v2) := by
 unfold V189x0 F189x0
 repeat' (first | rfl | apply cond_k | (apply bnd_k; intro _))
def sh189x0 : Sh := { tmps := [(0, .g (.s :: rI 6 ([.sl 9])))], mem := [] }
def A189x0 (rc : Rc102x1) (L : List Lf) : List (Bool × Res) := bnd (F189x0 N rc (li L 2) (fun p => p)) fun q => [(true, ([.c (.i .i64 q)], []))]
theorem raw189x0 (rc : Rc102x1) (hR : OracleOk Tryz.prog ((O102x1 N) rc)) (L : List Lf) : bd Tryz.prog ((T188x0 N) rc) ((h189x0s0 N) rc hR).h 189 sh189x0 L = F189x0 N rc (li L 2) (fun p => some ([.c (.i .i64 p)], [])) := by kernel_rfl
theorem ok189x0 (rc : Rc102x1) (hR : OracleOk Tryz.prog ((O102x1 N) rc)) : FnOk Tryz.prog 189 sh189x0 ((A189x0 N) rc) :=
 ((h189x0s0 N) rc hR).fn progOk ((T188x0_ok N) rc hR) fun L x hx => ((raw189x0 N rc hR L).trans ((tot189x0 N rc ..).trans (alt0 _ _ hx)))
def T189x0 (rc : Rc102x1) : Oracle := ext 189 (spSh sh189x0 ((A189x0 N) rc)) ((T188x0 N) rc)
theorem T189x0_ok (rc : Rc102x1) (hR : OracleOk Tryz.prog ((O102x1 N) rc)) : OracleOk Tryz.prog ((T189x0 N) rc) := FnOk.to ((ok189x0 N) rc hR) ((T188x0_ok N) rc hR)
def rg102x1 : List (Nat × List Nat) := [(0, [0, 1]), (1, [3, 2]), (2, [2, 5, 3]), (3, [8, 2, 5, 3]), (5, [8, 2, 5, 3]), (7, [8, 5, 2, 3]), (9, [8, 3, 2]), (11, [8, 3, 2]), (13, [8, 3, 2]), (14, [3, 2]), (12, [3, 2]), (10, [3, 2]), (8, [5, 2]), (6, [2, 5]), (4, [2, 5]), (15, [2, 3])]
def hd102x1 : Hints := [(46, [2, 3], [3, 2], [])]
def h102x1s0 (rc : Rc102x1) (hR : OracleOk Tryz.prog ((O102x1 N) rc)) : Sg Tryz.prog 0 102 := .start hd102x1 rg102x1
def F102x1x46 (rc : Rc102x1) (w1 w2 w3 w9 w10 w11 w12 w13 : Int) (k0 : Bool → Option R) : Option R :=
 bif (w1 == 0) then
  none
 else
  bif (w1 == 1) then
   bnd (V109x0 N w9 w2 w3) fun y0 =>
   k0 y0
  else
   bif (w1 == 2) then
    bnd (V184x0 N rc w9) fun y1 =>
    bnd (V109x0 N y1 w2 w3) fun y2 =>
    k0 y2
   else
    bif (w1 == 3) then
     bnd (V109x0 N w10 w2 w3) fun y3 =>
     k0 y3
    else
     bif (w1 == 4) then
      bnd (V109x0 N w11 w2 w3) fun y4 =>
      k0 y4
     else
      bif (w1 == 5) then
       bnd (V109x0 N w12 w2 w3) fun y5 =>
       k0 y5
      else
       bif (w1 == 6) then
        bnd (V109x0 N w13 w2 w3) fun y6 =>
        k0 y6
       else
        bif (w1 == 7) then
         bnd (V189x0 N rc w9) fun y7 =>
         bnd (V109x0 N y7 w2 w3) fun y8 =>
         k0 y8
        else
         none
def G102x1x46 (rc : Rc102x1) (w1 w2 w3 w9 w10 w11 w12 w13 : Int) : Option (Bool) := F102x1x46 N rc w1 w2 w3 w9 w10 w11 w12 w13 (fun p => some p)
theorem bind102x1x46 (rc : Rc102x1) (w1 w2 w3 w9 w10 w11 w12 w13 : Int) (k0 : Bool → Option R) : F102x1x46 N rc w1 w2 w3 w9 w10 w11 w12 w13 k0 = (G102x1x46 N rc w1 w2 w3 w9 w10 w11 w12 w13).bind k0 := by
 unfold G102x1x46 F102x1x46
 repeat' (first | with_reducible apply cond_b | (with_reducible apply bnd_b; intro _) | rfl)
def J102x1x46 (rc : Rc102x1) (L : List Lf) (k0 : Bool → Option R) : Option R := F102x1x46 N rc (li L 1) (li L 2) (li L 3) (li L 9) (li L 10) (li L 11) (li L 12) (li L 13) k0
def sh102x1x46 : Sh := { tmps := [(2, .c (.p 2 0)), (3, .c (.p 3 0))], mem := [(2, .box (.i .i64 :: [.i .i64, .i .i64, .i .i64, .s, .sl 24])), (3, .box (.s :: rI 6 ([.sl 9])))] }
def A102x1x46 (rc : Rc102x1) (L : List Lf) : List (Bool × (Ex × St)) := bnd (J102x1x46 N rc L (fun p => some p)) fun q => [(q.isSome, (.normal, ⟨[(4, .c (.b (q.getD default)))], []⟩))]
theorem raw102x1x46 (rc : Rc102x1) (hR : OracleOk Tryz.prog ((O102x1 N) rc)) (L : List Lf) : pc Tryz.prog ((T189x0 N) rc) ((h102x1s0 N) rc hR).h 0 100 102 46 sh102x1x46 L [4] [] = J102x1x46 N rc L (fun p => some (.normal, ⟨[(4, .c (.b p))], []⟩)) := by kernel_rfl
def h102x1s1 (rc : Rc102x1) (hR : OracleOk Tryz.prog ((O102x1 N) rc)) : Sg Tryz.prog 0 102 :=
 ((h102x1s0 N) rc hR).cut ((A102x1x46 N) rc) progOk ((T189x0_ok N) rc hR) fun L x hx => (raw102x1x46 N rc hR L).trans ((bind102x1x46 N rc ..).trans (alt1 x hx))
def F102x1 (rc : Rc102x1) (v0 v1 v2 v3 : Int) (v4 : LB) (v5 : Bool) (v6 : LD) (v7 : LB) (v8 v9 v10 v11 v12 v13 : Int) (v14 : Bool) (v15 : LD) (k0 : Bool → Option R) : Option R :=
 bif (v0 == 1) then
  bnd (G126x0 N rc v6 v7 v8 v9 v10 v11 v12 v13 v14 v15) fun y0 =>
  bif y0.isSome then
   k0 (!(y0.getD default))
  else
   none
 else
  bif (v0 == 2) then
   bnd (G126x1 N rc v6 v7 v8 v9 v10 v11 v12 v13 v14 v15) fun y1 =>
   bif y1.isSome then
    k0 (y1.getD default)
   else
    none
  else
   bif (v0 == 3) then
    bif (inB 0 v6.length) then
     bnd (G193x0 N rc ((v6.getD 0 (.i 0)).cell 0).toI ((v6.getD 0 (.i 0)).cell 1).toI ((v6.getD 0 (.i 0)).cell 2).toI ((v6.getD 0 (.i 0)).cell 3).toI ((v6.getD 0 (.i 0)).cell 4).toS ((v6.getD 0 (.i 0)).cell 5).isNil ((v6.getD 0 (.i 0)).cell 5).items v7 v8 v9 v10 v11 v12 v13 v14 v15) fun y2 =>
     bif y2.isSome then
      k0 (!(y2.getD default))
     else
      none
    else
     none
   else
    bif (v0 == 4) then
     k0 (v8 == v2)
    else
     bif (v0 == 5) then
      bnd (G195x0 N rc v15 v4) fun y3 =>
      bif y3.isSome then
       k0 (y3.getD default)
      else
       none
     else
      bif (v0 == 6) then
       bif (Nat.blt v7.length 4294967281) then
        k0 (Lib.contains v7 v4)
       else
        none
      else
       bnd (G102x1x46 N rc v1 v2 v3 v9 v10 v11 v12 v13) fun y4 =>
       bif y4.isSome then
        k0 (y4.getD default)
       else
        none
def G102x1 (rc : Rc102x1) (v0 v1 v2 v3 : Int) (v4 : LB) (v5 : Bool) (v6 : LD) (v7 : LB) (v8 v9 v10 v11 v12 v13 : Int) (v14 : Bool) (v15 : LD) : Option (Bool) := F102x1 N rc v0 v1 v2 v3 v4 v5 v6 v7 v8 v9 v10 v11 v12 v13 v14 v15 (fun p => some p)
theorem bind102x1 (rc : Rc102x1) (v0 v1 v2 v3 : Int) (v4 : LB) (v5 : Bool) (v6 : LD) (v7 : LB) (v8 v9 v10 v11 v12 v13 : Int) (v14 : Bool) (v15 : LD) (k0 : Bool → Option R) : F102x1 N rc v0 v1 v2 v3 v4 v5 v6 v7 v8 v9 v10 v11 v12 v13 v14 v15 k0 = (G102x1 N rc v0 v1 v2 v3 v4 v5 v6 v7 v8 v9 v10 v11 v12 v13 v14 v15).bind k0 := by
 unfold G102x1 F102x1
 repeat' (first | with_reducible apply cond_b | (with_reducible apply bnd_b; intro _) | rfl)
def J102x1 (rc : Rc102x1) (L : List Lf) (k0 : Bool → Option R) : Option R := F102x1 N rc (li L 0) (li L 1) (li L 2) (li L 3) (ls L 4) (lb L 5) (ll L 6) (ls L 7) (li L 8) (li L 9) (li L 10) (li L 11) (li L 12) (li L 13) (lb L 14) (ll L 15) k0
theorem raw102x1 (rc : Rc102x1) (hR : OracleOk Tryz.prog ((O102x1 N) rc)) (L : List Lf) : bd Tryz.prog ((T189x0 N) rc) ((h102x1s1 N) rc hR).h 102 sh102x1 L = J102x1 N rc L (fun p => some ([.c (.b p)], [])) := by kernel_rfl
theorem fin102x1 (rc : Rc102x1) (hR : OracleOk Tryz.prog ((O102x1 N) rc)) (L : List Lf) (x : Res) (hx : altK ((B102x1 N) (fun v0 v1 v2 v3 v4 v5 v6 v7 v8 v9 v10 v11 v12 v13 v14 v15 => G102x1 N rc v0 v1 v2 v3 v4 v5 v6 v7 v8 v9 v10 v11 v12 v13 v14 v15) L) some = some x) : CallOk Tryz.prog 102 (valsOf (ofSh sh102x1 L).tmps) (ofSh sh102x1 L).mem x :=
 callOk_of (n := 200) progOk ((T189x0_ok N) rc hR) ((h102x1s1 N) rc hR).ok rfl ((raw102x1 N rc hR L).trans ((bind102x1 N rc ..).trans (alt1 x hx)))
def R102x1 (N : Nat) : Nat → Rc102x1
 | 0 => fun _ _ _ _ _ _ _ _ _ _ _ _ _ _ _ _ => none
 | m + 1 => fun v0 v1 v2 v3 v4 v5 v6 v7 v8 v9 v10 v11 v12 v13 v14 v15 => G102x1 N (R102x1 N m) v0 v1 v2 v3 v4 v5 v6 v7 v8 v9 v10 v11 v12 v13 v14 v15
theorem Rok102x1 (N : Nat) : ∀ m, OracleOk Tryz.prog ((O102x1 N) (R102x1 N m))
 | 0 => ext_ok (T101x0_ok N) (AM.enters_of (by kernel_rfl)) (spSh_law fun L x hx => by
  have h : (none : Option Res) = some x := hx
  cases h)
 | m + 1 => ext_ok (T101x0_ok N) (AM.enters_of (by kernel_rfl)) (spSh_law fun L x hx => fin102x1 N (R102x1 N m) (Rok102x1 N m) L x hx)
def T102x1 : Oracle := (O102x1 N) (R102x1 N N)
theorem T102x1_ok : OracleOk Tryz.prog (T102x1 N) := Rok102x1 N N
def rg26x0 : List (Nat × List Nat) := [(0, [0, 1]), (1, [2, 3]), (2, [6, 2, 3]), (3, [6]), (4, [2, 3])]
def hd26x0 : Hints := []
def h26x0s0 (N : Nat) : Sg Tryz.prog 0 26 := .start hd26x0 rg26x0
def F26x0 (v0 v1 v2 v3 : Int) (v4 : LB) (v5 : Bool) (v6 : LD) (v7 : LB) (v8 v9 v10 v11 v12 v13 : Int) (v14 : Bool) (v15 : LD) (k0 : Bool × Int → Option R) : Option R :=
 bnd (G28x0 N v0 v1 v2 v3 v4 v5 v6) fun y0 =>
 bif y0.isSome then
  bnd (G33x0 N v7 v8 v9 v10 v11 v12 v13 v15) fun y1 =>
  bif y1.isSome then
   bnd (G101x0 N [(.i (y0.getD default)), (.i (y1.getD default))]) fun y2 =>
   bif y2.isSome then
    bif ((y2.getD default) != 0) then
     k0 (false, (y2.getD default))
    else
     bnd (R102x1 N N v0 v1 v2 v3 v4 v5 v6 v7 v8 v9 v10 v11 v12 v13 v14 v15) fun y3 =>
     bif y3.isSome then
      k0 ((y3.getD default), 0)
     else
      none
   else
    none
  else
   none
 else
  none
def G26x0 (v0 v1 v2 v3 : Int) (v4 : LB) (v5 : Bool) (v6 : LD) (v7 : LB) (v8 v9 v10 v11 v12 v13 : Int) (v14 : Bool) (v15 : LD) : Option (Bool × Int) := F26x0 N v0 v1 v2 v3 v4 v5 v6 v7 v8 v9 v10 v11 v12 v13 v14 v15 (fun p => some p)
theorem bind26x0 (v0 v1 v2 v3 : Int) (v4 : LB) (v5 : Bool) (v6 : LD) (v7 : LB) (v8 v9 v10 v11 v12 v13 : Int) (v14 : Bool) (v15 : LD) (k0 : Bool × Int → Option R) : F26x0 N v0 v1 v2 v3 v4 v5 v6 v7 v8 v9 v10 v11 v12 v13 v14 v15 k0 = (G26x0 N v0 v1 v2 v3 v4 v5 v6 v7 v8 v9 v10 v11 v12 v13 v14 v15).bind k0 := by
 unfold G26x0 F26x0
 repeat' (first | with_reducible apply cond_b | (with_reducible apply bnd_b; intro _) | rfl)
def J26x0 (L : List Lf) (k0 : Bool × Int → Option R) : Option R := F26x0 N (li L 0) (li L 1) (li L 2) (li L 3) (ls L 4) (lb L 5) (ll L 6) (ls L 7) (li L 8) (li L 9) (li L 10) (li L 11) (li L 12) (li L 13) (lb L 14) (ll L 15) k0
def sh26x0 : Sh := { tmps := [(0, .g (.i .i64 :: [.i .i64, .i .i64, .i .i64, .s, .sl 24])), (1, .g (.s :: rI 6 ([.sl 9])))], mem := [] }
def A26x0 (L : List Lf) : List (Bool × Res) := bnd (J26x0 N L (fun p => some p)) fun q => [(q.isSome, ([.c (.b (q.getD default).1), .c (.i .i64 (q.getD default).2)], []))]
theorem raw26x0 (L : List Lf) : bd Tryz.prog (T102x1 N) (h26x0s0 N).h 26 sh26x0 L = J26x0 N L (fun p => some ([.c (.b p.1), .c (.i .i64 p.2)], [])) := by kernel_rfl
theorem ok26x0 : FnOk Tryz.prog 26 sh26x0 (A26x0 N) :=
 (h26x0s0 N).fn progOk (T102x1_ok N) fun L x hx => ((raw26x0 N L).trans ((bind26x0 N ..).trans (alt1 x hx)))
def T26x0 : Oracle := ext 26 (spSh sh26x0 (A26x0 N)) (T102x1 N)
theorem T26x0_ok : OracleOk Tryz.prog (T26x0 N) := FnOk.to (ok26x0 N) (T102x1_ok N)
abbrev Rc106x1 : Type := Int → Int → Int → Int → LB → Bool → LD → Int → Option (Int)
def sh106x1 : Sh := { tmps := [(0, .g (.i .i64 :: [.i .i64, .i .i64, .i .i64, .s, .sl 24])), (1, .c (.i .i64))], mem := [] }
def B106x1 (N : Nat) (rc : Rc106x1) (L : List Lf) : List (Bool × Res) := bnd (rc (li L 0) (li L 1) (li L 2) (li L 3) (ls L 4) (lb L 5) (ll L 6) (li L 7)) fun q => [(q.isSome, ([.c (.i .i64 (q.getD default))], []))]
def O106x1 (rc : Rc106x1) : Oracle := ext 106 (spSh sh106x1 ((B106x1 N) rc)) (T26x0 N)
def rg106x1 : List (Nat × List Nat) := [(0, [0, 1]), (1, [2, 1]), (2, [2, 5, 1]), (3, [11, 10, 9, 5, 1]), (4, [9, 11, 5, 1, 10]), (5, [5, 1, 7, 11, 10, 9]), (6, [1]), (7, [5, 7, 1, 11, 10, 9]), (8, [11, 10, 9, 5, 1]), (9, [5])]
def hd106x1 : Hints := [(9, [11, 10, 9, 5, 1], [], [])]
def h106x1s0 (rc : Rc106x1) (hR : OracleOk Tryz.prog ((O106x1 N) rc)) : Sg Tryz.prog 0 106 := .start hd106x1 rg106x1
def S106x1x9 (N : Nat) (rc : Rc106x1) (w0 : Int) (w3 : LD) (w4 : Int) (w1 w5 : Int) (kr : Int → Int → Option R) (k0 : Unit → Option R) (k1 : Int → Option R) : Option R :=
 bif (decide (w5 < w4)) then
  bif (inB w5 w3.length) then
   bif (decide (w1 ≥ w0)) then
    k0 ()
   else
    bnd (rc ((w3.getD w5.toNat (.i 0)).cell 0).toI ((w3.getD w5.toNat (.i 0)).cell 1).toI ((w3.getD w5.toNat (.i 0)).cell 2).toI ((w3.getD w5.toNat (.i 0)).cell 3).toI ((w3.getD w5.toNat (.i 0)).cell 4).toS ((w3.getD w5.toNat (.i 0)).cell 5).isNil ((w3.getD w5.toNat (.i 0)).cell 5).items (IntKind.wrap .i64 (w0 - w1))) fun y0 =>
    bif y0.isSome then
     kr (IntKind.wrap .i64 (w1 + (y0.getD default))) (IntKind.wrap .i64 (w5 + 1))
    else
     none
  else
   none
 else
  k1 w1
def L106x1x9 (N : Nat) (rc : Rc106x1) {R : Type} (w0 : Int) (w3 : LD) (w4 : Int) : Nat → Int → Int → (Unit → Option R) → (Int → Option R) → Option R
 | 0, _, _, _, _ => none
 | m + 1, w1, w5, k0, k1 => S106x1x9 N rc w0 w3 w4 w1 w5 (fun w1 w5 => L106x1x9 N rc w0 w3 w4 m w1 w5 k0 k1) k0 k1
def G106x1x9 (rc : Rc106x1) (w0 : Int) (w3 : LD) (w4 : Int) (w1 w5 : Int) : Option (Sum (Unit) (Int)) := L106x1x9 N rc (R := (Sum (Unit) (Int))) w0 w3 w4 N w1 w5 (fun p => some (.inl p)) (fun p => some (.inr p))
def J106x1x9 (rc : Rc106x1) (L x : List Lf) (kr : List Lf → Option R) (k0 : Unit → Option R) (k1 : Int → Option R) : Option R := S106x1x9 N rc (li L 0) (ll L 3) (li L 4) (li x 0) (li x 1) (fun w1 w5 => kr [.i w1, .i w5]) k0 k1
theorem sb106x1x9 (rc : Rc106x1) (L x : List Lf) (kr : List Lf → Option R) (k0 : Unit → Option R) (k1 : Int → Option R) : J106x1x9 N rc L x kr k0 k1 = (J106x1x9 N rc L x (fun y => some (.inl y)) (fun p => some (.inr (.inl p))) (fun p => some (.inr (.inr p)))).bind (sumE kr (sumE k0 k1)) := by
 unfold J106x1x9 S106x1x9
 repeat' (first | with_reducible apply cond_b | (with_reducible apply bnd_b; intro _) | rfl)
def Q106x1x9 (rc : Rc106x1) (L : List Lf) (m : Nat) (x : List Lf) : Option (Sum (Unit) (Int)) := L106x1x9 N rc (R := (Sum (Unit) (Int))) (li L 0) (ll L 3) (li L 4) m (li x 0) (li x 1) (fun p => some (.inl p)) (fun p => some (.inr p))
def sh106x1x9 : Sh := { tmps := [(1, .c (.i .i64)), (5, .c (.i .i64)), (9, .c (.sl 24)), (10, .c (.i .i64)), (11, .c (.i .i64))], mem := [] }
def A106x1x9 (rc : Rc106x1) (L : List Lf) : List (Bool × (Ex × St)) := bnd (Q106x1x9 N rc L N (pk sh106x1x9 [1, 5] L)) fun q => [((inlB q), (.ret, ⟨[(4, .c (.i .i64 (li L 0)))], []⟩)), ((inrQ q).isSome, ((.exit 0), ⟨[(5, .c (.i .i64 ((inrQ q).getD default)))], []⟩))]
theorem step106x1x9 (rc : Rc106x1) (hR : OracleOk Tryz.prog ((O106x1 N) rc)) (m : Nat) (kn : St → Option (Ex × St)) (L x : List Lf) : lpB Tryz.prog ((O106x1 N) rc) ((h106x1s0 N) rc hR).h 0 106 9 sh106x1x9 [1, 5] [4, 5] [] (m + 100) kn L x = J106x1x9 N rc L x (fun y => kn (ofSh sh106x1x9 (mx sh106x1x9 [1, 5] L y))) (fun _ => some (.ret, ⟨[(4, .c (.i .i64 (li L 0)))], []⟩)) (fun p => some ((.exit 0), ⟨[(5, .c (.i .i64 p))], []⟩)) := by kernel_rfl
theorem ql106x1x9 (rc : Rc106x1) (L : List Lf) (m : Nat) (x : List Lf) : Q106x1x9 N rc L (m + 1) x = J106x1x9 N rc L x (Q106x1x9 N rc L m) (fun p => some (.inl p)) (fun p => some (.inr p)) := by kernel_rfl
def h106x1s1 (rc : Rc106x1) (hR : OracleOk Tryz.prog ((O106x1 N) rc)) : Sg Tryz.prog 0 106 :=
 ((h106x1s0 N) rc hR).lp ((A106x1x9 N) rc) N progOk hR (fun m kn L x => (step106x1x9 N rc hR m kn L x).trans (sb106x1x9 N rc L x _ _ _)) (fun L m x => (ql106x1x9 N rc L m x).trans (sb106x1x9 N rc L x (Q106x1x9 N rc L m) (fun p => some (.inl p)) (fun p => some (.inr p)))) fun L x hx => (altS alt1) x hx
def F106x1 (rc : Rc106x1) (v0 v1 v2 v3 : Int) (v4 : LB) (v5 : Bool) (v6 : LD) (v7 : Int) (k0 : Int → Option R) : Option R :=
 bnd (G106x1x9 N rc v7 v6 (v6.length : Int) 1 0) fun y0 =>
 bif (inlB y0) then
  k0 v7
 else
  bif (inrQ y0).isSome then
   k0 ((inrQ y0).getD default)
  else
   none
def G106x1 (rc : Rc106x1) (v0 v1 v2 v3 : Int) (v4 : LB) (v5 : Bool) (v6 : LD) (v7 : Int) : Option (Int) := F106x1 N rc v0 v1 v2 v3 v4 v5 v6 v7 (fun p => some p)
theorem bind106x1 (rc : Rc106x1) (v0 v1 v2 v3 : Int) (v4 : LB) (v5 : Bool) (v6 : LD) (v7 : Int) (k0 : Int → Option R) : F106x1 N rc v0 v1 v2 v3 v4 v5 v6 v7 k0 = (G106x1 N rc v0 v1 v2 v3 v4 v5 v6 v7).bind k0 := by
 unfold G106x1 F106x1
 repeat' (first | with_reducible apply cond_b | (with_reducible apply bnd_b; intro _) | rfl)
def J106x1 (rc : Rc106x1) (L : List Lf) (k0 : Int → Option R) : Option R := F106x1 N rc (li L 0) (li L 1) (li L 2) (li L 3) (ls L 4) (lb L 5) (ll L 6) (li L 7) k0
theorem raw106x1 (rc : Rc106x1) (hR : OracleOk Tryz.prog ((O106x1 N) rc)) (L : List Lf) : bd Tryz.prog ((O106x1 N) rc) ((h106x1s1 N) rc hR).h 106 sh106x1 L = J106x1 N rc L (fun p => some ([.c (.i .i64 p)], [])) := by kernel_rfl
theorem fin106x1 (rc : Rc106x1) (hR : OracleOk Tryz.prog ((O106x1 N) rc)) (L : List Lf) (x : Res) (hx : altK ((B106x1 N) (fun v0 v1 v2 v3 v4 v5 v6 v7 => G106x1 N rc v0 v1 v2 v3 v4 v5 v6 v7) L) some = some x) : CallOk Tryz.prog 106 (valsOf (ofSh sh106x1 L).tmps) (ofSh sh106x1 L).mem x :=
 callOk_of (n := 200) progOk hR ((h106x1s1 N) rc hR).ok rfl ((raw106x1 N rc hR L).trans ((bind106x1 N rc ..).trans (alt1 x hx)))
def R106x1 (N : Nat) : Nat → Rc106x1
 | 0 => fun _ _ _ _ _ _ _ _ => none
 | m + 1 => fun v0 v1 v2 v3 v4 v5 v6 v7 => G106x1 N (R106x1 N m) v0 v1 v2 v3 v4 v5 v6 v7
theorem Rok106x1 (N : Nat) : ∀ m, OracleOk Tryz.prog ((O106x1 N) (R106x1 N m))
 | 0 => ext_ok (T26x0_ok N) (AM.enters_of (by kernel_rfl)) (spSh_law fun L x hx => by
  have h : (none : Option Res) = some x := hx
  cases h)
 | m + 1 => ext_ok (T26x0_ok N) (AM.enters_of (by kernel_rfl)) (spSh_law fun L x hx => fin106x1 N (R106x1 N m) (Rok106x1 N m) L x hx)
def T106x1 : Oracle := (O106x1 N) (R106x1 N N)
theorem T106x1_ok : OracleOk Tryz.prog (T106x1 N) := Rok106x1 N N
def rg114x0 : List (Nat × List Nat) := [(0, [0, 1, 2]), (1, [0, 1, 2])]
def hd114x0 : Hints := []
def h114x0s0 (N : Nat) : Sg Tryz.prog 0 114 := .start hd114x0 rg114x0
def F114x0 (N : Nat) (v0 v1 v2 : Int) (k0 : Bool → R) : R :=
 k0 (bif (decide (v0 < v1)) then true else (decide (v0 > v2)))
def V114x0 (v0 v1 v2 : Int) : Bool := F114x0 N v0 v1 v2 (fun p => p)
theorem tot114x0 (v0 v1 v2 : Int) (k0 : Bool → R) : F114x0 N v0 v1 v2 k0 = k0 (V114x0 N v0 v1 v2) := by
 unfold V114x0 F114x0
 repeat' (first | rfl | apply cond_k | (apply bnd_k; intro _))
def sh114x0 : Sh := { tmps := [(0, .c (.i .i64)), (1, .c (.i .i64)), (2, .c (.i .i64))], mem := [] }
def A114x0 (L : List Lf) : List (Bool × Res) := bnd (F114x0 N (li L 0) (li L 1) (li L 2) (fun p => p)) fun q => [(true, ([.c (.b q)], []))]
theorem raw114x0 (L : List Lf) : bd Tryz.prog (T106x1 N) (h114x0s0 N).h 114 sh114x0 L = F114x0 N (li L 0) (li L 1) (li L 2) (fun p => some ([.c (.b p)], [])) := by kernel_rfl
theorem ok114x0 : FnOk Tryz.prog 114 sh114x0 (A114x0 N) :=
 (h114x0s0 N).fn progOk (T106x1_ok N) fun L x hx => ((raw114x0 N L).trans ((tot114x0 N ..).trans (alt0 _ _ hx)))
def T114x0 : Oracle := ext 114 (spSh sh114x0 (A114x0 N)) (T106x1 N)
theorem T114x0_ok : OracleOk Tryz.prog (T114x0 N) := FnOk.to (ok114x0 N) (T106x1_ok N)
def rg118x0 : List (Nat × List Nat) := [(0, [0]), (1, [0]), (2, [3, 0]), (4, [0, 3]), (5, [4, 3, 0]), (6, []), (3, [3, 0]), (7, [0])]
def hd118x0 : Hints := [(6, [3, 0], [], [])]
def h118x0s0 (N : Nat) : Sg Tryz.prog 0 118 := .start hd118x0 rg118x0
def S118x0x6 (N : Nat) (w0 : LB) (w1 : Int) (kr : Int → Option R) (k0 : Unit → Option R) (k1 : Unit → Option R) : Option R :=
 bif (decide (w1 < (w0.length : Int))) then
  bif (inB w1 w0.length) then
   bnd (bif (decide (((w0.getD w1.toNat 0).toNat : Int) ≥ 97)) then (decide (((w0.getD w1.toNat 0).toNat : Int) ≤ 122)) else false) fun y0 =>
   bnd (bif y0 then true else (bif (decide (((w0.getD w1.toNat 0).toNat : Int) ≥ 65)) then (decide (((w0.getD w1.toNat 0).toNat : Int) ≤ 90)) else false)) fun y1 =>
   bnd (bif y1 then true else (bif (decide (((w0.getD w1.toNat 0).toNat : Int) ≥ 48)) then (decide (((w0.getD w1.toNat 0).toNat : Int) ≤ 57)) else false)) fun y2 =>
   bnd (bif y2 then true else (((w0.getD w1.toNat 0).toNat : Int) == 45)) fun y3 =>
   bnd (bif y3 then true else (((w0.getD w1.toNat 0).toNat : Int) == 95)) fun y4 =>
   bnd (bif y4 then true else (((w0.getD w1.toNat 0).toNat : Int) == 46)) fun y5 =>
   bif (!y5) then
    k0 ()
   else
    kr (IntKind.wrap .i64 (w1 + 1))
  else
   none
 else
  k1 ()
def L118x0x6 (N : Nat) {R : Type} (w0 : LB) : Nat → Int → (Unit → Option R) → (Unit → Option R) → Option R
 | 0, _, _, _ => none
 | m + 1, w1, k0, k1 => S118x0x6 N w0 w1 (fun w1 => L118x0x6 N w0 m w1 k0 k1) k0 k1
def G118x0x6 (w0 : LB) (w1 : Int) : Option (Sum (Unit) (Unit)) := L118x0x6 N (R := (Sum (Unit) (Unit))) w0 N w1 (fun p => some (.inl p)) (fun p => some (.inr p))
def J118x0x6 (L x : List Lf) (kr : List Lf → Option R) (k0 : Unit → Option R) (k1 : Unit → Option R) : Option R := S118x0x6 N (ls L 0) (li x 0) (fun w1 => kr [.i w1]) k0 k1
theorem sb118x0x6 (L x : List Lf) (kr : List Lf → Option R) (k0 : Unit → Option R) (k1 : Unit → Option R) : J118x0x6 N L x kr k0 k1 = (J118x0x6 N L x (fun y => some (.inl y)) (fun p => some (.inr (.inl p))) (fun p => some (.inr (.inr p)))).bind (sumE kr (sumE k0 k1)) := by
 unfold J118x0x6 S118x0x6
 repeat' (first | with_reducible apply cond_b | (with_reducible apply bnd_b; intro _) | rfl)
def Q118x0x6 (L : List Lf) (m : Nat) (x : List Lf) : Option (Sum (Unit) (Unit)) := L118x0x6 N (R := (Sum (Unit) (Unit))) (ls L 0) m (li x 0) (fun p => some (.inl p)) (fun p => some (.inr p))
def sh118x0x6 : Sh := { tmps := [(0, .c (.s)), (3, .c (.i .i64))], mem := [] }
def A118x0x6 (L : List Lf) : List (Bool × (Ex × St)) := bnd (Q118x0x6 N L N (pk sh118x0x6 [1] L)) fun q => [((inlB q), (.ret, ⟨[(2, .c (.b false))], []⟩)), ((inrQ q).isSome, ((.exit 0), ⟨[(0, .c (.s (ls L 0)))], []⟩))]
theorem step118x0x6 (m : Nat) (kn : St → Option (Ex × St)) (L x : List Lf) : lpB Tryz.prog (T114x0 N) (h118x0s0 N).h 0 118 6 sh118x0x6 [1] [2, 0] [] (m + 100) kn L x = J118x0x6 N L x (fun y => kn (ofSh sh118x0x6 (mx sh118x0x6 [1] L y))) (fun _ => some (.ret, ⟨[(2, .c (.b false))], []⟩)) (fun _ => some ((.exit 0), ⟨[(0, .c (.s (ls L 0)))], []⟩)) := by kernel_rfl
theorem ql118x0x6 (L : List Lf) (m : Nat) (x : List Lf) : Q118x0x6 N L (m + 1) x = J118x0x6 N L x (Q118x0x6 N L m) (fun p => some (.inl p)) (fun p => some (.inr p)) := by kernel_rfl
def h118x0s1 : Sg Tryz.prog 0 118 :=
 (h118x0s0 N).lp (A118x0x6 N) N progOk (T114x0_ok N) (fun m kn L x => (step118x0x6 N m kn L x).trans (sb118x0x6 N L x _ _ _)) (fun L m x => (ql118x0x6 N L m x).trans (sb118x0x6 N L x (Q118x0x6 N L m) (fun p => some (.inl p)) (fun p => some (.inr p)))) fun L x hx => (altS alt1) x hx
def F118x0 (v0 : LB) (k0 : Bool → Option R) : Option R :=
 bnd (G118x0x6 N v0 0) fun y0 =>
 bif (inlB y0) then
  k0 false
 else
  bif (inrQ y0).isSome then
   bnd (bif (decide ((v0.length : Int) ≥ 1)) then (decide ((v0.length : Int) ≤ 60)) else false) fun y1 =>
   k0 y1
  else
   none
def G118x0 (v0 : LB) : Option (Bool) := F118x0 N v0 (fun p => some p)
theorem bind118x0 (v0 : LB) (k0 : Bool → Option R) : F118x0 N v0 k0 = (G118x0 N v0).bind k0 := by
 unfold G118x0 F118x0
 repeat' (first | with_reducible apply cond_b | (with_reducible apply bnd_b; intro _) | rfl)
def sh118x0 : Sh := { tmps := [(0, .c (.s))], mem := [] }
def A118x0 (L : List Lf) : List (Bool × Res) := bnd (F118x0 N (ls L 0) (fun p => some p)) fun q => [(q.isSome, ([.c (.b (q.getD default))], []))]
theorem raw118x0 (L : List Lf) : bd Tryz.prog (T114x0 N) (h118x0s1 N).h 118 sh118x0 L = F118x0 N (ls L 0) (fun p => some ([.c (.b p)], [])) := by kernel_rfl
theorem ok118x0 : FnOk Tryz.prog 118 sh118x0 (A118x0 N) :=
 (h118x0s1 N).fn progOk (T114x0_ok N) fun L x hx => ((raw118x0 N L).trans ((bind118x0 N ..).trans (alt1 x hx)))
def T118x0 : Oracle := ext 118 (spSh sh118x0 (A118x0 N)) (T114x0 N)
theorem T118x0_ok : OracleOk Tryz.prog (T118x0 N) := FnOk.to (ok118x0 N) (T114x0_ok N)
def rg124x0 : List (Nat × List Nat) := [(0, [0]), (1, [0])]
def hd124x0 : Hints := []
def h124x0s0 (N : Nat) : Sg Tryz.prog 0 124 := .start hd124x0 rg124x0
def F124x0 (N : Nat) (v0 : Int) (k0 : Bool → R) : R :=
 k0 (bif (decide (v0 ≥ 1)) then (decide (v0 ≤ 7)) else false)
def V124x0 (v0 : Int) : Bool := F124x0 N v0 (fun p => p)
theorem tot124x0 (v0 : Int) (k0 : Bool → R) : F124x0 N v0 k0 = k0 (V124x0 N v0) := by
 unfold V124x0 F124x0
 repeat' (first | rfl | apply cond_k | (apply bnd_k; intro _))
def sh124x0 : Sh := { tmps := [(0, .c (.i .i64))], mem := [] }
def A124x0 (L : List Lf) : List (Bool × Res) := bnd (F124x0 N (li L 0) (fun p => p)) fun q => [(true, ([.c (.b q)], []))]
theorem raw124x0 (L : List Lf) : bd Tryz.prog (T118x0 N) (h124x0s0 N).h 124 sh124x0 L = F124x0 N (li L 0) (fun p => some ([.c (.b p)], [])) := by kernel_rfl
theorem ok124x0 : FnOk Tryz.prog 124 sh124x0 (A124x0 N) :=
 (h124x0s0 N).fn progOk (T118x0_ok N) fun L x hx => ((raw124x0 N L).trans ((tot124x0 N ..).trans (alt0 _ _ hx)))
def T124x0 : Oracle := ext 124 (spSh sh124x0 (A124x0 N)) (T118x0 N)
theorem T124x0_ok : OracleOk Tryz.prog (T124x0 N) := FnOk.to (ok124x0 N) (T118x0_ok N)
def rg199x0 : List (Nat × List Nat) := [(0, [0]), (1, [1]), (2, []), (3, [1]), (4, [1, 3]), (5, [12, 1, 3]), (9, [12, 1, 3]), (13, [12, 1, 3]), (22, [12, 1, 3]), (23, [1, 3]), (24, []), (25, [1, 3]), (26, []), (27, [1, 3]), (14, [1, 3]), (15, [4, 1, 3]), (17, [1, 4, 3]), (18, []), (16, [4, 1, 3]), (19, [1, 3]), (20, []), (21, [1, 3]), (10, [1, 3]), (11, []), (12, [1, 3]), (6, [1, 3]), (7, []), (8, [1, 3]), (28, [1, 3]), (29, []), (30, [1]), (31, []), (32, [])]
def hd199x0 : Hints := [(45, [4, 1, 3], [3, 1], []), (76, [1, 3], [3, 1], []), (71, [1, 3, 58], [3, 1], []), (66044, [1, 3, 12, 30], [3, 1], []), (39032, [1, 3, 12, 21], [3, 1], []), (27020, [1, 3, 12, 13], [3, 1], [])]
def h199x0s0 (N : Nat) : Sg Tryz.prog 0 199 := .start hd199x0 rg199x0
def S199x0x45 (w5 : LB) (w0 : Int) (kr : Int → Option R) (k0 : Unit → Option R) (k1 : Unit → Option R) : Option R :=
 bif (decide (w0 < (w5.length : Int))) then
  bif (inB w0 w5.length) then
   bnd (V114x0 N (IntKind.wrap .i64 ((w5.getD w0.toNat 0).toNat : Int)) 32 126) fun y0 =>
   bif y0 then
    k0 ()
   else
    kr (IntKind.wrap .i64 (w0 + 1))
  else
   none
 else
  k1 ()
def L199x0x45 (N : Nat) {R : Type} (w5 : LB) : Nat → Int → (Unit → Option R) → (Unit → Option R) → Option R
 | 0, _, _, _ => none
 | m + 1, w0, k0, k1 => S199x0x45 N w5 w0 (fun w0 => L199x0x45 N w5 m w0 k0 k1) k0 k1
def G199x0x45 (w5 : LB) (w0 : Int) : Option (Sum (Unit) (Unit)) := L199x0x45 N (R := (Sum (Unit) (Unit))) w5 N w0 (fun p => some (.inl p)) (fun p => some (.inr p))
def J199x0x45 (L x : List Lf) (kr : List Lf → Option R) (k0 : Unit → Option R) (k1 : Unit → Option R) : Option R := S199x0x45 N (ls L 5) (li x 0) (fun w0 => kr [.i w0]) k0 k1
theorem sb199x0x45 (L x : List Lf) (kr : List Lf → Option R) (k0 : Unit → Option R) (k1 : Unit → Option R) : J199x0x45 N L x kr k0 k1 = (J199x0x45 N L x (fun y => some (.inl y)) (fun p => some (.inr (.inl p))) (fun p => some (.inr (.inr p)))).bind (sumE kr (sumE k0 k1)) := by
 unfold J199x0x45 S199x0x45
 repeat' (first | with_reducible apply cond_b | (with_reducible apply bnd_b; intro _) | rfl)
def Q199x0x45 (L : List Lf) (m : Nat) (x : List Lf) : Option (Sum (Unit) (Unit)) := L199x0x45 N (R := (Sum (Unit) (Unit))) (ls L 5) m (li x 0) (fun p => some (.inl p)) (fun p => some (.inr p))
def sh199x0x45 : Sh := { tmps := [(1, .c (.p 1 0)), (3, .c (.p 3 0)), (4, .c (.i .i64))], mem := [(1, .box (.i .i64 :: [.i .i64, .i .i64, .i .i64, .s, .sl 24])), (3, .box (.i .i64 :: [.i .i64, .i .i64, .i .i64, .s, .sl 24]))] }
def K199x0x45w0 (L : List Lf) (_ : Unit) : Ex × St := (.ret, mg (ofSh sh199x0x45 L) [2] [(2, .c (.i .i64 2))] [1, 3] [])
def A199x0x45 (L : List Lf) : List (Bool × (Ex × St)) := bnd (Q199x0x45 N L N (pk sh199x0x45 [0] L)) fun q => [((inlB q), K199x0x45w0 L ()), ((inrQ q).isSome, ((.exit 1), mg (ofSh sh199x0x45 L) [1, 3] [] [1, 3] []))]
theorem step199x0x45 (m : Nat) (kn : St → Option (Ex × St)) (L x : List Lf) : lpB Tryz.prog (T124x0 N) (h199x0s0 N).h 0 199 45 sh199x0x45 [0] [2, 1, 3] [3, 1] (m + 100) kn L x = J199x0x45 N L x (fun y => kn (ofSh sh199x0x45 (mx sh199x0x45 [0] L y))) (fun _ => some (K199x0x45w0 L ())) (fun _ => some ((.exit 1), mg (ofSh sh199x0x45 L) [1, 3] [] [1, 3] [])) := by kernel_rfl
theorem ql199x0x45 (L : List Lf) (m : Nat) (x : List Lf) : Q199x0x45 N L (m + 1) x = J199x0x45 N L x (Q199x0x45 N L m) (fun p => some (.inl p)) (fun p => some (.inr p)) := by kernel_rfl
def h199x0s1 : Sg Tryz.prog 0 199 :=
 (h199x0s0 N).lp (A199x0x45 N) N progOk (T124x0_ok N) (fun m kn L x => (step199x0x45 N m kn L x).trans (sb199x0x45 N L x _ _ _)) (fun L m x => (ql199x0x45 N L m x).trans (sb199x0x45 N L x (Q199x0x45 N L m) (fun p => some (.inl p)) (fun p => some (.inr p)))) fun L x hx => (altS alt1) x hx
def F199x0x76 (w2 w3 : Int) (k0 : Bool → R) : R :=
 bnd (V114x0 N w2 (-1000000000000000) 1000000000000000) fun y0 =>
 bif y0 then
  k0 true
 else
  bnd (V114x0 N w3 (-1000000000000000) 1000000000000000) fun y1 =>
  k0 (bif y1 then true else (decide (w2 > w3)))
def V199x0x76 (w2 w3 : Int) : Bool := F199x0x76 N w2 w3 (fun p => p)
theorem tot199x0x76 (w2 w3 : Int) (k0 : Bool → R) : F199x0x76 N w2 w3 k0 = k0 (V199x0x76 N w2 w3) := by
 unfold V199x0x76 F199x0x76
 repeat' (first | rfl | apply cond_k | (apply bnd_k; intro _))
def sh199x0x76 : Sh := { tmps := [(1, .c (.p 1 0)), (3, .c (.p 3 0))], mem := [(1, .box (.i .i64 :: [.i .i64, .i .i64, .i .i64, .s, .sl 24])), (3, .box (.i .i64 :: [.i .i64, .i .i64, .i .i64, .s, .sl 24]))] }
def K199x0x76w0 (L : List Lf) (p : Bool) : Ex × St := (.normal, mg (ofSh sh199x0x76 L) [1, 3, 78] [(78, .c (.b p))] [1, 3] [])
def A199x0x76 (L : List Lf) : List (Bool × (Ex × St)) := bnd (F199x0x76 N (li L 2) (li L 3) (fun p => p)) fun q => [(true, K199x0x76w0 L q)]
theorem raw199x0x76 (L : List Lf) : pc Tryz.prog (T124x0 N) (h199x0s1 N).h 0 100 199 76 sh199x0x76 L [1, 3, 78] [3, 1] = F199x0x76 N (li L 2) (li L 3) (fun p => some (K199x0x76w0 L p)) := by kernel_rfl
def h199x0s2 : Sg Tryz.prog 0 199 :=
 (h199x0s1 N).cut (A199x0x76 N) progOk (T124x0_ok N) fun L x hx => (raw199x0x76 N L).trans ((tot199x0x76 N ..).trans (alt0 _ _ hx))
def F199x0x71 (w0 : Bool) (w2 w3 w4 w9 w10 w11 : Int) (k0 : Int → Option R) (k1 : Int × Int × Int → Option R) : Option R :=
 bif w0 then
  bnd (V124x0 N w2) fun y0 =>
  bif (!y0) then
   k0 7
  else
   bnd (V199x0x76 N w3 w4) fun y1 =>
   bif y1 then
    k0 9
   else
    k1 (w2, w3, w4)
 else
  k1 (w9, w10, w11)
def G199x0x71 (w0 : Bool) (w2 w3 w4 w9 w10 w11 : Int) : Option (Sum (Int) (Int × Int × Int)) := F199x0x71 N w0 w2 w3 w4 w9 w10 w11 (fun p => some (.inl p)) (fun p => some (.inr p))
theorem bind199x0x71 (w0 : Bool) (w2 w3 w4 w9 w10 w11 : Int) (k0 : Int → Option R) (k1 : Int × Int × Int → Option R) : F199x0x71 N w0 w2 w3 w4 w9 w10 w11 k0 k1 = (G199x0x71 N w0 w2 w3 w4 w9 w10 w11).bind (sumE k0 k1) := by
 unfold G199x0x71 F199x0x71
 repeat' (first | with_reducible apply cond_b | (with_reducible apply bnd_b; intro _) | rfl)
def J199x0x71 (L : List Lf) (k0 : Int → Option R) (k1 : Int × Int × Int → Option R) : Option R := F199x0x71 N (lb L 0) (li L 2) (li L 3) (li L 4) (li L 9) (li L 10) (li L 11) k0 k1
def sh199x0x71 : Sh := { tmps := [(1, .c (.p 1 0)), (3, .c (.p 3 0)), (58, .c (.b))], mem := [(1, .box (.i .i64 :: [.i .i64, .i .i64, .i .i64, .s, .sl 24])), (3, .box (.i .i64 :: [.i .i64, .i .i64, .i .i64, .s, .sl 24]))] }
def K199x0x71w0 (L : List Lf) (p : Int) : Ex × St := (.ret, mg (ofSh sh199x0x71 L) [2] [(2, .c (.i .i64 p))] [1, 3] [])
def K199x0x71w1 (L : List Lf) (p : Int × Int × Int) : Ex × St := (.normal, mg (ofSh sh199x0x71 L) [1, 3] [] [1, 3] [(3, .box [.i .i64 (li L 8), .i .i64 p.1, .i .i64 p.2.1, .i .i64 p.2.2, .s (ls L 12), .sl 24 (lb L 13) (ll L 14)])])
def A199x0x71 (L : List Lf) : List (Bool × (Ex × St)) := bnd (J199x0x71 N L (fun p => some (.inl p)) (fun p => some (.inr p))) fun q => [((inlB q), K199x0x71w0 L (inlV q)), ((inrQ q).isSome, K199x0x71w1 L ((inrQ q).getD default))]
theorem raw199x0x71 (L : List Lf) : pc Tryz.prog (T124x0 N) (h199x0s2 N).h 0 100 199 71 sh199x0x71 L [1, 3, 2] [3, 1] = J199x0x71 N L (fun p => some (K199x0x71w0 L p)) (fun p => some (K199x0x71w1 L p)) := by kernel_rfl
def h199x0s3 : Sg Tryz.prog 0 199 :=
 (h199x0s2 N).cut (A199x0x71 N) progOk (T124x0_ok N) fun L x hx => (raw199x0x71 N L).trans ((bind199x0x71 N ..).trans ((altS alt1) x hx))
def F199x0x66044 (w0 : Int) (w1 : Bool) (w3 w4 w5 : Int) (w6 : LB) (w10 w11 w12 : Int) (w13 : LB) (k0 : Int → Option R) (k1 : Ty0 → Option R) : Option R :=
 bif w1 then
  bnd (G199x0x45 N w6 0) fun y0 =>
  bif (inlB y0) then
   k0 2
  else
   bif (inrQ y0).isSome then
    bnd (bif (decide ((w6.length : Int) < 1)) then true else (decide ((w6.length : Int) > 60))) fun y1 =>
    bif y1 then
     k0 2
    else
     k1 (w10, w11, w12, w6)
   else
    none
 else
  bnd (G199x0x71 N (w0 == 7) w3 w4 w5 w10 w11 w12) fun y2 =>
  bif (inlB y2) then
   k0 (inlV y2)
  else
   bif (inrQ y2).isSome then
    k1 (((inrQ y2).getD default).1, ((inrQ y2).getD default).2.1, ((inrQ y2).getD default).2.2, w13)
   else
    none
def G199x0x66044 (w0 : Int) (w1 : Bool) (w3 w4 w5 : Int) (w6 : LB) (w10 w11 w12 : Int) (w13 : LB) : Option (Sum (Int) (Ty0)) := F199x0x66044 N w0 w1 w3 w4 w5 w6 w10 w11 w12 w13 (fun p => some (.inl p)) (fun p => some (.inr p))
theorem bind199x0x66044 (w0 : Int) (w1 : Bool) (w3 w4 w5 : Int) (w6 : LB) (w10 w11 w12 : Int) (w13 : LB) (k0 : Int → Option R) (k1 : Ty0 → Option R) : F199x0x66044 N w0 w1 w3 w4 w5 w6 w10 w11 w12 w13 k0 k1 = (G199x0x66044 N w0 w1 w3 w4 w5 w6 w10 w11 w12 w13).bind (sumE k0 k1) := by
 unfold G199x0x66044 F199x0x66044
 repeat' (first | with_reducible apply cond_b | (with_reducible apply bnd_b; intro _) | rfl)
def J199x0x66044 (L : List Lf) (k0 : Int → Option R) (k1 : Ty0 → Option R) : Option R := F199x0x66044 N (li L 0) (lb L 1) (li L 3) (li L 4) (li L 5) (ls L 6) (li L 10) (li L 11) (li L 12) (ls L 13) k0 k1
def sh199x0x66044 : Sh := { tmps := [(1, .c (.p 1 0)), (3, .c (.p 3 0)), (12, .c (.i .i64)), (30, .c (.b))], mem := [(1, .box (.i .i64 :: [.i .i64, .i .i64, .i .i64, .s, .sl 24])), (3, .box (.i .i64 :: [.i .i64, .i .i64, .i .i64, .s, .sl 24]))] }
def K199x0x66044w0 (L : List Lf) (p : Int) : Ex × St := (.ret, mg (ofSh sh199x0x66044 L) [2] [(2, .c (.i .i64 p))] [1, 3] [])
def K199x0x66044w1 (L : List Lf) (p : Ty0) : Ex × St := (.normal, mg (ofSh sh199x0x66044 L) [1, 3] [] [1, 3] [(3, .box [.i .i64 (li L 9), .i .i64 p.1, .i .i64 p.2.1, .i .i64 p.2.2.1, .s p.2.2.2, .sl 24 (lb L 14) (ll L 15)])])
def A199x0x66044 (L : List Lf) : List (Bool × (Ex × St)) := bnd (J199x0x66044 N L (fun p => some (.inl p)) (fun p => some (.inr p))) fun q => [((inlB q), K199x0x66044w0 L (inlV q)), ((inrQ q).isSome, K199x0x66044w1 L ((inrQ q).getD default))]
theorem raw199x0x66044 (L : List Lf) : pc Tryz.prog (T124x0 N) (h199x0s3 N).h 0 100 199 66044 sh199x0x66044 L [1, 3, 2] [3, 1] = J199x0x66044 N L (fun p => some (K199x0x66044w0 L p)) (fun p => some (K199x0x66044w1 L p)) := by kernel_rfl
def h199x0s4 : Sg Tryz.prog 0 199 :=
 (h199x0s3 N).cut (A199x0x66044 N) progOk (T124x0_ok N) fun L x hx => (raw199x0x66044 N L).trans ((bind199x0x66044 N ..).trans ((altS alt1) x hx))
def F199x0x39032 (w0 : Int) (w1 : Bool) (w3 w4 w5 : Int) (w6 : LB) (w10 w11 w12 : Int) (w13 : LB) (k0 : Int → Option R) (k1 : Ty0 → Option R) : Option R :=
 bif w1 then
  bnd (G118x0 N w6) fun y0 =>
  bif y0.isSome then
   bif (!(y0.getD default)) then
    k0 8
   else
    k1 (w10, w11, w12, w6)
  else
   none
 else
  bnd (G199x0x66044 N w0 (w0 == 6) w3 w4 w5 w6 w10 w11 w12 w13) fun y1 =>
  bif (inlB y1) then
   k0 (inlV y1)
  else
   bif (inrQ y1).isSome then
    k1 ((inrQ y1).getD default)
   else
    none
def G199x0x39032 (w0 : Int) (w1 : Bool) (w3 w4 w5 : Int) (w6 : LB) (w10 w11 w12 : Int) (w13 : LB) : Option (Sum (Int) (Ty0)) := F199x0x39032 N w0 w1 w3 w4 w5 w6 w10 w11 w12 w13 (fun p => some (.inl p)) (fun p => some (.inr p))
theorem bind199x0x39032 (w0 : Int) (w1 : Bool) (w3 w4 w5 : Int) (w6 : LB) (w10 w11 w12 : Int) (w13 : LB) (k0 : Int → Option R) (k1 : Ty0 → Option R) : F199x0x39032 N w0 w1 w3 w4 w5 w6 w10 w11 w12 w13 k0 k1 = (G199x0x39032 N w0 w1 w3 w4 w5 w6 w10 w11 w12 w13).bind (sumE k0 k1) := by
 unfold G199x0x39032 F199x0x39032
 repeat' (first | with_reducible apply cond_b | (with_reducible apply bnd_b; intro _) | rfl)
def J199x0x39032 (L : List Lf) (k0 : Int → Option R) (k1 : Ty0 → Option R) : Option R := F199x0x39032 N (li L 0) (lb L 1) (li L 3) (li L 4) (li L 5) (ls L 6) (li L 10) (li L 11) (li L 12) (ls L 13) k0 k1
def sh199x0x39032 : Sh := { tmps := [(1, .c (.p 1 0)), (3, .c (.p 3 0)), (12, .c (.i .i64)), (21, .c (.b))], mem := [(1, .box (.i .i64 :: [.i .i64, .i .i64, .i .i64, .s, .sl 24])), (3, .box (.i .i64 :: [.i .i64, .i .i64, .i .i64, .s, .sl 24]))] }
def K199x0x39032w0 (L : List Lf) (p : Int) : Ex × St := (.ret, mg (ofSh sh199x0x39032 L) [2] [(2, .c (.i .i64 p))] [1, 3] [])
def K199x0x39032w1 (L : List Lf) (p : Ty0) : Ex × St := (.normal, mg (ofSh sh199x0x39032 L) [1, 3] [] [1, 3] [(3, .box [.i .i64 (li L 9), .i .i64 p.1, .i .i64 p.2.1, .i .i64 p.2.2.1, .s p.2.2.2, .sl 24 (lb L 14) (ll L 15)])])
def A199x0x39032 (L : List Lf) : List (Bool × (Ex × St)) := bnd (J199x0x39032 N L (fun p => some (.inl p)) (fun p => some (.inr p))) fun q => [((inlB q), K199x0x39032w0 L (inlV q)), ((inrQ q).isSome, K199x0x39032w1 L ((inrQ q).getD default))]
theorem raw199x0x39032 (L : List Lf) : pc Tryz.prog (T124x0 N) (h199x0s4 N).h 0 100 199 39032 sh199x0x39032 L [1, 3, 2] [3, 1] = J199x0x39032 N L (fun p => some (K199x0x39032w0 L p)) (fun p => some (K199x0x39032w1 L p)) := by kernel_rfl
def h199x0s5 : Sg Tryz.prog 0 199 :=
 (h199x0s4 N).cut (A199x0x39032 N) progOk (T124x0_ok N) fun L x hx => (raw199x0x39032 N L).trans ((bind199x0x39032 N ..).trans ((altS alt1) x hx))
def F199x0x27020 (w0 : Int) (w1 : Bool) (w3 w4 w5 : Int) (w6 : LB) (w10 w11 w12 : Int) (w13 : LB) (k0 : Int → Option R) (k1 : Ty0 → Option R) : Option R :=
 bif w1 then
  bnd (V114x0 N w4 1 5) fun y0 =>
  bif y0 then
   k0 7
  else
   k1 (w10, w4, w12, w13)
 else
  bnd (G199x0x39032 N w0 (w0 == 5) w3 w4 w5 w6 w10 w11 w12 w13) fun y1 =>
  bif (inlB y1) then
   k0 (inlV y1)
  else
   bif (inrQ y1).isSome then
    k1 ((inrQ y1).getD default)
   else
    none
def G199x0x27020 (w0 : Int) (w1 : Bool) (w3 w4 w5 : Int) (w6 : LB) (w10 w11 w12 : Int) (w13 : LB) : Option (Sum (Int) (Ty0)) := F199x0x27020 N w0 w1 w3 w4 w5 w6 w10 w11 w12 w13 (fun p => some (.inl p)) (fun p => some (.inr p))
theorem bind199x0x27020 (w0 : Int) (w1 : Bool) (w3 w4 w5 : Int) (w6 : LB) (w10 w11 w12 : Int) (w13 : LB) (k0 : Int → Option R) (k1 : Ty0 → Option R) : F199x0x27020 N w0 w1 w3 w4 w5 w6 w10 w11 w12 w13 k0 k1 = (G199x0x27020 N w0 w1 w3 w4 w5 w6 w10 w11 w12 w13).bind (sumE k0 k1) := by
 unfold G199x0x27020 F199x0x27020
 repeat' (first | with_reducible apply cond_b | (with_reducible apply bnd_b; intro _) | rfl)
def J199x0x27020 (L : List Lf) (k0 : Int → Option R) (k1 : Ty0 → Option R) : Option R := F199x0x27020 N (li L 0) (lb L 1) (li L 3) (li L 4) (li L 5) (ls L 6) (li L 10) (li L 11) (li L 12) (ls L 13) k0 k1
def sh199x0x27020 : Sh := { tmps := [(1, .c (.p 1 0)), (3, .c (.p 3 0)), (12, .c (.i .i64)), (13, .c (.b))], mem := [(1, .box (.i .i64 :: [.i .i64, .i .i64, .i .i64, .s, .sl 24])), (3, .box (.i .i64 :: [.i .i64, .i .i64, .i .i64, .s, .sl 24]))] }
def K199x0x27020w0 (L : List Lf) (p : Int) : Ex × St := (.ret, mg (ofSh sh199x0x27020 L) [2] [(2, .c (.i .i64 p))] [1, 3] [])
def K199x0x27020w1 (L : List Lf) (p : Ty0) : Ex × St := (.normal, mg (ofSh sh199x0x27020 L) [1, 3] [] [1, 3] [(3, .box [.i .i64 (li L 9), .i .i64 p.1, .i .i64 p.2.1, .i .i64 p.2.2.1, .s p.2.2.2, .sl 24 (lb L 14) (ll L 15)])])
def A199x0x27020 (L : List Lf) : List (Bool × (Ex × St)) := bnd (J199x0x27020 N L (fun p => some (.inl p)) (fun p => some (.inr p))) fun q => [((inlB q), K199x0x27020w0 L (inlV q)), ((inrQ q).isSome, K199x0x27020w1 L ((inrQ q).getD default))]
theorem raw199x0x27020 (L : List Lf) : pc Tryz.prog (T124x0 N) (h199x0s5 N).h 0 100 199 27020 sh199x0x27020 L [1, 3, 2] [3, 1] = J199x0x27020 N L (fun p => some (K199x0x27020w0 L p)) (fun p => some (K199x0x27020w1 L p)) := by kernel_rfl
def h199x0s6 : Sg Tryz.prog 0 199 :=
 (h199x0s5 N).cut (A199x0x27020 N) progOk (T124x0_ok N) fun L x hx => (raw199x0x27020 N L).trans ((bind199x0x27020 N ..).trans ((altS alt1) x hx))
def F199x0 (v0 v1 v2 v3 : Int) (v4 : LB) (v6 : LD) (k0 : Int → Option R) : Option R :=
 bnd (V114x0 N v0 1 7) fun y0 =>
 bif y0 then
  k0 7
 else
  bnd (G199x0x27020 N v0 (v0 == 4) v1 v2 v3 v4 0 0 0 ([] : List UInt8)) fun y1 =>
  bif (inlB y1) then
   k0 (inlV y1)
  else
   bif (inrQ y1).isSome then
    bnd (bif (v1 != ((inrQ y1).getD default).1) then true else (v2 != ((inrQ y1).getD default).2.1)) fun y2 =>
    bnd (bif y2 then true else (v3 != ((inrQ y1).getD default).2.2.1)) fun y3 =>
    bnd (bif y3 then true else (!(v4 == ((inrQ y1).getD default).2.2.2))) fun y4 =>
    bif y4 then
     k0 2
    else
     bnd (bif (decide (v0 > 3)) then (decide ((v6.length : Int) > 0)) else false) fun y5 =>
     bnd (bif y5 then true else (bif (v0 == 3) then ((v6.length : Int) != 1) else false)) fun y6 =>
     bif y6 then
      k0 2
     else
      k0 0
   else
    none
def G199x0 (v0 v1 v2 v3 : Int) (v4 : LB) (v6 : LD) : Option (Int) := F199x0 N v0 v1 v2 v3 v4 v6 (fun p => some p)
theorem bind199x0 (v0 v1 v2 v3 : Int) (v4 : LB) (v6 : LD) (k0 : Int → Option R) : F199x0 N v0 v1 v2 v3 v4 v6 k0 = (G199x0 N v0 v1 v2 v3 v4 v6).bind k0 := by
 unfold G199x0 F199x0
 repeat' (first | with_reducible apply cond_b | (with_reducible apply bnd_b; intro _) | rfl)
def J199x0 (L : List Lf) (k0 : Int → Option R) : Option R := F199x0 N (li L 0) (li L 1) (li L 2) (li L 3) (ls L 4) (ll L 6) k0
def sh199x0 : Sh := { tmps := [(0, .g (.i .i64 :: [.i .i64, .i .i64, .i .i64, .s, .sl 24]))], mem := [] }
def A199x0 (L : List Lf) : List (Bool × Res) := bnd (J199x0 N L (fun p => some p)) fun q => [(q.isSome, ([.c (.i .i64 (q.getD default))], []))]
theorem raw199x0 (L : List Lf) : bd Tryz.prog (T124x0 N) (h199x0s6 N).h 199 sh199x0 L = J199x0 N L (fun p => some ([.c (.i .i64 p)], [])) := by kernel_rfl
theorem ok199x0 : FnOk Tryz.prog 199 sh199x0 (A199x0 N) :=
 (h199x0s6 N).fn progOk (T124x0_ok N) fun L x hx => ((raw199x0 N L).trans ((bind199x0 N ..).trans (alt1 x hx)))
def T199x0 : Oracle := ext 199 (spSh sh199x0 (A199x0 N)) (T124x0 N)
theorem T199x0_ok : OracleOk Tryz.prog (T199x0 N) := FnOk.to (ok199x0 N) (T124x0_ok N)
abbrev Rc107x1 : Type := Int → Int → Int → Int → LB → Bool → LD → Int → Option (Int)
def sh107x1 : Sh := { tmps := [(0, .g (.i .i64 :: [.i .i64, .i .i64, .i .i64, .s, .sl 24])), (1, .c (.i .i64))], mem := [] }
def B107x1 (N : Nat) (rc : Rc107x1) (L : List Lf) : List (Bool × Res) := bnd (rc (li L 0) (li L 1) (li L 2) (li L 3) (ls L 4) (lb L 5) (ll L 6) (li L 7)) fun q => [(q.isSome, ([.c (.i .i64 (q.getD default))], []))]
def O107x1 (rc : Rc107x1) : Oracle := ext 107 (spSh sh107x1 ((B107x1 N) rc)) (T199x0 N)
def rg107x1 : List (Nat × List Nat) := [(0, [0, 1]), (1, [2, 1]), (2, [5, 1, 2]), (3, [5]), (4, [1, 2]), (5, []), (6, [2, 1]), (7, [19, 18, 17, 1]), (8, [17, 19, 1, 18]), (9, [7, 1, 19, 18, 17]), (10, [8, 19, 18, 17, 1]), (11, [8]), (12, [19, 18, 17, 1]), (13, [])]
def hd107x1 : Hints := [(21, [19, 18, 17, 1], [], [])]
def h107x1s0 (rc : Rc107x1) (hR : OracleOk Tryz.prog ((O107x1 N) rc)) : Sg Tryz.prog 0 107 := .start hd107x1 rg107x1
def S107x1x21 (N : Nat) (rc : Rc107x1) (w0 : Int) (w2 : LD) (w3 : Int) (w4 : Int) (kr : Int → Option R) (k0 : Int → Option R) (k1 : Unit → Option R) : Option R :=
 bif (decide (w4 < w3)) then
  bif (inB w4 w2.length) then
   bnd (rc ((w2.getD w4.toNat (.i 0)).cell 0).toI ((w2.getD w4.toNat (.i 0)).cell 1).toI ((w2.getD w4.toNat (.i 0)).cell 2).toI ((w2.getD w4.toNat (.i 0)).cell 3).toI ((w2.getD w4.toNat (.i 0)).cell 4).toS ((w2.getD w4.toNat (.i 0)).cell 5).isNil ((w2.getD w4.toNat (.i 0)).cell 5).items (IntKind.wrap .i64 (w0 + 1))) fun y0 =>
   bif y0.isSome then
    bif ((y0.getD default) != 0) then
     k0 (y0.getD default)
    else
     kr (IntKind.wrap .i64 (w4 + 1))
   else
    none
  else
   none
 else
  k1 ()
def L107x1x21 (N : Nat) (rc : Rc107x1) {R : Type} (w0 : Int) (w2 : LD) (w3 : Int) : Nat → Int → (Int → Option R) → (Unit → Option R) → Option R
 | 0, _, _, _ => none
 | m + 1, w4, k0, k1 => S107x1x21 N rc w0 w2 w3 w4 (fun w4 => L107x1x21 N rc w0 w2 w3 m w4 k0 k1) k0 k1
def G107x1x21 (rc : Rc107x1) (w0 : Int) (w2 : LD) (w3 : Int) (w4 : Int) : Option (Sum (Int) (Unit)) := L107x1x21 N rc (R := (Sum (Int) (Unit))) w0 w2 w3 N w4 (fun p => some (.inl p)) (fun p => some (.inr p))
def J107x1x21 (rc : Rc107x1) (L x : List Lf) (kr : List Lf → Option R) (k0 : Int → Option R) (k1 : Unit → Option R) : Option R := S107x1x21 N rc (li L 0) (ll L 2) (li L 3) (li x 0) (fun w4 => kr [.i w4]) k0 k1
theorem sb107x1x21 (rc : Rc107x1) (L x : List Lf) (kr : List Lf → Option R) (k0 : Int → Option R) (k1 : Unit → Option R) : J107x1x21 N rc L x kr k0 k1 = (J107x1x21 N rc L x (fun y => some (.inl y)) (fun p => some (.inr (.inl p))) (fun p => some (.inr (.inr p)))).bind (sumE kr (sumE k0 k1)) := by
 unfold J107x1x21 S107x1x21
 repeat' (first | with_reducible apply cond_b | (with_reducible apply bnd_b; intro _) | rfl)
def Q107x1x21 (rc : Rc107x1) (L : List Lf) (m : Nat) (x : List Lf) : Option (Sum (Int) (Unit)) := L107x1x21 N rc (R := (Sum (Int) (Unit))) (li L 0) (ll L 2) (li L 3) m (li x 0) (fun p => some (.inl p)) (fun p => some (.inr p))
def sh107x1x21 : Sh := { tmps := [(1, .c (.i .i64)), (17, .c (.sl 24)), (18, .c (.i .i64)), (19, .c (.i .i64))], mem := [] }
def A107x1x21 (rc : Rc107x1) (L : List Lf) : List (Bool × (Ex × St)) := bnd (Q107x1x21 N rc L N (pk sh107x1x21 [4] L)) fun q => [((inlB q), (.ret, ⟨[(4, .c (.i .i64 (inlV q)))], []⟩)), ((inrQ q).isSome, ((.exit 0), ⟨[], []⟩))]
theorem step107x1x21 (rc : Rc107x1) (hR : OracleOk Tryz.prog ((O107x1 N) rc)) (m : Nat) (kn : St → Option (Ex × St)) (L x : List Lf) : lpB Tryz.prog ((O107x1 N) rc) ((h107x1s0 N) rc hR).h 0 107 21 sh107x1x21 [4] [4] [] (m + 100) kn L x = J107x1x21 N rc L x (fun y => kn (ofSh sh107x1x21 (mx sh107x1x21 [4] L y))) (fun p => some (.ret, ⟨[(4, .c (.i .i64 p))], []⟩)) (fun _ => some ((.exit 0), ⟨[], []⟩)) := by kernel_rfl
theorem ql107x1x21 (rc : Rc107x1) (L : List Lf) (m : Nat) (x : List Lf) : Q107x1x21 N rc L (m + 1) x = J107x1x21 N rc L x (Q107x1x21 N rc L m) (fun p => some (.inl p)) (fun p => some (.inr p)) := by kernel_rfl
def h107x1s1 (rc : Rc107x1) (hR : OracleOk Tryz.prog ((O107x1 N) rc)) : Sg Tryz.prog 0 107 :=
 ((h107x1s0 N) rc hR).lp ((A107x1x21 N) rc) N progOk hR (fun m kn L x => (step107x1x21 N rc hR m kn L x).trans (sb107x1x21 N rc L x _ _ _)) (fun L m x => (ql107x1x21 N rc L m x).trans (sb107x1x21 N rc L x (Q107x1x21 N rc L m) (fun p => some (.inl p)) (fun p => some (.inr p)))) fun L x hx => (altS alt1) x hx
def F107x1 (rc : Rc107x1) (v0 v1 v2 v3 : Int) (v4 : LB) (v5 : Bool) (v6 : LD) (v7 : Int) (k0 : Int → Option R) : Option R :=
 bnd (G199x0 N v0 v1 v2 v3 v4 v6) fun y0 =>
 bif y0.isSome then
  bif ((y0.getD default) != 0) then
   k0 (y0.getD default)
  else
   bif (decide (v7 > 20)) then
    k0 3
   else
    bnd (G107x1x21 N rc v7 v6 (v6.length : Int) 0) fun y1 =>
    bif (inlB y1) then
     k0 (inlV y1)
    else
     bif (inrQ y1).isSome then
      k0 0
     else
      none
 else
  none
def G107x1 (rc : Rc107x1) (v0 v1 v2 v3 : Int) (v4 : LB) (v5 : Bool) (v6 : LD) (v7 : Int) : Option (Int) := F107x1 N rc v0 v1 v2 v3 v4 v5 v6 v7 (fun p => some p)
theorem bind107x1 (rc : Rc107x1) (v0 v1 v2 v3 : Int) (v4 : LB) (v5 : Bool) (v6 : LD) (v7 : Int) (k0 : Int → Option R) : F107x1 N rc v0 v1 v2 v3 v4 v5 v6 v7 k0 = (G107x1 N rc v0 v1 v2 v3 v4 v5 v6 v7).bind k0 := by
 unfold G107x1 F107x1
 repeat' (first | with_reducible apply cond_b | (with_reducible apply bnd_b; intro _) | rfl)
def J107x1 (rc : Rc107x1) (L : List Lf) (k0 : Int → Option R) : Option R := F107x1 N rc (li L 0) (li L 1) (li L 2) (li L 3) (ls L 4) (lb L 5) (ll L 6) (li L 7) k0
theorem raw107x1 (rc : Rc107x1) (hR : OracleOk Tryz.prog ((O107x1 N) rc)) (L : List Lf) : bd Tryz.prog ((O107x1 N) rc) ((h107x1s1 N) rc hR).h 107 sh107x1 L = J107x1 N rc L (fun p => some ([.c (.i .i64 p)], [])) := by kernel_rfl
theorem fin107x1 (rc : Rc107x1) (hR : OracleOk Tryz.prog ((O107x1 N) rc)) (L : List Lf) (x : Res) (hx : altK ((B107x1 N) (fun v0 v1 v2 v3 v4 v5 v6 v7 => G107x1 N rc v0 v1 v2 v3 v4 v5 v6 v7) L) some = some x) : CallOk Tryz.prog 107 (valsOf (ofSh sh107x1 L).tmps) (ofSh sh107x1 L).mem x :=
 callOk_of (n := 200) progOk hR ((h107x1s1 N) rc hR).ok rfl ((raw107x1 N rc hR L).trans ((bind107x1 N rc ..).trans (alt1 x hx)))
def R107x1 (N : Nat) : Nat → Rc107x1
 | 0 => fun _ _ _ _ _ _ _ _ => none
 | m + 1 => fun v0 v1 v2 v3 v4 v5 v6 v7 => G107x1 N (R107x1 N m) v0 v1 v2 v3 v4 v5 v6 v7
theorem Rok107x1 (N : Nat) : ∀ m, OracleOk Tryz.prog ((O107x1 N) (R107x1 N m))
 | 0 => ext_ok (T199x0_ok N) (AM.enters_of (by kernel_rfl)) (spSh_law fun L x hx => by
  have h : (none : Option Res) = some x := hx
  cases h)
 | m + 1 => ext_ok (T199x0_ok N) (AM.enters_of (by kernel_rfl)) (spSh_law fun L x hx => fin107x1 N (R107x1 N m) (Rok107x1 N m) L x hx)
def T107x1 : Oracle := (O107x1 N) (R107x1 N N)
theorem T107x1_ok : OracleOk Tryz.prog (T107x1 N) := Rok107x1 N N
def rg29x0 : List (Nat × List Nat) := [(0, [0]), (1, [1]), (2, []), (3, [1])]
def hd29x0 : Hints := []
def h29x0s0 (N : Nat) : Sg Tryz.prog 0 29 := .start hd29x0 rg29x0
def F29x0 (v0 v1 v2 v3 : Int) (v4 : LB) (v5 : Bool) (v6 : LD) (k0 : Int → Option R) : Option R :=
 bnd (R106x1 N N v0 v1 v2 v3 v4 v5 v6 101) fun y0 =>
 bif y0.isSome then
  bif (decide ((y0.getD default) > 100)) then
   k0 3
  else
   bnd (R107x1 N N v0 v1 v2 v3 v4 v5 v6 0) fun y1 =>
   bif y1.isSome then
    k0 (y1.getD default)
   else
    none
 else
  none
def G29x0 (v0 v1 v2 v3 : Int) (v4 : LB) (v5 : Bool) (v6 : LD) : Option (Int) := F29x0 N v0 v1 v2 v3 v4 v5 v6 (fun p => some p)
theorem bind29x0 (v0 v1 v2 v3 : Int) (v4 : LB) (v5 : Bool) (v6 : LD) (k0 : Int → Option R) : F29x0 N v0 v1 v2 v3 v4 v5 v6 k0 = (G29x0 N v0 v1 v2 v3 v4 v5 v6).bind k0 := by
 unfold G29x0 F29x0
 repeat' (first | with_reducible apply cond_b | (with_reducible apply bnd_b; intro _) | rfl)
def J29x0 (L : List Lf) (k0 : Int → Option R) : Option R := F29x0 N (li L 0) (li L 1) (li L 2) (li L 3) (ls L 4) (lb L 5) (ll L 6) k0
def sh29x0 : Sh := { tmps := [(0, .g (.i .i64 :: [.i .i64, .i .i64, .i .i64, .s, .sl 24]))], mem := [] }
def A29x0 (L : List Lf) : List (Bool × Res) := bnd (J29x0 N L (fun p => some p)) fun q => [(q.isSome, ([.c (.i .i64 (q.getD default))], []))]
theorem raw29x0 (L : List Lf) : bd Tryz.prog (T107x1 N) (h29x0s0 N).h 29 sh29x0 L = J29x0 N L (fun p => some ([.c (.i .i64 p)], [])) := by kernel_rfl
theorem ok29x0 : FnOk Tryz.prog 29 sh29x0 (A29x0 N) :=
 (h29x0s0 N).fn progOk (T107x1_ok N) fun L x hx => ((raw29x0 N L).trans ((bind29x0 N ..).trans (alt1 x hx)))
def T29x0 : Oracle := ext 29 (spSh sh29x0 (A29x0 N)) (T107x1 N)
theorem T29x0_ok : OracleOk Tryz.prog (T29x0 N) := FnOk.to (ok29x0 N) (T107x1_ok N)
def rg34x0 : List (Nat × List Nat) := [(0, [0]), (1, [1]), (3, [1]), (5, [1]), (7, [1]), (8, []), (6, []), (4, []), (2, []), (9, [1]), (10, [46, 45, 44, 1]), (11, [46, 44, 1, 45]), (12, [4, 3, 1, 46, 45, 44]), (13, []), (14, [3, 4, 1, 46, 45, 44]), (15, []), (16, [46, 45, 44, 1]), (17, [])]
def hd34x0 : Hints := [(16, [1], [1], []), (30, [46, 45, 44, 1], [1], [])]
def h34x0s0 (N : Nat) : Sg Tryz.prog 0 34 := .start hd34x0 rg34x0
def F34x0x16 (w2 w3 w4 w5 w6 : Int) (k0 : Bool → R) : R :=
 bnd (V114x0 N w2 0 86399999999) fun y0 =>
 bif y0 then
  k0 true
 else
  bnd (V114x0 N w3 0 10000000000000) fun y1 =>
  bif y1 then
   k0 true
  else
   bnd (V114x0 N w4 0 10000000000000) fun y2 =>
   bif y2 then
    k0 true
   else
    bnd (V114x0 N w5 0 10000000000000) fun y3 =>
    bif y3 then
     k0 true
    else
     bnd (V114x0 N w6 0 10000000000000) fun y4 =>
     k0 y4
def V34x0x16 (w2 w3 w4 w5 w6 : Int) : Bool := F34x0x16 N w2 w3 w4 w5 w6 (fun p => p)
theorem tot34x0x16 (w2 w3 w4 w5 w6 : Int) (k0 : Bool → R) : F34x0x16 N w2 w3 w4 w5 w6 k0 = k0 (V34x0x16 N w2 w3 w4 w5 w6) := by
 unfold V34x0x16 F34x0x16
 repeat' (first | rfl | apply cond_k | (apply bnd_k; intro _))
def J34x0x16 (L : List Lf) (k0 : Bool → R) : R := F34x0x16 N (li L 2) (li L 3) (li L 4) (li L 5) (li L 6) k0
def sh34x0x16 : Sh := { tmps := [(1, .c (.p 1 0))], mem := [(1, .box (.s :: rI 6 ([.sl 9])))] }
def K34x0x16w0 (L : List Lf) (p : Bool) : Ex × St := (.normal, mg (ofSh sh34x0x16 L) [1, 14] [(14, .c (.b p))] [1] [])
def A34x0x16 (L : List Lf) : List (Bool × (Ex × St)) := bnd (J34x0x16 N L (fun p => p)) fun q => [(true, K34x0x16w0 L q)]
theorem raw34x0x16 (L : List Lf) : pc Tryz.prog (T29x0 N) (h34x0s0 N).h 0 100 34 16 sh34x0x16 L [1, 14] [1] = J34x0x16 N L (fun p => some (K34x0x16w0 L p)) := by kernel_rfl
def h34x0s1 : Sg Tryz.prog 0 34 :=
 (h34x0s0 N).cut (A34x0x16 N) progOk (T29x0_ok N) fun L x hx => (raw34x0x16 N L).trans ((tot34x0x16 N ..).trans (alt0 _ _ hx))
def S34x0x30 (w1 : LD) (w2 : Int) (w12 : LD) (w3 : Int) (kr : Int → Option R) (k0 : Int → Option R) (k1 : Unit → Option R) : Option R :=
 bif (decide (w3 < w2)) then
  bif (inB w3 w1.length) then
   bnd (G118x0 N (w1.getD w3.toNat (.i 0)).toS) fun y0 =>
   bif y0.isSome then
    bif (!(y0.getD default)) then
     k0 8
    else
     bif (bif (inB (IntKind.wrap .i64 (w3 - 1)) w12.length) then true else (!((decide (w3 > 0)) == true))) then
      bnd (bif (decide (w3 > 0)) then ((Op.bytesLess (w1.getD w3.toNat (.i 0)).toS (w12.getD (IntKind.wrap .i64 (w3 - 1)).toNat (.i 0)).toS) || ((w1.getD w3.toNat (.i 0)).toS == (w12.getD (IntKind.wrap .i64 (w3 - 1)).toNat (.i 0)).toS)) else false) fun y1 =>
      bif y1 then
       k0 10
      else
       kr (IntKind.wrap .i64 (w3 + 1))
     else
      none
   else
    none
  else
   none
 else
  k1 ()
def L34x0x30 (N : Nat) {R : Type} (w1 : LD) (w2 : Int) (w12 : LD) : Nat → Int → (Int → Option R) → (Unit → Option R) → Option R
 | 0, _, _, _ => none
 | m + 1, w3, k0, k1 => S34x0x30 N w1 w2 w12 w3 (fun w3 => L34x0x30 N w1 w2 w12 m w3 k0 k1) k0 k1
def G34x0x30 (w1 : LD) (w2 : Int) (w12 : LD) (w3 : Int) : Option (Sum (Int) (Unit)) := L34x0x30 N (R := (Sum (Int) (Unit))) w1 w2 w12 N w3 (fun p => some (.inl p)) (fun p => some (.inr p))
def J34x0x30 (L x : List Lf) (kr : List Lf → Option R) (k0 : Int → Option R) (k1 : Unit → Option R) : Option R := S34x0x30 N (ll L 1) (li L 2) (ll L 12) (li x 0) (fun w3 => kr [.i w3]) k0 k1
theorem sb34x0x30 (L x : List Lf) (kr : List Lf → Option R) (k0 : Int → Option R) (k1 : Unit → Option R) : J34x0x30 N L x kr k0 k1 = (J34x0x30 N L x (fun y => some (.inl y)) (fun p => some (.inr (.inl p))) (fun p => some (.inr (.inr p)))).bind (sumE kr (sumE k0 k1)) := by
 unfold J34x0x30 S34x0x30
 repeat' (first | with_reducible apply cond_b | (with_reducible apply bnd_b; intro _) | rfl)
def Q34x0x30 (L : List Lf) (m : Nat) (x : List Lf) : Option (Sum (Int) (Unit)) := L34x0x30 N (R := (Sum (Int) (Unit))) (ll L 1) (li L 2) (ll L 12) m (li x 0) (fun p => some (.inl p)) (fun p => some (.inr p))
def sh34x0x30 : Sh := { tmps := [(1, .c (.p 1 0)), (44, .c (.sl 9)), (45, .c (.i .i64)), (46, .c (.i .i64))], mem := [(1, .box (.s :: rI 6 ([.sl 9])))] }
def A34x0x30 (L : List Lf) : List (Bool × (Ex × St)) := bnd (Q34x0x30 N L N (pk sh34x0x30 [3] L)) fun q => [((inlB q), (.ret, ⟨[(2, .c (.i .i64 (inlV q)))], []⟩)), ((inrQ q).isSome, ((.exit 1), ⟨[], []⟩))]
theorem step34x0x30 (m : Nat) (kn : St → Option (Ex × St)) (L x : List Lf) : lpB Tryz.prog (T29x0 N) (h34x0s1 N).h 0 34 30 sh34x0x30 [3] [2] [] (m + 100) kn L x = J34x0x30 N L x (fun y => kn (ofSh sh34x0x30 (mx sh34x0x30 [3] L y))) (fun p => some (.ret, ⟨[(2, .c (.i .i64 p))], []⟩)) (fun _ => some ((.exit 1), ⟨[], []⟩)) := by kernel_rfl
theorem ql34x0x30 (L : List Lf) (m : Nat) (x : List Lf) : Q34x0x30 N L (m + 1) x = J34x0x30 N L x (Q34x0x30 N L m) (fun p => some (.inl p)) (fun p => some (.inr p)) := by kernel_rfl
def h34x0s2 : Sg Tryz.prog 0 34 :=
 (h34x0s1 N).lp (A34x0x30 N) N progOk (T29x0_ok N) (fun m kn L x => (step34x0x30 N m kn L x).trans (sb34x0x30 N L x _ _ _)) (fun L m x => (ql34x0x30 N L m x).trans (sb34x0x30 N L x (Q34x0x30 N L m) (fun p => some (.inl p)) (fun p => some (.inr p)))) fun L x hx => (altS alt1) x hx
def F34x0 (v0 : LB) (v1 v2 v3 v4 v5 v6 : Int) (v8 : LD) (k0 : Int → Option R) : Option R :=
 bnd (G118x0 N v0) fun y0 =>
 bif y0.isSome then
  bif (!(y0.getD default)) then
   k0 8
  else
   bnd (V114x0 N v1 1 5) fun y1 =>
   bif y1 then
    k0 7
   else
    bnd (V34x0x16 N v2 v3 v4 v5 v6) fun y2 =>
    bif y2 then
     k0 9
    else
     bif (decide ((v8.length : Int) > 20)) then
      k0 3
     else
      bnd (G34x0x30 N v8 (v8.length : Int) v8 0) fun y3 =>
      bif (inlB y3) then
       k0 (inlV y3)
      else
       bif (inrQ y3).isSome then
        k0 0
       else
        none
 else
  none
def G34x0 (v0 : LB) (v1 v2 v3 v4 v5 v6 : Int) (v8 : LD) : Option (Int) := F34x0 N v0 v1 v2 v3 v4 v5 v6 v8 (fun p => some p)
theorem bind34x0 (v0 : LB) (v1 v2 v3 v4 v5 v6 : Int) (v8 : LD) (k0 : Int → Option R) : F34x0 N v0 v1 v2 v3 v4 v5 v6 v8 k0 = (G34x0 N v0 v1 v2 v3 v4 v5 v6 v8).bind k0 := by
 unfold G34x0 F34x0
 repeat' (first | with_reducible apply cond_b | (with_reducible apply bnd_b; intro _) | rfl)
def J34x0 (L : List Lf) (k0 : Int → Option R) : Option R := F34x0 N (ls L 0) (li L 1) (li L 2) (li L 3) (li L 4) (li L 5) (li L 6) (ll L 8) k0
def sh34x0 : Sh := { tmps := [(0, .g (.s :: rI 6 ([.sl 9])))], mem := [] }
def A34x0 (L : List Lf) : List (Bool × Res) := bnd (J34x0 N L (fun p => some p)) fun q => [(q.isSome, ([.c (.i .i64 (q.getD default))], []))]
theorem raw34x0 (L : List Lf) : bd Tryz.prog (T29x0 N) (h34x0s2 N).h 34 sh34x0 L = J34x0 N L (fun p => some ([.c (.i .i64 p)], [])) := by kernel_rfl
theorem ok34x0 : FnOk Tryz.prog 34 sh34x0 (A34x0 N) :=
 (h34x0s2 N).fn progOk (T29x0_ok N) fun L x hx => ((raw34x0 N L).trans ((bind34x0 N ..).trans (alt1 x hx)))
def T34x0 : Oracle := ext 34 (spSh sh34x0 (A34x0 N)) (T29x0 N)
theorem T34x0_ok : OracleOk Tryz.prog (T34x0 N) := FnOk.to (ok34x0 N) (T29x0_ok N)
abbrev Rc103x1 : Type := Int → Int → Int → Int → LB → Bool → LD → LB → Int → Int → Int → Int → Int → Int → Bool → LD → Option (Bool)
def sh103x1 : Sh := { tmps := [(0, .g (.i .i64 :: [.i .i64, .i .i64, .i .i64, .s, .sl 24])), (1, .g (.s :: rI 6 ([.sl 9])))], mem := [] }
def B103x1 (N : Nat) (rc : Rc103x1) (L : List Lf) : List (Bool × Res) := bnd (rc (li L 0) (li L 1) (li L 2) (li L 3) (ls L 4) (lb L 5) (ll L 6) (ls L 7) (li L 8) (li L 9) (li L 10) (li L 11) (li L 12) (li L 13) (lb L 14) (ll L 15)) fun q => [(q.isSome, ([.c (.b (q.getD default))], []))]
def O103x1 (rc : Rc103x1) : Oracle := ext 103 (spSh sh103x1 ((B103x1 N) rc)) (T34x0 N)
def rg197x0 : List (Nat × List Nat) := [(0, [0, 1]), (1, [2, 1]), (2, [1, 2, 5]), (3, [9, 2, 5]), (5, [9, 5, 2]), (7, [9, 2, 5]), (9, [9, 2, 5]), (11, [9, 2, 5]), (13, [9, 2, 5]), (14, [2]), (12, [2]), (10, [2]), (8, [2]), (6, [5]), (4, [2]), (15, [5])]
def hd197x0 : Hints := []
def h197x0s0 (rc : Rc103x1) (hR : OracleOk Tryz.prog ((O103x1 N) rc)) : Sg Tryz.prog 0 197 := .start hd197x0 rg197x0
def F197x0 (N : Nat) (rc : Rc103x1) (v2 v3 v4 v5 v6 v9 : Int) (k0 : Int → R) : R :=
 bif (v9 == 1) then
  k0 v2
 else
  bif (v9 == 2) then
   k0 (IntKind.wrap .i64 (v2.tdiv 86400))
  else
   bif (v9 == 3) then
    k0 v3
   else
    bif (v9 == 4) then
     k0 v4
    else
     bif (v9 == 5) then
      k0 v5
     else
      bif (v9 == 6) then
       k0 v6
      else
       k0 ((IntKind.wrap .i64 (v2.tdiv 86400)).tmod 7)
def V197x0 (rc : Rc103x1) (v2 v3 v4 v5 v6 v9 : Int) : Int := F197x0 N rc v2 v3 v4 v5 v6 v9 (fun p => p)
theorem tot197x0 (rc : Rc103x1) (v2 v3 v4 v5 v6 v9 : Int) (k0 : Int → R) : F197x0 N rc v2 v3 v4 v5 v6 v9 k0 = k0 (V197x0 N rc v2 v3 v4 v5 v6 v9) := by
 unfold V197x0 F197x0
 repeat' (first | rfl | apply cond_k | (apply bnd_k; intro _))
def J197x0 (rc : Rc103x1) (L : List Lf) (k0 : Int → R) : R := F197x0 N rc (li L 2) (li L 3) (li L 4) (li L 5) (li L 6) (li L 9) k0
def sh197x0 : Sh := { tmps := [(0, .g (.s :: rI 6 ([.sl 9]))), (1, .c (.i .i64))], mem := [] }
def A197x0 (rc : Rc103x1) (L : List Lf) : List (Bool × Res) := bnd (J197x0 N rc L (fun p => p)) fun q => [(true, ([.c (.i .i64 q)], []))]
theorem raw197x0 (rc : Rc103x1) (hR : OracleOk Tryz.prog ((O103x1 N) rc)) (L : List Lf) : bd Tryz.prog ((O103x1 N) rc) ((h197x0s0 N) rc hR).h 197 sh197x0 L = J197x0 N rc L (fun p => some ([.c (.i .i64 p)], [])) := by kernel_rfl
theorem ok197x0 (rc : Rc103x1) (hR : OracleOk Tryz.prog ((O103x1 N) rc)) : FnOk Tryz.prog 197 sh197x0 ((A197x0 N) rc) :=
 ((h197x0s0 N) rc hR).fn progOk hR fun L x hx => ((raw197x0 N rc hR L).trans ((tot197x0 N rc ..).trans (alt0 _ _ hx)))
def T197x0 (rc : Rc103x1) : Oracle := ext 197 (spSh sh197x0 ((A197x0 N) rc)) ((O103x1 N) rc)
theorem T197x0_ok (rc : Rc103x1) (hR : OracleOk Tryz.prog ((O103x1 N) rc)) : OracleOk Tryz.prog ((T197x0 N) rc) := FnOk.to ((ok197x0 N) rc hR) hR
def rg103x1 : List (Nat × List Nat) := [(0, [0, 1]), (1, [2, 3]), (2, [13, 2, 3]), (10, [13, 2, 3]), (18, [13, 2, 3]), (20, [13, 3, 2]), (22, [13, 3, 2]), (30, [13, 3, 2]), (31, [3, 2]), (23, [3, 2]), (24, [62, 61, 60, 2]), (25, [60, 62, 2, 61]), (26, [10, 2, 62, 61, 60]), (27, []), (28, [62, 61, 60, 2]), (29, []), (21, [3, 2]), (19, [2, 3]), (11, [2, 3]), (12, [33, 32, 31, 3]), (13, [31, 33, 3, 32]), (14, [8, 3, 33, 32, 31]), (15, []), (16, [33, 32, 31, 3]), (17, []), (3, [2, 3]), (4, [19, 18, 17, 3]), (5, [17, 19, 3, 18]), (6, [6, 3, 19, 18, 17]), (7, []), (8, [19, 18, 17, 3]), (9, []), (32, [3, 2]), (33, [2, 11])]
def hd103x1 : Hints := [(12, [19, 18, 17, 3], [3], []), (36, [33, 32, 31, 3], [3], []), (72, [62, 61, 60, 2], [2], [])]
def h103x1s0 (rc : Rc103x1) (hR : OracleOk Tryz.prog ((O103x1 N) rc)) : Sg Tryz.prog 0 103 := .start hd103x1 rg103x1
def S103x1x12 (N : Nat) (rc : Rc103x1) (w1 : LD) (w2 : Int) (w4 : LB) (w5 w6 w7 w8 w9 w10 : Int) (w11 : Bool) (w12 : LD) (w3 : Int) (kr : Int → Option R) (k0 : Unit → Option R) (k1 : Unit → Option R) : Option R :=
 bif (decide (w3 < w2)) then
  bif (inB w3 w1.length) then
   bnd (rc ((w1.getD w3.toNat (.i 0)).cell 0).toI ((w1.getD w3.toNat (.i 0)).cell 1).toI ((w1.getD w3.toNat (.i 0)).cell 2).toI ((w1.getD w3.toNat (.i 0)).cell 3).toI ((w1.getD w3.toNat (.i 0)).cell 4).toS ((w1.getD w3.toNat (.i 0)).cell 5).isNil ((w1.getD w3.toNat (.i 0)).cell 5).items w4 w5 w6 w7 w8 w9 w10 w11 w12) fun y0 =>
   bif y0.isSome then
    bif (!(y0.getD default)) then
     k0 ()
    else
     kr (IntKind.wrap .i64 (w3 + 1))
   else
    none
  else
   none
 else
  k1 ()
def L103x1x12 (N : Nat) (rc : Rc103x1) {R : Type} (w1 : LD) (w2 : Int) (w4 : LB) (w5 w6 w7 w8 w9 w10 : Int) (w11 : Bool) (w12 : LD) : Nat → Int → (Unit → Option R) → (Unit → Option R) → Option R
 | 0, _, _, _ => none
 | m + 1, w3, k0, k1 => S103x1x12 N rc w1 w2 w4 w5 w6 w7 w8 w9 w10 w11 w12 w3 (fun w3 => L103x1x12 N rc w1 w2 w4 w5 w6 w7 w8 w9 w10 w11 w12 m w3 k0 k1) k0 k1
def G103x1x12 (rc : Rc103x1) (w1 : LD) (w2 : Int) (w4 : LB) (w5 w6 w7 w8 w9 w10 : Int) (w11 : Bool) (w12 : LD) (w3 : Int) : Option (Sum (Unit) (Unit)) := L103x1x12 N rc (R := (Sum (Unit) (Unit))) w1 w2 w4 w5 w6 w7 w8 w9 w10 w11 w12 N w3 (fun p => some (.inl p)) (fun p => some (.inr p))
def J103x1x12 (rc : Rc103x1) (L x : List Lf) (kr : List Lf → Option R) (k0 : Unit → Option R) (k1 : Unit → Option R) : Option R := S103x1x12 N rc (ll L 1) (li L 2) (ls L 4) (li L 5) (li L 6) (li L 7) (li L 8) (li L 9) (li L 10) (lb L 11) (ll L 12) (li x 0) (fun w3 => kr [.i w3]) k0 k1
theorem sb103x1x12 (rc : Rc103x1) (L x : List Lf) (kr : List Lf → Option R) (k0 : Unit → Option R) (k1 : Unit → Option R) : J103x1x12 N rc L x kr k0 k1 = (J103x1x12 N rc L x (fun y => some (.inl y)) (fun p => some (.inr (.inl p))) (fun p => some (.inr (.inr p)))).bind (sumE kr (sumE k0 k1)) := by
 unfold J103x1x12 S103x1x12
 repeat' (first | with_reducible apply cond_b | (with_reducible apply bnd_b; intro _) | rfl)
def Q103x1x12 (rc : Rc103x1) (L : List Lf) (m : Nat) (x : List Lf) : Option (Sum (Unit) (Unit)) := L103x1x12 N rc (R := (Sum (Unit) (Unit))) (ll L 1) (li L 2) (ls L 4) (li L 5) (li L 6) (li L 7) (li L 8) (li L 9) (li L 10) (lb L 11) (ll L 12) m (li x 0) (fun p => some (.inl p)) (fun p => some (.inr p))
def sh103x1x12 : Sh := { tmps := [(3, .c (.p 3 0)), (17, .c (.sl 24)), (18, .c (.i .i64)), (19, .c (.i .i64))], mem := [(3, .box (.s :: rI 6 ([.sl 9])))] }
def K103x1x12w0 (L : List Lf) (_ : Unit) : Ex × St := (.ret, mg (ofSh sh103x1x12 L) [4] [(4, .c (.b false))] [3] [])
def A103x1x12 (rc : Rc103x1) (L : List Lf) : List (Bool × (Ex × St)) := bnd (Q103x1x12 N rc L N (pk sh103x1x12 [3] L)) fun q => [((inlB q), K103x1x12w0 L ()), ((inrQ q).isSome, ((.exit 1), mg (ofSh sh103x1x12 L) [3] [] [3] []))]
theorem step103x1x12 (rc : Rc103x1) (hR : OracleOk Tryz.prog ((O103x1 N) rc)) (m : Nat) (kn : St → Option (Ex × St)) (L x : List Lf) : lpB Tryz.prog ((T197x0 N) rc) ((h103x1s0 N) rc hR).h 0 103 12 sh103x1x12 [3] [4, 3, 2] [3] (m + 100) kn L x = J103x1x12 N rc L x (fun y => kn (ofSh sh103x1x12 (mx sh103x1x12 [3] L y))) (fun _ => some (K103x1x12w0 L ())) (fun _ => some ((.exit 1), mg (ofSh sh103x1x12 L) [3] [] [3] [])) := by kernel_rfl
theorem ql103x1x12 (rc : Rc103x1) (L : List Lf) (m : Nat) (x : List Lf) : Q103x1x12 N rc L (m + 1) x = J103x1x12 N rc L x (Q103x1x12 N rc L m) (fun p => some (.inl p)) (fun p => some (.inr p)) := by kernel_rfl
def h103x1s1 (rc : Rc103x1) (hR : OracleOk Tryz.prog ((O103x1 N) rc)) : Sg Tryz.prog 0 103 :=
 ((h103x1s0 N) rc hR).lp ((A103x1x12 N) rc) N progOk ((T197x0_ok N) rc hR) (fun m kn L x => (step103x1x12 N rc hR m kn L x).trans (sb103x1x12 N rc L x _ _ _)) (fun L m x => (ql103x1x12 N rc L m x).trans (sb103x1x12 N rc L x (Q103x1x12 N rc L m) (fun p => some (.inl p)) (fun p => some (.inr p)))) fun L x hx => (altS alt1) x hx
def S103x1x36 (N : Nat) (rc : Rc103x1) (w1 : LD) (w2 : Int) (w4 : LB) (w5 w6 w7 w8 w9 w10 : Int) (w11 : Bool) (w12 : LD) (w3 : Int) (kr : Int → Option R) (k0 : Unit → Option R) (k1 : Unit → Option R) : Option R :=
 bif (decide (w3 < w2)) then
  bif (inB w3 w1.length) then
   bnd (rc ((w1.getD w3.toNat (.i 0)).cell 0).toI ((w1.getD w3.toNat (.i 0)).cell 1).toI ((w1.getD w3.toNat (.i 0)).cell 2).toI ((w1.getD w3.toNat (.i 0)).cell 3).toI ((w1.getD w3.toNat (.i 0)).cell 4).toS ((w1.getD w3.toNat (.i 0)).cell 5).isNil ((w1.getD w3.toNat (.i 0)).cell 5).items w4 w5 w6 w7 w8 w9 w10 w11 w12) fun y0 =>
   bif y0.isSome then
    bif (y0.getD default) then
     k0 ()
    else
     kr (IntKind.wrap .i64 (w3 + 1))
   else
    none
  else
   none
 else
  k1 ()
def L103x1x36 (N : Nat) (rc : Rc103x1) {R : Type} (w1 : LD) (w2 : Int) (w4 : LB) (w5 w6 w7 w8 w9 w10 : Int) (w11 : Bool) (w12 : LD) : Nat → Int → (Unit → Option R) → (Unit → Option R) → Option R
 | 0, _, _, _ => none
 | m + 1, w3, k0, k1 => S103x1x36 N rc w1 w2 w4 w5 w6 w7 w8 w9 w10 w11 w12 w3 (fun w3 => L103x1x36 N rc w1 w2 w4 w5 w6 w7 w8 w9 w10 w11 w12 m w3 k0 k1) k0 k1
def G103x1x36 (rc : Rc103x1) (w1 : LD) (w2 : Int) (w4 : LB) (w5 w6 w7 w8 w9 w10 : Int) (w11 : Bool) (w12 : LD) (w3 : Int) : Option (Sum (Unit) (Unit)) := L103x1x36 N rc (R := (Sum (Unit) (Unit))) w1 w2 w4 w5 w6 w7 w8 w9 w10 w11 w12 N w3 (fun p => some (.inl p)) (fun p => some (.inr p))
def J103x1x36 (rc : Rc103x1) (L x : List Lf) (kr : List Lf → Option R) (k0 : Unit → Option R) (k1 : Unit → Option R) : Option R := S103x1x36 N rc (ll L 1) (li L 2) (ls L 4) (li L 5) (li L 6) (li L 7) (li L 8) (li L 9) (li L 10) (lb L 11) (ll L 12) (li x 0) (fun w3 => kr [.i w3]) k0 k1
theorem sb103x1x36 (rc : Rc103x1) (L x : List Lf) (kr : List Lf → Option R) (k0 : Unit → Option R) (k1 : Unit → Option R) : J103x1x36 N rc L x kr k0 k1 = (J103x1x36 N rc L x (fun y => some (.inl y)) (fun p => some (.inr (.inl p))) (fun p => some (.inr (.inr p)))).bind (sumE kr (sumE k0 k1)) := by
 unfold J103x1x36 S103x1x36
 repeat' (first | with_reducible apply cond_b | (with_reducible apply bnd_b; intro _) | rfl)
def Q103x1x36 (rc : Rc103x1) (L : List Lf) (m : Nat) (x : List Lf) : Option (Sum (Unit) (Unit)) := L103x1x36 N rc (R := (Sum (Unit) (Unit))) (ll L 1) (li L 2) (ls L 4) (li L 5) (li L 6) (li L 7) (li L 8) (li L 9) (li L 10) (lb L 11) (ll L 12) m (li x 0) (fun p => some (.inl p)) (fun p => some (.inr p))
def sh103x1x36 : Sh := { tmps := [(3, .c (.p 3 0)), (31, .c (.sl 24)), (32, .c (.i .i64)), (33, .c (.i .i64))], mem := [(3, .box (.s :: rI 6 ([.sl 9])))] }
def K103x1x36w0 (L : List Lf) (_ : Unit) : Ex × St := (.ret, mg (ofSh sh103x1x36 L) [4] [(4, .c (.b true))] [3] [])
def A103x1x36 (rc : Rc103x1) (L : List Lf) : List (Bool × (Ex × St)) := bnd (Q103x1x36 N rc L N (pk sh103x1x36 [3] L)) fun q => [((inlB q), K103x1x36w0 L ()), ((inrQ q).isSome, ((.exit 3), mg (ofSh sh103x1x36 L) [3] [] [3] []))]
theorem step103x1x36 (rc : Rc103x1) (hR : OracleOk Tryz.prog ((O103x1 N) rc)) (m : Nat) (kn : St → Option (Ex × St)) (L x : List Lf) : lpB Tryz.prog ((T197x0 N) rc) ((h103x1s1 N) rc hR).h 0 103 36 sh103x1x36 [3] [4, 3, 2] [3] (m + 100) kn L x = J103x1x36 N rc L x (fun y => kn (ofSh sh103x1x36 (mx sh103x1x36 [3] L y))) (fun _ => some (K103x1x36w0 L ())) (fun _ => some ((.exit 3), mg (ofSh sh103x1x36 L) [3] [] [3] [])) := by kernel_rfl
theorem ql103x1x36 (rc : Rc103x1) (L : List Lf) (m : Nat) (x : List Lf) : Q103x1x36 N rc L (m + 1) x = J103x1x36 N rc L x (Q103x1x36 N rc L m) (fun p => some (.inl p)) (fun p => some (.inr p)) := by kernel_rfl
def h103x1s2 (rc : Rc103x1) (hR : OracleOk Tryz.prog ((O103x1 N) rc)) : Sg Tryz.prog 0 103 :=
 ((h103x1s1 N) rc hR).lp ((A103x1x36 N) rc) N progOk ((T197x0_ok N) rc hR) (fun m kn L x => (step103x1x36 N rc hR m kn L x).trans (sb103x1x36 N rc L x _ _ _)) (fun L m x => (ql103x1x36 N rc L m x).trans (sb103x1x36 N rc L x (Q103x1x36 N rc L m) (fun p => some (.inl p)) (fun p => some (.inr p)))) fun L x hx => (altS alt1) x hx
def S103x1x72 (N : Nat) (rc : Rc103x1) (w1 : LD) (w2 : Int) (w8 : LB) (w3 : Int) (kr : Int → Option R) (k0 : Unit → Option R) (k1 : Unit → Option R) : Option R :=
 bif (decide (w3 < w2)) then
  bif (inB w3 w1.length) then
   bif ((w1.getD w3.toNat (.i 0)).toS == w8) then
    k0 ()
   else
    kr (IntKind.wrap .i64 (w3 + 1))
  else
   none
 else
  k1 ()
def L103x1x72 (N : Nat) (rc : Rc103x1) {R : Type} (w1 : LD) (w2 : Int) (w8 : LB) : Nat → Int → (Unit → Option R) → (Unit → Option R) → Option R
 | 0, _, _, _ => none
 | m + 1, w3, k0, k1 => S103x1x72 N rc w1 w2 w8 w3 (fun w3 => L103x1x72 N rc w1 w2 w8 m w3 k0 k1) k0 k1
def G103x1x72 (rc : Rc103x1) (w1 : LD) (w2 : Int) (w8 : LB) (w3 : Int) : Option (Sum (Unit) (Unit)) := L103x1x72 N rc (R := (Sum (Unit) (Unit))) w1 w2 w8 N w3 (fun p => some (.inl p)) (fun p => some (.inr p))
def J103x1x72 (rc : Rc103x1) (L x : List Lf) (kr : List Lf → Option R) (k0 : Unit → Option R) (k1 : Unit → Option R) : Option R := S103x1x72 N rc (ll L 1) (li L 2) (ls L 8) (li x 0) (fun w3 => kr [.i w3]) k0 k1
theorem sb103x1x72 (rc : Rc103x1) (L x : List Lf) (kr : List Lf → Option R) (k0 : Unit → Option R) (k1 : Unit → Option R) : J103x1x72 N rc L x kr k0 k1 = (J103x1x72 N rc L x (fun y => some (.inl y)) (fun p => some (.inr (.inl p))) (fun p => some (.inr (.inr p)))).bind (sumE kr (sumE k0 k1)) := by
 unfold J103x1x72 S103x1x72
 repeat' (first | with_reducible apply cond_b | (with_reducible apply bnd_b; intro _) | rfl)
def Q103x1x72 (rc : Rc103x1) (L : List Lf) (m : Nat) (x : List Lf) : Option (Sum (Unit) (Unit)) := L103x1x72 N rc (R := (Sum (Unit) (Unit))) (ll L 1) (li L 2) (ls L 8) m (li x 0) (fun p => some (.inl p)) (fun p => some (.inr p))
def sh103x1x72 : Sh := { tmps := [(2, .c (.p 2 0)), (60, .c (.sl 9)), (61, .c (.i .i64)), (62, .c (.i .i64))], mem := [(2, .box (.i .i64 :: [.i .i64, .i .i64, .i .i64, .s, .sl 24]))] }
def K103x1x72w0 (L : List Lf) (_ : Unit) : Ex × St := (.ret, mg (ofSh sh103x1x72 L) [4] [(4, .c (.b true))] [2] [])
def A103x1x72 (rc : Rc103x1) (L : List Lf) : List (Bool × (Ex × St)) := bnd (Q103x1x72 N rc L N (pk sh103x1x72 [3] L)) fun q => [((inlB q), K103x1x72w0 L ()), ((inrQ q).isSome, ((.exit 5), mg (ofSh sh103x1x72 L) [2] [] [2] []))]
theorem step103x1x72 (rc : Rc103x1) (hR : OracleOk Tryz.prog ((O103x1 N) rc)) (m : Nat) (kn : St → Option (Ex × St)) (L x : List Lf) : lpB Tryz.prog ((T197x0 N) rc) ((h103x1s2 N) rc hR).h 0 103 72 sh103x1x72 [3] [4, 3, 2] [2] (m + 100) kn L x = J103x1x72 N rc L x (fun y => kn (ofSh sh103x1x72 (mx sh103x1x72 [3] L y))) (fun _ => some (K103x1x72w0 L ())) (fun _ => some ((.exit 5), mg (ofSh sh103x1x72 L) [2] [] [2] [])) := by kernel_rfl
theorem ql103x1x72 (rc : Rc103x1) (L : List Lf) (m : Nat) (x : List Lf) : Q103x1x72 N rc L (m + 1) x = J103x1x72 N rc L x (Q103x1x72 N rc L m) (fun p => some (.inl p)) (fun p => some (.inr p)) := by kernel_rfl
def h103x1s3 (rc : Rc103x1) (hR : OracleOk Tryz.prog ((O103x1 N) rc)) : Sg Tryz.prog 0 103 :=
 ((h103x1s2 N) rc hR).lp ((A103x1x72 N) rc) N progOk ((T197x0_ok N) rc hR) (fun m kn L x => (step103x1x72 N rc hR m kn L x).trans (sb103x1x72 N rc L x _ _ _)) (fun L m x => (ql103x1x72 N rc L m x).trans (sb103x1x72 N rc L x (Q103x1x72 N rc L m) (fun p => some (.inl p)) (fun p => some (.inr p)))) fun L x hx => (altS alt1) x hx
def F103x1 (rc : Rc103x1) (v0 v1 v2 v3 : Int) (v4 : LB) (v5 : Bool) (v6 : LD) (v7 : LB) (v8 v9 v10 v11 v12 v13 : Int) (v14 : Bool) (v15 : LD) (k0 : Bool → Option R) : Option R :=
 bif (v0 == 1) then
  bnd (G103x1x12 N rc v6 (v6.length : Int) v7 v8 v9 v10 v11 v12 v13 v14 v15 0) fun y0 =>
  bif (inlB y0) then
   k0 false
  else
   bif (inrQ y0).isSome then
    k0 true
   else
    none
 else
  bif (v0 == 2) then
   bnd (G103x1x36 N rc v6 (v6.length : Int) v7 v8 v9 v10 v11 v12 v13 v14 v15 0) fun y1 =>
   bif (inlB y1) then
    k0 true
   else
    bif (inrQ y1).isSome then
     k0 false
    else
     none
  else
   bif (v0 == 3) then
    bif (inB 0 v6.length) then
     bnd (rc ((v6.getD 0 (.i 0)).cell 0).toI ((v6.getD 0 (.i 0)).cell 1).toI ((v6.getD 0 (.i 0)).cell 2).toI ((v6.getD 0 (.i 0)).cell 3).toI ((v6.getD 0 (.i 0)).cell 4).toS ((v6.getD 0 (.i 0)).cell 5).isNil ((v6.getD 0 (.i 0)).cell 5).items v7 v8 v9 v10 v11 v12 v13 v14 v15) fun y2 =>
     bif y2.isSome then
      k0 (!(y2.getD default))
     else
      none
    else
     none
   else
    bif (v0 == 4) then
     k0 (v8 == v2)
    else
     bif (v0 == 5) then
      bnd (G103x1x72 N rc v15 (v15.length : Int) v4 0) fun y3 =>
      bif (inlB y3) then
       k0 true
      else
       bif (inrQ y3).isSome then
        k0 false
       else
        none
     else
      bif (v0 == 6) then
       bif (Nat.blt v7.length 4294967281) then
        k0 (Lib.contains v7 v4)
       else
        none
      else
       bnd (V197x0 N rc v9 v10 v11 v12 v13 v1) fun y4 =>
       bnd (bif (decide (v2 ≤ y4)) then (decide (y4 ≤ v3)) else false) fun y5 =>
       k0 y5
def G103x1 (rc : Rc103x1) (v0 v1 v2 v3 : Int) (v4 : LB) (v5 : Bool) (v6 : LD) (v7 : LB) (v8 v9 v10 v11 v12 v13 : Int) (v14 : Bool) (v15 : LD) : Option (Bool) := F103x1 N rc v0 v1 v2 v3 v4 v5 v6 v7 v8 v9 v10 v11 v12 v13 v14 v15 (fun p => some p)
theorem bind103x1 (rc : Rc103x1) (v0 v1 v2 v3 : Int) (v4 : LB) (v5 : Bool) (v6 : LD) (v7 : LB) (v8 v9 v10 v11 v12 v13 : Int) (v14 : Bool) (v15 : LD) (k0 : Bool → Option R) : F103x1 N rc v0 v1 v2 v3 v4 v5 v6 v7 v8 v9 v10 v11 v12 v13 v14 v15 k0 = (G103x1 N rc v0 v1 v2 v3 v4 v5 v6 v7 v8 v9 v10 v11 v12 v13 v14 v15).bind k0 := by
 unfold G103x1 F103x1
 repeat' (first | with_reducible apply cond_b | (with_reducible apply bnd_b; intro _) | rfl)
def J103x1 (rc : Rc103x1) (L : List Lf) (k0 : Bool → Option R) : Option R := F103x1 N rc (li L 0) (li L 1) (li L 2) (li L 3) (ls L 4) (lb L 5) (ll L 6) (ls L 7) (li L 8) (li L 9) (li L 10) (li L 11) (li L 12) (li L 13) (lb L 14) (ll L 15) k0
theorem raw103x1 (rc : Rc103x1) (hR : OracleOk Tryz.prog ((O103x1 N) rc)) (L : List Lf) : bd Tryz.prog ((T197x0 N) rc) ((h103x1s3 N) rc hR).h 103 sh103x1 L = J103x1 N rc L (fun p => some ([.c (.b p)], [])) := by kernel_rfl
theorem fin103x1 (rc : Rc103x1) (hR : OracleOk Tryz.prog ((O103x1 N) rc)) (L : List Lf) (x : Res) (hx : altK ((B103x1 N) (fun v0 v1 v2 v3 v4 v5 v6 v7 v8 v9 v10 v11 v12 v13 v14 v15 => G103x1 N rc v0 v1 v2 v3 v4 v5 v6 v7 v8 v9 v10 v11 v12 v13 v14 v15) L) some = some x) : CallOk Tryz.prog 103 (valsOf (ofSh sh103x1 L).tmps) (ofSh sh103x1 L).mem x :=
 callOk_of (n := 200) progOk ((T197x0_ok N) rc hR) ((h103x1s3 N) rc hR).ok rfl ((raw103x1 N rc hR L).trans ((bind103x1 N rc ..).trans (alt1 x hx)))
def R103x1 (N : Nat) : Nat → Rc103x1
 | 0 => fun _ _ _ _ _ _ _ _ _ _ _ _ _ _ _ _ => none
 | m + 1 => fun v0 v1 v2 v3 v4 v5 v6 v7 v8 v9 v10 v11 v12 v13 v14 v15 => G103x1 N (R103x1 N m) v0 v1 v2 v3 v4 v5 v6 v7 v8 v9 v10 v11 v12 v13 v14 v15
theorem Rok103x1 (N : Nat) : ∀ m, OracleOk Tryz.prog ((O103x1 N) (R103x1 N m))
 | 0 => ext_ok (T34x0_ok N) (AM.enters_of (by kernel_rfl)) (spSh_law fun L x hx => by
  have h : (none : Option Res) = some x := hx
  cases h)
 | m + 1 => ext_ok (T34x0_ok N) (AM.enters_of (by kernel_rfl)) (spSh_law fun L x hx => fin103x1 N (R103x1 N m) (Rok103x1 N m) L x hx)
def T103x1 : Oracle := (O103x1 N) (R103x1 N N)
theorem T103x1_ok : OracleOk Tryz.prog (T103x1 N) := Rok103x1 N N
def rg27x0 : List (Nat × List Nat) := [(0, [0, 1]), (1, [2, 3]), (2, [6, 3, 2]), (3, [6]), (4, [3, 2]), (5, [7, 2, 3]), (6, [7]), (7, [2, 3])]
def hd27x0 : Hints := []
def h27x0s0 (N : Nat) : Sg Tryz.prog 0 27 := .start hd27x0 rg27x0
def F27x0 (v0 v1 v2 v3 : Int) (v4 : LB) (v5 : Bool) (v6 : LD) (v7 : LB) (v8 v9 v10 v11 v12 v13 : Int) (v14 : Bool) (v15 : LD) (k0 : Bool × Int → Option R) : Option R :=
 bnd (G29x0 N v0 v1 v2 v3 v4 v5 v6) fun y0 =>
 bif y0.isSome then
  bif ((y0.getD default) != 0) then
   k0 (false, (y0.getD default))
  else
   bnd (G34x0 N v7 v8 v9 v10 v11 v12 v13 v15) fun y1 =>
   bif y1.isSome then
    bif ((y1.getD default) != 0) then
     k0 (false, (y1.getD default))
    else
     bnd (R103x1 N N v0 v1 v2 v3 v4 v5 v6 v7 v8 v9 v10 v11 v12 v13 v14 v15) fun y2 =>
     bif y2.isSome then
      k0 ((y2.getD default), 0)
     else
      none
   else
    none
 else
  none
def G27x0 (v0 v1 v2 v3 : Int) (v4 : LB) (v5 : Bool) (v6 : LD) (v7 : LB) (v8 v9 v10 v11 v12 v13 : Int) (v14 : Bool) (v15 : LD) : Option (Bool × Int) := F27x0 N v0 v1 v2 v3 v4 v5 v6 v7 v8 v9 v10 v11 v12 v13 v14 v15 (fun p => some p)
theorem bind27x0 (v0 v1 v2 v3 : Int) (v4 : LB) (v5 : Bool) (v6 : LD) (v7 : LB) (v8 v9 v10 v11 v12 v13 : Int) (v14 : Bool) (v15 : LD) (k0 : Bool × Int → Option R) : F27x0 N v0 v1 v2 v3 v4 v5 v6 v7 v8 v9 v10 v11 v12 v13 v14 v15 k0 = (G27x0 N v0 v1 v2 v3 v4 v5 v6 v7 v8 v9 v10 v11 v12 v13 v14 v15).bind k0 := by
 unfold G27x0 F27x0
 repeat' (first | with_reducible apply cond_b | (with_reducible apply bnd_b; intro _) | rfl)
def J27x0 (L : List Lf) (k0 : Bool × Int → Option R) : Option R := F27x0 N (li L 0) (li L 1) (li L 2) (li L 3) (ls L 4) (lb L 5) (ll L 6) (ls L 7) (li L 8) (li L 9) (li L 10) (li L 11) (li L 12) (li L 13) (lb L 14) (ll L 15) k0
def sh27x0 : Sh := { tmps := [(0, .g (.i .i64 :: [.i .i64, .i .i64, .i .i64, .s, .sl 24])), (1, .g (.s :: rI 6 ([.sl 9])))], mem := [] }
def A27x0 (L : List Lf) : List (Bool × Res) := bnd (J27x0 N L (fun p => some p)) fun q => [(q.isSome, ([.c (.b (q.getD default).1), .c (.i .i64 (q.getD default).2)], []))]
theorem raw27x0 (L : List Lf) : bd Tryz.prog (T103x1 N) (h27x0s0 N).h 27 sh27x0 L = J27x0 N L (fun p => some ([.c (.b p.1), .c (.i .i64 p.2)], [])) := by kernel_rfl
theorem ok27x0 : FnOk Tryz.prog 27 sh27x0 (A27x0 N) :=
 (h27x0s0 N).fn progOk (T103x1_ok N) fun L x hx => ((raw27x0 N L).trans ((bind27x0 N ..).trans (alt1 x hx)))
def T27x0 : Oracle := ext 27 (spSh sh27x0 (A27x0 N)) (T103x1 N)
theorem T27x0_ok : OracleOk Tryz.prog (T27x0 N) := FnOk.to (ok27x0 N) (T103x1_ok N)
def sh17x0 : Sh := toldSh
def A17x0 (N : Nat) (L : List Lf) : List (Bool × Res) := toldA L
theorem ok17x0 : FnOk Tryz.prog 17 sh17x0 (A17x0 N) := told_fn
def T17x0 : Oracle := ext 17 (spSh sh17x0 (A17x0 N)) (T27x0 N)
theorem T17x0_ok : OracleOk Tryz.prog (T17x0 N) := FnOk.to (ok17x0 N) (T27x0_ok N)
def rg7x0 : List (Nat × List Nat) := [(0, [0, 1]), (1, [2, 3]), (2, [2, 3, 5, 6]), (3, [2, 5, 7, 6, 8])]
def hd7x0 : Hints := [(10, [2, 5, 7, 6, 8], [2], [])]
def h7x0s0 (N : Nat) : Sg Tryz.prog 0 7 := .start hd7x0 rg7x0
def F7x0x10 (w0 : Bool) (w1 : Int) (w2 : Bool) (w3 w4 w5 w6 w7 : Int) (w8 : LB) (w9 : Bool) (w10 : LD) (k0 : Bool → Option R) : Option R :=
 bnd (G28x0 N w4 w5 w6 w7 w8 w9 w10) fun y0 =>
 bif y0.isSome then
  bnd (G29x0 N w4 w5 w6 w7 w8 w9 w10) fun y1 =>
  bif y1.isSome then
   bif ((y0.getD default) == (y1.getD default)) then
    bif (w0 == w2) then
     bif (w1 == w3) then
      k0 true
     else
      k0 false
    else
     k0 false
   else
    k0 false
  else
   none
 else
  none
def G7x0x10 (w0 : Bool) (w1 : Int) (w2 : Bool) (w3 w4 w5 w6 w7 : Int) (w8 : LB) (w9 : Bool) (w10 : LD) : Option (Bool) := F7x0x10 N w0 w1 w2 w3 w4 w5 w6 w7 w8 w9 w10 (fun p => some p)
theorem bind7x0x10 (w0 : Bool) (w1 : Int) (w2 : Bool) (w3 w4 w5 w6 w7 : Int) (w8 : LB) (w9 : Bool) (w10 : LD) (k0 : Bool → Option R) : F7x0x10 N w0 w1 w2 w3 w4 w5 w6 w7 w8 w9 w10 k0 = (G7x0x10 N w0 w1 w2 w3 w4 w5 w6 w7 w8 w9 w10).bind k0 := by
 unfold G7x0x10 F7x0x10
 repeat' (first | with_reducible apply cond_b | (with_reducible apply bnd_b; intro _) | rfl)
def J7x0x10 (L : List Lf) (k0 : Bool → Option R) : Option R := F7x0x10 N (lb L 0) (li L 1) (lb L 2) (li L 3) (li L 4) (li L 5) (li L 6) (li L 7) (ls L 8) (lb L 9) (ll L 10) k0
def sh7x0x10 : Sh := { tmps := [(2, .c (.p 2 0)), (5, .c (.b)), (6, .c (.i .i64)), (7, .c (.b)), (8, .c (.i .i64))], mem := [(2, .box (.i .i64 :: [.i .i64, .i .i64, .i .i64, .s, .sl 24]))] }
def A7x0x10 (L : List Lf) : List (Bool × (Ex × St)) := bnd (J7x0x10 N L (fun p => some p)) fun q => [(q.isSome, (.normal, ⟨[(4, .c (.b (q.getD default)))], []⟩))]
theorem raw7x0x10 (L : List Lf) : pc Tryz.prog (T17x0 N) (h7x0s0 N).h 0 100 7 10 sh7x0x10 L [4] [] = J7x0x10 N L (fun p => some (.normal, ⟨[(4, .c (.b p))], []⟩)) := by kernel_rfl
def h7x0s1 : Sg Tryz.prog 0 7 :=
 (h7x0s0 N).cut (A7x0x10 N) progOk (T17x0_ok N) fun L x hx => (raw7x0x10 N L).trans ((bind7x0x10 N ..).trans (alt1 x hx))
def F7x0 (v0 v1 v2 v3 : Int) (v4 : LB) (v5 : Bool) (v6 : LD) (v7 : LB) (v8 v9 v10 v11 v12 v13 : Int) (v14 : Bool) (v15 : LD) (k0 : Bool → Option R) : Option R :=
 bnd (G26x0 N v0 v1 v2 v3 v4 v5 v6 v7 v8 v9 v10 v11 v12 v13 v14 v15) fun y0 =>
 bif y0.isSome then
  bnd (G27x0 N v0 v1 v2 v3 v4 v5 v6 v7 v8 v9 v10 v11 v12 v13 v14 v15) fun y1 =>
  bif y1.isSome then
   bnd (G7x0x10 N (y0.getD default).1 (y0.getD default).2 (y1.getD default).1 (y1.getD default).2 v0 v1 v2 v3 v4 v5 v6) fun y2 =>
   bif y2.isSome then
    k0 (y2.getD default)
   else
    none
  else
   none
 else
  none
def G7x0 (v0 v1 v2 v3 : Int) (v4 : LB) (v5 : Bool) (v6 : LD) (v7 : LB) (v8 v9 v10 v11 v12 v13 : Int) (v14 : Bool) (v15 : LD) : Option (Bool) := F7x0 N v0 v1 v2 v3 v4 v5 v6 v7 v8 v9 v10 v11 v12 v13 v14 v15 (fun p => some p)
theorem bind7x0 (v0 v1 v2 v3 : Int) (v4 : LB) (v5 : Bool) (v6 : LD) (v7 : LB) (v8 v9 v10 v11 v12 v13 : Int) (v14 : Bool) (v15 : LD) (k0 : Bool → Option R) : F7x0 N v0 v1 v2 v3 v4 v5 v6 v7 v8 v9 v10 v11 v12 v13 v14 v15 k0 = (G7x0 N v0 v1 v2 v3 v4 v5 v6 v7 v8 v9 v10 v11 v12 v13 v14 v15).bind k0 := by
 unfold G7x0 F7x0
 repeat' (first | with_reducible apply cond_b | (with_reducible apply bnd_b; intro _) | rfl)
def J7x0 (L : List Lf) (k0 : Bool → Option R) : Option R := F7x0 N (li L 0) (li L 1) (li L 2) (li L 3) (ls L 4) (lb L 5) (ll L 6) (ls L 7) (li L 8) (li L 9) (li L 10) (li L 11) (li L 12) (li L 13) (lb L 14) (ll L 15) k0
def sh7x0 : Sh := { tmps := [(0, .g (.i .i64 :: [.i .i64, .i .i64, .i .i64, .s, .sl 24])), (1, .g (.s :: rI 6 ([.sl 9])))], mem := [] }
def A7x0 (L : List Lf) : List (Bool × Res) := bnd (J7x0 N L (fun p => some p)) fun q => [(q.isSome, ([.c (.b (q.getD default))], []))]
theorem raw7x0 (L : List Lf) : bd Tryz.prog (T17x0 N) (h7x0s1 N).h 7 sh7x0 L = J7x0 N L (fun p => some ([.c (.b p)], [])) := by kernel_rfl
theorem ok7x0 : FnOk Tryz.prog 7 sh7x0 (A7x0 N) :=
 (h7x0s1 N).fn progOk (T17x0_ok N) fun L x hx => ((raw7x0 N L).trans ((bind7x0 N ..).trans (alt1 x hx)))
def T7x0 : Oracle := ext 7 (spSh sh7x0 (A7x0 N)) (T17x0 N)
theorem T7x0_ok : OracleOk Tryz.prog (T7x0 N) := FnOk.to (ok7x0 N) (T17x0_ok N)
end
end Go.Proofs.YtmhaghcfopdifaaGreatDoor
