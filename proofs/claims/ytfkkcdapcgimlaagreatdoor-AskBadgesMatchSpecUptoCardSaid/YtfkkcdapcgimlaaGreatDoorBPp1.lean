/- Functions of the program as plain Lean definitions, each with the proof that the program computes it. No condition. Printed by a program of the prover, part 1. -/
import Derived.Test.YtfkkcdapcgimlaaGreatDoorHk1
import Derived.Test.YtfkkcdapcgimlaaGreatDoorChecked
import Derived.KernelRfl
set_option linter.all false
set_option maxRecDepth 100000
namespace Go.Proofs.YtfkkcdapcgimlaaGreatDoor
open Go Go.AM
noncomputable section
variable (N : Nat) {R : Type}
abbrev LD : Type := List D
abbrev LB : Type := List UInt8
abbrev Ty0 : Type := LB × Int × Int × Int × Int × Int × Int × Bool × LD × Bool
abbrev Ty1 : Type := LB × Int × Int × Int × Int × Int × Int × Bool × LD
abbrev Ty2 : Type := Int × Int × Int × LB
def e3h : Sh := c0c
def e8w (N : Nat) (L : List Lf) : List (Bool × Res) := b8b L
theorem e8x : a0L Tryz.prog 78 e3h (e8w N) := c7l
def e4W : a0d := ext 78 (a2l e3h (e8w N)) c1E
theorem c9B : a0a Tryz.prog (e4W N) := a0L.to (e8x N) b73
def e8y : List (Nat × List Nat) := [(0, [0]), (1, [0])]
def e8z : a0C := []
def d4F (N : Nat) : Sg Tryz.prog 0 73 := .start e8z e8y
def d15 (N : Nat) (v0 : Int) (k0 : Bool → R) : R :=
 k0 (bif (decide (v0 ≥ 48)) then (decide (v0 ≤ 57)) else false)
def d98 (v0 : Int) : Bool := d15 N v0 (fun p => p)
theorem e4X (v0 : Int) (k0 : Bool → R) : d15 N v0 k0 = k0 (d98 N v0) := by
 unfold d98 d15
 repeat' (first | rfl | apply a0n | (apply a0A; intro _))
def d4G : Sh := { tmps := [(0, .c (.i .u8))], mem := [] }
def e8A (L : List Lf) : List (Bool × Res) := bnd (d15 N (li L 0) (fun p => p)) fun q => [(true, ([.c (.b q)], []))]
theorem e4Y (L : List Lf) : bd Tryz.prog (e4W N) (d4F N).h 73 d4G L = d15 N (li L 0) (fun p => some ([.c (.b p)], [])) := by kernel_rfl
theorem e8B : a0L Tryz.prog 73 d4G (e8A N) :=
 (d4F N).fn a0c (c9B N) fun L x hx => ((e4Y N L).trans ((e4X N ..).trans (a2h _ _ hx)))
def d4H : a0d := ext 73 (a2l d4G (e8A N)) (e4W N)
theorem b50 : a0a Tryz.prog (d4H N) := a0L.to (e8B N) (c9B N)
def e8C : List (Nat × List Nat) := [(0, [0]), (1, [0]), (2, [8, 7, 0]), (3, [8, 0, 7]), (4, [0, 3, 8, 7]), (5, [4, 8, 7, 0]), (6, [5, 4, 8, 7, 0]), (7, []), (8, [8, 7, 0]), (9, [0])]
def e8D : a0C := [(6, [0, 7, 8], [], []), (19, [0, 4, 5, 7, 8], [], [])]
def d4I (N : Nat) : Sg Tryz.prog 0 39 := .start e8D e8C
def a9B (w1 : Int) (w2 : Bool) (k0 : Bool → R) : R :=
 bif (!w2) then
  bnd (d98 N w1) fun y0 =>
  bnd (bif (bif (!y0) then (w1 != 45) else false) then (w1 != 95) else false) fun y1 =>
  k0 (bif y1 then (w1 != 46) else false)
 else
  k0 false
def b51 (w1 : Int) (w2 : Bool) : Bool := a9B N w1 w2 (fun p => p)
theorem d16 (w1 : Int) (w2 : Bool) (k0 : Bool → R) : a9B N w1 w2 k0 = k0 (b51 N w1 w2) := by
 unfold b51 a9B
 repeat' (first | rfl | apply a0n | (apply a0A; intro _))
def c43 : Sh := { tmps := [(0, .c (.s)), (4, .c (.i .u8)), (5, .c (.b)), (7, .c (.i .i64)), (8, .c (.i .i64))], mem := [] }
def c0d (L : List Lf) (p : Bool) : Ex × St := (.normal, mg (a0k c43 L) [0, 7, 8, 46] [(46, .c (.b p))] [] [])
def d99 (L : List Lf) : List (Bool × (Ex × St)) := bnd (a9B N (li L 1) (lb L 2) (fun p => p)) fun q => [(true, c0d L q)]
theorem d17 (L : List Lf) : pc Tryz.prog (d4H N) (d4I N).h 0 100 39 19 c43 L [0, 7, 8, 46] [] = a9B N (li L 1) (lb L 2) (fun p => some (c0d L p)) := by kernel_rfl
def d4J : Sg Tryz.prog 0 39 :=
 (d4I N).cut (d99 N) a0c (b50 N) fun L x hx => (d17 N L).trans ((d16 N ..).trans (a2h _ _ hx))
def b39 (w0 : LB) (w1 : Int) (w2 : Int) (kr : Int → Option R) (k0 : Unit → Option R) (k1 : Unit → Option R) : Option R :=
 bif (decide (w2 < w1)) then
  bif (inB w2 w0.length) then
   bnd (bif (decide (((w0.getD w2.toNat 0).toNat : Int) ≥ 97)) then (decide (((w0.getD w2.toNat 0).toNat : Int) ≤ 122)) else false) fun y0 =>
   bnd (bif y0 then true else (bif (decide (((w0.getD w2.toNat 0).toNat : Int) ≥ 65)) then (decide (((w0.getD w2.toNat 0).toNat : Int) ≤ 90)) else false)) fun y1 =>
   bnd (b51 N ((w0.getD w2.toNat 0).toNat : Int) y1) fun y2 =>
   bif y2 then
    k0 ()
   else
    kr (IntKind.wrap .i64 (w2 + 1))
  else
   none
 else
  k1 ()
def c1R (N : Nat) {R : Type} (w0 : LB) (w1 : Int) : Nat → Int → (Unit → Option R) → (Unit → Option R) → Option R
 | 0, _, _, _ => none
 | m + 1, w2, k0, k1 => b39 N w0 w1 w2 (fun w2 => c1R N w0 w1 m w2 k0 k1) k0 k1
def c7m (w0 : LB) (w1 : Int) (w2 : Int) : Option (Sum (Unit) (Unit)) := c1R N (R := (Sum (Unit) (Unit))) w0 w1 N w2 (fun p => some (.inl p)) (fun p => some (.inr p))
def b8c (L x : List Lf) (kr : List Lf → Option R) (k0 : Unit → Option R) (k1 : Unit → Option R) : Option R := b39 N (ls L 0) (li L 1) (li x 0) (fun w2 => kr [.i w2]) k0 k1
theorem c9C (L x : List Lf) (kr : List Lf → Option R) (k0 : Unit → Option R) (k1 : Unit → Option R) : b8c N L x kr k0 k1 = (b8c N L x (fun y => some (.inl y)) (fun p => some (.inr (.inl p))) (fun p => some (.inr (.inr p)))).bind (a09 kr (a09 k0 k1)) := by
 unfold b8c b39
 repeat' (first | with_reducible apply a0g | (with_reducible apply a0t; intro _) | rfl)
def c1S (L : List Lf) (m : Nat) (x : List Lf) : Option (Sum (Unit) (Unit)) := c1R N (R := (Sum (Unit) (Unit))) (ls L 0) (li L 1) m (li x 0) (fun p => some (.inl p)) (fun p => some (.inr p))
def b52 : Sh := { tmps := [(0, .c (.s)), (7, .c (.i .i64)), (8, .c (.i .i64))], mem := [] }
def e4Z (L : List Lf) : List (Bool × (Ex × St)) := bnd (c1S N L N (pk b52 [2] L)) fun q => [((a0T q), (.ret, ⟨[(2, .c (.b false))], []⟩)), ((a0l q).isSome, ((.exit 0), ⟨[(0, .c (.s (ls L 0)))], []⟩))]
theorem d18 (m : Nat) (kn : St → Option (Ex × St)) (L x : List Lf) : lpB Tryz.prog (d4H N) (d4J N).h 0 39 6 b52 [2] [0, 2] [] (m + 100) kn L x = b8c N L x (fun y => kn (a0k b52 (mx b52 [2] L y))) (fun _ => some (.ret, ⟨[(2, .c (.b false))], []⟩)) (fun _ => some ((.exit 0), ⟨[(0, .c (.s (ls L 0)))], []⟩)) := by kernel_rfl
theorem e0a (L : List Lf) (m : Nat) (x : List Lf) : c1S N L (m + 1) x = b8c N L x (c1S N L m) (fun p => some (.inl p)) (fun p => some (.inr p)) := by kernel_rfl
def d4K : Sg Tryz.prog 0 39 :=
 (d4J N).lp (e4Z N) N a0c (b50 N) (fun m kn L x => (d18 N m kn L x).trans (c9C N L x _ _ _)) (fun L m x => (e0a N L m x).trans (c9C N L x (c1S N L m) (fun p => some (.inl p)) (fun p => some (.inr p)))) fun L x hx => (a34 a08) x hx
def d19 (v0 : LB) (k0 : Bool → Option R) : Option R :=
 bnd (c7m N v0 (v0.length : Int) 0) fun y0 =>
 bif (a0T y0) then
  k0 false
 else
  bif (a0l y0).isSome then
   bnd (bif (decide ((v0.length : Int) ≥ 1)) then (decide ((v0.length : Int) ≤ 60)) else false) fun y1 =>
   k0 y1
  else
   none
def c44 (v0 : LB) : Option (Bool) := d19 N v0 (fun p => some p)
theorem e0b (v0 : LB) (k0 : Bool → Option R) : d19 N v0 k0 = (c44 N v0).bind k0 := by
 unfold c44 d19
 repeat' (first | with_reducible apply a0g | (with_reducible apply a0t; intro _) | rfl)
def d4L : Sh := { tmps := [(0, .c (.s))], mem := [] }
def e8E (L : List Lf) : List (Bool × Res) := bnd (d19 N (ls L 0) (fun p => some p)) fun q => [(q.isSome, ([.c (.b (q.getD default))], []))]
theorem e40 (L : List Lf) : bd Tryz.prog (d4H N) (d4K N).h 39 d4L L = d19 N (ls L 0) (fun p => some ([.c (.b p)], [])) := by kernel_rfl
theorem e8F : a0L Tryz.prog 39 d4L (e8E N) :=
 (d4K N).fn a0c (b50 N) fun L x hx => ((e40 N L).trans ((e0b N ..).trans (a08 x hx)))
def e41 : a0d := ext 39 (a2l d4L (e8E N)) (d4H N)
theorem c9D : a0a Tryz.prog (e41 N) := a0L.to (e8F N) (b50 N)
def e8G : List (Nat × List Nat) := [(0, [0, 1, 2]), (1, [0, 1, 2])]
def e8H : a0C := []
def d4M (N : Nat) : Sg Tryz.prog 0 28 := .start e8H e8G
def d2a (N : Nat) (v0 v1 v2 : Int) (k0 : Bool → R) : R :=
 k0 (bif (decide (v0 ≥ v1)) then (decide (v0 ≤ v2)) else false)
def a6b (v0 v1 v2 : Int) : Bool := d2a N v0 v1 v2 (fun p => p)
theorem e42 (v0 v1 v2 : Int) (k0 : Bool → R) : d2a N v0 v1 v2 k0 = k0 (a6b N v0 v1 v2) := by
 unfold a6b d2a
 repeat' (first | rfl | apply a0n | (apply a0A; intro _))
def d4N : Sh := { tmps := [(0, .c (.i .i64)), (1, .c (.i .i64)), (2, .c (.i .i64))], mem := [] }
def e8I (L : List Lf) : List (Bool × Res) := bnd (d2a N (li L 0) (li L 1) (li L 2) (fun p => p)) fun q => [(true, ([.c (.b q)], []))]
theorem e43 (L : List Lf) : bd Tryz.prog (e41 N) (d4M N).h 28 d4N L = d2a N (li L 0) (li L 1) (li L 2) (fun p => some ([.c (.b p)], [])) := by kernel_rfl
theorem e8J : a0L Tryz.prog 28 d4N (e8I N) :=
 (d4M N).fn a0c (c9D N) fun L x hx => ((e43 N L).trans ((e42 N ..).trans (a2h _ _ hx)))
def e8K : a0d := ext 28 (a2l d4N (e8I N)) (e41 N)
theorem c9E : a0a Tryz.prog (e8K N) := a0L.to (e8J N) (c9D N)
abbrev a3A : Type := Int → Int → Int → Int → LB → Bool → LD → Option (Int)
def c9F : Sh := { tmps := [(0, .g (.i .i64 :: [.i .i64, .i .i64, .i .i64, .s, .sl 24]))], mem := [] }
def e8L (N : Nat) (rc54x1 : a3A) (L : List Lf) : List (Bool × Res) := bnd (rc54x1 (li L 0) (li L 1) (li L 2) (li L 3) (ls L 4) (lb L 5) (ll L 6)) fun q => [(q.isSome, ([.c (.i .i64 (q.getD default))], []))]
def c1T (rc54x1 : a3A) : a0d := ext 54 (a2l c9F ((e8L N) rc54x1)) (e8K N)
def e8M : List (Nat × List Nat) := [(0, [0]), (1, [1]), (2, [1, 3]), (3, [9, 8, 7, 3]), (4, [7, 9, 3, 8]), (5, [3, 5, 9, 8, 7]), (6, [9, 8, 7, 3]), (7, [3])]
def e8N : a0C := [(9, [3, 7, 8, 9], [], [])]
def d4O (rc54x1 : a3A) (hR54x1 : a0a Tryz.prog ((c1T N) rc54x1)) : Sg Tryz.prog 0 54 := .start e8N e8M
def b4a (N : Nat) (rc54x1 : a3A) (w2 : LD) (w3 : Int) (w0 w4 : Int) (kr : Int → Int → Option R) (k0 : Int → Option R) : Option R :=
 bif (decide (w4 < w3)) then
  bif (inB w4 w2.length) then
   bnd (rc54x1 ((w2.getD w4.toNat (.i 0)).cell 0).toI ((w2.getD w4.toNat (.i 0)).cell 1).toI ((w2.getD w4.toNat (.i 0)).cell 2).toI ((w2.getD w4.toNat (.i 0)).cell 3).toI ((w2.getD w4.toNat (.i 0)).cell 4).toS ((w2.getD w4.toNat (.i 0)).cell 5).isNil ((w2.getD w4.toNat (.i 0)).cell 5).items) fun y0 =>
   bif y0.isSome then
    kr (IntKind.wrap .i64 (w0 + (y0.getD default))) (IntKind.wrap .i64 (w4 + 1))
   else
    none
  else
   none
 else
  k0 w0
def c1U (N : Nat) (rc54x1 : a3A) {R : Type} (w2 : LD) (w3 : Int) : Nat → Int → Int → (Int → Option R) → Option R
 | 0, _, _, _ => none
 | m + 1, w0, w4, k0 => b4a N rc54x1 w2 w3 w0 w4 (fun w0 w4 => c1U N rc54x1 w2 w3 m w0 w4 k0) k0
def c7n (rc54x1 : a3A) (w2 : LD) (w3 : Int) (w0 w4 : Int) : Option (Int) := c1U N rc54x1 (R := (Int)) w2 w3 N w0 w4 (fun p => some p)
def b8d (rc54x1 : a3A) (L x : List Lf) (kr : List Lf → Option R) (k0 : Int → Option R) : Option R := b4a N rc54x1 (ll L 2) (li L 3) (li x 0) (li x 1) (fun w0 w4 => kr [.i w0, .i w4]) k0
theorem c9G (rc54x1 : a3A) (L x : List Lf) (kr : List Lf → Option R) (k0 : Int → Option R) : b8d N rc54x1 L x kr k0 = (b8d N rc54x1 L x (fun y => some (.inl y)) (fun p => some (.inr p))).bind (a09 kr k0) := by
 unfold b8d b4a
 repeat' (first | with_reducible apply a0g | (with_reducible apply a0t; intro _) | rfl)
def c1V (rc54x1 : a3A) (L : List Lf) (m : Nat) (x : List Lf) : Option (Int) := c1U N rc54x1 (R := (Int)) (ll L 2) (li L 3) m (li x 0) (li x 1) (fun p => some p)
def b53 : Sh := { tmps := [(3, .c (.i .i64)), (7, .c (.sl 24)), (8, .c (.i .i64)), (9, .c (.i .i64))], mem := [] }
def e44 (rc54x1 : a3A) (L : List Lf) : List (Bool × (Ex × St)) := bnd (c1V N rc54x1 L N (pk b53 [0, 4] L)) fun q => [(q.isSome, ((.exit 0), ⟨[(3, .c (.i .i64 (q.getD default)))], []⟩))]
theorem d2b (rc54x1 : a3A) (hR54x1 : a0a Tryz.prog ((c1T N) rc54x1)) (m : Nat) (kn : St → Option (Ex × St)) (L x : List Lf) : lpB Tryz.prog ((c1T N) rc54x1) ((d4O N) rc54x1 hR54x1).h 0 54 9 b53 [0, 4] [2, 3] [] (m + 100) kn L x = b8d N rc54x1 L x (fun y => kn (a0k b53 (mx b53 [0, 4] L y))) (fun p => some ((.exit 0), ⟨[(3, .c (.i .i64 p))], []⟩)) := by kernel_rfl
theorem e0c (rc54x1 : a3A) (L : List Lf) (m : Nat) (x : List Lf) : c1V N rc54x1 L (m + 1) x = b8d N rc54x1 L x (c1V N rc54x1 L m) some := by kernel_rfl
def d4P (rc54x1 : a3A) (hR54x1 : a0a Tryz.prog ((c1T N) rc54x1)) : Sg Tryz.prog 0 54 :=
 ((d4O N) rc54x1 hR54x1).lp ((e44 N) rc54x1) N a0c hR54x1 (fun m kn L x => (d2b N rc54x1 hR54x1 m kn L x).trans (c9G N rc54x1 L x _ _)) (fun L m x => (e0c N rc54x1 L m x).trans (c9G N rc54x1 L x (c1V N rc54x1 L m) some)) fun L x hx => a08 x hx
def d4Q (rc54x1 : a3A) (v0 v1 v2 v3 : Int) (v4 : LB) (v5 : Bool) (v6 : LD) (k0 : Int → Option R) : Option R :=
 bnd (c7n N rc54x1 v6 (v6.length : Int) 1 0) fun y0 =>
 bif y0.isSome then
  k0 (y0.getD default)
 else
  none
def d2c (rc54x1 : a3A) (v0 v1 v2 v3 : Int) (v4 : LB) (v5 : Bool) (v6 : LD) : Option (Int) := d4Q N rc54x1 v0 v1 v2 v3 v4 v5 v6 (fun p => some p)
theorem e0d (rc54x1 : a3A) (v0 v1 v2 v3 : Int) (v4 : LB) (v5 : Bool) (v6 : LD) (k0 : Int → Option R) : d4Q N rc54x1 v0 v1 v2 v3 v4 v5 v6 k0 = (d2c N rc54x1 v0 v1 v2 v3 v4 v5 v6).bind k0 := by
 unfold d2c d4Q
 repeat' (first | with_reducible apply a0g | (with_reducible apply a0t; intro _) | rfl)
def f3m (rc54x1 : a3A) (L : List Lf) (k0 : Int → Option R) : Option R := d4Q N rc54x1 (li L 0) (li L 1) (li L 2) (li L 3) (ls L 4) (lb L 5) (ll L 6) k0
theorem e45 (rc54x1 : a3A) (hR54x1 : a0a Tryz.prog ((c1T N) rc54x1)) (L : List Lf) : bd Tryz.prog ((c1T N) rc54x1) ((d4P N) rc54x1 hR54x1).h 54 c9F L = f3m N rc54x1 L (fun p => some ([.c (.i .i64 p)], [])) := by kernel_rfl
theorem e46 (rc54x1 : a3A) (hR54x1 : a0a Tryz.prog ((c1T N) rc54x1)) (L : List Lf) (x : Res) (hx : a4Z ((e8L N) (fun v0 v1 v2 v3 v4 v5 v6 => d2c N rc54x1 v0 v1 v2 v3 v4 v5 v6) L) some = some x) : a1u Tryz.prog 54 (a5z (a0k c9F L).tmps) (a0k c9F L).mem x :=
 a3c (n := 200) a0c hR54x1 ((d4P N) rc54x1 hR54x1).ok rfl ((e45 N rc54x1 hR54x1 L).trans ((e0d N rc54x1 ..).trans (a08 x hx)))
def b9h (N : Nat) : Nat → a3A
 | 0 => fun _ _ _ _ _ _ _ => none
 | m + 1 => fun v0 v1 v2 v3 v4 v5 v6 => d2c N (b9h N m) v0 v1 v2 v3 v4 v5 v6
theorem d4R (N : Nat) : ∀ m, a0a Tryz.prog ((c1T N) (b9h N m))
 | 0 => a0M (c9E N) (AM.enters_of (by kernel_rfl)) (a04 fun L x hx => by
  have h : (none : Option Res) = some x := hx
  cases h)
 | m + 1 => a0M (c9E N) (AM.enters_of (by kernel_rfl)) (a04 fun L x hx => e46 N (b9h N m) (d4R N m) L x hx)
def e47 : a0d := (c1T N) (b9h N N)
theorem c9H : a0a Tryz.prog (e47 N) := d4R N N
def e8O : List (Nat × List Nat) := [(0, [0]), (1, [0])]
def e8P : a0C := []
def d4S (N : Nat) : Sg Tryz.prog 0 29 := .start e8P e8O
def d2d (v0 : Int) (k0 : Bool → R) : R :=
 bnd (a6b N v0 1 7) fun y0 =>
 k0 y0
def d2e (v0 : Int) : Bool := d2d N v0 (fun p => p)
theorem e48 (v0 : Int) (k0 : Bool → R) : d2d N v0 k0 = k0 (d2e N v0) := by
 unfold d2e d2d
 repeat' (first | rfl | apply a0n | (apply a0A; intro _))
def d4T : Sh := { tmps := [(0, .c (.i .i64))], mem := [] }
def e8Q (L : List Lf) : List (Bool × Res) := bnd (d2d N (li L 0) (fun p => p)) fun q => [(true, ([.c (.b q)], []))]
theorem e49 (L : List Lf) : bd Tryz.prog (e47 N) (d4S N).h 29 d4T L = d2d N (li L 0) (fun p => some ([.c (.b p)], [])) := by kernel_rfl
theorem e8R : a0L Tryz.prog 29 d4T (e8Q N) :=
 (d4S N).fn a0c (c9H N) fun L x hx => ((e49 N L).trans ((e48 N ..).trans (a2h _ _ hx)))
def e5a : a0d := ext 29 (a2l d4T (e8Q N)) (e47 N)
theorem c9I : a0a Tryz.prog (e5a N) := a0L.to (e8R N) (c9H N)
def e5b : List (Nat × List Nat) := [(0, [0, 1, 2]), (1, [0, 1, 2])]
def e5c : a0C := []
def c9J (N : Nat) : Sg Tryz.prog 0 162 := .start e5c e5b
def c0e (N : Nat) (v0 v1 v2 : Int) (k0 : Bool → R) : R :=
 k0 (bif (decide (v0 ≥ v1)) then (decide (v0 ≤ v2)) else false)
def c45 (v0 v1 v2 : Int) : Bool := c0e N v0 v1 v2 (fun p => p)
theorem e0e (v0 v1 v2 : Int) (k0 : Bool → R) : c0e N v0 v1 v2 k0 = k0 (c45 N v0 v1 v2) := by
 unfold c45 c0e
 repeat' (first | rfl | apply a0n | (apply a0A; intro _))
def c7o : Sh := { tmps := [(0, .c (.i .i64)), (1, .c (.i .i64)), (2, .c (.i .i64))], mem := [] }
def e3i (L : List Lf) : List (Bool × Res) := bnd (c0e N (li L 0) (li L 1) (li L 2) (fun p => p)) fun q => [(true, ([.c (.b q)], []))]
theorem e0f (L : List Lf) : bd Tryz.prog (e5a N) (c9J N).h 162 c7o L = c0e N (li L 0) (li L 1) (li L 2) (fun p => some ([.c (.b p)], [])) := by kernel_rfl
theorem e5d : a0L Tryz.prog 162 c7o (e3i N) :=
 (c9J N).fn a0c (c9I N) fun L x hx => ((e0f N L).trans ((e0e N ..).trans (a2h _ _ hx)))
def c9K : a0d := ext 162 (a2l c7o (e3i N)) (e5a N)
theorem b8e : a0a Tryz.prog (c9K N) := a0L.to (e5d N) (c9I N)
def e5e : List (Nat × List Nat) := [(0, [0]), (1, [0]), (2, [6, 5, 0]), (3, [6, 0, 5]), (4, [0, 3, 6, 5]), (5, []), (6, [6, 5, 0]), (7, [0])]
def e5f : a0C := [(6, [0, 5, 6], [], [])]
def c9L (N : Nat) : Sg Tryz.prog 0 128 := .start e5f e5e
def a9C (w0 : LB) (w1 : Int) (w2 : Int) (kr : Int → Option R) (k0 : Unit → Option R) (k1 : Unit → Option R) : Option R :=
 bif (decide (w2 < w1)) then
  bif (inB w2 w0.length) then
   bnd (c45 N (IntKind.wrap .i64 ((w0.getD w2.toNat 0).toNat : Int)) 32 126) fun y0 =>
   bif (!y0) then
    k0 ()
   else
    kr (IntKind.wrap .i64 (w2 + 1))
  else
   none
 else
  k1 ()
def b54 (N : Nat) {R : Type} (w0 : LB) (w1 : Int) : Nat → Int → (Unit → Option R) → (Unit → Option R) → Option R
 | 0, _, _, _ => none
 | m + 1, w2, k0, k1 => a9C N w0 w1 w2 (fun w2 => b54 N w0 w1 m w2 k0 k1) k0 k1
def c1W (w0 : LB) (w1 : Int) (w2 : Int) : Option (Sum (Unit) (Unit)) := b54 N (R := (Sum (Unit) (Unit))) w0 w1 N w2 (fun p => some (.inl p)) (fun p => some (.inr p))
def b13 (L x : List Lf) (kr : List Lf → Option R) (k0 : Unit → Option R) (k1 : Unit → Option R) : Option R := a9C N (ls L 0) (li L 1) (li x 0) (fun w2 => kr [.i w2]) k0 k1
theorem c46 (L x : List Lf) (kr : List Lf → Option R) (k0 : Unit → Option R) (k1 : Unit → Option R) : b13 N L x kr k0 k1 = (b13 N L x (fun y => some (.inl y)) (fun p => some (.inr (.inl p))) (fun p => some (.inr (.inr p)))).bind (a09 kr (a09 k0 k1)) := by
 unfold b13 a9C
 repeat' (first | with_reducible apply a0g | (with_reducible apply a0t; intro _) | rfl)
def b55 (L : List Lf) (m : Nat) (x : List Lf) : Option (Sum (Unit) (Unit)) := b54 N (R := (Sum (Unit) (Unit))) (ls L 0) (li L 1) m (li x 0) (fun p => some (.inl p)) (fun p => some (.inr p))
def b14 : Sh := { tmps := [(0, .c (.s)), (5, .c (.i .i64)), (6, .c (.i .i64))], mem := [] }
def e0g (L : List Lf) : List (Bool × (Ex × St)) := bnd (b55 N L N (pk b14 [2] L)) fun q => [((a0T q), (.ret, ⟨[(2, .c (.b false))], []⟩)), ((a0l q).isSome, ((.exit 0), ⟨[(0, .c (.s (ls L 0)))], []⟩))]
theorem c7p (m : Nat) (kn : St → Option (Ex × St)) (L x : List Lf) : lpB Tryz.prog (c9K N) (c9L N).h 0 128 6 b14 [2] [0, 2] [] (m + 100) kn L x = b13 N L x (fun y => kn (a0k b14 (mx b14 [2] L y))) (fun _ => some (.ret, ⟨[(2, .c (.b false))], []⟩)) (fun _ => some ((.exit 0), ⟨[(0, .c (.s (ls L 0)))], []⟩)) := by kernel_rfl
theorem d4U (L : List Lf) (m : Nat) (x : List Lf) : b55 N L (m + 1) x = b13 N L x (b55 N L m) (fun p => some (.inl p)) (fun p => some (.inr p)) := by kernel_rfl
def c9M : Sg Tryz.prog 0 128 :=
 (c9L N).lp (e0g N) N a0c (b8e N) (fun m kn L x => (c7p N m kn L x).trans (c46 N L x _ _ _)) (fun L m x => (d4U N L m x).trans (c46 N L x (b55 N L m) (fun p => some (.inl p)) (fun p => some (.inr p)))) fun L x hx => (a34 a08) x hx
def c0f (v0 : LB) (k0 : Bool → Option R) : Option R :=
 bnd (c1W N v0 (v0.length : Int) 0) fun y0 =>
 bif (a0T y0) then
  k0 false
 else
  bif (a0l y0).isSome then
   k0 (decide ((v0.length : Int) ≤ 60))
  else
   none
def c47 (v0 : LB) : Option (Bool) := c0f N v0 (fun p => some p)
theorem d4V (v0 : LB) (k0 : Bool → Option R) : c0f N v0 k0 = (c47 N v0).bind k0 := by
 unfold c47 c0f
 repeat' (first | with_reducible apply a0g | (with_reducible apply a0t; intro _) | rfl)
def c7q : Sh := { tmps := [(0, .c (.s))], mem := [] }
def e3j (L : List Lf) : List (Bool × Res) := bnd (c0f N (ls L 0) (fun p => some p)) fun q => [(q.isSome, ([.c (.b (q.getD default))], []))]
theorem e0h (L : List Lf) : bd Tryz.prog (c9K N) (c9M N).h 128 c7q L = c0f N (ls L 0) (fun p => some ([.c (.b p)], [])) := by kernel_rfl
theorem e5g : a0L Tryz.prog 128 c7q (e3j N) :=
 (c9M N).fn a0c (b8e N) fun L x hx => ((e0h N L).trans ((d4V N ..).trans (a08 x hx)))
def c9N : a0d := ext 128 (a2l c7q (e3j N)) (c9K N)
theorem b8f : a0a Tryz.prog (c9N N) := a0L.to (e5g N) (b8e N)
def e8S : List (Nat × List Nat) := [(0, [0]), (1, [0])]
def e8T : a0C := [(4, [0], [], [])]
def d4W (N : Nat) : Sg Tryz.prog 0 87 := .start e8T e8S
def b4b (w0 : LB) (k0 : Bool → Option R) : Option R :=
 bif (!(w0 == ([] : List UInt8))) then
  bnd (c47 N w0) fun y0 =>
  bif y0.isSome then
   k0 (y0.getD default)
  else
   none
 else
  k0 false
def c1X (w0 : LB) : Option (Bool) := b4b N w0 (fun p => some p)
theorem d2f (w0 : LB) (k0 : Bool → Option R) : b4b N w0 k0 = (c1X N w0).bind k0 := by
 unfold c1X b4b
 repeat' (first | with_reducible apply a0g | (with_reducible apply a0t; intro _) | rfl)
def e0i : Sh := { tmps := [(0, .c (.s))], mem := [] }
def e5h (L : List Lf) : List (Bool × (Ex × St)) := bnd (b4b N (ls L 0) (fun p => some p)) fun q => [(q.isSome, (.normal, ⟨[(2, .c (.b (q.getD default)))], []⟩))]
theorem d4X (L : List Lf) : pc Tryz.prog (c9N N) (d4W N).h 0 100 87 4 e0i L [2] [] = b4b N (ls L 0) (fun p => some (.normal, ⟨[(2, .c (.b p))], []⟩)) := by kernel_rfl
def d4Y : Sg Tryz.prog 0 87 :=
 (d4W N).cut (e5h N) a0c (b8f N) fun L x hx => (d4X N L).trans ((d2f N ..).trans (a08 x hx))
def d2g (v0 : LB) (k0 : Bool → Option R) : Option R :=
 bnd (c1X N v0) fun y0 =>
 bif y0.isSome then
  k0 (y0.getD default)
 else
  none
def d4Z (v0 : LB) : Option (Bool) := d2g N v0 (fun p => some p)
theorem e0j (v0 : LB) (k0 : Bool → Option R) : d2g N v0 k0 = (d4Z N v0).bind k0 := by
 unfold d4Z d2g
 repeat' (first | with_reducible apply a0g | (with_reducible apply a0t; intro _) | rfl)
def d40 : Sh := { tmps := [(0, .c (.s))], mem := [] }
def e8U (L : List Lf) : List (Bool × Res) := bnd (d2g N (ls L 0) (fun p => some p)) fun q => [(q.isSome, ([.c (.b (q.getD default))], []))]
theorem e5i (L : List Lf) : bd Tryz.prog (c9N N) (d4Y N).h 87 d40 L = d2g N (ls L 0) (fun p => some ([.c (.b p)], [])) := by kernel_rfl
theorem e8V : a0L Tryz.prog 87 d40 (e8U N) :=
 (d4Y N).fn a0c (b8f N) fun L x hx => ((e5i N L).trans ((e0j N ..).trans (a08 x hx)))
def e8W : a0d := ext 87 (a2l d40 (e8U N)) (c9N N)
theorem c9O : a0a Tryz.prog (e8W N) := a0L.to (e8V N) (b8f N)
abbrev a0p : Type := Int → Int → Int → Int → LB → Bool → LD → Int → Option (Int)
def c9P : Sh := { tmps := [(0, .g (.i .i64 :: [.i .i64, .i .i64, .i .i64, .s, .sl 24])), (1, .c (.i .i64))], mem := [] }
def e8X (N : Nat) (rc55x1 : a0p) (L : List Lf) : List (Bool × Res) := bnd (rc55x1 (li L 0) (li L 1) (li L 2) (li L 3) (ls L 4) (lb L 5) (ll L 6) (li L 7)) fun q => [(q.isSome, ([.c (.i .i64 (q.getD default))], []))]
def a2F (rc55x1 : a0p) : a0d := ext 55 (a2l c9P ((e8X N) rc55x1)) (e8W N)
def e8Y : List (Nat × List Nat) := [(0, [0, 1]), (1, [2, 1]), (2, [2, 1, 5]), (3, [2, 6, 1, 7, 5]), (4, [2, 6, 8, 9, 1, 7, 5]), (6, [6, 2, 8, 9, 1, 7, 5]), (7, [7, 2, 6, 8, 9, 1, 5]), (9, [6, 2, 8, 9, 1, 7, 5]), (11, [8, 2, 9, 6, 1, 7, 5]), (13, [9, 2, 6, 1, 7, 8, 5]), (15, [6, 2, 1, 7, 8, 9, 5]), (16, [6, 7, 2, 1, 8, 9, 5]), (17, [8, 9, 2, 1, 5]), (18, [5, 2, 1]), (20, [2, 1]), (22, [1, 2]), (23, []), (21, []), (19, []), (14, []), (12, []), (10, []), (8, []), (5, []), (24, [2, 1]), (25, [144, 143, 142, 1]), (26, [142, 144, 1, 143]), (27, [11, 1, 144, 143, 142]), (28, [12, 144, 143, 142, 1]), (29, [12]), (30, [144, 143, 142, 1]), (31, [])]
def e8Z : a0C := [(19, [1, 2, 5, 6, 7, 8, 9], [2], []), (22, [1, 2, 5, 6, 7, 8, 9], [2], []), (21002, [1, 2, 5, 6, 7, 8, 9, 33], [2], []), (28, [1, 2, 5, 6, 7, 8, 9], [2], []), (34, [1, 2, 5, 6, 7, 8, 9], [2], []), (40, [1, 2, 5, 6, 7, 8, 9], [2], []), (54002, [1, 2, 5, 85], [2], []), (51002, [1, 2, 5, 8, 9, 85], [2], []), (48002, [1, 2, 5, 6, 7, 8, 9, 85], [2], []), (75, [1, 142, 143, 144], [], [])]
def d41 (rc55x1 : a0p) (hR55x1 : a0a Tryz.prog ((a2F N) rc55x1)) : Sg Tryz.prog 0 55 := .start e8Z e8Y
def a9D (rc55x1 : a0p) (w2 : Bool) (w7 : Int) (k0 : Bool → R) : R :=
 bif w2 then
  bnd (d2e N w7) fun y0 =>
  k0 (!y0)
 else
  k0 false
def b56 (rc55x1 : a0p) (w2 : Bool) (w7 : Int) : Bool := a9D N rc55x1 w2 w7 (fun p => p)
theorem d2h (rc55x1 : a0p) (w2 : Bool) (w7 : Int) (k0 : Bool → R) : a9D N rc55x1 w2 w7 k0 = k0 (b56 N rc55x1 w2 w7) := by
 unfold b56 a9D
 repeat' (first | rfl | apply a0n | (apply a0A; intro _))
def c48 : Sh := { tmps := [(1, .c (.i .i64)), (2, .c (.p 2 0)), (5, .c (.b)), (6, .c (.b)), (7, .c (.b)), (8, .c (.b)), (9, .c (.b))], mem := [(2, .box (.i .i64 :: [.i .i64, .i .i64, .i .i64, .s, .sl 24]))] }
def c0g (L : List Lf) (p : Bool) : Ex × St := (.normal, mg (a0k c48 L) [1, 2, 5, 6, 7, 8, 9, 33] [(33, .c (.b p))] [2] [])
def e0k (rc55x1 : a0p) (L : List Lf) : List (Bool × (Ex × St)) := bnd (a9D N rc55x1 (lb L 2) (li L 7) (fun p => p)) fun q => [(true, c0g L q)]
theorem d2i (rc55x1 : a0p) (hR55x1 : a0a Tryz.prog ((a2F N) rc55x1)) (L : List Lf) : pc Tryz.prog ((a2F N) rc55x1) ((d41 N) rc55x1 hR55x1).h 0 100 55 19 c48 L [1, 2, 5, 6, 7, 8, 9, 33] [2] = a9D N rc55x1 (lb L 2) (li L 7) (fun p => some (c0g L p)) := by kernel_rfl
def d42 (rc55x1 : a0p) (hR55x1 : a0a Tryz.prog ((a2F N) rc55x1)) : Sg Tryz.prog 0 55 :=
 ((d41 N) rc55x1 hR55x1).cut ((e0k N) rc55x1) a0c hR55x1 fun L x hx => (d2i N rc55x1 hR55x1 L).trans ((d2h N rc55x1 ..).trans (a2h _ _ hx))
def a9E (rc55x1 : a0p) (w3 : Bool) (w8 : Int) (k0 : Bool → R) : R :=
 bif w3 then
  bnd (a6b N w8 1 5) fun y0 =>
  k0 (!y0)
 else
  k0 false
def b57 (rc55x1 : a0p) (w3 : Bool) (w8 : Int) : Bool := a9E N rc55x1 w3 w8 (fun p => p)
theorem d2j (rc55x1 : a0p) (w3 : Bool) (w8 : Int) (k0 : Bool → R) : a9E N rc55x1 w3 w8 k0 = k0 (b57 N rc55x1 w3 w8) := by
 unfold b57 a9E
 repeat' (first | rfl | apply a0n | (apply a0A; intro _))
def c49 : Sh := { tmps := [(1, .c (.i .i64)), (2, .c (.p 2 0)), (5, .c (.b)), (6, .c (.b)), (7, .c (.b)), (8, .c (.b)), (9, .c (.b))], mem := [(2, .box (.i .i64 :: [.i .i64, .i .i64, .i .i64, .s, .sl 24]))] }
def c0h (L : List Lf) (p : Bool) : Ex × St := (.normal, mg (a0k c49 L) [1, 2, 5, 6, 7, 8, 9, 33] [(33, .c (.b p))] [2] [])
def e0l (rc55x1 : a0p) (L : List Lf) : List (Bool × (Ex × St)) := bnd (a9E N rc55x1 (lb L 3) (li L 8) (fun p => p)) fun q => [(true, c0h L q)]
theorem d2k (rc55x1 : a0p) (hR55x1 : a0a Tryz.prog ((a2F N) rc55x1)) (L : List Lf) : pc Tryz.prog ((a2F N) rc55x1) ((d42 N) rc55x1 hR55x1).h 0 100 55 22 c49 L [1, 2, 5, 6, 7, 8, 9, 33] [2] = a9E N rc55x1 (lb L 3) (li L 8) (fun p => some (c0h L p)) := by kernel_rfl
def d43 (rc55x1 : a0p) (hR55x1 : a0a Tryz.prog ((a2F N) rc55x1)) : Sg Tryz.prog 0 55 :=
 ((d42 N) rc55x1 hR55x1).cut ((e0l N) rc55x1) a0c hR55x1 fun L x hx => (d2k N rc55x1 hR55x1 L).trans ((d2j N rc55x1 ..).trans (a2h _ _ hx))
def a4i (rc55x1 : a0p) (w3 w6 : Bool) (w9 : Int) (k0 : Bool → R) : R :=
 bif w6 then
  k0 true
 else
  bnd (b57 N rc55x1 w3 w9) fun y0 =>
  k0 y0
def a7H (rc55x1 : a0p) (w3 w6 : Bool) (w9 : Int) : Bool := a4i N rc55x1 w3 w6 w9 (fun p => p)
theorem c1Y (rc55x1 : a0p) (w3 w6 : Bool) (w9 : Int) (k0 : Bool → R) : a4i N rc55x1 w3 w6 w9 k0 = k0 (a7H N rc55x1 w3 w6 w9) := by
 unfold a7H a4i
 repeat' (first | rfl | apply a0n | (apply a0A; intro _))
def b45 : Sh := { tmps := [(1, .c (.i .i64)), (2, .c (.p 2 0)), (5, .c (.b)), (6, .c (.b)), (7, .c (.b)), (8, .c (.b)), (9, .c (.b)), (33, .c (.b))], mem := [(2, .box (.i .i64 :: [.i .i64, .i .i64, .i .i64, .s, .sl 24]))] }
def b15 (L : List Lf) (p : Bool) : Ex × St := (.normal, mg (a0k b45 L) [1, 2, 5, 6, 7, 8, 9, 33] [(33, .c (.b p))] [2] [])
def c7r (rc55x1 : a0p) (L : List Lf) : List (Bool × (Ex × St)) := bnd (a4i N rc55x1 (lb L 3) (lb L 6) (li L 9) (fun p => p)) fun q => [(true, b15 L q)]
theorem c1Z (rc55x1 : a0p) (hR55x1 : a0a Tryz.prog ((a2F N) rc55x1)) (L : List Lf) : pc Tryz.prog ((a2F N) rc55x1) ((d43 N) rc55x1 hR55x1).h 0 100 55 21002 b45 L [1, 2, 5, 6, 7, 8, 9, 33] [2] = a4i N rc55x1 (lb L 3) (lb L 6) (li L 9) (fun p => some (b15 L p)) := by kernel_rfl
def d44 (rc55x1 : a0p) (hR55x1 : a0a Tryz.prog ((a2F N) rc55x1)) : Sg Tryz.prog 0 55 :=
 ((d43 N) rc55x1 hR55x1).cut ((c7r N) rc55x1) a0c hR55x1 fun L x hx => (c1Z N rc55x1 hR55x1 L).trans ((c1Y N rc55x1 ..).trans (a2h _ _ hx))
def a9F (rc55x1 : a0p) (w2 : Bool) (w8 w9 : Int) (k0 : Bool → R) : R :=
 bif w2 then
  bnd (a6b N w8 (-1000000000000000) 1000000000000000) fun y0 =>
  bif (!y0) then
   k0 true
  else
   bnd (a6b N w9 (-1000000000000000) 1000000000000000) fun y1 =>
   k0 (bif (!y1) then true else (decide (w8 > w9)))
 else
  k0 false
def b58 (rc55x1 : a0p) (w2 : Bool) (w8 w9 : Int) : Bool := a9F N rc55x1 w2 w8 w9 (fun p => p)
theorem d2l (rc55x1 : a0p) (w2 : Bool) (w8 w9 : Int) (k0 : Bool → R) : a9F N rc55x1 w2 w8 w9 k0 = k0 (b58 N rc55x1 w2 w8 w9) := by
 unfold b58 a9F
 repeat' (first | rfl | apply a0n | (apply a0A; intro _))
def c5a : Sh := { tmps := [(1, .c (.i .i64)), (2, .c (.p 2 0)), (5, .c (.b)), (6, .c (.b)), (7, .c (.b)), (8, .c (.b)), (9, .c (.b))], mem := [(2, .box (.i .i64 :: [.i .i64, .i .i64, .i .i64, .s, .sl 24]))] }
def c0i (L : List Lf) (p : Bool) : Ex × St := (.normal, mg (a0k c5a L) [1, 2, 5, 6, 7, 8, 9, 48] [(48, .c (.b p))] [2] [])
def e0m (rc55x1 : a0p) (L : List Lf) : List (Bool × (Ex × St)) := bnd (a9F N rc55x1 (lb L 2) (li L 8) (li L 9) (fun p => p)) fun q => [(true, c0i L q)]
theorem d2m (rc55x1 : a0p) (hR55x1 : a0a Tryz.prog ((a2F N) rc55x1)) (L : List Lf) : pc Tryz.prog ((a2F N) rc55x1) ((d44 N) rc55x1 hR55x1).h 0 100 55 28 c5a L [1, 2, 5, 6, 7, 8, 9, 48] [2] = a9F N rc55x1 (lb L 2) (li L 8) (li L 9) (fun p => some (c0i L p)) := by kernel_rfl
def d45 (rc55x1 : a0p) (hR55x1 : a0a Tryz.prog ((a2F N) rc55x1)) : Sg Tryz.prog 0 55 :=
 ((d44 N) rc55x1 hR55x1).cut ((e0m N) rc55x1) a0c hR55x1 fun L x hx => (d2m N rc55x1 hR55x1 L).trans ((d2l N rc55x1 ..).trans (a2h _ _ hx))
def a9G (rc55x1 : a0p) (w4 : Bool) (w10 : LB) (k0 : Bool → Option R) : Option R :=
 bif w4 then
  bnd (c44 N w10) fun y0 =>
  bif y0.isSome then
   k0 (!(y0.getD default))
  else
   none
 else
  k0 false
def b59 (rc55x1 : a0p) (w4 : Bool) (w10 : LB) : Option (Bool) := a9G N rc55x1 w4 w10 (fun p => some p)
theorem c7s (rc55x1 : a0p) (w4 : Bool) (w10 : LB) (k0 : Bool → Option R) : a9G N rc55x1 w4 w10 k0 = (b59 N rc55x1 w4 w10).bind k0 := by
 unfold b59 a9G
 repeat' (first | with_reducible apply a0g | (with_reducible apply a0t; intro _) | rfl)
def c5b : Sh := { tmps := [(1, .c (.i .i64)), (2, .c (.p 2 0)), (5, .c (.b)), (6, .c (.b)), (7, .c (.b)), (8, .c (.b)), (9, .c (.b))], mem := [(2, .box (.i .i64 :: [.i .i64, .i .i64, .i .i64, .s, .sl 24]))] }
def c0j (L : List Lf) (p : Bool) : Ex × St := (.normal, mg (a0k c5b L) [1, 2, 5, 6, 7, 8, 9, 69] [(69, .c (.b p))] [2] [])
def e0n (rc55x1 : a0p) (L : List Lf) : List (Bool × (Ex × St)) := bnd (a9G N rc55x1 (lb L 4) (ls L 10) (fun p => some p)) fun q => [(q.isSome, c0j L (q.getD default))]
theorem d2n (rc55x1 : a0p) (hR55x1 : a0a Tryz.prog ((a2F N) rc55x1)) (L : List Lf) : pc Tryz.prog ((a2F N) rc55x1) ((d45 N) rc55x1 hR55x1).h 0 100 55 34 c5b L [1, 2, 5, 6, 7, 8, 9, 69] [2] = a9G N rc55x1 (lb L 4) (ls L 10) (fun p => some (c0j L p)) := by kernel_rfl
def d46 (rc55x1 : a0p) (hR55x1 : a0a Tryz.prog ((a2F N) rc55x1)) : Sg Tryz.prog 0 55 :=
 ((d45 N) rc55x1 hR55x1).cut ((e0n N) rc55x1) a0c hR55x1 fun L x hx => (d2n N rc55x1 hR55x1 L).trans ((c7s N rc55x1 ..).trans (a08 x hx))
def a9H (rc55x1 : a0p) (w5 : Bool) (w10 : LB) (k0 : Bool → Option R) : Option R :=
 bif w5 then
  bnd (d4Z N w10) fun y0 =>
  bif y0.isSome then
   k0 (!(y0.getD default))
  else
   none
 else
  k0 false
def b6a (rc55x1 : a0p) (w5 : Bool) (w10 : LB) : Option (Bool) := a9H N rc55x1 w5 w10 (fun p => some p)
theorem c7t (rc55x1 : a0p) (w5 : Bool) (w10 : LB) (k0 : Bool → Option R) : a9H N rc55x1 w5 w10 k0 = (b6a N rc55x1 w5 w10).bind k0 := by
 unfold b6a a9H
 repeat' (first | with_reducible apply a0g | (with_reducible apply a0t; intro _) | rfl)
def c5c : Sh := { tmps := [(1, .c (.i .i64)), (2, .c (.p 2 0)), (5, .c (.b)), (6, .c (.b)), (7, .c (.b)), (8, .c (.b)), (9, .c (.b))], mem := [(2, .box (.i .i64 :: [.i .i64, .i .i64, .i .i64, .s, .sl 24]))] }
def c0k (L : List Lf) (p : Bool) : Ex × St := (.normal, mg (a0k c5c L) [1, 2, 5, 6, 7, 8, 9, 77] [(77, .c (.b p))] [2] [])
def e0o (rc55x1 : a0p) (L : List Lf) : List (Bool × (Ex × St)) := bnd (a9H N rc55x1 (lb L 5) (ls L 10) (fun p => some p)) fun q => [(q.isSome, c0k L (q.getD default))]
theorem d2o (rc55x1 : a0p) (hR55x1 : a0a Tryz.prog ((a2F N) rc55x1)) (L : List Lf) : pc Tryz.prog ((a2F N) rc55x1) ((d46 N) rc55x1 hR55x1).h 0 100 55 40 c5c L [1, 2, 5, 6, 7, 8, 9, 77] [2] = a9H N rc55x1 (lb L 5) (ls L 10) (fun p => some (c0k L p)) := by kernel_rfl
def d47 (rc55x1 : a0p) (hR55x1 : a0a Tryz.prog ((a2F N) rc55x1)) : Sg Tryz.prog 0 55 :=
 ((d46 N) rc55x1 hR55x1).cut ((e0o N) rc55x1) a0c hR55x1 fun L x hx => (d2o N rc55x1 hR55x1 L).trans ((c7t N rc55x1 ..).trans (a08 x hx))
def a4j (N : Nat) (rc55x1 : a0p) (w1 w2 : Bool) (w9 : LD) (k0 : Bool → R) : R :=
 bif w2 then
  k0 true
 else
  k0 (bif (!w1) then (decide ((w9.length : Int) > 0)) else false)
def a7I (rc55x1 : a0p) (w1 w2 : Bool) (w9 : LD) : Bool := a4j N rc55x1 w1 w2 w9 (fun p => p)
theorem c10 (rc55x1 : a0p) (w1 w2 : Bool) (w9 : LD) (k0 : Bool → R) : a4j N rc55x1 w1 w2 w9 k0 = k0 (a7I N rc55x1 w1 w2 w9) := by
 unfold a7I a4j
 repeat' (first | rfl | apply a0n | (apply a0A; intro _))
def b46 : Sh := { tmps := [(1, .c (.i .i64)), (2, .c (.p 2 0)), (5, .c (.b)), (85, .c (.b))], mem := [(2, .box (.i .i64 :: [.i .i64, .i .i64, .i .i64, .s, .sl 24]))] }
def b16 (L : List Lf) (p : Bool) : Ex × St := (.normal, mg (a0k b46 L) [1, 2, 85] [(85, .c (.b p))] [2] [])
def c7u (rc55x1 : a0p) (L : List Lf) : List (Bool × (Ex × St)) := bnd (a4j N rc55x1 (lb L 1) (lb L 2) (ll L 9) (fun p => p)) fun q => [(true, b16 L q)]
theorem c11 (rc55x1 : a0p) (hR55x1 : a0a Tryz.prog ((a2F N) rc55x1)) (L : List Lf) : pc Tryz.prog ((a2F N) rc55x1) ((d47 N) rc55x1 hR55x1).h 0 100 55 54002 b46 L [1, 2, 85] [2] = a4j N rc55x1 (lb L 1) (lb L 2) (ll L 9) (fun p => some (b16 L p)) := by kernel_rfl
def d48 (rc55x1 : a0p) (hR55x1 : a0a Tryz.prog ((a2F N) rc55x1)) : Sg Tryz.prog 0 55 :=
 ((d47 N) rc55x1 hR55x1).cut ((c7u N) rc55x1) a0c hR55x1 fun L x hx => (c11 N rc55x1 hR55x1 L).trans ((c10 N rc55x1 ..).trans (a2h _ _ hx))
def a5A (rc55x1 : a0p) (w1 w2 w3 w4 : Bool) (w9 : LB) (w11 : LD) (k0 : Bool → R) : R :=
 bif w4 then
  k0 true
 else
  bnd (bif (bif (!w2) then (!w3) else false) then (!(w9 == ([] : List UInt8))) else false) fun y0 =>
  bnd (a7I N rc55x1 w1 y0 w11) fun y1 =>
  k0 y1
def a7J (rc55x1 : a0p) (w1 w2 w3 w4 : Bool) (w9 : LB) (w11 : LD) : Bool := a5A N rc55x1 w1 w2 w3 w4 w9 w11 (fun p => p)
theorem c12 (rc55x1 : a0p) (w1 w2 w3 w4 : Bool) (w9 : LB) (w11 : LD) (k0 : Bool → R) : a5A N rc55x1 w1 w2 w3 w4 w9 w11 k0 = k0 (a7J N rc55x1 w1 w2 w3 w4 w9 w11) := by
 unfold a7J a5A
 repeat' (first | rfl | apply a0n | (apply a0A; intro _))
def b8g (rc55x1 : a0p) (L : List Lf) (k0 : Bool → R) : R := a5A N rc55x1 (lb L 1) (lb L 2) (lb L 3) (lb L 4) (ls L 9) (ll L 11) k0
def b47 : Sh := { tmps := [(1, .c (.i .i64)), (2, .c (.p 2 0)), (5, .c (.b)), (8, .c (.b)), (9, .c (.b)), (85, .c (.b))], mem := [(2, .box (.i .i64 :: [.i .i64, .i .i64, .i .i64, .s, .sl 24]))] }
def b17 (L : List Lf) (p : Bool) : Ex × St := (.normal, mg (a0k b47 L) [1, 2, 85] [(85, .c (.b p))] [2] [])
def c7v (rc55x1 : a0p) (L : List Lf) : List (Bool × (Ex × St)) := bnd (b8g N rc55x1 L (fun p => p)) fun q => [(true, b17 L q)]
theorem c13 (rc55x1 : a0p) (hR55x1 : a0a Tryz.prog ((a2F N) rc55x1)) (L : List Lf) : pc Tryz.prog ((a2F N) rc55x1) ((d48 N) rc55x1 hR55x1).h 0 100 55 51002 b47 L [1, 2, 85] [2] = b8g N rc55x1 L (fun p => some (b17 L p)) := by kernel_rfl
def d49 (rc55x1 : a0p) (hR55x1 : a0a Tryz.prog ((a2F N) rc55x1)) : Sg Tryz.prog 0 55 :=
 ((d48 N) rc55x1 hR55x1).cut ((c7v N) rc55x1) a0c hR55x1 fun L x hx => (c13 N rc55x1 hR55x1 L).trans ((c12 N rc55x1 ..).trans (a2h _ _ hx))
def a5B (rc55x1 : a0p) (w1 w2 w3 w4 w5 w6 : Bool) (w9 : Int) (w11 : LB) (w13 : LD) (k0 : Bool → R) : R :=
 bif w6 then
  k0 true
 else
  bnd (bif (bif (!w2) then (!w3) else false) then (w9 != 0) else false) fun y0 =>
  bnd (a7J N rc55x1 w1 w4 w5 y0 w11 w13) fun y1 =>
  k0 y1
def a7K (rc55x1 : a0p) (w1 w2 w3 w4 w5 w6 : Bool) (w9 : Int) (w11 : LB) (w13 : LD) : Bool := a5B N rc55x1 w1 w2 w3 w4 w5 w6 w9 w11 w13 (fun p => p)
theorem c14 (rc55x1 : a0p) (w1 w2 w3 w4 w5 w6 : Bool) (w9 : Int) (w11 : LB) (w13 : LD) (k0 : Bool → R) : a5B N rc55x1 w1 w2 w3 w4 w5 w6 w9 w11 w13 k0 = k0 (a7K N rc55x1 w1 w2 w3 w4 w5 w6 w9 w11 w13) := by
 unfold a7K a5B
 repeat' (first | rfl | apply a0n | (apply a0A; intro _))
def b8h (rc55x1 : a0p) (L : List Lf) (k0 : Bool → R) : R := a5B N rc55x1 (lb L 1) (lb L 2) (lb L 3) (lb L 4) (lb L 5) (lb L 6) (li L 9) (ls L 11) (ll L 13) k0
def b48 : Sh := { tmps := [(1, .c (.i .i64)), (2, .c (.p 2 0)), (5, .c (.b)), (6, .c (.b)), (7, .c (.b)), (8, .c (.b)), (9, .c (.b)), (85, .c (.b))], mem := [(2, .box (.i .i64 :: [.i .i64, .i .i64, .i .i64, .s, .sl 24]))] }
def b18 (L : List Lf) (p : Bool) : Ex × St := (.normal, mg (a0k b48 L) [1, 2, 85] [(85, .c (.b p))] [2] [])
def c7w (rc55x1 : a0p) (L : List Lf) : List (Bool × (Ex × St)) := bnd (b8h N rc55x1 L (fun p => p)) fun q => [(true, b18 L q)]
theorem c15 (rc55x1 : a0p) (hR55x1 : a0a Tryz.prog ((a2F N) rc55x1)) (L : List Lf) : pc Tryz.prog ((a2F N) rc55x1) ((d49 N) rc55x1 hR55x1).h 0 100 55 48002 b48 L [1, 2, 85] [2] = b8h N rc55x1 L (fun p => some (b18 L p)) := by kernel_rfl
def d5a (rc55x1 : a0p) (hR55x1 : a0a Tryz.prog ((a2F N) rc55x1)) : Sg Tryz.prog 0 55 :=
 ((d49 N) rc55x1 hR55x1).cut ((c7w N) rc55x1) a0c hR55x1 fun L x hx => (c15 N rc55x1 hR55x1 L).trans ((c14 N rc55x1 ..).trans (a2h _ _ hx))
def a9I (N : Nat) (rc55x1 : a0p) (w0 : Int) (w2 : LD) (w3 : Int) (w4 : Int) (kr : Int → Option R) (k0 : Int → Option R) (k1 : Unit → Option R) : Option R :=
 bif (decide (w4 < w3)) then
  bif (inB w4 w2.length) then
   bnd (rc55x1 ((w2.getD w4.toNat (.i 0)).cell 0).toI ((w2.getD w4.toNat (.i 0)).cell 1).toI ((w2.getD w4.toNat (.i 0)).cell 2).toI ((w2.getD w4.toNat (.i 0)).cell 3).toI ((w2.getD w4.toNat (.i 0)).cell 4).toS ((w2.getD w4.toNat (.i 0)).cell 5).isNil ((w2.getD w4.toNat (.i 0)).cell 5).items (IntKind.wrap .i64 (w0 + 1))) fun y0 =>
   bif y0.isSome then
    bif ((y0.getD default) != 0) then
     k0 (y0.getD default)
    else
     kr (IntKind.wrap .i64 (w4 + 1))
   else
    none
  else
   none
 else
  k1 ()
def b6b (N : Nat) (rc55x1 : a0p) {R : Type} (w0 : Int) (w2 : LD) (w3 : Int) : Nat → Int → (Int → Option R) → (Unit → Option R) → Option R
 | 0, _, _, _ => none
 | m + 1, w4, k0, k1 => a9I N rc55x1 w0 w2 w3 w4 (fun w4 => b6b N rc55x1 w0 w2 w3 m w4 k0 k1) k0 k1
def a7L (rc55x1 : a0p) (w0 : Int) (w2 : LD) (w3 : Int) (w4 : Int) : Option (Sum (Int) (Unit)) := b6b N rc55x1 (R := (Sum (Int) (Unit))) w0 w2 w3 N w4 (fun p => some (.inl p)) (fun p => some (.inr p))
def b19 (rc55x1 : a0p) (L x : List Lf) (kr : List Lf → Option R) (k0 : Int → Option R) (k1 : Unit → Option R) : Option R := a9I N rc55x1 (li L 0) (ll L 2) (li L 3) (li x 0) (fun w4 => kr [.i w4]) k0 k1
theorem c5d (rc55x1 : a0p) (L x : List Lf) (kr : List Lf → Option R) (k0 : Int → Option R) (k1 : Unit → Option R) : b19 N rc55x1 L x kr k0 k1 = (b19 N rc55x1 L x (fun y => some (.inl y)) (fun p => some (.inr (.inl p))) (fun p => some (.inr (.inr p)))).bind (a09 kr (a09 k0 k1)) := by
 unfold b19 a9I
 repeat' (first | with_reducible apply a0g | (with_reducible apply a0t; intro _) | rfl)
def b6c (rc55x1 : a0p) (L : List Lf) (m : Nat) (x : List Lf) : Option (Sum (Int) (Unit)) := b6b N rc55x1 (R := (Sum (Int) (Unit))) (li L 0) (ll L 2) (li L 3) m (li x 0) (fun p => some (.inl p)) (fun p => some (.inr p))
def b2a : Sh := { tmps := [(1, .c (.i .i64)), (142, .c (.sl 24)), (143, .c (.i .i64)), (144, .c (.i .i64))], mem := [] }
def e0p (rc55x1 : a0p) (L : List Lf) : List (Bool × (Ex × St)) := bnd (b6c N rc55x1 L N (pk b2a [4] L)) fun q => [((a0T q), (.ret, ⟨[(4, .c (.i .i64 (a0H q)))], []⟩)), ((a0l q).isSome, ((.exit 1), ⟨[], []⟩))]
theorem c7x (rc55x1 : a0p) (hR55x1 : a0a Tryz.prog ((a2F N) rc55x1)) (m : Nat) (kn : St → Option (Ex × St)) (L x : List Lf) : lpB Tryz.prog ((a2F N) rc55x1) ((d5a N) rc55x1 hR55x1).h 0 55 75 b2a [4] [4] [] (m + 100) kn L x = b19 N rc55x1 L x (fun y => kn (a0k b2a (mx b2a [4] L y))) (fun p => some (.ret, ⟨[(4, .c (.i .i64 p))], []⟩)) (fun _ => some ((.exit 1), ⟨[], []⟩)) := by kernel_rfl
theorem d5b (rc55x1 : a0p) (L : List Lf) (m : Nat) (x : List Lf) : b6c N rc55x1 L (m + 1) x = b19 N rc55x1 L x (b6c N rc55x1 L m) (fun p => some (.inl p)) (fun p => some (.inr p)) := by kernel_rfl
def c9Q (rc55x1 : a0p) (hR55x1 : a0a Tryz.prog ((a2F N) rc55x1)) : Sg Tryz.prog 0 55 :=
 ((d5a N) rc55x1 hR55x1).lp ((e0p N) rc55x1) N a0c hR55x1 (fun m kn L x => (c7x N rc55x1 hR55x1 m kn L x).trans (c5d N rc55x1 L x _ _ _)) (fun L m x => (d5b N rc55x1 L m x).trans (c5d N rc55x1 L x (b6c N rc55x1 L m) (fun p => some (.inl p)) (fun p => some (.inr p)))) fun L x hx => (a34 a08) x hx
def d5c (rc55x1 : a0p) (v0 v1 v2 v3 : Int) (v4 : LB) (v5 : Bool) (v6 : LD) (v7 : Int) (k0 : Int → Option R) : Option R :=
 bnd (a6b N v0 1 3) fun y0 =>
 bnd (a6b N v0 1 7) fun y1 =>
 bif (!y1) then
  k0 7
 else
  bnd (b56 N rc55x1 (v0 == 7) v1) fun y2 =>
  bnd (a7H N rc55x1 (v0 == 4) y2 v2) fun y3 =>
  bif y3 then
   k0 7
  else
   bnd (b58 N rc55x1 (v0 == 7) v2 v3) fun y4 =>
   bif y4 then
    k0 9
   else
    bnd (b59 N rc55x1 (v0 == 5) v4) fun y5 =>
    bif y5.isSome then
     bif (y5.getD default) then
      k0 8
     else
      bnd (b6a N rc55x1 (v0 == 6) v4) fun y6 =>
      bif y6.isSome then
       bif (y6.getD default) then
        k0 2
       else
        bnd (bif (!(v0 == 7)) then (bif (v1 != 0) then true else (v3 != 0)) else false) fun y7 =>
        bnd (a7K N rc55x1 y0 (v0 == 7) (v0 == 4) (v0 == 5) (v0 == 6) y7 v2 v4 v6) fun y8 =>
        bif y8 then
         k0 2
        else
         bif (bif (v0 == 3) then ((v6.length : Int) != 1) else false) then
          k0 2
         else
          bif (decide (v7 > 20)) then
           k0 3
          else
           bnd (a7L N rc55x1 v7 v6 (v6.length : Int) 0) fun y9 =>
           bif (a0T y9) then
            k0 (a0H y9)
           else
            bif (a0l y9).isSome then
             k0 0
            else
             none
      else
       none
    else
     none
def c7y (rc55x1 : a0p) (v0 v1 v2 v3 : Int) (v4 : LB) (v5 : Bool) (v6 : LD) (v7 : Int) : Option (Int) := d5c N rc55x1 v0 v1 v2 v3 v4 v5 v6 v7 (fun p => some p)
theorem e0q (rc55x1 : a0p) (v0 v1 v2 v3 : Int) (v4 : LB) (v5 : Bool) (v6 : LD) (v7 : Int) (k0 : Int → Option R) : d5c N rc55x1 v0 v1 v2 v3 v4 v5 v6 v7 k0 = (c7y N rc55x1 v0 v1 v2 v3 v4 v5 v6 v7).bind k0 := by
 unfold c7y d5c
 repeat' (first | with_reducible apply a0g | (with_reducible apply a0t; intro _) | rfl)
def f3n (rc55x1 : a0p) (L : List Lf) (k0 : Int → Option R) : Option R := d5c N rc55x1 (li L 0) (li L 1) (li L 2) (li L 3) (ls L 4) (lb L 5) (ll L 6) (li L 7) k0
theorem e5j (rc55x1 : a0p) (hR55x1 : a0a Tryz.prog ((a2F N) rc55x1)) (L : List Lf) : bd Tryz.prog ((a2F N) rc55x1) ((c9Q N) rc55x1 hR55x1).h 55 c9P L = f3n N rc55x1 L (fun p => some ([.c (.i .i64 p)], [])) := by kernel_rfl
theorem e5k (rc55x1 : a0p) (hR55x1 : a0a Tryz.prog ((a2F N) rc55x1)) (L : List Lf) (x : Res) (hx : a4Z ((e8X N) (fun v0 v1 v2 v3 v4 v5 v6 v7 => c7y N rc55x1 v0 v1 v2 v3 v4 v5 v6 v7) L) some = some x) : a1u Tryz.prog 55 (a5z (a0k c9P L).tmps) (a0k c9P L).mem x :=
 a3c (n := 200) a0c hR55x1 ((c9Q N) rc55x1 hR55x1).ok rfl ((e5j N rc55x1 hR55x1 L).trans ((e0q N rc55x1 ..).trans (a08 x hx)))
def b9i (N : Nat) : Nat → a0p
 | 0 => fun _ _ _ _ _ _ _ _ => none
 | m + 1 => fun v0 v1 v2 v3 v4 v5 v6 v7 => c7y N (b9i N m) v0 v1 v2 v3 v4 v5 v6 v7
theorem d5d (N : Nat) : ∀ m, a0a Tryz.prog ((a2F N) (b9i N m))
 | 0 => a0M (c9O N) (AM.enters_of (by kernel_rfl)) (a04 fun L x hx => by
  have h : (none : Option Res) = some x := hx
  cases h)
 | m + 1 => a0M (c9O N) (AM.enters_of (by kernel_rfl)) (a04 fun L x hx => e5k N (b9i N m) (d5d N m) L x hx)
def e5l : a0d := (a2F N) (b9i N N)
theorem c9R : a0a Tryz.prog (e5l N) := d5d N N
def e80 : List (Nat × List Nat) := [(0, [0]), (1, [1]), (2, []), (3, [1])]
def e81 : a0C := []
def d5e (N : Nat) : Sg Tryz.prog 0 27 := .start e81 e80
def d5f (v0 v1 v2 v3 : Int) (v4 : LB) (v5 : Bool) (v6 : LD) (k0 : Int → Option R) : Option R :=
 bnd (b9h N N v0 v1 v2 v3 v4 v5 v6) fun y0 =>
 bif y0.isSome then
  bif (decide ((y0.getD default) > 100)) then
   k0 3
  else
   bnd (b9i N N v0 v1 v2 v3 v4 v5 v6 0) fun y1 =>
   bif y1.isSome then
    k0 (y1.getD default)
   else
    none
 else
  none
def d5g (v0 v1 v2 v3 : Int) (v4 : LB) (v5 : Bool) (v6 : LD) : Option (Int) := d5f N v0 v1 v2 v3 v4 v5 v6 (fun p => some p)
theorem e0r (v0 v1 v2 v3 : Int) (v4 : LB) (v5 : Bool) (v6 : LD) (k0 : Int → Option R) : d5f N v0 v1 v2 v3 v4 v5 v6 k0 = (d5g N v0 v1 v2 v3 v4 v5 v6).bind k0 := by
 unfold d5g d5f
 repeat' (first | with_reducible apply a0g | (with_reducible apply a0t; intro _) | rfl)
def e82 (L : List Lf) (k0 : Int → Option R) : Option R := d5f N (li L 0) (li L 1) (li L 2) (li L 3) (ls L 4) (lb L 5) (ll L 6) k0
def d5h : Sh := { tmps := [(0, .g (.i .i64 :: [.i .i64, .i .i64, .i .i64, .s, .sl 24]))], mem := [] }
def e83 (L : List Lf) : List (Bool × Res) := bnd (e82 N L (fun p => some p)) fun q => [(q.isSome, ([.c (.i .i64 (q.getD default))], []))]
theorem e5m (L : List Lf) : bd Tryz.prog (e5l N) (d5e N).h 27 d5h L = e82 N L (fun p => some ([.c (.i .i64 p)], [])) := by kernel_rfl
theorem e84 : a0L Tryz.prog 27 d5h (e83 N) :=
 (d5e N).fn a0c (c9R N) fun L x hx => ((e5m N L).trans ((e0r N ..).trans (a08 x hx)))
def e0s : a0d := ext 27 (a2l d5h (e83 N)) (e5l N)
theorem c16 : a0a Tryz.prog (e0s N) := a0L.to (e84 N) (c9R N)
def e85 : List (Nat × List Nat) := [(0, [0]), (1, [1]), (3, [1]), (4, []), (2, []), (5, [1]), (6, [3, 1]), (7, [3]), (8, [1]), (9, [4, 1]), (11, [1]), (12, []), (10, []), (13, [])]
def e86 : a0C := [(28, [1, 4], [1], [])]
def d5i (N : Nat) : Sg Tryz.prog 0 19 := .start e86 e85
def a9J (w0 : Bool) (w3 : Int) (k0 : Bool → R) : R :=
 bif w0 then
  bnd (d2e N w3) fun y0 =>
  bnd (bif (!y0) then true else (bif (!w0) then (w3 != 0) else false)) fun y1 =>
  k0 y1
 else
  k0 (bif (!w0) then (w3 != 0) else false)
def b2b (w0 : Bool) (w3 : Int) : Bool := a9J N w0 w3 (fun p => p)
theorem d2p (w0 : Bool) (w3 : Int) (k0 : Bool → R) : a9J N w0 w3 k0 = k0 (b2b N w0 w3) := by
 unfold b2b a9J
 repeat' (first | rfl | apply a0n | (apply a0A; intro _))
def c5e : Sh := { tmps := [(1, .c (.p 1 0)), (4, .c (.b))], mem := [(1, .box (.s :: rI 7 ([.s, .sl 24])))] }
def c0l (L : List Lf) (p : Bool) : Ex × St := (.normal, mg (a0k c5e L) [1, 29] [(29, .c (.b p))] [1] [])
def e0t (L : List Lf) : List (Bool × (Ex × St)) := bnd (a9J N (lb L 0) (li L 3) (fun p => p)) fun q => [(true, c0l L q)]
theorem d2q (L : List Lf) : pc Tryz.prog (e0s N) (d5i N).h 0 100 19 28 c5e L [1, 29] [1] = a9J N (lb L 0) (li L 3) (fun p => some (c0l L p)) := by kernel_rfl
def d5j : Sg Tryz.prog 0 19 :=
 (d5i N).cut (e0t N) a0c (c16 N) fun L x hx => (d2q N L).trans ((d2p N ..).trans (a2h _ _ hx))
def d5k (v0 : LB) (v1 v2 v3 v4 v5 v6 v7 : Int) (v8 : LB) (v9 : Bool) (v10 : LD) (k0 : Int → Option R) : Option R :=
 bnd (c44 N v0) fun y0 =>
 bif y0.isSome then
  bif (!(y0.getD default)) then
   k0 8
  else
   bnd (a6b N v1 1 4) fun y1 =>
   bif (!y1) then
    k0 7
   else
    bnd (d5g N v4 v5 v6 v7 v8 v9 v10) fun y2 =>
    bif y2.isSome then
     bif ((y2.getD default) != 0) then
      k0 (y2.getD default)
     else
      bnd (b2b N (bif (v1 == 2) then true else (v1 == 3)) v2) fun y3 =>
      bif y3 then
       k0 7
      else
       bnd (a6b N v3 1 10000000000000) fun y4 =>
       bif (!y4) then
        k0 9
       else
        k0 0
    else
     none
 else
  none
def d2r (v0 : LB) (v1 v2 v3 v4 v5 v6 v7 : Int) (v8 : LB) (v9 : Bool) (v10 : LD) : Option (Int) := d5k N v0 v1 v2 v3 v4 v5 v6 v7 v8 v9 v10 (fun p => some p)
theorem e0u (v0 : LB) (v1 v2 v3 v4 v5 v6 v7 : Int) (v8 : LB) (v9 : Bool) (v10 : LD) (k0 : Int → Option R) : d5k N v0 v1 v2 v3 v4 v5 v6 v7 v8 v9 v10 k0 = (d2r N v0 v1 v2 v3 v4 v5 v6 v7 v8 v9 v10).bind k0 := by
 unfold d2r d5k
 repeat' (first | with_reducible apply a0g | (with_reducible apply a0t; intro _) | rfl)
def e87 (L : List Lf) (k0 : Int → Option R) : Option R := d5k N (ls L 0) (li L 1) (li L 2) (li L 3) (li L 4) (li L 5) (li L 6) (li L 7) (ls L 8) (lb L 9) (ll L 10) k0
def d5l : Sh := { tmps := [(0, .g (.s :: rI 7 ([.s, .sl 24])))], mem := [] }
def e88 (L : List Lf) : List (Bool × Res) := bnd (e87 N L (fun p => some p)) fun q => [(q.isSome, ([.c (.i .i64 (q.getD default))], []))]
theorem e5n (L : List Lf) : bd Tryz.prog (e0s N) (d5j N).h 19 d5l L = e87 N L (fun p => some ([.c (.i .i64 p)], [])) := by kernel_rfl
theorem e89 : a0L Tryz.prog 19 d5l (e88 N) :=
 (d5j N).fn a0c (c16 N) fun L x hx => ((e5n N L).trans ((e0u N ..).trans (a08 x hx)))
def e5o : a0d := ext 19 (a2l d5l (e88 N)) (e0s N)
theorem c9S : a0a Tryz.prog (e5o N) := a0L.to (e89 N) (c16 N)
def e9a : List (Nat × List Nat) := [(0, [0, 1]), (1, [2, 1])]
def e9b : a0C := []
def d5m (N : Nat) : Sg Tryz.prog 1 63 := .start e9b e9a
def d2s (N : Nat) (v0 v11 : LB) (k0 : Bool → R) : R :=
 k0 (v0 == v11)
def e0v (v0 v11 : LB) : Bool := d2s N v0 v11 (fun p => p)
theorem e5p (v0 v11 : LB) (k0 : Bool → R) : d2s N v0 v11 k0 = k0 (e0v N v0 v11) := by
 unfold e0v d2s
 repeat' (first | rfl | apply a0n | (apply a0A; intro _))
def c5f : Sh := { tmps := [(0, .g (.s :: rI 7 ([.s, .sl 24]))), (1, .c (.p 0 0))], mem := [(0, .box (.s :: rI 7 ([.s, .sl 24])))] }
def e9c (L : List Lf) : List (Bool × Res) := bnd (d2s N (ls L 0) (ls L 11) (fun p => p)) fun q => [(true, ([.c (.b q)], mgA (a0k c5f L).mem [] [0]))]
theorem e5q (L : List Lf) : bd Tryz.prog (e5o N) (d5m N).h 63 c5f L = d2s N (ls L 0) (ls L 11) (fun p => some ([.c (.b p)], mgA (a0k c5f L).mem [] [0])) := by kernel_rfl
theorem e9d : a0L Tryz.prog 63 c5f (e9c N) :=
 (d5m N).fn a0c (c9S N) fun L x hx => ((e5q N L).trans ((e5p N ..).trans (a2h _ _ hx)))
def e0w : a0d := ext 63 (a2l c5f (e9c N)) (e5o N)
theorem c17 : a0a Tryz.prog (e0w N) := a0L.to (e9d N) (c9S N)
def e5r : List (Nat × List Nat) := [(0, [0, 1]), (1, [0, 1]), (2, [8, 7, 1, 0]), (3, [8, 1, 0, 7]), (4, [1, 0, 5, 8, 7]), (5, [5]), (6, [8, 7, 1, 0]), (7, [])]
def e5s : a0C := [(6, [0, 1, 7, 8], [0], [])]
def c9T (N : Nat) : Sg Tryz.prog 1 100 := .start e5s e5r
def a9K (w1 : LD) (w2 : Int) (w4 : LB) (w3 : Int) (kr : Int → Option R) (k0 : Int → Option R) (k1 : Unit → Option R) : Option R :=
 bif (decide (w3 < w2)) then
  bif (inB w3 w1.length) then
   bnd (e0v N ((w1.getD w3.toNat (.i 0)).cell 0).toS w4) fun y0 =>
   bif y0 then
    k0 w3
   else
    kr (IntKind.wrap .i64 (w3 + 1))
  else
   none
 else
  k1 ()
def b6d (N : Nat) {R : Type} (w1 : LD) (w2 : Int) (w4 : LB) : Nat → Int → (Int → Option R) → (Unit → Option R) → Option R
 | 0, _, _, _ => none
 | m + 1, w3, k0, k1 => a9K N w1 w2 w4 w3 (fun w3 => b6d N w1 w2 w4 m w3 k0 k1) k0 k1
def c18 (w1 : LD) (w2 : Int) (w4 : LB) (w3 : Int) : Option (Sum (Int) (Unit)) := b6d N (R := (Sum (Int) (Unit))) w1 w2 w4 N w3 (fun p => some (.inl p)) (fun p => some (.inr p))
def b2c (L x : List Lf) (kr : List Lf → Option R) (k0 : Int → Option R) (k1 : Unit → Option R) : Option R := a9K N (ll L 1) (li L 2) (ls L 4) (li x 0) (fun w3 => kr [.i w3]) k0 k1
theorem c5g (L x : List Lf) (kr : List Lf → Option R) (k0 : Int → Option R) (k1 : Unit → Option R) : b2c N L x kr k0 k1 = (b2c N L x (fun y => some (.inl y)) (fun p => some (.inr (.inl p))) (fun p => some (.inr (.inr p)))).bind (a09 kr (a09 k0 k1)) := by
 unfold b2c a9K
 repeat' (first | with_reducible apply a0g | (with_reducible apply a0t; intro _) | rfl)
def b6e (L : List Lf) (m : Nat) (x : List Lf) : Option (Sum (Int) (Unit)) := b6d N (R := (Sum (Int) (Unit))) (ll L 1) (li L 2) (ls L 4) m (li x 0) (fun p => some (.inl p)) (fun p => some (.inr p))
def a5C : Sh := { tmps := [(0, .c (.sl 52)), (1, .c (.f 63 [(0, 0)])), (7, .c (.i .i64)), (8, .c (.i .i64))], mem := [(0, .box (.s :: rI 7 ([.s, .sl 24])))] }
def c0m (L : List Lf) (p : Int) : Ex × St := (.ret, mg (a0k a5C L) [4] [(4, .c (.i .i64 p))] [0] [])
def e0x (L : List Lf) : List (Bool × (Ex × St)) := bnd (b6e N L N (pk a5C [3] L)) fun q => [((a0T q), c0m L (a0H q)), ((a0l q).isSome, ((.exit 0), mg (a0k a5C L) [] [] [0] []))]
theorem c7z (m : Nat) (kn : St → Option (Ex × St)) (L x : List Lf) : lpB Tryz.prog (e0w N) (c9T N).h 1 100 6 a5C [3] [4] [0] (m + 100) kn L x = b2c N L x (fun y => kn (a0k a5C (mx a5C [3] L y))) (fun p => some (c0m L p)) (fun _ => some ((.exit 0), mg (a0k a5C L) [] [] [0] [])) := by kernel_rfl
theorem d5n (L : List Lf) (m : Nat) (x : List Lf) : b6e N L (m + 1) x = b2c N L x (b6e N L m) (fun p => some (.inl p)) (fun p => some (.inr p)) := by kernel_rfl
def c9U : Sg Tryz.prog 1 100 :=
 (c9T N).lp (e0x N) N a0c (c17 N) (fun m kn L x => (c7z N m kn L x).trans (c5g N L x _ _ _)) (fun L m x => (d5n N L m x).trans (c5g N L x (b6e N L m) (fun p => some (.inl p)) (fun p => some (.inr p)))) fun L x hx => (a34 a08) x hx
def c0n (v1 : LD) (v2 : LB) (k0 : Int → Option R) : Option R :=
 bnd (c18 N v1 (v1.length : Int) v2 0) fun y0 =>
 bif (a0T y0) then
  k0 (a0H y0)
 else
  bif (a0l y0).isSome then
   k0 (-1)
  else
   none
def c9V (v1 : LD) (v2 : LB) : Option (Int) := c0n N v1 v2 (fun p => some p)
theorem d5o (v1 : LD) (v2 : LB) (k0 : Int → Option R) : c0n N v1 v2 k0 = (c9V N v1 v2).bind k0 := by
 unfold c9V c0n
 repeat' (first | with_reducible apply a0g | (with_reducible apply a0t; intro _) | rfl)
def b8i : Sh := { tmps := [(0, .c (.sl 52)), (1, .c (.f 63 [(0, 0)]))], mem := [(0, .box (.s :: rI 7 ([.s, .sl 24])))] }
def e3k (L : List Lf) : List (Bool × Res) := bnd (c0n N (ll L 1) (ls L 2) (fun p => some p)) fun q => [(q.isSome, ([.c (.i .i64 (q.getD default))], mgA (a0k b8i L).mem [] [0]))]
theorem e0y (L : List Lf) : bd Tryz.prog (e0w N) (c9U N).h 100 b8i L = c0n N (ll L 1) (ls L 2) (fun p => some ([.c (.i .i64 p)], mgA (a0k b8i L).mem [] [0])) := by kernel_rfl
theorem e5t : a0L Tryz.prog 100 b8i (e3k N) :=
 (c9U N).fn a0c (c17 N) fun L x hx => ((e0y N L).trans ((d5o N ..).trans (a08 x hx)))
def d5p : a0d := ext 100 (a2l b8i (e3k N)) (e0w N)
theorem c5h : a0a Tryz.prog (d5p N) := a0L.to (e5t N) (c17 N)
def e9e : List (Nat × List Nat) := [(0, [0, 1]), (1, [0, 1])]
def e9f : a0C := []
def d5q (N : Nat) : Sg Tryz.prog 1 62 := .start e9f e9e
def d2t (v1 : LD) (v2 : LB) (k0 : Bool → Option R) : Option R :=
 bnd (c9V N v1 v2) fun y0 =>
 bif y0.isSome then
  k0 (decide ((y0.getD default) ≥ 0))
 else
  none
def d5r (v1 : LD) (v2 : LB) : Option (Bool) := d2t N v1 v2 (fun p => some p)
theorem e0z (v1 : LD) (v2 : LB) (k0 : Bool → Option R) : d2t N v1 v2 k0 = (d5r N v1 v2).bind k0 := by
 unfold d5r d2t
 repeat' (first | with_reducible apply a0g | (with_reducible apply a0t; intro _) | rfl)
def c5i : Sh := { tmps := [(0, .c (.sl 52)), (1, .c (.f 63 [(0, 0)]))], mem := [(0, .box (.s :: rI 7 ([.s, .sl 24])))] }
def e9g (L : List Lf) : List (Bool × Res) := bnd (d2t N (ll L 1) (ls L 2) (fun p => some p)) fun q => [(q.isSome, ([.c (.b (q.getD default))], mgA (a0k c5i L).mem [] [0]))]
theorem e5u (L : List Lf) : bd Tryz.prog (d5p N) (d5q N).h 62 c5i L = d2t N (ll L 1) (ls L 2) (fun p => some ([.c (.b p)], mgA (a0k c5i L).mem [] [0])) := by kernel_rfl
theorem e9h : a0L Tryz.prog 62 c5i (e9g N) :=
 (d5q N).fn a0c (c5h N) fun L x hx => ((e5u N L).trans ((e0z N ..).trans (a08 x hx)))
def e0A : a0d := ext 62 (a2l c5i (e9g N)) (d5p N)
theorem c19 : a0a Tryz.prog (e0A N) := a0L.to (e9h N) (c5h N)
def e9i : List (Nat × List Nat) := [(0, [0]), (1, [0]), (2, []), (3, [0]), (4, [11, 10, 9, 0]), (5, [11, 9, 0, 10]), (6, [4, 0, 3, 11, 10, 9]), (7, [5, 0, 3, 4, 11, 10, 9]), (8, [5]), (9, [0, 3, 4, 11, 10, 9]), (10, []), (11, [11, 10, 9, 0]), (12, [])]
def e9j : a0C := [(12, [0, 9, 10, 11], [], [])]
def d5s (N : Nat) : Sg Tryz.prog 0 35 := .start e9j e9i
def a9L (w1 w3 : LD) (w4 : Int) (w5 : Int) (kr : Int → Option R) (k0 : Int → Option R) (k1 : Unit → Option R) : Option R :=
 bif (decide (w5 < w4)) then
  bif (inB w5 w3.length) then
   bnd (d2r N ((w3.getD w5.toNat (.i 0)).cell 0).toS ((w3.getD w5.toNat (.i 0)).cell 1).toI ((w3.getD w5.toNat (.i 0)).cell 2).toI ((w3.getD w5.toNat (.i 0)).cell 3).toI ((w3.getD w5.toNat (.i 0)).cell 4).toI ((w3.getD w5.toNat (.i 0)).cell 5).toI ((w3.getD w5.toNat (.i 0)).cell 6).toI ((w3.getD w5.toNat (.i 0)).cell 7).toI ((w3.getD w5.toNat (.i 0)).cell 8).toS ((w3.getD w5.toNat (.i 0)).cell 9).isNil ((w3.getD w5.toNat (.i 0)).cell 9).items) fun y0 =>
   bif y0.isSome then
    bif ((y0.getD default) != 0) then
     k0 (y0.getD default)
    else
     bif ((decide (0 ≤ w5)) && (decide (w5 ≤ (w1.length : Int)))) then
      bnd (d5r N ((w1.take w5.toNat).drop 0) ((w3.getD w5.toNat (.i 0)).cell 0).toS) fun y1 =>
      bif y1.isSome then
       bif (y1.getD default) then
        k0 5
       else
        kr (IntKind.wrap .i64 (w5 + 1))
      else
       none
     else
      none
   else
    none
  else
   none
 else
  k1 ()
def b6f (N : Nat) {R : Type} (w1 w3 : LD) (w4 : Int) : Nat → Int → (Int → Option R) → (Unit → Option R) → Option R
 | 0, _, _, _ => none
 | m + 1, w5, k0, k1 => a9L N w1 w3 w4 w5 (fun w5 => b6f N w1 w3 w4 m w5 k0 k1) k0 k1
def c2a (w1 w3 : LD) (w4 : Int) (w5 : Int) : Option (Sum (Int) (Unit)) := b6f N (R := (Sum (Int) (Unit))) w1 w3 w4 N w5 (fun p => some (.inl p)) (fun p => some (.inr p))
def b2d (L x : List Lf) (kr : List Lf → Option R) (k0 : Int → Option R) (k1 : Unit → Option R) : Option R := a9L N (ll L 1) (ll L 3) (li L 4) (li x 0) (fun w5 => kr [.i w5]) k0 k1
theorem c5j (L x : List Lf) (kr : List Lf → Option R) (k0 : Int → Option R) (k1 : Unit → Option R) : b2d N L x kr k0 k1 = (b2d N L x (fun y => some (.inl y)) (fun p => some (.inr (.inl p))) (fun p => some (.inr (.inr p)))).bind (a09 kr (a09 k0 k1)) := by
 unfold b2d a9L
 repeat' (first | with_reducible apply a0g | (with_reducible apply a0t; intro _) | rfl)
def b6g (L : List Lf) (m : Nat) (x : List Lf) : Option (Sum (Int) (Unit)) := b6f N (R := (Sum (Int) (Unit))) (ll L 1) (ll L 3) (li L 4) m (li x 0) (fun p => some (.inl p)) (fun p => some (.inr p))
def b2e : Sh := { tmps := [(0, .c (.sl 52)), (9, .c (.sl 52)), (10, .c (.i .i64)), (11, .c (.i .i64))], mem := [] }
def e0B (L : List Lf) : List (Bool × (Ex × St)) := bnd (b6g N L N (pk b2e [5] L)) fun q => [((a0T q), (.ret, ⟨[(2, .c (.i .i64 (a0H q)))], []⟩)), ((a0l q).isSome, ((.exit 0), ⟨[], []⟩))]
theorem c7A (m : Nat) (kn : St → Option (Ex × St)) (L x : List Lf) : lpB Tryz.prog (e0A N) (d5s N).h 0 35 12 b2e [5] [2] [] (m + 100) kn L x = b2d N L x (fun y => kn (a0k b2e (mx b2e [5] L y))) (fun p => some (.ret, ⟨[(2, .c (.i .i64 p))], []⟩)) (fun _ => some ((.exit 0), ⟨[], []⟩)) := by kernel_rfl
theorem d5t (L : List Lf) (m : Nat) (x : List Lf) : b6g N L (m + 1) x = b2d N L x (b6g N L m) (fun p => some (.inl p)) (fun p => some (.inr p)) := by kernel_rfl
def d5u : Sg Tryz.prog 0 35 :=
 (d5s N).lp (e0B N) N a0c (c19 N) (fun m kn L x => (c7A N m kn L x).trans (c5j N L x _ _ _)) (fun L m x => (d5t N L m x).trans (c5j N L x (b6g N L m) (fun p => some (.inl p)) (fun p => some (.inr p)))) fun L x hx => (a34 a08) x hx
def d2u (v1 : LD) (k0 : Int → Option R) : Option R :=
 bif (decide ((v1.length : Int) > 50)) then
  k0 3
 else
  bnd (c2a N v1 v1 (v1.length : Int) 0) fun y0 =>
  bif (a0T y0) then
   k0 (a0H y0)
  else
   bif (a0l y0).isSome then
    k0 0
   else
    none
def d5v (v1 : LD) : Option (Int) := d2u N v1 (fun p => some p)
theorem e0C (v1 : LD) (k0 : Int → Option R) : d2u N v1 k0 = (d5v N v1).bind k0 := by
 unfold d5v d2u
 repeat' (first | with_reducible apply a0g | (with_reducible apply a0t; intro _) | rfl)
def d5w : Sh := { tmps := [(0, .c (.sl 52))], mem := [] }
def e9k (L : List Lf) : List (Bool × Res) := bnd (d2u N (ll L 1) (fun p => some p)) fun q => [(q.isSome, ([.c (.i .i64 (q.getD default))], []))]
theorem e5v (L : List Lf) : bd Tryz.prog (e0A N) (d5u N).h 35 d5w L = d2u N (ll L 1) (fun p => some ([.c (.i .i64 p)], [])) := by kernel_rfl
theorem e9l : a0L Tryz.prog 35 d5w (e9k N) :=
 (d5u N).fn a0c (c19 N) fun L x hx => ((e5v N L).trans ((e0C N ..).trans (a08 x hx)))
def d5x : a0d := ext 35 (a2l d5w (e9k N)) (e0A N)
theorem b6h : a0a Tryz.prog (d5x N) := a0L.to (e9l N) (c19 N)
def e9m : List (Nat × List Nat) := [(0, [0]), (1, [1]), (3, [1]), (5, [1]), (6, []), (4, []), (2, []), (7, [1]), (8, [32, 31, 30, 1]), (9, [30, 32, 31, 1]), (10, [4, 32, 31, 30, 1]), (11, []), (12, [32, 31, 30, 1]), (13, [1]), (14, []), (15, [1]), (16, [47, 46, 45, 1]), (17, [47, 45, 1, 46]), (18, [6, 5, 1, 47, 46, 45]), (20, [5, 6, 1, 47, 46, 45]), (21, []), (19, []), (22, [47, 46, 45, 1]), (23, [])]
def e9n : a0C := [(24, [1, 30, 31, 32], [1, 30], []), (48, [1, 45, 46, 47], [1], [])]
def d5y (N : Nat) : Sg Tryz.prog 0 41 := .start e9n e9m
def b6i (w0 : Int) (w12 : LD) (w1 : Int) (kr : Int → Option R) (k0 : Unit → Option R) (k1 : Unit → Option R) : Option R :=
 bif (decide (w1 < w0)) then
  bif (inB w1 w12.length) then
   bif (decide (w1.toNat < w12.length)) then
    bnd (a6b N (w12.getD w1.toNat (.i 0)).toI 0 10000000000000) fun y0 =>
    bif (!y0) then
     k0 ()
    else
     kr (IntKind.wrap .i64 (w1 + 1))
   else
    none
  else
   none
 else
  k1 ()
def b2f (N : Nat) {R : Type} (w0 : Int) (w12 : LD) : Nat → Int → (Unit → Option R) → (Unit → Option R) → Option R
 | 0, _, _, _ => none
 | m + 1, w1, k0, k1 => b6i N w0 w12 w1 (fun w1 => b2f N w0 w12 m w1 k0 k1) k0 k1
def c2b (w0 : Int) (w12 : LD) (w1 : Int) : Option (Sum (Unit) (Unit)) := b2f N (R := (Sum (Unit) (Unit))) w0 w12 N w1 (fun p => some (.inl p)) (fun p => some (.inr p))
def b2g (L x : List Lf) (kr : List Lf → Option R) (k0 : Unit → Option R) (k1 : Unit → Option R) : Option R := b6i N (li L 0) (ll L 12) (li x 0) (fun w1 => kr [.i w1]) k0 k1
theorem c5k (L x : List Lf) (kr : List Lf → Option R) (k0 : Unit → Option R) (k1 : Unit → Option R) : b2g N L x kr k0 k1 = (b2g N L x (fun y => some (.inl y)) (fun p => some (.inr (.inl p))) (fun p => some (.inr (.inr p)))).bind (a09 kr (a09 k0 k1)) := by
 unfold b2g b6i
 repeat' (first | with_reducible apply a0g | (with_reducible apply a0t; intro _) | rfl)
def b6j (L : List Lf) (m : Nat) (x : List Lf) : Option (Sum (Unit) (Unit)) := b2f N (R := (Sum (Unit) (Unit))) (li L 0) (ll L 12) m (li x 0) (fun p => some (.inl p)) (fun p => some (.inr p))
def a5D : Sh := { tmps := [(1, .c (.p 1 0)), (30, .c (.o 30)), (31, .c (.i .i64)), (32, .c (.i .i64))], mem := [(1, .box (.s :: rI 6 ([.sl 9]))), (30, .row 3 true)] }
def c0o (L : List Lf) (_ : Unit) : Ex × St := (.ret, mg (a0k a5D L) [2] [(2, .c (.i .i64 9))] [1] [])
def e0D (L : List Lf) : List (Bool × (Ex × St)) := bnd (b6j N L N (pk a5D [1] L)) fun q => [((a0T q), c0o L ()), ((a0l q).isSome, ((.exit 1), mg (a0k a5D L) [1] [] [1] []))]
theorem c7B (m : Nat) (kn : St → Option (Ex × St)) (L x : List Lf) : lpB Tryz.prog (d5x N) (d5y N).h 0 41 24 a5D [1] [1, 2] [1] (m + 100) kn L x = b2g N L x (fun y => kn (a0k a5D (mx a5D [1] L y))) (fun _ => some (c0o L ())) (fun _ => some ((.exit 1), mg (a0k a5D L) [1] [] [1] [])) := by kernel_rfl
theorem d5z (L : List Lf) (m : Nat) (x : List Lf) : b6j N L (m + 1) x = b2g N L x (b6j N L m) (fun p => some (.inl p)) (fun p => some (.inr p)) := by kernel_rfl
def d5A : Sg Tryz.prog 0 41 :=
 (d5y N).lp (e0D N) N a0c (b6h N) (fun m kn L x => (c7B N m kn L x).trans (c5k N L x _ _ _)) (fun L m x => (d5z N L m x).trans (c5k N L x (b6j N L m) (fun p => some (.inl p)) (fun p => some (.inr p)))) fun L x hx => (a34 a08) x hx
def a9M (w1 : LD) (w2 : Int) (w12 : LD) (w3 : Int) (kr : Int → Option R) (k0 : Int → Option R) (k1 : Unit → Option R) : Option R :=
 bif (decide (w3 < w2)) then
  bif (inB w3 w1.length) then
   bnd (c44 N (w1.getD w3.toNat (.i 0)).toS) fun y0 =>
   bif y0.isSome then
    bif (!(y0.getD default)) then
     k0 8
    else
     bif (bif (inB (IntKind.wrap .i64 (w3 - 1)) w12.length) then true else (!((decide (w3 > 0)) == true))) then
      bnd (bif (decide (w3 > 0)) then ((Op.bytesLess (w1.getD w3.toNat (.i 0)).toS (w12.getD (IntKind.wrap .i64 (w3 - 1)).toNat (.i 0)).toS) || ((w1.getD w3.toNat (.i 0)).toS == (w12.getD (IntKind.wrap .i64 (w3 - 1)).toNat (.i 0)).toS)) else false) fun y1 =>
      bif y1 then
       k0 10
      else
       kr (IntKind.wrap .i64 (w3 + 1))
     else
      none
   else
    none
  else
   none
 else
  k1 ()
def b6k (N : Nat) {R : Type} (w1 : LD) (w2 : Int) (w12 : LD) : Nat → Int → (Int → Option R) → (Unit → Option R) → Option R
 | 0, _, _, _ => none
 | m + 1, w3, k0, k1 => a9M N w1 w2 w12 w3 (fun w3 => b6k N w1 w2 w12 m w3 k0 k1) k0 k1
def c2c (w1 : LD) (w2 : Int) (w12 : LD) (w3 : Int) : Option (Sum (Int) (Unit)) := b6k N (R := (Sum (Int) (Unit))) w1 w2 w12 N w3 (fun p => some (.inl p)) (fun p => some (.inr p))
def b2h (L x : List Lf) (kr : List Lf → Option R) (k0 : Int → Option R) (k1 : Unit → Option R) : Option R := a9M N (ll L 1) (li L 2) (ll L 12) (li x 0) (fun w3 => kr [.i w3]) k0 k1
theorem c5l (L x : List Lf) (kr : List Lf → Option R) (k0 : Int → Option R) (k1 : Unit → Option R) : b2h N L x kr k0 k1 = (b2h N L x (fun y => some (.inl y)) (fun p => some (.inr (.inl p))) (fun p => some (.inr (.inr p)))).bind (a09 kr (a09 k0 k1)) := by
 unfold b2h a9M
 repeat' (first | with_reducible apply a0g | (with_reducible apply a0t; intro _) | rfl)
def b6l (L : List Lf) (m : Nat) (x : List Lf) : Option (Sum (Int) (Unit)) := b6k N (R := (Sum (Int) (Unit))) (ll L 1) (li L 2) (ll L 12) m (li x 0) (fun p => some (.inl p)) (fun p => some (.inr p))
def b2i : Sh := { tmps := [(1, .c (.p 1 0)), (45, .c (.sl 9)), (46, .c (.i .i64)), (47, .c (.i .i64))], mem := [(1, .box (.s :: rI 6 ([.sl 9])))] }
def e0E (L : List Lf) : List (Bool × (Ex × St)) := bnd (b6l N L N (pk b2i [3] L)) fun q => [((a0T q), (.ret, ⟨[(2, .c (.i .i64 (a0H q)))], []⟩)), ((a0l q).isSome, ((.exit 3), ⟨[], []⟩))]
theorem c7C (m : Nat) (kn : St → Option (Ex × St)) (L x : List Lf) : lpB Tryz.prog (d5x N) (d5A N).h 0 41 48 b2i [3] [2] [] (m + 100) kn L x = b2h N L x (fun y => kn (a0k b2i (mx b2i [3] L y))) (fun p => some (.ret, ⟨[(2, .c (.i .i64 p))], []⟩)) (fun _ => some ((.exit 3), ⟨[], []⟩)) := by kernel_rfl
theorem d5B (L : List Lf) (m : Nat) (x : List Lf) : b6l N L (m + 1) x = b2h N L x (b6l N L m) (fun p => some (.inl p)) (fun p => some (.inr p)) := by kernel_rfl
def d5C : Sg Tryz.prog 0 41 :=
 (d5A N).lp (e0E N) N a0c (b6h N) (fun m kn L x => (c7C N m kn L x).trans (c5l N L x _ _ _)) (fun L m x => (d5B N L m x).trans (c5l N L x (b6l N L m) (fun p => some (.inl p)) (fun p => some (.inr p)))) fun L x hx => (a34 a08) x hx
def d5D (v0 : LB) (v1 v2 v3 v4 v5 v6 : Int) (v8 : LD) (k0 : Int → Option R) : Option R :=
 bnd (c44 N v0) fun y0 =>
 bif y0.isSome then
  bif (!(y0.getD default)) then
   k0 8
  else
   bnd (a6b N v1 1 5) fun y1 =>
   bif (!y1) then
    k0 7
   else
    bnd (a6b N v2 0 86399999999) fun y2 =>
    bif (!y2) then
     k0 9
    else
     bnd (c2b N 4 [(.i v3), (.i v4), (.i v5), (.i v6)] 0) fun y3 =>
     bif (a0T y3) then
      k0 9
     else
      bif (a0l y3).isSome then
       bif (decide ((v8.length : Int) > 20)) then
        k0 3
       else
        bnd (c2c N v8 (v8.length : Int) v8 0) fun y4 =>
        bif (a0T y4) then
         k0 (a0H y4)
        else
         bif (a0l y4).isSome then
          k0 0
         else
          none
      else
       none
 else
  none
def d5E (v0 : LB) (v1 v2 v3 v4 v5 v6 : Int) (v8 : LD) : Option (Int) := d5D N v0 v1 v2 v3 v4 v5 v6 v8 (fun p => some p)
theorem e0F (v0 : LB) (v1 v2 v3 v4 v5 v6 : Int) (v8 : LD) (k0 : Int → Option R) : d5D N v0 v1 v2 v3 v4 v5 v6 v8 k0 = (d5E N v0 v1 v2 v3 v4 v5 v6 v8).bind k0 := by
 unfold d5E d5D
 repeat' (first | with_reducible apply a0g | (with_reducible apply a0t; intro _) | rfl)
def e9o (L : List Lf) (k0 : Int → Option R) : Option R := d5D N (ls L 0) (li L 1) (li L 2) (li L 3) (li L 4) (li L 5) (li L 6) (ll L 8) k0
def d5F : Sh := { tmps := [(0, .g (.s :: rI 6 ([.sl 9])))], mem := [] }
def e9p (L : List Lf) : List (Bool × Res) := bnd (e9o N L (fun p => some p)) fun q => [(q.isSome, ([.c (.i .i64 (q.getD default))], []))]
theorem e5w (L : List Lf) : bd Tryz.prog (d5x N) (d5C N).h 41 d5F L = e9o N L (fun p => some ([.c (.i .i64 p)], [])) := by kernel_rfl
theorem e9q : a0L Tryz.prog 41 d5F (e9p N) :=
 (d5C N).fn a0c (b6h N) fun L x hx => ((e5w N L).trans ((e0F N ..).trans (a08 x hx)))
def e0G : a0d := ext 41 (a2l d5F (e9p N)) (d5x N)
theorem c2d : a0a Tryz.prog (e0G N) := a0L.to (e9q N) (b6h N)
def e9r : List (Nat × List Nat) := [(0, [0]), (1, [0]), (2, []), (3, [0]), (4, [0, 3]), (5, [13, 12, 11, 3]), (6, [11, 13, 3, 12]), (7, [5, 3, 13, 12, 11]), (8, [6, 3, 5, 13, 12, 11]), (9, [6]), (10, [3, 5, 13, 12, 11]), (11, []), (12, [3, 5, 13, 12, 11]), (13, [13, 12, 11, 3]), (14, [])]
def e9s : a0C := [(15, [3, 11, 12, 13], [10], [])]
def d5G (N : Nat) : Sg Tryz.prog 0 23 := .start e9s e9r
def a9N (w1 : LD) (w2 : Int) (w3 : Int) (w4 : (List (D × D))) (kr : Int → (List (D × D)) → Option R) (k0 : Int → Option R) (k1 : Unit → Option R) : Option R :=
 bif (decide (w3 < w2)) then
  bif (inB w3 w1.length) then
   bnd (d5E N ((w1.getD w3.toNat (.i 0)).cell 0).toS ((w1.getD w3.toNat (.i 0)).cell 1).toI ((w1.getD w3.toNat (.i 0)).cell 2).toI ((w1.getD w3.toNat (.i 0)).cell 3).toI ((w1.getD w3.toNat (.i 0)).cell 4).toI ((w1.getD w3.toNat (.i 0)).cell 5).toI ((w1.getD w3.toNat (.i 0)).cell 6).toI ((w1.getD w3.toNat (.i 0)).cell 7).items) fun y0 =>
   bif y0.isSome then
    bif ((y0.getD default) != 0) then
     k0 (y0.getD default)
    else
     bnd ((b0j Tryz.prog 9 (.s ((w1.getD w3.toNat (.i 0)).cell 0).toS) w4).getD (.b false)).toB fun y1 =>
     bif y1 then
      k0 5
     else
      bnd (d9p Tryz.prog 9 (.s ((w1.getD w3.toNat (.i 0)).cell 0).toS) (.b true) w4) fun y2 =>
      kr (IntKind.wrap .i64 (w3 + 1)) y2
   else
    none
  else
   none
 else
  k1 ()
def b6m (N : Nat) {R : Type} (w1 : LD) (w2 : Int) : Nat → Int → (List (D × D)) → (Int → Option R) → (Unit → Option R) → Option R
 | 0, _, _, _, _ => none
 | m + 1, w3, w4, k0, k1 => a9N N w1 w2 w3 w4 (fun w3 w4 => b6m N w1 w2 m w3 w4 k0 k1) k0 k1
def c2e (w1 : LD) (w2 : Int) (w3 : Int) (w4 : (List (D × D))) : Option (Sum (Int) (Unit)) := b6m N (R := (Sum (Int) (Unit))) w1 w2 N w3 w4 (fun p => some (.inl p)) (fun p => some (.inr p))
def b2j (L x : List Lf) (kr : List Lf → Option R) (k0 : Int → Option R) (k1 : Unit → Option R) : Option R := a9N N (ll L 1) (li L 2) (li x 0) (lm x 1) (fun w3 w4 => kr [.i w3, .m w4]) k0 k1
theorem c5m (L x : List Lf) (kr : List Lf → Option R) (k0 : Int → Option R) (k1 : Unit → Option R) : b2j N L x kr k0 k1 = (b2j N L x (fun y => some (.inl y)) (fun p => some (.inr (.inl p))) (fun p => some (.inr (.inr p)))).bind (a09 kr (a09 k0 k1)) := by
 unfold b2j a9N
 repeat' (first | with_reducible apply a0g | (with_reducible apply a0t; intro _) | rfl)
def b6n (L : List Lf) (m : Nat) (x : List Lf) : Option (Sum (Int) (Unit)) := b6m N (R := (Sum (Int) (Unit))) (ll L 1) (li L 2) m (li x 0) (lm x 1) (fun p => some (.inl p)) (fun p => some (.inr p))
def b2k : Sh := { tmps := [(3, .c (.m 10)), (11, .c (.sl 40)), (12, .c (.i .i64)), (13, .c (.i .i64))], mem := [(10, .map 9 4)] }
def e0H (L : List Lf) : List (Bool × (Ex × St)) := bnd (b6n N L N (pk b2k [3, 4] L)) fun q => [((a0T q), (.ret, ⟨[(2, .c (.i .i64 (a0H q)))], []⟩)), ((a0l q).isSome, ((.exit 0), ⟨[], []⟩))]
theorem c7D (m : Nat) (kn : St → Option (Ex × St)) (L x : List Lf) : lpB Tryz.prog (e0G N) (d5G N).h 0 23 15 b2k [3, 4] [2] [] (m + 100) kn L x = b2j N L x (fun y => kn (a0k b2k (mx b2k [3, 4] L y))) (fun p => some (.ret, ⟨[(2, .c (.i .i64 p))], []⟩)) (fun _ => some ((.exit 0), ⟨[], []⟩)) := by kernel_rfl
theorem d5H (L : List Lf) (m : Nat) (x : List Lf) : b6n N L (m + 1) x = b2j N L x (b6n N L m) (fun p => some (.inl p)) (fun p => some (.inr p)) := by kernel_rfl
def d5I : Sg Tryz.prog 0 23 :=
 (d5G N).lp (e0H N) N a0c (c2d N) (fun m kn L x => (c7D N m kn L x).trans (c5m N L x _ _ _)) (fun L m x => (d5H N L m x).trans (c5m N L x (b6n N L m) (fun p => some (.inl p)) (fun p => some (.inr p)))) fun L x hx => (a34 a08) x hx
def d2v (v1 : LD) (k0 : Int → Option R) : Option R :=
 bif (decide ((v1.length : Int) > 5000)) then
  k0 3
 else
  bnd (c2e N v1 (v1.length : Int) 0 []) fun y0 =>
  bif (a0T y0) then
   k0 (a0H y0)
  else
   bif (a0l y0).isSome then
    k0 0
   else
    none
def d5J (v1 : LD) : Option (Int) := d2v N v1 (fun p => some p)
theorem e0I (v1 : LD) (k0 : Int → Option R) : d2v N v1 k0 = (d5J N v1).bind k0 := by
 unfold d5J d2v
 repeat' (first | with_reducible apply a0g | (with_reducible apply a0t; intro _) | rfl)
def d5K : Sh := { tmps := [(0, .c (.sl 40))], mem := [] }
def e9t (L : List Lf) : List (Bool × Res) := bnd (d2v N (ll L 1) (fun p => some p)) fun q => [(q.isSome, ([.c (.i .i64 (q.getD default))], []))]
theorem e5x (L : List Lf) : bd Tryz.prog (e0G N) (d5I N).h 23 d5K L = d2v N (ll L 1) (fun p => some ([.c (.i .i64 p)], [])) := by kernel_rfl
theorem e9u : a0L Tryz.prog 23 d5K (e9t N) :=
 (d5I N).fn a0c (c2d N) fun L x hx => ((e5x N L).trans ((e0I N ..).trans (a08 x hx)))
def e0J : a0d := ext 23 (a2l d5K (e9t N)) (e0G N)
theorem c2f : a0a Tryz.prog (e0J N) := a0L.to (e9u N) (c2d N)
def e9v : List (Nat × List Nat) := [(0, [0]), (1, [0]), (2, [0, 3]), (3, [8, 7, 6, 3]), (4, [6, 8, 3, 7]), (5, [5, 3, 8, 7, 6]), (6, [5]), (7, [8, 7, 6, 3]), (8, [3])]
def e9w : a0C := [(9, [3, 6, 7, 8], [], [])]
def d5L (N : Nat) : Sg Tryz.prog 0 22 := .start e9w e9v
def c2g (N : Nat) (w0 : Int) (w2 : LD) (w3 : Int) (w4 : Int) (kr : Int → Option R) (k0 : Int → Option R) (k1 : Unit → Option R) : Option R :=
 bif (decide (w4 < w3)) then
  bif (inB w4 w2.length) then
   bif ((w2.getD w4.toNat (.i 0)).toI != w0) then
    k0 (w2.getD w4.toNat (.i 0)).toI
   else
    kr (IntKind.wrap .i64 (w4 + 1))
  else
   none
 else
  k1 ()
def b8j (N : Nat) {R : Type} (w0 : Int) (w2 : LD) (w3 : Int) : Nat → Int → (Int → Option R) → (Unit → Option R) → Option R
 | 0, _, _, _ => none
 | m + 1, w4, k0, k1 => c2g N w0 w2 w3 w4 (fun w4 => b8j N w0 w2 w3 m w4 k0 k1) k0 k1
def d5M (w0 : Int) (w2 : LD) (w3 : Int) (w4 : Int) : Option (Sum (Int) (Unit)) := b8j N (R := (Sum (Int) (Unit))) w0 w2 w3 N w4 (fun p => some (.inl p)) (fun p => some (.inr p))
def b8k (L x : List Lf) (kr : List Lf → Option R) (k0 : Int → Option R) (k1 : Unit → Option R) : Option R := c2g N (li L 0) (ll L 2) (li L 3) (li x 0) (fun w4 => kr [.i w4]) k0 k1
theorem c9W (L x : List Lf) (kr : List Lf → Option R) (k0 : Int → Option R) (k1 : Unit → Option R) : b8k N L x kr k0 k1 = (b8k N L x (fun y => some (.inl y)) (fun p => some (.inr (.inl p))) (fun p => some (.inr (.inr p)))).bind (a09 kr (a09 k0 k1)) := by
 unfold b8k c2g
 repeat' (first | with_reducible apply a0g | (with_reducible apply a0t; intro _) | rfl)
def c2h (L : List Lf) (m : Nat) (x : List Lf) : Option (Sum (Int) (Unit)) := b8j N (R := (Sum (Int) (Unit))) (li L 0) (ll L 2) (li L 3) m (li x 0) (fun p => some (.inl p)) (fun p => some (.inr p))
def a9O : Sh := { tmps := [(3, .c (.i .i64)), (6, .c (.sl 30)), (7, .c (.i .i64)), (8, .c (.i .i64))], mem := [] }
def e5y (L : List Lf) : List (Bool × (Ex × St)) := bnd (c2h N L N (pk a9O [4] L)) fun q => [((a0T q), (.ret, ⟨[(2, .c (.i .i64 (a0H q)))], []⟩)), ((a0l q).isSome, ((.exit 0), mg (a0k a9O L) [3] [] [] []))]
theorem d2w (m : Nat) (kn : St → Option (Ex × St)) (L x : List Lf) : lpB Tryz.prog (e0J N) (d5L N).h 0 22 9 a9O [4] [2, 3] [] (m + 100) kn L x = b8k N L x (fun y => kn (a0k a9O (mx a9O [4] L y))) (fun p => some (.ret, ⟨[(2, .c (.i .i64 p))], []⟩)) (fun _ => some ((.exit 0), mg (a0k a9O L) [3] [] [] [])) := by kernel_rfl
theorem e0K (L : List Lf) (m : Nat) (x : List Lf) : c2h N L (m + 1) x = b8k N L x (c2h N L m) (fun p => some (.inl p)) (fun p => some (.inr p)) := by kernel_rfl
def d5N : Sg Tryz.prog 0 22 :=
 (d5L N).lp (e5y N) N a0c (c2f N) (fun m kn L x => (d2w N m kn L x).trans (c9W N L x _ _ _)) (fun L m x => (e0K N L m x).trans (c9W N L x (c2h N L m) (fun p => some (.inl p)) (fun p => some (.inr p)))) fun L x hx => (a34 a08) x hx
def d2x (v1 : LD) (k0 : Int → Option R) : Option R :=
 bnd (d5M N 0 v1 (v1.length : Int) 0) fun y0 =>
 bif (a0T y0) then
  k0 (a0H y0)
 else
  bif (a0l y0).isSome then
   k0 0
  else
   none
def d5O (v1 : LD) : Option (Int) := d2x N v1 (fun p => some p)
theorem e0L (v1 : LD) (k0 : Int → Option R) : d2x N v1 k0 = (d5O N v1).bind k0 := by
 unfold d5O d2x
 repeat' (first | with_reducible apply a0g | (with_reducible apply a0t; intro _) | rfl)
def d5P : Sh := { tmps := [(0, .c (.sl 30))], mem := [] }
def e9x (L : List Lf) : List (Bool × Res) := bnd (d2x N (ll L 1) (fun p => some p)) fun q => [(q.isSome, ([.c (.i .i64 (q.getD default))], []))]
theorem e5z (L : List Lf) : bd Tryz.prog (e0J N) (d5N N).h 22 d5P L = d2x N (ll L 1) (fun p => some ([.c (.i .i64 p)], [])) := by kernel_rfl
theorem e9y : a0L Tryz.prog 22 d5P (e9x N) :=
 (d5N N).fn a0c (c2f N) fun L x hx => ((e5z N L).trans ((e0L N ..).trans (a08 x hx)))
def e5A : a0d := ext 22 (a2l d5P (e9x N)) (e0J N)
theorem c9X : a0a Tryz.prog (e5A N) := a0L.to (e9y N) (c2f N)
def e9z : List (Nat × List Nat) := [(0, [0]), (1, [1])]
def e9A : a0C := []
def d5Q (N : Nat) : Sg Tryz.prog 0 65 := .start e9A e9z
def e0M (N : Nat) (k0 : Unit → R) : R :=
 k0 ()
def e9B : Unit := e0M N (fun p => p)
theorem e5B (k0 : Unit → R) : e0M N k0 = k0 (e9B N) := by
 unfold e9B e0M
 repeat' (first | rfl | apply a0n | (apply a0A; intro _))
def d5R : Sh := { tmps := [(0, .c (.sl 40))], mem := [] }
def d5S (L : List Lf) (_ : Unit) : Res := ([.c (.f 103 [(1, 0)])], [(1, .box [.sl 40 (lb L 0) (ll L 1)])])
def e9C (N : Nat) (L : List Lf) : List (Bool × Res) := [(true, d5S L ())]
theorem e5C (L : List Lf) : bd Tryz.prog (e5A N) (d5Q N).h 65 d5R L = e0M N (fun _ => some (d5S L ())) := by kernel_rfl
theorem e9D : a0L Tryz.prog 65 d5R (e9C N) :=
 (d5Q N).fn a0c (c9X N) fun L x hx => ((e5C N L).trans ((e5B N ..).trans (a2h _ _ hx)))
def d2y : a0d := ext 65 (a2l d5R (e9C N)) (e5A N)
theorem b2l : a0a Tryz.prog (d2y N) := a0L.to (e9D N) (c9X N)
def a4k (N : Nat) : a1S := rfY (a2I Tryz.prog 146 600000007) [] 2 13
def a2o : a1S := { (a4k N) with tm := [(2, .c (.p 1 0))] }
def e5D : List (Nat × List Nat) := [(0, [1, 0]), (1, [7, 6, 5, 0]), (2, [5, 7, 0, 6]), (3, [0, 4, 7, 6, 5]), (4, [7, 6, 5, 0])]
def e5E : a0C := [(3, [0, 5, 6, 7], [0, 1, 2, 50001003], [50001000]), (10, [0, 4, 5, 6, 7], [0, 1, 2, 7, 50001003], [])]
def e0N : Sg Tryz.prog 3 103 (c6I ((a2o N))) := .start e5E e5D
def a8P (N : Nat) (w8 : LB) (w9 w10 w11 w12 w13 w14 : Int) (w15 : Bool) (w16 w18 : LD) (k0 : LD → Option R) : Option R :=
 bif (decide ((w18.length + 1) * 88 ≤ b5p) && decide ((w18.length + 1) ≤ a0Q)) then
  bnd ((w18 ++ [(.a [(.s w8), (.i w9), (.i w10), (.i w11), (.i w12), (.i w13), (.i w14), (.l w15 w16)])]) : List D) fun y0 =>
  k0 y0
 else
  none
def a8Q (w8 : LB) (w9 w10 w11 w12 w13 w14 : Int) (w15 : Bool) (w16 w18 : LD) : Option (LD) := a8P N w8 w9 w10 w11 w12 w13 w14 w15 w16 w18 (fun p => some p)
theorem c5n (w8 : LB) (w9 w10 w11 w12 w13 w14 : Int) (w15 : Bool) (w16 w18 : LD) (k0 : LD → Option R) : a8P N w8 w9 w10 w11 w12 w13 w14 w15 w16 w18 k0 = (a8Q N w8 w9 w10 w11 w12 w13 w14 w15 w16 w18).bind k0 := by
 unfold a8Q a8P
 repeat' (first | with_reducible apply a0g | (with_reducible apply a0t; intro _) | rfl)
def c5o (L : List Lf) (k0 : LD → Option R) : Option R := a8P N (ls L 8) (li L 9) (li L 10) (li L 11) (li L 12) (li L 13) (li L 14) (lb L 15) (ll L 16) (ll L 18) k0
def c0p : Sh := { tmps := [(0, .c (.y 2)), (4, .c (.p 7 0)), (5, .c (.sl 40)), (6, .c (.i .i64)), (7, .c (.i .i64))], mem := [(0, .box ([.sl 40])), (1, .box ([.o 50001003])), (2, .row 3 true), (7, .box (.s :: rI 6 ([.sl 9]))), (50001003, .row 40 true)] }
def b8l (L : List Lf) (p : LD) : Ex × St := (.normal, mg (a0k c0p L) [0, 5, 6, 7, 14] [(14, .c (.b false))] [0, 1, 2, 14000000014] [(1, .box [.o 14000000014]), (14000000014, .row 40 true false p)])
def d5T (L : List Lf) : List (Bool × (Ex × St)) := bnd (c5o N L (fun p => some p)) fun q => [(q.isSome, b8l L (q.getD default))]
theorem c7E (L : List Lf) : pcY Tryz.prog (d2y N) 3 ((a2o N)) 103 10 c0p L [0, 5, 6, 7, 14] [0, 1, 2, 14000000014] = c5o N L (fun p => some (b8l L p)) := by kernel_rfl
def c9Y : Sg Tryz.prog 3 103 (c6I ((a2o N))) :=
 (e0N N).cutY (d5T N) a0c (b2l N) (e8v (by kernel_rfl)) fun L x hx => (c7E N L).trans ((c5n N ..).trans (a08 x hx))
def a9P (w1 : LD) (w2 : Int) (w3 : Int) (w8 : Bool) (w9 : LD) (kr : Int → Bool → LD → Option R) (k0 : Bool × LD → Option R) : Option R :=
 bif (decide (w3 < w2)) then
  bif (inB w3 w1.length) then
   bnd (a8Q N ((w1.getD w3.toNat (.i 0)).cell 0).toS ((w1.getD w3.toNat (.i 0)).cell 1).toI ((w1.getD w3.toNat (.i 0)).cell 2).toI ((w1.getD w3.toNat (.i 0)).cell 3).toI ((w1.getD w3.toNat (.i 0)).cell 4).toI ((w1.getD w3.toNat (.i 0)).cell 5).toI ((w1.getD w3.toNat (.i 0)).cell 6).toI ((w1.getD w3.toNat (.i 0)).cell 7).isNil ((w1.getD w3.toNat (.i 0)).cell 7).items w9) fun y0 =>
   bif y0.isSome then
    kr (IntKind.wrap .i64 (w3 + 1)) false (y0.getD default)
   else
    none
  else
   none
 else
  k0 (w8, w9)
def b6o (N : Nat) {R : Type} (w1 : LD) (w2 : Int) : Nat → Int → Bool → LD → (Bool × LD → Option R) → Option R
 | 0, _, _, _, _ => none
 | m + 1, w3, w8, w9, k0 => a9P N w1 w2 w3 w8 w9 (fun w3 w8 w9 => b6o N w1 w2 m w3 w8 w9 k0) k0
def c2i (w1 : LD) (w2 : Int) (w3 : Int) (w8 : Bool) (w9 : LD) : Option (Bool × LD) := b6o N (R := (Bool × LD)) w1 w2 N w3 w8 w9 (fun p => some p)
def b2m (L x : List Lf) (kr : List Lf → Option R) (k0 : Bool × LD → Option R) : Option R := a9P N (ll L 1) (li L 2) (li x 0) (lb x 1) (ll x 2) (fun w3 w8 w9 => kr [.i w3, .b w8, .l w9]) k0
theorem c5p (L x : List Lf) (kr : List Lf → Option R) (k0 : Bool × LD → Option R) : b2m N L x kr k0 = (b2m N L x (fun y => some (.inl y)) (fun p => some (.inr p))).bind (a09 kr k0) := by
 unfold b2m a9P
 repeat' (first | with_reducible apply a0g | (with_reducible apply a0t; intro _) | rfl)
def b6p (L : List Lf) (m : Nat) (x : List Lf) : Option (Bool × LD) := b6o N (R := (Bool × LD)) (ll L 1) (li L 2) m (li x 0) (lb x 1) (ll x 2) (fun p => some p)
def a8R : Sh := { tmps := [(0, .c (.y 2)), (5, .c (.sl 40)), (6, .c (.i .i64)), (7, .c (.i .i64))], mem := [(0, .box ([.sl 40])), (1, .box ([.o 50001003])), (2, .row 3 true), (50001003, .row 40 true)] }
def c0q (L : List Lf) (p : Bool × LD) : Ex × St := ((.exit 0), mg (a0k a8R L) [] [] [0, 1, 2, 50001003] [(50001003, .row 40 true p.1 p.2)])
def e0O (L : List Lf) : List (Bool × (Ex × St)) := bnd (b6p N L N (pk a8R [3, 8, 9] L)) fun q => [(q.isSome, c0q L (q.getD default))]
theorem c7F (m : Nat) (kn : St → Option (Ex × St)) (L x : List Lf) : lpB Tryz.prog (d2y N) (c9Y N).h 3 103 3 a8R [3, 8, 9] [] [0, 1, 2, 50001003] (m + 100) kn L x = b2m N L x (fun y => kn (a0k a8R (mx a8R [3, 8, 9] L y))) (fun p => some (c0q L p)) := by kernel_rfl
theorem d5U (L : List Lf) (m : Nat) (x : List Lf) : b6p N L (m + 1) x = b2m N L x (b6p N L m) some := by kernel_rfl
def c9Z : Sg Tryz.prog 3 103 (c6I ((a2o N))) :=
 (c9Y N).lp (e0O N) N a0c (b2l N) (fun m kn L x => (c7F N m kn L x).trans (c5p N L x _ _)) (fun L m x => (d5U N L m x).trans (c5p N L x (b6p N L m) some)) fun L x hx => a08 x hx
def c0r (v1 : LD) (k0 : Bool × LD → Option R) : Option R :=
 bnd (c2i N v1 (v1.length : Int) 0 true []) fun y0 =>
 bif y0.isSome then
  k0 (y0.getD default)
 else
  none
def c90 (v1 : LD) : Option (Bool × LD) := c0r N v1 (fun p => some p)
theorem d5V (v1 : LD) (k0 : Bool × LD → Option R) : c0r N v1 k0 = (c90 N v1).bind k0 := by
 unfold c90 c0r
 repeat' (first | with_reducible apply a0g | (with_reducible apply a0t; intro _) | rfl)
def c2j : Sh := { tmps := [(0, .c (.y 2)), (1, .c (.p 0 0)), (2, .c (.p 1 0))], mem := [(0, .box ([.sl 40])), (1, .box ([.nsl 40])), (2, .row 3 true)] }
def c91 (L : List Lf) (p : Bool × LD) : Res := ([], mgA (a0k c2j L).mem [(1, .box [.o 50001003]), (50001003, .row 40 true p.1 p.2)] [0, 1, 2, 50001003])
def e3l (L : List Lf) : List (Bool × Res) := bnd (c0r N (ll L 1) (fun p => some p)) fun q => [(q.isSome, c91 L (q.getD default))]
theorem e0P (L : List Lf) : bdY Tryz.prog (d2y N) ((c9Z N)).h 103 2 c2j L = c0r N (ll L 1) (fun p => some (c91 L p)) := by kernel_rfl
theorem e5F : e4V (a4k N) Tryz.prog 103 2 c2j (e3l N) :=
 Sg.fnY (fun L => (a2o N)) (fun L => (c9Z N)) (fun L => by kernel_rfl) a0c (b2l N) fun L x hx => ((e0P N L).trans ((d5V N ..).trans (a08 x hx)))
def e5G : List (Nat × List Nat) := [(0, [0, 1]), (1, [1, 2]), (4, [2])]
def e5H : a0C := [(600000007, [2, 6], [0, 3], [])]
def e0Q (N : Nat) : Sg Tryz.prog 1 146 := .start e5H e5G true
def a1o (w1 : LD) (k0 : Bool × LD → Option R) : Option R :=
 bnd (c90 N w1) fun y0 =>
 bif y0.isSome then
  k0 (y0.getD default)
 else
  none
def a3m (w1 : LD) : Option (Bool × LD) := a1o N w1 (fun p => some p)
theorem b1f (w1 : LD) (k0 : Bool × LD → Option R) : a1o N w1 k0 = (a3m N w1).bind k0 := by
 unfold a3m a1o
 repeat' (first | with_reducible apply a0g | (with_reducible apply a0t; intro _) | rfl)
def b4c : Sh := { tmps := [(2, .c (.p 3 0)), (6, .c (.f 103 [(0, 0)]))], mem := [(0, .box ([.sl 40])), (3, .box ([.nsl 40]))] }
def a6m (L : List Lf) (p : Bool × LD) : Ex × St := (.normal, ⟨[(2, .c (.p 3 0))], [(0, .box [.sl 40 (lb L 0) (ll L 1)]), (3, .box [.o 1000000050001004]), (1000000050001004, .row 40 true p.1 p.2)]⟩)
def b5B (L : List Lf) : List (Bool × (Ex × St)) := bnd (a1o N (ll L 1) (fun p => some p)) fun q => [(q.isSome, a6m L (q.getD default))]
theorem b2n (L : List Lf) : pcR Tryz.prog (a4k N) [2] (spY 2 c2j (e3l N)) 103 3 1 146 600000007 b4c L [2] [0, 3, 1000000050001004] = a1o N (ll L 1) (fun p => some (a6m L p)) := by kernel_rfl
def c92 : Sg Tryz.prog 1 146 :=
 (e0Q N).rf (g := .tmp 6) (b5B N) (e5F N) (fun L x hx => (b2n N L).trans ((b1f N ..).trans (a08 x hx))) (by kernel_rfl)
def c0s (v3 : LD) (k0 : Bool × LD → Option R) : Option R :=
 bnd (a3m N v3) fun y0 =>
 bif y0.isSome then
  k0 (y0.getD default)
 else
  none
def c93 (v3 : LD) : Option (Bool × LD) := c0s N v3 (fun p => some p)
theorem d5W (v3 : LD) (k0 : Bool × LD → Option R) : c0s N v3 k0 = (c93 N v3).bind k0 := by
 unfold c93 c0s
 repeat' (first | with_reducible apply a0g | (with_reducible apply a0t; intro _) | rfl)
def c7G : Sh := { tmps := [(0, .c (.nsl 40)), (1, .c (.f 103 [(0, 0)]))], mem := [(0, .box ([.sl 40]))] }
def c94 (L : List Lf) (p : Bool × LD) : Res := ([.c (.o 1000000050001004)], [(0, .box [.sl 40 (lb L 2) (ll L 3)]), (1000000050001004, .row 40 true p.1 p.2)])
def e9E (L : List Lf) : List (Bool × Res) := bnd (c0s N (ll L 3) (fun p => some p)) fun q => [(q.isSome, c94 L (q.getD default))]
theorem e0R (L : List Lf) : bd Tryz.prog (d2y N) (c92 N).h 146 c7G L = c0s N (ll L 3) (fun p => some (c94 L p)) := (e9F 1 rfl).trans (by kernel_rfl)
def d5X (L : List Lf) : List (Bool × Res) := e9G 1000000050001004 999 ((e9E N) L)
theorem e5I : a0L Tryz.prog 146 c7G (d5X N) :=
 (c92 N).fnR 1000000050001004 999 rfl rfl a0c (b2l N) fun L x hx => ((e0R N L).trans ((d5W N ..).trans (a08 x hx)))
def d5Y : a0d := ext 146 (a2l c7G (d5X N)) (d2y N)
theorem c5q : a0a Tryz.prog (d5Y N) := a0L.to (e5I N) (b2l N)
def e5J : List (Nat × List Nat) := [(0, [0]), (1, [0])]
def e5K : a0C := []
def c95 (N : Nat) : Sg Tryz.prog 1 101 := .start e5K e5J true
def c0t (v1 : LD) (k0 : Bool × LD → Option R) : Option R :=
 bnd (c93 N v1) fun y0 =>
 bif y0.isSome then
  k0 (y0.getD default)
 else
  none
def c96 (v1 : LD) : Option (Bool × LD) := c0t N v1 (fun p => some p)
theorem d5Z (v1 : LD) (k0 : Bool × LD → Option R) : c0t N v1 k0 = (c96 N v1).bind k0 := by
 unfold c96 c0t
 repeat' (first | with_reducible apply a0g | (with_reducible apply a0t; intro _) | rfl)
def c7H : Sh := { tmps := [(0, .c (.f 103 [(0, 0)]))], mem := [(0, .box ([.sl 40]))] }
def c97 (L : List Lf) (p : Bool × LD) : Res := ([.c (.o 5000001000)], [(0, .box [.sl 40 (lb L 0) (ll L 1)]), (5000001000, .row 40 true p.1 p.2)])
def e9H (L : List Lf) : List (Bool × Res) := bnd (c0t N (ll L 1) (fun p => some p)) fun q => [(q.isSome, c97 L (q.getD default))]
theorem e0S (L : List Lf) : bd Tryz.prog (d5Y N) (c95 N).h 101 c7H L = c0t N (ll L 1) (fun p => some (c97 L p)) := (e9F 1 rfl).trans (by kernel_rfl)
def d50 (L : List Lf) : List (Bool × Res) := e9G 5000001000 999 ((e9H N) L)
theorem e5L : a0L Tryz.prog 101 c7H (d50 N) :=
 (c95 N).fnR 5000001000 999 rfl rfl a0c (c5q N) fun L x hx => ((e0S N L).trans ((d5Z N ..).trans (a08 x hx)))
def e3m : a0d := ext 101 (a2l c7H (d50 N)) (d5Y N)
theorem d51 : a0a Tryz.prog (e3m N) := a0L.to (e5L N) (c5q N)
def d52 : Sh := c5r
def e3n (N : Nat) (L : List Lf) : List (Bool × Res) := c2k L
theorem e5M : a0L Tryz.prog 102 d52 (e3n N) := d2z
def d53 : a0d := ext 102 (a2l d52 (e3n N)) (e3m N)
theorem c5s : a0a Tryz.prog (d53 N) := a0L.to (e5M N) (d51 N)
def e9I : List (Nat × List Nat) := [(0, [0, 1]), (1, [0, 1]), (2, [5, 1]), (3, [5])]
def e9J : a0C := []
def d54 (N : Nat) : Sg Tryz.prog 1 64 := .start e9J e9I
def d2A (v1 : LD) (k0 : Bool × LD → Option R) : Option R :=
 bnd (c96 N v1) fun y0 =>
 bif y0.isSome then
  bif (a9Q (y0.getD default).2) then
   k0 ((y0.getD default).1, (a1c (y0.getD default).2))
  else
   none
 else
  none
def d2B (v1 : LD) : Option (Bool × LD) := d2A N v1 (fun p => some p)
theorem e0T (v1 : LD) (k0 : Bool × LD → Option R) : d2A N v1 k0 = (d2B N v1).bind k0 := by
 unfold d2B d2A
 repeat' (first | with_reducible apply a0g | (with_reducible apply a0t; intro _) | rfl)
def c5t : Sh := { tmps := [(0, .c (.f 103 [(0, 0)])), (1, .c (.f 66 []))], mem := [(0, .box ([.sl 40]))] }
def e9K (L : List Lf) : List (Bool × Res) := bnd (d2A N (ll L 1) (fun p => some p)) fun q => [(q.isSome, ([.c (.sl 40 (q.getD default).1 (q.getD default).2)], mgA (a0k c5t L).mem [] [0]))]
theorem e5N (L : List Lf) : bd Tryz.prog (d53 N) (d54 N).h 64 c5t L = d2A N (ll L 1) (fun p => some ([.c (.sl 40 p.1 p.2)], mgA (a0k c5t L).mem [] [0])) := by kernel_rfl
theorem e9L : a0L Tryz.prog 64 c5t (e9K N) :=
 (d54 N).fn a0c (c5s N) fun L x hx => ((e5N N L).trans ((e0T N ..).trans (a08 x hx)))
def e5O : a0d := ext 64 (a2l c5t (e9K N)) (d53 N)
theorem c98 : a0a Tryz.prog (e5O N) := a0L.to (e9L N) (c5s N)
def e9M : List (Nat × List Nat) := [(0, []), (1, [])]
def e9N : a0C := []
def d55 (N : Nat) : Sg Tryz.prog 0 79 := .start e9N e9M
def e0U (N : Nat) (k0 : Unit → R) : R :=
 k0 ()
def e9O : Unit := e0U N (fun p => p)
theorem e5P (k0 : Unit → R) : e0U N k0 = k0 (e9O N) := by
 unfold e9O e0U
 repeat' (first | rfl | apply a0n | (apply a0A; intro _))
def d56 : Sh := { tmps := [], mem := [] }
def d57 (L : List Lf) (_ : Unit) : Res := ([.c (.sl 125 false [(.a [(.s ([] : List UInt8)), (.b true)]), (.a [(.s ([115, 116, 97, 114, 116] : List UInt8)), (.i 109)]), (.a [(.s ([100, 97, 121] : List UInt8)), (.i 110)]), (.a [(.s ([119, 97, 121] : List UInt8)), (.i 111)]), (.a [(.s ([99, 108, 105, 109, 98] : List UInt8)), (.i 112)]), (.a [(.s ([115, 101, 99, 111, 110, 100, 115] : List UInt8)), (.i 113)]), (.a [(.s ([108, 111, 97, 100] : List UInt8)), (.i 114)]), (.a [(.s ([119, 101, 101, 107, 100, 97, 121] : List UInt8)), (.i 115)])])], [])
def e9P (N : Nat) (L : List Lf) : List (Bool × Res) := [(true, d57 L ())]
theorem e5Q (L : List Lf) : bd Tryz.prog (e5O N) (d55 N).h 79 d56 L = e0U N (fun _ => some (d57 L ())) := by kernel_rfl
theorem e9Q : a0L Tryz.prog 79 d56 (e9P N) :=
 (d55 N).fn a0c (c98 N) fun L x hx => ((e5Q N L).trans ((e5P N ..).trans (a2h _ _ hx)))
def e9R : a0d := ext 79 (a2l d56 (e9P N)) (e5O N)
theorem c99 : a0a Tryz.prog (e9R N) := a0L.to (e9Q N) (c98 N)
abbrev a0e : Type := Int → Int → Int → Int → LB → Bool → LD → LB → Int → Int → Int → Int → Int → Int → Bool → LD → Option (Bool)
def d0a : Sh := { tmps := [(0, .g (.i .i64 :: [.i .i64, .i .i64, .i .i64, .s, .sl 24])), (1, .g (.s :: rI 6 ([.sl 9])))], mem := [] }
def e9S (N : Nat) (rc42x1 : a0e) (L : List Lf) : List (Bool × Res) := bnd (rc42x1 (li L 0) (li L 1) (li L 2) (li L 3) (ls L 4) (lb L 5) (ll L 6) (ls L 7) (li L 8) (li L 9) (li L 10) (li L 11) (li L 12) (li L 13) (lb L 14) (ll L 15)) fun q => [(q.isSome, ([.c (.b (q.getD default))], []))]
def a0I (rc42x1 : a0e) : a0d := ext 42 (a2l d0a ((e9S N) rc42x1)) (e9R N)
def e9T : List (Nat × List Nat) := [(0, [0, 1]), (1, [2, 1])]
def e9U : a0C := []
def d58 (rc42x1 : a0e) (hR42x1 : a0a Tryz.prog ((a0I N) rc42x1)) : Sg Tryz.prog 1 74 := .start e9U e9T
def c7I (N : Nat) (rc42x1 : a0e) (v0 v1 v2 v3 : Int) (v4 : LB) (v5 : Bool) (v6 : LD) (v7 : LB) (v8 v9 v10 v11 v12 v13 : Int) (v14 : Bool) (v15 : LD) (k0 : Bool → Option R) : Option R :=
 bnd (rc42x1 v0 v1 v2 v3 v4 v5 v6 v7 v8 v9 v10 v11 v12 v13 v14 v15) fun y0 =>
 bif y0.isSome then
  k0 (y0.getD default)
 else
  none
def c5u (rc42x1 : a0e) (v0 v1 v2 v3 : Int) (v4 : LB) (v5 : Bool) (v6 : LD) (v7 : LB) (v8 v9 v10 v11 v12 v13 : Int) (v14 : Bool) (v15 : LD) : Option (Bool) := c7I N rc42x1 v0 v1 v2 v3 v4 v5 v6 v7 v8 v9 v10 v11 v12 v13 v14 v15 (fun p => some p)
theorem e0V (rc42x1 : a0e) (v0 v1 v2 v3 : Int) (v4 : LB) (v5 : Bool) (v6 : LD) (v7 : LB) (v8 v9 v10 v11 v12 v13 : Int) (v14 : Bool) (v15 : LD) (k0 : Bool → Option R) : c7I N rc42x1 v0 v1 v2 v3 v4 v5 v6 v7 v8 v9 v10 v11 v12 v13 v14 v15 k0 = (c5u N rc42x1 v0 v1 v2 v3 v4 v5 v6 v7 v8 v9 v10 v11 v12 v13 v14 v15).bind k0 := by
 unfold c5u c7I
 repeat' (first | with_reducible apply a0g | (with_reducible apply a0t; intro _) | rfl)
def e9V (rc42x1 : a0e) (L : List Lf) (k0 : Bool → Option R) : Option R := c7I N rc42x1 (li L 0) (li L 1) (li L 2) (li L 3) (ls L 4) (lb L 5) (ll L 6) (ls L 7) (li L 8) (li L 9) (li L 10) (li L 11) (li L 12) (li L 13) (lb L 14) (ll L 15) k0
def c5v : Sh := { tmps := [(0, .g (.i .i64 :: [.i .i64, .i .i64, .i .i64, .s, .sl 24])), (1, .c (.p 0 0))], mem := [(0, .box (.s :: rI 6 ([.sl 9])))] }
def e9W (rc42x1 : a0e) (L : List Lf) : List (Bool × Res) := bnd (e9V N rc42x1 L (fun p => some p)) fun q => [(q.isSome, ([.c (.b (q.getD default))], mgA (a0k c5v L).mem [] [0]))]
theorem e5R (rc42x1 : a0e) (hR42x1 : a0a Tryz.prog ((a0I N) rc42x1)) (L : List Lf) : bd Tryz.prog ((a0I N) rc42x1) ((d58 N) rc42x1 hR42x1).h 74 c5v L = e9V N rc42x1 L (fun p => some ([.c (.b p)], mgA (a0k c5v L).mem [] [0])) := by kernel_rfl
theorem e9X (rc42x1 : a0e) (hR42x1 : a0a Tryz.prog ((a0I N) rc42x1)) : a0L Tryz.prog 74 c5v ((e9W N) rc42x1) :=
 ((d58 N) rc42x1 hR42x1).fn a0c hR42x1 fun L x hx => ((e5R N rc42x1 hR42x1 L).trans ((e0V N rc42x1 ..).trans (a08 x hx)))
def e5S (rc42x1 : a0e) : a0d := ext 74 (a2l c5v ((e9W N) rc42x1)) ((a0I N) rc42x1)
theorem d0b (rc42x1 : a0e) (hR42x1 : a0a Tryz.prog ((a0I N) rc42x1)) : a0a Tryz.prog ((e5S N) rc42x1) := a0L.to ((e9X N) rc42x1 hR42x1) hR42x1
def e9Y : List (Nat × List Nat) := [(0, [0, 1]), (1, [1, 2])]
def e9Z : a0C := []
def d59 (rc42x1 : a0e) (hR42x1 : a0a Tryz.prog ((a0I N) rc42x1)) : Sg Tryz.prog 2 76 := .start e9Z e9Y
def d6a (rc42x1 : a0e) (v0 v1 v2 v3 : Int) (v4 : LB) (v5 : Bool) (v6 : LD) (v7 : LB) (v8 v9 v10 v11 v12 v13 : Int) (v14 : Bool) (v15 : LD) (k0 : Bool → Option R) : Option R :=
 bnd (c5u N rc42x1 v0 v1 v2 v3 v4 v5 v6 v7 v8 v9 v10 v11 v12 v13 v14 v15) fun y0 =>
 bif y0.isSome then
  k0 (!(y0.getD default))
 else
  none
def e0W (rc42x1 : a0e) (v0 v1 v2 v3 : Int) (v4 : LB) (v5 : Bool) (v6 : LD) (v7 : LB) (v8 v9 v10 v11 v12 v13 : Int) (v14 : Bool) (v15 : LD) : Option (Bool) := d6a N rc42x1 v0 v1 v2 v3 v4 v5 v6 v7 v8 v9 v10 v11 v12 v13 v14 v15 (fun p => some p)
theorem e0X (rc42x1 : a0e) (v0 v1 v2 v3 : Int) (v4 : LB) (v5 : Bool) (v6 : LD) (v7 : LB) (v8 v9 v10 v11 v12 v13 : Int) (v14 : Bool) (v15 : LD) (k0 : Bool → Option R) : d6a N rc42x1 v0 v1 v2 v3 v4 v5 v6 v7 v8 v9 v10 v11 v12 v13 v14 v15 k0 = (e0W N rc42x1 v0 v1 v2 v3 v4 v5 v6 v7 v8 v9 v10 v11 v12 v13 v14 v15).bind k0 := by
 unfold e0W d6a
 repeat' (first | with_reducible apply a0g | (with_reducible apply a0t; intro _) | rfl)
def e90 (rc42x1 : a0e) (L : List Lf) (k0 : Bool → Option R) : Option R := d6a N rc42x1 (li L 0) (li L 1) (li L 2) (li L 3) (ls L 4) (lb L 5) (ll L 6) (ls L 7) (li L 8) (li L 9) (li L 10) (li L 11) (li L 12) (li L 13) (lb L 14) (ll L 15) k0
def c5w : Sh := { tmps := [(0, .g (.i .i64 :: [.i .i64, .i .i64, .i .i64, .s, .sl 24])), (1, .c (.p 0 0))], mem := [(0, .box ([.f 74 [(1, 0)]])), (1, .box (.s :: rI 6 ([.sl 9])))] }
def e91 (rc42x1 : a0e) (L : List Lf) : List (Bool × Res) := bnd (e90 N rc42x1 L (fun p => some p)) fun q => [(q.isSome, ([.c (.b (q.getD default))], mgA (a0k c5w L).mem [] [0, 1]))]
theorem e5T (rc42x1 : a0e) (hR42x1 : a0a Tryz.prog ((a0I N) rc42x1)) (L : List Lf) : bd Tryz.prog ((e5S N) rc42x1) ((d59 N) rc42x1 hR42x1).h 76 c5w L = e90 N rc42x1 L (fun p => some ([.c (.b p)], mgA (a0k c5w L).mem [] [0, 1])) := by kernel_rfl
theorem e92 (rc42x1 : a0e) (hR42x1 : a0a Tryz.prog ((a0I N) rc42x1)) : a0L Tryz.prog 76 c5w ((e91 N) rc42x1) :=
 ((d59 N) rc42x1 hR42x1).fn a0c ((d0b N) rc42x1 hR42x1) fun L x hx => ((e5T N rc42x1 hR42x1 L).trans ((e0X N rc42x1 ..).trans (a08 x hx)))
def e0Y (rc42x1 : a0e) : a0d := ext 76 (a2l c5w ((e91 N) rc42x1)) ((e5S N) rc42x1)
theorem c2l (rc42x1 : a0e) (hR42x1 : a0a Tryz.prog ((a0I N) rc42x1)) : a0a Tryz.prog ((e0Y N) rc42x1) := a0L.to ((e92 N) rc42x1 hR42x1) ((d0b N) rc42x1 hR42x1)
def e5U : List (Nat × List Nat) := [(0, [0, 1]), (1, [0, 1]), (2, [8, 7, 1, 0]), (3, [8, 1, 0, 7]), (4, [1, 0, 5, 8, 7]), (5, [5]), (6, [8, 7, 1, 0]), (7, [])]
def e5V : a0C := [(6, [0, 1, 7, 8], [0, 1], [])]
def d0c (rc42x1 : a0e) (hR42x1 : a0a Tryz.prog ((a0I N) rc42x1)) : Sg Tryz.prog 2 106 := .start e5V e5U
def a9R (rc42x1 : a0e) (w1 : LD) (w2 : Int) (w4 : LB) (w5 w6 w7 w8 w9 w10 : Int) (w11 : Bool) (w12 : LD) (w3 : Int) (kr : Int → Option R) (k0 : Int → Option R) (k1 : Unit → Option R) : Option R :=
 bif (decide (w3 < w2)) then
  bif (inB w3 w1.length) then
   bnd (e0W N rc42x1 ((w1.getD w3.toNat (.i 0)).cell 0).toI ((w1.getD w3.toNat (.i 0)).cell 1).toI ((w1.getD w3.toNat (.i 0)).cell 2).toI ((w1.getD w3.toNat (.i 0)).cell 3).toI ((w1.getD w3.toNat (.i 0)).cell 4).toS ((w1.getD w3.toNat (.i 0)).cell 5).isNil ((w1.getD w3.toNat (.i 0)).cell 5).items w4 w5 w6 w7 w8 w9 w10 w11 w12) fun y0 =>
   bif y0.isSome then
    bif (y0.getD default) then
     k0 w3
    else
     kr (IntKind.wrap .i64 (w3 + 1))
   else
    none
  else
   none
 else
  k1 ()
def b6q (N : Nat) (rc42x1 : a0e) {R : Type} (w1 : LD) (w2 : Int) (w4 : LB) (w5 w6 w7 w8 w9 w10 : Int) (w11 : Bool) (w12 : LD) : Nat → Int → (Int → Option R) → (Unit → Option R) → Option R
 | 0, _, _, _ => none
 | m + 1, w3, k0, k1 => a9R N rc42x1 w1 w2 w4 w5 w6 w7 w8 w9 w10 w11 w12 w3 (fun w3 => b6q N rc42x1 w1 w2 w4 w5 w6 w7 w8 w9 w10 w11 w12 m w3 k0 k1) k0 k1
def b6r (rc42x1 : a0e) (w1 : LD) (w2 : Int) (w4 : LB) (w5 w6 w7 w8 w9 w10 : Int) (w11 : Bool) (w12 : LD) (w3 : Int) : Option (Sum (Int) (Unit)) := b6q N rc42x1 (R := (Sum (Int) (Unit))) w1 w2 w4 w5 w6 w7 w8 w9 w10 w11 w12 N w3 (fun p => some (.inl p)) (fun p => some (.inr p))
def b2o (rc42x1 : a0e) (L x : List Lf) (kr : List Lf → Option R) (k0 : Int → Option R) (k1 : Unit → Option R) : Option R := a9R N rc42x1 (ll L 1) (li L 2) (ls L 4) (li L 5) (li L 6) (li L 7) (li L 8) (li L 9) (li L 10) (lb L 11) (ll L 12) (li x 0) (fun w3 => kr [.i w3]) k0 k1
theorem c5x (rc42x1 : a0e) (L x : List Lf) (kr : List Lf → Option R) (k0 : Int → Option R) (k1 : Unit → Option R) : b2o N rc42x1 L x kr k0 k1 = (b2o N rc42x1 L x (fun y => some (.inl y)) (fun p => some (.inr (.inl p))) (fun p => some (.inr (.inr p)))).bind (a09 kr (a09 k0 k1)) := by
 unfold b2o a9R
 repeat' (first | with_reducible apply a0g | (with_reducible apply a0t; intro _) | rfl)
def b6s (rc42x1 : a0e) (L : List Lf) (m : Nat) (x : List Lf) : Option (Sum (Int) (Unit)) := b6q N rc42x1 (R := (Sum (Int) (Unit))) (ll L 1) (li L 2) (ls L 4) (li L 5) (li L 6) (li L 7) (li L 8) (li L 9) (li L 10) (lb L 11) (ll L 12) m (li x 0) (fun p => some (.inl p)) (fun p => some (.inr p))
def a5E : Sh := { tmps := [(0, .c (.sl 24)), (1, .c (.f 76 [(0, 0)])), (7, .c (.i .i64)), (8, .c (.i .i64))], mem := [(0, .box ([.f 74 [(1, 0)]])), (1, .box (.s :: rI 6 ([.sl 9])))] }
def c0u (L : List Lf) (p : Int) : Ex × St := (.ret, mg (a0k a5E L) [4] [(4, .c (.i .i64 p))] [0, 1] [])
def e0Z (rc42x1 : a0e) (L : List Lf) : List (Bool × (Ex × St)) := bnd (b6s N rc42x1 L N (pk a5E [3] L)) fun q => [((a0T q), c0u L (a0H q)), ((a0l q).isSome, ((.exit 0), mg (a0k a5E L) [] [] [0, 1] []))]
theorem c7J (rc42x1 : a0e) (hR42x1 : a0a Tryz.prog ((a0I N) rc42x1)) (m : Nat) (kn : St → Option (Ex × St)) (L x : List Lf) : lpB Tryz.prog ((e0Y N) rc42x1) ((d0c N) rc42x1 hR42x1).h 2 106 6 a5E [3] [4] [0, 1] (m + 100) kn L x = b2o N rc42x1 L x (fun y => kn (a0k a5E (mx a5E [3] L y))) (fun p => some (c0u L p)) (fun _ => some ((.exit 0), mg (a0k a5E L) [] [] [0, 1] [])) := by kernel_rfl
theorem d6b (rc42x1 : a0e) (L : List Lf) (m : Nat) (x : List Lf) : b6s N rc42x1 L (m + 1) x = b2o N rc42x1 L x (b6s N rc42x1 L m) (fun p => some (.inl p)) (fun p => some (.inr p)) := by kernel_rfl
def d0d (rc42x1 : a0e) (hR42x1 : a0a Tryz.prog ((a0I N) rc42x1)) : Sg Tryz.prog 2 106 :=
 ((d0c N) rc42x1 hR42x1).lp ((e0Z N) rc42x1) N a0c ((c2l N) rc42x1 hR42x1) (fun m kn L x => (c7J N rc42x1 hR42x1 m kn L x).trans (c5x N rc42x1 L x _ _ _)) (fun L m x => (d6b N rc42x1 L m x).trans (c5x N rc42x1 L x (b6s N rc42x1 L m) (fun p => some (.inl p)) (fun p => some (.inr p)))) fun L x hx => (a34 a08) x hx
def c5y (rc42x1 : a0e) (v1 : LD) (v2 : LB) (v3 v4 v5 v6 v7 v8 : Int) (v9 : Bool) (v10 : LD) (k0 : Int → Option R) : Option R :=
 bnd (b6r N rc42x1 v1 (v1.length : Int) v2 v3 v4 v5 v6 v7 v8 v9 v10 0) fun y0 =>
 bif (a0T y0) then
  k0 (a0H y0)
 else
  bif (a0l y0).isSome then
   k0 (-1)
  else
   none
def d0e (rc42x1 : a0e) (v1 : LD) (v2 : LB) (v3 v4 v5 v6 v7 v8 : Int) (v9 : Bool) (v10 : LD) : Option (Int) := c5y N rc42x1 v1 v2 v3 v4 v5 v6 v7 v8 v9 v10 (fun p => some p)
theorem d6c (rc42x1 : a0e) (v1 : LD) (v2 : LB) (v3 v4 v5 v6 v7 v8 : Int) (v9 : Bool) (v10 : LD) (k0 : Int → Option R) : c5y N rc42x1 v1 v2 v3 v4 v5 v6 v7 v8 v9 v10 k0 = (d0e N rc42x1 v1 v2 v3 v4 v5 v6 v7 v8 v9 v10).bind k0 := by
 unfold d0e c5y
 repeat' (first | with_reducible apply a0g | (with_reducible apply a0t; intro _) | rfl)
def e3o (rc42x1 : a0e) (L : List Lf) (k0 : Int → Option R) : Option R := c5y N rc42x1 (ll L 1) (ls L 2) (li L 3) (li L 4) (li L 5) (li L 6) (li L 7) (li L 8) (lb L 9) (ll L 10) k0
def b8m : Sh := { tmps := [(0, .c (.sl 24)), (1, .c (.f 76 [(0, 0)]))], mem := [(0, .box ([.f 74 [(1, 0)]])), (1, .box (.s :: rI 6 ([.sl 9])))] }
def e3p (rc42x1 : a0e) (L : List Lf) : List (Bool × Res) := bnd (e3o N rc42x1 L (fun p => some p)) fun q => [(q.isSome, ([.c (.i .i64 (q.getD default))], mgA (a0k b8m L).mem [] [0, 1]))]
theorem e00 (rc42x1 : a0e) (hR42x1 : a0a Tryz.prog ((a0I N) rc42x1)) (L : List Lf) : bd Tryz.prog ((e0Y N) rc42x1) ((d0d N) rc42x1 hR42x1).h 106 b8m L = e3o N rc42x1 L (fun p => some ([.c (.i .i64 p)], mgA (a0k b8m L).mem [] [0, 1])) := by kernel_rfl
theorem e5W (rc42x1 : a0e) (hR42x1 : a0a Tryz.prog ((a0I N) rc42x1)) : a0L Tryz.prog 106 b8m ((e3p N) rc42x1) :=
 ((d0d N) rc42x1 hR42x1).fn a0c ((c2l N) rc42x1 hR42x1) fun L x hx => ((e00 N rc42x1 hR42x1 L).trans ((d6c N rc42x1 ..).trans (a08 x hx)))
def d6d (rc42x1 : a0e) : a0d := ext 106 (a2l b8m ((e3p N) rc42x1)) ((e0Y N) rc42x1)
theorem c5z (rc42x1 : a0e) (hR42x1 : a0a Tryz.prog ((a0I N) rc42x1)) : a0a Tryz.prog ((d6d N) rc42x1) := a0L.to ((e5W N) rc42x1 hR42x1) ((c2l N) rc42x1 hR42x1)
def e93 : List (Nat × List Nat) := [(0, [0, 1]), (1, [0, 1])]
def e94 : a0C := []
def d6e (rc42x1 : a0e) (hR42x1 : a0a Tryz.prog ((a0I N) rc42x1)) : Sg Tryz.prog 2 75 := .start e94 e93
def d6f (rc42x1 : a0e) (v1 : LD) (v2 : LB) (v3 v4 v5 v6 v7 v8 : Int) (v9 : Bool) (v10 : LD) (k0 : Bool → Option R) : Option R :=
 bnd (d0e N rc42x1 v1 v2 v3 v4 v5 v6 v7 v8 v9 v10) fun y0 =>
 bif y0.isSome then
  k0 (decide ((y0.getD default) ≥ 0))
 else
  none
def e01 (rc42x1 : a0e) (v1 : LD) (v2 : LB) (v3 v4 v5 v6 v7 v8 : Int) (v9 : Bool) (v10 : LD) : Option (Bool) := d6f N rc42x1 v1 v2 v3 v4 v5 v6 v7 v8 v9 v10 (fun p => some p)
theorem e02 (rc42x1 : a0e) (v1 : LD) (v2 : LB) (v3 v4 v5 v6 v7 v8 : Int) (v9 : Bool) (v10 : LD) (k0 : Bool → Option R) : d6f N rc42x1 v1 v2 v3 v4 v5 v6 v7 v8 v9 v10 k0 = (e01 N rc42x1 v1 v2 v3 v4 v5 v6 v7 v8 v9 v10).bind k0 := by
 unfold e01 d6f
 repeat' (first | with_reducible apply a0g | (with_reducible apply a0t; intro _) | rfl)
def e95 (rc42x1 : a0e) (L : List Lf) (k0 : Bool → Option R) : Option R := d6f N rc42x1 (ll L 1) (ls L 2) (li L 3) (li L 4) (li L 5) (li L 6) (li L 7) (li L 8) (lb L 9) (ll L 10) k0
def c5A : Sh := { tmps := [(0, .c (.sl 24)), (1, .c (.f 76 [(0, 0)]))], mem := [(0, .box ([.f 74 [(1, 0)]])), (1, .box (.s :: rI 6 ([.sl 9])))] }
def e96 (rc42x1 : a0e) (L : List Lf) : List (Bool × Res) := bnd (e95 N rc42x1 L (fun p => some p)) fun q => [(q.isSome, ([.c (.b (q.getD default))], mgA (a0k c5A L).mem [] [0, 1]))]
theorem e5X (rc42x1 : a0e) (hR42x1 : a0a Tryz.prog ((a0I N) rc42x1)) (L : List Lf) : bd Tryz.prog ((d6d N) rc42x1) ((d6e N) rc42x1 hR42x1).h 75 c5A L = e95 N rc42x1 L (fun p => some ([.c (.b p)], mgA (a0k c5A L).mem [] [0, 1])) := by kernel_rfl
theorem e97 (rc42x1 : a0e) (hR42x1 : a0a Tryz.prog ((a0I N) rc42x1)) : a0L Tryz.prog 75 c5A ((e96 N) rc42x1) :=
 ((d6e N) rc42x1 hR42x1).fn a0c ((c5z N) rc42x1 hR42x1) fun L x hx => ((e5X N rc42x1 hR42x1 L).trans ((e02 N rc42x1 ..).trans (a08 x hx)))
def e03 (rc42x1 : a0e) : a0d := ext 75 (a2l c5A ((e96 N) rc42x1)) ((d6d N) rc42x1)
theorem c2m (rc42x1 : a0e) (hR42x1 : a0a Tryz.prog ((a0I N) rc42x1)) : a0a Tryz.prog ((e03 N) rc42x1) := a0L.to ((e97 N) rc42x1 hR42x1) ((c5z N) rc42x1 hR42x1)
def e5Y : List (Nat × List Nat) := [(0, [0, 1]), (1, [0, 1]), (2, [8, 7, 1, 0]), (3, [8, 1, 0, 7]), (4, [1, 0, 5, 8, 7]), (5, [5]), (6, [8, 7, 1, 0]), (7, [])]
def e5Z : a0C := [(6, [0, 1, 7, 8], [0], [])]
def d0f (rc42x1 : a0e) (hR42x1 : a0a Tryz.prog ((a0I N) rc42x1)) : Sg Tryz.prog 1 106 := .start e5Z e5Y
def a9S (rc42x1 : a0e) (w1 : LD) (w2 : Int) (w4 : LB) (w5 w6 w7 w8 w9 w10 : Int) (w11 : Bool) (w12 : LD) (w3 : Int) (kr : Int → Option R) (k0 : Int → Option R) (k1 : Unit → Option R) : Option R :=
 bif (decide (w3 < w2)) then
  bif (inB w3 w1.length) then
   bnd (c5u N rc42x1 ((w1.getD w3.toNat (.i 0)).cell 0).toI ((w1.getD w3.toNat (.i 0)).cell 1).toI ((w1.getD w3.toNat (.i 0)).cell 2).toI ((w1.getD w3.toNat (.i 0)).cell 3).toI ((w1.getD w3.toNat (.i 0)).cell 4).toS ((w1.getD w3.toNat (.i 0)).cell 5).isNil ((w1.getD w3.toNat (.i 0)).cell 5).items w4 w5 w6 w7 w8 w9 w10 w11 w12) fun y0 =>
   bif y0.isSome then
    bif (y0.getD default) then
     k0 w3
    else
     kr (IntKind.wrap .i64 (w3 + 1))
   else
    none
  else
   none
 else
  k1 ()
def b6t (N : Nat) (rc42x1 : a0e) {R : Type} (w1 : LD) (w2 : Int) (w4 : LB) (w5 w6 w7 w8 w9 w10 : Int) (w11 : Bool) (w12 : LD) : Nat → Int → (Int → Option R) → (Unit → Option R) → Option R
 | 0, _, _, _ => none
 | m + 1, w3, k0, k1 => a9S N rc42x1 w1 w2 w4 w5 w6 w7 w8 w9 w10 w11 w12 w3 (fun w3 => b6t N rc42x1 w1 w2 w4 w5 w6 w7 w8 w9 w10 w11 w12 m w3 k0 k1) k0 k1
def b6u (rc42x1 : a0e) (w1 : LD) (w2 : Int) (w4 : LB) (w5 w6 w7 w8 w9 w10 : Int) (w11 : Bool) (w12 : LD) (w3 : Int) : Option (Sum (Int) (Unit)) := b6t N rc42x1 (R := (Sum (Int) (Unit))) w1 w2 w4 w5 w6 w7 w8 w9 w10 w11 w12 N w3 (fun p => some (.inl p)) (fun p => some (.inr p))
def b2p (rc42x1 : a0e) (L x : List Lf) (kr : List Lf → Option R) (k0 : Int → Option R) (k1 : Unit → Option R) : Option R := a9S N rc42x1 (ll L 1) (li L 2) (ls L 4) (li L 5) (li L 6) (li L 7) (li L 8) (li L 9) (li L 10) (lb L 11) (ll L 12) (li x 0) (fun w3 => kr [.i w3]) k0 k1
theorem c5B (rc42x1 : a0e) (L x : List Lf) (kr : List Lf → Option R) (k0 : Int → Option R) (k1 : Unit → Option R) : b2p N rc42x1 L x kr k0 k1 = (b2p N rc42x1 L x (fun y => some (.inl y)) (fun p => some (.inr (.inl p))) (fun p => some (.inr (.inr p)))).bind (a09 kr (a09 k0 k1)) := by
 unfold b2p a9S
 repeat' (first | with_reducible apply a0g | (with_reducible apply a0t; intro _) | rfl)
def b6v (rc42x1 : a0e) (L : List Lf) (m : Nat) (x : List Lf) : Option (Sum (Int) (Unit)) := b6t N rc42x1 (R := (Sum (Int) (Unit))) (ll L 1) (li L 2) (ls L 4) (li L 5) (li L 6) (li L 7) (li L 8) (li L 9) (li L 10) (lb L 11) (ll L 12) m (li x 0) (fun p => some (.inl p)) (fun p => some (.inr p))
def a5F : Sh := { tmps := [(0, .c (.sl 24)), (1, .c (.f 74 [(0, 0)])), (7, .c (.i .i64)), (8, .c (.i .i64))], mem := [(0, .box (.s :: rI 6 ([.sl 9])))] }
def c0v (L : List Lf) (p : Int) : Ex × St := (.ret, mg (a0k a5F L) [4] [(4, .c (.i .i64 p))] [0] [])
def e04 (rc42x1 : a0e) (L : List Lf) : List (Bool × (Ex × St)) := bnd (b6v N rc42x1 L N (pk a5F [3] L)) fun q => [((a0T q), c0v L (a0H q)), ((a0l q).isSome, ((.exit 0), mg (a0k a5F L) [] [] [0] []))]
theorem c7K (rc42x1 : a0e) (hR42x1 : a0a Tryz.prog ((a0I N) rc42x1)) (m : Nat) (kn : St → Option (Ex × St)) (L x : List Lf) : lpB Tryz.prog ((e03 N) rc42x1) ((d0f N) rc42x1 hR42x1).h 1 106 6 a5F [3] [4] [0] (m + 100) kn L x = b2p N rc42x1 L x (fun y => kn (a0k a5F (mx a5F [3] L y))) (fun p => some (c0v L p)) (fun _ => some ((.exit 0), mg (a0k a5F L) [] [] [0] [])) := by kernel_rfl
theorem d6g (rc42x1 : a0e) (L : List Lf) (m : Nat) (x : List Lf) : b6v N rc42x1 L (m + 1) x = b2p N rc42x1 L x (b6v N rc42x1 L m) (fun p => some (.inl p)) (fun p => some (.inr p)) := by kernel_rfl
def d0g (rc42x1 : a0e) (hR42x1 : a0a Tryz.prog ((a0I N) rc42x1)) : Sg Tryz.prog 1 106 :=
 ((d0f N) rc42x1 hR42x1).lp ((e04 N) rc42x1) N a0c ((c2m N) rc42x1 hR42x1) (fun m kn L x => (c7K N rc42x1 hR42x1 m kn L x).trans (c5B N rc42x1 L x _ _ _)) (fun L m x => (d6g N rc42x1 L m x).trans (c5B N rc42x1 L x (b6v N rc42x1 L m) (fun p => some (.inl p)) (fun p => some (.inr p)))) fun L x hx => (a34 a08) x hx
def c5C (rc42x1 : a0e) (v1 : LD) (v2 : LB) (v3 v4 v5 v6 v7 v8 : Int) (v9 : Bool) (v10 : LD) (k0 : Int → Option R) : Option R :=
 bnd (b6u N rc42x1 v1 (v1.length : Int) v2 v3 v4 v5 v6 v7 v8 v9 v10 0) fun y0 =>
 bif (a0T y0) then
  k0 (a0H y0)
 else
  bif (a0l y0).isSome then
   k0 (-1)
  else
   none
def d0h (rc42x1 : a0e) (v1 : LD) (v2 : LB) (v3 v4 v5 v6 v7 v8 : Int) (v9 : Bool) (v10 : LD) : Option (Int) := c5C N rc42x1 v1 v2 v3 v4 v5 v6 v7 v8 v9 v10 (fun p => some p)
theorem d6h (rc42x1 : a0e) (v1 : LD) (v2 : LB) (v3 v4 v5 v6 v7 v8 : Int) (v9 : Bool) (v10 : LD) (k0 : Int → Option R) : c5C N rc42x1 v1 v2 v3 v4 v5 v6 v7 v8 v9 v10 k0 = (d0h N rc42x1 v1 v2 v3 v4 v5 v6 v7 v8 v9 v10).bind k0 := by
 unfold d0h c5C
 repeat' (first | with_reducible apply a0g | (with_reducible apply a0t; intro _) | rfl)
def e3q (rc42x1 : a0e) (L : List Lf) (k0 : Int → Option R) : Option R := c5C N rc42x1 (ll L 1) (ls L 2) (li L 3) (li L 4) (li L 5) (li L 6) (li L 7) (li L 8) (lb L 9) (ll L 10) k0
def b8n : Sh := { tmps := [(0, .c (.sl 24)), (1, .c (.f 74 [(0, 0)]))], mem := [(0, .box (.s :: rI 6 ([.sl 9])))] }
def e3r (rc42x1 : a0e) (L : List Lf) : List (Bool × Res) := bnd (e3q N rc42x1 L (fun p => some p)) fun q => [(q.isSome, ([.c (.i .i64 (q.getD default))], mgA (a0k b8n L).mem [] [0]))]
theorem e05 (rc42x1 : a0e) (hR42x1 : a0a Tryz.prog ((a0I N) rc42x1)) (L : List Lf) : bd Tryz.prog ((e03 N) rc42x1) ((d0g N) rc42x1 hR42x1).h 106 b8n L = e3q N rc42x1 L (fun p => some ([.c (.i .i64 p)], mgA (a0k b8n L).mem [] [0])) := by kernel_rfl
theorem e50 (rc42x1 : a0e) (hR42x1 : a0a Tryz.prog ((a0I N) rc42x1)) : a0L Tryz.prog 106 b8n ((e3r N) rc42x1) :=
 ((d0g N) rc42x1 hR42x1).fn a0c ((c2m N) rc42x1 hR42x1) fun L x hx => ((e05 N rc42x1 hR42x1 L).trans ((d6h N rc42x1 ..).trans (a08 x hx)))
def d6i (rc42x1 : a0e) : a0d := ext 106 (a2l b8n ((e3r N) rc42x1)) ((e03 N) rc42x1)
theorem c5D (rc42x1 : a0e) (hR42x1 : a0a Tryz.prog ((a0I N) rc42x1)) : a0a Tryz.prog ((d6i N) rc42x1) := a0L.to ((e50 N) rc42x1 hR42x1) ((c2m N) rc42x1 hR42x1)
def e98 : List (Nat × List Nat) := [(0, [0, 1]), (1, [0, 1])]
def e99 : a0C := []
def d6j (rc42x1 : a0e) (hR42x1 : a0a Tryz.prog ((a0I N) rc42x1)) : Sg Tryz.prog 1 75 := .start e99 e98
def d6k (rc42x1 : a0e) (v1 : LD) (v2 : LB) (v3 v4 v5 v6 v7 v8 : Int) (v9 : Bool) (v10 : LD) (k0 : Bool → Option R) : Option R :=
 bnd (d0h N rc42x1 v1 v2 v3 v4 v5 v6 v7 v8 v9 v10) fun y0 =>
 bif y0.isSome then
  k0 (decide ((y0.getD default) ≥ 0))
 else
  none
def e06 (rc42x1 : a0e) (v1 : LD) (v2 : LB) (v3 v4 v5 v6 v7 v8 : Int) (v9 : Bool) (v10 : LD) : Option (Bool) := d6k N rc42x1 v1 v2 v3 v4 v5 v6 v7 v8 v9 v10 (fun p => some p)
theorem e07 (rc42x1 : a0e) (v1 : LD) (v2 : LB) (v3 v4 v5 v6 v7 v8 : Int) (v9 : Bool) (v10 : LD) (k0 : Bool → Option R) : d6k N rc42x1 v1 v2 v3 v4 v5 v6 v7 v8 v9 v10 k0 = (e06 N rc42x1 v1 v2 v3 v4 v5 v6 v7 v8 v9 v10).bind k0 := by
 unfold e06 d6k
 repeat' (first | with_reducible apply a0g | (with_reducible apply a0t; intro _) | rfl)
def f0a (rc42x1 : a0e) (L : List Lf) (k0 : Bool → Option R) : Option R := d6k N rc42x1 (ll L 1) (ls L 2) (li L 3) (li L 4) (li L 5) (li L 6) (li L 7) (li L 8) (lb L 9) (ll L 10) k0
def c5E : Sh := { tmps := [(0, .c (.sl 24)), (1, .c (.f 74 [(0, 0)]))], mem := [(0, .box (.s :: rI 6 ([.sl 9])))] }
def f0b (rc42x1 : a0e) (L : List Lf) : List (Bool × Res) := bnd (f0a N rc42x1 L (fun p => some p)) fun q => [(q.isSome, ([.c (.b (q.getD default))], mgA (a0k c5E L).mem [] [0]))]
theorem e51 (rc42x1 : a0e) (hR42x1 : a0a Tryz.prog ((a0I N) rc42x1)) (L : List Lf) : bd Tryz.prog ((d6i N) rc42x1) ((d6j N) rc42x1 hR42x1).h 75 c5E L = f0a N rc42x1 L (fun p => some ([.c (.b p)], mgA (a0k c5E L).mem [] [0])) := by kernel_rfl
theorem f0c (rc42x1 : a0e) (hR42x1 : a0a Tryz.prog ((a0I N) rc42x1)) : a0L Tryz.prog 75 c5E ((f0b N) rc42x1) :=
 ((d6j N) rc42x1 hR42x1).fn a0c ((c5D N) rc42x1 hR42x1) fun L x hx => ((e51 N rc42x1 hR42x1 L).trans ((e07 N rc42x1 ..).trans (a08 x hx)))
def e08 (rc42x1 : a0e) : a0d := ext 75 (a2l c5E ((f0b N) rc42x1)) ((d6i N) rc42x1)
theorem c2n (rc42x1 : a0e) (hR42x1 : a0a Tryz.prog ((a0I N) rc42x1)) : a0a Tryz.prog ((e08 N) rc42x1) := a0L.to ((f0c N) rc42x1 hR42x1) ((c5D N) rc42x1 hR42x1)
def e52 : List (Nat × List Nat) := [(0, [0, 1]), (1, [0, 1]), (2, [8, 7, 1, 0]), (3, [8, 1, 0, 7]), (4, [1, 0, 5, 8, 7]), (5, [5]), (6, [8, 7, 1, 0]), (7, [])]
def e53 : a0C := [(6, [0, 1, 7, 8], [], [])]
def d0i (rc42x1 : a0e) (hR42x1 : a0a Tryz.prog ((a0I N) rc42x1)) : Sg Tryz.prog 0 107 := .start e53 e52
def a9T (N : Nat) (rc42x1 : a0e) (w1 : LD) (w2 : LB) (w3 : Int) (w4 : Int) (kr : Int → Option R) (k0 : Int → Option R) (k1 : Unit → Option R) : Option R :=
 bif (decide (w4 < w3)) then
  bif (inB w4 w1.length) then
   bif (w2 == (w1.getD w4.toNat (.i 0)).toS) then
    k0 w4
   else
    kr (IntKind.wrap .i64 (w4 + 1))
  else
   none
 else
  k1 ()
def b6w (N : Nat) (rc42x1 : a0e) {R : Type} (w1 : LD) (w2 : LB) (w3 : Int) : Nat → Int → (Int → Option R) → (Unit → Option R) → Option R
 | 0, _, _, _ => none
 | m + 1, w4, k0, k1 => a9T N rc42x1 w1 w2 w3 w4 (fun w4 => b6w N rc42x1 w1 w2 w3 m w4 k0 k1) k0 k1
def c2o (rc42x1 : a0e) (w1 : LD) (w2 : LB) (w3 : Int) (w4 : Int) : Option (Sum (Int) (Unit)) := b6w N rc42x1 (R := (Sum (Int) (Unit))) w1 w2 w3 N w4 (fun p => some (.inl p)) (fun p => some (.inr p))
def b2q (rc42x1 : a0e) (L x : List Lf) (kr : List Lf → Option R) (k0 : Int → Option R) (k1 : Unit → Option R) : Option R := a9T N rc42x1 (ll L 1) (ls L 2) (li L 3) (li x 0) (fun w4 => kr [.i w4]) k0 k1
theorem c5F (rc42x1 : a0e) (L x : List Lf) (kr : List Lf → Option R) (k0 : Int → Option R) (k1 : Unit → Option R) : b2q N rc42x1 L x kr k0 k1 = (b2q N rc42x1 L x (fun y => some (.inl y)) (fun p => some (.inr (.inl p))) (fun p => some (.inr (.inr p)))).bind (a09 kr (a09 k0 k1)) := by
 unfold b2q a9T
 repeat' (first | with_reducible apply a0g | (with_reducible apply a0t; intro _) | rfl)
def b6x (rc42x1 : a0e) (L : List Lf) (m : Nat) (x : List Lf) : Option (Sum (Int) (Unit)) := b6w N rc42x1 (R := (Sum (Int) (Unit))) (ll L 1) (ls L 2) (li L 3) m (li x 0) (fun p => some (.inl p)) (fun p => some (.inr p))
def b2r : Sh := { tmps := [(0, .c (.sl 9)), (1, .c (.s)), (7, .c (.i .i64)), (8, .c (.i .i64))], mem := [] }
def e09 (rc42x1 : a0e) (L : List Lf) : List (Bool × (Ex × St)) := bnd (b6x N rc42x1 L N (pk b2r [4] L)) fun q => [((a0T q), (.ret, ⟨[(4, .c (.i .i64 (a0H q)))], []⟩)), ((a0l q).isSome, ((.exit 0), ⟨[], []⟩))]
theorem c7L (rc42x1 : a0e) (hR42x1 : a0a Tryz.prog ((a0I N) rc42x1)) (m : Nat) (kn : St → Option (Ex × St)) (L x : List Lf) : lpB Tryz.prog ((e08 N) rc42x1) ((d0i N) rc42x1 hR42x1).h 0 107 6 b2r [4] [4] [] (m + 100) kn L x = b2q N rc42x1 L x (fun y => kn (a0k b2r (mx b2r [4] L y))) (fun p => some (.ret, ⟨[(4, .c (.i .i64 p))], []⟩)) (fun _ => some ((.exit 0), ⟨[], []⟩)) := by kernel_rfl
theorem d6l (rc42x1 : a0e) (L : List Lf) (m : Nat) (x : List Lf) : b6x N rc42x1 L (m + 1) x = b2q N rc42x1 L x (b6x N rc42x1 L m) (fun p => some (.inl p)) (fun p => some (.inr p)) := by kernel_rfl
def d0j (rc42x1 : a0e) (hR42x1 : a0a Tryz.prog ((a0I N) rc42x1)) : Sg Tryz.prog 0 107 :=
 ((d0i N) rc42x1 hR42x1).lp ((e09 N) rc42x1) N a0c ((c2n N) rc42x1 hR42x1) (fun m kn L x => (c7L N rc42x1 hR42x1 m kn L x).trans (c5F N rc42x1 L x _ _ _)) (fun L m x => (d6l N rc42x1 L m x).trans (c5F N rc42x1 L x (b6x N rc42x1 L m) (fun p => some (.inl p)) (fun p => some (.inr p)))) fun L x hx => (a34 a08) x hx
def c0w (rc42x1 : a0e) (v1 : LD) (v2 : LB) (k0 : Int → Option R) : Option R :=
 bnd (c2o N rc42x1 v1 v2 (v1.length : Int) 0) fun y0 =>
 bif (a0T y0) then
  k0 (a0H y0)
 else
  bif (a0l y0).isSome then
   k0 (-1)
  else
   none
def d0k (rc42x1 : a0e) (v1 : LD) (v2 : LB) : Option (Int) := c0w N rc42x1 v1 v2 (fun p => some p)
theorem d6m (rc42x1 : a0e) (v1 : LD) (v2 : LB) (k0 : Int → Option R) : c0w N rc42x1 v1 v2 k0 = (d0k N rc42x1 v1 v2).bind k0 := by
 unfold d0k c0w
 repeat' (first | with_reducible apply a0g | (with_reducible apply a0t; intro _) | rfl)
def c7M : Sh := { tmps := [(0, .c (.sl 9)), (1, .c (.s))], mem := [] }
def e3s (rc42x1 : a0e) (L : List Lf) : List (Bool × Res) := bnd (c0w N rc42x1 (ll L 1) (ls L 2) (fun p => some p)) fun q => [(q.isSome, ([.c (.i .i64 (q.getD default))], []))]
theorem e1a (rc42x1 : a0e) (hR42x1 : a0a Tryz.prog ((a0I N) rc42x1)) (L : List Lf) : bd Tryz.prog ((e08 N) rc42x1) ((d0j N) rc42x1 hR42x1).h 107 c7M L = c0w N rc42x1 (ll L 1) (ls L 2) (fun p => some ([.c (.i .i64 p)], [])) := by kernel_rfl
theorem e54 (rc42x1 : a0e) (hR42x1 : a0a Tryz.prog ((a0I N) rc42x1)) : a0L Tryz.prog 107 c7M ((e3s N) rc42x1) :=
 ((d0j N) rc42x1 hR42x1).fn a0c ((c2n N) rc42x1 hR42x1) fun L x hx => ((e1a N rc42x1 hR42x1 L).trans ((d6m N rc42x1 ..).trans (a08 x hx)))
def d6n (rc42x1 : a0e) : a0d := ext 107 (a2l c7M ((e3s N) rc42x1)) ((e08 N) rc42x1)
theorem c5G (rc42x1 : a0e) (hR42x1 : a0a Tryz.prog ((a0I N) rc42x1)) : a0a Tryz.prog ((d6n N) rc42x1) := a0L.to ((e54 N) rc42x1 hR42x1) ((c2n N) rc42x1 hR42x1)
def f0d : List (Nat × List Nat) := [(0, [0, 1]), (1, [0, 1])]
def f0e : a0C := []
def d6o (rc42x1 : a0e) (hR42x1 : a0a Tryz.prog ((a0I N) rc42x1)) : Sg Tryz.prog 0 77 := .start f0e f0d
def d2C (rc42x1 : a0e) (v1 : LD) (v2 : LB) (k0 : Bool → Option R) : Option R :=
 bnd (d0k N rc42x1 v1 v2) fun y0 =>
 bif y0.isSome then
  k0 (decide ((y0.getD default) ≥ 0))
 else
  none
def d6p (rc42x1 : a0e) (v1 : LD) (v2 : LB) : Option (Bool) := d2C N rc42x1 v1 v2 (fun p => some p)
theorem e1b (rc42x1 : a0e) (v1 : LD) (v2 : LB) (k0 : Bool → Option R) : d2C N rc42x1 v1 v2 k0 = (d6p N rc42x1 v1 v2).bind k0 := by
 unfold d6p d2C
 repeat' (first | with_reducible apply a0g | (with_reducible apply a0t; intro _) | rfl)
def d6q : Sh := { tmps := [(0, .c (.sl 9)), (1, .c (.s))], mem := [] }
def f0f (rc42x1 : a0e) (L : List Lf) : List (Bool × Res) := bnd (d2C N rc42x1 (ll L 1) (ls L 2) (fun p => some p)) fun q => [(q.isSome, ([.c (.b (q.getD default))], []))]
theorem e55 (rc42x1 : a0e) (hR42x1 : a0a Tryz.prog ((a0I N) rc42x1)) (L : List Lf) : bd Tryz.prog ((d6n N) rc42x1) ((d6o N) rc42x1 hR42x1).h 77 d6q L = d2C N rc42x1 (ll L 1) (ls L 2) (fun p => some ([.c (.b p)], [])) := by kernel_rfl
theorem f0g (rc42x1 : a0e) (hR42x1 : a0a Tryz.prog ((a0I N) rc42x1)) : a0L Tryz.prog 77 d6q ((f0f N) rc42x1) :=
 ((d6o N) rc42x1 hR42x1).fn a0c ((c5G N) rc42x1 hR42x1) fun L x hx => ((e55 N rc42x1 hR42x1 L).trans ((e1b N rc42x1 ..).trans (a08 x hx)))
def e56 (rc42x1 : a0e) : a0d := ext 77 (a2l d6q ((f0f N) rc42x1)) ((d6n N) rc42x1)
theorem d0l (rc42x1 : a0e) (hR42x1 : a0a Tryz.prog ((a0I N) rc42x1)) : a0a Tryz.prog ((e56 N) rc42x1) := a0L.to ((f0g N) rc42x1 hR42x1) ((c5G N) rc42x1 hR42x1)
def e57 : List (Nat × List Nat) := [(0, [0]), (1, [1])]
def e58 : a0C := []
def d0m (rc42x1 : a0e) (hR42x1 : a0a Tryz.prog ((a0I N) rc42x1)) : Sg Tryz.prog 0 109 := .start e58 e57
def d0n (N : Nat) (rc42x1 : a0e) (k0 : Unit → R) : R :=
 k0 ()
def e3t (rc42x1 : a0e) : Unit := d0n N rc42x1 (fun p => p)
theorem e1c (rc42x1 : a0e) (k0 : Unit → R) : d0n N rc42x1 k0 = k0 (e3t N rc42x1) := by
 unfold e3t d0n
 repeat' (first | rfl | apply a0n | (apply a0A; intro _))
def c7N : Sh := { tmps := [(0, .g (.s :: rI 6 ([.sl 9])))], mem := [] }
def e3u (N : Nat) (rc42x1 : a0e) (L : List Lf) : List (Bool × Res) := [(true, ([.c (.i .i64 (li L 2))], []))]
theorem e1d (rc42x1 : a0e) (hR42x1 : a0a Tryz.prog ((a0I N) rc42x1)) (L : List Lf) : bd Tryz.prog ((e56 N) rc42x1) ((d0m N) rc42x1 hR42x1).h 109 c7N L = d0n N rc42x1 (fun _ => some ([.c (.i .i64 (li L 2))], [])) := by kernel_rfl
theorem e59 (rc42x1 : a0e) (hR42x1 : a0a Tryz.prog ((a0I N) rc42x1)) : a0L Tryz.prog 109 c7N ((e3u N) rc42x1) :=
 ((d0m N) rc42x1 hR42x1).fn a0c ((d0l N) rc42x1 hR42x1) fun L x hx => ((e1d N rc42x1 hR42x1 L).trans ((e1c N rc42x1 ..).trans (a2h _ _ hx)))
def d6r (rc42x1 : a0e) : a0d := ext 109 (a2l c7N ((e3u N) rc42x1)) ((e56 N) rc42x1)
theorem c5H (rc42x1 : a0e) (hR42x1 : a0a Tryz.prog ((a0I N) rc42x1)) : a0a Tryz.prog ((d6r N) rc42x1) := a0L.to ((e59 N) rc42x1 hR42x1) ((d0l N) rc42x1 hR42x1)
def e6a : List (Nat × List Nat) := [(0, [0]), (1, [1])]
def e6b : a0C := []
def d0o (rc42x1 : a0e) (hR42x1 : a0a Tryz.prog ((a0I N) rc42x1)) : Sg Tryz.prog 0 110 := .start e6b e6a
def c0x (N : Nat) (rc42x1 : a0e) (v2 : Int) (k0 : Int → R) : R :=
 k0 (IntKind.wrap .i64 (v2.tdiv 86400))
def d0p (rc42x1 : a0e) (v2 : Int) : Int := c0x N rc42x1 v2 (fun p => p)
theorem e1e (rc42x1 : a0e) (v2 : Int) (k0 : Int → R) : c0x N rc42x1 v2 k0 = k0 (d0p N rc42x1 v2) := by
 unfold d0p c0x
 repeat' (first | rfl | apply a0n | (apply a0A; intro _))
def c7O : Sh := { tmps := [(0, .g (.s :: rI 6 ([.sl 9])))], mem := [] }
def e3v (rc42x1 : a0e) (L : List Lf) : List (Bool × Res) := bnd (c0x N rc42x1 (li L 2) (fun p => p)) fun q => [(true, ([.c (.i .i64 q)], []))]
theorem e1f (rc42x1 : a0e) (hR42x1 : a0a Tryz.prog ((a0I N) rc42x1)) (L : List Lf) : bd Tryz.prog ((d6r N) rc42x1) ((d0o N) rc42x1 hR42x1).h 110 c7O L = c0x N rc42x1 (li L 2) (fun p => some ([.c (.i .i64 p)], [])) := by kernel_rfl
theorem e6c (rc42x1 : a0e) (hR42x1 : a0a Tryz.prog ((a0I N) rc42x1)) : a0L Tryz.prog 110 c7O ((e3v N) rc42x1) :=
 ((d0o N) rc42x1 hR42x1).fn a0c ((c5H N) rc42x1 hR42x1) fun L x hx => ((e1f N rc42x1 hR42x1 L).trans ((e1e N rc42x1 ..).trans (a2h _ _ hx)))
def d6s (rc42x1 : a0e) : a0d := ext 110 (a2l c7O ((e3v N) rc42x1)) ((d6r N) rc42x1)
theorem c5I (rc42x1 : a0e) (hR42x1 : a0a Tryz.prog ((a0I N) rc42x1)) : a0a Tryz.prog ((d6s N) rc42x1) := a0L.to ((e6c N) rc42x1 hR42x1) ((c5H N) rc42x1 hR42x1)
def e6d : List (Nat × List Nat) := [(0, [0]), (1, [1])]
def e6e : a0C := []
def d0q (rc42x1 : a0e) (hR42x1 : a0a Tryz.prog ((a0I N) rc42x1)) : Sg Tryz.prog 0 111 := .start e6e e6d
def d0r (N : Nat) (rc42x1 : a0e) (k0 : Unit → R) : R :=
 k0 ()
def e3w (rc42x1 : a0e) : Unit := d0r N rc42x1 (fun p => p)
theorem e1g (rc42x1 : a0e) (k0 : Unit → R) : d0r N rc42x1 k0 = k0 (e3w N rc42x1) := by
 unfold e3w d0r
 repeat' (first | rfl | apply a0n | (apply a0A; intro _))
def c7P : Sh := { tmps := [(0, .g (.s :: rI 6 ([.sl 9])))], mem := [] }
def e3x (N : Nat) (rc42x1 : a0e) (L : List Lf) : List (Bool × Res) := [(true, ([.c (.i .i64 (li L 3))], []))]
theorem e1h (rc42x1 : a0e) (hR42x1 : a0a Tryz.prog ((a0I N) rc42x1)) (L : List Lf) : bd Tryz.prog ((d6s N) rc42x1) ((d0q N) rc42x1 hR42x1).h 111 c7P L = d0r N rc42x1 (fun _ => some ([.c (.i .i64 (li L 3))], [])) := by kernel_rfl
theorem e6f (rc42x1 : a0e) (hR42x1 : a0a Tryz.prog ((a0I N) rc42x1)) : a0L Tryz.prog 111 c7P ((e3x N) rc42x1) :=
 ((d0q N) rc42x1 hR42x1).fn a0c ((c5I N) rc42x1 hR42x1) fun L x hx => ((e1h N rc42x1 hR42x1 L).trans ((e1g N rc42x1 ..).trans (a2h _ _ hx)))
def d6t (rc42x1 : a0e) : a0d := ext 111 (a2l c7P ((e3x N) rc42x1)) ((d6s N) rc42x1)
theorem c5J (rc42x1 : a0e) (hR42x1 : a0a Tryz.prog ((a0I N) rc42x1)) : a0a Tryz.prog ((d6t N) rc42x1) := a0L.to ((e6f N) rc42x1 hR42x1) ((c5I N) rc42x1 hR42x1)
def e6g : List (Nat × List Nat) := [(0, [0]), (1, [1])]
def e6h : a0C := []
def d0s (rc42x1 : a0e) (hR42x1 : a0a Tryz.prog ((a0I N) rc42x1)) : Sg Tryz.prog 0 112 := .start e6h e6g
def d0t (N : Nat) (rc42x1 : a0e) (k0 : Unit → R) : R :=
 k0 ()
def e3y (rc42x1 : a0e) : Unit := d0t N rc42x1 (fun p => p)
theorem e1i (rc42x1 : a0e) (k0 : Unit → R) : d0t N rc42x1 k0 = k0 (e3y N rc42x1) := by
 unfold e3y d0t
 repeat' (first | rfl | apply a0n | (apply a0A; intro _))
def c7Q : Sh := { tmps := [(0, .g (.s :: rI 6 ([.sl 9])))], mem := [] }
def e3z (N : Nat) (rc42x1 : a0e) (L : List Lf) : List (Bool × Res) := [(true, ([.c (.i .i64 (li L 4))], []))]
theorem e1j (rc42x1 : a0e) (hR42x1 : a0a Tryz.prog ((a0I N) rc42x1)) (L : List Lf) : bd Tryz.prog ((d6t N) rc42x1) ((d0s N) rc42x1 hR42x1).h 112 c7Q L = d0t N rc42x1 (fun _ => some ([.c (.i .i64 (li L 4))], [])) := by kernel_rfl
theorem e6i (rc42x1 : a0e) (hR42x1 : a0a Tryz.prog ((a0I N) rc42x1)) : a0L Tryz.prog 112 c7Q ((e3z N) rc42x1) :=
 ((d0s N) rc42x1 hR42x1).fn a0c ((c5J N) rc42x1 hR42x1) fun L x hx => ((e1j N rc42x1 hR42x1 L).trans ((e1i N rc42x1 ..).trans (a2h _ _ hx)))
def d6u (rc42x1 : a0e) : a0d := ext 112 (a2l c7Q ((e3z N) rc42x1)) ((d6t N) rc42x1)
theorem c5K (rc42x1 : a0e) (hR42x1 : a0a Tryz.prog ((a0I N) rc42x1)) : a0a Tryz.prog ((d6u N) rc42x1) := a0L.to ((e6i N) rc42x1 hR42x1) ((c5J N) rc42x1 hR42x1)
def e6j : List (Nat × List Nat) := [(0, [0]), (1, [1])]
def e6k : a0C := []
def d0u (rc42x1 : a0e) (hR42x1 : a0a Tryz.prog ((a0I N) rc42x1)) : Sg Tryz.prog 0 113 := .start e6k e6j
def d0v (N : Nat) (rc42x1 : a0e) (k0 : Unit → R) : R :=
 k0 ()
def e3A (rc42x1 : a0e) : Unit := d0v N rc42x1 (fun p => p)
theorem e1k (rc42x1 : a0e) (k0 : Unit → R) : d0v N rc42x1 k0 = k0 (e3A N rc42x1) := by
 unfold e3A d0v
 repeat' (first | rfl | apply a0n | (apply a0A; intro _))
def c7R : Sh := { tmps := [(0, .g (.s :: rI 6 ([.sl 9])))], mem := [] }
def e3B (N : Nat) (rc42x1 : a0e) (L : List Lf) : List (Bool × Res) := [(true, ([.c (.i .i64 (li L 5))], []))]
theorem e1l (rc42x1 : a0e) (hR42x1 : a0a Tryz.prog ((a0I N) rc42x1)) (L : List Lf) : bd Tryz.prog ((d6u N) rc42x1) ((d0u N) rc42x1 hR42x1).h 113 c7R L = d0v N rc42x1 (fun _ => some ([.c (.i .i64 (li L 5))], [])) := by kernel_rfl
theorem e6l (rc42x1 : a0e) (hR42x1 : a0a Tryz.prog ((a0I N) rc42x1)) : a0L Tryz.prog 113 c7R ((e3B N) rc42x1) :=
 ((d0u N) rc42x1 hR42x1).fn a0c ((c5K N) rc42x1 hR42x1) fun L x hx => ((e1l N rc42x1 hR42x1 L).trans ((e1k N rc42x1 ..).trans (a2h _ _ hx)))
def d6v (rc42x1 : a0e) : a0d := ext 113 (a2l c7R ((e3B N) rc42x1)) ((d6u N) rc42x1)
theorem c5L (rc42x1 : a0e) (hR42x1 : a0a Tryz.prog ((a0I N) rc42x1)) : a0a Tryz.prog ((d6v N) rc42x1) := a0L.to ((e6l N) rc42x1 hR42x1) ((c5K N) rc42x1 hR42x1)
def e6m : List (Nat × List Nat) := [(0, [0]), (1, [1])]
def e6n : a0C := []
def d0w (rc42x1 : a0e) (hR42x1 : a0a Tryz.prog ((a0I N) rc42x1)) : Sg Tryz.prog 0 114 := .start e6n e6m
def d0x (N : Nat) (rc42x1 : a0e) (k0 : Unit → R) : R :=
 k0 ()
def e3C (rc42x1 : a0e) : Unit := d0x N rc42x1 (fun p => p)
theorem e1m (rc42x1 : a0e) (k0 : Unit → R) : d0x N rc42x1 k0 = k0 (e3C N rc42x1) := by
 unfold e3C d0x
 repeat' (first | rfl | apply a0n | (apply a0A; intro _))
def c7S : Sh := { tmps := [(0, .g (.s :: rI 6 ([.sl 9])))], mem := [] }
def e3D (N : Nat) (rc42x1 : a0e) (L : List Lf) : List (Bool × Res) := [(true, ([.c (.i .i64 (li L 6))], []))]
theorem e1n (rc42x1 : a0e) (hR42x1 : a0a Tryz.prog ((a0I N) rc42x1)) (L : List Lf) : bd Tryz.prog ((d6v N) rc42x1) ((d0w N) rc42x1 hR42x1).h 114 c7S L = d0x N rc42x1 (fun _ => some ([.c (.i .i64 (li L 6))], [])) := by kernel_rfl
theorem e6o (rc42x1 : a0e) (hR42x1 : a0a Tryz.prog ((a0I N) rc42x1)) : a0L Tryz.prog 114 c7S ((e3D N) rc42x1) :=
 ((d0w N) rc42x1 hR42x1).fn a0c ((c5L N) rc42x1 hR42x1) fun L x hx => ((e1n N rc42x1 hR42x1 L).trans ((e1m N rc42x1 ..).trans (a2h _ _ hx)))
def d6w (rc42x1 : a0e) : a0d := ext 114 (a2l c7S ((e3D N) rc42x1)) ((d6v N) rc42x1)
theorem c5M (rc42x1 : a0e) (hR42x1 : a0a Tryz.prog ((a0I N) rc42x1)) : a0a Tryz.prog ((d6w N) rc42x1) := a0L.to ((e6o N) rc42x1 hR42x1) ((c5L N) rc42x1 hR42x1)
def e6p : List (Nat × List Nat) := [(0, [0]), (1, [1])]
def e6q : a0C := []
def d0y (rc42x1 : a0e) (hR42x1 : a0a Tryz.prog ((a0I N) rc42x1)) : Sg Tryz.prog 0 115 := .start e6q e6p
def c0y (N : Nat) (rc42x1 : a0e) (v2 : Int) (k0 : Int → R) : R :=
 k0 ((IntKind.wrap .i64 (v2.tdiv 86400)).tmod 7)
def d0z (rc42x1 : a0e) (v2 : Int) : Int := c0y N rc42x1 v2 (fun p => p)
theorem e1o (rc42x1 : a0e) (v2 : Int) (k0 : Int → R) : c0y N rc42x1 v2 k0 = k0 (d0z N rc42x1 v2) := by
 unfold d0z c0y
 repeat' (first | rfl | apply a0n | (apply a0A; intro _))
def c7T : Sh := { tmps := [(0, .g (.s :: rI 6 ([.sl 9])))], mem := [] }
def e3E (rc42x1 : a0e) (L : List Lf) : List (Bool × Res) := bnd (c0y N rc42x1 (li L 2) (fun p => p)) fun q => [(true, ([.c (.i .i64 q)], []))]
theorem e1p (rc42x1 : a0e) (hR42x1 : a0a Tryz.prog ((a0I N) rc42x1)) (L : List Lf) : bd Tryz.prog ((d6w N) rc42x1) ((d0y N) rc42x1 hR42x1).h 115 c7T L = c0y N rc42x1 (li L 2) (fun p => some ([.c (.i .i64 p)], [])) := by kernel_rfl
theorem e6r (rc42x1 : a0e) (hR42x1 : a0a Tryz.prog ((a0I N) rc42x1)) : a0L Tryz.prog 115 c7T ((e3E N) rc42x1) :=
 ((d0y N) rc42x1 hR42x1).fn a0c ((c5M N) rc42x1 hR42x1) fun L x hx => ((e1p N rc42x1 hR42x1 L).trans ((e1o N rc42x1 ..).trans (a2h _ _ hx)))
def d6x (rc42x1 : a0e) : a0d := ext 115 (a2l c7T ((e3E N) rc42x1)) ((d6w N) rc42x1)
theorem c5N (rc42x1 : a0e) (hR42x1 : a0a Tryz.prog ((a0I N) rc42x1)) : a0a Tryz.prog ((d6x N) rc42x1) := a0L.to ((e6r N) rc42x1 hR42x1) ((c5M N) rc42x1 hR42x1)
def f0h : List (Nat × List Nat) := [(0, [0, 1]), (1, [3, 2]), (2, [2, 5, 3]), (3, [8, 2, 5, 3]), (5, [8, 2, 5, 3]), (7, [8, 5, 2, 3]), (9, [8, 3, 2]), (11, [8, 3, 2]), (13, [8, 3, 2]), (14, [3, 2]), (12, [3, 2]), (10, [3, 2]), (8, [5, 2]), (6, [2, 5]), (4, [2, 5]), (15, [2, 3])]
def f0i : a0C := [(46, [2, 3], [2, 3], [])]
def d6y (rc42x1 : a0e) (hR42x1 : a0a Tryz.prog ((a0I N) rc42x1)) : Sg Tryz.prog 0 42 := .start f0i f0h
def b2s (rc42x1 : a0e) (w1 w2 w3 w9 w10 w11 w12 w13 : Int) (k0 : Bool → Option R) : Option R :=
 bif (w1 == 0) then
  none
 else
  bif (w1 == 1) then
   bnd (a6b N w9 w2 w3) fun y0 =>
   k0 y0
  else
   bif (w1 == 2) then
    bnd (d0p N rc42x1 w9) fun y1 =>
    bnd (a6b N y1 w2 w3) fun y2 =>
    k0 y2
   else
    bif (w1 == 3) then
     bnd (a6b N w10 w2 w3) fun y3 =>
     k0 y3
    else
     bif (w1 == 4) then
      bnd (a6b N w11 w2 w3) fun y4 =>
      k0 y4
     else
      bif (w1 == 5) then
       bnd (a6b N w12 w2 w3) fun y5 =>
       k0 y5
      else
       bif (w1 == 6) then
        bnd (a6b N w13 w2 w3) fun y6 =>
        k0 y6
       else
        bif (w1 == 7) then
         bnd (d0z N rc42x1 w9) fun y7 =>
         bnd (a6b N y7 w2 w3) fun y8 =>
         k0 y8
        else
         none
def b2t (rc42x1 : a0e) (w1 w2 w3 w9 w10 w11 w12 w13 : Int) : Option (Bool) := b2s N rc42x1 w1 w2 w3 w9 w10 w11 w12 w13 (fun p => some p)
theorem c7U (rc42x1 : a0e) (w1 w2 w3 w9 w10 w11 w12 w13 : Int) (k0 : Bool → Option R) : b2s N rc42x1 w1 w2 w3 w9 w10 w11 w12 w13 k0 = (b2t N rc42x1 w1 w2 w3 w9 w10 w11 w12 w13).bind k0 := by
 unfold b2t b2s
 repeat' (first | with_reducible apply a0g | (with_reducible apply a0t; intro _) | rfl)
def d0A (rc42x1 : a0e) (L : List Lf) (k0 : Bool → Option R) : Option R := b2s N rc42x1 (li L 1) (li L 2) (li L 3) (li L 9) (li L 10) (li L 11) (li L 12) (li L 13) k0
def d6z : Sh := { tmps := [(2, .c (.p 2 0)), (3, .c (.p 3 0))], mem := [(2, .box (.i .i64 :: [.i .i64, .i .i64, .i .i64, .s, .sl 24])), (3, .box (.s :: rI 6 ([.sl 9])))] }
def e1q (rc42x1 : a0e) (L : List Lf) : List (Bool × (Ex × St)) := bnd (d0A N rc42x1 L (fun p => some p)) fun q => [(q.isSome, (.normal, ⟨[(4, .c (.b (q.getD default)))], []⟩))]
theorem d2D (rc42x1 : a0e) (hR42x1 : a0a Tryz.prog ((a0I N) rc42x1)) (L : List Lf) : pc Tryz.prog ((d6x N) rc42x1) ((d6y N) rc42x1 hR42x1).h 0 100 42 46 d6z L [4] [] = d0A N rc42x1 L (fun p => some (.normal, ⟨[(4, .c (.b p))], []⟩)) := by kernel_rfl
def d6A (rc42x1 : a0e) (hR42x1 : a0a Tryz.prog ((a0I N) rc42x1)) : Sg Tryz.prog 0 42 :=
 ((d6y N) rc42x1 hR42x1).cut ((e1q N) rc42x1) a0c ((c5N N) rc42x1 hR42x1) fun L x hx => (d2D N rc42x1 hR42x1 L).trans ((c7U N rc42x1 ..).trans (a08 x hx))
def d6B (rc42x1 : a0e) (v0 v1 v2 v3 : Int) (v4 : LB) (v5 : Bool) (v6 : LD) (v7 : LB) (v8 v9 v10 v11 v12 v13 : Int) (v14 : Bool) (v15 : LD) (k0 : Bool → Option R) : Option R :=
 bif (v0 == 1) then
  bnd (e01 N rc42x1 v6 v7 v8 v9 v10 v11 v12 v13 v14 v15) fun y0 =>
  bif y0.isSome then
   k0 (!(y0.getD default))
  else
   none
 else
  bif (v0 == 2) then
   bnd (e06 N rc42x1 v6 v7 v8 v9 v10 v11 v12 v13 v14 v15) fun y1 =>
   bif y1.isSome then
    k0 (y1.getD default)
   else
    none
  else
   bif (v0 == 3) then
    bif (inB 0 v6.length) then
     bnd (c5u N rc42x1 ((v6.getD 0 (.i 0)).cell 0).toI ((v6.getD 0 (.i 0)).cell 1).toI ((v6.getD 0 (.i 0)).cell 2).toI ((v6.getD 0 (.i 0)).cell 3).toI ((v6.getD 0 (.i 0)).cell 4).toS ((v6.getD 0 (.i 0)).cell 5).isNil ((v6.getD 0 (.i 0)).cell 5).items v7 v8 v9 v10 v11 v12 v13 v14 v15) fun y2 =>
     bif y2.isSome then
      k0 (!(y2.getD default))
     else
      none
    else
     none
   else
    bif (v0 == 4) then
     k0 (v8 == v2)
    else
     bif (v0 == 5) then
      bnd (d6p N rc42x1 v15 v4) fun y3 =>
      bif y3.isSome then
       k0 (y3.getD default)
      else
       none
     else
      bif (v0 == 6) then
       bif (Nat.blt v7.length 4294967281) then
        k0 (Lib.contains v7 v4)
       else
        none
      else
       bnd (b2t N rc42x1 v1 v2 v3 v9 v10 v11 v12 v13) fun y4 =>
       bif y4.isSome then
        k0 (y4.getD default)
       else
        none
def d2E (rc42x1 : a0e) (v0 v1 v2 v3 : Int) (v4 : LB) (v5 : Bool) (v6 : LD) (v7 : LB) (v8 v9 v10 v11 v12 v13 : Int) (v14 : Bool) (v15 : LD) : Option (Bool) := d6B N rc42x1 v0 v1 v2 v3 v4 v5 v6 v7 v8 v9 v10 v11 v12 v13 v14 v15 (fun p => some p)
theorem e1r (rc42x1 : a0e) (v0 v1 v2 v3 : Int) (v4 : LB) (v5 : Bool) (v6 : LD) (v7 : LB) (v8 v9 v10 v11 v12 v13 : Int) (v14 : Bool) (v15 : LD) (k0 : Bool → Option R) : d6B N rc42x1 v0 v1 v2 v3 v4 v5 v6 v7 v8 v9 v10 v11 v12 v13 v14 v15 k0 = (d2E N rc42x1 v0 v1 v2 v3 v4 v5 v6 v7 v8 v9 v10 v11 v12 v13 v14 v15).bind k0 := by
 unfold d2E d6B
 repeat' (first | with_reducible apply a0g | (with_reducible apply a0t; intro _) | rfl)
def f3o (rc42x1 : a0e) (L : List Lf) (k0 : Bool → Option R) : Option R := d6B N rc42x1 (li L 0) (li L 1) (li L 2) (li L 3) (ls L 4) (lb L 5) (ll L 6) (ls L 7) (li L 8) (li L 9) (li L 10) (li L 11) (li L 12) (li L 13) (lb L 14) (ll L 15) k0
theorem e6s (rc42x1 : a0e) (hR42x1 : a0a Tryz.prog ((a0I N) rc42x1)) (L : List Lf) : bd Tryz.prog ((d6x N) rc42x1) ((d6A N) rc42x1 hR42x1).h 42 d0a L = f3o N rc42x1 L (fun p => some ([.c (.b p)], [])) := by kernel_rfl
theorem e6t (rc42x1 : a0e) (hR42x1 : a0a Tryz.prog ((a0I N) rc42x1)) (L : List Lf) (x : Res) (hx : a4Z ((e9S N) (fun v0 v1 v2 v3 v4 v5 v6 v7 v8 v9 v10 v11 v12 v13 v14 v15 => d2E N rc42x1 v0 v1 v2 v3 v4 v5 v6 v7 v8 v9 v10 v11 v12 v13 v14 v15) L) some = some x) : a1u Tryz.prog 42 (a5z (a0k d0a L).tmps) (a0k d0a L).mem x :=
 a3c (n := 200) a0c ((c5N N) rc42x1 hR42x1) ((d6A N) rc42x1 hR42x1).ok rfl ((e6s N rc42x1 hR42x1 L).trans ((e1r N rc42x1 ..).trans (a08 x hx)))
def a8l (N : Nat) : Nat → a0e
 | 0 => fun _ _ _ _ _ _ _ _ _ _ _ _ _ _ _ _ => none
 | m + 1 => fun v0 v1 v2 v3 v4 v5 v6 v7 v8 v9 v10 v11 v12 v13 v14 v15 => d2E N (a8l N m) v0 v1 v2 v3 v4 v5 v6 v7 v8 v9 v10 v11 v12 v13 v14 v15
theorem d6C (N : Nat) : ∀ m, a0a Tryz.prog ((a0I N) (a8l N m))
 | 0 => a0M (c99 N) (AM.enters_of (by kernel_rfl)) (a04 fun L x hx => by
  have h : (none : Option Res) = some x := hx
  cases h)
 | m + 1 => a0M (c99 N) (AM.enters_of (by kernel_rfl)) (a04 fun L x hx => e6t N (a8l N m) (d6C N m) L x hx)
def e6u : a0d := (a0I N) (a8l N N)
theorem d0B : a0a Tryz.prog (e6u N) := d6C N N
def e6v : List (Nat × List Nat) := [(0, [0]), (1, [1])]
def e6w : a0C := []
def d0C (N : Nat) : Sg Tryz.prog 0 109 := .start e6w e6v
def d0D (N : Nat) (k0 : Unit → R) : R :=
 k0 ()
def e3F : Unit := d0D N (fun p => p)
theorem e1s (k0 : Unit → R) : d0D N k0 = k0 (e3F N) := by
 unfold e3F d0D
 repeat' (first | rfl | apply a0n | (apply a0A; intro _))
def c7V : Sh := { tmps := [(0, .g (.s :: rI 6 ([.sl 9])))], mem := [] }
def e3G (N : Nat) (L : List Lf) : List (Bool × Res) := [(true, ([.c (.i .i64 (li L 2))], []))]
theorem e1t (L : List Lf) : bd Tryz.prog (e6u N) (d0C N).h 109 c7V L = d0D N (fun _ => some ([.c (.i .i64 (li L 2))], [])) := by kernel_rfl
theorem e6x : a0L Tryz.prog 109 c7V (e3G N) :=
 (d0C N).fn a0c (d0B N) fun L x hx => ((e1t N L).trans ((e1s N ..).trans (a2h _ _ hx)))
def d6D : a0d := ext 109 (a2l c7V (e3G N)) (e6u N)
theorem c5O : a0a Tryz.prog (d6D N) := a0L.to (e6x N) (d0B N)
def e6y : List (Nat × List Nat) := [(0, [0]), (1, [1])]
def e6z : a0C := []
def d0E (N : Nat) : Sg Tryz.prog 0 110 := .start e6z e6y
def c0z (N : Nat) (v2 : Int) (k0 : Int → R) : R :=
 k0 (IntKind.wrap .i64 (v2.tdiv 86400))
def c5P (v2 : Int) : Int := c0z N v2 (fun p => p)
theorem e1u (v2 : Int) (k0 : Int → R) : c0z N v2 k0 = k0 (c5P N v2) := by
 unfold c5P c0z
 repeat' (first | rfl | apply a0n | (apply a0A; intro _))
def c7W : Sh := { tmps := [(0, .g (.s :: rI 6 ([.sl 9])))], mem := [] }
def e3H (L : List Lf) : List (Bool × Res) := bnd (c0z N (li L 2) (fun p => p)) fun q => [(true, ([.c (.i .i64 q)], []))]
theorem e1v (L : List Lf) : bd Tryz.prog (d6D N) (d0E N).h 110 c7W L = c0z N (li L 2) (fun p => some ([.c (.i .i64 p)], [])) := by kernel_rfl
theorem e6A : a0L Tryz.prog 110 c7W (e3H N) :=
 (d0E N).fn a0c (c5O N) fun L x hx => ((e1v N L).trans ((e1u N ..).trans (a2h _ _ hx)))
def d6E : a0d := ext 110 (a2l c7W (e3H N)) (d6D N)
theorem c5Q : a0a Tryz.prog (d6E N) := a0L.to (e6A N) (c5O N)
def e6B : List (Nat × List Nat) := [(0, [0]), (1, [1])]
def e6C : a0C := []
def d0F (N : Nat) : Sg Tryz.prog 0 111 := .start e6C e6B
def d0G (N : Nat) (k0 : Unit → R) : R :=
 k0 ()
def e3I : Unit := d0G N (fun p => p)
theorem e1w (k0 : Unit → R) : d0G N k0 = k0 (e3I N) := by
 unfold e3I d0G
 repeat' (first | rfl | apply a0n | (apply a0A; intro _))
def c7X : Sh := { tmps := [(0, .g (.s :: rI 6 ([.sl 9])))], mem := [] }
def e3J (N : Nat) (L : List Lf) : List (Bool × Res) := [(true, ([.c (.i .i64 (li L 3))], []))]
theorem e1x (L : List Lf) : bd Tryz.prog (d6E N) (d0F N).h 111 c7X L = d0G N (fun _ => some ([.c (.i .i64 (li L 3))], [])) := by kernel_rfl
theorem e6D : a0L Tryz.prog 111 c7X (e3J N) :=
 (d0F N).fn a0c (c5Q N) fun L x hx => ((e1x N L).trans ((e1w N ..).trans (a2h _ _ hx)))
def d6F : a0d := ext 111 (a2l c7X (e3J N)) (d6E N)
theorem c5R : a0a Tryz.prog (d6F N) := a0L.to (e6D N) (c5Q N)
def e6E : List (Nat × List Nat) := [(0, [0]), (1, [1])]
def e6F : a0C := []
def d0H (N : Nat) : Sg Tryz.prog 0 112 := .start e6F e6E
def d0I (N : Nat) (k0 : Unit → R) : R :=
 k0 ()
def e3K : Unit := d0I N (fun p => p)
theorem e1y (k0 : Unit → R) : d0I N k0 = k0 (e3K N) := by
 unfold e3K d0I
 repeat' (first | rfl | apply a0n | (apply a0A; intro _))
def c7Y : Sh := { tmps := [(0, .g (.s :: rI 6 ([.sl 9])))], mem := [] }
def e3L (N : Nat) (L : List Lf) : List (Bool × Res) := [(true, ([.c (.i .i64 (li L 4))], []))]
theorem e1z (L : List Lf) : bd Tryz.prog (d6F N) (d0H N).h 112 c7Y L = d0I N (fun _ => some ([.c (.i .i64 (li L 4))], [])) := by kernel_rfl
theorem e6G : a0L Tryz.prog 112 c7Y (e3L N) :=
 (d0H N).fn a0c (c5R N) fun L x hx => ((e1z N L).trans ((e1y N ..).trans (a2h _ _ hx)))
def d6G : a0d := ext 112 (a2l c7Y (e3L N)) (d6F N)
theorem c5S : a0a Tryz.prog (d6G N) := a0L.to (e6G N) (c5R N)
def e6H : List (Nat × List Nat) := [(0, [0]), (1, [1])]
def e6I : a0C := []
def d0J (N : Nat) : Sg Tryz.prog 0 113 := .start e6I e6H
def d0K (N : Nat) (k0 : Unit → R) : R :=
 k0 ()
def e3M : Unit := d0K N (fun p => p)
theorem e1A (k0 : Unit → R) : d0K N k0 = k0 (e3M N) := by
 unfold e3M d0K
 repeat' (first | rfl | apply a0n | (apply a0A; intro _))
def c7Z : Sh := { tmps := [(0, .g (.s :: rI 6 ([.sl 9])))], mem := [] }
def e3N (N : Nat) (L : List Lf) : List (Bool × Res) := [(true, ([.c (.i .i64 (li L 5))], []))]
theorem e1B (L : List Lf) : bd Tryz.prog (d6G N) (d0J N).h 113 c7Z L = d0K N (fun _ => some ([.c (.i .i64 (li L 5))], [])) := by kernel_rfl
theorem e6J : a0L Tryz.prog 113 c7Z (e3N N) :=
 (d0J N).fn a0c (c5S N) fun L x hx => ((e1B N L).trans ((e1A N ..).trans (a2h _ _ hx)))
def d6H : a0d := ext 113 (a2l c7Z (e3N N)) (d6G N)
theorem c5T : a0a Tryz.prog (d6H N) := a0L.to (e6J N) (c5S N)
def e6K : List (Nat × List Nat) := [(0, [0]), (1, [1])]
def e6L : a0C := []
def d0L (N : Nat) : Sg Tryz.prog 0 114 := .start e6L e6K
def d0M (N : Nat) (k0 : Unit → R) : R :=
 k0 ()
def e3O : Unit := d0M N (fun p => p)
theorem e1C (k0 : Unit → R) : d0M N k0 = k0 (e3O N) := by
 unfold e3O d0M
 repeat' (first | rfl | apply a0n | (apply a0A; intro _))
def c70 : Sh := { tmps := [(0, .g (.s :: rI 6 ([.sl 9])))], mem := [] }
def e3P (N : Nat) (L : List Lf) : List (Bool × Res) := [(true, ([.c (.i .i64 (li L 6))], []))]
theorem e1D (L : List Lf) : bd Tryz.prog (d6H N) (d0L N).h 114 c70 L = d0M N (fun _ => some ([.c (.i .i64 (li L 6))], [])) := by kernel_rfl
theorem e6M : a0L Tryz.prog 114 c70 (e3P N) :=
 (d0L N).fn a0c (c5T N) fun L x hx => ((e1D N L).trans ((e1C N ..).trans (a2h _ _ hx)))
def d6I : a0d := ext 114 (a2l c70 (e3P N)) (d6H N)
theorem c5U : a0a Tryz.prog (d6I N) := a0L.to (e6M N) (c5T N)
def e6N : List (Nat × List Nat) := [(0, [0]), (1, [1])]
def e6O : a0C := []
def d0N (N : Nat) : Sg Tryz.prog 0 115 := .start e6O e6N
def c0A (N : Nat) (v2 : Int) (k0 : Int → R) : R :=
 k0 ((IntKind.wrap .i64 (v2.tdiv 86400)).tmod 7)
def c5V (v2 : Int) : Int := c0A N v2 (fun p => p)
theorem e1E (v2 : Int) (k0 : Int → R) : c0A N v2 k0 = k0 (c5V N v2) := by
 unfold c5V c0A
 repeat' (first | rfl | apply a0n | (apply a0A; intro _))
def c71 : Sh := { tmps := [(0, .g (.s :: rI 6 ([.sl 9])))], mem := [] }
def e3Q (L : List Lf) : List (Bool × Res) := bnd (c0A N (li L 2) (fun p => p)) fun q => [(true, ([.c (.i .i64 q)], []))]
theorem e1F (L : List Lf) : bd Tryz.prog (d6I N) (d0N N).h 115 c71 L = c0A N (li L 2) (fun p => some ([.c (.i .i64 p)], [])) := by kernel_rfl
theorem e6P : a0L Tryz.prog 115 c71 (e3Q N) :=
 (d0N N).fn a0c (c5U N) fun L x hx => ((e1F N L).trans ((e1E N ..).trans (a2h _ _ hx)))
def d6J : a0d := ext 115 (a2l c71 (e3Q N)) (d6I N)
theorem c5W : a0a Tryz.prog (d6J N) := a0L.to (e6P N) (c5U N)
def e6Q : List (Nat × List Nat) := [(0, [0]), (1, [])]
def e6R : a0C := []
def d0O (N : Nat) : Sg Tryz.prog 0 104 := .start e6R e6Q
def d0P (N : Nat) (k0 : Unit → R) : R :=
 k0 ()
def e3R : Unit := d0P N (fun p => p)
theorem e1G (k0 : Unit → R) : d0P N k0 = k0 (e3R N) := by
 unfold e3R d0P
 repeat' (first | rfl | apply a0n | (apply a0A; intro _))
def c72 : Sh := { tmps := [(0, .g (.s :: rI 6 ([.sl 9])))], mem := [] }
def e3S (N : Nat) (L : List Lf) : List (Bool × Res) := [(true, ([.c (.i .i64 1)], []))]
theorem e1H (L : List Lf) : bd Tryz.prog (d6J N) (d0O N).h 104 c72 L = d0P N (fun _ => some ([.c (.i .i64 1)], [])) := by kernel_rfl
theorem e6S : a0L Tryz.prog 104 c72 (e3S N) :=
 (d0O N).fn a0c (c5W N) fun L x hx => ((e1H N L).trans ((e1G N ..).trans (a2h _ _ hx)))
def a0J : a0d := ext 104 (a2l c72 (e3S N)) (d6J N)
theorem a0h : a0a Tryz.prog (a0J N) := a0L.to (e6S N) (c5W N)
def f0j : List (Nat × List Nat) := [(0, [0, 1]), (1, [2, 1, 4]), (2, [2, 1, 4, 6]), (3, [2, 1, 4]), (4, [1, 2, 6, 4]), (5, [1, 2, 6, 4, 8, 7]), (6, [23, 22, 21, 2, 6, 4, 8, 7]), (7, [21, 23, 2, 22, 6, 4, 8, 7]), (8, [2, 10, 23, 22, 21, 6, 4, 8, 7]), (9, [10, 2, 6, 4, 23, 22, 21, 8, 7]), (10, [2, 6, 10, 4, 23, 22, 21, 8, 11, 7]), (12, [36, 6, 10, 2, 4, 23, 22, 21, 8, 11, 7]), (14, [36, 11, 8, 7, 2, 10, 4, 23, 22, 21, 6]), (11, [7, 6, 10, 2, 4, 23, 22, 21, 8]), (16, [11, 8, 7, 2, 10, 4, 23, 22, 21, 6]), (17, [8, 11, 7, 2, 10, 4, 23, 22, 21, 6]), (15, [11, 2, 10, 4, 23, 22, 21, 6]), (18, [7, 11, 2, 10, 4, 23, 22, 21, 6]), (19, [11, 7, 2, 10, 4, 23, 22, 21, 6]), (13, [6, 10, 2, 4, 23, 22, 21, 8]), (20, [7, 2, 10, 4, 23, 22, 21, 6, 8]), (21, [10, 4]), (22, [23, 22, 21, 2, 6, 4, 8, 7]), (23, [4])]
def f0k : a0C := [(10, [1, 2, 4], [2, 4], []), (11, [1, 2, 4, 6, 14], [2, 4], []), (18, [2, 4, 6, 7, 8, 21, 22, 23], [2, 4], []), (45056, [2, 4, 6, 7, 10, 11, 21, 22, 23, 53], [2, 4, 10], []), (51002, [2, 4, 6, 7, 8, 10, 11, 21, 22, 23, 49], [2, 4, 10], []), (33050, [2, 4, 6, 7, 8, 10, 11, 21, 22, 23, 47], [2, 4, 10], []), (42041, [2, 4, 6, 7, 8, 10, 11, 21, 22, 23, 36, 42], [2, 4, 10], [])]
def d6K (N : Nat) : Sg Tryz.prog 0 67 := .start f0k f0j
def b2u (N : Nat) (w4 : Int) (k0 : Unit → Option R) (k1 : Unit → Option R) (k2 : Unit → Option R) (k3 : Unit → Option R) (k4 : Unit → Option R) (k5 : Unit → Option R) (k6 : Unit → Option R) (k7 : Unit → Option R) : Option R :=
 bif (w4 == 0) then
  k0 ()
 else
  bif (w4 == 1) then
   k1 ()
  else
   bif (w4 == 2) then
    k2 ()
   else
    bif (w4 == 3) then
     k3 ()
    else
     bif (w4 == 4) then
      k4 ()
     else
      bif (w4 == 5) then
       k5 ()
      else
       bif (w4 == 6) then
        k6 ()
       else
        bif (w4 == 7) then
         k7 ()
        else
         none
def c2p (w4 : Int) : Option (Sum (Unit) (Sum (Unit) (Sum (Unit) (Sum (Unit) (Sum (Unit) (Sum (Unit) (Sum (Unit) (Unit)))))))) := b2u N w4 (fun p => some (.inl p)) (fun p => some (.inr (.inl p))) (fun p => some (.inr (.inr (.inl p)))) (fun p => some (.inr (.inr (.inr (.inl p))))) (fun p => some (.inr (.inr (.inr (.inr (.inl p)))))) (fun p => some (.inr (.inr (.inr (.inr (.inr (.inl p))))))) (fun p => some (.inr (.inr (.inr (.inr (.inr (.inr (.inl p)))))))) (fun p => some (.inr (.inr (.inr (.inr (.inr (.inr (.inr p))))))))
theorem c73 (w4 : Int) (k0 : Unit → Option R) (k1 : Unit → Option R) (k2 : Unit → Option R) (k3 : Unit → Option R) (k4 : Unit → Option R) (k5 : Unit → Option R) (k6 : Unit → Option R) (k7 : Unit → Option R) : b2u N w4 k0 k1 k2 k3 k4 k5 k6 k7 = (c2p N w4).bind (a09 k0 (a09 k1 (a09 k2 (a09 k3 (a09 k4 (a09 k5 (a09 k6 k7))))))) := by
 unfold c2p b2u
 repeat' (first | with_reducible apply a0g | (with_reducible apply a0t; intro _) | rfl)
def a3P : Sh := { tmps := [(1, .c (.sl 40)), (2, .c (.p 2 0)), (4, .c (.p 4 0))], mem := [(2, .box (.s :: rI 7 ([.s, .sl 24]))), (4, .box (.s :: rI 6 ([.sl 9])))] }
def c0B (L : List Lf) (_ : Unit) : Ex × St := (.normal, mg (a0k a3P L) [1, 2, 4, 6] [(6, .c (.v .nilFunc))] [2, 4] [])
def c0C (L : List Lf) (_ : Unit) : Ex × St := (.normal, mg (a0k a3P L) [1, 2, 4, 6] [(6, .c (.f 109 []))] [2, 4] [])
def c0D (L : List Lf) (_ : Unit) : Ex × St := (.normal, mg (a0k a3P L) [1, 2, 4, 6] [(6, .c (.f 110 []))] [2, 4] [])
def c0E (L : List Lf) (_ : Unit) : Ex × St := (.normal, mg (a0k a3P L) [1, 2, 4, 6] [(6, .c (.f 111 []))] [2, 4] [])
def c0F (L : List Lf) (_ : Unit) : Ex × St := (.normal, mg (a0k a3P L) [1, 2, 4, 6] [(6, .c (.f 112 []))] [2, 4] [])
def c0G (L : List Lf) (_ : Unit) : Ex × St := (.normal, mg (a0k a3P L) [1, 2, 4, 6] [(6, .c (.f 113 []))] [2, 4] [])
def c0H (L : List Lf) (_ : Unit) : Ex × St := (.normal, mg (a0k a3P L) [1, 2, 4, 6] [(6, .c (.f 114 []))] [2, 4] [])
def c0I (L : List Lf) (_ : Unit) : Ex × St := (.normal, mg (a0k a3P L) [1, 2, 4, 6] [(6, .c (.f 115 []))] [2, 4] [])
def e1I (L : List Lf) : List (Bool × (Ex × St)) := bnd (b2u N (li L 4) (fun p => some (.inl p)) (fun p => some (.inr (.inl p))) (fun p => some (.inr (.inr (.inl p)))) (fun p => some (.inr (.inr (.inr (.inl p))))) (fun p => some (.inr (.inr (.inr (.inr (.inl p)))))) (fun p => some (.inr (.inr (.inr (.inr (.inr (.inl p))))))) (fun p => some (.inr (.inr (.inr (.inr (.inr (.inr (.inl p)))))))) (fun p => some (.inr (.inr (.inr (.inr (.inr (.inr (.inr p))))))))) fun q => [((a0T q), c0B L ()), ((a0T (a0l q)), c0C L ()), ((a0T (a0l (a0l q))), c0D L ()), ((a0T (a0l (a0l (a0l q)))), c0E L ()), ((a0T (a0l (a0l (a0l (a0l q))))), c0F L ()), ((a0T (a0l (a0l (a0l (a0l (a0l q)))))), c0G L ()), ((a0T (a0l (a0l (a0l (a0l (a0l (a0l q))))))), c0H L ()), ((a0l (a0l (a0l (a0l (a0l (a0l (a0l q))))))).isSome, c0I L ())]
theorem d2F (L : List Lf) : pc Tryz.prog (a0J N) (d6K N).h 0 100 67 10 a3P L [1, 2, 4, 6] [2, 4] = b2u N (li L 4) (fun _ => some (c0B L ())) (fun _ => some (c0C L ())) (fun _ => some (c0D L ())) (fun _ => some (c0E L ())) (fun _ => some (c0F L ())) (fun _ => some (c0G L ())) (fun _ => some (c0H L ())) (fun _ => some (c0I L ())) := by kernel_rfl
def d6L : Sg Tryz.prog 0 67 :=
 (d6K N).cut (e1I N) a0c (a0h N) fun L x hx => (d2F N L).trans ((c73 N ..).trans ((a34 (a34 (a34 (a34 (a34 (a34 (a34 a08))))))) x hx))
def b2v (w2 : Bool) (w5 : Int) (k0 : Unit → Option R) (k1 : Unit → Option R) (k2 : Unit → Option R) (k3 : Unit → Option R) (k4 : Unit → Option R) (k5 : Unit → Option R) (k6 : Unit → Option R) (k7 : Unit → Option R) (k8 : Unit → Option R) : Option R :=
 bif w2 then
  bnd (c2p N w5) fun y0 =>
  bif (a0T y0) then
   k0 ()
  else
   bif (a0T (a0l y0)) then
    k1 ()
   else
    bif (a0T (a0l (a0l y0))) then
     k2 ()
    else
     bif (a0T (a0l (a0l (a0l y0)))) then
      k3 ()
     else
      bif (a0T (a0l (a0l (a0l (a0l y0))))) then
       k4 ()
      else
       bif (a0T (a0l (a0l (a0l (a0l (a0l y0)))))) then
        k5 ()
       else
        bif (a0T (a0l (a0l (a0l (a0l (a0l (a0l y0))))))) then
         k6 ()
        else
         bif (a0l (a0l (a0l (a0l (a0l (a0l (a0l y0))))))).isSome then
          k7 ()
         else
          none
 else
  k8 ()
def c2q (w2 : Bool) (w5 : Int) : Option (Sum (Unit) (Sum (Unit) (Sum (Unit) (Sum (Unit) (Sum (Unit) (Sum (Unit) (Sum (Unit) (Sum (Unit) (Unit))))))))) := b2v N w2 w5 (fun p => some (.inl p)) (fun p => some (.inr (.inl p))) (fun p => some (.inr (.inr (.inl p)))) (fun p => some (.inr (.inr (.inr (.inl p))))) (fun p => some (.inr (.inr (.inr (.inr (.inl p)))))) (fun p => some (.inr (.inr (.inr (.inr (.inr (.inl p))))))) (fun p => some (.inr (.inr (.inr (.inr (.inr (.inr (.inl p)))))))) (fun p => some (.inr (.inr (.inr (.inr (.inr (.inr (.inr (.inl p))))))))) (fun p => some (.inr (.inr (.inr (.inr (.inr (.inr (.inr (.inr p)))))))))
theorem c74 (w2 : Bool) (w5 : Int) (k0 : Unit → Option R) (k1 : Unit → Option R) (k2 : Unit → Option R) (k3 : Unit → Option R) (k4 : Unit → Option R) (k5 : Unit → Option R) (k6 : Unit → Option R) (k7 : Unit → Option R) (k8 : Unit → Option R) : b2v N w2 w5 k0 k1 k2 k3 k4 k5 k6 k7 k8 = (c2q N w2 w5).bind (a09 k0 (a09 k1 (a09 k2 (a09 k3 (a09 k4 (a09 k5 (a09 k6 (a09 k7 k8)))))))) := by
 unfold c2q b2v
 repeat' (first | with_reducible apply a0g | (with_reducible apply a0t; intro _) | rfl)
def a2J : Sh := { tmps := [(1, .c (.sl 40)), (2, .c (.p 2 0)), (4, .c (.p 4 0)), (6, .c (.f 104 [])), (14, .c (.b))], mem := [(2, .box (.s :: rI 7 ([.s, .sl 24]))), (4, .box (.s :: rI 6 ([.sl 9])))] }
def c0J (L : List Lf) (_ : Unit) : Ex × St := (.normal, mg (a0k a2J L) [1, 2, 4, 6] [(6, .c (.v .nilFunc))] [2, 4] [])
def c0K (L : List Lf) (_ : Unit) : Ex × St := (.normal, mg (a0k a2J L) [1, 2, 4, 6] [(6, .c (.f 109 []))] [2, 4] [])
def c0L (L : List Lf) (_ : Unit) : Ex × St := (.normal, mg (a0k a2J L) [1, 2, 4, 6] [(6, .c (.f 110 []))] [2, 4] [])
def c0M (L : List Lf) (_ : Unit) : Ex × St := (.normal, mg (a0k a2J L) [1, 2, 4, 6] [(6, .c (.f 111 []))] [2, 4] [])
def c0N (L : List Lf) (_ : Unit) : Ex × St := (.normal, mg (a0k a2J L) [1, 2, 4, 6] [(6, .c (.f 112 []))] [2, 4] [])
def c0O (L : List Lf) (_ : Unit) : Ex × St := (.normal, mg (a0k a2J L) [1, 2, 4, 6] [(6, .c (.f 113 []))] [2, 4] [])
def c0P (L : List Lf) (_ : Unit) : Ex × St := (.normal, mg (a0k a2J L) [1, 2, 4, 6] [(6, .c (.f 114 []))] [2, 4] [])
def c0Q (L : List Lf) (_ : Unit) : Ex × St := (.normal, mg (a0k a2J L) [1, 2, 4, 6] [(6, .c (.f 115 []))] [2, 4] [])
def e1J (L : List Lf) : List (Bool × (Ex × St)) := bnd (b2v N (lb L 2) (li L 5) (fun p => some (.inl p)) (fun p => some (.inr (.inl p))) (fun p => some (.inr (.inr (.inl p)))) (fun p => some (.inr (.inr (.inr (.inl p))))) (fun p => some (.inr (.inr (.inr (.inr (.inl p)))))) (fun p => some (.inr (.inr (.inr (.inr (.inr (.inl p))))))) (fun p => some (.inr (.inr (.inr (.inr (.inr (.inr (.inl p)))))))) (fun p => some (.inr (.inr (.inr (.inr (.inr (.inr (.inr (.inl p))))))))) (fun p => some (.inr (.inr (.inr (.inr (.inr (.inr (.inr (.inr p)))))))))) fun q => [((a0T q), c0J L ()), ((a0T (a0l q)), c0K L ()), ((a0T (a0l (a0l q))), c0L L ()), ((a0T (a0l (a0l (a0l q)))), c0M L ()), ((a0T (a0l (a0l (a0l (a0l q))))), c0N L ()), ((a0T (a0l (a0l (a0l (a0l (a0l q)))))), c0O L ()), ((a0T (a0l (a0l (a0l (a0l (a0l (a0l q))))))), c0P L ()), ((a0T (a0l (a0l (a0l (a0l (a0l (a0l (a0l q)))))))), c0Q L ()), ((a0l (a0l (a0l (a0l (a0l (a0l (a0l (a0l q)))))))).isSome, (.normal, mg (a0k a2J L) [1, 2, 4, 6] [] [2, 4] []))]
theorem d2G (L : List Lf) : pc Tryz.prog (a0J N) (d6L N).h 0 100 67 11 a2J L [1, 2, 4, 6] [2, 4] = b2v N (lb L 2) (li L 5) (fun _ => some (c0J L ())) (fun _ => some (c0K L ())) (fun _ => some (c0L L ())) (fun _ => some (c0M L ())) (fun _ => some (c0N L ())) (fun _ => some (c0O L ())) (fun _ => some (c0P L ())) (fun _ => some (c0Q L ())) (fun _ => some (.normal, mg (a0k a2J L) [1, 2, 4, 6] [] [2, 4] [])) := by kernel_rfl
def d6M : Sg Tryz.prog 0 67 :=
 (d6L N).cut (e1J N) a0c (a0h N) fun L x hx => (d2G N L).trans ((c74 N ..).trans ((a34 (a34 (a34 (a34 (a34 (a34 (a34 (a34 a08)))))))) x hx))
def a5G (N : Nat) (w0 : Int) (w6 : Bool) (k0 : Int → R) : R :=
 bif w6 then
  k0 (IntKind.wrap .i64 (w0 + 1))
 else
  k0 1
def b1g (w0 : Int) (w6 : Bool) : Int := a5G N w0 w6 (fun p => p)
theorem c2r (w0 : Int) (w6 : Bool) (k0 : Int → R) : a5G N w0 w6 k0 = k0 (b1g N w0 w6) := by
 unfold b1g a5G
 repeat' (first | rfl | apply a0n | (apply a0A; intro _))
def b49 : Sh := { tmps := [(2, .c (.p 2 0)), (4, .c (.p 4 0)), (6, .c (.nilf)), (7, .c (.i .i64)), (10, .c (.p 10 0)), (11, .c (.i .i64)), (21, .c (.sl 40)), (22, .c (.i .i64)), (23, .c (.i .i64)), (53, .c (.b))], mem := [(2, .box (.s :: rI 7 ([.s, .sl 24]))), (4, .box (.s :: rI 6 ([.sl 9]))), (10, .box (.s :: rI 6 ([.sl 9])))] }
def b2w (L : List Lf) (p : Int) : Ex × St := (.normal, mg (a0k b49 L) [2, 4, 6, 7, 10, 11, 21, 22, 23] [(7, .c (.i .i64 p))] [2, 4, 10] [])
def c75 (L : List Lf) : List (Bool × (Ex × St)) := bnd (a5G N (li L 0) (lb L 6) (fun p => p)) fun q => [(true, b2w L q)]
theorem c2s (L : List Lf) : pc Tryz.prog (a0J N) (d6M N).h 0 100 67 45056 b49 L [2, 4, 6, 7, 10, 11, 21, 22, 23] [2, 4, 10] = a5G N (li L 0) (lb L 6) (fun p => some (b2w L p)) := by kernel_rfl
def d6N : Sg Tryz.prog 0 67 :=
 (d6M N).cut (c75 N) a0c (a0h N) fun L x hx => (c2s N L).trans ((c2r N ..).trans (a2h _ _ hx))
def a7M (w0 w1 w2 : Int) (w7 : Bool) (k0 : Int → R) : R :=
 bif w7 then
  k0 w0
 else
  bnd (bif (decide (w1 ≥ 0)) then (w2 == (IntKind.wrap .i64 (w1 + 1))) else false) fun y0 =>
  bnd (b1g N w0 y0) fun y1 =>
  k0 y1
def b1h (w0 w1 w2 : Int) (w7 : Bool) : Int := a7M N w0 w1 w2 w7 (fun p => p)
theorem c2t (w0 w1 w2 : Int) (w7 : Bool) (k0 : Int → R) : a7M N w0 w1 w2 w7 k0 = k0 (b1h N w0 w1 w2 w7) := by
 unfold b1h a7M
 repeat' (first | rfl | apply a0n | (apply a0A; intro _))
def b8o (L : List Lf) (k0 : Int → R) : R := a7M N (li L 0) (li L 1) (li L 2) (lb L 7) k0
def b5a : Sh := { tmps := [(2, .c (.p 2 0)), (4, .c (.p 4 0)), (6, .c (.nilf)), (7, .c (.i .i64)), (8, .c (.i .i64)), (10, .c (.p 10 0)), (11, .c (.i .i64)), (21, .c (.sl 40)), (22, .c (.i .i64)), (23, .c (.i .i64)), (49, .c (.b))], mem := [(2, .box (.s :: rI 7 ([.s, .sl 24]))), (4, .box (.s :: rI 6 ([.sl 9]))), (10, .box (.s :: rI 6 ([.sl 9])))] }
def b2x (L : List Lf) (p : Int) : Ex × St := (.normal, mg (a0k b5a L) [2, 4, 6, 7, 10, 11, 21, 22, 23] [(7, .c (.i .i64 p))] [2, 4, 10] [])
def c76 (L : List Lf) : List (Bool × (Ex × St)) := bnd (b8o N L (fun p => p)) fun q => [(true, b2x L q)]
theorem c2u (L : List Lf) : pc Tryz.prog (a0J N) (d6N N).h 0 100 67 51002 b5a L [2, 4, 6, 7, 10, 11, 21, 22, 23] [2, 4, 10] = b8o N L (fun p => some (b2x L p)) := by kernel_rfl
def d6O : Sg Tryz.prog 0 67 :=
 (d6N N).cut (c76 N) a0c (a0h N) fun L x hx => (c2u N L).trans ((c2t N ..).trans (a2h _ _ hx))
def c2v (w3 : LD) (w4 w7 w9 w10 w11 w12 w13 : Int) (w14 : LB) (w15 : Bool) (w16 : LD) (w0 w1 w5 : Int) (kr : Int → Int → Int → Option R) (k0 : Ty1 → Option R) (k1 : Unit → Option R) : Option R :=
 bif (decide (w5 < w4)) then
  bif (inB w5 w3.length) then
   bnd (a8l N N w10 w11 w12 w13 w14 w15 w16 ((w3.getD w5.toNat (.i 0)).cell 0).toS ((w3.getD w5.toNat (.i 0)).cell 1).toI ((w3.getD w5.toNat (.i 0)).cell 2).toI ((w3.getD w5.toNat (.i 0)).cell 3).toI ((w3.getD w5.toNat (.i 0)).cell 4).toI ((w3.getD w5.toNat (.i 0)).cell 5).toI ((w3.getD w5.toNat (.i 0)).cell 6).toI ((w3.getD w5.toNat (.i 0)).cell 7).isNil ((w3.getD w5.toNat (.i 0)).cell 7).items) fun y0 =>
   bif y0.isSome then
    bif (!(y0.getD default)) then
     kr w0 w1 (IntKind.wrap .i64 (w5 + 1))
    else
     bnd (IntKind.wrap .i64 (((w3.getD w5.toNat (.i 0)).cell 2).toI.tdiv 86400)) fun y1 =>
     bif (w7 == 3) then
      none
     else
      bif (w7 == 4) then
       bnd (b1h N w0 w1 y1 (y1 == w1)) fun y2 =>
       bif (decide (y2 ≥ w9)) then
        k0 (((w3.getD w5.toNat (.i 0)).cell 0).toS, ((w3.getD w5.toNat (.i 0)).cell 1).toI, ((w3.getD w5.toNat (.i 0)).cell 2).toI, ((w3.getD w5.toNat (.i 0)).cell 3).toI, ((w3.getD w5.toNat (.i 0)).cell 4).toI, ((w3.getD w5.toNat (.i 0)).cell 5).toI, ((w3.getD w5.toNat (.i 0)).cell 6).toI, ((w3.getD w5.toNat (.i 0)).cell 7).isNil, ((w3.getD w5.toNat (.i 0)).cell 7).items)
       else
        kr y2 y1 (IntKind.wrap .i64 (w5 + 1))
      else
       none
   else
    none
  else
   none
 else
  k1 ()
def c2w (N : Nat) {R : Type} (w3 : LD) (w4 w7 w9 w10 w11 w12 w13 : Int) (w14 : LB) (w15 : Bool) (w16 : LD) : Nat → Int → Int → Int → (Ty1 → Option R) → (Unit → Option R) → Option R
 | 0, _, _, _, _, _ => none
 | m + 1, w0, w1, w5, k0, k1 => c2v N w3 w4 w7 w9 w10 w11 w12 w13 w14 w15 w16 w0 w1 w5 (fun w0 w1 w5 => c2w N w3 w4 w7 w9 w10 w11 w12 w13 w14 w15 w16 m w0 w1 w5 k0 k1) k0 k1
def e1K (w3 : LD) (w4 w7 w9 w10 w11 w12 w13 : Int) (w14 : LB) (w15 : Bool) (w16 : LD) (w0 w1 w5 : Int) : Option (Sum (Ty1) (Unit)) := c2w N (R := (Sum (Ty1) (Unit))) w3 w4 w7 w9 w10 w11 w12 w13 w14 w15 w16 N w0 w1 w5 (fun p => some (.inl p)) (fun p => some (.inr p))
def b2y (L x : List Lf) (kr : List Lf → Option R) (k0 : Ty1 → Option R) (k1 : Unit → Option R) : Option R := c2v N (ll L 3) (li L 4) (li L 7) (li L 9) (li L 10) (li L 11) (li L 12) (li L 13) (ls L 14) (lb L 15) (ll L 16) (li x 0) (li x 1) (li x 2) (fun w0 w1 w5 => kr [.i w0, .i w1, .i w5]) k0 k1
theorem c5X (L x : List Lf) (kr : List Lf → Option R) (k0 : Ty1 → Option R) (k1 : Unit → Option R) : b2y N L x kr k0 k1 = (b2y N L x (fun y => some (.inl y)) (fun p => some (.inr (.inl p))) (fun p => some (.inr (.inr p)))).bind (a09 kr (a09 k0 k1)) := by
 unfold b2y c2v
 repeat' (first | with_reducible apply a0g | (with_reducible apply a0t; intro _) | rfl)
def b6y (L : List Lf) (m : Nat) (x : List Lf) : Option (Sum (Ty1) (Unit)) := c2w N (R := (Sum (Ty1) (Unit))) (ll L 3) (li L 4) (li L 7) (li L 9) (li L 10) (li L 11) (li L 12) (li L 13) (ls L 14) (lb L 15) (ll L 16) m (li x 0) (li x 1) (li x 2) (fun p => some (.inl p)) (fun p => some (.inr p))
def a68 : Sh := { tmps := [(2, .c (.p 2 0)), (4, .c (.p 4 0)), (6, .c (.nilf)), (7, .c (.i .i64)), (8, .c (.i .i64)), (21, .c (.sl 40)), (22, .c (.i .i64)), (23, .c (.i .i64))], mem := [(2, .box (.s :: rI 7 ([.s, .sl 24]))), (4, .box (.s :: rI 6 ([.sl 9])))] }
def c0R (L : List Lf) (p : Ty1) : Ex × St := let p1 := p.2; let p2 := p1.2; let p3 := p2.2; let p4 := p3.2; let p5 := p4.2; let p6 := p5.2; let p7 := p6.2; let p8 := p7.2; (.ret, ⟨[(4, .c (.p 4 0)), (5, .c (.b true))], [(4, .box [.s p.1, .i .i64 p1.1, .i .i64 p2.1, .i .i64 p3.1, .i .i64 p4.1, .i .i64 p5.1, .i .i64 p6.1, .sl 9 p7.1 p8])]⟩)
def e1L (L : List Lf) : List (Bool × (Ex × St)) := bnd (b6y N L N (pk a68 [0, 1, 5] L)) fun q => [((a0T q), c0R L (a0H q)), ((a0l q).isSome, ((.exit 0), mg (a0k a68 L) [4] [] [4] []))]
theorem c77 (m : Nat) (kn : St → Option (Ex × St)) (L x : List Lf) : lpB Tryz.prog (a0J N) (d6O N).h 0 67 18 a68 [0, 1, 5] [4, 5] [4] (m + 100) kn L x = b2y N L x (fun y => kn (a0k a68 (mx a68 [0, 1, 5] L y))) (fun p => some (c0R L p)) (fun _ => some ((.exit 0), mg (a0k a68 L) [4] [] [4] [])) := by kernel_rfl
theorem d6P (L : List Lf) (m : Nat) (x : List Lf) : b6y N L (m + 1) x = b2y N L x (b6y N L m) (fun p => some (.inl p)) (fun p => some (.inr p)) := by kernel_rfl
def c78 : Sg Tryz.prog 0 67 :=
 (d6O N).lp (e1L N) N a0c (a0h N) (fun m kn L x => (c77 N m kn L x).trans (c5X N L x _ _ _)) (fun L m x => (d6P N L m x).trans (c5X N L x (b6y N L m) (fun p => some (.inl p)) (fun p => some (.inr p)))) fun L x hx => (a34 a08) x hx
def a3B (N : Nat) (w0 : Int) (w6 : Bool) (k0 : Int → R) : R :=
 bif w6 then
  k0 (IntKind.wrap .i64 (w0 + 1))
 else
  k0 1
def a6n (w0 : Int) (w6 : Bool) : Int := a3B N w0 w6 (fun p => p)
theorem b9j (w0 : Int) (w6 : Bool) (k0 : Int → R) : a3B N w0 w6 k0 = k0 (a6n N w0 w6) := by
 unfold a6n a3B
 repeat' (first | rfl | apply a0n | (apply a0A; intro _))
def b2z : Sh := { tmps := [(2, .c (.p 2 0)), (4, .c (.p 4 0)), (6, .c (.f 109 [])), (7, .c (.i .i64)), (10, .c (.p 10 0)), (11, .c (.i .i64)), (21, .c (.sl 40)), (22, .c (.i .i64)), (23, .c (.i .i64)), (53, .c (.b))], mem := [(2, .box (.s :: rI 7 ([.s, .sl 24]))), (4, .box (.s :: rI 6 ([.sl 9]))), (10, .box (.s :: rI 6 ([.sl 9])))] }
def b0F (L : List Lf) (p : Int) : Ex × St := (.normal, mg (a0k b2z L) [2, 4, 6, 7, 10, 11, 21, 22, 23] [(7, .c (.i .i64 p))] [2, 4, 10] [])
def c5Y (L : List Lf) : List (Bool × (Ex × St)) := bnd (a3B N (li L 0) (lb L 6) (fun p => p)) fun q => [(true, b0F L q)]
theorem b9k (L : List Lf) : pc Tryz.prog (a0J N) ((c78 N).no 45056).h 0 100 67 45056 b2z L [2, 4, 6, 7, 10, 11, 21, 22, 23] [2, 4, 10] = a3B N (li L 0) (lb L 6) (fun p => some (b0F L p)) := by kernel_rfl
def c79 : Sg Tryz.prog 0 67 :=
 (c78 N).add (((c78 N).no 45056).cut (c5Y N) a0c (a0h N) fun L x hx => (b9k N L).trans ((b9j N ..).trans (a2h _ _ hx))) 45056
def a4C (w0 w1 w2 : Int) (w7 : Bool) (k0 : Int → R) : R :=
 bif w7 then
  k0 w0
 else
  bnd (bif (decide (w1 ≥ 0)) then (w2 == (IntKind.wrap .i64 (w1 + 1))) else false) fun y0 =>
  bnd (a6n N w0 y0) fun y1 =>
  k0 y1
def a6o (w0 w1 w2 : Int) (w7 : Bool) : Int := a4C N w0 w1 w2 w7 (fun p => p)
theorem b9l (w0 w1 w2 : Int) (w7 : Bool) (k0 : Int → R) : a4C N w0 w1 w2 w7 k0 = k0 (a6o N w0 w1 w2 w7) := by
 unfold a6o a4C
 repeat' (first | rfl | apply a0n | (apply a0A; intro _))
def b5b (L : List Lf) (k0 : Int → R) : R := a4C N (li L 0) (li L 1) (li L 2) (lb L 7) k0
def b2A : Sh := { tmps := [(2, .c (.p 2 0)), (4, .c (.p 4 0)), (6, .c (.f 109 [])), (7, .c (.i .i64)), (8, .c (.i .i64)), (10, .c (.p 10 0)), (11, .c (.i .i64)), (21, .c (.sl 40)), (22, .c (.i .i64)), (23, .c (.i .i64)), (49, .c (.b))], mem := [(2, .box (.s :: rI 7 ([.s, .sl 24]))), (4, .box (.s :: rI 6 ([.sl 9]))), (10, .box (.s :: rI 6 ([.sl 9])))] }
def b0G (L : List Lf) (p : Int) : Ex × St := (.normal, mg (a0k b2A L) [2, 4, 6, 7, 10, 11, 21, 22, 23] [(7, .c (.i .i64 p))] [2, 4, 10] [])
def c5Z (L : List Lf) : List (Bool × (Ex × St)) := bnd (b5b N L (fun p => p)) fun q => [(true, b0G L q)]
theorem b9m (L : List Lf) : pc Tryz.prog (a0J N) ((c79 N).no 51002).h 0 100 67 51002 b2A L [2, 4, 6, 7, 10, 11, 21, 22, 23] [2, 4, 10] = b5b N L (fun p => some (b0G L p)) := by kernel_rfl
def d6Q : Sg Tryz.prog 0 67 :=
 (c79 N).add (((c79 N).no 51002).cut (c5Z N) a0c (a0h N) fun L x hx => (b9m N L).trans ((b9l N ..).trans (a2h _ _ hx))) 51002
def a5H (w0 w1 w2 : Int) (w7 : Bool) (w30 : Int) (k0 : Int × Int → R) : R :=
 bif w7 then
  bnd (a6o N w0 w1 w2 (w2 == w1)) fun y0 =>
  k0 (y0, w2)
 else
  k0 ((IntKind.wrap .i64 (w0 + w30)), w1)
def a7N (w0 w1 w2 : Int) (w7 : Bool) (w30 : Int) : Int × Int := a5H N w0 w1 w2 w7 w30 (fun p => p)
theorem c2x (w0 w1 w2 : Int) (w7 : Bool) (w30 : Int) (k0 : Int × Int → R) : a5H N w0 w1 w2 w7 w30 k0 = k0 (a7N N w0 w1 w2 w7 w30) := by
 unfold a7N a5H
 repeat' (first | rfl | apply a0n | (apply a0A; intro _))
def b8p (L : List Lf) (k0 : Int × Int → R) : R := a5H N (li L 0) (li L 1) (li L 2) (lb L 7) (li L 30) k0
def b5c : Sh := { tmps := [(2, .c (.p 2 0)), (4, .c (.p 4 0)), (6, .c (.f 109 [])), (7, .c (.i .i64)), (8, .c (.i .i64)), (10, .c (.p 10 0)), (11, .c (.i .i64)), (21, .c (.sl 40)), (22, .c (.i .i64)), (23, .c (.i .i64)), (47, .c (.b))], mem := [(2, .box (.s :: rI 7 ([.s, .sl 24]))), (4, .box (.s :: rI 6 ([.sl 9]))), (10, .box (.s :: rI 6 ([.sl 9])))] }
def b2B (L : List Lf) (p : Int × Int) : Ex × St := (.normal, mg (a0k b5c L) [2, 4, 6, 7, 8, 10, 21, 22, 23] [(7, .c (.i .i64 p.1)), (8, .c (.i .i64 p.2))] [2, 4, 10] [])
def c8a (L : List Lf) : List (Bool × (Ex × St)) := bnd (b8p N L (fun p => p)) fun q => [(true, b2B L q)]
theorem c2y (L : List Lf) : pc Tryz.prog (a0J N) (d6Q N).h 0 100 67 33050 b5c L [2, 4, 6, 7, 8, 10, 21, 22, 23] [2, 4, 10] = b8p N L (fun p => some (b2B L p)) := by kernel_rfl
def d6R : Sg Tryz.prog 0 67 :=
 (d6Q N).cut (c8a N) a0c (a0h N) fun L x hx => (c2y N L).trans ((c2x N ..).trans (a2h _ _ hx))
def a5I (w0 w1 w2 w7 : Int) (w8 : Bool) (w31 : Int) (k0 : Int × Int → R) : R :=
 bif w8 then
  k0 (w31, w1)
 else
  bnd (a7N N w0 w1 w2 (w7 == 4) w31) fun y0 =>
  k0 y0
def a5J (w0 w1 w2 w7 : Int) (w8 : Bool) (w31 : Int) : Int × Int := a5I N w0 w1 w2 w7 w8 w31 (fun p => p)
theorem c2z (w0 w1 w2 w7 : Int) (w8 : Bool) (w31 : Int) (k0 : Int × Int → R) : a5I N w0 w1 w2 w7 w8 w31 k0 = k0 (a5J N w0 w1 w2 w7 w8 w31) := by
 unfold a5J a5I
 repeat' (first | rfl | apply a0n | (apply a0A; intro _))
def b8q (L : List Lf) (k0 : Int × Int → R) : R := a5I N (li L 0) (li L 1) (li L 2) (li L 7) (lb L 8) (li L 31) k0
def b5d : Sh := { tmps := [(2, .c (.p 2 0)), (4, .c (.p 4 0)), (6, .c (.f 109 [])), (7, .c (.i .i64)), (8, .c (.i .i64)), (10, .c (.p 10 0)), (11, .c (.i .i64)), (21, .c (.sl 40)), (22, .c (.i .i64)), (23, .c (.i .i64)), (36, .c (.i .i64)), (42, .c (.b))], mem := [(2, .box (.s :: rI 7 ([.s, .sl 24]))), (4, .box (.s :: rI 6 ([.sl 9]))), (10, .box (.s :: rI 6 ([.sl 9])))] }
def b2C (L : List Lf) (p : Int × Int) : Ex × St := (.normal, mg (a0k b5d L) [2, 4, 6, 7, 8, 10, 21, 22, 23] [(7, .c (.i .i64 p.1)), (8, .c (.i .i64 p.2))] [2, 4, 10] [])
def c8b (L : List Lf) : List (Bool × (Ex × St)) := bnd (b8q N L (fun p => p)) fun q => [(true, b2C L q)]
theorem c2A (L : List Lf) : pc Tryz.prog (a0J N) (d6R N).h 0 100 67 42041 b5d L [2, 4, 6, 7, 8, 10, 21, 22, 23] [2, 4, 10] = b8q N L (fun p => some (b2C L p)) := by kernel_rfl
def c8c : Sg Tryz.prog 0 67 :=
 (d6R N).cut (c8b N) a0c (a0h N) fun L x hx => (c2A N L).trans ((c2z N ..).trans (a2h _ _ hx))
def a69 (w3 : LD) (w4 w7 w9 w10 w11 w12 w13 : Int) (w14 : LB) (w15 : Bool) (w16 : LD) (w0 w1 w5 : Int) (kr : Int → Int → Int → Option R) (k0 : Ty1 → Option R) (k1 : Unit → Option R) : Option R :=
 bif (decide (w5 < w4)) then
  bif (inB w5 w3.length) then
   bnd (a8l N N w10 w11 w12 w13 w14 w15 w16 ((w3.getD w5.toNat (.i 0)).cell 0).toS ((w3.getD w5.toNat (.i 0)).cell 1).toI ((w3.getD w5.toNat (.i 0)).cell 2).toI ((w3.getD w5.toNat (.i 0)).cell 3).toI ((w3.getD w5.toNat (.i 0)).cell 4).toI ((w3.getD w5.toNat (.i 0)).cell 5).toI ((w3.getD w5.toNat (.i 0)).cell 6).toI ((w3.getD w5.toNat (.i 0)).cell 7).isNil ((w3.getD w5.toNat (.i 0)).cell 7).items) fun y0 =>
   bif y0.isSome then
    bif (!(y0.getD default)) then
     kr w0 w1 (IntKind.wrap .i64 (w5 + 1))
    else
     bnd (IntKind.wrap .i64 (((w3.getD w5.toNat (.i 0)).cell 2).toI.tdiv 86400)) fun y1 =>
     bnd (a5J N w0 w1 y1 w7 (w7 == 3) ((w3.getD w5.toNat (.i 0)).cell 2).toI) fun y2 =>
     bif (decide (y2.1 ≥ w9)) then
      k0 (((w3.getD w5.toNat (.i 0)).cell 0).toS, ((w3.getD w5.toNat (.i 0)).cell 1).toI, ((w3.getD w5.toNat (.i 0)).cell 2).toI, ((w3.getD w5.toNat (.i 0)).cell 3).toI, ((w3.getD w5.toNat (.i 0)).cell 4).toI, ((w3.getD w5.toNat (.i 0)).cell 5).toI, ((w3.getD w5.toNat (.i 0)).cell 6).toI, ((w3.getD w5.toNat (.i 0)).cell 7).isNil, ((w3.getD w5.toNat (.i 0)).cell 7).items)
     else
      kr y2.1 y2.2 (IntKind.wrap .i64 (w5 + 1))
   else
    none
  else
   none
 else
  k1 ()
def b2D (N : Nat) {R : Type} (w3 : LD) (w4 w7 w9 w10 w11 w12 w13 : Int) (w14 : LB) (w15 : Bool) (w16 : LD) : Nat → Int → Int → Int → (Ty1 → Option R) → (Unit → Option R) → Option R
 | 0, _, _, _, _, _ => none
 | m + 1, w0, w1, w5, k0, k1 => a69 N w3 w4 w7 w9 w10 w11 w12 w13 w14 w15 w16 w0 w1 w5 (fun w0 w1 w5 => b2D N w3 w4 w7 w9 w10 w11 w12 w13 w14 w15 w16 m w0 w1 w5 k0 k1) k0 k1
def b8r (w3 : LD) (w4 w7 w9 w10 w11 w12 w13 : Int) (w14 : LB) (w15 : Bool) (w16 : LD) (w0 w1 w5 : Int) : Option (Sum (Ty1) (Unit)) := b2D N (R := (Sum (Ty1) (Unit))) w3 w4 w7 w9 w10 w11 w12 w13 w14 w15 w16 N w0 w1 w5 (fun p => some (.inl p)) (fun p => some (.inr p))
def a8S (L x : List Lf) (kr : List Lf → Option R) (k0 : Ty1 → Option R) (k1 : Unit → Option R) : Option R := a69 N (ll L 3) (li L 4) (li L 7) (li L 9) (li L 10) (li L 11) (li L 12) (li L 13) (ls L 14) (lb L 15) (ll L 16) (li x 0) (li x 1) (li x 2) (fun w0 w1 w5 => kr [.i w0, .i w1, .i w5]) k0 k1
theorem c0S (L x : List Lf) (kr : List Lf → Option R) (k0 : Ty1 → Option R) (k1 : Unit → Option R) : a8S N L x kr k0 k1 = (a8S N L x (fun y => some (.inl y)) (fun p => some (.inr (.inl p))) (fun p => some (.inr (.inr p)))).bind (a09 kr (a09 k0 k1)) := by
 unfold a8S a69
 repeat' (first | with_reducible apply a0g | (with_reducible apply a0t; intro _) | rfl)
def b2E (L : List Lf) (m : Nat) (x : List Lf) : Option (Sum (Ty1) (Unit)) := b2D N (R := (Sum (Ty1) (Unit))) (ll L 3) (li L 4) (li L 7) (li L 9) (li L 10) (li L 11) (li L 12) (li L 13) (ls L 14) (lb L 15) (ll L 16) m (li x 0) (li x 1) (li x 2) (fun p => some (.inl p)) (fun p => some (.inr p))
def a5n : Sh := { tmps := [(2, .c (.p 2 0)), (4, .c (.p 4 0)), (6, .c (.f 109 [])), (7, .c (.i .i64)), (8, .c (.i .i64)), (21, .c (.sl 40)), (22, .c (.i .i64)), (23, .c (.i .i64))], mem := [(2, .box (.s :: rI 7 ([.s, .sl 24]))), (4, .box (.s :: rI 6 ([.sl 9])))] }
def b8s (L : List Lf) (p : Ty1) : Ex × St := let p1 := p.2; let p2 := p1.2; let p3 := p2.2; let p4 := p3.2; let p5 := p4.2; let p6 := p5.2; let p7 := p6.2; let p8 := p7.2; (.ret, ⟨[(4, .c (.p 4 0)), (5, .c (.b true))], [(4, .box [.s p.1, .i .i64 p1.1, .i .i64 p2.1, .i .i64 p3.1, .i .i64 p4.1, .i .i64 p5.1, .i .i64 p6.1, .sl 9 p7.1 p8])]⟩)
def d6S (L : List Lf) : List (Bool × (Ex × St)) := bnd (b2E N L N (pk a5n [0, 1, 5] L)) fun q => [((a0T q), b8s L (a0H q)), ((a0l q).isSome, ((.exit 0), mg (a0k a5n L) [4] [] [4] []))]
theorem c50 (m : Nat) (kn : St → Option (Ex × St)) (L x : List Lf) : lpB Tryz.prog (a0J N) ((c8c N).no 18).h 0 67 18 a5n [0, 1, 5] [4, 5] [4] (m + 100) kn L x = a8S N L x (fun y => kn (a0k a5n (mx a5n [0, 1, 5] L y))) (fun p => some (b8s L p)) (fun _ => some ((.exit 0), mg (a0k a5n L) [4] [] [4] [])) := by kernel_rfl
theorem d2H (L : List Lf) (m : Nat) (x : List Lf) : b2E N L (m + 1) x = a8S N L x (b2E N L m) (fun p => some (.inl p)) (fun p => some (.inr p)) := by kernel_rfl
def c2B : Sg Tryz.prog 0 67 :=
 (c8c N).add (((c8c N).no 18).lp (d6S N) N a0c (a0h N) (fun m kn L x => (c50 N m kn L x).trans (c0S N L x _ _ _)) (fun L m x => (d2H N L m x).trans (c0S N L x (b2E N L m) (fun p => some (.inl p)) (fun p => some (.inr p)))) fun L x hx => (a34 a08) x hx) 18
def a2R (N : Nat) (w0 : Int) (w6 : Bool) (k0 : Int → R) : R :=
 bif w6 then
  k0 (IntKind.wrap .i64 (w0 + 1))
 else
  k0 1
def a5a (w0 : Int) (w6 : Bool) : Int := a2R N w0 w6 (fun p => p)
theorem b8t (w0 : Int) (w6 : Bool) (k0 : Int → R) : a2R N w0 w6 k0 = k0 (a5a N w0 w6) := by
 unfold a5a a2R
 repeat' (first | rfl | apply a0n | (apply a0A; intro _))
def b0H : Sh := { tmps := [(2, .c (.p 2 0)), (4, .c (.p 4 0)), (6, .c (.f 110 [])), (7, .c (.i .i64)), (10, .c (.p 10 0)), (11, .c (.i .i64)), (21, .c (.sl 40)), (22, .c (.i .i64)), (23, .c (.i .i64)), (53, .c (.b))], mem := [(2, .box (.s :: rI 7 ([.s, .sl 24]))), (4, .box (.s :: rI 6 ([.sl 9]))), (10, .box (.s :: rI 6 ([.sl 9])))] }
def a8T (L : List Lf) (p : Int) : Ex × St := (.normal, mg (a0k b0H L) [2, 4, 6, 7, 10, 11, 21, 22, 23] [(7, .c (.i .i64 p))] [2, 4, 10] [])
def c2C (L : List Lf) : List (Bool × (Ex × St)) := bnd (a2R N (li L 0) (lb L 6) (fun p => p)) fun q => [(true, a8T L q)]
theorem b8u (L : List Lf) : pc Tryz.prog (a0J N) ((c2B N).no 45056).h 0 100 67 45056 b0H L [2, 4, 6, 7, 10, 11, 21, 22, 23] [2, 4, 10] = a2R N (li L 0) (lb L 6) (fun p => some (a8T L p)) := by kernel_rfl
def c2D : Sg Tryz.prog 0 67 :=
 (c2B N).add (((c2B N).no 45056).cut (c2C N) a0c (a0h N) fun L x hx => (b8u N L).trans ((b8t N ..).trans (a2h _ _ hx))) 45056
def a3Q (w0 w1 w2 : Int) (w7 : Bool) (k0 : Int → R) : R :=
 bif w7 then
  k0 w0
 else
  bnd (bif (decide (w1 ≥ 0)) then (w2 == (IntKind.wrap .i64 (w1 + 1))) else false) fun y0 =>
  bnd (a5a N w0 y0) fun y1 =>
  k0 y1
def a5b (w0 w1 w2 : Int) (w7 : Bool) : Int := a3Q N w0 w1 w2 w7 (fun p => p)
theorem b8v (w0 w1 w2 : Int) (w7 : Bool) (k0 : Int → R) : a3Q N w0 w1 w2 w7 k0 = k0 (a5b N w0 w1 w2 w7) := by
 unfold a5b a3Q
 repeat' (first | rfl | apply a0n | (apply a0A; intro _))
def b2F (L : List Lf) (k0 : Int → R) : R := a3Q N (li L 0) (li L 1) (li L 2) (lb L 7) k0
def b0I : Sh := { tmps := [(2, .c (.p 2 0)), (4, .c (.p 4 0)), (6, .c (.f 110 [])), (7, .c (.i .i64)), (8, .c (.i .i64)), (10, .c (.p 10 0)), (11, .c (.i .i64)), (21, .c (.sl 40)), (22, .c (.i .i64)), (23, .c (.i .i64)), (49, .c (.b))], mem := [(2, .box (.s :: rI 7 ([.s, .sl 24]))), (4, .box (.s :: rI 6 ([.sl 9]))), (10, .box (.s :: rI 6 ([.sl 9])))] }
def a8U (L : List Lf) (p : Int) : Ex × St := (.normal, mg (a0k b0I L) [2, 4, 6, 7, 10, 11, 21, 22, 23] [(7, .c (.i .i64 p))] [2, 4, 10] [])
def c2E (L : List Lf) : List (Bool × (Ex × St)) := bnd (b2F N L (fun p => p)) fun q => [(true, a8U L q)]
theorem b8w (L : List Lf) : pc Tryz.prog (a0J N) ((c2D N).no 51002).h 0 100 67 51002 b0I L [2, 4, 6, 7, 10, 11, 21, 22, 23] [2, 4, 10] = b2F N L (fun p => some (a8U L p)) := by kernel_rfl
def c2F : Sg Tryz.prog 0 67 :=
 (c2D N).add (((c2D N).no 51002).cut (c2E N) a0c (a0h N) fun L x hx => (b8w N L).trans ((b8v N ..).trans (a2h _ _ hx))) 51002
def a4D (w0 w1 w2 : Int) (w7 : Bool) (w30 : Int) (k0 : Int × Int → R) : R :=
 bif w7 then
  bnd (a5b N w0 w1 w2 (w2 == w1)) fun y0 =>
  k0 (y0, w2)
 else
  bnd (c5P N w30) fun y1 =>
  k0 ((IntKind.wrap .i64 (w0 + y1)), w1)
def a6p (w0 w1 w2 : Int) (w7 : Bool) (w30 : Int) : Int × Int := a4D N w0 w1 w2 w7 w30 (fun p => p)
theorem b9n (w0 w1 w2 : Int) (w7 : Bool) (w30 : Int) (k0 : Int × Int → R) : a4D N w0 w1 w2 w7 w30 k0 = k0 (a6p N w0 w1 w2 w7 w30) := by
 unfold a6p a4D
 repeat' (first | rfl | apply a0n | (apply a0A; intro _))
def b5e (L : List Lf) (k0 : Int × Int → R) : R := a4D N (li L 0) (li L 1) (li L 2) (lb L 7) (li L 30) k0
def b2G : Sh := { tmps := [(2, .c (.p 2 0)), (4, .c (.p 4 0)), (6, .c (.f 110 [])), (7, .c (.i .i64)), (8, .c (.i .i64)), (10, .c (.p 10 0)), (11, .c (.i .i64)), (21, .c (.sl 40)), (22, .c (.i .i64)), (23, .c (.i .i64)), (47, .c (.b))], mem := [(2, .box (.s :: rI 7 ([.s, .sl 24]))), (4, .box (.s :: rI 6 ([.sl 9]))), (10, .box (.s :: rI 6 ([.sl 9])))] }
def b0J (L : List Lf) (p : Int × Int) : Ex × St := (.normal, mg (a0k b2G L) [2, 4, 6, 7, 8, 10, 21, 22, 23] [(7, .c (.i .i64 p.1)), (8, .c (.i .i64 p.2))] [2, 4, 10] [])
def c51 (L : List Lf) : List (Bool × (Ex × St)) := bnd (b5e N L (fun p => p)) fun q => [(true, b0J L q)]
theorem b9o (L : List Lf) : pc Tryz.prog (a0J N) ((c2F N).no 33050).h 0 100 67 33050 b2G L [2, 4, 6, 7, 8, 10, 21, 22, 23] [2, 4, 10] = b5e N L (fun p => some (b0J L p)) := by kernel_rfl
def c2G : Sg Tryz.prog 0 67 :=
 (c2F N).add (((c2F N).no 33050).cut (c51 N) a0c (a0h N) fun L x hx => (b9o N L).trans ((b9n N ..).trans (a2h _ _ hx))) 33050
def a4E (w0 w1 w2 w7 : Int) (w8 : Bool) (w31 : Int) (k0 : Int × Int → R) : R :=
 bif w8 then
  bnd (c5P N w31) fun y0 =>
  k0 (y0, w1)
 else
  bnd (a6p N w0 w1 w2 (w7 == 4) w31) fun y1 =>
  k0 y1
def a4F (w0 w1 w2 w7 : Int) (w8 : Bool) (w31 : Int) : Int × Int := a4E N w0 w1 w2 w7 w8 w31 (fun p => p)
theorem b9p (w0 w1 w2 w7 : Int) (w8 : Bool) (w31 : Int) (k0 : Int × Int → R) : a4E N w0 w1 w2 w7 w8 w31 k0 = k0 (a4F N w0 w1 w2 w7 w8 w31) := by
 unfold a4F a4E
 repeat' (first | rfl | apply a0n | (apply a0A; intro _))
def b5f (L : List Lf) (k0 : Int × Int → R) : R := a4E N (li L 0) (li L 1) (li L 2) (li L 7) (lb L 8) (li L 31) k0
def b2H : Sh := { tmps := [(2, .c (.p 2 0)), (4, .c (.p 4 0)), (6, .c (.f 110 [])), (7, .c (.i .i64)), (8, .c (.i .i64)), (10, .c (.p 10 0)), (11, .c (.i .i64)), (21, .c (.sl 40)), (22, .c (.i .i64)), (23, .c (.i .i64)), (36, .c (.i .i64)), (42, .c (.b))], mem := [(2, .box (.s :: rI 7 ([.s, .sl 24]))), (4, .box (.s :: rI 6 ([.sl 9]))), (10, .box (.s :: rI 6 ([.sl 9])))] }
def b0K (L : List Lf) (p : Int × Int) : Ex × St := (.normal, mg (a0k b2H L) [2, 4, 6, 7, 8, 10, 21, 22, 23] [(7, .c (.i .i64 p.1)), (8, .c (.i .i64 p.2))] [2, 4, 10] [])
def c52 (L : List Lf) : List (Bool × (Ex × St)) := bnd (b5f N L (fun p => p)) fun q => [(true, b0K L q)]
theorem b9q (L : List Lf) : pc Tryz.prog (a0J N) ((c2G N).no 42041).h 0 100 67 42041 b2H L [2, 4, 6, 7, 8, 10, 21, 22, 23] [2, 4, 10] = b5f N L (fun p => some (b0K L p)) := by kernel_rfl
def c2H : Sg Tryz.prog 0 67 :=
 (c2G N).add (((c2G N).no 42041).cut (c52 N) a0c (a0h N) fun L x hx => (b9q N L).trans ((b9p N ..).trans (a2h _ _ hx))) 42041
def a5o (w3 : LD) (w4 w7 w9 w10 w11 w12 w13 : Int) (w14 : LB) (w15 : Bool) (w16 : LD) (w0 w1 w5 : Int) (kr : Int → Int → Int → Option R) (k0 : Ty1 → Option R) (k1 : Unit → Option R) : Option R :=
 bif (decide (w5 < w4)) then
  bif (inB w5 w3.length) then
   bnd (a8l N N w10 w11 w12 w13 w14 w15 w16 ((w3.getD w5.toNat (.i 0)).cell 0).toS ((w3.getD w5.toNat (.i 0)).cell 1).toI ((w3.getD w5.toNat (.i 0)).cell 2).toI ((w3.getD w5.toNat (.i 0)).cell 3).toI ((w3.getD w5.toNat (.i 0)).cell 4).toI ((w3.getD w5.toNat (.i 0)).cell 5).toI ((w3.getD w5.toNat (.i 0)).cell 6).toI ((w3.getD w5.toNat (.i 0)).cell 7).isNil ((w3.getD w5.toNat (.i 0)).cell 7).items) fun y0 =>
   bif y0.isSome then
    bif (!(y0.getD default)) then
     kr w0 w1 (IntKind.wrap .i64 (w5 + 1))
    else
     bnd (IntKind.wrap .i64 (((w3.getD w5.toNat (.i 0)).cell 2).toI.tdiv 86400)) fun y1 =>
     bnd (a4F N w0 w1 y1 w7 (w7 == 3) ((w3.getD w5.toNat (.i 0)).cell 2).toI) fun y2 =>
     bif (decide (y2.1 ≥ w9)) then
      k0 (((w3.getD w5.toNat (.i 0)).cell 0).toS, ((w3.getD w5.toNat (.i 0)).cell 1).toI, ((w3.getD w5.toNat (.i 0)).cell 2).toI, ((w3.getD w5.toNat (.i 0)).cell 3).toI, ((w3.getD w5.toNat (.i 0)).cell 4).toI, ((w3.getD w5.toNat (.i 0)).cell 5).toI, ((w3.getD w5.toNat (.i 0)).cell 6).toI, ((w3.getD w5.toNat (.i 0)).cell 7).isNil, ((w3.getD w5.toNat (.i 0)).cell 7).items)
     else
      kr y2.1 y2.2 (IntKind.wrap .i64 (w5 + 1))
   else
    none
  else
   none
 else
  k1 ()
def a9U (N : Nat) {R : Type} (w3 : LD) (w4 w7 w9 w10 w11 w12 w13 : Int) (w14 : LB) (w15 : Bool) (w16 : LD) : Nat → Int → Int → Int → (Ty1 → Option R) → (Unit → Option R) → Option R
 | 0, _, _, _, _, _ => none
 | m + 1, w0, w1, w5, k0, k1 => a5o N w3 w4 w7 w9 w10 w11 w12 w13 w14 w15 w16 w0 w1 w5 (fun w0 w1 w5 => a9U N w3 w4 w7 w9 w10 w11 w12 w13 w14 w15 w16 m w0 w1 w5 k0 k1) k0 k1
def b4d (w3 : LD) (w4 w7 w9 w10 w11 w12 w13 : Int) (w14 : LB) (w15 : Bool) (w16 : LD) (w0 w1 w5 : Int) : Option (Sum (Ty1) (Unit)) := a9U N (R := (Sum (Ty1) (Unit))) w3 w4 w7 w9 w10 w11 w12 w13 w14 w15 w16 N w0 w1 w5 (fun p => some (.inl p)) (fun p => some (.inr p))
def a7a (L x : List Lf) (kr : List Lf → Option R) (k0 : Ty1 → Option R) (k1 : Unit → Option R) : Option R := a5o N (ll L 3) (li L 4) (li L 7) (li L 9) (li L 10) (li L 11) (li L 12) (li L 13) (ls L 14) (lb L 15) (ll L 16) (li x 0) (li x 1) (li x 2) (fun w0 w1 w5 => kr [.i w0, .i w1, .i w5]) k0 k1
theorem b8x (L x : List Lf) (kr : List Lf → Option R) (k0 : Ty1 → Option R) (k1 : Unit → Option R) : a7a N L x kr k0 k1 = (a7a N L x (fun y => some (.inl y)) (fun p => some (.inr (.inl p))) (fun p => some (.inr (.inr p)))).bind (a09 kr (a09 k0 k1)) := by
 unfold a7a a5o
 repeat' (first | with_reducible apply a0g | (with_reducible apply a0t; intro _) | rfl)
def a9V (L : List Lf) (m : Nat) (x : List Lf) : Option (Sum (Ty1) (Unit)) := a9U N (R := (Sum (Ty1) (Unit))) (ll L 3) (li L 4) (li L 7) (li L 9) (li L 10) (li L 11) (li L 12) (li L 13) (ls L 14) (lb L 15) (ll L 16) m (li x 0) (li x 1) (li x 2) (fun p => some (.inl p)) (fun p => some (.inr p))
def a4l : Sh := { tmps := [(2, .c (.p 2 0)), (4, .c (.p 4 0)), (6, .c (.f 110 [])), (7, .c (.i .i64)), (8, .c (.i .i64)), (21, .c (.sl 40)), (22, .c (.i .i64)), (23, .c (.i .i64))], mem := [(2, .box (.s :: rI 7 ([.s, .sl 24]))), (4, .box (.s :: rI 6 ([.sl 9])))] }
def b5g (L : List Lf) (p : Ty1) : Ex × St := let p1 := p.2; let p2 := p1.2; let p3 := p2.2; let p4 := p3.2; let p5 := p4.2; let p6 := p5.2; let p7 := p6.2; let p8 := p7.2; (.ret, ⟨[(4, .c (.p 4 0)), (5, .c (.b true))], [(4, .box [.s p.1, .i .i64 p1.1, .i .i64 p2.1, .i .i64 p3.1, .i .i64 p4.1, .i .i64 p5.1, .i .i64 p6.1, .sl 9 p7.1 p8])]⟩)
def d2I (L : List Lf) : List (Bool × (Ex × St)) := bnd (a9V N L N (pk a4l [0, 1, 5] L)) fun q => [((a0T q), b5g L (a0H q)), ((a0l q).isSome, ((.exit 0), mg (a0k a4l L) [4] [] [4] []))]
theorem c2I (m : Nat) (kn : St → Option (Ex × St)) (L x : List Lf) : lpB Tryz.prog (a0J N) ((c2H N).no 18).h 0 67 18 a4l [0, 1, 5] [4, 5] [4] (m + 100) kn L x = a7a N L x (fun y => kn (a0k a4l (mx a4l [0, 1, 5] L y))) (fun p => some (b5g L p)) (fun _ => some ((.exit 0), mg (a0k a4l L) [4] [] [4] [])) := by kernel_rfl
theorem c8d (L : List Lf) (m : Nat) (x : List Lf) : a9V N L (m + 1) x = a7a N L x (a9V N L m) (fun p => some (.inl p)) (fun p => some (.inr p)) := by kernel_rfl
def c2J : Sg Tryz.prog 0 67 :=
 (c2H N).add (((c2H N).no 18).lp (d2I N) N a0c (a0h N) (fun m kn L x => (c2I N m kn L x).trans (b8x N L x _ _ _)) (fun L m x => (c8d N L m x).trans (b8x N L x (a9V N L m) (fun p => some (.inl p)) (fun p => some (.inr p)))) fun L x hx => (a34 a08) x hx) 18
def a2u (N : Nat) (w0 : Int) (w6 : Bool) (k0 : Int → R) : R :=
 bif w6 then
  k0 (IntKind.wrap .i64 (w0 + 1))
 else
  k0 1
def a4q (w0 : Int) (w6 : Bool) : Int := a2u N w0 w6 (fun p => p)
theorem b5C (w0 : Int) (w6 : Bool) (k0 : Int → R) : a2u N w0 w6 k0 = k0 (a4q N w0 w6) := by
 unfold a4q a2u
 repeat' (first | rfl | apply a0n | (apply a0A; intro _))
def a8V : Sh := { tmps := [(2, .c (.p 2 0)), (4, .c (.p 4 0)), (6, .c (.f 111 [])), (7, .c (.i .i64)), (10, .c (.p 10 0)), (11, .c (.i .i64)), (21, .c (.sl 40)), (22, .c (.i .i64)), (23, .c (.i .i64)), (53, .c (.b))], mem := [(2, .box (.s :: rI 7 ([.s, .sl 24]))), (4, .box (.s :: rI 6 ([.sl 9]))), (10, .box (.s :: rI 6 ([.sl 9])))] }
def a74 (L : List Lf) (p : Int) : Ex × St := (.normal, mg (a0k a8V L) [2, 4, 6, 7, 10, 11, 21, 22, 23] [(7, .c (.i .i64 p))] [2, 4, 10] [])
def b9r (L : List Lf) : List (Bool × (Ex × St)) := bnd (a2u N (li L 0) (lb L 6) (fun p => p)) fun q => [(true, a74 L q)]
theorem b5D (L : List Lf) : pc Tryz.prog (a0J N) ((c2J N).no 45056).h 0 100 67 45056 a8V L [2, 4, 6, 7, 10, 11, 21, 22, 23] [2, 4, 10] = a2u N (li L 0) (lb L 6) (fun p => some (a74 L p)) := by kernel_rfl
def c2K : Sg Tryz.prog 0 67 :=
 (c2J N).add (((c2J N).no 45056).cut (b9r N) a0c (a0h N) fun L x hx => (b5D N L).trans ((b5C N ..).trans (a2h _ _ hx))) 45056
def a3d (w0 w1 w2 : Int) (w7 : Bool) (k0 : Int → R) : R :=
 bif w7 then
  k0 w0
 else
  bnd (bif (decide (w1 ≥ 0)) then (w2 == (IntKind.wrap .i64 (w1 + 1))) else false) fun y0 =>
  bnd (a4q N w0 y0) fun y1 =>
  k0 y1
def a4r (w0 w1 w2 : Int) (w7 : Bool) : Int := a3d N w0 w1 w2 w7 (fun p => p)
theorem b5E (w0 w1 w2 : Int) (w7 : Bool) (k0 : Int → R) : a3d N w0 w1 w2 w7 k0 = k0 (a4r N w0 w1 w2 w7) := by
 unfold a4r a3d
 repeat' (first | rfl | apply a0n | (apply a0A; intro _))
def b0L (L : List Lf) (k0 : Int → R) : R := a3d N (li L 0) (li L 1) (li L 2) (lb L 7) k0
def a8W : Sh := { tmps := [(2, .c (.p 2 0)), (4, .c (.p 4 0)), (6, .c (.f 111 [])), (7, .c (.i .i64)), (8, .c (.i .i64)), (10, .c (.p 10 0)), (11, .c (.i .i64)), (21, .c (.sl 40)), (22, .c (.i .i64)), (23, .c (.i .i64)), (49, .c (.b))], mem := [(2, .box (.s :: rI 7 ([.s, .sl 24]))), (4, .box (.s :: rI 6 ([.sl 9]))), (10, .box (.s :: rI 6 ([.sl 9])))] }
def a78 (L : List Lf) (p : Int) : Ex × St := (.normal, mg (a0k a8W L) [2, 4, 6, 7, 10, 11, 21, 22, 23] [(7, .c (.i .i64 p))] [2, 4, 10] [])
def b9s (L : List Lf) : List (Bool × (Ex × St)) := bnd (b0L N L (fun p => p)) fun q => [(true, a78 L q)]
theorem b5F (L : List Lf) : pc Tryz.prog (a0J N) ((c2K N).no 51002).h 0 100 67 51002 a8W L [2, 4, 6, 7, 10, 11, 21, 22, 23] [2, 4, 10] = b0L N L (fun p => some (a78 L p)) := by kernel_rfl
def c2L : Sg Tryz.prog 0 67 :=
 (c2K N).add (((c2K N).no 51002).cut (b9s N) a0c (a0h N) fun L x hx => (b5F N L).trans ((b5E N ..).trans (a2h _ _ hx))) 51002
def a3R (w0 w1 w2 : Int) (w7 : Bool) (w31 : Int) (k0 : Int × Int → R) : R :=
 bif w7 then
  bnd (a4r N w0 w1 w2 (w2 == w1)) fun y0 =>
  k0 (y0, w2)
 else
  k0 ((IntKind.wrap .i64 (w0 + w31)), w1)
def a5c (w0 w1 w2 : Int) (w7 : Bool) (w31 : Int) : Int × Int := a3R N w0 w1 w2 w7 w31 (fun p => p)
theorem b8y (w0 w1 w2 : Int) (w7 : Bool) (w31 : Int) (k0 : Int × Int → R) : a3R N w0 w1 w2 w7 w31 k0 = k0 (a5c N w0 w1 w2 w7 w31) := by
 unfold a5c a3R
 repeat' (first | rfl | apply a0n | (apply a0A; intro _))
def b2I (L : List Lf) (k0 : Int × Int → R) : R := a3R N (li L 0) (li L 1) (li L 2) (lb L 7) (li L 31) k0
def b0M : Sh := { tmps := [(2, .c (.p 2 0)), (4, .c (.p 4 0)), (6, .c (.f 111 [])), (7, .c (.i .i64)), (8, .c (.i .i64)), (10, .c (.p 10 0)), (11, .c (.i .i64)), (21, .c (.sl 40)), (22, .c (.i .i64)), (23, .c (.i .i64)), (47, .c (.b))], mem := [(2, .box (.s :: rI 7 ([.s, .sl 24]))), (4, .box (.s :: rI 6 ([.sl 9]))), (10, .box (.s :: rI 6 ([.sl 9])))] }
def a8X (L : List Lf) (p : Int × Int) : Ex × St := (.normal, mg (a0k b0M L) [2, 4, 6, 7, 8, 10, 21, 22, 23] [(7, .c (.i .i64 p.1)), (8, .c (.i .i64 p.2))] [2, 4, 10] [])
def c2M (L : List Lf) : List (Bool × (Ex × St)) := bnd (b2I N L (fun p => p)) fun q => [(true, a8X L q)]
theorem b8z (L : List Lf) : pc Tryz.prog (a0J N) ((c2L N).no 33050).h 0 100 67 33050 b0M L [2, 4, 6, 7, 8, 10, 21, 22, 23] [2, 4, 10] = b2I N L (fun p => some (a8X L p)) := by kernel_rfl
def c2N : Sg Tryz.prog 0 67 :=
 (c2L N).add (((c2L N).no 33050).cut (c2M N) a0c (a0h N) fun L x hx => (b8z N L).trans ((b8y N ..).trans (a2h _ _ hx))) 33050
def a3S (w0 w1 w2 w7 : Int) (w8 : Bool) (w32 : Int) (k0 : Int × Int → R) : R :=
 bif w8 then
  k0 (w32, w1)
 else
  bnd (a5c N w0 w1 w2 (w7 == 4) w32) fun y0 =>
  k0 y0
def a3T (w0 w1 w2 w7 : Int) (w8 : Bool) (w32 : Int) : Int × Int := a3S N w0 w1 w2 w7 w8 w32 (fun p => p)
theorem b8A (w0 w1 w2 w7 : Int) (w8 : Bool) (w32 : Int) (k0 : Int × Int → R) : a3S N w0 w1 w2 w7 w8 w32 k0 = k0 (a3T N w0 w1 w2 w7 w8 w32) := by
 unfold a3T a3S
 repeat' (first | rfl | apply a0n | (apply a0A; intro _))
def b2J (L : List Lf) (k0 : Int × Int → R) : R := a3S N (li L 0) (li L 1) (li L 2) (li L 7) (lb L 8) (li L 32) k0
def b0N : Sh := { tmps := [(2, .c (.p 2 0)), (4, .c (.p 4 0)), (6, .c (.f 111 [])), (7, .c (.i .i64)), (8, .c (.i .i64)), (10, .c (.p 10 0)), (11, .c (.i .i64)), (21, .c (.sl 40)), (22, .c (.i .i64)), (23, .c (.i .i64)), (36, .c (.i .i64)), (42, .c (.b))], mem := [(2, .box (.s :: rI 7 ([.s, .sl 24]))), (4, .box (.s :: rI 6 ([.sl 9]))), (10, .box (.s :: rI 6 ([.sl 9])))] }
def a8Y (L : List Lf) (p : Int × Int) : Ex × St := (.normal, mg (a0k b0N L) [2, 4, 6, 7, 8, 10, 21, 22, 23] [(7, .c (.i .i64 p.1)), (8, .c (.i .i64 p.2))] [2, 4, 10] [])
def c2O (L : List Lf) : List (Bool × (Ex × St)) := bnd (b2J N L (fun p => p)) fun q => [(true, a8Y L q)]
theorem b8B (L : List Lf) : pc Tryz.prog (a0J N) ((c2N N).no 42041).h 0 100 67 42041 b0N L [2, 4, 6, 7, 8, 10, 21, 22, 23] [2, 4, 10] = b2J N L (fun p => some (a8Y L p)) := by kernel_rfl
def c2P : Sg Tryz.prog 0 67 :=
 (c2N N).add (((c2N N).no 42041).cut (c2O N) a0c (a0h N) fun L x hx => (b8B N L).trans ((b8A N ..).trans (a2h _ _ hx))) 42041
def a4m (w3 : LD) (w4 w7 w9 w10 w11 w12 w13 : Int) (w14 : LB) (w15 : Bool) (w16 : LD) (w0 w1 w5 : Int) (kr : Int → Int → Int → Option R) (k0 : Ty1 → Option R) (k1 : Unit → Option R) : Option R :=
 bif (decide (w5 < w4)) then
  bif (inB w5 w3.length) then
   bnd (a8l N N w10 w11 w12 w13 w14 w15 w16 ((w3.getD w5.toNat (.i 0)).cell 0).toS ((w3.getD w5.toNat (.i 0)).cell 1).toI ((w3.getD w5.toNat (.i 0)).cell 2).toI ((w3.getD w5.toNat (.i 0)).cell 3).toI ((w3.getD w5.toNat (.i 0)).cell 4).toI ((w3.getD w5.toNat (.i 0)).cell 5).toI ((w3.getD w5.toNat (.i 0)).cell 6).toI ((w3.getD w5.toNat (.i 0)).cell 7).isNil ((w3.getD w5.toNat (.i 0)).cell 7).items) fun y0 =>
   bif y0.isSome then
    bif (!(y0.getD default)) then
     kr w0 w1 (IntKind.wrap .i64 (w5 + 1))
    else
     bnd (IntKind.wrap .i64 (((w3.getD w5.toNat (.i 0)).cell 2).toI.tdiv 86400)) fun y1 =>
     bnd (a3T N w0 w1 y1 w7 (w7 == 3) ((w3.getD w5.toNat (.i 0)).cell 3).toI) fun y2 =>
     bif (decide (y2.1 ≥ w9)) then
      k0 (((w3.getD w5.toNat (.i 0)).cell 0).toS, ((w3.getD w5.toNat (.i 0)).cell 1).toI, ((w3.getD w5.toNat (.i 0)).cell 2).toI, ((w3.getD w5.toNat (.i 0)).cell 3).toI, ((w3.getD w5.toNat (.i 0)).cell 4).toI, ((w3.getD w5.toNat (.i 0)).cell 5).toI, ((w3.getD w5.toNat (.i 0)).cell 6).toI, ((w3.getD w5.toNat (.i 0)).cell 7).isNil, ((w3.getD w5.toNat (.i 0)).cell 7).items)
     else
      kr y2.1 y2.2 (IntKind.wrap .i64 (w5 + 1))
   else
    none
  else
   none
 else
  k1 ()
def a7O (N : Nat) {R : Type} (w3 : LD) (w4 w7 w9 w10 w11 w12 w13 : Int) (w14 : LB) (w15 : Bool) (w16 : LD) : Nat → Int → Int → Int → (Ty1 → Option R) → (Unit → Option R) → Option R
 | 0, _, _, _, _, _ => none
 | m + 1, w0, w1, w5, k0, k1 => a4m N w3 w4 w7 w9 w10 w11 w12 w13 w14 w15 w16 w0 w1 w5 (fun w0 w1 w5 => a7O N w3 w4 w7 w9 w10 w11 w12 w13 w14 w15 w16 m w0 w1 w5 k0 k1) k0 k1
def b1i (w3 : LD) (w4 w7 w9 w10 w11 w12 w13 : Int) (w14 : LB) (w15 : Bool) (w16 : LD) (w0 w1 w5 : Int) : Option (Sum (Ty1) (Unit)) := a7O N (R := (Sum (Ty1) (Unit))) w3 w4 w7 w9 w10 w11 w12 w13 w14 w15 w16 N w0 w1 w5 (fun p => some (.inl p)) (fun p => some (.inr p))
def a5K (L x : List Lf) (kr : List Lf → Option R) (k0 : Ty1 → Option R) (k1 : Unit → Option R) : Option R := a4m N (ll L 3) (li L 4) (li L 7) (li L 9) (li L 10) (li L 11) (li L 12) (li L 13) (ls L 14) (lb L 15) (ll L 16) (li x 0) (li x 1) (li x 2) (fun w0 w1 w5 => kr [.i w0, .i w1, .i w5]) k0 k1
theorem b5h (L x : List Lf) (kr : List Lf → Option R) (k0 : Ty1 → Option R) (k1 : Unit → Option R) : a5K N L x kr k0 k1 = (a5K N L x (fun y => some (.inl y)) (fun p => some (.inr (.inl p))) (fun p => some (.inr (.inr p)))).bind (a09 kr (a09 k0 k1)) := by
 unfold a5K a4m
 repeat' (first | with_reducible apply a0g | (with_reducible apply a0t; intro _) | rfl)
def a7P (L : List Lf) (m : Nat) (x : List Lf) : Option (Sum (Ty1) (Unit)) := a7O N (R := (Sum (Ty1) (Unit))) (ll L 3) (li L 4) (li L 7) (li L 9) (li L 10) (li L 11) (li L 12) (li L 13) (ls L 14) (lb L 15) (ll L 16) m (li x 0) (li x 1) (li x 2) (fun p => some (.inl p)) (fun p => some (.inr p))
def a3C : Sh := { tmps := [(2, .c (.p 2 0)), (4, .c (.p 4 0)), (6, .c (.f 111 [])), (7, .c (.i .i64)), (8, .c (.i .i64)), (21, .c (.sl 40)), (22, .c (.i .i64)), (23, .c (.i .i64))], mem := [(2, .box (.s :: rI 7 ([.s, .sl 24]))), (4, .box (.s :: rI 6 ([.sl 9])))] }
def b2K (L : List Lf) (p : Ty1) : Ex × St := let p1 := p.2; let p2 := p1.2; let p3 := p2.2; let p4 := p3.2; let p5 := p4.2; let p6 := p5.2; let p7 := p6.2; let p8 := p7.2; (.ret, ⟨[(4, .c (.p 4 0)), (5, .c (.b true))], [(4, .box [.s p.1, .i .i64 p1.1, .i .i64 p2.1, .i .i64 p3.1, .i .i64 p4.1, .i .i64 p5.1, .i .i64 p6.1, .sl 9 p7.1 p8])]⟩)
def c8e (L : List Lf) : List (Bool × (Ex × St)) := bnd (a7P N L N (pk a3C [0, 1, 5] L)) fun q => [((a0T q), b2K L (a0H q)), ((a0l q).isSome, ((.exit 0), mg (a0k a3C L) [4] [] [4] []))]
theorem b9t (m : Nat) (kn : St → Option (Ex × St)) (L x : List Lf) : lpB Tryz.prog (a0J N) ((c2P N).no 18).h 0 67 18 a3C [0, 1, 5] [4, 5] [4] (m + 100) kn L x = a5K N L x (fun y => kn (a0k a3C (mx a3C [0, 1, 5] L y))) (fun p => some (b2K L p)) (fun _ => some ((.exit 0), mg (a0k a3C L) [4] [] [4] [])) := by kernel_rfl
theorem c53 (L : List Lf) (m : Nat) (x : List Lf) : a7P N L (m + 1) x = a5K N L x (a7P N L m) (fun p => some (.inl p)) (fun p => some (.inr p)) := by kernel_rfl
def c2Q : Sg Tryz.prog 0 67 :=
 (c2P N).add (((c2P N).no 18).lp (c8e N) N a0c (a0h N) (fun m kn L x => (b9t N m kn L x).trans (b5h N L x _ _ _)) (fun L m x => (c53 N L m x).trans (b5h N L x (a7P N L m) (fun p => some (.inl p)) (fun p => some (.inr p)))) fun L x hx => (a34 a08) x hx) 18
def a1J (N : Nat) (w0 : Int) (w6 : Bool) (k0 : Int → R) : R :=
 bif w6 then
  k0 (IntKind.wrap .i64 (w0 + 1))
 else
  k0 1
def a3U (w0 : Int) (w6 : Bool) : Int := a1J N w0 w6 (fun p => p)
theorem b4e (w0 : Int) (w6 : Bool) (k0 : Int → R) : a1J N w0 w6 k0 = k0 (a3U N w0 w6) := by
 unfold a3U a1J
 repeat' (first | rfl | apply a0n | (apply a0A; intro _))
def a79 : Sh := { tmps := [(2, .c (.p 2 0)), (4, .c (.p 4 0)), (6, .c (.f 112 [])), (7, .c (.i .i64)), (10, .c (.p 10 0)), (11, .c (.i .i64)), (21, .c (.sl 40)), (22, .c (.i .i64)), (23, .c (.i .i64)), (53, .c (.b))], mem := [(2, .box (.s :: rI 7 ([.s, .sl 24]))), (4, .box (.s :: rI 6 ([.sl 9]))), (10, .box (.s :: rI 6 ([.sl 9])))] }
def a7b (L : List Lf) (p : Int) : Ex × St := (.normal, mg (a0k a79 L) [2, 4, 6, 7, 10, 11, 21, 22, 23] [(7, .c (.i .i64 p))] [2, 4, 10] [])
def b8C (L : List Lf) : List (Bool × (Ex × St)) := bnd (a1J N (li L 0) (lb L 6) (fun p => p)) fun q => [(true, a7b L q)]
theorem b4f (L : List Lf) : pc Tryz.prog (a0J N) ((c2Q N).no 45056).h 0 100 67 45056 a79 L [2, 4, 6, 7, 10, 11, 21, 22, 23] [2, 4, 10] = a1J N (li L 0) (lb L 6) (fun p => some (a7b L p)) := by kernel_rfl
def c2R : Sg Tryz.prog 0 67 :=
 (c2Q N).add (((c2Q N).no 45056).cut (b8C N) a0c (a0h N) fun L x hx => (b4f N L).trans ((b4e N ..).trans (a2h _ _ hx))) 45056
def a2K (w0 w1 w2 : Int) (w7 : Bool) (k0 : Int → R) : R :=
 bif w7 then
  k0 w0
 else
  bnd (bif (decide (w1 ≥ 0)) then (w2 == (IntKind.wrap .i64 (w1 + 1))) else false) fun y0 =>
  bnd (a3U N w0 y0) fun y1 =>
  k0 y1
def a3V (w0 w1 w2 : Int) (w7 : Bool) : Int := a2K N w0 w1 w2 w7 (fun p => p)
theorem b4g (w0 w1 w2 : Int) (w7 : Bool) (k0 : Int → R) : a2K N w0 w1 w2 w7 k0 = k0 (a3V N w0 w1 w2 w7) := by
 unfold a3V a2K
 repeat' (first | rfl | apply a0n | (apply a0A; intro _))
def a8Z (L : List Lf) (k0 : Int → R) : R := a2K N (li L 0) (li L 1) (li L 2) (lb L 7) k0
def a8a : Sh := { tmps := [(2, .c (.p 2 0)), (4, .c (.p 4 0)), (6, .c (.f 112 [])), (7, .c (.i .i64)), (8, .c (.i .i64)), (10, .c (.p 10 0)), (11, .c (.i .i64)), (21, .c (.sl 40)), (22, .c (.i .i64)), (23, .c (.i .i64)), (49, .c (.b))], mem := [(2, .box (.s :: rI 7 ([.s, .sl 24]))), (4, .box (.s :: rI 6 ([.sl 9]))), (10, .box (.s :: rI 6 ([.sl 9])))] }
def a7c (L : List Lf) (p : Int) : Ex × St := (.normal, mg (a0k a8a L) [2, 4, 6, 7, 10, 11, 21, 22, 23] [(7, .c (.i .i64 p))] [2, 4, 10] [])
def b8D (L : List Lf) : List (Bool × (Ex × St)) := bnd (a8Z N L (fun p => p)) fun q => [(true, a7c L q)]
theorem b4h (L : List Lf) : pc Tryz.prog (a0J N) ((c2R N).no 51002).h 0 100 67 51002 a8a L [2, 4, 6, 7, 10, 11, 21, 22, 23] [2, 4, 10] = a8Z N L (fun p => some (a7c L p)) := by kernel_rfl
def c2S : Sg Tryz.prog 0 67 :=
 (c2R N).add (((c2R N).no 51002).cut (b8D N) a0c (a0h N) fun L x hx => (b4h N L).trans ((b4g N ..).trans (a2h _ _ hx))) 51002
def a3e (w0 w1 w2 : Int) (w7 : Bool) (w32 : Int) (k0 : Int × Int → R) : R :=
 bif w7 then
  bnd (a3V N w0 w1 w2 (w2 == w1)) fun y0 =>
  k0 (y0, w2)
 else
  k0 ((IntKind.wrap .i64 (w0 + w32)), w1)
def a4s (w0 w1 w2 : Int) (w7 : Bool) (w32 : Int) : Int × Int := a3e N w0 w1 w2 w7 w32 (fun p => p)
theorem b5G (w0 w1 w2 : Int) (w7 : Bool) (w32 : Int) (k0 : Int × Int → R) : a3e N w0 w1 w2 w7 w32 k0 = k0 (a4s N w0 w1 w2 w7 w32) := by
 unfold a4s a3e
 repeat' (first | rfl | apply a0n | (apply a0A; intro _))
def b0O (L : List Lf) (k0 : Int × Int → R) : R := a3e N (li L 0) (li L 1) (li L 2) (lb L 7) (li L 32) k0
def a80 : Sh := { tmps := [(2, .c (.p 2 0)), (4, .c (.p 4 0)), (6, .c (.f 112 [])), (7, .c (.i .i64)), (8, .c (.i .i64)), (10, .c (.p 10 0)), (11, .c (.i .i64)), (21, .c (.sl 40)), (22, .c (.i .i64)), (23, .c (.i .i64)), (47, .c (.b))], mem := [(2, .box (.s :: rI 7 ([.s, .sl 24]))), (4, .box (.s :: rI 6 ([.sl 9]))), (10, .box (.s :: rI 6 ([.sl 9])))] }
def a8b (L : List Lf) (p : Int × Int) : Ex × St := (.normal, mg (a0k a80 L) [2, 4, 6, 7, 8, 10, 21, 22, 23] [(7, .c (.i .i64 p.1)), (8, .c (.i .i64 p.2))] [2, 4, 10] [])
def b9u (L : List Lf) : List (Bool × (Ex × St)) := bnd (b0O N L (fun p => p)) fun q => [(true, a8b L q)]
theorem b5H (L : List Lf) : pc Tryz.prog (a0J N) ((c2S N).no 33050).h 0 100 67 33050 a80 L [2, 4, 6, 7, 8, 10, 21, 22, 23] [2, 4, 10] = b0O N L (fun p => some (a8b L p)) := by kernel_rfl
def c2T : Sg Tryz.prog 0 67 :=
 (c2S N).add (((c2S N).no 33050).cut (b9u N) a0c (a0h N) fun L x hx => (b5H N L).trans ((b5G N ..).trans (a2h _ _ hx))) 33050
def a3f (w0 w1 w2 w7 : Int) (w8 : Bool) (w33 : Int) (k0 : Int × Int → R) : R :=
 bif w8 then
  k0 (w33, w1)
 else
  bnd (a4s N w0 w1 w2 (w7 == 4) w33) fun y0 =>
  k0 y0
def a3g (w0 w1 w2 w7 : Int) (w8 : Bool) (w33 : Int) : Int × Int := a3f N w0 w1 w2 w7 w8 w33 (fun p => p)
theorem b5I (w0 w1 w2 w7 : Int) (w8 : Bool) (w33 : Int) (k0 : Int × Int → R) : a3f N w0 w1 w2 w7 w8 w33 k0 = k0 (a3g N w0 w1 w2 w7 w8 w33) := by
 unfold a3g a3f
 repeat' (first | rfl | apply a0n | (apply a0A; intro _))
def b0P (L : List Lf) (k0 : Int × Int → R) : R := a3f N (li L 0) (li L 1) (li L 2) (li L 7) (lb L 8) (li L 33) k0
def a81 : Sh := { tmps := [(2, .c (.p 2 0)), (4, .c (.p 4 0)), (6, .c (.f 112 [])), (7, .c (.i .i64)), (8, .c (.i .i64)), (10, .c (.p 10 0)), (11, .c (.i .i64)), (21, .c (.sl 40)), (22, .c (.i .i64)), (23, .c (.i .i64)), (36, .c (.i .i64)), (42, .c (.b))], mem := [(2, .box (.s :: rI 7 ([.s, .sl 24]))), (4, .box (.s :: rI 6 ([.sl 9]))), (10, .box (.s :: rI 6 ([.sl 9])))] }
def a8c (L : List Lf) (p : Int × Int) : Ex × St := (.normal, mg (a0k a81 L) [2, 4, 6, 7, 8, 10, 21, 22, 23] [(7, .c (.i .i64 p.1)), (8, .c (.i .i64 p.2))] [2, 4, 10] [])
def b9v (L : List Lf) : List (Bool × (Ex × St)) := bnd (b0P N L (fun p => p)) fun q => [(true, a8c L q)]
theorem b5J (L : List Lf) : pc Tryz.prog (a0J N) ((c2T N).no 42041).h 0 100 67 42041 a81 L [2, 4, 6, 7, 8, 10, 21, 22, 23] [2, 4, 10] = b0P N L (fun p => some (a8c L p)) := by kernel_rfl
def c2U : Sg Tryz.prog 0 67 :=
 (c2T N).add (((c2T N).no 42041).cut (b9v N) a0c (a0h N) fun L x hx => (b5J N L).trans ((b5I N ..).trans (a2h _ _ hx))) 42041
def a3D (w3 : LD) (w4 w7 w9 w10 w11 w12 w13 : Int) (w14 : LB) (w15 : Bool) (w16 : LD) (w0 w1 w5 : Int) (kr : Int → Int → Int → Option R) (k0 : Ty1 → Option R) (k1 : Unit → Option R) : Option R :=
 bif (decide (w5 < w4)) then
  bif (inB w5 w3.length) then
   bnd (a8l N N w10 w11 w12 w13 w14 w15 w16 ((w3.getD w5.toNat (.i 0)).cell 0).toS ((w3.getD w5.toNat (.i 0)).cell 1).toI ((w3.getD w5.toNat (.i 0)).cell 2).toI ((w3.getD w5.toNat (.i 0)).cell 3).toI ((w3.getD w5.toNat (.i 0)).cell 4).toI ((w3.getD w5.toNat (.i 0)).cell 5).toI ((w3.getD w5.toNat (.i 0)).cell 6).toI ((w3.getD w5.toNat (.i 0)).cell 7).isNil ((w3.getD w5.toNat (.i 0)).cell 7).items) fun y0 =>
   bif y0.isSome then
    bif (!(y0.getD default)) then
     kr w0 w1 (IntKind.wrap .i64 (w5 + 1))
    else
     bnd (IntKind.wrap .i64 (((w3.getD w5.toNat (.i 0)).cell 2).toI.tdiv 86400)) fun y1 =>
     bnd (a3g N w0 w1 y1 w7 (w7 == 3) ((w3.getD w5.toNat (.i 0)).cell 4).toI) fun y2 =>
     bif (decide (y2.1 ≥ w9)) then
      k0 (((w3.getD w5.toNat (.i 0)).cell 0).toS, ((w3.getD w5.toNat (.i 0)).cell 1).toI, ((w3.getD w5.toNat (.i 0)).cell 2).toI, ((w3.getD w5.toNat (.i 0)).cell 3).toI, ((w3.getD w5.toNat (.i 0)).cell 4).toI, ((w3.getD w5.toNat (.i 0)).cell 5).toI, ((w3.getD w5.toNat (.i 0)).cell 6).toI, ((w3.getD w5.toNat (.i 0)).cell 7).isNil, ((w3.getD w5.toNat (.i 0)).cell 7).items)
     else
      kr y2.1 y2.2 (IntKind.wrap .i64 (w5 + 1))
   else
    none
  else
   none
 else
  k1 ()
def a6q (N : Nat) {R : Type} (w3 : LD) (w4 w7 w9 w10 w11 w12 w13 : Int) (w14 : LB) (w15 : Bool) (w16 : LD) : Nat → Int → Int → Int → (Ty1 → Option R) → (Unit → Option R) → Option R
 | 0, _, _, _, _, _ => none
 | m + 1, w0, w1, w5, k0, k1 => a3D N w3 w4 w7 w9 w10 w11 w12 w13 w14 w15 w16 w0 w1 w5 (fun w0 w1 w5 => a6q N w3 w4 w7 w9 w10 w11 w12 w13 w14 w15 w16 m w0 w1 w5 k0 k1) k0 k1
def a82 (w3 : LD) (w4 w7 w9 w10 w11 w12 w13 : Int) (w14 : LB) (w15 : Bool) (w16 : LD) (w0 w1 w5 : Int) : Option (Sum (Ty1) (Unit)) := a6q N (R := (Sum (Ty1) (Unit))) w3 w4 w7 w9 w10 w11 w12 w13 w14 w15 w16 N w0 w1 w5 (fun p => some (.inl p)) (fun p => some (.inr p))
def a4G (L x : List Lf) (kr : List Lf → Option R) (k0 : Ty1 → Option R) (k1 : Unit → Option R) : Option R := a3D N (ll L 3) (li L 4) (li L 7) (li L 9) (li L 10) (li L 11) (li L 12) (li L 13) (ls L 14) (lb L 15) (ll L 16) (li x 0) (li x 1) (li x 2) (fun w0 w1 w5 => kr [.i w0, .i w1, .i w5]) k0 k1
theorem b2L (L x : List Lf) (kr : List Lf → Option R) (k0 : Ty1 → Option R) (k1 : Unit → Option R) : a4G N L x kr k0 k1 = (a4G N L x (fun y => some (.inl y)) (fun p => some (.inr (.inl p))) (fun p => some (.inr (.inr p)))).bind (a09 kr (a09 k0 k1)) := by
 unfold a4G a3D
 repeat' (first | with_reducible apply a0g | (with_reducible apply a0t; intro _) | rfl)
def a6r (L : List Lf) (m : Nat) (x : List Lf) : Option (Sum (Ty1) (Unit)) := a6q N (R := (Sum (Ty1) (Unit))) (ll L 3) (li L 4) (li L 7) (li L 9) (li L 10) (li L 11) (li L 12) (li L 13) (ls L 14) (lb L 15) (ll L 16) m (li x 0) (li x 1) (li x 2) (fun p => some (.inl p)) (fun p => some (.inr p))
def a2S : Sh := { tmps := [(2, .c (.p 2 0)), (4, .c (.p 4 0)), (6, .c (.f 112 [])), (7, .c (.i .i64)), (8, .c (.i .i64)), (21, .c (.sl 40)), (22, .c (.i .i64)), (23, .c (.i .i64))], mem := [(2, .box (.s :: rI 7 ([.s, .sl 24]))), (4, .box (.s :: rI 6 ([.sl 9])))] }
def b0Q (L : List Lf) (p : Ty1) : Ex × St := let p1 := p.2; let p2 := p1.2; let p3 := p2.2; let p4 := p3.2; let p5 := p4.2; let p6 := p5.2; let p7 := p6.2; let p8 := p7.2; (.ret, ⟨[(4, .c (.p 4 0)), (5, .c (.b true))], [(4, .box [.s p.1, .i .i64 p1.1, .i .i64 p2.1, .i .i64 p3.1, .i .i64 p4.1, .i .i64 p5.1, .i .i64 p6.1, .sl 9 p7.1 p8])]⟩)
def c54 (L : List Lf) : List (Bool × (Ex × St)) := bnd (a6r N L N (pk a2S [0, 1, 5] L)) fun q => [((a0T q), b0Q L (a0H q)), ((a0l q).isSome, ((.exit 0), mg (a0k a2S L) [4] [] [4] []))]
theorem b8E (m : Nat) (kn : St → Option (Ex × St)) (L x : List Lf) : lpB Tryz.prog (a0J N) ((c2U N).no 18).h 0 67 18 a2S [0, 1, 5] [4, 5] [4] (m + 100) kn L x = a4G N L x (fun y => kn (a0k a2S (mx a2S [0, 1, 5] L y))) (fun p => some (b0Q L p)) (fun _ => some ((.exit 0), mg (a0k a2S L) [4] [] [4] [])) := by kernel_rfl
theorem c2V (L : List Lf) (m : Nat) (x : List Lf) : a6r N L (m + 1) x = a4G N L x (a6r N L m) (fun p => some (.inl p)) (fun p => some (.inr p)) := by kernel_rfl
def c2W : Sg Tryz.prog 0 67 :=
 (c2U N).add (((c2U N).no 18).lp (c54 N) N a0c (a0h N) (fun m kn L x => (b8E N m kn L x).trans (b2L N L x _ _ _)) (fun L m x => (c2V N L m x).trans (b2L N L x (a6r N L m) (fun p => some (.inl p)) (fun p => some (.inr p)))) fun L x hx => (a34 a08) x hx) 18
def a1p (N : Nat) (w0 : Int) (w6 : Bool) (k0 : Int → R) : R :=
 bif w6 then
  k0 (IntKind.wrap .i64 (w0 + 1))
 else
  k0 1
def a3n (w0 : Int) (w6 : Bool) : Int := a1p N w0 w6 (fun p => p)
theorem b2M (w0 : Int) (w6 : Bool) (k0 : Int → R) : a1p N w0 w6 k0 = k0 (a3n N w0 w6) := by
 unfold a3n a1p
 repeat' (first | rfl | apply a0n | (apply a0A; intro _))
def a7d : Sh := { tmps := [(2, .c (.p 2 0)), (4, .c (.p 4 0)), (6, .c (.f 113 [])), (7, .c (.i .i64)), (10, .c (.p 10 0)), (11, .c (.i .i64)), (21, .c (.sl 40)), (22, .c (.i .i64)), (23, .c (.i .i64)), (53, .c (.b))], mem := [(2, .box (.s :: rI 7 ([.s, .sl 24]))), (4, .box (.s :: rI 6 ([.sl 9]))), (10, .box (.s :: rI 6 ([.sl 9])))] }
def a6s (L : List Lf) (p : Int) : Ex × St := (.normal, mg (a0k a7d L) [2, 4, 6, 7, 10, 11, 21, 22, 23] [(7, .c (.i .i64 p))] [2, 4, 10] [])
def b5K (L : List Lf) : List (Bool × (Ex × St)) := bnd (a1p N (li L 0) (lb L 6) (fun p => p)) fun q => [(true, a6s L q)]
theorem b2N (L : List Lf) : pc Tryz.prog (a0J N) ((c2W N).no 45056).h 0 100 67 45056 a7d L [2, 4, 6, 7, 10, 11, 21, 22, 23] [2, 4, 10] = a1p N (li L 0) (lb L 6) (fun p => some (a6s L p)) := by kernel_rfl
def c2X : Sg Tryz.prog 0 67 :=
 (c2W N).add (((c2W N).no 45056).cut (b5K N) a0c (a0h N) fun L x hx => (b2N N L).trans ((b2M N ..).trans (a2h _ _ hx))) 45056
def a2p (w0 w1 w2 : Int) (w7 : Bool) (k0 : Int → R) : R :=
 bif w7 then
  k0 w0
 else
  bnd (bif (decide (w1 ≥ 0)) then (w2 == (IntKind.wrap .i64 (w1 + 1))) else false) fun y0 =>
  bnd (a3n N w0 y0) fun y1 =>
  k0 y1
def a3o (w0 w1 w2 : Int) (w7 : Bool) : Int := a2p N w0 w1 w2 w7 (fun p => p)
theorem b2O (w0 w1 w2 : Int) (w7 : Bool) (k0 : Int → R) : a2p N w0 w1 w2 w7 k0 = k0 (a3o N w0 w1 w2 w7) := by
 unfold a3o a2p
 repeat' (first | rfl | apply a0n | (apply a0A; intro _))
def a8d (L : List Lf) (k0 : Int → R) : R := a2p N (li L 0) (li L 1) (li L 2) (lb L 7) k0
def a7e : Sh := { tmps := [(2, .c (.p 2 0)), (4, .c (.p 4 0)), (6, .c (.f 113 [])), (7, .c (.i .i64)), (8, .c (.i .i64)), (10, .c (.p 10 0)), (11, .c (.i .i64)), (21, .c (.sl 40)), (22, .c (.i .i64)), (23, .c (.i .i64)), (49, .c (.b))], mem := [(2, .box (.s :: rI 7 ([.s, .sl 24]))), (4, .box (.s :: rI 6 ([.sl 9]))), (10, .box (.s :: rI 6 ([.sl 9])))] }
def a6t (L : List Lf) (p : Int) : Ex × St := (.normal, mg (a0k a7e L) [2, 4, 6, 7, 10, 11, 21, 22, 23] [(7, .c (.i .i64 p))] [2, 4, 10] [])
def b5L (L : List Lf) : List (Bool × (Ex × St)) := bnd (a8d N L (fun p => p)) fun q => [(true, a6t L q)]
theorem b2P (L : List Lf) : pc Tryz.prog (a0J N) ((c2X N).no 51002).h 0 100 67 51002 a7e L [2, 4, 6, 7, 10, 11, 21, 22, 23] [2, 4, 10] = a8d N L (fun p => some (a6t L p)) := by kernel_rfl
def c2Y : Sg Tryz.prog 0 67 :=
 (c2X N).add (((c2X N).no 51002).cut (b5L N) a0c (a0h N) fun L x hx => (b2P N L).trans ((b2O N ..).trans (a2h _ _ hx))) 51002
def a2L (w0 w1 w2 : Int) (w7 : Bool) (w33 : Int) (k0 : Int × Int → R) : R :=
 bif w7 then
  bnd (a3o N w0 w1 w2 (w2 == w1)) fun y0 =>
  k0 (y0, w2)
 else
  k0 ((IntKind.wrap .i64 (w0 + w33)), w1)
def a3W (w0 w1 w2 : Int) (w7 : Bool) (w33 : Int) : Int × Int := a2L N w0 w1 w2 w7 w33 (fun p => p)
theorem b4i (w0 w1 w2 : Int) (w7 : Bool) (w33 : Int) (k0 : Int × Int → R) : a2L N w0 w1 w2 w7 w33 k0 = k0 (a3W N w0 w1 w2 w7 w33) := by
 unfold a3W a2L
 repeat' (first | rfl | apply a0n | (apply a0A; intro _))
def a83 (L : List Lf) (k0 : Int × Int → R) : R := a2L N (li L 0) (li L 1) (li L 2) (lb L 7) (li L 33) k0
def a8e : Sh := { tmps := [(2, .c (.p 2 0)), (4, .c (.p 4 0)), (6, .c (.f 113 [])), (7, .c (.i .i64)), (8, .c (.i .i64)), (10, .c (.p 10 0)), (11, .c (.i .i64)), (21, .c (.sl 40)), (22, .c (.i .i64)), (23, .c (.i .i64)), (47, .c (.b))], mem := [(2, .box (.s :: rI 7 ([.s, .sl 24]))), (4, .box (.s :: rI 6 ([.sl 9]))), (10, .box (.s :: rI 6 ([.sl 9])))] }
def a7f (L : List Lf) (p : Int × Int) : Ex × St := (.normal, mg (a0k a8e L) [2, 4, 6, 7, 8, 10, 21, 22, 23] [(7, .c (.i .i64 p.1)), (8, .c (.i .i64 p.2))] [2, 4, 10] [])
def b8F (L : List Lf) : List (Bool × (Ex × St)) := bnd (a83 N L (fun p => p)) fun q => [(true, a7f L q)]
theorem b4j (L : List Lf) : pc Tryz.prog (a0J N) ((c2Y N).no 33050).h 0 100 67 33050 a8e L [2, 4, 6, 7, 8, 10, 21, 22, 23] [2, 4, 10] = a83 N L (fun p => some (a7f L p)) := by kernel_rfl
def c2Z : Sg Tryz.prog 0 67 :=
 (c2Y N).add (((c2Y N).no 33050).cut (b8F N) a0c (a0h N) fun L x hx => (b4j N L).trans ((b4i N ..).trans (a2h _ _ hx))) 33050
def a2M (w0 w1 w2 w7 : Int) (w8 : Bool) (w34 : Int) (k0 : Int × Int → R) : R :=
 bif w8 then
  k0 (w34, w1)
 else
  bnd (a3W N w0 w1 w2 (w7 == 4) w34) fun y0 =>
  k0 y0
def a2N (w0 w1 w2 w7 : Int) (w8 : Bool) (w34 : Int) : Int × Int := a2M N w0 w1 w2 w7 w8 w34 (fun p => p)
theorem b4k (w0 w1 w2 w7 : Int) (w8 : Bool) (w34 : Int) (k0 : Int × Int → R) : a2M N w0 w1 w2 w7 w8 w34 k0 = k0 (a2N N w0 w1 w2 w7 w8 w34) := by
 unfold a2N a2M
 repeat' (first | rfl | apply a0n | (apply a0A; intro _))
def a84 (L : List Lf) (k0 : Int × Int → R) : R := a2M N (li L 0) (li L 1) (li L 2) (li L 7) (lb L 8) (li L 34) k0
def a8f : Sh := { tmps := [(2, .c (.p 2 0)), (4, .c (.p 4 0)), (6, .c (.f 113 [])), (7, .c (.i .i64)), (8, .c (.i .i64)), (10, .c (.p 10 0)), (11, .c (.i .i64)), (21, .c (.sl 40)), (22, .c (.i .i64)), (23, .c (.i .i64)), (36, .c (.i .i64)), (42, .c (.b))], mem := [(2, .box (.s :: rI 7 ([.s, .sl 24]))), (4, .box (.s :: rI 6 ([.sl 9]))), (10, .box (.s :: rI 6 ([.sl 9])))] }
def a7g (L : List Lf) (p : Int × Int) : Ex × St := (.normal, mg (a0k a8f L) [2, 4, 6, 7, 8, 10, 21, 22, 23] [(7, .c (.i .i64 p.1)), (8, .c (.i .i64 p.2))] [2, 4, 10] [])
def b8G (L : List Lf) : List (Bool × (Ex × St)) := bnd (a84 N L (fun p => p)) fun q => [(true, a7g L q)]
theorem b4l (L : List Lf) : pc Tryz.prog (a0J N) ((c2Z N).no 42041).h 0 100 67 42041 a8f L [2, 4, 6, 7, 8, 10, 21, 22, 23] [2, 4, 10] = a84 N L (fun p => some (a7g L p)) := by kernel_rfl
def c20 : Sg Tryz.prog 0 67 :=
 (c2Z N).add (((c2Z N).no 42041).cut (b8G N) a0c (a0h N) fun L x hx => (b4l N L).trans ((b4k N ..).trans (a2h _ _ hx))) 42041
def a2T (w3 : LD) (w4 w7 w9 w10 w11 w12 w13 : Int) (w14 : LB) (w15 : Bool) (w16 : LD) (w0 w1 w5 : Int) (kr : Int → Int → Int → Option R) (k0 : Ty1 → Option R) (k1 : Unit → Option R) : Option R :=
 bif (decide (w5 < w4)) then
  bif (inB w5 w3.length) then
   bnd (a8l N N w10 w11 w12 w13 w14 w15 w16 ((w3.getD w5.toNat (.i 0)).cell 0).toS ((w3.getD w5.toNat (.i 0)).cell 1).toI ((w3.getD w5.toNat (.i 0)).cell 2).toI ((w3.getD w5.toNat (.i 0)).cell 3).toI ((w3.getD w5.toNat (.i 0)).cell 4).toI ((w3.getD w5.toNat (.i 0)).cell 5).toI ((w3.getD w5.toNat (.i 0)).cell 6).toI ((w3.getD w5.toNat (.i 0)).cell 7).isNil ((w3.getD w5.toNat (.i 0)).cell 7).items) fun y0 =>
   bif y0.isSome then
    bif (!(y0.getD default)) then
     kr w0 w1 (IntKind.wrap .i64 (w5 + 1))
    else
     bnd (IntKind.wrap .i64 (((w3.getD w5.toNat (.i 0)).cell 2).toI.tdiv 86400)) fun y1 =>
     bnd (a2N N w0 w1 y1 w7 (w7 == 3) ((w3.getD w5.toNat (.i 0)).cell 5).toI) fun y2 =>
     bif (decide (y2.1 ≥ w9)) then
      k0 (((w3.getD w5.toNat (.i 0)).cell 0).toS, ((w3.getD w5.toNat (.i 0)).cell 1).toI, ((w3.getD w5.toNat (.i 0)).cell 2).toI, ((w3.getD w5.toNat (.i 0)).cell 3).toI, ((w3.getD w5.toNat (.i 0)).cell 4).toI, ((w3.getD w5.toNat (.i 0)).cell 5).toI, ((w3.getD w5.toNat (.i 0)).cell 6).toI, ((w3.getD w5.toNat (.i 0)).cell 7).isNil, ((w3.getD w5.toNat (.i 0)).cell 7).items)
     else
      kr y2.1 y2.2 (IntKind.wrap .i64 (w5 + 1))
   else
    none
  else
   none
 else
  k1 ()
def a5d (N : Nat) {R : Type} (w3 : LD) (w4 w7 w9 w10 w11 w12 w13 : Int) (w14 : LB) (w15 : Bool) (w16 : LD) : Nat → Int → Int → Int → (Ty1 → Option R) → (Unit → Option R) → Option R
 | 0, _, _, _, _, _ => none
 | m + 1, w0, w1, w5, k0, k1 => a2T N w3 w4 w7 w9 w10 w11 w12 w13 w14 w15 w16 w0 w1 w5 (fun w0 w1 w5 => a5d N w3 w4 w7 w9 w10 w11 w12 w13 w14 w15 w16 m w0 w1 w5 k0 k1) k0 k1
def a7Q (w3 : LD) (w4 w7 w9 w10 w11 w12 w13 : Int) (w14 : LB) (w15 : Bool) (w16 : LD) (w0 w1 w5 : Int) : Option (Sum (Ty1) (Unit)) := a5d N (R := (Sum (Ty1) (Unit))) w3 w4 w7 w9 w10 w11 w12 w13 w14 w15 w16 N w0 w1 w5 (fun p => some (.inl p)) (fun p => some (.inr p))
def a3X (L x : List Lf) (kr : List Lf → Option R) (k0 : Ty1 → Option R) (k1 : Unit → Option R) : Option R := a2T N (ll L 3) (li L 4) (li L 7) (li L 9) (li L 10) (li L 11) (li L 12) (li L 13) (ls L 14) (lb L 15) (ll L 16) (li x 0) (li x 1) (li x 2) (fun w0 w1 w5 => kr [.i w0, .i w1, .i w5]) k0 k1
theorem b0R (L x : List Lf) (kr : List Lf → Option R) (k0 : Ty1 → Option R) (k1 : Unit → Option R) : a3X N L x kr k0 k1 = (a3X N L x (fun y => some (.inl y)) (fun p => some (.inr (.inl p))) (fun p => some (.inr (.inr p)))).bind (a09 kr (a09 k0 k1)) := by
 unfold a3X a2T
 repeat' (first | with_reducible apply a0g | (with_reducible apply a0t; intro _) | rfl)
def a5e (L : List Lf) (m : Nat) (x : List Lf) : Option (Sum (Ty1) (Unit)) := a5d N (R := (Sum (Ty1) (Unit))) (ll L 3) (li L 4) (li L 7) (li L 9) (li L 10) (li L 11) (li L 12) (li L 13) (ls L 14) (lb L 15) (ll L 16) m (li x 0) (li x 1) (li x 2) (fun p => some (.inl p)) (fun p => some (.inr p))
def a2v : Sh := { tmps := [(2, .c (.p 2 0)), (4, .c (.p 4 0)), (6, .c (.f 113 [])), (7, .c (.i .i64)), (8, .c (.i .i64)), (21, .c (.sl 40)), (22, .c (.i .i64)), (23, .c (.i .i64))], mem := [(2, .box (.s :: rI 7 ([.s, .sl 24]))), (4, .box (.s :: rI 6 ([.sl 9])))] }
def a85 (L : List Lf) (p : Ty1) : Ex × St := let p1 := p.2; let p2 := p1.2; let p3 := p2.2; let p4 := p3.2; let p5 := p4.2; let p6 := p5.2; let p7 := p6.2; let p8 := p7.2; (.ret, ⟨[(4, .c (.p 4 0)), (5, .c (.b true))], [(4, .box [.s p.1, .i .i64 p1.1, .i .i64 p2.1, .i .i64 p3.1, .i .i64 p4.1, .i .i64 p5.1, .i .i64 p6.1, .sl 9 p7.1 p8])]⟩)
def c21 (L : List Lf) : List (Bool × (Ex × St)) := bnd (a5e N L N (pk a2v [0, 1, 5] L)) fun q => [((a0T q), a85 L (a0H q)), ((a0l q).isSome, ((.exit 0), mg (a0k a2v L) [4] [] [4] []))]
theorem b5M (m : Nat) (kn : St → Option (Ex × St)) (L x : List Lf) : lpB Tryz.prog (a0J N) ((c20 N).no 18).h 0 67 18 a2v [0, 1, 5] [4, 5] [4] (m + 100) kn L x = a3X N L x (fun y => kn (a0k a2v (mx a2v [0, 1, 5] L y))) (fun p => some (a85 L p)) (fun _ => some ((.exit 0), mg (a0k a2v L) [4] [] [4] [])) := by kernel_rfl
theorem b9w (L : List Lf) (m : Nat) (x : List Lf) : a5e N L (m + 1) x = a3X N L x (a5e N L m) (fun p => some (.inl p)) (fun p => some (.inr p)) := by kernel_rfl
def c22 : Sg Tryz.prog 0 67 :=
 (c20 N).add (((c20 N).no 18).lp (c21 N) N a0c (a0h N) (fun m kn L x => (b5M N m kn L x).trans (b0R N L x _ _ _)) (fun L m x => (b9w N L m x).trans (b0R N L x (a5e N L m) (fun p => some (.inl p)) (fun p => some (.inr p)))) fun L x hx => (a34 a08) x hx) 18
def a1f (N : Nat) (w0 : Int) (w6 : Bool) (k0 : Int → R) : R :=
 bif w6 then
  k0 (IntKind.wrap .i64 (w0 + 1))
 else
  k0 1
def a2U (w0 : Int) (w6 : Bool) : Int := a1f N w0 w6 (fun p => p)
theorem b1j (w0 : Int) (w6 : Bool) (k0 : Int → R) : a1f N w0 w6 k0 = k0 (a2U N w0 w6) := by
 unfold a2U a1f
 repeat' (first | rfl | apply a0n | (apply a0A; intro _))
def a6u : Sh := { tmps := [(2, .c (.p 2 0)), (4, .c (.p 4 0)), (6, .c (.f 114 [])), (7, .c (.i .i64)), (10, .c (.p 10 0)), (11, .c (.i .i64)), (21, .c (.sl 40)), (22, .c (.i .i64)), (23, .c (.i .i64)), (53, .c (.b))], mem := [(2, .box (.s :: rI 7 ([.s, .sl 24]))), (4, .box (.s :: rI 6 ([.sl 9]))), (10, .box (.s :: rI 6 ([.sl 9])))] }
def a5L (L : List Lf) (p : Int) : Ex × St := (.normal, mg (a0k a6u L) [2, 4, 6, 7, 10, 11, 21, 22, 23] [(7, .c (.i .i64 p))] [2, 4, 10] [])
def b4m (L : List Lf) : List (Bool × (Ex × St)) := bnd (a1f N (li L 0) (lb L 6) (fun p => p)) fun q => [(true, a5L L q)]
theorem b1k (L : List Lf) : pc Tryz.prog (a0J N) ((c22 N).no 45056).h 0 100 67 45056 a6u L [2, 4, 6, 7, 10, 11, 21, 22, 23] [2, 4, 10] = a1f N (li L 0) (lb L 6) (fun p => some (a5L L p)) := by kernel_rfl
def c23 : Sg Tryz.prog 0 67 :=
 (c22 N).add (((c22 N).no 45056).cut (b4m N) a0c (a0h N) fun L x hx => (b1k N L).trans ((b1j N ..).trans (a2h _ _ hx))) 45056
def a1K (w0 w1 w2 : Int) (w7 : Bool) (k0 : Int → R) : R :=
 bif w7 then
  k0 w0
 else
  bnd (bif (decide (w1 ≥ 0)) then (w2 == (IntKind.wrap .i64 (w1 + 1))) else false) fun y0 =>
  bnd (a2U N w0 y0) fun y1 =>
  k0 y1
def a2V (w0 w1 w2 : Int) (w7 : Bool) : Int := a1K N w0 w1 w2 w7 (fun p => p)
theorem b1l (w0 w1 w2 : Int) (w7 : Bool) (k0 : Int → R) : a1K N w0 w1 w2 w7 k0 = k0 (a2V N w0 w1 w2 w7) := by
 unfold a2V a1K
 repeat' (first | rfl | apply a0n | (apply a0A; intro _))
def a7h (L : List Lf) (k0 : Int → R) : R := a1K N (li L 0) (li L 1) (li L 2) (lb L 7) k0
def a6v : Sh := { tmps := [(2, .c (.p 2 0)), (4, .c (.p 4 0)), (6, .c (.f 114 [])), (7, .c (.i .i64)), (8, .c (.i .i64)), (10, .c (.p 10 0)), (11, .c (.i .i64)), (21, .c (.sl 40)), (22, .c (.i .i64)), (23, .c (.i .i64)), (49, .c (.b))], mem := [(2, .box (.s :: rI 7 ([.s, .sl 24]))), (4, .box (.s :: rI 6 ([.sl 9]))), (10, .box (.s :: rI 6 ([.sl 9])))] }
def a5M (L : List Lf) (p : Int) : Ex × St := (.normal, mg (a0k a6v L) [2, 4, 6, 7, 10, 11, 21, 22, 23] [(7, .c (.i .i64 p))] [2, 4, 10] [])
def b4n (L : List Lf) : List (Bool × (Ex × St)) := bnd (a7h N L (fun p => p)) fun q => [(true, a5M L q)]
theorem b1m (L : List Lf) : pc Tryz.prog (a0J N) ((c23 N).no 51002).h 0 100 67 51002 a6v L [2, 4, 6, 7, 10, 11, 21, 22, 23] [2, 4, 10] = a7h N L (fun p => some (a5M L p)) := by kernel_rfl
def c24 : Sg Tryz.prog 0 67 :=
 (c23 N).add (((c23 N).no 51002).cut (b4n N) a0c (a0h N) fun L x hx => (b1m N L).trans ((b1l N ..).trans (a2h _ _ hx))) 51002
def a2q (w0 w1 w2 : Int) (w7 : Bool) (w34 : Int) (k0 : Int × Int → R) : R :=
 bif w7 then
  bnd (a2V N w0 w1 w2 (w2 == w1)) fun y0 =>
  k0 (y0, w2)
 else
  k0 ((IntKind.wrap .i64 (w0 + w34)), w1)
def a3p (w0 w1 w2 : Int) (w7 : Bool) (w34 : Int) : Int × Int := a2q N w0 w1 w2 w7 w34 (fun p => p)
theorem b2Q (w0 w1 w2 : Int) (w7 : Bool) (w34 : Int) (k0 : Int × Int → R) : a2q N w0 w1 w2 w7 w34 k0 = k0 (a3p N w0 w1 w2 w7 w34) := by
 unfold a3p a2q
 repeat' (first | rfl | apply a0n | (apply a0A; intro _))
def a8g (L : List Lf) (k0 : Int × Int → R) : R := a2q N (li L 0) (li L 1) (li L 2) (lb L 7) (li L 34) k0
def a7i : Sh := { tmps := [(2, .c (.p 2 0)), (4, .c (.p 4 0)), (6, .c (.f 114 [])), (7, .c (.i .i64)), (8, .c (.i .i64)), (10, .c (.p 10 0)), (11, .c (.i .i64)), (21, .c (.sl 40)), (22, .c (.i .i64)), (23, .c (.i .i64)), (47, .c (.b))], mem := [(2, .box (.s :: rI 7 ([.s, .sl 24]))), (4, .box (.s :: rI 6 ([.sl 9]))), (10, .box (.s :: rI 6 ([.sl 9])))] }
def a6w (L : List Lf) (p : Int × Int) : Ex × St := (.normal, mg (a0k a7i L) [2, 4, 6, 7, 8, 10, 21, 22, 23] [(7, .c (.i .i64 p.1)), (8, .c (.i .i64 p.2))] [2, 4, 10] [])
def b5N (L : List Lf) : List (Bool × (Ex × St)) := bnd (a8g N L (fun p => p)) fun q => [(true, a6w L q)]
theorem b2R (L : List Lf) : pc Tryz.prog (a0J N) ((c24 N).no 33050).h 0 100 67 33050 a7i L [2, 4, 6, 7, 8, 10, 21, 22, 23] [2, 4, 10] = a8g N L (fun p => some (a6w L p)) := by kernel_rfl
def c25 : Sg Tryz.prog 0 67 :=
 (c24 N).add (((c24 N).no 33050).cut (b5N N) a0c (a0h N) fun L x hx => (b2R N L).trans ((b2Q N ..).trans (a2h _ _ hx))) 33050
def a2r (w0 w1 w2 w7 : Int) (w8 : Bool) (w35 : Int) (k0 : Int × Int → R) : R :=
 bif w8 then
  k0 (w35, w1)
 else
  bnd (a3p N w0 w1 w2 (w7 == 4) w35) fun y0 =>
  k0 y0
def a2s (w0 w1 w2 w7 : Int) (w8 : Bool) (w35 : Int) : Int × Int := a2r N w0 w1 w2 w7 w8 w35 (fun p => p)
theorem b2S (w0 w1 w2 w7 : Int) (w8 : Bool) (w35 : Int) (k0 : Int × Int → R) : a2r N w0 w1 w2 w7 w8 w35 k0 = k0 (a2s N w0 w1 w2 w7 w8 w35) := by
 unfold a2s a2r
 repeat' (first | rfl | apply a0n | (apply a0A; intro _))
def a8h (L : List Lf) (k0 : Int × Int → R) : R := a2r N (li L 0) (li L 1) (li L 2) (li L 7) (lb L 8) (li L 35) k0
def a7j : Sh := { tmps := [(2, .c (.p 2 0)), (4, .c (.p 4 0)), (6, .c (.f 114 [])), (7, .c (.i .i64)), (8, .c (.i .i64)), (10, .c (.p 10 0)), (11, .c (.i .i64)), (21, .c (.sl 40)), (22, .c (.i .i64)), (23, .c (.i .i64)), (36, .c (.i .i64)), (42, .c (.b))], mem := [(2, .box (.s :: rI 7 ([.s, .sl 24]))), (4, .box (.s :: rI 6 ([.sl 9]))), (10, .box (.s :: rI 6 ([.sl 9])))] }
def a6x (L : List Lf) (p : Int × Int) : Ex × St := (.normal, mg (a0k a7j L) [2, 4, 6, 7, 8, 10, 21, 22, 23] [(7, .c (.i .i64 p.1)), (8, .c (.i .i64 p.2))] [2, 4, 10] [])
def b5O (L : List Lf) : List (Bool × (Ex × St)) := bnd (a8h N L (fun p => p)) fun q => [(true, a6x L q)]
theorem b2T (L : List Lf) : pc Tryz.prog (a0J N) ((c25 N).no 42041).h 0 100 67 42041 a7j L [2, 4, 6, 7, 8, 10, 21, 22, 23] [2, 4, 10] = a8h N L (fun p => some (a6x L p)) := by kernel_rfl
def c26 : Sg Tryz.prog 0 67 :=
 (c25 N).add (((c25 N).no 42041).cut (b5O N) a0c (a0h N) fun L x hx => (b2T N L).trans ((b2S N ..).trans (a2h _ _ hx))) 42041
def a2w (w3 : LD) (w4 w7 w9 w10 w11 w12 w13 : Int) (w14 : LB) (w15 : Bool) (w16 : LD) (w0 w1 w5 : Int) (kr : Int → Int → Int → Option R) (k0 : Ty1 → Option R) (k1 : Unit → Option R) : Option R :=
 bif (decide (w5 < w4)) then
  bif (inB w5 w3.length) then
   bnd (a8l N N w10 w11 w12 w13 w14 w15 w16 ((w3.getD w5.toNat (.i 0)).cell 0).toS ((w3.getD w5.toNat (.i 0)).cell 1).toI ((w3.getD w5.toNat (.i 0)).cell 2).toI ((w3.getD w5.toNat (.i 0)).cell 3).toI ((w3.getD w5.toNat (.i 0)).cell 4).toI ((w3.getD w5.toNat (.i 0)).cell 5).toI ((w3.getD w5.toNat (.i 0)).cell 6).toI ((w3.getD w5.toNat (.i 0)).cell 7).isNil ((w3.getD w5.toNat (.i 0)).cell 7).items) fun y0 =>
   bif y0.isSome then
    bif (!(y0.getD default)) then
     kr w0 w1 (IntKind.wrap .i64 (w5 + 1))
    else
     bnd (IntKind.wrap .i64 (((w3.getD w5.toNat (.i 0)).cell 2).toI.tdiv 86400)) fun y1 =>
     bnd (a2s N w0 w1 y1 w7 (w7 == 3) ((w3.getD w5.toNat (.i 0)).cell 6).toI) fun y2 =>
     bif (decide (y2.1 ≥ w9)) then
      k0 (((w3.getD w5.toNat (.i 0)).cell 0).toS, ((w3.getD w5.toNat (.i 0)).cell 1).toI, ((w3.getD w5.toNat (.i 0)).cell 2).toI, ((w3.getD w5.toNat (.i 0)).cell 3).toI, ((w3.getD w5.toNat (.i 0)).cell 4).toI, ((w3.getD w5.toNat (.i 0)).cell 5).toI, ((w3.getD w5.toNat (.i 0)).cell 6).toI, ((w3.getD w5.toNat (.i 0)).cell 7).isNil, ((w3.getD w5.toNat (.i 0)).cell 7).items)
     else
      kr y2.1 y2.2 (IntKind.wrap .i64 (w5 + 1))
   else
    none
  else
   none
 else
  k1 ()
def a4t (N : Nat) {R : Type} (w3 : LD) (w4 w7 w9 w10 w11 w12 w13 : Int) (w14 : LB) (w15 : Bool) (w16 : LD) : Nat → Int → Int → Int → (Ty1 → Option R) → (Unit → Option R) → Option R
 | 0, _, _, _, _, _ => none
 | m + 1, w0, w1, w5, k0, k1 => a2w N w3 w4 w7 w9 w10 w11 w12 w13 w14 w15 w16 w0 w1 w5 (fun w0 w1 w5 => a4t N w3 w4 w7 w9 w10 w11 w12 w13 w14 w15 w16 m w0 w1 w5 k0 k1) k0 k1
def a6P (w3 : LD) (w4 w7 w9 w10 w11 w12 w13 : Int) (w14 : LB) (w15 : Bool) (w16 : LD) (w0 w1 w5 : Int) : Option (Sum (Ty1) (Unit)) := a4t N (R := (Sum (Ty1) (Unit))) w3 w4 w7 w9 w10 w11 w12 w13 w14 w15 w16 N w0 w1 w5 (fun p => some (.inl p)) (fun p => some (.inr p))
def a3h (L x : List Lf) (kr : List Lf → Option R) (k0 : Ty1 → Option R) (k1 : Unit → Option R) : Option R := a2w N (ll L 3) (li L 4) (li L 7) (li L 9) (li L 10) (li L 11) (li L 12) (li L 13) (ls L 14) (lb L 15) (ll L 16) (li x 0) (li x 1) (li x 2) (fun w0 w1 w5 => kr [.i w0, .i w1, .i w5]) k0 k1
theorem a86 (L x : List Lf) (kr : List Lf → Option R) (k0 : Ty1 → Option R) (k1 : Unit → Option R) : a3h N L x kr k0 k1 = (a3h N L x (fun y => some (.inl y)) (fun p => some (.inr (.inl p))) (fun p => some (.inr (.inr p)))).bind (a09 kr (a09 k0 k1)) := by
 unfold a3h a2w
 repeat' (first | with_reducible apply a0g | (with_reducible apply a0t; intro _) | rfl)
def a4u (L : List Lf) (m : Nat) (x : List Lf) : Option (Sum (Ty1) (Unit)) := a4t N (R := (Sum (Ty1) (Unit))) (ll L 3) (li L 4) (li L 7) (li L 9) (li L 10) (li L 11) (li L 12) (li L 13) (ls L 14) (lb L 15) (ll L 16) m (li x 0) (li x 1) (li x 2) (fun p => some (.inl p)) (fun p => some (.inr p))
def a1L : Sh := { tmps := [(2, .c (.p 2 0)), (4, .c (.p 4 0)), (6, .c (.f 114 [])), (7, .c (.i .i64)), (8, .c (.i .i64)), (21, .c (.sl 40)), (22, .c (.i .i64)), (23, .c (.i .i64))], mem := [(2, .box (.s :: rI 7 ([.s, .sl 24]))), (4, .box (.s :: rI 6 ([.sl 9])))] }
def a8i (L : List Lf) (p : Ty1) : Ex × St := let p1 := p.2; let p2 := p1.2; let p3 := p2.2; let p4 := p3.2; let p5 := p4.2; let p6 := p5.2; let p7 := p6.2; let p8 := p7.2; (.ret, ⟨[(4, .c (.p 4 0)), (5, .c (.b true))], [(4, .box [.s p.1, .i .i64 p1.1, .i .i64 p2.1, .i .i64 p3.1, .i .i64 p4.1, .i .i64 p5.1, .i .i64 p6.1, .sl 9 p7.1 p8])]⟩)
def b9x (L : List Lf) : List (Bool × (Ex × St)) := bnd (a4u N L N (pk a1L [0, 1, 5] L)) fun q => [((a0T q), a8i L (a0H q)), ((a0l q).isSome, ((.exit 0), mg (a0k a1L L) [4] [] [4] []))]
theorem b4o (m : Nat) (kn : St → Option (Ex × St)) (L x : List Lf) : lpB Tryz.prog (a0J N) ((c26 N).no 18).h 0 67 18 a1L [0, 1, 5] [4, 5] [4] (m + 100) kn L x = a3h N L x (fun y => kn (a0k a1L (mx a1L [0, 1, 5] L y))) (fun p => some (a8i L p)) (fun _ => some ((.exit 0), mg (a0k a1L L) [4] [] [4] [])) := by kernel_rfl
theorem b8H (L : List Lf) (m : Nat) (x : List Lf) : a4u N L (m + 1) x = a3h N L x (a4u N L m) (fun p => some (.inl p)) (fun p => some (.inr p)) := by kernel_rfl
def c27 : Sg Tryz.prog 0 67 :=
 (c26 N).add (((c26 N).no 18).lp (b9x N) N a0c (a0h N) (fun m kn L x => (b4o N m kn L x).trans (a86 N L x _ _ _)) (fun L m x => (b8H N L m x).trans (a86 N L x (a4u N L m) (fun p => some (.inl p)) (fun p => some (.inr p)))) fun L x hx => (a34 a08) x hx) 18
def a05 (N : Nat) (w0 : Int) (w6 : Bool) (k0 : Int → R) : R :=
 bif w6 then
  k0 (IntKind.wrap .i64 (w0 + 1))
 else
  k0 1
def a2C (w0 : Int) (w6 : Bool) : Int := a05 N w0 w6 (fun p => p)
theorem b0n (w0 : Int) (w6 : Bool) (k0 : Int → R) : a05 N w0 w6 k0 = k0 (a2C N w0 w6) := by
 unfold a2C a05
 repeat' (first | rfl | apply a0n | (apply a0A; intro _))
def a5N : Sh := { tmps := [(2, .c (.p 2 0)), (4, .c (.p 4 0)), (6, .c (.f 115 [])), (7, .c (.i .i64)), (10, .c (.p 10 0)), (11, .c (.i .i64)), (21, .c (.sl 40)), (22, .c (.i .i64)), (23, .c (.i .i64)), (53, .c (.b))], mem := [(2, .box (.s :: rI 7 ([.s, .sl 24]))), (4, .box (.s :: rI 6 ([.sl 9]))), (10, .box (.s :: rI 6 ([.sl 9])))] }
def a4T (L : List Lf) (p : Int) : Ex × St := (.normal, mg (a0k a5N L) [2, 4, 6, 7, 10, 11, 21, 22, 23] [(7, .c (.i .i64 p))] [2, 4, 10] [])
def b2U (L : List Lf) : List (Bool × (Ex × St)) := bnd (a05 N (li L 0) (lb L 6) (fun p => p)) fun q => [(true, a4T L q)]
theorem b0o (L : List Lf) : pc Tryz.prog (a0J N) ((c27 N).no 45056).h 0 100 67 45056 a5N L [2, 4, 6, 7, 10, 11, 21, 22, 23] [2, 4, 10] = a05 N (li L 0) (lb L 6) (fun p => some (a4T L p)) := by kernel_rfl
def c28 : Sg Tryz.prog 0 67 :=
 (c27 N).add (((c27 N).no 45056).cut (b2U N) a0c (a0h N) fun L x hx => (b0o N L).trans ((b0n N ..).trans (a2h _ _ hx))) 45056
def a1z (w0 w1 w2 : Int) (w7 : Bool) (k0 : Int → R) : R :=
 bif w7 then
  k0 w0
 else
  bnd (bif (decide (w1 ≥ 0)) then (w2 == (IntKind.wrap .i64 (w1 + 1))) else false) fun y0 =>
  bnd (a2C N w0 y0) fun y1 =>
  k0 y1
def a2D (w0 w1 w2 : Int) (w7 : Bool) : Int := a1z N w0 w1 w2 w7 (fun p => p)
theorem b0p (w0 w1 w2 : Int) (w7 : Bool) (k0 : Int → R) : a1z N w0 w1 w2 w7 k0 = k0 (a2D N w0 w1 w2 w7) := by
 unfold a2D a1z
 repeat' (first | rfl | apply a0n | (apply a0A; intro _))
def a6y (L : List Lf) (k0 : Int → R) : R := a1z N (li L 0) (li L 1) (li L 2) (lb L 7) k0
def a5O : Sh := { tmps := [(2, .c (.p 2 0)), (4, .c (.p 4 0)), (6, .c (.f 115 [])), (7, .c (.i .i64)), (8, .c (.i .i64)), (10, .c (.p 10 0)), (11, .c (.i .i64)), (21, .c (.sl 40)), (22, .c (.i .i64)), (23, .c (.i .i64)), (49, .c (.b))], mem := [(2, .box (.s :: rI 7 ([.s, .sl 24]))), (4, .box (.s :: rI 6 ([.sl 9]))), (10, .box (.s :: rI 6 ([.sl 9])))] }
def a4U (L : List Lf) (p : Int) : Ex × St := (.normal, mg (a0k a5O L) [2, 4, 6, 7, 10, 11, 21, 22, 23] [(7, .c (.i .i64 p))] [2, 4, 10] [])
def b2V (L : List Lf) : List (Bool × (Ex × St)) := bnd (a6y N L (fun p => p)) fun q => [(true, a4U L q)]
theorem b0q (L : List Lf) : pc Tryz.prog (a0J N) ((c28 N).no 51002).h 0 100 67 51002 a5O L [2, 4, 6, 7, 10, 11, 21, 22, 23] [2, 4, 10] = a6y N L (fun p => some (a4U L p)) := by kernel_rfl
def c29 : Sg Tryz.prog 0 67 :=
 (c28 N).add (((c28 N).no 51002).cut (b2V N) a0c (a0h N) fun L x hx => (b0q N L).trans ((b0p N ..).trans (a2h _ _ hx))) 51002
def a1M (w0 w1 w2 : Int) (w7 : Bool) (w30 : Int) (k0 : Int × Int → R) : R :=
 bif w7 then
  bnd (a2D N w0 w1 w2 (w2 == w1)) fun y0 =>
  k0 (y0, w2)
 else
  bnd (c5V N w30) fun y1 =>
  k0 ((IntKind.wrap .i64 (w0 + y1)), w1)
def a2W (w0 w1 w2 : Int) (w7 : Bool) (w30 : Int) : Int × Int := a1M N w0 w1 w2 w7 w30 (fun p => p)
theorem b1n (w0 w1 w2 : Int) (w7 : Bool) (w30 : Int) (k0 : Int × Int → R) : a1M N w0 w1 w2 w7 w30 k0 = k0 (a2W N w0 w1 w2 w7 w30) := by
 unfold a2W a1M
 repeat' (first | rfl | apply a0n | (apply a0A; intro _))
def a7k (L : List Lf) (k0 : Int × Int → R) : R := a1M N (li L 0) (li L 1) (li L 2) (lb L 7) (li L 30) k0
def a6z : Sh := { tmps := [(2, .c (.p 2 0)), (4, .c (.p 4 0)), (6, .c (.f 115 [])), (7, .c (.i .i64)), (8, .c (.i .i64)), (10, .c (.p 10 0)), (11, .c (.i .i64)), (21, .c (.sl 40)), (22, .c (.i .i64)), (23, .c (.i .i64)), (47, .c (.b))], mem := [(2, .box (.s :: rI 7 ([.s, .sl 24]))), (4, .box (.s :: rI 6 ([.sl 9]))), (10, .box (.s :: rI 6 ([.sl 9])))] }
def a5P (L : List Lf) (p : Int × Int) : Ex × St := (.normal, mg (a0k a6z L) [2, 4, 6, 7, 8, 10, 21, 22, 23] [(7, .c (.i .i64 p.1)), (8, .c (.i .i64 p.2))] [2, 4, 10] [])
def b4p (L : List Lf) : List (Bool × (Ex × St)) := bnd (a7k N L (fun p => p)) fun q => [(true, a5P L q)]
theorem b1o (L : List Lf) : pc Tryz.prog (a0J N) ((c29 N).no 33050).h 0 100 67 33050 a6z L [2, 4, 6, 7, 8, 10, 21, 22, 23] [2, 4, 10] = a7k N L (fun p => some (a5P L p)) := by kernel_rfl
def c3a : Sg Tryz.prog 0 67 :=
 (c29 N).add (((c29 N).no 33050).cut (b4p N) a0c (a0h N) fun L x hx => (b1o N L).trans ((b1n N ..).trans (a2h _ _ hx))) 33050
def a1N (w0 w1 w2 w7 : Int) (w8 : Bool) (w31 : Int) (k0 : Int × Int → R) : R :=
 bif w8 then
  bnd (c5V N w31) fun y0 =>
  k0 (y0, w1)
 else
  bnd (a2W N w0 w1 w2 (w7 == 4) w31) fun y1 =>
  k0 y1
def a1O (w0 w1 w2 w7 : Int) (w8 : Bool) (w31 : Int) : Int × Int := a1N N w0 w1 w2 w7 w8 w31 (fun p => p)
theorem b1p (w0 w1 w2 w7 : Int) (w8 : Bool) (w31 : Int) (k0 : Int × Int → R) : a1N N w0 w1 w2 w7 w8 w31 k0 = k0 (a1O N w0 w1 w2 w7 w8 w31) := by
 unfold a1O a1N
 repeat' (first | rfl | apply a0n | (apply a0A; intro _))
def a7l (L : List Lf) (k0 : Int × Int → R) : R := a1N N (li L 0) (li L 1) (li L 2) (li L 7) (lb L 8) (li L 31) k0
def a6A : Sh := { tmps := [(2, .c (.p 2 0)), (4, .c (.p 4 0)), (6, .c (.f 115 [])), (7, .c (.i .i64)), (8, .c (.i .i64)), (10, .c (.p 10 0)), (11, .c (.i .i64)), (21, .c (.sl 40)), (22, .c (.i .i64)), (23, .c (.i .i64)), (36, .c (.i .i64)), (42, .c (.b))], mem := [(2, .box (.s :: rI 7 ([.s, .sl 24]))), (4, .box (.s :: rI 6 ([.sl 9]))), (10, .box (.s :: rI 6 ([.sl 9])))] }
def a5Q (L : List Lf) (p : Int × Int) : Ex × St := (.normal, mg (a0k a6A L) [2, 4, 6, 7, 8, 10, 21, 22, 23] [(7, .c (.i .i64 p.1)), (8, .c (.i .i64 p.2))] [2, 4, 10] [])
def b4q (L : List Lf) : List (Bool × (Ex × St)) := bnd (a7l N L (fun p => p)) fun q => [(true, a5Q L q)]
theorem b1q (L : List Lf) : pc Tryz.prog (a0J N) ((c3a N).no 42041).h 0 100 67 42041 a6A L [2, 4, 6, 7, 8, 10, 21, 22, 23] [2, 4, 10] = a7l N L (fun p => some (a5Q L p)) := by kernel_rfl
def c3b : Sg Tryz.prog 0 67 :=
 (c3a N).add (((c3a N).no 42041).cut (b4q N) a0c (a0h N) fun L x hx => (b1q N L).trans ((b1p N ..).trans (a2h _ _ hx))) 42041
def a1P (w3 : LD) (w4 w7 w9 w10 w11 w12 w13 : Int) (w14 : LB) (w15 : Bool) (w16 : LD) (w0 w1 w5 : Int) (kr : Int → Int → Int → Option R) (k0 : Ty1 → Option R) (k1 : Unit → Option R) : Option R :=
 bif (decide (w5 < w4)) then
  bif (inB w5 w3.length) then
   bnd (a8l N N w10 w11 w12 w13 w14 w15 w16 ((w3.getD w5.toNat (.i 0)).cell 0).toS ((w3.getD w5.toNat (.i 0)).cell 1).toI ((w3.getD w5.toNat (.i 0)).cell 2).toI ((w3.getD w5.toNat (.i 0)).cell 3).toI ((w3.getD w5.toNat (.i 0)).cell 4).toI ((w3.getD w5.toNat (.i 0)).cell 5).toI ((w3.getD w5.toNat (.i 0)).cell 6).toI ((w3.getD w5.toNat (.i 0)).cell 7).isNil ((w3.getD w5.toNat (.i 0)).cell 7).items) fun y0 =>
   bif y0.isSome then
    bif (!(y0.getD default)) then
     kr w0 w1 (IntKind.wrap .i64 (w5 + 1))
    else
     bnd (IntKind.wrap .i64 (((w3.getD w5.toNat (.i 0)).cell 2).toI.tdiv 86400)) fun y1 =>
     bnd (a1O N w0 w1 y1 w7 (w7 == 3) ((w3.getD w5.toNat (.i 0)).cell 2).toI) fun y2 =>
     bif (decide (y2.1 ≥ w9)) then
      k0 (((w3.getD w5.toNat (.i 0)).cell 0).toS, ((w3.getD w5.toNat (.i 0)).cell 1).toI, ((w3.getD w5.toNat (.i 0)).cell 2).toI, ((w3.getD w5.toNat (.i 0)).cell 3).toI, ((w3.getD w5.toNat (.i 0)).cell 4).toI, ((w3.getD w5.toNat (.i 0)).cell 5).toI, ((w3.getD w5.toNat (.i 0)).cell 6).toI, ((w3.getD w5.toNat (.i 0)).cell 7).isNil, ((w3.getD w5.toNat (.i 0)).cell 7).items)
     else
      kr y2.1 y2.2 (IntKind.wrap .i64 (w5 + 1))
   else
    none
  else
   none
 else
  k1 ()
def a3Y (N : Nat) {R : Type} (w3 : LD) (w4 w7 w9 w10 w11 w12 w13 : Int) (w14 : LB) (w15 : Bool) (w16 : LD) : Nat → Int → Int → Int → (Ty1 → Option R) → (Unit → Option R) → Option R
 | 0, _, _, _, _, _ => none
 | m + 1, w0, w1, w5, k0, k1 => a1P N w3 w4 w7 w9 w10 w11 w12 w13 w14 w15 w16 w0 w1 w5 (fun w0 w1 w5 => a3Y N w3 w4 w7 w9 w10 w11 w12 w13 w14 w15 w16 m w0 w1 w5 k0 k1) k0 k1
def a5R (w3 : LD) (w4 w7 w9 w10 w11 w12 w13 : Int) (w14 : LB) (w15 : Bool) (w16 : LD) (w0 w1 w5 : Int) : Option (Sum (Ty1) (Unit)) := a3Y N (R := (Sum (Ty1) (Unit))) w3 w4 w7 w9 w10 w11 w12 w13 w14 w15 w16 N w0 w1 w5 (fun p => some (.inl p)) (fun p => some (.inr p))
def a2O (L x : List Lf) (kr : List Lf → Option R) (k0 : Ty1 → Option R) (k1 : Unit → Option R) : Option R := a1P N (ll L 3) (li L 4) (li L 7) (li L 9) (li L 10) (li L 11) (li L 12) (li L 13) (ls L 14) (lb L 15) (ll L 16) (li x 0) (li x 1) (li x 2) (fun w0 w1 w5 => kr [.i w0, .i w1, .i w5]) k0 k1
theorem a8j (L x : List Lf) (kr : List Lf → Option R) (k0 : Ty1 → Option R) (k1 : Unit → Option R) : a2O N L x kr k0 k1 = (a2O N L x (fun y => some (.inl y)) (fun p => some (.inr (.inl p))) (fun p => some (.inr (.inr p)))).bind (a09 kr (a09 k0 k1)) := by
 unfold a2O a1P
 repeat' (first | with_reducible apply a0g | (with_reducible apply a0t; intro _) | rfl)
def a3Z (L : List Lf) (m : Nat) (x : List Lf) : Option (Sum (Ty1) (Unit)) := a3Y N (R := (Sum (Ty1) (Unit))) (ll L 3) (li L 4) (li L 7) (li L 9) (li L 10) (li L 11) (li L 12) (li L 13) (ls L 14) (lb L 15) (ll L 16) m (li x 0) (li x 1) (li x 2) (fun p => some (.inl p)) (fun p => some (.inr p))
def a1q : Sh := { tmps := [(2, .c (.p 2 0)), (4, .c (.p 4 0)), (6, .c (.f 115 [])), (7, .c (.i .i64)), (8, .c (.i .i64)), (21, .c (.sl 40)), (22, .c (.i .i64)), (23, .c (.i .i64))], mem := [(2, .box (.s :: rI 7 ([.s, .sl 24]))), (4, .box (.s :: rI 6 ([.sl 9])))] }
def a7m (L : List Lf) (p : Ty1) : Ex × St := let p1 := p.2; let p2 := p1.2; let p3 := p2.2; let p4 := p3.2; let p5 := p4.2; let p6 := p5.2; let p7 := p6.2; let p8 := p7.2; (.ret, ⟨[(4, .c (.p 4 0)), (5, .c (.b true))], [(4, .box [.s p.1, .i .i64 p1.1, .i .i64 p2.1, .i .i64 p3.1, .i .i64 p4.1, .i .i64 p5.1, .i .i64 p6.1, .sl 9 p7.1 p8])]⟩)
def b8I (L : List Lf) : List (Bool × (Ex × St)) := bnd (a3Z N L N (pk a1q [0, 1, 5] L)) fun q => [((a0T q), a7m L (a0H q)), ((a0l q).isSome, ((.exit 0), mg (a0k a1q L) [4] [] [4] []))]
theorem b2W (m : Nat) (kn : St → Option (Ex × St)) (L x : List Lf) : lpB Tryz.prog (a0J N) ((c3b N).no 18).h 0 67 18 a1q [0, 1, 5] [4, 5] [4] (m + 100) kn L x = a2O N L x (fun y => kn (a0k a1q (mx a1q [0, 1, 5] L y))) (fun p => some (a7m L p)) (fun _ => some ((.exit 0), mg (a0k a1q L) [4] [] [4] [])) := by kernel_rfl
theorem b5P (L : List Lf) (m : Nat) (x : List Lf) : a3Z N L (m + 1) x = a2O N L x (a3Z N L m) (fun p => some (.inl p)) (fun p => some (.inr p)) := by kernel_rfl
def c3c : Sg Tryz.prog 0 67 :=
 (c3b N).add (((c3b N).no 18).lp (b8I N) N a0c (a0h N) (fun m kn L x => (b2W N m kn L x).trans (a8j N L x _ _ _)) (fun L m x => (b5P N L m x).trans (a8j N L x (a3Z N L m) (fun p => some (.inl p)) (fun p => some (.inr p)))) fun L x hx => (a34 a08) x hx) 18
def a00 (N : Nat) (w0 : Int) (w6 : Bool) (k0 : Int → R) : R :=
 bif w6 then
  k0 (IntKind.wrap .i64 (w0 + 1))
 else
  k0 1
def a2j (w0 : Int) (w6 : Bool) : Int := a00 N w0 w6 (fun p => p)
theorem a87 (w0 : Int) (w6 : Bool) (k0 : Int → R) : a00 N w0 w6 k0 = k0 (a2j N w0 w6) := by
 unfold a2j a00
 repeat' (first | rfl | apply a0n | (apply a0A; intro _))
def a4V : Sh := { tmps := [(2, .c (.p 2 0)), (4, .c (.p 4 0)), (6, .c (.f 104 [])), (7, .c (.i .i64)), (10, .c (.p 10 0)), (11, .c (.i .i64)), (21, .c (.sl 40)), (22, .c (.i .i64)), (23, .c (.i .i64)), (53, .c (.b))], mem := [(2, .box (.s :: rI 7 ([.s, .sl 24]))), (4, .box (.s :: rI 6 ([.sl 9]))), (10, .box (.s :: rI 6 ([.sl 9])))] }
def a4H (L : List Lf) (p : Int) : Ex × St := (.normal, mg (a0k a4V L) [2, 4, 6, 7, 10, 11, 21, 22, 23] [(7, .c (.i .i64 p))] [2, 4, 10] [])
def b1r (L : List Lf) : List (Bool × (Ex × St)) := bnd (a00 N (li L 0) (lb L 6) (fun p => p)) fun q => [(true, a4H L q)]
theorem a88 (L : List Lf) : pc Tryz.prog (a0J N) ((c3c N).no 45056).h 0 100 67 45056 a4V L [2, 4, 6, 7, 10, 11, 21, 22, 23] [2, 4, 10] = a00 N (li L 0) (lb L 6) (fun p => some (a4H L p)) := by kernel_rfl
def c3d : Sg Tryz.prog 0 67 :=
 (c3c N).add (((c3c N).no 45056).cut (b1r N) a0c (a0h N) fun L x hx => (a88 N L).trans ((a87 N ..).trans (a2h _ _ hx))) 45056
def a1i (w0 w1 w2 : Int) (w7 : Bool) (k0 : Int → R) : R :=
 bif w7 then
  k0 w0
 else
  bnd (bif (decide (w1 ≥ 0)) then (w2 == (IntKind.wrap .i64 (w1 + 1))) else false) fun y0 =>
  bnd (a2j N w0 y0) fun y1 =>
  k0 y1
def a2k (w0 w1 w2 : Int) (w7 : Bool) : Int := a1i N w0 w1 w2 w7 (fun p => p)
theorem a89 (w0 w1 w2 : Int) (w7 : Bool) (k0 : Int → R) : a1i N w0 w1 w2 w7 k0 = k0 (a2k N w0 w1 w2 w7) := by
 unfold a2k a1i
 repeat' (first | rfl | apply a0n | (apply a0A; intro _))
def a5S (L : List Lf) (k0 : Int → R) : R := a1i N (li L 0) (li L 1) (li L 2) (lb L 7) k0
def a4W : Sh := { tmps := [(2, .c (.p 2 0)), (4, .c (.p 4 0)), (6, .c (.f 104 [])), (7, .c (.i .i64)), (8, .c (.i .i64)), (10, .c (.p 10 0)), (11, .c (.i .i64)), (21, .c (.sl 40)), (22, .c (.i .i64)), (23, .c (.i .i64)), (49, .c (.b))], mem := [(2, .box (.s :: rI 7 ([.s, .sl 24]))), (4, .box (.s :: rI 6 ([.sl 9]))), (10, .box (.s :: rI 6 ([.sl 9])))] }
def a4I (L : List Lf) (p : Int) : Ex × St := (.normal, mg (a0k a4W L) [2, 4, 6, 7, 10, 11, 21, 22, 23] [(7, .c (.i .i64 p))] [2, 4, 10] [])
def b1s (L : List Lf) : List (Bool × (Ex × St)) := bnd (a5S N L (fun p => p)) fun q => [(true, a4I L q)]
theorem a9a (L : List Lf) : pc Tryz.prog (a0J N) ((c3d N).no 51002).h 0 100 67 51002 a4W L [2, 4, 6, 7, 10, 11, 21, 22, 23] [2, 4, 10] = a5S N L (fun p => some (a4I L p)) := by kernel_rfl
def c3e : Sg Tryz.prog 0 67 :=
 (c3d N).add (((c3d N).no 51002).cut (b1s N) a0c (a0h N) fun L x hx => (a9a N L).trans ((a89 N ..).trans (a2h _ _ hx))) 51002
def a1A (w0 w1 w2 : Int) (w7 : Bool) (k0 : Int × Int → R) : R :=
 bif w7 then
  bnd (a2k N w0 w1 w2 (w2 == w1)) fun y0 =>
  k0 (y0, w2)
 else
  k0 ((IntKind.wrap .i64 (w0 + 1)), w1)
def a2E (w0 w1 w2 : Int) (w7 : Bool) : Int × Int := a1A N w0 w1 w2 w7 (fun p => p)
theorem b0r (w0 w1 w2 : Int) (w7 : Bool) (k0 : Int × Int → R) : a1A N w0 w1 w2 w7 k0 = k0 (a2E N w0 w1 w2 w7) := by
 unfold a2E a1A
 repeat' (first | rfl | apply a0n | (apply a0A; intro _))
def a6B (L : List Lf) (k0 : Int × Int → R) : R := a1A N (li L 0) (li L 1) (li L 2) (lb L 7) k0
def a5T : Sh := { tmps := [(2, .c (.p 2 0)), (4, .c (.p 4 0)), (6, .c (.f 104 [])), (7, .c (.i .i64)), (8, .c (.i .i64)), (10, .c (.p 10 0)), (11, .c (.i .i64)), (21, .c (.sl 40)), (22, .c (.i .i64)), (23, .c (.i .i64)), (47, .c (.b))], mem := [(2, .box (.s :: rI 7 ([.s, .sl 24]))), (4, .box (.s :: rI 6 ([.sl 9]))), (10, .box (.s :: rI 6 ([.sl 9])))] }
def a4X (L : List Lf) (p : Int × Int) : Ex × St := (.normal, mg (a0k a5T L) [2, 4, 6, 7, 8, 10, 21, 22, 23] [(7, .c (.i .i64 p.1)), (8, .c (.i .i64 p.2))] [2, 4, 10] [])
def b2X (L : List Lf) : List (Bool × (Ex × St)) := bnd (a6B N L (fun p => p)) fun q => [(true, a4X L q)]
theorem b0s (L : List Lf) : pc Tryz.prog (a0J N) ((c3e N).no 33050).h 0 100 67 33050 a5T L [2, 4, 6, 7, 8, 10, 21, 22, 23] [2, 4, 10] = a6B N L (fun p => some (a4X L p)) := by kernel_rfl
def c3f : Sg Tryz.prog 0 67 :=
 (c3e N).add (((c3e N).no 33050).cut (b2X N) a0c (a0h N) fun L x hx => (b0s N L).trans ((b0r N ..).trans (a2h _ _ hx))) 33050
def a1B (w0 w1 w2 w7 : Int) (w8 : Bool) (k0 : Int × Int → R) : R :=
 bif w8 then
  k0 (1, w1)
 else
  bnd (a2E N w0 w1 w2 (w7 == 4)) fun y0 =>
  k0 y0
def a1C (w0 w1 w2 w7 : Int) (w8 : Bool) : Int × Int := a1B N w0 w1 w2 w7 w8 (fun p => p)
theorem b0t (w0 w1 w2 w7 : Int) (w8 : Bool) (k0 : Int × Int → R) : a1B N w0 w1 w2 w7 w8 k0 = k0 (a1C N w0 w1 w2 w7 w8) := by
 unfold a1C a1B
 repeat' (first | rfl | apply a0n | (apply a0A; intro _))
def a6C (L : List Lf) (k0 : Int × Int → R) : R := a1B N (li L 0) (li L 1) (li L 2) (li L 7) (lb L 8) k0
def a5U : Sh := { tmps := [(2, .c (.p 2 0)), (4, .c (.p 4 0)), (6, .c (.f 104 [])), (7, .c (.i .i64)), (8, .c (.i .i64)), (10, .c (.p 10 0)), (11, .c (.i .i64)), (21, .c (.sl 40)), (22, .c (.i .i64)), (23, .c (.i .i64)), (36, .c (.i .i64)), (42, .c (.b))], mem := [(2, .box (.s :: rI 7 ([.s, .sl 24]))), (4, .box (.s :: rI 6 ([.sl 9]))), (10, .box (.s :: rI 6 ([.sl 9])))] }
def a4Y (L : List Lf) (p : Int × Int) : Ex × St := (.normal, mg (a0k a5U L) [2, 4, 6, 7, 8, 10, 21, 22, 23] [(7, .c (.i .i64 p.1)), (8, .c (.i .i64 p.2))] [2, 4, 10] [])
def b2Y (L : List Lf) : List (Bool × (Ex × St)) := bnd (a6C N L (fun p => p)) fun q => [(true, a4Y L q)]
theorem b0u (L : List Lf) : pc Tryz.prog (a0J N) ((c3f N).no 42041).h 0 100 67 42041 a5U L [2, 4, 6, 7, 8, 10, 21, 22, 23] [2, 4, 10] = a6C N L (fun p => some (a4Y L p)) := by kernel_rfl
def c3g : Sg Tryz.prog 0 67 :=
 (c3f N).add (((c3f N).no 42041).cut (b2Y N) a0c (a0h N) fun L x hx => (b0u N L).trans ((b0t N ..).trans (a2h _ _ hx))) 42041
def a1r (w3 : LD) (w4 w7 w9 w10 w11 w12 w13 : Int) (w14 : LB) (w15 : Bool) (w16 : LD) (w0 w1 w5 : Int) (kr : Int → Int → Int → Option R) (k0 : Ty1 → Option R) (k1 : Unit → Option R) : Option R :=
 bif (decide (w5 < w4)) then
  bif (inB w5 w3.length) then
   bnd (a8l N N w10 w11 w12 w13 w14 w15 w16 ((w3.getD w5.toNat (.i 0)).cell 0).toS ((w3.getD w5.toNat (.i 0)).cell 1).toI ((w3.getD w5.toNat (.i 0)).cell 2).toI ((w3.getD w5.toNat (.i 0)).cell 3).toI ((w3.getD w5.toNat (.i 0)).cell 4).toI ((w3.getD w5.toNat (.i 0)).cell 5).toI ((w3.getD w5.toNat (.i 0)).cell 6).toI ((w3.getD w5.toNat (.i 0)).cell 7).isNil ((w3.getD w5.toNat (.i 0)).cell 7).items) fun y0 =>
   bif y0.isSome then
    bif (!(y0.getD default)) then
     kr w0 w1 (IntKind.wrap .i64 (w5 + 1))
    else
     bnd (IntKind.wrap .i64 (((w3.getD w5.toNat (.i 0)).cell 2).toI.tdiv 86400)) fun y1 =>
     bnd (a1C N w0 w1 y1 w7 (w7 == 3)) fun y2 =>
     bif (decide (y2.1 ≥ w9)) then
      k0 (((w3.getD w5.toNat (.i 0)).cell 0).toS, ((w3.getD w5.toNat (.i 0)).cell 1).toI, ((w3.getD w5.toNat (.i 0)).cell 2).toI, ((w3.getD w5.toNat (.i 0)).cell 3).toI, ((w3.getD w5.toNat (.i 0)).cell 4).toI, ((w3.getD w5.toNat (.i 0)).cell 5).toI, ((w3.getD w5.toNat (.i 0)).cell 6).toI, ((w3.getD w5.toNat (.i 0)).cell 7).isNil, ((w3.getD w5.toNat (.i 0)).cell 7).items)
     else
      kr y2.1 y2.2 (IntKind.wrap .i64 (w5 + 1))
   else
    none
  else
   none
 else
  k1 ()
def a3q (N : Nat) {R : Type} (w3 : LD) (w4 w7 w9 w10 w11 w12 w13 : Int) (w14 : LB) (w15 : Bool) (w16 : LD) : Nat → Int → Int → Int → (Ty1 → Option R) → (Unit → Option R) → Option R
 | 0, _, _, _, _, _ => none
 | m + 1, w0, w1, w5, k0, k1 => a1r N w3 w4 w7 w9 w10 w11 w12 w13 w14 w15 w16 w0 w1 w5 (fun w0 w1 w5 => a3q N w3 w4 w7 w9 w10 w11 w12 w13 w14 w15 w16 m w0 w1 w5 k0 k1) k0 k1
def a4P (w3 : LD) (w4 w7 w9 w10 w11 w12 w13 : Int) (w14 : LB) (w15 : Bool) (w16 : LD) (w0 w1 w5 : Int) : Option (Sum (Ty1) (Unit)) := a3q N (R := (Sum (Ty1) (Unit))) w3 w4 w7 w9 w10 w11 w12 w13 w14 w15 w16 N w0 w1 w5 (fun p => some (.inl p)) (fun p => some (.inr p))
def a2t (L x : List Lf) (kr : List Lf → Option R) (k0 : Ty1 → Option R) (k1 : Unit → Option R) : Option R := a1r N (ll L 3) (li L 4) (li L 7) (li L 9) (li L 10) (li L 11) (li L 12) (li L 13) (ls L 14) (lb L 15) (ll L 16) (li x 0) (li x 1) (li x 2) (fun w0 w1 w5 => kr [.i w0, .i w1, .i w5]) k0 k1
theorem a7n (L x : List Lf) (kr : List Lf → Option R) (k0 : Ty1 → Option R) (k1 : Unit → Option R) : a2t N L x kr k0 k1 = (a2t N L x (fun y => some (.inl y)) (fun p => some (.inr (.inl p))) (fun p => some (.inr (.inr p)))).bind (a09 kr (a09 k0 k1)) := by
 unfold a2t a1r
 repeat' (first | with_reducible apply a0g | (with_reducible apply a0t; intro _) | rfl)
def a3r (L : List Lf) (m : Nat) (x : List Lf) : Option (Sum (Ty1) (Unit)) := a3q N (R := (Sum (Ty1) (Unit))) (ll L 3) (li L 4) (li L 7) (li L 9) (li L 10) (li L 11) (li L 12) (li L 13) (ls L 14) (lb L 15) (ll L 16) m (li x 0) (li x 1) (li x 2) (fun p => some (.inl p)) (fun p => some (.inr p))
def a1g : Sh := { tmps := [(2, .c (.p 2 0)), (4, .c (.p 4 0)), (6, .c (.f 104 [])), (7, .c (.i .i64)), (8, .c (.i .i64)), (21, .c (.sl 40)), (22, .c (.i .i64)), (23, .c (.i .i64))], mem := [(2, .box (.s :: rI 7 ([.s, .sl 24]))), (4, .box (.s :: rI 6 ([.sl 9])))] }
def a6D (L : List Lf) (p : Ty1) : Ex × St := let p1 := p.2; let p2 := p1.2; let p3 := p2.2; let p4 := p3.2; let p5 := p4.2; let p6 := p5.2; let p7 := p6.2; let p8 := p7.2; (.ret, ⟨[(4, .c (.p 4 0)), (5, .c (.b true))], [(4, .box [.s p.1, .i .i64 p1.1, .i .i64 p2.1, .i .i64 p3.1, .i .i64 p4.1, .i .i64 p5.1, .i .i64 p6.1, .sl 9 p7.1 p8])]⟩)
def b5Q (L : List Lf) : List (Bool × (Ex × St)) := bnd (a3r N L N (pk a1g [0, 1, 5] L)) fun q => [((a0T q), a6D L (a0H q)), ((a0l q).isSome, ((.exit 0), mg (a0k a1g L) [4] [] [4] []))]
theorem b1t (m : Nat) (kn : St → Option (Ex × St)) (L x : List Lf) : lpB Tryz.prog (a0J N) ((c3g N).no 18).h 0 67 18 a1g [0, 1, 5] [4, 5] [4] (m + 100) kn L x = a2t N L x (fun y => kn (a0k a1g (mx a1g [0, 1, 5] L y))) (fun p => some (a6D L p)) (fun _ => some ((.exit 0), mg (a0k a1g L) [4] [] [4] [])) := by kernel_rfl
theorem b4r (L : List Lf) (m : Nat) (x : List Lf) : a3r N L (m + 1) x = a2t N L x (a3r N L m) (fun p => some (.inl p)) (fun p => some (.inr p)) := by kernel_rfl
def d0Q : Sg Tryz.prog 0 67 :=
 (c3g N).add (((c3g N).no 18).lp (b5Q N) N a0c (a0h N) (fun m kn L x => (b1t N m kn L x).trans (a7n N L x _ _ _)) (fun L m x => (b4r N L m x).trans (a7n N L x (a3r N L m) (fun p => some (.inl p)) (fun p => some (.inr p)))) fun L x hx => (a34 a08) x hx) 18
def d6T (v1 v2 v3 v4 v5 v6 v7 : Int) (v8 : LB) (v9 : Bool) (v10 v12 : LD) (k0 : Ty0 → Option R) : Option R :=
 bnd (c2q N (decide (v2 > 0)) v2) fun y0 =>
 bif (a0T y0) then
  bnd (e1K N v12 (v12.length : Int) v1 v3 v4 v5 v6 v7 v8 v9 v10 0 (-1) 0) fun y1 =>
  bif (a0T y1) then
   k0 ((a0H y1).1, (a0H y1).2.1, (a0H y1).2.2.1, (a0H y1).2.2.2.1, (a0H y1).2.2.2.2.1, (a0H y1).2.2.2.2.2.1, (a0H y1).2.2.2.2.2.2.1, (a0H y1).2.2.2.2.2.2.2.1, (a0H y1).2.2.2.2.2.2.2.2, true)
  else
   bif (a0l y1).isSome then
    k0 (([] : List UInt8), 0, 0, 0, 0, 0, 0, true, [], false)
   else
    none
 else
  bif (a0T (a0l y0)) then
   bnd (b8r N v12 (v12.length : Int) v1 v3 v4 v5 v6 v7 v8 v9 v10 0 (-1) 0) fun y2 =>
   bif (a0T y2) then
    k0 ((a0H y2).1, (a0H y2).2.1, (a0H y2).2.2.1, (a0H y2).2.2.2.1, (a0H y2).2.2.2.2.1, (a0H y2).2.2.2.2.2.1, (a0H y2).2.2.2.2.2.2.1, (a0H y2).2.2.2.2.2.2.2.1, (a0H y2).2.2.2.2.2.2.2.2, true)
   else
    bif (a0l y2).isSome then
     k0 (([] : List UInt8), 0, 0, 0, 0, 0, 0, true, [], false)
    else
     none
  else
   bif (a0T (a0l (a0l y0))) then
    bnd (b4d N v12 (v12.length : Int) v1 v3 v4 v5 v6 v7 v8 v9 v10 0 (-1) 0) fun y3 =>
    bif (a0T y3) then
     k0 ((a0H y3).1, (a0H y3).2.1, (a0H y3).2.2.1, (a0H y3).2.2.2.1, (a0H y3).2.2.2.2.1, (a0H y3).2.2.2.2.2.1, (a0H y3).2.2.2.2.2.2.1, (a0H y3).2.2.2.2.2.2.2.1, (a0H y3).2.2.2.2.2.2.2.2, true)
    else
     bif (a0l y3).isSome then
      k0 (([] : List UInt8), 0, 0, 0, 0, 0, 0, true, [], false)
     else
      none
   else
    bif (a0T (a0l (a0l (a0l y0)))) then
     bnd (b1i N v12 (v12.length : Int) v1 v3 v4 v5 v6 v7 v8 v9 v10 0 (-1) 0) fun y4 =>
     bif (a0T y4) then
      k0 ((a0H y4).1, (a0H y4).2.1, (a0H y4).2.2.1, (a0H y4).2.2.2.1, (a0H y4).2.2.2.2.1, (a0H y4).2.2.2.2.2.1, (a0H y4).2.2.2.2.2.2.1, (a0H y4).2.2.2.2.2.2.2.1, (a0H y4).2.2.2.2.2.2.2.2, true)
     else
      bif (a0l y4).isSome then
       k0 (([] : List UInt8), 0, 0, 0, 0, 0, 0, true, [], false)
      else
       none
    else
     bif (a0T (a0l (a0l (a0l (a0l y0))))) then
      bnd (a82 N v12 (v12.length : Int) v1 v3 v4 v5 v6 v7 v8 v9 v10 0 (-1) 0) fun y5 =>
      bif (a0T y5) then
       k0 ((a0H y5).1, (a0H y5).2.1, (a0H y5).2.2.1, (a0H y5).2.2.2.1, (a0H y5).2.2.2.2.1, (a0H y5).2.2.2.2.2.1, (a0H y5).2.2.2.2.2.2.1, (a0H y5).2.2.2.2.2.2.2.1, (a0H y5).2.2.2.2.2.2.2.2, true)
      else
       bif (a0l y5).isSome then
        k0 (([] : List UInt8), 0, 0, 0, 0, 0, 0, true, [], false)
       else
        none
     else
      bif (a0T (a0l (a0l (a0l (a0l (a0l y0)))))) then
       bnd (a7Q N v12 (v12.length : Int) v1 v3 v4 v5 v6 v7 v8 v9 v10 0 (-1) 0) fun y6 =>
       bif (a0T y6) then
        k0 ((a0H y6).1, (a0H y6).2.1, (a0H y6).2.2.1, (a0H y6).2.2.2.1, (a0H y6).2.2.2.2.1, (a0H y6).2.2.2.2.2.1, (a0H y6).2.2.2.2.2.2.1, (a0H y6).2.2.2.2.2.2.2.1, (a0H y6).2.2.2.2.2.2.2.2, true)
       else
        bif (a0l y6).isSome then
         k0 (([] : List UInt8), 0, 0, 0, 0, 0, 0, true, [], false)
        else
         none
      else
       bif (a0T (a0l (a0l (a0l (a0l (a0l (a0l y0))))))) then
        bnd (a6P N v12 (v12.length : Int) v1 v3 v4 v5 v6 v7 v8 v9 v10 0 (-1) 0) fun y7 =>
        bif (a0T y7) then
         k0 ((a0H y7).1, (a0H y7).2.1, (a0H y7).2.2.1, (a0H y7).2.2.2.1, (a0H y7).2.2.2.2.1, (a0H y7).2.2.2.2.2.1, (a0H y7).2.2.2.2.2.2.1, (a0H y7).2.2.2.2.2.2.2.1, (a0H y7).2.2.2.2.2.2.2.2, true)
        else
         bif (a0l y7).isSome then
          k0 (([] : List UInt8), 0, 0, 0, 0, 0, 0, true, [], false)
         else
          none
       else
        bif (a0T (a0l (a0l (a0l (a0l (a0l (a0l (a0l y0)))))))) then
         bnd (a5R N v12 (v12.length : Int) v1 v3 v4 v5 v6 v7 v8 v9 v10 0 (-1) 0) fun y8 =>
         bif (a0T y8) then
          k0 ((a0H y8).1, (a0H y8).2.1, (a0H y8).2.2.1, (a0H y8).2.2.2.1, (a0H y8).2.2.2.2.1, (a0H y8).2.2.2.2.2.1, (a0H y8).2.2.2.2.2.2.1, (a0H y8).2.2.2.2.2.2.2.1, (a0H y8).2.2.2.2.2.2.2.2, true)
         else
          bif (a0l y8).isSome then
           k0 (([] : List UInt8), 0, 0, 0, 0, 0, 0, true, [], false)
          else
           none
        else
         bif (a0l (a0l (a0l (a0l (a0l (a0l (a0l (a0l y0)))))))).isSome then
          bnd (a4P N v12 (v12.length : Int) v1 v3 v4 v5 v6 v7 v8 v9 v10 0 (-1) 0) fun y9 =>
          bif (a0T y9) then
           k0 ((a0H y9).1, (a0H y9).2.1, (a0H y9).2.2.1, (a0H y9).2.2.2.1, (a0H y9).2.2.2.2.1, (a0H y9).2.2.2.2.2.1, (a0H y9).2.2.2.2.2.2.1, (a0H y9).2.2.2.2.2.2.2.1, (a0H y9).2.2.2.2.2.2.2.2, true)
          else
           bif (a0l y9).isSome then
            k0 (([] : List UInt8), 0, 0, 0, 0, 0, 0, true, [], false)
           else
            none
         else
          none
def d2J (v1 v2 v3 v4 v5 v6 v7 : Int) (v8 : LB) (v9 : Bool) (v10 v12 : LD) : Option (Ty0) := d6T N v1 v2 v3 v4 v5 v6 v7 v8 v9 v10 v12 (fun p => some p)
theorem e1M (v1 v2 v3 v4 v5 v6 v7 : Int) (v8 : LB) (v9 : Bool) (v10 v12 : LD) (k0 : Ty0 → Option R) : d6T N v1 v2 v3 v4 v5 v6 v7 v8 v9 v10 v12 k0 = (d2J N v1 v2 v3 v4 v5 v6 v7 v8 v9 v10 v12).bind k0 := by
 unfold d2J d6T
 repeat' (first | with_reducible apply a0g | (with_reducible apply a0t; intro _) | rfl)
def f0l (L : List Lf) (k0 : Ty0 → Option R) : Option R := d6T N (li L 1) (li L 2) (li L 3) (li L 4) (li L 5) (li L 6) (li L 7) (ls L 8) (lb L 9) (ll L 10) (ll L 12) k0
def d6U : Sh := { tmps := [(0, .g (.s :: rI 7 ([.s, .sl 24]))), (1, .c (.sl 40))], mem := [] }
def d6V (L : List Lf) (p : Ty0) : Res := let p1 := p.2; let p2 := p1.2; let p3 := p2.2; let p4 := p3.2; let p5 := p4.2; let p6 := p5.2; let p7 := p6.2; let p8 := p7.2; let p9 := p8.2; ([.g [.s p.1, .i .i64 p1.1, .i .i64 p2.1, .i .i64 p3.1, .i .i64 p4.1, .i .i64 p5.1, .i .i64 p6.1, .sl 9 p7.1 p8.1], .c (.b p9)], [])
def f0m (L : List Lf) : List (Bool × Res) := bnd (f0l N L (fun p => some p)) fun q => [(q.isSome, d6V L (q.getD default))]
theorem e6T (L : List Lf) : bd Tryz.prog (a0J N) (d0Q N).h 67 d6U L = f0l N L (fun p => some (d6V L p)) := by kernel_rfl
end
end Go.Proofs.YtfkkcdapcgimlaaGreatDoor
