/- Functions of the program as plain Lean definitions, each with the proof that the program computes it. No condition. Printed by a program of the prover, part 1. -/
import Derived.Test.YtfkkcdapcgimlaaGreatDoorHk1
import Derived.Test.YtfkkcdapcgimlaaGreatDoorChecked
import Derived.KernelRfl
set_option linter.all false
set_option maxRecDepth 100000
namespace Go.Proofs.YtfkkcdapcgimlaaGreatDoor
open Go Go.AM
noncomputable section
variable (N : Nat) {R : Type}
abbrev LD : Type := List D
abbrev LB : Type := List UInt8
abbrev Ty0 : Type := LB × Int × Int × Int × Int × Int × Int × Bool × LD × Bool
abbrev Ty1 : Type := LB × Int × Int × Int × Int × Int × Int × Bool × LD
abbrev Ty2 : Type := Int × Int × Int × LB
def e38 : Sh := c0F
def e9z (N : Nat) (L : List Lf) : List (Bool × Res) := b8A L
theorem e9A : a0V Tryz.prog 78 e38 (e9z N) := c7P
def e5S : a0f := ext 78 (a2n e38 (e9z N)) c14
theorem c99 : a0b Tryz.prog (e5S N) := a0V.to (e9A N) b8r
def e9B : List (Nat × List Nat) := [(0, [0]), (1, [0])]
def e9C : a0M := []
def d5o (N : Nat) : Sg Tryz.prog 0 73 := .start e9C e9B
def d2K (N : Nat) (v0 : Int) (k0 : Bool → R) : R :=
 k0 (bif (decide (v0 ≥ 48)) then (decide (v0 ≤ 57)) else false)
def e0Y (v0 : Int) : Bool := d2K N v0 (fun p => p)
theorem e5T (v0 : Int) (k0 : Bool → R) : d2K N v0 k0 = k0 (e0Y N v0) := by
 unfold e0Y d2K
 repeat' (first | rfl | apply a0q | (apply a0K; intro _))
def d5p : Sh := { tmps := [(0, .c (.i .u8))], mem := [] }
def e9D (L : List Lf) : List (Bool × Res) := bnd (d2K N (li L 0) (fun p => p)) fun q => [(true, ([.c (.b q)], []))]
theorem e5U (L : List Lf) : bd Tryz.prog (e5S N) (d5o N).h 73 d5p L = d2K N (li L 0) (fun p => some ([.c (.b p)], [])) := by kernel_rfl
theorem e9E : a0V Tryz.prog 73 d5p (e9D N) :=
 (d5o N).fn a0e (c99 N) fun L x hx => ((e5U N L).trans ((e5T N ..).trans (a2f _ _ hx)))
def d5q : a0f := ext 73 (a2n d5p (e9D N)) (e5S N)
theorem b6m : a0b Tryz.prog (d5q N) := a0V.to (e9E N) (c99 N)
def e9F : List (Nat × List Nat) := [(0, [0]), (1, [0]), (2, [8, 7, 0]), (3, [8, 0, 7]), (4, [0, 3, 8, 7]), (5, [4, 8, 7, 0]), (6, [5, 4, 8, 7, 0]), (7, []), (8, [8, 7, 0]), (9, [0])]
def e9G : a0M := [(6, [0, 7, 8], [], []), (19, [0, 4, 5, 7, 8], [], [])]
def d5r (N : Nat) : Sg Tryz.prog 0 39 := .start e9G e9F
def a9X (w1 : Int) (w2 : Bool) (k0 : Bool → R) : R :=
 bif (!w2) then
  bnd (e0Y N w1) fun y0 =>
  bnd (bif (bif (!y0) then (w1 != 45) else false) then (w1 != 95) else false) fun y1 =>
  k0 (bif y1 then (w1 != 46) else false)
 else
  k0 false
def b6n (w1 : Int) (w2 : Bool) : Bool := a9X N w1 w2 (fun p => p)
theorem d2L (w1 : Int) (w2 : Bool) (k0 : Bool → R) : a9X N w1 w2 k0 = k0 (b6n N w1 w2) := by
 unfold b6n a9X
 repeat' (first | rfl | apply a0q | (apply a0K; intro _))
def c5u : Sh := { tmps := [(0, .c (.s)), (4, .c (.i .u8)), (5, .c (.b)), (7, .c (.i .i64)), (8, .c (.i .i64))], mem := [] }
def c0G (L : List Lf) (p : Bool) : Ex × St := (.normal, mg (a0p c5u L) [0, 7, 8, 46] [(46, .c (.b p))] [] [])
def e0Z (L : List Lf) : List (Bool × (Ex × St)) := bnd (a9X N (li L 1) (lb L 2) (fun p => p)) fun q => [(true, c0G L q)]
theorem d2M (L : List Lf) : pc Tryz.prog (d5q N) (d5r N).h 0 100 39 19 c5u L [0, 7, 8, 46] [] = a9X N (li L 1) (lb L 2) (fun p => some (c0G L p)) := by kernel_rfl
def d5s : Sg Tryz.prog 0 39 :=
 (d5r N).cut (e0Z N) a0e (b6m N) fun L x hx => (d2M N L).trans ((d2L N ..).trans (a2f _ _ hx))
def b4u (w0 : LB) (w1 : Int) (w2 : Int) (kr : Int → Option R) (k0 : Unit → Option R) (k1 : Unit → Option R) : Option R :=
 bif (decide (w2 < w1)) then
  bif (inB w2 w0.length) then
   bnd (bif (decide (((w0.getD w2.toNat 0).toNat : Int) ≥ 97)) then (decide (((w0.getD w2.toNat 0).toNat : Int) ≤ 122)) else false) fun y0 =>
   bnd (bif y0 then true else (bif (decide (((w0.getD w2.toNat 0).toNat : Int) ≥ 65)) then (decide (((w0.getD w2.toNat 0).toNat : Int) ≤ 90)) else false)) fun y1 =>
   bnd (b6n N ((w0.getD w2.toNat 0).toNat : Int) y1) fun y2 =>
   bif y2 then
    k0 ()
   else
    kr (IntKind.wrap .i64 (w2 + 1))
  else
   none
 else
  k1 ()
def c2f (N : Nat) {R : Type} (w0 : LB) (w1 : Int) : Nat → Int → (Unit → Option R) → (Unit → Option R) → Option R
 | 0, _, _, _ => none
 | m + 1, w2, k0, k1 => b4u N w0 w1 w2 (fun w2 => c2f N w0 w1 m w2 k0 k1) k0 k1
def c7Q (w0 : LB) (w1 : Int) (w2 : Int) : Option (Sum (Unit) (Unit)) := c2f N (R := (Sum (Unit) (Unit))) w0 w1 N w2 (fun p => some (.inl p)) (fun p => some (.inr p))
def b8B (L x : List Lf) (kr : List Lf → Option R) (k0 : Unit → Option R) (k1 : Unit → Option R) : Option R := b4u N (ls L 0) (li L 1) (li x 0) (fun w2 => kr [.i w2]) k0 k1
theorem d0a (L x : List Lf) (kr : List Lf → Option R) (k0 : Unit → Option R) (k1 : Unit → Option R) : b8B N L x kr k0 k1 = (b8B N L x (fun y => some (.inl y)) (fun p => some (.inr (.inl p))) (fun p => some (.inr (.inr p)))).bind (a1m kr (a1m k0 k1)) := by
 unfold b8B b4u
 repeat' (first | with_reducible apply a0k | (with_reducible apply a0y; intro _) | rfl)
def c2g (L : List Lf) (m : Nat) (x : List Lf) : Option (Sum (Unit) (Unit)) := c2f N (R := (Sum (Unit) (Unit))) (ls L 0) (li L 1) m (li x 0) (fun p => some (.inl p)) (fun p => some (.inr p))
def b6o : Sh := { tmps := [(0, .c (.s)), (7, .c (.i .i64)), (8, .c (.i .i64))], mem := [] }
def e5V (L : List Lf) : List (Bool × (Ex × St)) := bnd (c2g N L N (pk b6o [2] L)) fun q => [((a04 q), (.ret, ⟨[(2, .c (.b false))], []⟩)), ((a0r q).isSome, ((.exit 0), ⟨[(0, .c (.s (ls L 0)))], []⟩))]
theorem d2N (m : Nat) (kn : St → Option (Ex × St)) (L x : List Lf) : lpB Tryz.prog (d5q N) (d5s N).h 0 39 6 b6o [2] [0, 2] [] (m + 100) kn L x = b8B N L x (fun y => kn (a0p b6o (mx b6o [2] L y))) (fun _ => some (.ret, ⟨[(2, .c (.b false))], []⟩)) (fun _ => some ((.exit 0), ⟨[(0, .c (.s (ls L 0)))], []⟩)) := by kernel_rfl
theorem e00 (L : List Lf) (m : Nat) (x : List Lf) : c2g N L (m + 1) x = b8B N L x (c2g N L m) (fun p => some (.inl p)) (fun p => some (.inr p)) := by kernel_rfl
def d5t : Sg Tryz.prog 0 39 :=
 (d5s N).lp (e5V N) N a0e (b6m N) (fun m kn L x => (d2N N m kn L x).trans (d0a N L x _ _ _)) (fun L m x => (e00 N L m x).trans (d0a N L x (c2g N L m) (fun p => some (.inl p)) (fun p => some (.inr p)))) fun L x hx => (a4i a1f) x hx
def d2O (v0 : LB) (k0 : Bool → Option R) : Option R :=
 bnd (c7Q N v0 (v0.length : Int) 0) fun y0 =>
 bif (a04 y0) then
  k0 false
 else
  bif (a0r y0).isSome then
   bnd (bif (decide ((v0.length : Int) ≥ 1)) then (decide ((v0.length : Int) ≤ 60)) else false) fun y1 =>
   k0 y1
  else
   none
def c5v (v0 : LB) : Option (Bool) := d2O N v0 (fun p => some p)
theorem e01 (v0 : LB) (k0 : Bool → Option R) : d2O N v0 k0 = (c5v N v0).bind k0 := by
 unfold c5v d2O
 repeat' (first | with_reducible apply a0k | (with_reducible apply a0y; intro _) | rfl)
def d5u : Sh := { tmps := [(0, .c (.s))], mem := [] }
def e9H (L : List Lf) : List (Bool × Res) := bnd (d2O N (ls L 0) (fun p => some p)) fun q => [(q.isSome, ([.c (.b (q.getD default))], []))]
theorem e5W (L : List Lf) : bd Tryz.prog (d5q N) (d5t N).h 39 d5u L = d2O N (ls L 0) (fun p => some ([.c (.b p)], [])) := by kernel_rfl
theorem e9I : a0V Tryz.prog 39 d5u (e9H N) :=
 (d5t N).fn a0e (b6m N) fun L x hx => ((e5W N L).trans ((e01 N ..).trans (a1f x hx)))
def e5X : a0f := ext 39 (a2n d5u (e9H N)) (d5q N)
theorem d0b : a0b Tryz.prog (e5X N) := a0V.to (e9I N) (b6m N)
def e9J : List (Nat × List Nat) := [(0, [0, 1, 2]), (1, [0, 1, 2])]
def e9K : a0M := []
def d5v (N : Nat) : Sg Tryz.prog 0 28 := .start e9K e9J
def d2P (N : Nat) (v0 v1 v2 : Int) (k0 : Bool → R) : R :=
 k0 (bif (decide (v0 ≥ v1)) then (decide (v0 ≤ v2)) else false)
def a6r (v0 v1 v2 : Int) : Bool := d2P N v0 v1 v2 (fun p => p)
theorem e5Y (v0 v1 v2 : Int) (k0 : Bool → R) : d2P N v0 v1 v2 k0 = k0 (a6r N v0 v1 v2) := by
 unfold a6r d2P
 repeat' (first | rfl | apply a0q | (apply a0K; intro _))
def d5w : Sh := { tmps := [(0, .c (.i .i64)), (1, .c (.i .i64)), (2, .c (.i .i64))], mem := [] }
def e9L (L : List Lf) : List (Bool × Res) := bnd (d2P N (li L 0) (li L 1) (li L 2) (fun p => p)) fun q => [(true, ([.c (.b q)], []))]
theorem e5Z (L : List Lf) : bd Tryz.prog (e5X N) (d5v N).h 28 d5w L = d2P N (li L 0) (li L 1) (li L 2) (fun p => some ([.c (.b p)], [])) := by kernel_rfl
theorem e9M : a0V Tryz.prog 28 d5w (e9L N) :=
 (d5v N).fn a0e (d0b N) fun L x hx => ((e5Z N L).trans ((e5Y N ..).trans (a2f _ _ hx)))
def e9N : a0f := ext 28 (a2n d5w (e9L N)) (e5X N)
theorem d0c : a0b Tryz.prog (e9N N) := a0V.to (e9M N) (d0b N)
abbrev a3L : Type := Int → Int → Int → Int → LB → Bool → LD → Option (Int)
def d0d : Sh := { tmps := [(0, .g (.i .i64 :: [.i .i64, .i .i64, .i .i64, .s, .sl 24]))], mem := [] }
def e9O (N : Nat) (a0D : a3L) (L : List Lf) : List (Bool × Res) := bnd (a0D (li L 0) (li L 1) (li L 2) (li L 3) (ls L 4) (lb L 5) (ll L 6)) fun q => [(q.isSome, ([.c (.i .i64 (q.getD default))], []))]
def c2h (a0D : a3L) : a0f := ext 54 (a2n d0d ((e9O N) a0D)) (e9N N)
def e9P : List (Nat × List Nat) := [(0, [0]), (1, [1]), (2, [1, 3]), (3, [9, 8, 7, 3]), (4, [7, 9, 3, 8]), (5, [3, 5, 9, 8, 7]), (6, [9, 8, 7, 3]), (7, [3])]
def e9Q : a0M := [(9, [3, 7, 8, 9], [], [])]
def d5x (a0D : a3L) (a8o : a0b Tryz.prog ((c2h N) a0D)) : Sg Tryz.prog 0 54 := .start e9Q e9P
def b4v (N : Nat) (a0D : a3L) (w2 : LD) (w3 : Int) (w0 w4 : Int) (kr : Int → Int → Option R) (k0 : Int → Option R) : Option R :=
 bif (decide (w4 < w3)) then
  bif (inB w4 w2.length) then
   bnd (a0D ((w2.getD w4.toNat (.i 0)).cell 0).toI ((w2.getD w4.toNat (.i 0)).cell 1).toI ((w2.getD w4.toNat (.i 0)).cell 2).toI ((w2.getD w4.toNat (.i 0)).cell 3).toI ((w2.getD w4.toNat (.i 0)).cell 4).toS ((w2.getD w4.toNat (.i 0)).cell 5).isNil ((w2.getD w4.toNat (.i 0)).cell 5).items) fun y0 =>
   bif y0.isSome then
    kr (IntKind.wrap .i64 (w0 + (y0.getD default))) (IntKind.wrap .i64 (w4 + 1))
   else
    none
  else
   none
 else
  k0 w0
def c2i (N : Nat) (a0D : a3L) {R : Type} (w2 : LD) (w3 : Int) : Nat → Int → Int → (Int → Option R) → Option R
 | 0, _, _, _ => none
 | m + 1, w0, w4, k0 => b4v N a0D w2 w3 w0 w4 (fun w0 w4 => c2i N a0D w2 w3 m w0 w4 k0) k0
def c7R (a0D : a3L) (w2 : LD) (w3 : Int) (w0 w4 : Int) : Option (Int) := c2i N a0D (R := (Int)) w2 w3 N w0 w4 (fun p => some p)
def b8C (a0D : a3L) (L x : List Lf) (kr : List Lf → Option R) (k0 : Int → Option R) : Option R := b4v N a0D (ll L 2) (li L 3) (li x 0) (li x 1) (fun w0 w4 => kr [.i w0, .i w4]) k0
theorem d0e (a0D : a3L) (L x : List Lf) (kr : List Lf → Option R) (k0 : Int → Option R) : b8C N a0D L x kr k0 = (b8C N a0D L x (fun y => some (.inl y)) (fun p => some (.inr p))).bind (a1m kr k0) := by
 unfold b8C b4v
 repeat' (first | with_reducible apply a0k | (with_reducible apply a0y; intro _) | rfl)
def c2j (a0D : a3L) (L : List Lf) (m : Nat) (x : List Lf) : Option (Int) := c2i N a0D (R := (Int)) (ll L 2) (li L 3) m (li x 0) (li x 1) (fun p => some p)
def b6p : Sh := { tmps := [(3, .c (.i .i64)), (7, .c (.sl 24)), (8, .c (.i .i64)), (9, .c (.i .i64))], mem := [] }
def e50 (a0D : a3L) (L : List Lf) : List (Bool × (Ex × St)) := bnd (c2j N a0D L N (pk b6p [0, 4] L)) fun q => [(q.isSome, ((.exit 0), ⟨[(3, .c (.i .i64 (q.getD default)))], []⟩))]
theorem d2Q (a0D : a3L) (a8o : a0b Tryz.prog ((c2h N) a0D)) (m : Nat) (kn : St → Option (Ex × St)) (L x : List Lf) : lpB Tryz.prog ((c2h N) a0D) ((d5x N) a0D a8o).h 0 54 9 b6p [0, 4] [2, 3] [] (m + 100) kn L x = b8C N a0D L x (fun y => kn (a0p b6p (mx b6p [0, 4] L y))) (fun p => some ((.exit 0), ⟨[(3, .c (.i .i64 p))], []⟩)) := by kernel_rfl
theorem e02 (a0D : a3L) (L : List Lf) (m : Nat) (x : List Lf) : c2j N a0D L (m + 1) x = b8C N a0D L x (c2j N a0D L m) some := by kernel_rfl
def d5y (a0D : a3L) (a8o : a0b Tryz.prog ((c2h N) a0D)) : Sg Tryz.prog 0 54 :=
 ((d5x N) a0D a8o).lp ((e50 N) a0D) N a0e a8o (fun m kn L x => (d2Q N a0D a8o m kn L x).trans (d0e N a0D L x _ _)) (fun L m x => (e02 N a0D L m x).trans (d0e N a0D L x (c2j N a0D L m) some)) fun L x hx => a1f x hx
def d5z (a0D : a3L) (v0 v1 v2 v3 : Int) (v4 : LB) (v5 : Bool) (v6 : LD) (k0 : Int → Option R) : Option R :=
 bnd (c7R N a0D v6 (v6.length : Int) 1 0) fun y0 =>
 bif y0.isSome then
  k0 (y0.getD default)
 else
  none
def d2R (a0D : a3L) (v0 v1 v2 v3 : Int) (v4 : LB) (v5 : Bool) (v6 : LD) : Option (Int) := d5z N a0D v0 v1 v2 v3 v4 v5 v6 (fun p => some p)
theorem e03 (a0D : a3L) (v0 v1 v2 v3 : Int) (v4 : LB) (v5 : Bool) (v6 : LD) (k0 : Int → Option R) : d5z N a0D v0 v1 v2 v3 v4 v5 v6 k0 = (d2R N a0D v0 v1 v2 v3 v4 v5 v6).bind k0 := by
 unfold d2R d5z
 repeat' (first | with_reducible apply a0k | (with_reducible apply a0y; intro _) | rfl)
def f4A (a0D : a3L) (L : List Lf) (k0 : Int → Option R) : Option R := d5z N a0D (li L 0) (li L 1) (li L 2) (li L 3) (ls L 4) (lb L 5) (ll L 6) k0
theorem e51 (a0D : a3L) (a8o : a0b Tryz.prog ((c2h N) a0D)) (L : List Lf) : bd Tryz.prog ((c2h N) a0D) ((d5y N) a0D a8o).h 54 d0d L = f4A N a0D L (fun p => some ([.c (.i .i64 p)], [])) := by kernel_rfl
theorem e52 (a0D : a3L) (a8o : a0b Tryz.prog ((c2h N) a0D)) (L : List Lf) (x : Res) (hx : a5f ((e9O N) (fun v0 v1 v2 v3 v4 v5 v6 => d2R N a0D v0 v1 v2 v3 v4 v5 v6) L) some = some x) : a1I Tryz.prog 54 (a5P (a0p d0d L).tmps) (a0p d0d L).mem x :=
 a3p (n := 200) a0e a8o ((d5y N) a0D a8o).ok rfl ((e51 N a0D a8o L).trans ((e03 N a0D ..).trans (a1f x hx)))
def b9J (N : Nat) : Nat → a3L
 | 0 => fun _ _ _ _ _ _ _ => none
 | m + 1 => fun v0 v1 v2 v3 v4 v5 v6 => d2R N (b9J N m) v0 v1 v2 v3 v4 v5 v6
theorem d5A (N : Nat) : ∀ m, a0b Tryz.prog ((c2h N) (b9J N m))
 | 0 => a0Y (d0c N) (AM.enters_of (by kernel_rfl)) (a1h fun L x hx => by
  have h : (none : Option Res) = some x := hx
  cases h)
 | m + 1 => a0Y (d0c N) (AM.enters_of (by kernel_rfl)) (a1h fun L x hx => e52 N (b9J N m) (d5A N m) L x hx)
def e53 : a0f := (c2h N) (b9J N N)
theorem d0f : a0b Tryz.prog (e53 N) := d5A N N
def e9R : List (Nat × List Nat) := [(0, [0]), (1, [0])]
def e9S : a0M := []
def d5B (N : Nat) : Sg Tryz.prog 0 29 := .start e9S e9R
def d2S (v0 : Int) (k0 : Bool → R) : R :=
 bnd (a6r N v0 1 7) fun y0 =>
 k0 y0
def d2T (v0 : Int) : Bool := d2S N v0 (fun p => p)
theorem e54 (v0 : Int) (k0 : Bool → R) : d2S N v0 k0 = k0 (d2T N v0) := by
 unfold d2T d2S
 repeat' (first | rfl | apply a0q | (apply a0K; intro _))
def d5C : Sh := { tmps := [(0, .c (.i .i64))], mem := [] }
def e9T (L : List Lf) : List (Bool × Res) := bnd (d2S N (li L 0) (fun p => p)) fun q => [(true, ([.c (.b q)], []))]
theorem e55 (L : List Lf) : bd Tryz.prog (e53 N) (d5B N).h 29 d5C L = d2S N (li L 0) (fun p => some ([.c (.b p)], [])) := by kernel_rfl
theorem e9U : a0V Tryz.prog 29 d5C (e9T N) :=
 (d5B N).fn a0e (d0f N) fun L x hx => ((e55 N L).trans ((e54 N ..).trans (a2f _ _ hx)))
def e56 : a0f := ext 29 (a2n d5C (e9T N)) (e53 N)
theorem d0g : a0b Tryz.prog (e56 N) := a0V.to (e9U N) (d0f N)
def e57 : List (Nat × List Nat) := [(0, [0, 1, 2]), (1, [0, 1, 2])]
def e58 : a0M := []
def d0h (N : Nat) : Sg Tryz.prog 0 162 := .start e58 e57
def c0H (N : Nat) (v0 v1 v2 : Int) (k0 : Bool → R) : R :=
 k0 (bif (decide (v0 ≥ v1)) then (decide (v0 ≤ v2)) else false)
def c5w (v0 v1 v2 : Int) : Bool := c0H N v0 v1 v2 (fun p => p)
theorem e04 (v0 v1 v2 : Int) (k0 : Bool → R) : c0H N v0 v1 v2 k0 = k0 (c5w N v0 v1 v2) := by
 unfold c5w c0H
 repeat' (first | rfl | apply a0q | (apply a0K; intro _))
def c7S : Sh := { tmps := [(0, .c (.i .i64)), (1, .c (.i .i64)), (2, .c (.i .i64))], mem := [] }
def e39 (L : List Lf) : List (Bool × Res) := bnd (c0H N (li L 0) (li L 1) (li L 2) (fun p => p)) fun q => [(true, ([.c (.b q)], []))]
theorem e05 (L : List Lf) : bd Tryz.prog (e56 N) (d0h N).h 162 c7S L = c0H N (li L 0) (li L 1) (li L 2) (fun p => some ([.c (.b p)], [])) := by kernel_rfl
theorem e59 : a0V Tryz.prog 162 c7S (e39 N) :=
 (d0h N).fn a0e (d0g N) fun L x hx => ((e05 N L).trans ((e04 N ..).trans (a2f _ _ hx)))
def d0i : a0f := ext 162 (a2n c7S (e39 N)) (e56 N)
theorem b8D : a0b Tryz.prog (d0i N) := a0V.to (e59 N) (d0g N)
def e6a : List (Nat × List Nat) := [(0, [0]), (1, [0]), (2, [6, 5, 0]), (3, [6, 0, 5]), (4, [0, 3, 6, 5]), (5, []), (6, [6, 5, 0]), (7, [0])]
def e6b : a0M := [(6, [0, 5, 6], [], [])]
def d0j (N : Nat) : Sg Tryz.prog 0 128 := .start e6b e6a
def a9Y (w0 : LB) (w1 : Int) (w2 : Int) (kr : Int → Option R) (k0 : Unit → Option R) (k1 : Unit → Option R) : Option R :=
 bif (decide (w2 < w1)) then
  bif (inB w2 w0.length) then
   bnd (c5w N (IntKind.wrap .i64 ((w0.getD w2.toNat 0).toNat : Int)) 32 126) fun y0 =>
   bif (!y0) then
    k0 ()
   else
    kr (IntKind.wrap .i64 (w2 + 1))
  else
   none
 else
  k1 ()
def b6q (N : Nat) {R : Type} (w0 : LB) (w1 : Int) : Nat → Int → (Unit → Option R) → (Unit → Option R) → Option R
 | 0, _, _, _ => none
 | m + 1, w2, k0, k1 => a9Y N w0 w1 w2 (fun w2 => b6q N w0 w1 m w2 k0 k1) k0 k1
def c2k (w0 : LB) (w1 : Int) (w2 : Int) : Option (Sum (Unit) (Unit)) := b6q N (R := (Sum (Unit) (Unit))) w0 w1 N w2 (fun p => some (.inl p)) (fun p => some (.inr p))
def b2q (L x : List Lf) (kr : List Lf → Option R) (k0 : Unit → Option R) (k1 : Unit → Option R) : Option R := a9Y N (ls L 0) (li L 1) (li x 0) (fun w2 => kr [.i w2]) k0 k1
theorem c5x (L x : List Lf) (kr : List Lf → Option R) (k0 : Unit → Option R) (k1 : Unit → Option R) : b2q N L x kr k0 k1 = (b2q N L x (fun y => some (.inl y)) (fun p => some (.inr (.inl p))) (fun p => some (.inr (.inr p)))).bind (a1m kr (a1m k0 k1)) := by
 unfold b2q a9Y
 repeat' (first | with_reducible apply a0k | (with_reducible apply a0y; intro _) | rfl)
def b6r (L : List Lf) (m : Nat) (x : List Lf) : Option (Sum (Unit) (Unit)) := b6q N (R := (Sum (Unit) (Unit))) (ls L 0) (li L 1) m (li x 0) (fun p => some (.inl p)) (fun p => some (.inr p))
def b2r : Sh := { tmps := [(0, .c (.s)), (5, .c (.i .i64)), (6, .c (.i .i64))], mem := [] }
def e06 (L : List Lf) : List (Bool × (Ex × St)) := bnd (b6r N L N (pk b2r [2] L)) fun q => [((a04 q), (.ret, ⟨[(2, .c (.b false))], []⟩)), ((a0r q).isSome, ((.exit 0), ⟨[(0, .c (.s (ls L 0)))], []⟩))]
theorem c7T (m : Nat) (kn : St → Option (Ex × St)) (L x : List Lf) : lpB Tryz.prog (d0i N) (d0j N).h 0 128 6 b2r [2] [0, 2] [] (m + 100) kn L x = b2q N L x (fun y => kn (a0p b2r (mx b2r [2] L y))) (fun _ => some (.ret, ⟨[(2, .c (.b false))], []⟩)) (fun _ => some ((.exit 0), ⟨[(0, .c (.s (ls L 0)))], []⟩)) := by kernel_rfl
theorem d5D (L : List Lf) (m : Nat) (x : List Lf) : b6r N L (m + 1) x = b2q N L x (b6r N L m) (fun p => some (.inl p)) (fun p => some (.inr p)) := by kernel_rfl
def d0k : Sg Tryz.prog 0 128 :=
 (d0j N).lp (e06 N) N a0e (b8D N) (fun m kn L x => (c7T N m kn L x).trans (c5x N L x _ _ _)) (fun L m x => (d5D N L m x).trans (c5x N L x (b6r N L m) (fun p => some (.inl p)) (fun p => some (.inr p)))) fun L x hx => (a4i a1f) x hx
def c0I (v0 : LB) (k0 : Bool → Option R) : Option R :=
 bnd (c2k N v0 (v0.length : Int) 0) fun y0 =>
 bif (a04 y0) then
  k0 false
 else
  bif (a0r y0).isSome then
   k0 (decide ((v0.length : Int) ≤ 60))
  else
   none
def c5y (v0 : LB) : Option (Bool) := c0I N v0 (fun p => some p)
theorem d5E (v0 : LB) (k0 : Bool → Option R) : c0I N v0 k0 = (c5y N v0).bind k0 := by
 unfold c5y c0I
 repeat' (first | with_reducible apply a0k | (with_reducible apply a0y; intro _) | rfl)
def c7U : Sh := { tmps := [(0, .c (.s))], mem := [] }
def e4a (L : List Lf) : List (Bool × Res) := bnd (c0I N (ls L 0) (fun p => some p)) fun q => [(q.isSome, ([.c (.b (q.getD default))], []))]
theorem e07 (L : List Lf) : bd Tryz.prog (d0i N) (d0k N).h 128 c7U L = c0I N (ls L 0) (fun p => some ([.c (.b p)], [])) := by kernel_rfl
theorem e6c : a0V Tryz.prog 128 c7U (e4a N) :=
 (d0k N).fn a0e (b8D N) fun L x hx => ((e07 N L).trans ((d5E N ..).trans (a1f x hx)))
def d0l : a0f := ext 128 (a2n c7U (e4a N)) (d0i N)
theorem b8E : a0b Tryz.prog (d0l N) := a0V.to (e6c N) (b8D N)
def e9V : List (Nat × List Nat) := [(0, [0]), (1, [0])]
def e9W : a0M := [(4, [0], [], [])]
def d5F (N : Nat) : Sg Tryz.prog 0 87 := .start e9W e9V
def b4w (w0 : LB) (k0 : Bool → Option R) : Option R :=
 bif (!(w0 == ([] : List UInt8))) then
  bnd (c5y N w0) fun y0 =>
  bif y0.isSome then
   k0 (y0.getD default)
  else
   none
 else
  k0 false
def c2l (w0 : LB) : Option (Bool) := b4w N w0 (fun p => some p)
theorem d2U (w0 : LB) (k0 : Bool → Option R) : b4w N w0 k0 = (c2l N w0).bind k0 := by
 unfold c2l b4w
 repeat' (first | with_reducible apply a0k | (with_reducible apply a0y; intro _) | rfl)
def e08 : Sh := { tmps := [(0, .c (.s))], mem := [] }
def e6d (L : List Lf) : List (Bool × (Ex × St)) := bnd (b4w N (ls L 0) (fun p => some p)) fun q => [(q.isSome, (.normal, ⟨[(2, .c (.b (q.getD default)))], []⟩))]
theorem d5G (L : List Lf) : pc Tryz.prog (d0l N) (d5F N).h 0 100 87 4 e08 L [2] [] = b4w N (ls L 0) (fun p => some (.normal, ⟨[(2, .c (.b p))], []⟩)) := by kernel_rfl
def d5H : Sg Tryz.prog 0 87 :=
 (d5F N).cut (e6d N) a0e (b8E N) fun L x hx => (d5G N L).trans ((d2U N ..).trans (a1f x hx))
def d2V (v0 : LB) (k0 : Bool → Option R) : Option R :=
 bnd (c2l N v0) fun y0 =>
 bif y0.isSome then
  k0 (y0.getD default)
 else
  none
def d5I (v0 : LB) : Option (Bool) := d2V N v0 (fun p => some p)
theorem e09 (v0 : LB) (k0 : Bool → Option R) : d2V N v0 k0 = (d5I N v0).bind k0 := by
 unfold d5I d2V
 repeat' (first | with_reducible apply a0k | (with_reducible apply a0y; intro _) | rfl)
def d5J : Sh := { tmps := [(0, .c (.s))], mem := [] }
def e9X (L : List Lf) : List (Bool × Res) := bnd (d2V N (ls L 0) (fun p => some p)) fun q => [(q.isSome, ([.c (.b (q.getD default))], []))]
theorem e6e (L : List Lf) : bd Tryz.prog (d0l N) (d5H N).h 87 d5J L = d2V N (ls L 0) (fun p => some ([.c (.b p)], [])) := by kernel_rfl
theorem e9Y : a0V Tryz.prog 87 d5J (e9X N) :=
 (d5H N).fn a0e (b8E N) fun L x hx => ((e6e N L).trans ((e09 N ..).trans (a1f x hx)))
def e9Z : a0f := ext 87 (a2n d5J (e9X N)) (d0l N)
theorem d0m : a0b Tryz.prog (e9Z N) := a0V.to (e9Y N) (b8E N)
abbrev a0u : Type := Int → Int → Int → Int → LB → Bool → LD → Int → Option (Int)
def d0n : Sh := { tmps := [(0, .g (.i .i64 :: [.i .i64, .i .i64, .i .i64, .s, .sl 24])), (1, .c (.i .i64))], mem := [] }
def e90 (N : Nat) (a0c : a0u) (L : List Lf) : List (Bool × Res) := bnd (a0c (li L 0) (li L 1) (li L 2) (li L 3) (ls L 4) (lb L 5) (ll L 6) (li L 7)) fun q => [(q.isSome, ([.c (.i .i64 (q.getD default))], []))]
def a2S (a0c : a0u) : a0f := ext 55 (a2n d0n ((e90 N) a0c)) (e9Z N)
def e91 : List (Nat × List Nat) := [(0, [0, 1]), (1, [2, 1]), (2, [2, 1, 5]), (3, [2, 6, 1, 7, 5]), (4, [2, 6, 8, 9, 1, 7, 5]), (6, [6, 2, 8, 9, 1, 7, 5]), (7, [7, 2, 6, 8, 9, 1, 5]), (9, [6, 2, 8, 9, 1, 7, 5]), (11, [8, 2, 9, 6, 1, 7, 5]), (13, [9, 2, 6, 1, 7, 8, 5]), (15, [6, 2, 1, 7, 8, 9, 5]), (16, [6, 7, 2, 1, 8, 9, 5]), (17, [8, 9, 2, 1, 5]), (18, [5, 2, 1]), (20, [2, 1]), (22, [1, 2]), (23, []), (21, []), (19, []), (14, []), (12, []), (10, []), (8, []), (5, []), (24, [2, 1]), (25, [144, 143, 142, 1]), (26, [142, 144, 1, 143]), (27, [11, 1, 144, 143, 142]), (28, [12, 144, 143, 142, 1]), (29, [12]), (30, [144, 143, 142, 1]), (31, [])]
def e92 : a0M := [(19, [1, 2, 5, 6, 7, 8, 9], [2], []), (22, [1, 2, 5, 6, 7, 8, 9], [2], []), (21002, [1, 2, 5, 6, 7, 8, 9, 33], [2], []), (28, [1, 2, 5, 6, 7, 8, 9], [2], []), (34, [1, 2, 5, 6, 7, 8, 9], [2], []), (40, [1, 2, 5, 6, 7, 8, 9], [2], []), (54002, [1, 2, 5, 85], [2], []), (51002, [1, 2, 5, 8, 9, 85], [2], []), (48002, [1, 2, 5, 6, 7, 8, 9, 85], [2], []), (75, [1, 142, 143, 144], [], [])]
def d5K (a0c : a0u) (a0z : a0b Tryz.prog ((a2S N) a0c)) : Sg Tryz.prog 0 55 := .start e92 e91
def a9Z (a0c : a0u) (w2 : Bool) (w7 : Int) (k0 : Bool → R) : R :=
 bif w2 then
  bnd (d2T N w7) fun y0 =>
  k0 (!y0)
 else
  k0 false
def b6s (a0c : a0u) (w2 : Bool) (w7 : Int) : Bool := a9Z N a0c w2 w7 (fun p => p)
theorem d2W (a0c : a0u) (w2 : Bool) (w7 : Int) (k0 : Bool → R) : a9Z N a0c w2 w7 k0 = k0 (b6s N a0c w2 w7) := by
 unfold b6s a9Z
 repeat' (first | rfl | apply a0q | (apply a0K; intro _))
def c5z : Sh := { tmps := [(1, .c (.i .i64)), (2, .c (.p 2 0)), (5, .c (.b)), (6, .c (.b)), (7, .c (.b)), (8, .c (.b)), (9, .c (.b))], mem := [(2, .box (.i .i64 :: [.i .i64, .i .i64, .i .i64, .s, .sl 24]))] }
def c0J (L : List Lf) (p : Bool) : Ex × St := (.normal, mg (a0p c5z L) [1, 2, 5, 6, 7, 8, 9, 33] [(33, .c (.b p))] [2] [])
def e1a (a0c : a0u) (L : List Lf) : List (Bool × (Ex × St)) := bnd (a9Z N a0c (lb L 2) (li L 7) (fun p => p)) fun q => [(true, c0J L q)]
theorem d2X (a0c : a0u) (a0z : a0b Tryz.prog ((a2S N) a0c)) (L : List Lf) : pc Tryz.prog ((a2S N) a0c) ((d5K N) a0c a0z).h 0 100 55 19 c5z L [1, 2, 5, 6, 7, 8, 9, 33] [2] = a9Z N a0c (lb L 2) (li L 7) (fun p => some (c0J L p)) := by kernel_rfl
def d5L (a0c : a0u) (a0z : a0b Tryz.prog ((a2S N) a0c)) : Sg Tryz.prog 0 55 :=
 ((d5K N) a0c a0z).cut ((e1a N) a0c) a0e a0z fun L x hx => (d2X N a0c a0z L).trans ((d2W N a0c ..).trans (a2f _ _ hx))
def a90 (a0c : a0u) (w3 : Bool) (w8 : Int) (k0 : Bool → R) : R :=
 bif w3 then
  bnd (a6r N w8 1 5) fun y0 =>
  k0 (!y0)
 else
  k0 false
def b6t (a0c : a0u) (w3 : Bool) (w8 : Int) : Bool := a90 N a0c w3 w8 (fun p => p)
theorem d2Y (a0c : a0u) (w3 : Bool) (w8 : Int) (k0 : Bool → R) : a90 N a0c w3 w8 k0 = k0 (b6t N a0c w3 w8) := by
 unfold b6t a90
 repeat' (first | rfl | apply a0q | (apply a0K; intro _))
def c5A : Sh := { tmps := [(1, .c (.i .i64)), (2, .c (.p 2 0)), (5, .c (.b)), (6, .c (.b)), (7, .c (.b)), (8, .c (.b)), (9, .c (.b))], mem := [(2, .box (.i .i64 :: [.i .i64, .i .i64, .i .i64, .s, .sl 24]))] }
def c0K (L : List Lf) (p : Bool) : Ex × St := (.normal, mg (a0p c5A L) [1, 2, 5, 6, 7, 8, 9, 33] [(33, .c (.b p))] [2] [])
def e1b (a0c : a0u) (L : List Lf) : List (Bool × (Ex × St)) := bnd (a90 N a0c (lb L 3) (li L 8) (fun p => p)) fun q => [(true, c0K L q)]
theorem d2Z (a0c : a0u) (a0z : a0b Tryz.prog ((a2S N) a0c)) (L : List Lf) : pc Tryz.prog ((a2S N) a0c) ((d5L N) a0c a0z).h 0 100 55 22 c5A L [1, 2, 5, 6, 7, 8, 9, 33] [2] = a90 N a0c (lb L 3) (li L 8) (fun p => some (c0K L p)) := by kernel_rfl
def d5M (a0c : a0u) (a0z : a0b Tryz.prog ((a2S N) a0c)) : Sg Tryz.prog 0 55 :=
 ((d5L N) a0c a0z).cut ((e1b N) a0c) a0e a0z fun L x hx => (d2Z N a0c a0z L).trans ((d2Y N a0c ..).trans (a2f _ _ hx))
def a4u (a0c : a0u) (w3 w6 : Bool) (w9 : Int) (k0 : Bool → R) : R :=
 bif w6 then
  k0 true
 else
  bnd (b6t N a0c w3 w9) fun y0 =>
  k0 y0
def a7V (a0c : a0u) (w3 w6 : Bool) (w9 : Int) : Bool := a4u N a0c w3 w6 w9 (fun p => p)
theorem c2m (a0c : a0u) (w3 w6 : Bool) (w9 : Int) (k0 : Bool → R) : a4u N a0c w3 w6 w9 k0 = k0 (a7V N a0c w3 w6 w9) := by
 unfold a7V a4u
 repeat' (first | rfl | apply a0q | (apply a0K; intro _))
def b5t : Sh := { tmps := [(1, .c (.i .i64)), (2, .c (.p 2 0)), (5, .c (.b)), (6, .c (.b)), (7, .c (.b)), (8, .c (.b)), (9, .c (.b)), (33, .c (.b))], mem := [(2, .box (.i .i64 :: [.i .i64, .i .i64, .i .i64, .s, .sl 24]))] }
def b2s (L : List Lf) (p : Bool) : Ex × St := (.normal, mg (a0p b5t L) [1, 2, 5, 6, 7, 8, 9, 33] [(33, .c (.b p))] [2] [])
def c7V (a0c : a0u) (L : List Lf) : List (Bool × (Ex × St)) := bnd (a4u N a0c (lb L 3) (lb L 6) (li L 9) (fun p => p)) fun q => [(true, b2s L q)]
theorem c2n (a0c : a0u) (a0z : a0b Tryz.prog ((a2S N) a0c)) (L : List Lf) : pc Tryz.prog ((a2S N) a0c) ((d5M N) a0c a0z).h 0 100 55 21002 b5t L [1, 2, 5, 6, 7, 8, 9, 33] [2] = a4u N a0c (lb L 3) (lb L 6) (li L 9) (fun p => some (b2s L p)) := by kernel_rfl
def d5N (a0c : a0u) (a0z : a0b Tryz.prog ((a2S N) a0c)) : Sg Tryz.prog 0 55 :=
 ((d5M N) a0c a0z).cut ((c7V N) a0c) a0e a0z fun L x hx => (c2n N a0c a0z L).trans ((c2m N a0c ..).trans (a2f _ _ hx))
def a91 (a0c : a0u) (w2 : Bool) (w8 w9 : Int) (k0 : Bool → R) : R :=
 bif w2 then
  bnd (a6r N w8 (-1000000000000000) 1000000000000000) fun y0 =>
  bif (!y0) then
   k0 true
  else
   bnd (a6r N w9 (-1000000000000000) 1000000000000000) fun y1 =>
   k0 (bif (!y1) then true else (decide (w8 > w9)))
 else
  k0 false
def b6u (a0c : a0u) (w2 : Bool) (w8 w9 : Int) : Bool := a91 N a0c w2 w8 w9 (fun p => p)
theorem d20 (a0c : a0u) (w2 : Bool) (w8 w9 : Int) (k0 : Bool → R) : a91 N a0c w2 w8 w9 k0 = k0 (b6u N a0c w2 w8 w9) := by
 unfold b6u a91
 repeat' (first | rfl | apply a0q | (apply a0K; intro _))
def c5B : Sh := { tmps := [(1, .c (.i .i64)), (2, .c (.p 2 0)), (5, .c (.b)), (6, .c (.b)), (7, .c (.b)), (8, .c (.b)), (9, .c (.b))], mem := [(2, .box (.i .i64 :: [.i .i64, .i .i64, .i .i64, .s, .sl 24]))] }
def c0L (L : List Lf) (p : Bool) : Ex × St := (.normal, mg (a0p c5B L) [1, 2, 5, 6, 7, 8, 9, 48] [(48, .c (.b p))] [2] [])
def e1c (a0c : a0u) (L : List Lf) : List (Bool × (Ex × St)) := bnd (a91 N a0c (lb L 2) (li L 8) (li L 9) (fun p => p)) fun q => [(true, c0L L q)]
theorem d21 (a0c : a0u) (a0z : a0b Tryz.prog ((a2S N) a0c)) (L : List Lf) : pc Tryz.prog ((a2S N) a0c) ((d5N N) a0c a0z).h 0 100 55 28 c5B L [1, 2, 5, 6, 7, 8, 9, 48] [2] = a91 N a0c (lb L 2) (li L 8) (li L 9) (fun p => some (c0L L p)) := by kernel_rfl
def d5O (a0c : a0u) (a0z : a0b Tryz.prog ((a2S N) a0c)) : Sg Tryz.prog 0 55 :=
 ((d5N N) a0c a0z).cut ((e1c N) a0c) a0e a0z fun L x hx => (d21 N a0c a0z L).trans ((d20 N a0c ..).trans (a2f _ _ hx))
def a92 (a0c : a0u) (w4 : Bool) (w10 : LB) (k0 : Bool → Option R) : Option R :=
 bif w4 then
  bnd (c5v N w10) fun y0 =>
  bif y0.isSome then
   k0 (!(y0.getD default))
  else
   none
 else
  k0 false
def b6v (a0c : a0u) (w4 : Bool) (w10 : LB) : Option (Bool) := a92 N a0c w4 w10 (fun p => some p)
theorem c7W (a0c : a0u) (w4 : Bool) (w10 : LB) (k0 : Bool → Option R) : a92 N a0c w4 w10 k0 = (b6v N a0c w4 w10).bind k0 := by
 unfold b6v a92
 repeat' (first | with_reducible apply a0k | (with_reducible apply a0y; intro _) | rfl)
def c5C : Sh := { tmps := [(1, .c (.i .i64)), (2, .c (.p 2 0)), (5, .c (.b)), (6, .c (.b)), (7, .c (.b)), (8, .c (.b)), (9, .c (.b))], mem := [(2, .box (.i .i64 :: [.i .i64, .i .i64, .i .i64, .s, .sl 24]))] }
def c0M (L : List Lf) (p : Bool) : Ex × St := (.normal, mg (a0p c5C L) [1, 2, 5, 6, 7, 8, 9, 69] [(69, .c (.b p))] [2] [])
def e1d (a0c : a0u) (L : List Lf) : List (Bool × (Ex × St)) := bnd (a92 N a0c (lb L 4) (ls L 10) (fun p => some p)) fun q => [(q.isSome, c0M L (q.getD default))]
theorem d22 (a0c : a0u) (a0z : a0b Tryz.prog ((a2S N) a0c)) (L : List Lf) : pc Tryz.prog ((a2S N) a0c) ((d5O N) a0c a0z).h 0 100 55 34 c5C L [1, 2, 5, 6, 7, 8, 9, 69] [2] = a92 N a0c (lb L 4) (ls L 10) (fun p => some (c0M L p)) := by kernel_rfl
def d5P (a0c : a0u) (a0z : a0b Tryz.prog ((a2S N) a0c)) : Sg Tryz.prog 0 55 :=
 ((d5O N) a0c a0z).cut ((e1d N) a0c) a0e a0z fun L x hx => (d22 N a0c a0z L).trans ((c7W N a0c ..).trans (a1f x hx))
def a93 (a0c : a0u) (w5 : Bool) (w10 : LB) (k0 : Bool → Option R) : Option R :=
 bif w5 then
  bnd (d5I N w10) fun y0 =>
  bif y0.isSome then
   k0 (!(y0.getD default))
  else
   none
 else
  k0 false
def b6w (a0c : a0u) (w5 : Bool) (w10 : LB) : Option (Bool) := a93 N a0c w5 w10 (fun p => some p)
theorem c7X (a0c : a0u) (w5 : Bool) (w10 : LB) (k0 : Bool → Option R) : a93 N a0c w5 w10 k0 = (b6w N a0c w5 w10).bind k0 := by
 unfold b6w a93
 repeat' (first | with_reducible apply a0k | (with_reducible apply a0y; intro _) | rfl)
def c5D : Sh := { tmps := [(1, .c (.i .i64)), (2, .c (.p 2 0)), (5, .c (.b)), (6, .c (.b)), (7, .c (.b)), (8, .c (.b)), (9, .c (.b))], mem := [(2, .box (.i .i64 :: [.i .i64, .i .i64, .i .i64, .s, .sl 24]))] }
def c0N (L : List Lf) (p : Bool) : Ex × St := (.normal, mg (a0p c5D L) [1, 2, 5, 6, 7, 8, 9, 77] [(77, .c (.b p))] [2] [])
def e1e (a0c : a0u) (L : List Lf) : List (Bool × (Ex × St)) := bnd (a93 N a0c (lb L 5) (ls L 10) (fun p => some p)) fun q => [(q.isSome, c0N L (q.getD default))]
theorem d23 (a0c : a0u) (a0z : a0b Tryz.prog ((a2S N) a0c)) (L : List Lf) : pc Tryz.prog ((a2S N) a0c) ((d5P N) a0c a0z).h 0 100 55 40 c5D L [1, 2, 5, 6, 7, 8, 9, 77] [2] = a93 N a0c (lb L 5) (ls L 10) (fun p => some (c0N L p)) := by kernel_rfl
def d5Q (a0c : a0u) (a0z : a0b Tryz.prog ((a2S N) a0c)) : Sg Tryz.prog 0 55 :=
 ((d5P N) a0c a0z).cut ((e1e N) a0c) a0e a0z fun L x hx => (d23 N a0c a0z L).trans ((c7X N a0c ..).trans (a1f x hx))
def a4v (N : Nat) (a0c : a0u) (w1 w2 : Bool) (w9 : LD) (k0 : Bool → R) : R :=
 bif w2 then
  k0 true
 else
  k0 (bif (!w1) then (decide ((w9.length : Int) > 0)) else false)
def a7W (a0c : a0u) (w1 w2 : Bool) (w9 : LD) : Bool := a4v N a0c w1 w2 w9 (fun p => p)
theorem c2o (a0c : a0u) (w1 w2 : Bool) (w9 : LD) (k0 : Bool → R) : a4v N a0c w1 w2 w9 k0 = k0 (a7W N a0c w1 w2 w9) := by
 unfold a7W a4v
 repeat' (first | rfl | apply a0q | (apply a0K; intro _))
def b5u : Sh := { tmps := [(1, .c (.i .i64)), (2, .c (.p 2 0)), (5, .c (.b)), (85, .c (.b))], mem := [(2, .box (.i .i64 :: [.i .i64, .i .i64, .i .i64, .s, .sl 24]))] }
def b2t (L : List Lf) (p : Bool) : Ex × St := (.normal, mg (a0p b5u L) [1, 2, 85] [(85, .c (.b p))] [2] [])
def c7Y (a0c : a0u) (L : List Lf) : List (Bool × (Ex × St)) := bnd (a4v N a0c (lb L 1) (lb L 2) (ll L 9) (fun p => p)) fun q => [(true, b2t L q)]
theorem c2p (a0c : a0u) (a0z : a0b Tryz.prog ((a2S N) a0c)) (L : List Lf) : pc Tryz.prog ((a2S N) a0c) ((d5Q N) a0c a0z).h 0 100 55 54002 b5u L [1, 2, 85] [2] = a4v N a0c (lb L 1) (lb L 2) (ll L 9) (fun p => some (b2t L p)) := by kernel_rfl
def d5R (a0c : a0u) (a0z : a0b Tryz.prog ((a2S N) a0c)) : Sg Tryz.prog 0 55 :=
 ((d5Q N) a0c a0z).cut ((c7Y N) a0c) a0e a0z fun L x hx => (c2p N a0c a0z L).trans ((c2o N a0c ..).trans (a2f _ _ hx))
def a5Q (a0c : a0u) (w1 w2 w3 w4 : Bool) (w9 : LB) (w11 : LD) (k0 : Bool → R) : R :=
 bif w4 then
  k0 true
 else
  bnd (bif (bif (!w2) then (!w3) else false) then (!(w9 == ([] : List UInt8))) else false) fun y0 =>
  bnd (a7W N a0c w1 y0 w11) fun y1 =>
  k0 y1
def a7X (a0c : a0u) (w1 w2 w3 w4 : Bool) (w9 : LB) (w11 : LD) : Bool := a5Q N a0c w1 w2 w3 w4 w9 w11 (fun p => p)
theorem c2q (a0c : a0u) (w1 w2 w3 w4 : Bool) (w9 : LB) (w11 : LD) (k0 : Bool → R) : a5Q N a0c w1 w2 w3 w4 w9 w11 k0 = k0 (a7X N a0c w1 w2 w3 w4 w9 w11) := by
 unfold a7X a5Q
 repeat' (first | rfl | apply a0q | (apply a0K; intro _))
def b8F (a0c : a0u) (L : List Lf) (k0 : Bool → R) : R := a5Q N a0c (lb L 1) (lb L 2) (lb L 3) (lb L 4) (ls L 9) (ll L 11) k0
def b5v : Sh := { tmps := [(1, .c (.i .i64)), (2, .c (.p 2 0)), (5, .c (.b)), (8, .c (.b)), (9, .c (.b)), (85, .c (.b))], mem := [(2, .box (.i .i64 :: [.i .i64, .i .i64, .i .i64, .s, .sl 24]))] }
def b2u (L : List Lf) (p : Bool) : Ex × St := (.normal, mg (a0p b5v L) [1, 2, 85] [(85, .c (.b p))] [2] [])
def c7Z (a0c : a0u) (L : List Lf) : List (Bool × (Ex × St)) := bnd (b8F N a0c L (fun p => p)) fun q => [(true, b2u L q)]
theorem c2r (a0c : a0u) (a0z : a0b Tryz.prog ((a2S N) a0c)) (L : List Lf) : pc Tryz.prog ((a2S N) a0c) ((d5R N) a0c a0z).h 0 100 55 51002 b5v L [1, 2, 85] [2] = b8F N a0c L (fun p => some (b2u L p)) := by kernel_rfl
def d5S (a0c : a0u) (a0z : a0b Tryz.prog ((a2S N) a0c)) : Sg Tryz.prog 0 55 :=
 ((d5R N) a0c a0z).cut ((c7Z N) a0c) a0e a0z fun L x hx => (c2r N a0c a0z L).trans ((c2q N a0c ..).trans (a2f _ _ hx))
def a5R (a0c : a0u) (w1 w2 w3 w4 w5 w6 : Bool) (w9 : Int) (w11 : LB) (w13 : LD) (k0 : Bool → R) : R :=
 bif w6 then
  k0 true
 else
  bnd (bif (bif (!w2) then (!w3) else false) then (w9 != 0) else false) fun y0 =>
  bnd (a7X N a0c w1 w4 w5 y0 w11 w13) fun y1 =>
  k0 y1
def a7Y (a0c : a0u) (w1 w2 w3 w4 w5 w6 : Bool) (w9 : Int) (w11 : LB) (w13 : LD) : Bool := a5R N a0c w1 w2 w3 w4 w5 w6 w9 w11 w13 (fun p => p)
theorem c2s (a0c : a0u) (w1 w2 w3 w4 w5 w6 : Bool) (w9 : Int) (w11 : LB) (w13 : LD) (k0 : Bool → R) : a5R N a0c w1 w2 w3 w4 w5 w6 w9 w11 w13 k0 = k0 (a7Y N a0c w1 w2 w3 w4 w5 w6 w9 w11 w13) := by
 unfold a7Y a5R
 repeat' (first | rfl | apply a0q | (apply a0K; intro _))
def b8G (a0c : a0u) (L : List Lf) (k0 : Bool → R) : R := a5R N a0c (lb L 1) (lb L 2) (lb L 3) (lb L 4) (lb L 5) (lb L 6) (li L 9) (ls L 11) (ll L 13) k0
def b5w : Sh := { tmps := [(1, .c (.i .i64)), (2, .c (.p 2 0)), (5, .c (.b)), (6, .c (.b)), (7, .c (.b)), (8, .c (.b)), (9, .c (.b)), (85, .c (.b))], mem := [(2, .box (.i .i64 :: [.i .i64, .i .i64, .i .i64, .s, .sl 24]))] }
def b2v (L : List Lf) (p : Bool) : Ex × St := (.normal, mg (a0p b5w L) [1, 2, 85] [(85, .c (.b p))] [2] [])
def c70 (a0c : a0u) (L : List Lf) : List (Bool × (Ex × St)) := bnd (b8G N a0c L (fun p => p)) fun q => [(true, b2v L q)]
theorem c2t (a0c : a0u) (a0z : a0b Tryz.prog ((a2S N) a0c)) (L : List Lf) : pc Tryz.prog ((a2S N) a0c) ((d5S N) a0c a0z).h 0 100 55 48002 b5w L [1, 2, 85] [2] = b8G N a0c L (fun p => some (b2v L p)) := by kernel_rfl
def d5T (a0c : a0u) (a0z : a0b Tryz.prog ((a2S N) a0c)) : Sg Tryz.prog 0 55 :=
 ((d5S N) a0c a0z).cut ((c70 N) a0c) a0e a0z fun L x hx => (c2t N a0c a0z L).trans ((c2s N a0c ..).trans (a2f _ _ hx))
def a94 (N : Nat) (a0c : a0u) (w0 : Int) (w2 : LD) (w3 : Int) (w4 : Int) (kr : Int → Option R) (k0 : Int → Option R) (k1 : Unit → Option R) : Option R :=
 bif (decide (w4 < w3)) then
  bif (inB w4 w2.length) then
   bnd (a0c ((w2.getD w4.toNat (.i 0)).cell 0).toI ((w2.getD w4.toNat (.i 0)).cell 1).toI ((w2.getD w4.toNat (.i 0)).cell 2).toI ((w2.getD w4.toNat (.i 0)).cell 3).toI ((w2.getD w4.toNat (.i 0)).cell 4).toS ((w2.getD w4.toNat (.i 0)).cell 5).isNil ((w2.getD w4.toNat (.i 0)).cell 5).items (IntKind.wrap .i64 (w0 + 1))) fun y0 =>
   bif y0.isSome then
    bif ((y0.getD default) != 0) then
     k0 (y0.getD default)
    else
     kr (IntKind.wrap .i64 (w4 + 1))
   else
    none
  else
   none
 else
  k1 ()
def b6x (N : Nat) (a0c : a0u) {R : Type} (w0 : Int) (w2 : LD) (w3 : Int) : Nat → Int → (Int → Option R) → (Unit → Option R) → Option R
 | 0, _, _, _ => none
 | m + 1, w4, k0, k1 => a94 N a0c w0 w2 w3 w4 (fun w4 => b6x N a0c w0 w2 w3 m w4 k0 k1) k0 k1
def a7Z (a0c : a0u) (w0 : Int) (w2 : LD) (w3 : Int) (w4 : Int) : Option (Sum (Int) (Unit)) := b6x N a0c (R := (Sum (Int) (Unit))) w0 w2 w3 N w4 (fun p => some (.inl p)) (fun p => some (.inr p))
def b2w (a0c : a0u) (L x : List Lf) (kr : List Lf → Option R) (k0 : Int → Option R) (k1 : Unit → Option R) : Option R := a94 N a0c (li L 0) (ll L 2) (li L 3) (li x 0) (fun w4 => kr [.i w4]) k0 k1
theorem c5E (a0c : a0u) (L x : List Lf) (kr : List Lf → Option R) (k0 : Int → Option R) (k1 : Unit → Option R) : b2w N a0c L x kr k0 k1 = (b2w N a0c L x (fun y => some (.inl y)) (fun p => some (.inr (.inl p))) (fun p => some (.inr (.inr p)))).bind (a1m kr (a1m k0 k1)) := by
 unfold b2w a94
 repeat' (first | with_reducible apply a0k | (with_reducible apply a0y; intro _) | rfl)
def b6y (a0c : a0u) (L : List Lf) (m : Nat) (x : List Lf) : Option (Sum (Int) (Unit)) := b6x N a0c (R := (Sum (Int) (Unit))) (li L 0) (ll L 2) (li L 3) m (li x 0) (fun p => some (.inl p)) (fun p => some (.inr p))
def b2x : Sh := { tmps := [(1, .c (.i .i64)), (142, .c (.sl 24)), (143, .c (.i .i64)), (144, .c (.i .i64))], mem := [] }
def e1f (a0c : a0u) (L : List Lf) : List (Bool × (Ex × St)) := bnd (b6y N a0c L N (pk b2x [4] L)) fun q => [((a04 q), (.ret, ⟨[(4, .c (.i .i64 (a0P q)))], []⟩)), ((a0r q).isSome, ((.exit 1), ⟨[], []⟩))]
theorem c71 (a0c : a0u) (a0z : a0b Tryz.prog ((a2S N) a0c)) (m : Nat) (kn : St → Option (Ex × St)) (L x : List Lf) : lpB Tryz.prog ((a2S N) a0c) ((d5T N) a0c a0z).h 0 55 75 b2x [4] [4] [] (m + 100) kn L x = b2w N a0c L x (fun y => kn (a0p b2x (mx b2x [4] L y))) (fun p => some (.ret, ⟨[(4, .c (.i .i64 p))], []⟩)) (fun _ => some ((.exit 1), ⟨[], []⟩)) := by kernel_rfl
theorem d5U (a0c : a0u) (L : List Lf) (m : Nat) (x : List Lf) : b6y N a0c L (m + 1) x = b2w N a0c L x (b6y N a0c L m) (fun p => some (.inl p)) (fun p => some (.inr p)) := by kernel_rfl
def d0o (a0c : a0u) (a0z : a0b Tryz.prog ((a2S N) a0c)) : Sg Tryz.prog 0 55 :=
 ((d5T N) a0c a0z).lp ((e1f N) a0c) N a0e a0z (fun m kn L x => (c71 N a0c a0z m kn L x).trans (c5E N a0c L x _ _ _)) (fun L m x => (d5U N a0c L m x).trans (c5E N a0c L x (b6y N a0c L m) (fun p => some (.inl p)) (fun p => some (.inr p)))) fun L x hx => (a4i a1f) x hx
def d5V (a0c : a0u) (v0 v1 v2 v3 : Int) (v4 : LB) (v5 : Bool) (v6 : LD) (v7 : Int) (k0 : Int → Option R) : Option R :=
 bnd (a6r N v0 1 3) fun y0 =>
 bnd (a6r N v0 1 7) fun y1 =>
 bif (!y1) then
  k0 7
 else
  bnd (b6s N a0c (v0 == 7) v1) fun y2 =>
  bnd (a7V N a0c (v0 == 4) y2 v2) fun y3 =>
  bif y3 then
   k0 7
  else
   bnd (b6u N a0c (v0 == 7) v2 v3) fun y4 =>
   bif y4 then
    k0 9
   else
    bnd (b6v N a0c (v0 == 5) v4) fun y5 =>
    bif y5.isSome then
     bif (y5.getD default) then
      k0 8
     else
      bnd (b6w N a0c (v0 == 6) v4) fun y6 =>
      bif y6.isSome then
       bif (y6.getD default) then
        k0 2
       else
        bnd (bif (!(v0 == 7)) then (bif (v1 != 0) then true else (v3 != 0)) else false) fun y7 =>
        bnd (a7Y N a0c y0 (v0 == 7) (v0 == 4) (v0 == 5) (v0 == 6) y7 v2 v4 v6) fun y8 =>
        bif y8 then
         k0 2
        else
         bif (bif (v0 == 3) then ((v6.length : Int) != 1) else false) then
          k0 2
         else
          bif (decide (v7 > 20)) then
           k0 3
          else
           bnd (a7Z N a0c v7 v6 (v6.length : Int) 0) fun y9 =>
           bif (a04 y9) then
            k0 (a0P y9)
           else
            bif (a0r y9).isSome then
             k0 0
            else
             none
      else
       none
    else
     none
def c72 (a0c : a0u) (v0 v1 v2 v3 : Int) (v4 : LB) (v5 : Bool) (v6 : LD) (v7 : Int) : Option (Int) := d5V N a0c v0 v1 v2 v3 v4 v5 v6 v7 (fun p => some p)
theorem e1g (a0c : a0u) (v0 v1 v2 v3 : Int) (v4 : LB) (v5 : Bool) (v6 : LD) (v7 : Int) (k0 : Int → Option R) : d5V N a0c v0 v1 v2 v3 v4 v5 v6 v7 k0 = (c72 N a0c v0 v1 v2 v3 v4 v5 v6 v7).bind k0 := by
 unfold c72 d5V
 repeat' (first | with_reducible apply a0k | (with_reducible apply a0y; intro _) | rfl)
def f4B (a0c : a0u) (L : List Lf) (k0 : Int → Option R) : Option R := d5V N a0c (li L 0) (li L 1) (li L 2) (li L 3) (ls L 4) (lb L 5) (ll L 6) (li L 7) k0
theorem e6f (a0c : a0u) (a0z : a0b Tryz.prog ((a2S N) a0c)) (L : List Lf) : bd Tryz.prog ((a2S N) a0c) ((d0o N) a0c a0z).h 55 d0n L = f4B N a0c L (fun p => some ([.c (.i .i64 p)], [])) := by kernel_rfl
theorem e6g (a0c : a0u) (a0z : a0b Tryz.prog ((a2S N) a0c)) (L : List Lf) (x : Res) (hx : a5f ((e90 N) (fun v0 v1 v2 v3 v4 v5 v6 v7 => c72 N a0c v0 v1 v2 v3 v4 v5 v6 v7) L) some = some x) : a1I Tryz.prog 55 (a5P (a0p d0n L).tmps) (a0p d0n L).mem x :=
 a3p (n := 200) a0e a0z ((d0o N) a0c a0z).ok rfl ((e6f N a0c a0z L).trans ((e1g N a0c ..).trans (a1f x hx)))
def b9K (N : Nat) : Nat → a0u
 | 0 => fun _ _ _ _ _ _ _ _ => none
 | m + 1 => fun v0 v1 v2 v3 v4 v5 v6 v7 => c72 N (b9K N m) v0 v1 v2 v3 v4 v5 v6 v7
theorem d5W (N : Nat) : ∀ m, a0b Tryz.prog ((a2S N) (b9K N m))
 | 0 => a0Y (d0m N) (AM.enters_of (by kernel_rfl)) (a1h fun L x hx => by
  have h : (none : Option Res) = some x := hx
  cases h)
 | m + 1 => a0Y (d0m N) (AM.enters_of (by kernel_rfl)) (a1h fun L x hx => e6g N (b9K N m) (d5W N m) L x hx)
def e6h : a0f := (a2S N) (b9K N N)
theorem d0p : a0b Tryz.prog (e6h N) := d5W N N
def e93 : List (Nat × List Nat) := [(0, [0]), (1, [1]), (2, []), (3, [1])]
def e94 : a0M := []
def d5X (N : Nat) : Sg Tryz.prog 0 27 := .start e94 e93
def d5Y (v0 v1 v2 v3 : Int) (v4 : LB) (v5 : Bool) (v6 : LD) (k0 : Int → Option R) : Option R :=
 bnd (b9J N N v0 v1 v2 v3 v4 v5 v6) fun y0 =>
 bif y0.isSome then
  bif (decide ((y0.getD default) > 100)) then
   k0 3
  else
   bnd (b9K N N v0 v1 v2 v3 v4 v5 v6 0) fun y1 =>
   bif y1.isSome then
    k0 (y1.getD default)
   else
    none
 else
  none
def d5Z (v0 v1 v2 v3 : Int) (v4 : LB) (v5 : Bool) (v6 : LD) : Option (Int) := d5Y N v0 v1 v2 v3 v4 v5 v6 (fun p => some p)
theorem e1h (v0 v1 v2 v3 : Int) (v4 : LB) (v5 : Bool) (v6 : LD) (k0 : Int → Option R) : d5Y N v0 v1 v2 v3 v4 v5 v6 k0 = (d5Z N v0 v1 v2 v3 v4 v5 v6).bind k0 := by
 unfold d5Z d5Y
 repeat' (first | with_reducible apply a0k | (with_reducible apply a0y; intro _) | rfl)
def e95 (L : List Lf) (k0 : Int → Option R) : Option R := d5Y N (li L 0) (li L 1) (li L 2) (li L 3) (ls L 4) (lb L 5) (ll L 6) k0
def d50 : Sh := { tmps := [(0, .g (.i .i64 :: [.i .i64, .i .i64, .i .i64, .s, .sl 24]))], mem := [] }
def e96 (L : List Lf) : List (Bool × Res) := bnd (e95 N L (fun p => some p)) fun q => [(q.isSome, ([.c (.i .i64 (q.getD default))], []))]
theorem e6i (L : List Lf) : bd Tryz.prog (e6h N) (d5X N).h 27 d50 L = e95 N L (fun p => some ([.c (.i .i64 p)], [])) := by kernel_rfl
theorem e97 : a0V Tryz.prog 27 d50 (e96 N) :=
 (d5X N).fn a0e (d0p N) fun L x hx => ((e6i N L).trans ((e1h N ..).trans (a1f x hx)))
def e1i : a0f := ext 27 (a2n d50 (e96 N)) (e6h N)
theorem c2u : a0b Tryz.prog (e1i N) := a0V.to (e97 N) (d0p N)
def e98 : List (Nat × List Nat) := [(0, [0]), (1, [1]), (3, [1]), (4, []), (2, []), (5, [1]), (6, [3, 1]), (7, [3]), (8, [1]), (9, [4, 1]), (11, [1]), (12, []), (10, []), (13, [])]
def e99 : a0M := [(28, [1, 4], [1], [])]
def d51 (N : Nat) : Sg Tryz.prog 0 19 := .start e99 e98
def a95 (w0 : Bool) (w3 : Int) (k0 : Bool → R) : R :=
 bif w0 then
  bnd (d2T N w3) fun y0 =>
  bnd (bif (!y0) then true else (bif (!w0) then (w3 != 0) else false)) fun y1 =>
  k0 y1
 else
  k0 (bif (!w0) then (w3 != 0) else false)
def b2y (w0 : Bool) (w3 : Int) : Bool := a95 N w0 w3 (fun p => p)
theorem d24 (w0 : Bool) (w3 : Int) (k0 : Bool → R) : a95 N w0 w3 k0 = k0 (b2y N w0 w3) := by
 unfold b2y a95
 repeat' (first | rfl | apply a0q | (apply a0K; intro _))
def c5F : Sh := { tmps := [(1, .c (.p 1 0)), (4, .c (.b))], mem := [(1, .box (.s :: rI 7 ([.s, .sl 24])))] }
def c0O (L : List Lf) (p : Bool) : Ex × St := (.normal, mg (a0p c5F L) [1, 29] [(29, .c (.b p))] [1] [])
def e1j (L : List Lf) : List (Bool × (Ex × St)) := bnd (a95 N (lb L 0) (li L 3) (fun p => p)) fun q => [(true, c0O L q)]
theorem d25 (L : List Lf) : pc Tryz.prog (e1i N) (d51 N).h 0 100 19 28 c5F L [1, 29] [1] = a95 N (lb L 0) (li L 3) (fun p => some (c0O L p)) := by kernel_rfl
def d52 : Sg Tryz.prog 0 19 :=
 (d51 N).cut (e1j N) a0e (c2u N) fun L x hx => (d25 N L).trans ((d24 N ..).trans (a2f _ _ hx))
def d53 (v0 : LB) (v1 v2 v3 v4 v5 v6 v7 : Int) (v8 : LB) (v9 : Bool) (v10 : LD) (k0 : Int → Option R) : Option R :=
 bnd (c5v N v0) fun y0 =>
 bif y0.isSome then
  bif (!(y0.getD default)) then
   k0 8
  else
   bnd (a6r N v1 1 4) fun y1 =>
   bif (!y1) then
    k0 7
   else
    bnd (d5Z N v4 v5 v6 v7 v8 v9 v10) fun y2 =>
    bif y2.isSome then
     bif ((y2.getD default) != 0) then
      k0 (y2.getD default)
     else
      bnd (b2y N (bif (v1 == 2) then true else (v1 == 3)) v2) fun y3 =>
      bif y3 then
       k0 7
      else
       bnd (a6r N v3 1 10000000000000) fun y4 =>
       bif (!y4) then
        k0 9
       else
        k0 0
    else
     none
 else
  none
def d54 (v0 : LB) (v1 v2 v3 v4 v5 v6 v7 : Int) (v8 : LB) (v9 : Bool) (v10 : LD) : Option (Int) := d53 N v0 v1 v2 v3 v4 v5 v6 v7 v8 v9 v10 (fun p => some p)
theorem e1k (v0 : LB) (v1 v2 v3 v4 v5 v6 v7 : Int) (v8 : LB) (v9 : Bool) (v10 : LD) (k0 : Int → Option R) : d53 N v0 v1 v2 v3 v4 v5 v6 v7 v8 v9 v10 k0 = (d54 N v0 v1 v2 v3 v4 v5 v6 v7 v8 v9 v10).bind k0 := by
 unfold d54 d53
 repeat' (first | with_reducible apply a0k | (with_reducible apply a0y; intro _) | rfl)
def f0a (L : List Lf) (k0 : Int → Option R) : Option R := d53 N (ls L 0) (li L 1) (li L 2) (li L 3) (li L 4) (li L 5) (li L 6) (li L 7) (ls L 8) (lb L 9) (ll L 10) k0
def d55 : Sh := { tmps := [(0, .g (.s :: rI 7 ([.s, .sl 24])))], mem := [] }
def f0b (L : List Lf) : List (Bool × Res) := bnd (f0a N L (fun p => some p)) fun q => [(q.isSome, ([.c (.i .i64 (q.getD default))], []))]
theorem e6j (L : List Lf) : bd Tryz.prog (e1i N) (d52 N).h 19 d55 L = f0a N L (fun p => some ([.c (.i .i64 p)], [])) := by kernel_rfl
theorem f0c : a0V Tryz.prog 19 d55 (f0b N) :=
 (d52 N).fn a0e (c2u N) fun L x hx => ((e6j N L).trans ((e1k N ..).trans (a1f x hx)))
def e6k : a0f := ext 19 (a2n d55 (f0b N)) (e1i N)
theorem d0q : a0b Tryz.prog (e6k N) := a0V.to (f0c N) (c2u N)
def f0d : List (Nat × List Nat) := [(0, [0, 1]), (1, [2, 1])]
def f0e : a0M := []
def d56 (N : Nat) : Sg Tryz.prog 1 63 := .start f0e f0d
def d26 (N : Nat) (v0 v11 : LB) (k0 : Bool → R) : R :=
 k0 (v0 == v11)
def e1l (v0 v11 : LB) : Bool := d26 N v0 v11 (fun p => p)
theorem e6l (v0 v11 : LB) (k0 : Bool → R) : d26 N v0 v11 k0 = k0 (e1l N v0 v11) := by
 unfold e1l d26
 repeat' (first | rfl | apply a0q | (apply a0K; intro _))
def c5G : Sh := { tmps := [(0, .g (.s :: rI 7 ([.s, .sl 24]))), (1, .c (.p 0 0))], mem := [(0, .box (.s :: rI 7 ([.s, .sl 24])))] }
def f0f (L : List Lf) : List (Bool × Res) := bnd (d26 N (ls L 0) (ls L 11) (fun p => p)) fun q => [(true, ([.c (.b q)], mgA (a0p c5G L).mem [] [0]))]
theorem e6m (L : List Lf) : bd Tryz.prog (e6k N) (d56 N).h 63 c5G L = d26 N (ls L 0) (ls L 11) (fun p => some ([.c (.b p)], mgA (a0p c5G L).mem [] [0])) := by kernel_rfl
theorem f0g : a0V Tryz.prog 63 c5G (f0f N) :=
 (d56 N).fn a0e (d0q N) fun L x hx => ((e6m N L).trans ((e6l N ..).trans (a2f _ _ hx)))
def e1m : a0f := ext 63 (a2n c5G (f0f N)) (e6k N)
theorem c2v : a0b Tryz.prog (e1m N) := a0V.to (f0g N) (d0q N)
def e6n : List (Nat × List Nat) := [(0, [0, 1]), (1, [0, 1]), (2, [8, 7, 1, 0]), (3, [8, 1, 0, 7]), (4, [1, 0, 5, 8, 7]), (5, [5]), (6, [8, 7, 1, 0]), (7, [])]
def e6o : a0M := [(6, [0, 1, 7, 8], [0], [])]
def d0r (N : Nat) : Sg Tryz.prog 1 100 := .start e6o e6n
def a96 (w1 : LD) (w2 : Int) (w4 : LB) (w3 : Int) (kr : Int → Option R) (k0 : Int → Option R) (k1 : Unit → Option R) : Option R :=
 bif (decide (w3 < w2)) then
  bif (inB w3 w1.length) then
   bnd (e1l N ((w1.getD w3.toNat (.i 0)).cell 0).toS w4) fun y0 =>
   bif y0 then
    k0 w3
   else
    kr (IntKind.wrap .i64 (w3 + 1))
  else
   none
 else
  k1 ()
def b6z (N : Nat) {R : Type} (w1 : LD) (w2 : Int) (w4 : LB) : Nat → Int → (Int → Option R) → (Unit → Option R) → Option R
 | 0, _, _, _ => none
 | m + 1, w3, k0, k1 => a96 N w1 w2 w4 w3 (fun w3 => b6z N w1 w2 w4 m w3 k0 k1) k0 k1
def c2w (w1 : LD) (w2 : Int) (w4 : LB) (w3 : Int) : Option (Sum (Int) (Unit)) := b6z N (R := (Sum (Int) (Unit))) w1 w2 w4 N w3 (fun p => some (.inl p)) (fun p => some (.inr p))
def b2z (L x : List Lf) (kr : List Lf → Option R) (k0 : Int → Option R) (k1 : Unit → Option R) : Option R := a96 N (ll L 1) (li L 2) (ls L 4) (li x 0) (fun w3 => kr [.i w3]) k0 k1
theorem c5H (L x : List Lf) (kr : List Lf → Option R) (k0 : Int → Option R) (k1 : Unit → Option R) : b2z N L x kr k0 k1 = (b2z N L x (fun y => some (.inl y)) (fun p => some (.inr (.inl p))) (fun p => some (.inr (.inr p)))).bind (a1m kr (a1m k0 k1)) := by
 unfold b2z a96
 repeat' (first | with_reducible apply a0k | (with_reducible apply a0y; intro _) | rfl)
def b6A (L : List Lf) (m : Nat) (x : List Lf) : Option (Sum (Int) (Unit)) := b6z N (R := (Sum (Int) (Unit))) (ll L 1) (li L 2) (ls L 4) m (li x 0) (fun p => some (.inl p)) (fun p => some (.inr p))
def a5S : Sh := { tmps := [(0, .c (.sl 52)), (1, .c (.f 63 [(0, 0)])), (7, .c (.i .i64)), (8, .c (.i .i64))], mem := [(0, .box (.s :: rI 7 ([.s, .sl 24])))] }
def c0P (L : List Lf) (p : Int) : Ex × St := (.ret, mg (a0p a5S L) [4] [(4, .c (.i .i64 p))] [0] [])
def e1n (L : List Lf) : List (Bool × (Ex × St)) := bnd (b6A N L N (pk a5S [3] L)) fun q => [((a04 q), c0P L (a0P q)), ((a0r q).isSome, ((.exit 0), mg (a0p a5S L) [] [] [0] []))]
theorem c73 (m : Nat) (kn : St → Option (Ex × St)) (L x : List Lf) : lpB Tryz.prog (e1m N) (d0r N).h 1 100 6 a5S [3] [4] [0] (m + 100) kn L x = b2z N L x (fun y => kn (a0p a5S (mx a5S [3] L y))) (fun p => some (c0P L p)) (fun _ => some ((.exit 0), mg (a0p a5S L) [] [] [0] [])) := by kernel_rfl
theorem d57 (L : List Lf) (m : Nat) (x : List Lf) : b6A N L (m + 1) x = b2z N L x (b6A N L m) (fun p => some (.inl p)) (fun p => some (.inr p)) := by kernel_rfl
def d0s : Sg Tryz.prog 1 100 :=
 (d0r N).lp (e1n N) N a0e (c2v N) (fun m kn L x => (c73 N m kn L x).trans (c5H N L x _ _ _)) (fun L m x => (d57 N L m x).trans (c5H N L x (b6A N L m) (fun p => some (.inl p)) (fun p => some (.inr p)))) fun L x hx => (a4i a1f) x hx
def c0Q (v1 : LD) (v2 : LB) (k0 : Int → Option R) : Option R :=
 bnd (c2w N v1 (v1.length : Int) v2 0) fun y0 =>
 bif (a04 y0) then
  k0 (a0P y0)
 else
  bif (a0r y0).isSome then
   k0 (-1)
  else
   none
def d0t (v1 : LD) (v2 : LB) : Option (Int) := c0Q N v1 v2 (fun p => some p)
theorem d58 (v1 : LD) (v2 : LB) (k0 : Int → Option R) : c0Q N v1 v2 k0 = (d0t N v1 v2).bind k0 := by
 unfold d0t c0Q
 repeat' (first | with_reducible apply a0k | (with_reducible apply a0y; intro _) | rfl)
def b8H : Sh := { tmps := [(0, .c (.sl 52)), (1, .c (.f 63 [(0, 0)]))], mem := [(0, .box (.s :: rI 7 ([.s, .sl 24])))] }
def e4b (L : List Lf) : List (Bool × Res) := bnd (c0Q N (ll L 1) (ls L 2) (fun p => some p)) fun q => [(q.isSome, ([.c (.i .i64 (q.getD default))], mgA (a0p b8H L).mem [] [0]))]
theorem e1o (L : List Lf) : bd Tryz.prog (e1m N) (d0s N).h 100 b8H L = c0Q N (ll L 1) (ls L 2) (fun p => some ([.c (.i .i64 p)], mgA (a0p b8H L).mem [] [0])) := by kernel_rfl
theorem e6p : a0V Tryz.prog 100 b8H (e4b N) :=
 (d0s N).fn a0e (c2v N) fun L x hx => ((e1o N L).trans ((d58 N ..).trans (a1f x hx)))
def d59 : a0f := ext 100 (a2n b8H (e4b N)) (e1m N)
theorem c5I : a0b Tryz.prog (d59 N) := a0V.to (e6p N) (c2v N)
def f0h : List (Nat × List Nat) := [(0, [0, 1]), (1, [0, 1])]
def f0i : a0M := []
def d6a (N : Nat) : Sg Tryz.prog 1 62 := .start f0i f0h
def d27 (v1 : LD) (v2 : LB) (k0 : Bool → Option R) : Option R :=
 bnd (d0t N v1 v2) fun y0 =>
 bif y0.isSome then
  k0 (decide ((y0.getD default) ≥ 0))
 else
  none
def d6b (v1 : LD) (v2 : LB) : Option (Bool) := d27 N v1 v2 (fun p => some p)
theorem e1p (v1 : LD) (v2 : LB) (k0 : Bool → Option R) : d27 N v1 v2 k0 = (d6b N v1 v2).bind k0 := by
 unfold d6b d27
 repeat' (first | with_reducible apply a0k | (with_reducible apply a0y; intro _) | rfl)
def c5J : Sh := { tmps := [(0, .c (.sl 52)), (1, .c (.f 63 [(0, 0)]))], mem := [(0, .box (.s :: rI 7 ([.s, .sl 24])))] }
def f0j (L : List Lf) : List (Bool × Res) := bnd (d27 N (ll L 1) (ls L 2) (fun p => some p)) fun q => [(q.isSome, ([.c (.b (q.getD default))], mgA (a0p c5J L).mem [] [0]))]
theorem e6q (L : List Lf) : bd Tryz.prog (d59 N) (d6a N).h 62 c5J L = d27 N (ll L 1) (ls L 2) (fun p => some ([.c (.b p)], mgA (a0p c5J L).mem [] [0])) := by kernel_rfl
theorem f0k : a0V Tryz.prog 62 c5J (f0j N) :=
 (d6a N).fn a0e (c5I N) fun L x hx => ((e6q N L).trans ((e1p N ..).trans (a1f x hx)))
def e1q : a0f := ext 62 (a2n c5J (f0j N)) (d59 N)
theorem c2x : a0b Tryz.prog (e1q N) := a0V.to (f0k N) (c5I N)
def f0l : List (Nat × List Nat) := [(0, [0]), (1, [0]), (2, []), (3, [0]), (4, [11, 10, 9, 0]), (5, [11, 9, 0, 10]), (6, [4, 0, 3, 11, 10, 9]), (7, [5, 0, 3, 4, 11, 10, 9]), (8, [5]), (9, [0, 3, 4, 11, 10, 9]), (10, []), (11, [11, 10, 9, 0]), (12, [])]
def f0m : a0M := [(12, [0, 9, 10, 11], [], [])]
def d6c (N : Nat) : Sg Tryz.prog 0 35 := .start f0m f0l
def a97 (w1 w3 : LD) (w4 : Int) (w5 : Int) (kr : Int → Option R) (k0 : Int → Option R) (k1 : Unit → Option R) : Option R :=
 bif (decide (w5 < w4)) then
  bif (inB w5 w3.length) then
   bnd (d54 N ((w3.getD w5.toNat (.i 0)).cell 0).toS ((w3.getD w5.toNat (.i 0)).cell 1).toI ((w3.getD w5.toNat (.i 0)).cell 2).toI ((w3.getD w5.toNat (.i 0)).cell 3).toI ((w3.getD w5.toNat (.i 0)).cell 4).toI ((w3.getD w5.toNat (.i 0)).cell 5).toI ((w3.getD w5.toNat (.i 0)).cell 6).toI ((w3.getD w5.toNat (.i 0)).cell 7).toI ((w3.getD w5.toNat (.i 0)).cell 8).toS ((w3.getD w5.toNat (.i 0)).cell 9).isNil ((w3.getD w5.toNat (.i 0)).cell 9).items) fun y0 =>
   bif y0.isSome then
    bif ((y0.getD default) != 0) then
     k0 (y0.getD default)
    else
     bif ((decide (0 ≤ w5)) && (decide (w5 ≤ (w1.length : Int)))) then
      bnd (d6b N ((w1.take w5.toNat).drop 0) ((w3.getD w5.toNat (.i 0)).cell 0).toS) fun y1 =>
      bif y1.isSome then
       bif (y1.getD default) then
        k0 5
       else
        kr (IntKind.wrap .i64 (w5 + 1))
      else
       none
     else
      none
   else
    none
  else
   none
 else
  k1 ()
def b6B (N : Nat) {R : Type} (w1 w3 : LD) (w4 : Int) : Nat → Int → (Int → Option R) → (Unit → Option R) → Option R
 | 0, _, _, _ => none
 | m + 1, w5, k0, k1 => a97 N w1 w3 w4 w5 (fun w5 => b6B N w1 w3 w4 m w5 k0 k1) k0 k1
def c2y (w1 w3 : LD) (w4 : Int) (w5 : Int) : Option (Sum (Int) (Unit)) := b6B N (R := (Sum (Int) (Unit))) w1 w3 w4 N w5 (fun p => some (.inl p)) (fun p => some (.inr p))
def b2A (L x : List Lf) (kr : List Lf → Option R) (k0 : Int → Option R) (k1 : Unit → Option R) : Option R := a97 N (ll L 1) (ll L 3) (li L 4) (li x 0) (fun w5 => kr [.i w5]) k0 k1
theorem c5K (L x : List Lf) (kr : List Lf → Option R) (k0 : Int → Option R) (k1 : Unit → Option R) : b2A N L x kr k0 k1 = (b2A N L x (fun y => some (.inl y)) (fun p => some (.inr (.inl p))) (fun p => some (.inr (.inr p)))).bind (a1m kr (a1m k0 k1)) := by
 unfold b2A a97
 repeat' (first | with_reducible apply a0k | (with_reducible apply a0y; intro _) | rfl)
def b6C (L : List Lf) (m : Nat) (x : List Lf) : Option (Sum (Int) (Unit)) := b6B N (R := (Sum (Int) (Unit))) (ll L 1) (ll L 3) (li L 4) m (li x 0) (fun p => some (.inl p)) (fun p => some (.inr p))
def b2B : Sh := { tmps := [(0, .c (.sl 52)), (9, .c (.sl 52)), (10, .c (.i .i64)), (11, .c (.i .i64))], mem := [] }
def e1r (L : List Lf) : List (Bool × (Ex × St)) := bnd (b6C N L N (pk b2B [5] L)) fun q => [((a04 q), (.ret, ⟨[(2, .c (.i .i64 (a0P q)))], []⟩)), ((a0r q).isSome, ((.exit 0), ⟨[], []⟩))]
theorem c74 (m : Nat) (kn : St → Option (Ex × St)) (L x : List Lf) : lpB Tryz.prog (e1q N) (d6c N).h 0 35 12 b2B [5] [2] [] (m + 100) kn L x = b2A N L x (fun y => kn (a0p b2B (mx b2B [5] L y))) (fun p => some (.ret, ⟨[(2, .c (.i .i64 p))], []⟩)) (fun _ => some ((.exit 0), ⟨[], []⟩)) := by kernel_rfl
theorem d6d (L : List Lf) (m : Nat) (x : List Lf) : b6C N L (m + 1) x = b2A N L x (b6C N L m) (fun p => some (.inl p)) (fun p => some (.inr p)) := by kernel_rfl
def d6e : Sg Tryz.prog 0 35 :=
 (d6c N).lp (e1r N) N a0e (c2x N) (fun m kn L x => (c74 N m kn L x).trans (c5K N L x _ _ _)) (fun L m x => (d6d N L m x).trans (c5K N L x (b6C N L m) (fun p => some (.inl p)) (fun p => some (.inr p)))) fun L x hx => (a4i a1f) x hx
def d28 (v1 : LD) (k0 : Int → Option R) : Option R :=
 bif (decide ((v1.length : Int) > 50)) then
  k0 3
 else
  bnd (c2y N v1 v1 (v1.length : Int) 0) fun y0 =>
  bif (a04 y0) then
   k0 (a0P y0)
  else
   bif (a0r y0).isSome then
    k0 0
   else
    none
def d6f (v1 : LD) : Option (Int) := d28 N v1 (fun p => some p)
theorem e1s (v1 : LD) (k0 : Int → Option R) : d28 N v1 k0 = (d6f N v1).bind k0 := by
 unfold d6f d28
 repeat' (first | with_reducible apply a0k | (with_reducible apply a0y; intro _) | rfl)
def d6g : Sh := { tmps := [(0, .c (.sl 52))], mem := [] }
def f0n (L : List Lf) : List (Bool × Res) := bnd (d28 N (ll L 1) (fun p => some p)) fun q => [(q.isSome, ([.c (.i .i64 (q.getD default))], []))]
theorem e6r (L : List Lf) : bd Tryz.prog (e1q N) (d6e N).h 35 d6g L = d28 N (ll L 1) (fun p => some ([.c (.i .i64 p)], [])) := by kernel_rfl
theorem f0o : a0V Tryz.prog 35 d6g (f0n N) :=
 (d6e N).fn a0e (c2x N) fun L x hx => ((e6r N L).trans ((e1s N ..).trans (a1f x hx)))
def d6h : a0f := ext 35 (a2n d6g (f0n N)) (e1q N)
theorem b6D : a0b Tryz.prog (d6h N) := a0V.to (f0o N) (c2x N)
def f0p : List (Nat × List Nat) := [(0, [0]), (1, [1]), (3, [1]), (5, [1]), (6, []), (4, []), (2, []), (7, [1]), (8, [32, 31, 30, 1]), (9, [30, 32, 31, 1]), (10, [4, 32, 31, 30, 1]), (11, []), (12, [32, 31, 30, 1]), (13, [1]), (14, []), (15, [1]), (16, [47, 46, 45, 1]), (17, [47, 45, 1, 46]), (18, [6, 5, 1, 47, 46, 45]), (20, [5, 6, 1, 47, 46, 45]), (21, []), (19, []), (22, [47, 46, 45, 1]), (23, [])]
def f0q : a0M := [(24, [1, 30, 31, 32], [1, 30], []), (48, [1, 45, 46, 47], [1], [])]
def d6i (N : Nat) : Sg Tryz.prog 0 41 := .start f0q f0p
def b6E (w0 : Int) (w12 : LD) (w1 : Int) (kr : Int → Option R) (k0 : Unit → Option R) (k1 : Unit → Option R) : Option R :=
 bif (decide (w1 < w0)) then
  bif (inB w1 w12.length) then
   bif (decide (w1.toNat < w12.length)) then
    bnd (a6r N (w12.getD w1.toNat (.i 0)).toI 0 10000000000000) fun y0 =>
    bif (!y0) then
     k0 ()
    else
     kr (IntKind.wrap .i64 (w1 + 1))
   else
    none
  else
   none
 else
  k1 ()
def b2C (N : Nat) {R : Type} (w0 : Int) (w12 : LD) : Nat → Int → (Unit → Option R) → (Unit → Option R) → Option R
 | 0, _, _, _ => none
 | m + 1, w1, k0, k1 => b6E N w0 w12 w1 (fun w1 => b2C N w0 w12 m w1 k0 k1) k0 k1
def c2z (w0 : Int) (w12 : LD) (w1 : Int) : Option (Sum (Unit) (Unit)) := b2C N (R := (Sum (Unit) (Unit))) w0 w12 N w1 (fun p => some (.inl p)) (fun p => some (.inr p))
def b2D (L x : List Lf) (kr : List Lf → Option R) (k0 : Unit → Option R) (k1 : Unit → Option R) : Option R := b6E N (li L 0) (ll L 12) (li x 0) (fun w1 => kr [.i w1]) k0 k1
theorem c5L (L x : List Lf) (kr : List Lf → Option R) (k0 : Unit → Option R) (k1 : Unit → Option R) : b2D N L x kr k0 k1 = (b2D N L x (fun y => some (.inl y)) (fun p => some (.inr (.inl p))) (fun p => some (.inr (.inr p)))).bind (a1m kr (a1m k0 k1)) := by
 unfold b2D b6E
 repeat' (first | with_reducible apply a0k | (with_reducible apply a0y; intro _) | rfl)
def b6F (L : List Lf) (m : Nat) (x : List Lf) : Option (Sum (Unit) (Unit)) := b2C N (R := (Sum (Unit) (Unit))) (li L 0) (ll L 12) m (li x 0) (fun p => some (.inl p)) (fun p => some (.inr p))
def a5T : Sh := { tmps := [(1, .c (.p 1 0)), (30, .c (.o 30)), (31, .c (.i .i64)), (32, .c (.i .i64))], mem := [(1, .box (.s :: rI 6 ([.sl 9]))), (30, .row 3 true)] }
def c0R (L : List Lf) (_ : Unit) : Ex × St := (.ret, mg (a0p a5T L) [2] [(2, .c (.i .i64 9))] [1] [])
def e1t (L : List Lf) : List (Bool × (Ex × St)) := bnd (b6F N L N (pk a5T [1] L)) fun q => [((a04 q), c0R L ()), ((a0r q).isSome, ((.exit 1), mg (a0p a5T L) [1] [] [1] []))]
theorem c75 (m : Nat) (kn : St → Option (Ex × St)) (L x : List Lf) : lpB Tryz.prog (d6h N) (d6i N).h 0 41 24 a5T [1] [1, 2] [1] (m + 100) kn L x = b2D N L x (fun y => kn (a0p a5T (mx a5T [1] L y))) (fun _ => some (c0R L ())) (fun _ => some ((.exit 1), mg (a0p a5T L) [1] [] [1] [])) := by kernel_rfl
theorem d6j (L : List Lf) (m : Nat) (x : List Lf) : b6F N L (m + 1) x = b2D N L x (b6F N L m) (fun p => some (.inl p)) (fun p => some (.inr p)) := by kernel_rfl
def d6k : Sg Tryz.prog 0 41 :=
 (d6i N).lp (e1t N) N a0e (b6D N) (fun m kn L x => (c75 N m kn L x).trans (c5L N L x _ _ _)) (fun L m x => (d6j N L m x).trans (c5L N L x (b6F N L m) (fun p => some (.inl p)) (fun p => some (.inr p)))) fun L x hx => (a4i a1f) x hx
def a98 (w1 : LD) (w2 : Int) (w12 : LD) (w3 : Int) (kr : Int → Option R) (k0 : Int → Option R) (k1 : Unit → Option R) : Option R :=
 bif (decide (w3 < w2)) then
  bif (inB w3 w1.length) then
   bnd (c5v N (w1.getD w3.toNat (.i 0)).toS) fun y0 =>
   bif y0.isSome then
    bif (!(y0.getD default)) then
     k0 8
    else
     bif (bif (inB (IntKind.wrap .i64 (w3 - 1)) w12.length) then true else (!((decide (w3 > 0)) == true))) then
      bnd (bif (decide (w3 > 0)) then ((Op.bytesLess (w1.getD w3.toNat (.i 0)).toS (w12.getD (IntKind.wrap .i64 (w3 - 1)).toNat (.i 0)).toS) || ((w1.getD w3.toNat (.i 0)).toS == (w12.getD (IntKind.wrap .i64 (w3 - 1)).toNat (.i 0)).toS)) else false) fun y1 =>
      bif y1 then
       k0 10
      else
       kr (IntKind.wrap .i64 (w3 + 1))
     else
      none
   else
    none
  else
   none
 else
  k1 ()
def b6G (N : Nat) {R : Type} (w1 : LD) (w2 : Int) (w12 : LD) : Nat → Int → (Int → Option R) → (Unit → Option R) → Option R
 | 0, _, _, _ => none
 | m + 1, w3, k0, k1 => a98 N w1 w2 w12 w3 (fun w3 => b6G N w1 w2 w12 m w3 k0 k1) k0 k1
def c2A (w1 : LD) (w2 : Int) (w12 : LD) (w3 : Int) : Option (Sum (Int) (Unit)) := b6G N (R := (Sum (Int) (Unit))) w1 w2 w12 N w3 (fun p => some (.inl p)) (fun p => some (.inr p))
def b2E (L x : List Lf) (kr : List Lf → Option R) (k0 : Int → Option R) (k1 : Unit → Option R) : Option R := a98 N (ll L 1) (li L 2) (ll L 12) (li x 0) (fun w3 => kr [.i w3]) k0 k1
theorem c5M (L x : List Lf) (kr : List Lf → Option R) (k0 : Int → Option R) (k1 : Unit → Option R) : b2E N L x kr k0 k1 = (b2E N L x (fun y => some (.inl y)) (fun p => some (.inr (.inl p))) (fun p => some (.inr (.inr p)))).bind (a1m kr (a1m k0 k1)) := by
 unfold b2E a98
 repeat' (first | with_reducible apply a0k | (with_reducible apply a0y; intro _) | rfl)
def b6H (L : List Lf) (m : Nat) (x : List Lf) : Option (Sum (Int) (Unit)) := b6G N (R := (Sum (Int) (Unit))) (ll L 1) (li L 2) (ll L 12) m (li x 0) (fun p => some (.inl p)) (fun p => some (.inr p))
def b2F : Sh := { tmps := [(1, .c (.p 1 0)), (45, .c (.sl 9)), (46, .c (.i .i64)), (47, .c (.i .i64))], mem := [(1, .box (.s :: rI 6 ([.sl 9])))] }
def e1u (L : List Lf) : List (Bool × (Ex × St)) := bnd (b6H N L N (pk b2F [3] L)) fun q => [((a04 q), (.ret, ⟨[(2, .c (.i .i64 (a0P q)))], []⟩)), ((a0r q).isSome, ((.exit 3), ⟨[], []⟩))]
theorem c76 (m : Nat) (kn : St → Option (Ex × St)) (L x : List Lf) : lpB Tryz.prog (d6h N) (d6k N).h 0 41 48 b2F [3] [2] [] (m + 100) kn L x = b2E N L x (fun y => kn (a0p b2F (mx b2F [3] L y))) (fun p => some (.ret, ⟨[(2, .c (.i .i64 p))], []⟩)) (fun _ => some ((.exit 3), ⟨[], []⟩)) := by kernel_rfl
theorem d6l (L : List Lf) (m : Nat) (x : List Lf) : b6H N L (m + 1) x = b2E N L x (b6H N L m) (fun p => some (.inl p)) (fun p => some (.inr p)) := by kernel_rfl
def d6m : Sg Tryz.prog 0 41 :=
 (d6k N).lp (e1u N) N a0e (b6D N) (fun m kn L x => (c76 N m kn L x).trans (c5M N L x _ _ _)) (fun L m x => (d6l N L m x).trans (c5M N L x (b6H N L m) (fun p => some (.inl p)) (fun p => some (.inr p)))) fun L x hx => (a4i a1f) x hx
def d6n (v0 : LB) (v1 v2 v3 v4 v5 v6 : Int) (v8 : LD) (k0 : Int → Option R) : Option R :=
 bnd (c5v N v0) fun y0 =>
 bif y0.isSome then
  bif (!(y0.getD default)) then
   k0 8
  else
   bnd (a6r N v1 1 5) fun y1 =>
   bif (!y1) then
    k0 7
   else
    bnd (a6r N v2 0 86399999999) fun y2 =>
    bif (!y2) then
     k0 9
    else
     bnd (c2z N 4 [(.i v3), (.i v4), (.i v5), (.i v6)] 0) fun y3 =>
     bif (a04 y3) then
      k0 9
     else
      bif (a0r y3).isSome then
       bif (decide ((v8.length : Int) > 20)) then
        k0 3
       else
        bnd (c2A N v8 (v8.length : Int) v8 0) fun y4 =>
        bif (a04 y4) then
         k0 (a0P y4)
        else
         bif (a0r y4).isSome then
          k0 0
         else
          none
      else
       none
 else
  none
def d6o (v0 : LB) (v1 v2 v3 v4 v5 v6 : Int) (v8 : LD) : Option (Int) := d6n N v0 v1 v2 v3 v4 v5 v6 v8 (fun p => some p)
theorem e1v (v0 : LB) (v1 v2 v3 v4 v5 v6 : Int) (v8 : LD) (k0 : Int → Option R) : d6n N v0 v1 v2 v3 v4 v5 v6 v8 k0 = (d6o N v0 v1 v2 v3 v4 v5 v6 v8).bind k0 := by
 unfold d6o d6n
 repeat' (first | with_reducible apply a0k | (with_reducible apply a0y; intro _) | rfl)
def f0r (L : List Lf) (k0 : Int → Option R) : Option R := d6n N (ls L 0) (li L 1) (li L 2) (li L 3) (li L 4) (li L 5) (li L 6) (ll L 8) k0
def d6p : Sh := { tmps := [(0, .g (.s :: rI 6 ([.sl 9])))], mem := [] }
def f0s (L : List Lf) : List (Bool × Res) := bnd (f0r N L (fun p => some p)) fun q => [(q.isSome, ([.c (.i .i64 (q.getD default))], []))]
theorem e6s (L : List Lf) : bd Tryz.prog (d6h N) (d6m N).h 41 d6p L = f0r N L (fun p => some ([.c (.i .i64 p)], [])) := by kernel_rfl
theorem f0t : a0V Tryz.prog 41 d6p (f0s N) :=
 (d6m N).fn a0e (b6D N) fun L x hx => ((e6s N L).trans ((e1v N ..).trans (a1f x hx)))
def e1w : a0f := ext 41 (a2n d6p (f0s N)) (d6h N)
theorem c2B : a0b Tryz.prog (e1w N) := a0V.to (f0t N) (b6D N)
def f0u : List (Nat × List Nat) := [(0, [0]), (1, [0]), (2, []), (3, [0]), (4, [0, 3]), (5, [13, 12, 11, 3]), (6, [11, 13, 3, 12]), (7, [5, 3, 13, 12, 11]), (8, [6, 3, 5, 13, 12, 11]), (9, [6]), (10, [3, 5, 13, 12, 11]), (11, []), (12, [3, 5, 13, 12, 11]), (13, [13, 12, 11, 3]), (14, [])]
def f0v : a0M := [(15, [3, 11, 12, 13], [10], [])]
def d6q (N : Nat) : Sg Tryz.prog 0 23 := .start f0v f0u
def a99 (w1 : LD) (w2 : Int) (w3 : Int) (w4 : (List (D × D))) (kr : Int → (List (D × D)) → Option R) (k0 : Int → Option R) (k1 : Unit → Option R) : Option R :=
 bif (decide (w3 < w2)) then
  bif (inB w3 w1.length) then
   bnd (d6o N ((w1.getD w3.toNat (.i 0)).cell 0).toS ((w1.getD w3.toNat (.i 0)).cell 1).toI ((w1.getD w3.toNat (.i 0)).cell 2).toI ((w1.getD w3.toNat (.i 0)).cell 3).toI ((w1.getD w3.toNat (.i 0)).cell 4).toI ((w1.getD w3.toNat (.i 0)).cell 5).toI ((w1.getD w3.toNat (.i 0)).cell 6).toI ((w1.getD w3.toNat (.i 0)).cell 7).items) fun y0 =>
   bif y0.isSome then
    bif ((y0.getD default) != 0) then
     k0 (y0.getD default)
    else
     bnd ((b0F Tryz.prog 9 (.s ((w1.getD w3.toNat (.i 0)).cell 0).toS) w4).getD (.b false)).toB fun y1 =>
     bif y1 then
      k0 5
     else
      bnd (e0f Tryz.prog 9 (.s ((w1.getD w3.toNat (.i 0)).cell 0).toS) (.b true) w4) fun y2 =>
      kr (IntKind.wrap .i64 (w3 + 1)) y2
   else
    none
  else
   none
 else
  k1 ()
def b6I (N : Nat) {R : Type} (w1 : LD) (w2 : Int) : Nat → Int → (List (D × D)) → (Int → Option R) → (Unit → Option R) → Option R
 | 0, _, _, _, _ => none
 | m + 1, w3, w4, k0, k1 => a99 N w1 w2 w3 w4 (fun w3 w4 => b6I N w1 w2 m w3 w4 k0 k1) k0 k1
def c2C (w1 : LD) (w2 : Int) (w3 : Int) (w4 : (List (D × D))) : Option (Sum (Int) (Unit)) := b6I N (R := (Sum (Int) (Unit))) w1 w2 N w3 w4 (fun p => some (.inl p)) (fun p => some (.inr p))
def b2G (L x : List Lf) (kr : List Lf → Option R) (k0 : Int → Option R) (k1 : Unit → Option R) : Option R := a99 N (ll L 1) (li L 2) (li x 0) (lm x 1) (fun w3 w4 => kr [.i w3, .m w4]) k0 k1
theorem c5N (L x : List Lf) (kr : List Lf → Option R) (k0 : Int → Option R) (k1 : Unit → Option R) : b2G N L x kr k0 k1 = (b2G N L x (fun y => some (.inl y)) (fun p => some (.inr (.inl p))) (fun p => some (.inr (.inr p)))).bind (a1m kr (a1m k0 k1)) := by
 unfold b2G a99
 repeat' (first | with_reducible apply a0k | (with_reducible apply a0y; intro _) | rfl)
def b6J (L : List Lf) (m : Nat) (x : List Lf) : Option (Sum (Int) (Unit)) := b6I N (R := (Sum (Int) (Unit))) (ll L 1) (li L 2) m (li x 0) (lm x 1) (fun p => some (.inl p)) (fun p => some (.inr p))
def b2H : Sh := { tmps := [(3, .c (.m 10)), (11, .c (.sl 40)), (12, .c (.i .i64)), (13, .c (.i .i64))], mem := [(10, .map 9 4)] }
def e1x (L : List Lf) : List (Bool × (Ex × St)) := bnd (b6J N L N (pk b2H [3, 4] L)) fun q => [((a04 q), (.ret, ⟨[(2, .c (.i .i64 (a0P q)))], []⟩)), ((a0r q).isSome, ((.exit 0), ⟨[], []⟩))]
theorem c77 (m : Nat) (kn : St → Option (Ex × St)) (L x : List Lf) : lpB Tryz.prog (e1w N) (d6q N).h 0 23 15 b2H [3, 4] [2] [] (m + 100) kn L x = b2G N L x (fun y => kn (a0p b2H (mx b2H [3, 4] L y))) (fun p => some (.ret, ⟨[(2, .c (.i .i64 p))], []⟩)) (fun _ => some ((.exit 0), ⟨[], []⟩)) := by kernel_rfl
theorem d6r (L : List Lf) (m : Nat) (x : List Lf) : b6J N L (m + 1) x = b2G N L x (b6J N L m) (fun p => some (.inl p)) (fun p => some (.inr p)) := by kernel_rfl
def d6s : Sg Tryz.prog 0 23 :=
 (d6q N).lp (e1x N) N a0e (c2B N) (fun m kn L x => (c77 N m kn L x).trans (c5N N L x _ _ _)) (fun L m x => (d6r N L m x).trans (c5N N L x (b6J N L m) (fun p => some (.inl p)) (fun p => some (.inr p)))) fun L x hx => (a4i a1f) x hx
def d29 (v1 : LD) (k0 : Int → Option R) : Option R :=
 bif (decide ((v1.length : Int) > 5000)) then
  k0 3
 else
  bnd (c2C N v1 (v1.length : Int) 0 []) fun y0 =>
  bif (a04 y0) then
   k0 (a0P y0)
  else
   bif (a0r y0).isSome then
    k0 0
   else
    none
def d6t (v1 : LD) : Option (Int) := d29 N v1 (fun p => some p)
theorem e1y (v1 : LD) (k0 : Int → Option R) : d29 N v1 k0 = (d6t N v1).bind k0 := by
 unfold d6t d29
 repeat' (first | with_reducible apply a0k | (with_reducible apply a0y; intro _) | rfl)
def d6u : Sh := { tmps := [(0, .c (.sl 40))], mem := [] }
def f0w (L : List Lf) : List (Bool × Res) := bnd (d29 N (ll L 1) (fun p => some p)) fun q => [(q.isSome, ([.c (.i .i64 (q.getD default))], []))]
theorem e6t (L : List Lf) : bd Tryz.prog (e1w N) (d6s N).h 23 d6u L = d29 N (ll L 1) (fun p => some ([.c (.i .i64 p)], [])) := by kernel_rfl
theorem f0x : a0V Tryz.prog 23 d6u (f0w N) :=
 (d6s N).fn a0e (c2B N) fun L x hx => ((e6t N L).trans ((e1y N ..).trans (a1f x hx)))
def e1z : a0f := ext 23 (a2n d6u (f0w N)) (e1w N)
theorem c2D : a0b Tryz.prog (e1z N) := a0V.to (f0x N) (c2B N)
def f0y : List (Nat × List Nat) := [(0, [0]), (1, [0]), (2, [0, 3]), (3, [8, 7, 6, 3]), (4, [6, 8, 3, 7]), (5, [5, 3, 8, 7, 6]), (6, [5]), (7, [8, 7, 6, 3]), (8, [3])]
def f0z : a0M := [(9, [3, 6, 7, 8], [], [])]
def d6v (N : Nat) : Sg Tryz.prog 0 22 := .start f0z f0y
def c2E (N : Nat) (w0 : Int) (w2 : LD) (w3 : Int) (w4 : Int) (kr : Int → Option R) (k0 : Int → Option R) (k1 : Unit → Option R) : Option R :=
 bif (decide (w4 < w3)) then
  bif (inB w4 w2.length) then
   bif ((w2.getD w4.toNat (.i 0)).toI != w0) then
    k0 (w2.getD w4.toNat (.i 0)).toI
   else
    kr (IntKind.wrap .i64 (w4 + 1))
  else
   none
 else
  k1 ()
def b8I (N : Nat) {R : Type} (w0 : Int) (w2 : LD) (w3 : Int) : Nat → Int → (Int → Option R) → (Unit → Option R) → Option R
 | 0, _, _, _ => none
 | m + 1, w4, k0, k1 => c2E N w0 w2 w3 w4 (fun w4 => b8I N w0 w2 w3 m w4 k0 k1) k0 k1
def d6w (w0 : Int) (w2 : LD) (w3 : Int) (w4 : Int) : Option (Sum (Int) (Unit)) := b8I N (R := (Sum (Int) (Unit))) w0 w2 w3 N w4 (fun p => some (.inl p)) (fun p => some (.inr p))
def b8J (L x : List Lf) (kr : List Lf → Option R) (k0 : Int → Option R) (k1 : Unit → Option R) : Option R := c2E N (li L 0) (ll L 2) (li L 3) (li x 0) (fun w4 => kr [.i w4]) k0 k1
theorem d0u (L x : List Lf) (kr : List Lf → Option R) (k0 : Int → Option R) (k1 : Unit → Option R) : b8J N L x kr k0 k1 = (b8J N L x (fun y => some (.inl y)) (fun p => some (.inr (.inl p))) (fun p => some (.inr (.inr p)))).bind (a1m kr (a1m k0 k1)) := by
 unfold b8J c2E
 repeat' (first | with_reducible apply a0k | (with_reducible apply a0y; intro _) | rfl)
def c2F (L : List Lf) (m : Nat) (x : List Lf) : Option (Sum (Int) (Unit)) := b8I N (R := (Sum (Int) (Unit))) (li L 0) (ll L 2) (li L 3) m (li x 0) (fun p => some (.inl p)) (fun p => some (.inr p))
def b0a : Sh := { tmps := [(3, .c (.i .i64)), (6, .c (.sl 30)), (7, .c (.i .i64)), (8, .c (.i .i64))], mem := [] }
def e6u (L : List Lf) : List (Bool × (Ex × St)) := bnd (c2F N L N (pk b0a [4] L)) fun q => [((a04 q), (.ret, ⟨[(2, .c (.i .i64 (a0P q)))], []⟩)), ((a0r q).isSome, ((.exit 0), mg (a0p b0a L) [3] [] [] []))]
theorem d3a (m : Nat) (kn : St → Option (Ex × St)) (L x : List Lf) : lpB Tryz.prog (e1z N) (d6v N).h 0 22 9 b0a [4] [2, 3] [] (m + 100) kn L x = b8J N L x (fun y => kn (a0p b0a (mx b0a [4] L y))) (fun p => some (.ret, ⟨[(2, .c (.i .i64 p))], []⟩)) (fun _ => some ((.exit 0), mg (a0p b0a L) [3] [] [] [])) := by kernel_rfl
theorem e1A (L : List Lf) (m : Nat) (x : List Lf) : c2F N L (m + 1) x = b8J N L x (c2F N L m) (fun p => some (.inl p)) (fun p => some (.inr p)) := by kernel_rfl
def d6x : Sg Tryz.prog 0 22 :=
 (d6v N).lp (e6u N) N a0e (c2D N) (fun m kn L x => (d3a N m kn L x).trans (d0u N L x _ _ _)) (fun L m x => (e1A N L m x).trans (d0u N L x (c2F N L m) (fun p => some (.inl p)) (fun p => some (.inr p)))) fun L x hx => (a4i a1f) x hx
def d3b (v1 : LD) (k0 : Int → Option R) : Option R :=
 bnd (d6w N 0 v1 (v1.length : Int) 0) fun y0 =>
 bif (a04 y0) then
  k0 (a0P y0)
 else
  bif (a0r y0).isSome then
   k0 0
  else
   none
def d6y (v1 : LD) : Option (Int) := d3b N v1 (fun p => some p)
theorem e1B (v1 : LD) (k0 : Int → Option R) : d3b N v1 k0 = (d6y N v1).bind k0 := by
 unfold d6y d3b
 repeat' (first | with_reducible apply a0k | (with_reducible apply a0y; intro _) | rfl)
def d6z : Sh := { tmps := [(0, .c (.sl 30))], mem := [] }
def f0A (L : List Lf) : List (Bool × Res) := bnd (d3b N (ll L 1) (fun p => some p)) fun q => [(q.isSome, ([.c (.i .i64 (q.getD default))], []))]
theorem e6v (L : List Lf) : bd Tryz.prog (e1z N) (d6x N).h 22 d6z L = d3b N (ll L 1) (fun p => some ([.c (.i .i64 p)], [])) := by kernel_rfl
theorem f0B : a0V Tryz.prog 22 d6z (f0A N) :=
 (d6x N).fn a0e (c2D N) fun L x hx => ((e6v N L).trans ((e1B N ..).trans (a1f x hx)))
def e6w : a0f := ext 22 (a2n d6z (f0A N)) (e1z N)
theorem d0v : a0b Tryz.prog (e6w N) := a0V.to (f0B N) (c2D N)
def f0C : List (Nat × List Nat) := [(0, [0]), (1, [1])]
def f0D : a0M := []
def d6A (N : Nat) : Sg Tryz.prog 0 65 := .start f0D f0C
def e1C (N : Nat) (k0 : Unit → R) : R :=
 k0 ()
def f0E : Unit := e1C N (fun p => p)
theorem e6x (k0 : Unit → R) : e1C N k0 = k0 (f0E N) := by
 unfold f0E e1C
 repeat' (first | rfl | apply a0q | (apply a0K; intro _))
def d6B : Sh := { tmps := [(0, .c (.sl 40))], mem := [] }
def d6C (L : List Lf) (_ : Unit) : Res := ([.c (.f 103 [(1, 0)])], [(1, .box [.sl 40 (lb L 0) (ll L 1)])])
def f0F (N : Nat) (L : List Lf) : List (Bool × Res) := [(true, d6C L ())]
theorem e6y (L : List Lf) : bd Tryz.prog (e6w N) (d6A N).h 65 d6B L = e1C N (fun _ => some (d6C L ())) := by kernel_rfl
theorem f0G : a0V Tryz.prog 65 d6B (f0F N) :=
 (d6A N).fn a0e (d0v N) fun L x hx => ((e6y N L).trans ((e6x N ..).trans (a2f _ _ hx)))
def d3c : a0f := ext 65 (a2n d6B (f0F N)) (e6w N)
theorem b2I : a0b Tryz.prog (d3c N) := a0V.to (f0G N) (d0v N)
def a4w (N : Nat) : a2g := rfY (a2V Tryz.prog 146 600000007) [] 2 13
def a2B : a2g := { (a4w N) with tm := [(2, .c (.p 1 0))] }
def e6z : List (Nat × List Nat) := [(0, [1, 0]), (1, [7, 6, 5, 0]), (2, [5, 7, 0, 6]), (3, [0, 4, 7, 6, 5]), (4, [7, 6, 5, 0])]
def e6A : a0M := [(3, [0, 5, 6, 7], [0, 1, 2, 50001003], [50001000]), (10, [0, 4, 5, 6, 7], [0, 1, 2, 7, 50001003], [])]
def e1D : Sg Tryz.prog 3 103 (c7d ((a2B N))) := .start e6A e6z
def a9b (N : Nat) (w8 : LB) (w9 w10 w11 w12 w13 w14 : Int) (w15 : Bool) (w16 w18 : LD) (k0 : LD → Option R) : Option R :=
 bif (decide ((w18.length + 1) * 88 ≤ b1h) && decide ((w18.length + 1) ≤ a0U)) then
  bnd ((w18 ++ [(.a [(.s w8), (.i w9), (.i w10), (.i w11), (.i w12), (.i w13), (.i w14), (.l w15 w16)])]) : List D) fun y0 =>
  k0 y0
 else
  none
def a9c (w8 : LB) (w9 w10 w11 w12 w13 w14 : Int) (w15 : Bool) (w16 w18 : LD) : Option (LD) := a9b N w8 w9 w10 w11 w12 w13 w14 w15 w16 w18 (fun p => some p)
theorem c5O (w8 : LB) (w9 w10 w11 w12 w13 w14 : Int) (w15 : Bool) (w16 w18 : LD) (k0 : LD → Option R) : a9b N w8 w9 w10 w11 w12 w13 w14 w15 w16 w18 k0 = (a9c N w8 w9 w10 w11 w12 w13 w14 w15 w16 w18).bind k0 := by
 unfold a9c a9b
 repeat' (first | with_reducible apply a0k | (with_reducible apply a0y; intro _) | rfl)
def c5P (L : List Lf) (k0 : LD → Option R) : Option R := a9b N (ls L 8) (li L 9) (li L 10) (li L 11) (li L 12) (li L 13) (li L 14) (lb L 15) (ll L 16) (ll L 18) k0
def c0S : Sh := { tmps := [(0, .c (.y 2)), (4, .c (.p 7 0)), (5, .c (.sl 40)), (6, .c (.i .i64)), (7, .c (.i .i64))], mem := [(0, .box ([.sl 40])), (1, .box ([.o 50001003])), (2, .row 3 true), (7, .box (.s :: rI 6 ([.sl 9]))), (50001003, .row 40 true)] }
def b8K (L : List Lf) (p : LD) : Ex × St := (.normal, mg (a0p c0S L) [0, 5, 6, 7, 14] [(14, .c (.b false))] [0, 1, 2, 14000000014] [(1, .box [.o 14000000014]), (14000000014, .row 40 true false p)])
def d6D (L : List Lf) : List (Bool × (Ex × St)) := bnd (c5P N L (fun p => some p)) fun q => [(q.isSome, b8K L (q.getD default))]
theorem c78 (L : List Lf) : pcY Tryz.prog (d3c N) 3 ((a2B N)) 103 10 c0S L [0, 5, 6, 7, 14] [0, 1, 2, 14000000014] = c5P N L (fun p => some (b8K L p)) := by kernel_rfl
def d0w : Sg Tryz.prog 3 103 (c7d ((a2B N))) :=
 (e1D N).cutY (d6D N) a0e (b2I N) (e9y (by kernel_rfl)) fun L x hx => (c78 N L).trans ((c5O N ..).trans (a1f x hx))
def b0b (w1 : LD) (w2 : Int) (w3 : Int) (w8 : Bool) (w9 : LD) (kr : Int → Bool → LD → Option R) (k0 : Bool × LD → Option R) : Option R :=
 bif (decide (w3 < w2)) then
  bif (inB w3 w1.length) then
   bnd (a9c N ((w1.getD w3.toNat (.i 0)).cell 0).toS ((w1.getD w3.toNat (.i 0)).cell 1).toI ((w1.getD w3.toNat (.i 0)).cell 2).toI ((w1.getD w3.toNat (.i 0)).cell 3).toI ((w1.getD w3.toNat (.i 0)).cell 4).toI ((w1.getD w3.toNat (.i 0)).cell 5).toI ((w1.getD w3.toNat (.i 0)).cell 6).toI ((w1.getD w3.toNat (.i 0)).cell 7).isNil ((w1.getD w3.toNat (.i 0)).cell 7).items w9) fun y0 =>
   bif y0.isSome then
    kr (IntKind.wrap .i64 (w3 + 1)) false (y0.getD default)
   else
    none
  else
   none
 else
  k0 (w8, w9)
def b6K (N : Nat) {R : Type} (w1 : LD) (w2 : Int) : Nat → Int → Bool → LD → (Bool × LD → Option R) → Option R
 | 0, _, _, _, _ => none
 | m + 1, w3, w8, w9, k0 => b0b N w1 w2 w3 w8 w9 (fun w3 w8 w9 => b6K N w1 w2 m w3 w8 w9 k0) k0
def c2G (w1 : LD) (w2 : Int) (w3 : Int) (w8 : Bool) (w9 : LD) : Option (Bool × LD) := b6K N (R := (Bool × LD)) w1 w2 N w3 w8 w9 (fun p => some p)
def b2J (L x : List Lf) (kr : List Lf → Option R) (k0 : Bool × LD → Option R) : Option R := b0b N (ll L 1) (li L 2) (li x 0) (lb x 1) (ll x 2) (fun w3 w8 w9 => kr [.i w3, .b w8, .l w9]) k0
theorem c5Q (L x : List Lf) (kr : List Lf → Option R) (k0 : Bool × LD → Option R) : b2J N L x kr k0 = (b2J N L x (fun y => some (.inl y)) (fun p => some (.inr p))).bind (a1m kr k0) := by
 unfold b2J b0b
 repeat' (first | with_reducible apply a0k | (with_reducible apply a0y; intro _) | rfl)
def b6L (L : List Lf) (m : Nat) (x : List Lf) : Option (Bool × LD) := b6K N (R := (Bool × LD)) (ll L 1) (li L 2) m (li x 0) (lb x 1) (ll x 2) (fun p => some p)
def a9d : Sh := { tmps := [(0, .c (.y 2)), (5, .c (.sl 40)), (6, .c (.i .i64)), (7, .c (.i .i64))], mem := [(0, .box ([.sl 40])), (1, .box ([.o 50001003])), (2, .row 3 true), (50001003, .row 40 true)] }
def c0T (L : List Lf) (p : Bool × LD) : Ex × St := ((.exit 0), mg (a0p a9d L) [] [] [0, 1, 2, 50001003] [(50001003, .row 40 true p.1 p.2)])
def e1E (L : List Lf) : List (Bool × (Ex × St)) := bnd (b6L N L N (pk a9d [3, 8, 9] L)) fun q => [(q.isSome, c0T L (q.getD default))]
theorem c79 (m : Nat) (kn : St → Option (Ex × St)) (L x : List Lf) : lpB Tryz.prog (d3c N) (d0w N).h 3 103 3 a9d [3, 8, 9] [] [0, 1, 2, 50001003] (m + 100) kn L x = b2J N L x (fun y => kn (a0p a9d (mx a9d [3, 8, 9] L y))) (fun p => some (c0T L p)) := by kernel_rfl
theorem d6E (L : List Lf) (m : Nat) (x : List Lf) : b6L N L (m + 1) x = b2J N L x (b6L N L m) some := by kernel_rfl
def d0x : Sg Tryz.prog 3 103 (c7d ((a2B N))) :=
 (d0w N).lp (e1E N) N a0e (b2I N) (fun m kn L x => (c79 N m kn L x).trans (c5Q N L x _ _)) (fun L m x => (d6E N L m x).trans (c5Q N L x (b6L N L m) some)) fun L x hx => a1f x hx
def c0U (v1 : LD) (k0 : Bool × LD → Option R) : Option R :=
 bnd (c2G N v1 (v1.length : Int) 0 true []) fun y0 =>
 bif y0.isSome then
  k0 (y0.getD default)
 else
  none
def d0y (v1 : LD) : Option (Bool × LD) := c0U N v1 (fun p => some p)
theorem d6F (v1 : LD) (k0 : Bool × LD → Option R) : c0U N v1 k0 = (d0y N v1).bind k0 := by
 unfold d0y c0U
 repeat' (first | with_reducible apply a0k | (with_reducible apply a0y; intro _) | rfl)
def c2H : Sh := { tmps := [(0, .c (.y 2)), (1, .c (.p 0 0)), (2, .c (.p 1 0))], mem := [(0, .box ([.sl 40])), (1, .box ([.nsl 40])), (2, .row 3 true)] }
def d0z (L : List Lf) (p : Bool × LD) : Res := ([], mgA (a0p c2H L).mem [(1, .box [.o 50001003]), (50001003, .row 40 true p.1 p.2)] [0, 1, 2, 50001003])
def e4c (L : List Lf) : List (Bool × Res) := bnd (c0U N (ll L 1) (fun p => some p)) fun q => [(q.isSome, d0z L (q.getD default))]
theorem e1F (L : List Lf) : bdY Tryz.prog (d3c N) ((d0x N)).h 103 2 c2H L = c0U N (ll L 1) (fun p => some (d0z L p)) := by kernel_rfl
theorem e6B : e5R (a4w N) Tryz.prog 103 2 c2H (e4c N) :=
 Sg.fnY (fun L => (a2B N)) (fun L => (d0x N)) (fun L => by kernel_rfl) a0e (b2I N) fun L x hx => ((e1F N L).trans ((d6F N ..).trans (a1f x hx)))
def e6C : List (Nat × List Nat) := [(0, [0, 1]), (1, [1, 2]), (4, [2])]
def e6D : a0M := [(600000007, [2, 6], [0, 3], [])]
def e1G (N : Nat) : Sg Tryz.prog 1 146 := .start e6D e6C true
def a1C (w1 : LD) (k0 : Bool × LD → Option R) : Option R :=
 bnd (d0y N w1) fun y0 =>
 bif y0.isSome then
  k0 (y0.getD default)
 else
  none
def a3y (w1 : LD) : Option (Bool × LD) := a1C N w1 (fun p => some p)
theorem b1D (w1 : LD) (k0 : Bool × LD → Option R) : a1C N w1 k0 = (a3y N w1).bind k0 := by
 unfold a3y a1C
 repeat' (first | with_reducible apply a0k | (with_reducible apply a0y; intro _) | rfl)
def b4x : Sh := { tmps := [(2, .c (.p 3 0)), (6, .c (.f 103 [(0, 0)]))], mem := [(0, .box ([.sl 40])), (3, .box ([.nsl 40]))] }
def a6C (L : List Lf) (p : Bool × LD) : Ex × St := (.normal, ⟨[(2, .c (.p 3 0))], [(0, .box [.sl 40 (lb L 0) (ll L 1)]), (3, .box [.o 1000000050001004]), (1000000050001004, .row 40 true p.1 p.2)]⟩)
def b5X (L : List Lf) : List (Bool × (Ex × St)) := bnd (a1C N (ll L 1) (fun p => some p)) fun q => [(q.isSome, a6C L (q.getD default))]
theorem b2K (L : List Lf) : pcR Tryz.prog (a4w N) [2] (spY 2 c2H (e4c N)) 103 3 1 146 600000007 b4x L [2] [0, 3, 1000000050001004] = a1C N (ll L 1) (fun p => some (a6C L p)) := by kernel_rfl
def d0A : Sg Tryz.prog 1 146 :=
 (e1G N).rf (g := .tmp 6) (b5X N) (e6B N) (fun L x hx => (b2K N L).trans ((b1D N ..).trans (a1f x hx))) (by kernel_rfl)
def c0V (v3 : LD) (k0 : Bool × LD → Option R) : Option R :=
 bnd (a3y N v3) fun y0 =>
 bif y0.isSome then
  k0 (y0.getD default)
 else
  none
def d0B (v3 : LD) : Option (Bool × LD) := c0V N v3 (fun p => some p)
theorem d6G (v3 : LD) (k0 : Bool × LD → Option R) : c0V N v3 k0 = (d0B N v3).bind k0 := by
 unfold d0B c0V
 repeat' (first | with_reducible apply a0k | (with_reducible apply a0y; intro _) | rfl)
def c8a : Sh := { tmps := [(0, .c (.nsl 40)), (1, .c (.f 103 [(0, 0)]))], mem := [(0, .box ([.sl 40]))] }
def d0C (L : List Lf) (p : Bool × LD) : Res := ([.c (.o 1000000050001004)], [(0, .box [.sl 40 (lb L 2) (ll L 3)]), (1000000050001004, .row 40 true p.1 p.2)])
def f0H (L : List Lf) : List (Bool × Res) := bnd (c0V N (ll L 3) (fun p => some p)) fun q => [(q.isSome, d0C L (q.getD default))]
theorem e1H (L : List Lf) : bd Tryz.prog (d3c N) (d0A N).h 146 c8a L = c0V N (ll L 3) (fun p => some (d0C L p)) := (f0I 1 rfl).trans (by kernel_rfl)
def d6H (L : List Lf) : List (Bool × Res) := f0J 1000000050001004 999 ((f0H N) L)
theorem e6E : a0V Tryz.prog 146 c8a (d6H N) :=
 (d0A N).fnR 1000000050001004 999 rfl rfl a0e (b2I N) fun L x hx => ((e1H N L).trans ((d6G N ..).trans (a1f x hx)))
def d6I : a0f := ext 146 (a2n c8a (d6H N)) (d3c N)
theorem c5R : a0b Tryz.prog (d6I N) := a0V.to (e6E N) (b2I N)
def e6F : List (Nat × List Nat) := [(0, [0]), (1, [0])]
def e6G : a0M := []
def d0D (N : Nat) : Sg Tryz.prog 1 101 := .start e6G e6F true
def c0W (v1 : LD) (k0 : Bool × LD → Option R) : Option R :=
 bnd (d0B N v1) fun y0 =>
 bif y0.isSome then
  k0 (y0.getD default)
 else
  none
def d0E (v1 : LD) : Option (Bool × LD) := c0W N v1 (fun p => some p)
theorem d6J (v1 : LD) (k0 : Bool × LD → Option R) : c0W N v1 k0 = (d0E N v1).bind k0 := by
 unfold d0E c0W
 repeat' (first | with_reducible apply a0k | (with_reducible apply a0y; intro _) | rfl)
def c8b : Sh := { tmps := [(0, .c (.f 103 [(0, 0)]))], mem := [(0, .box ([.sl 40]))] }
def d0F (L : List Lf) (p : Bool × LD) : Res := ([.c (.o 5000001000)], [(0, .box [.sl 40 (lb L 0) (ll L 1)]), (5000001000, .row 40 true p.1 p.2)])
def f0K (L : List Lf) : List (Bool × Res) := bnd (c0W N (ll L 1) (fun p => some p)) fun q => [(q.isSome, d0F L (q.getD default))]
theorem e1I (L : List Lf) : bd Tryz.prog (d6I N) (d0D N).h 101 c8b L = c0W N (ll L 1) (fun p => some (d0F L p)) := (f0I 1 rfl).trans (by kernel_rfl)
def d6K (L : List Lf) : List (Bool × Res) := f0J 5000001000 999 ((f0K N) L)
theorem e6H : a0V Tryz.prog 101 c8b (d6K N) :=
 (d0D N).fnR 5000001000 999 rfl rfl a0e (c5R N) fun L x hx => ((e1I N L).trans ((d6J N ..).trans (a1f x hx)))
def e4d : a0f := ext 101 (a2n c8b (d6K N)) (d6I N)
theorem d6L : a0b Tryz.prog (e4d N) := a0V.to (e6H N) (c5R N)
def d6M : Sh := c5S
def e4e (N : Nat) (L : List Lf) : List (Bool × Res) := c2I L
theorem e6I : a0V Tryz.prog 102 d6M (e4e N) := d3d
def d6N : a0f := ext 102 (a2n d6M (e4e N)) (e4d N)
theorem c5T : a0b Tryz.prog (d6N N) := a0V.to (e6I N) (d6L N)
def f0L : List (Nat × List Nat) := [(0, [0, 1]), (1, [0, 1]), (2, [5, 1]), (3, [5])]
def f0M : a0M := []
def d6O (N : Nat) : Sg Tryz.prog 1 64 := .start f0M f0L
def d3e (v1 : LD) (k0 : Bool × LD → Option R) : Option R :=
 bnd (d0E N v1) fun y0 =>
 bif y0.isSome then
  bif (b0c (y0.getD default).2) then
   k0 ((y0.getD default).1, (a0C (y0.getD default).2))
  else
   none
 else
  none
def d3f (v1 : LD) : Option (Bool × LD) := d3e N v1 (fun p => some p)
theorem e1J (v1 : LD) (k0 : Bool × LD → Option R) : d3e N v1 k0 = (d3f N v1).bind k0 := by
 unfold d3f d3e
 repeat' (first | with_reducible apply a0k | (with_reducible apply a0y; intro _) | rfl)
def c5U : Sh := { tmps := [(0, .c (.f 103 [(0, 0)])), (1, .c (.f 66 []))], mem := [(0, .box ([.sl 40]))] }
def f0N (L : List Lf) : List (Bool × Res) := bnd (d3e N (ll L 1) (fun p => some p)) fun q => [(q.isSome, ([.c (.sl 40 (q.getD default).1 (q.getD default).2)], mgA (a0p c5U L).mem [] [0]))]
theorem e6J (L : List Lf) : bd Tryz.prog (d6N N) (d6O N).h 64 c5U L = d3e N (ll L 1) (fun p => some ([.c (.sl 40 p.1 p.2)], mgA (a0p c5U L).mem [] [0])) := by kernel_rfl
theorem f0O : a0V Tryz.prog 64 c5U (f0N N) :=
 (d6O N).fn a0e (c5T N) fun L x hx => ((e6J N L).trans ((e1J N ..).trans (a1f x hx)))
def e6K : a0f := ext 64 (a2n c5U (f0N N)) (d6N N)
theorem d0G : a0b Tryz.prog (e6K N) := a0V.to (f0O N) (c5T N)
def f0P : List (Nat × List Nat) := [(0, []), (1, [])]
def f0Q : a0M := []
def d6P (N : Nat) : Sg Tryz.prog 0 79 := .start f0Q f0P
def e1K (N : Nat) (k0 : Unit → R) : R :=
 k0 ()
def f0R : Unit := e1K N (fun p => p)
theorem e6L (k0 : Unit → R) : e1K N k0 = k0 (f0R N) := by
 unfold f0R e1K
 repeat' (first | rfl | apply a0q | (apply a0K; intro _))
def d6Q : Sh := { tmps := [], mem := [] }
def d6R (L : List Lf) (_ : Unit) : Res := ([.c (.sl 125 false [(.a [(.s ([] : List UInt8)), (.b true)]), (.a [(.s ([115, 116, 97, 114, 116] : List UInt8)), (.i 109)]), (.a [(.s ([100, 97, 121] : List UInt8)), (.i 110)]), (.a [(.s ([119, 97, 121] : List UInt8)), (.i 111)]), (.a [(.s ([99, 108, 105, 109, 98] : List UInt8)), (.i 112)]), (.a [(.s ([115, 101, 99, 111, 110, 100, 115] : List UInt8)), (.i 113)]), (.a [(.s ([108, 111, 97, 100] : List UInt8)), (.i 114)]), (.a [(.s ([119, 101, 101, 107, 100, 97, 121] : List UInt8)), (.i 115)])])], [])
def f0S (N : Nat) (L : List Lf) : List (Bool × Res) := [(true, d6R L ())]
theorem e6M (L : List Lf) : bd Tryz.prog (e6K N) (d6P N).h 79 d6Q L = e1K N (fun _ => some (d6R L ())) := by kernel_rfl
theorem f0T : a0V Tryz.prog 79 d6Q (f0S N) :=
 (d6P N).fn a0e (d0G N) fun L x hx => ((e6M N L).trans ((e6L N ..).trans (a2f _ _ hx)))
def f0U : a0f := ext 79 (a2n d6Q (f0S N)) (e6K N)
theorem d0H : a0b Tryz.prog (f0U N) := a0V.to (f0T N) (d0G N)
abbrev a0g : Type := Int → Int → Int → Int → LB → Bool → LD → LB → Int → Int → Int → Int → Int → Int → Bool → LD → Option (Bool)
def d0I : Sh := { tmps := [(0, .g (.i .i64 :: [.i .i64, .i .i64, .i .i64, .s, .sl 24])), (1, .g (.s :: rI 6 ([.sl 9])))], mem := [] }
def f0V (N : Nat) (a0a : a0g) (L : List Lf) : List (Bool × Res) := bnd (a0a (li L 0) (li L 1) (li L 2) (li L 3) (ls L 4) (lb L 5) (ll L 6) (ls L 7) (li L 8) (li L 9) (li L 10) (li L 11) (li L 12) (li L 13) (lb L 14) (ll L 15)) fun q => [(q.isSome, ([.c (.b (q.getD default))], []))]
def a0T (a0a : a0g) : a0f := ext 42 (a2n d0I ((f0V N) a0a)) (f0U N)
def f0W : List (Nat × List Nat) := [(0, [0, 1]), (1, [2, 1])]
def f0X : a0M := []
def d6S (a0a : a0g) (a0h : a0b Tryz.prog ((a0T N) a0a)) : Sg Tryz.prog 1 74 := .start f0X f0W
def c8c (N : Nat) (a0a : a0g) (v0 v1 v2 v3 : Int) (v4 : LB) (v5 : Bool) (v6 : LD) (v7 : LB) (v8 v9 v10 v11 v12 v13 : Int) (v14 : Bool) (v15 : LD) (k0 : Bool → Option R) : Option R :=
 bnd (a0a v0 v1 v2 v3 v4 v5 v6 v7 v8 v9 v10 v11 v12 v13 v14 v15) fun y0 =>
 bif y0.isSome then
  k0 (y0.getD default)
 else
  none
def c5V (a0a : a0g) (v0 v1 v2 v3 : Int) (v4 : LB) (v5 : Bool) (v6 : LD) (v7 : LB) (v8 v9 v10 v11 v12 v13 : Int) (v14 : Bool) (v15 : LD) : Option (Bool) := c8c N a0a v0 v1 v2 v3 v4 v5 v6 v7 v8 v9 v10 v11 v12 v13 v14 v15 (fun p => some p)
theorem e1L (a0a : a0g) (v0 v1 v2 v3 : Int) (v4 : LB) (v5 : Bool) (v6 : LD) (v7 : LB) (v8 v9 v10 v11 v12 v13 : Int) (v14 : Bool) (v15 : LD) (k0 : Bool → Option R) : c8c N a0a v0 v1 v2 v3 v4 v5 v6 v7 v8 v9 v10 v11 v12 v13 v14 v15 k0 = (c5V N a0a v0 v1 v2 v3 v4 v5 v6 v7 v8 v9 v10 v11 v12 v13 v14 v15).bind k0 := by
 unfold c5V c8c
 repeat' (first | with_reducible apply a0k | (with_reducible apply a0y; intro _) | rfl)
def f0Y (a0a : a0g) (L : List Lf) (k0 : Bool → Option R) : Option R := c8c N a0a (li L 0) (li L 1) (li L 2) (li L 3) (ls L 4) (lb L 5) (ll L 6) (ls L 7) (li L 8) (li L 9) (li L 10) (li L 11) (li L 12) (li L 13) (lb L 14) (ll L 15) k0
def c5W : Sh := { tmps := [(0, .g (.i .i64 :: [.i .i64, .i .i64, .i .i64, .s, .sl 24])), (1, .c (.p 0 0))], mem := [(0, .box (.s :: rI 6 ([.sl 9])))] }
def f0Z (a0a : a0g) (L : List Lf) : List (Bool × Res) := bnd (f0Y N a0a L (fun p => some p)) fun q => [(q.isSome, ([.c (.b (q.getD default))], mgA (a0p c5W L).mem [] [0]))]
theorem e6N (a0a : a0g) (a0h : a0b Tryz.prog ((a0T N) a0a)) (L : List Lf) : bd Tryz.prog ((a0T N) a0a) ((d6S N) a0a a0h).h 74 c5W L = f0Y N a0a L (fun p => some ([.c (.b p)], mgA (a0p c5W L).mem [] [0])) := by kernel_rfl
theorem f00 (a0a : a0g) (a0h : a0b Tryz.prog ((a0T N) a0a)) : a0V Tryz.prog 74 c5W ((f0Z N) a0a) :=
 ((d6S N) a0a a0h).fn a0e a0h fun L x hx => ((e6N N a0a a0h L).trans ((e1L N a0a ..).trans (a1f x hx)))
def e6O (a0a : a0g) : a0f := ext 74 (a2n c5W ((f0Z N) a0a)) ((a0T N) a0a)
theorem d0J (a0a : a0g) (a0h : a0b Tryz.prog ((a0T N) a0a)) : a0b Tryz.prog ((e6O N) a0a) := a0V.to ((f00 N) a0a a0h) a0h
def f01 : List (Nat × List Nat) := [(0, [0, 1]), (1, [1, 2])]
def f02 : a0M := []
def d6T (a0a : a0g) (a0h : a0b Tryz.prog ((a0T N) a0a)) : Sg Tryz.prog 2 76 := .start f02 f01
def d6U (a0a : a0g) (v0 v1 v2 v3 : Int) (v4 : LB) (v5 : Bool) (v6 : LD) (v7 : LB) (v8 v9 v10 v11 v12 v13 : Int) (v14 : Bool) (v15 : LD) (k0 : Bool → Option R) : Option R :=
 bnd (c5V N a0a v0 v1 v2 v3 v4 v5 v6 v7 v8 v9 v10 v11 v12 v13 v14 v15) fun y0 =>
 bif y0.isSome then
  k0 (!(y0.getD default))
 else
  none
def e1M (a0a : a0g) (v0 v1 v2 v3 : Int) (v4 : LB) (v5 : Bool) (v6 : LD) (v7 : LB) (v8 v9 v10 v11 v12 v13 : Int) (v14 : Bool) (v15 : LD) : Option (Bool) := d6U N a0a v0 v1 v2 v3 v4 v5 v6 v7 v8 v9 v10 v11 v12 v13 v14 v15 (fun p => some p)
theorem e1N (a0a : a0g) (v0 v1 v2 v3 : Int) (v4 : LB) (v5 : Bool) (v6 : LD) (v7 : LB) (v8 v9 v10 v11 v12 v13 : Int) (v14 : Bool) (v15 : LD) (k0 : Bool → Option R) : d6U N a0a v0 v1 v2 v3 v4 v5 v6 v7 v8 v9 v10 v11 v12 v13 v14 v15 k0 = (e1M N a0a v0 v1 v2 v3 v4 v5 v6 v7 v8 v9 v10 v11 v12 v13 v14 v15).bind k0 := by
 unfold e1M d6U
 repeat' (first | with_reducible apply a0k | (with_reducible apply a0y; intro _) | rfl)
def f03 (a0a : a0g) (L : List Lf) (k0 : Bool → Option R) : Option R := d6U N a0a (li L 0) (li L 1) (li L 2) (li L 3) (ls L 4) (lb L 5) (ll L 6) (ls L 7) (li L 8) (li L 9) (li L 10) (li L 11) (li L 12) (li L 13) (lb L 14) (ll L 15) k0
def c5X : Sh := { tmps := [(0, .g (.i .i64 :: [.i .i64, .i .i64, .i .i64, .s, .sl 24])), (1, .c (.p 0 0))], mem := [(0, .box ([.f 74 [(1, 0)]])), (1, .box (.s :: rI 6 ([.sl 9])))] }
def f04 (a0a : a0g) (L : List Lf) : List (Bool × Res) := bnd (f03 N a0a L (fun p => some p)) fun q => [(q.isSome, ([.c (.b (q.getD default))], mgA (a0p c5X L).mem [] [0, 1]))]
theorem e6P (a0a : a0g) (a0h : a0b Tryz.prog ((a0T N) a0a)) (L : List Lf) : bd Tryz.prog ((e6O N) a0a) ((d6T N) a0a a0h).h 76 c5X L = f03 N a0a L (fun p => some ([.c (.b p)], mgA (a0p c5X L).mem [] [0, 1])) := by kernel_rfl
theorem f05 (a0a : a0g) (a0h : a0b Tryz.prog ((a0T N) a0a)) : a0V Tryz.prog 76 c5X ((f04 N) a0a) :=
 ((d6T N) a0a a0h).fn a0e ((d0J N) a0a a0h) fun L x hx => ((e6P N a0a a0h L).trans ((e1N N a0a ..).trans (a1f x hx)))
def e1O (a0a : a0g) : a0f := ext 76 (a2n c5X ((f04 N) a0a)) ((e6O N) a0a)
theorem c2J (a0a : a0g) (a0h : a0b Tryz.prog ((a0T N) a0a)) : a0b Tryz.prog ((e1O N) a0a) := a0V.to ((f05 N) a0a a0h) ((d0J N) a0a a0h)
def e6Q : List (Nat × List Nat) := [(0, [0, 1]), (1, [0, 1]), (2, [8, 7, 1, 0]), (3, [8, 1, 0, 7]), (4, [1, 0, 5, 8, 7]), (5, [5]), (6, [8, 7, 1, 0]), (7, [])]
def e6R : a0M := [(6, [0, 1, 7, 8], [0, 1], [])]
def d0K (a0a : a0g) (a0h : a0b Tryz.prog ((a0T N) a0a)) : Sg Tryz.prog 2 106 := .start e6R e6Q
def b0d (a0a : a0g) (w1 : LD) (w2 : Int) (w4 : LB) (w5 w6 w7 w8 w9 w10 : Int) (w11 : Bool) (w12 : LD) (w3 : Int) (kr : Int → Option R) (k0 : Int → Option R) (k1 : Unit → Option R) : Option R :=
 bif (decide (w3 < w2)) then
  bif (inB w3 w1.length) then
   bnd (e1M N a0a ((w1.getD w3.toNat (.i 0)).cell 0).toI ((w1.getD w3.toNat (.i 0)).cell 1).toI ((w1.getD w3.toNat (.i 0)).cell 2).toI ((w1.getD w3.toNat (.i 0)).cell 3).toI ((w1.getD w3.toNat (.i 0)).cell 4).toS ((w1.getD w3.toNat (.i 0)).cell 5).isNil ((w1.getD w3.toNat (.i 0)).cell 5).items w4 w5 w6 w7 w8 w9 w10 w11 w12) fun y0 =>
   bif y0.isSome then
    bif (y0.getD default) then
     k0 w3
    else
     kr (IntKind.wrap .i64 (w3 + 1))
   else
    none
  else
   none
 else
  k1 ()
def b6M (N : Nat) (a0a : a0g) {R : Type} (w1 : LD) (w2 : Int) (w4 : LB) (w5 w6 w7 w8 w9 w10 : Int) (w11 : Bool) (w12 : LD) : Nat → Int → (Int → Option R) → (Unit → Option R) → Option R
 | 0, _, _, _ => none
 | m + 1, w3, k0, k1 => b0d N a0a w1 w2 w4 w5 w6 w7 w8 w9 w10 w11 w12 w3 (fun w3 => b6M N a0a w1 w2 w4 w5 w6 w7 w8 w9 w10 w11 w12 m w3 k0 k1) k0 k1
def b6N (a0a : a0g) (w1 : LD) (w2 : Int) (w4 : LB) (w5 w6 w7 w8 w9 w10 : Int) (w11 : Bool) (w12 : LD) (w3 : Int) : Option (Sum (Int) (Unit)) := b6M N a0a (R := (Sum (Int) (Unit))) w1 w2 w4 w5 w6 w7 w8 w9 w10 w11 w12 N w3 (fun p => some (.inl p)) (fun p => some (.inr p))
def b2L (a0a : a0g) (L x : List Lf) (kr : List Lf → Option R) (k0 : Int → Option R) (k1 : Unit → Option R) : Option R := b0d N a0a (ll L 1) (li L 2) (ls L 4) (li L 5) (li L 6) (li L 7) (li L 8) (li L 9) (li L 10) (lb L 11) (ll L 12) (li x 0) (fun w3 => kr [.i w3]) k0 k1
theorem c5Y (a0a : a0g) (L x : List Lf) (kr : List Lf → Option R) (k0 : Int → Option R) (k1 : Unit → Option R) : b2L N a0a L x kr k0 k1 = (b2L N a0a L x (fun y => some (.inl y)) (fun p => some (.inr (.inl p))) (fun p => some (.inr (.inr p)))).bind (a1m kr (a1m k0 k1)) := by
 unfold b2L b0d
 repeat' (first | with_reducible apply a0k | (with_reducible apply a0y; intro _) | rfl)
def b6O (a0a : a0g) (L : List Lf) (m : Nat) (x : List Lf) : Option (Sum (Int) (Unit)) := b6M N a0a (R := (Sum (Int) (Unit))) (ll L 1) (li L 2) (ls L 4) (li L 5) (li L 6) (li L 7) (li L 8) (li L 9) (li L 10) (lb L 11) (ll L 12) m (li x 0) (fun p => some (.inl p)) (fun p => some (.inr p))
def a5U : Sh := { tmps := [(0, .c (.sl 24)), (1, .c (.f 76 [(0, 0)])), (7, .c (.i .i64)), (8, .c (.i .i64))], mem := [(0, .box ([.f 74 [(1, 0)]])), (1, .box (.s :: rI 6 ([.sl 9])))] }
def c0X (L : List Lf) (p : Int) : Ex × St := (.ret, mg (a0p a5U L) [4] [(4, .c (.i .i64 p))] [0, 1] [])
def e1P (a0a : a0g) (L : List Lf) : List (Bool × (Ex × St)) := bnd (b6O N a0a L N (pk a5U [3] L)) fun q => [((a04 q), c0X L (a0P q)), ((a0r q).isSome, ((.exit 0), mg (a0p a5U L) [] [] [0, 1] []))]
theorem c8d (a0a : a0g) (a0h : a0b Tryz.prog ((a0T N) a0a)) (m : Nat) (kn : St → Option (Ex × St)) (L x : List Lf) : lpB Tryz.prog ((e1O N) a0a) ((d0K N) a0a a0h).h 2 106 6 a5U [3] [4] [0, 1] (m + 100) kn L x = b2L N a0a L x (fun y => kn (a0p a5U (mx a5U [3] L y))) (fun p => some (c0X L p)) (fun _ => some ((.exit 0), mg (a0p a5U L) [] [] [0, 1] [])) := by kernel_rfl
theorem d6V (a0a : a0g) (L : List Lf) (m : Nat) (x : List Lf) : b6O N a0a L (m + 1) x = b2L N a0a L x (b6O N a0a L m) (fun p => some (.inl p)) (fun p => some (.inr p)) := by kernel_rfl
def d0L (a0a : a0g) (a0h : a0b Tryz.prog ((a0T N) a0a)) : Sg Tryz.prog 2 106 :=
 ((d0K N) a0a a0h).lp ((e1P N) a0a) N a0e ((c2J N) a0a a0h) (fun m kn L x => (c8d N a0a a0h m kn L x).trans (c5Y N a0a L x _ _ _)) (fun L m x => (d6V N a0a L m x).trans (c5Y N a0a L x (b6O N a0a L m) (fun p => some (.inl p)) (fun p => some (.inr p)))) fun L x hx => (a4i a1f) x hx
def c5Z (a0a : a0g) (v1 : LD) (v2 : LB) (v3 v4 v5 v6 v7 v8 : Int) (v9 : Bool) (v10 : LD) (k0 : Int → Option R) : Option R :=
 bnd (b6N N a0a v1 (v1.length : Int) v2 v3 v4 v5 v6 v7 v8 v9 v10 0) fun y0 =>
 bif (a04 y0) then
  k0 (a0P y0)
 else
  bif (a0r y0).isSome then
   k0 (-1)
  else
   none
def d0M (a0a : a0g) (v1 : LD) (v2 : LB) (v3 v4 v5 v6 v7 v8 : Int) (v9 : Bool) (v10 : LD) : Option (Int) := c5Z N a0a v1 v2 v3 v4 v5 v6 v7 v8 v9 v10 (fun p => some p)
theorem d6W (a0a : a0g) (v1 : LD) (v2 : LB) (v3 v4 v5 v6 v7 v8 : Int) (v9 : Bool) (v10 : LD) (k0 : Int → Option R) : c5Z N a0a v1 v2 v3 v4 v5 v6 v7 v8 v9 v10 k0 = (d0M N a0a v1 v2 v3 v4 v5 v6 v7 v8 v9 v10).bind k0 := by
 unfold d0M c5Z
 repeat' (first | with_reducible apply a0k | (with_reducible apply a0y; intro _) | rfl)
def e4f (a0a : a0g) (L : List Lf) (k0 : Int → Option R) : Option R := c5Z N a0a (ll L 1) (ls L 2) (li L 3) (li L 4) (li L 5) (li L 6) (li L 7) (li L 8) (lb L 9) (ll L 10) k0
def b8L : Sh := { tmps := [(0, .c (.sl 24)), (1, .c (.f 76 [(0, 0)]))], mem := [(0, .box ([.f 74 [(1, 0)]])), (1, .box (.s :: rI 6 ([.sl 9])))] }
def e4g (a0a : a0g) (L : List Lf) : List (Bool × Res) := bnd (e4f N a0a L (fun p => some p)) fun q => [(q.isSome, ([.c (.i .i64 (q.getD default))], mgA (a0p b8L L).mem [] [0, 1]))]
theorem e1Q (a0a : a0g) (a0h : a0b Tryz.prog ((a0T N) a0a)) (L : List Lf) : bd Tryz.prog ((e1O N) a0a) ((d0L N) a0a a0h).h 106 b8L L = e4f N a0a L (fun p => some ([.c (.i .i64 p)], mgA (a0p b8L L).mem [] [0, 1])) := by kernel_rfl
theorem e6S (a0a : a0g) (a0h : a0b Tryz.prog ((a0T N) a0a)) : a0V Tryz.prog 106 b8L ((e4g N) a0a) :=
 ((d0L N) a0a a0h).fn a0e ((c2J N) a0a a0h) fun L x hx => ((e1Q N a0a a0h L).trans ((d6W N a0a ..).trans (a1f x hx)))
def d6X (a0a : a0g) : a0f := ext 106 (a2n b8L ((e4g N) a0a)) ((e1O N) a0a)
theorem c50 (a0a : a0g) (a0h : a0b Tryz.prog ((a0T N) a0a)) : a0b Tryz.prog ((d6X N) a0a) := a0V.to ((e6S N) a0a a0h) ((c2J N) a0a a0h)
def f06 : List (Nat × List Nat) := [(0, [0, 1]), (1, [0, 1])]
def f07 : a0M := []
def d6Y (a0a : a0g) (a0h : a0b Tryz.prog ((a0T N) a0a)) : Sg Tryz.prog 2 75 := .start f07 f06
def d6Z (a0a : a0g) (v1 : LD) (v2 : LB) (v3 v4 v5 v6 v7 v8 : Int) (v9 : Bool) (v10 : LD) (k0 : Bool → Option R) : Option R :=
 bnd (d0M N a0a v1 v2 v3 v4 v5 v6 v7 v8 v9 v10) fun y0 =>
 bif y0.isSome then
  k0 (decide ((y0.getD default) ≥ 0))
 else
  none
def e1R (a0a : a0g) (v1 : LD) (v2 : LB) (v3 v4 v5 v6 v7 v8 : Int) (v9 : Bool) (v10 : LD) : Option (Bool) := d6Z N a0a v1 v2 v3 v4 v5 v6 v7 v8 v9 v10 (fun p => some p)
theorem e1S (a0a : a0g) (v1 : LD) (v2 : LB) (v3 v4 v5 v6 v7 v8 : Int) (v9 : Bool) (v10 : LD) (k0 : Bool → Option R) : d6Z N a0a v1 v2 v3 v4 v5 v6 v7 v8 v9 v10 k0 = (e1R N a0a v1 v2 v3 v4 v5 v6 v7 v8 v9 v10).bind k0 := by
 unfold e1R d6Z
 repeat' (first | with_reducible apply a0k | (with_reducible apply a0y; intro _) | rfl)
def f08 (a0a : a0g) (L : List Lf) (k0 : Bool → Option R) : Option R := d6Z N a0a (ll L 1) (ls L 2) (li L 3) (li L 4) (li L 5) (li L 6) (li L 7) (li L 8) (lb L 9) (ll L 10) k0
def c51 : Sh := { tmps := [(0, .c (.sl 24)), (1, .c (.f 76 [(0, 0)]))], mem := [(0, .box ([.f 74 [(1, 0)]])), (1, .box (.s :: rI 6 ([.sl 9])))] }
def f09 (a0a : a0g) (L : List Lf) : List (Bool × Res) := bnd (f08 N a0a L (fun p => some p)) fun q => [(q.isSome, ([.c (.b (q.getD default))], mgA (a0p c51 L).mem [] [0, 1]))]
theorem e6T (a0a : a0g) (a0h : a0b Tryz.prog ((a0T N) a0a)) (L : List Lf) : bd Tryz.prog ((d6X N) a0a) ((d6Y N) a0a a0h).h 75 c51 L = f08 N a0a L (fun p => some ([.c (.b p)], mgA (a0p c51 L).mem [] [0, 1])) := by kernel_rfl
theorem f1a (a0a : a0g) (a0h : a0b Tryz.prog ((a0T N) a0a)) : a0V Tryz.prog 75 c51 ((f09 N) a0a) :=
 ((d6Y N) a0a a0h).fn a0e ((c50 N) a0a a0h) fun L x hx => ((e6T N a0a a0h L).trans ((e1S N a0a ..).trans (a1f x hx)))
def e1T (a0a : a0g) : a0f := ext 75 (a2n c51 ((f09 N) a0a)) ((d6X N) a0a)
theorem c2K (a0a : a0g) (a0h : a0b Tryz.prog ((a0T N) a0a)) : a0b Tryz.prog ((e1T N) a0a) := a0V.to ((f1a N) a0a a0h) ((c50 N) a0a a0h)
def e6U : List (Nat × List Nat) := [(0, [0, 1]), (1, [0, 1]), (2, [8, 7, 1, 0]), (3, [8, 1, 0, 7]), (4, [1, 0, 5, 8, 7]), (5, [5]), (6, [8, 7, 1, 0]), (7, [])]
def e6V : a0M := [(6, [0, 1, 7, 8], [0], [])]
def d0N (a0a : a0g) (a0h : a0b Tryz.prog ((a0T N) a0a)) : Sg Tryz.prog 1 106 := .start e6V e6U
def b0e (a0a : a0g) (w1 : LD) (w2 : Int) (w4 : LB) (w5 w6 w7 w8 w9 w10 : Int) (w11 : Bool) (w12 : LD) (w3 : Int) (kr : Int → Option R) (k0 : Int → Option R) (k1 : Unit → Option R) : Option R :=
 bif (decide (w3 < w2)) then
  bif (inB w3 w1.length) then
   bnd (c5V N a0a ((w1.getD w3.toNat (.i 0)).cell 0).toI ((w1.getD w3.toNat (.i 0)).cell 1).toI ((w1.getD w3.toNat (.i 0)).cell 2).toI ((w1.getD w3.toNat (.i 0)).cell 3).toI ((w1.getD w3.toNat (.i 0)).cell 4).toS ((w1.getD w3.toNat (.i 0)).cell 5).isNil ((w1.getD w3.toNat (.i 0)).cell 5).items w4 w5 w6 w7 w8 w9 w10 w11 w12) fun y0 =>
   bif y0.isSome then
    bif (y0.getD default) then
     k0 w3
    else
     kr (IntKind.wrap .i64 (w3 + 1))
   else
    none
  else
   none
 else
  k1 ()
def b6P (N : Nat) (a0a : a0g) {R : Type} (w1 : LD) (w2 : Int) (w4 : LB) (w5 w6 w7 w8 w9 w10 : Int) (w11 : Bool) (w12 : LD) : Nat → Int → (Int → Option R) → (Unit → Option R) → Option R
 | 0, _, _, _ => none
 | m + 1, w3, k0, k1 => b0e N a0a w1 w2 w4 w5 w6 w7 w8 w9 w10 w11 w12 w3 (fun w3 => b6P N a0a w1 w2 w4 w5 w6 w7 w8 w9 w10 w11 w12 m w3 k0 k1) k0 k1
def b6Q (a0a : a0g) (w1 : LD) (w2 : Int) (w4 : LB) (w5 w6 w7 w8 w9 w10 : Int) (w11 : Bool) (w12 : LD) (w3 : Int) : Option (Sum (Int) (Unit)) := b6P N a0a (R := (Sum (Int) (Unit))) w1 w2 w4 w5 w6 w7 w8 w9 w10 w11 w12 N w3 (fun p => some (.inl p)) (fun p => some (.inr p))
def b2M (a0a : a0g) (L x : List Lf) (kr : List Lf → Option R) (k0 : Int → Option R) (k1 : Unit → Option R) : Option R := b0e N a0a (ll L 1) (li L 2) (ls L 4) (li L 5) (li L 6) (li L 7) (li L 8) (li L 9) (li L 10) (lb L 11) (ll L 12) (li x 0) (fun w3 => kr [.i w3]) k0 k1
theorem c52 (a0a : a0g) (L x : List Lf) (kr : List Lf → Option R) (k0 : Int → Option R) (k1 : Unit → Option R) : b2M N a0a L x kr k0 k1 = (b2M N a0a L x (fun y => some (.inl y)) (fun p => some (.inr (.inl p))) (fun p => some (.inr (.inr p)))).bind (a1m kr (a1m k0 k1)) := by
 unfold b2M b0e
 repeat' (first | with_reducible apply a0k | (with_reducible apply a0y; intro _) | rfl)
def b6R (a0a : a0g) (L : List Lf) (m : Nat) (x : List Lf) : Option (Sum (Int) (Unit)) := b6P N a0a (R := (Sum (Int) (Unit))) (ll L 1) (li L 2) (ls L 4) (li L 5) (li L 6) (li L 7) (li L 8) (li L 9) (li L 10) (lb L 11) (ll L 12) m (li x 0) (fun p => some (.inl p)) (fun p => some (.inr p))
def a5V : Sh := { tmps := [(0, .c (.sl 24)), (1, .c (.f 74 [(0, 0)])), (7, .c (.i .i64)), (8, .c (.i .i64))], mem := [(0, .box (.s :: rI 6 ([.sl 9])))] }
def c0Y (L : List Lf) (p : Int) : Ex × St := (.ret, mg (a0p a5V L) [4] [(4, .c (.i .i64 p))] [0] [])
def e1U (a0a : a0g) (L : List Lf) : List (Bool × (Ex × St)) := bnd (b6R N a0a L N (pk a5V [3] L)) fun q => [((a04 q), c0Y L (a0P q)), ((a0r q).isSome, ((.exit 0), mg (a0p a5V L) [] [] [0] []))]
theorem c8e (a0a : a0g) (a0h : a0b Tryz.prog ((a0T N) a0a)) (m : Nat) (kn : St → Option (Ex × St)) (L x : List Lf) : lpB Tryz.prog ((e1T N) a0a) ((d0N N) a0a a0h).h 1 106 6 a5V [3] [4] [0] (m + 100) kn L x = b2M N a0a L x (fun y => kn (a0p a5V (mx a5V [3] L y))) (fun p => some (c0Y L p)) (fun _ => some ((.exit 0), mg (a0p a5V L) [] [] [0] [])) := by kernel_rfl
theorem d60 (a0a : a0g) (L : List Lf) (m : Nat) (x : List Lf) : b6R N a0a L (m + 1) x = b2M N a0a L x (b6R N a0a L m) (fun p => some (.inl p)) (fun p => some (.inr p)) := by kernel_rfl
def d0O (a0a : a0g) (a0h : a0b Tryz.prog ((a0T N) a0a)) : Sg Tryz.prog 1 106 :=
 ((d0N N) a0a a0h).lp ((e1U N) a0a) N a0e ((c2K N) a0a a0h) (fun m kn L x => (c8e N a0a a0h m kn L x).trans (c52 N a0a L x _ _ _)) (fun L m x => (d60 N a0a L m x).trans (c52 N a0a L x (b6R N a0a L m) (fun p => some (.inl p)) (fun p => some (.inr p)))) fun L x hx => (a4i a1f) x hx
def c53 (a0a : a0g) (v1 : LD) (v2 : LB) (v3 v4 v5 v6 v7 v8 : Int) (v9 : Bool) (v10 : LD) (k0 : Int → Option R) : Option R :=
 bnd (b6Q N a0a v1 (v1.length : Int) v2 v3 v4 v5 v6 v7 v8 v9 v10 0) fun y0 =>
 bif (a04 y0) then
  k0 (a0P y0)
 else
  bif (a0r y0).isSome then
   k0 (-1)
  else
   none
def d0P (a0a : a0g) (v1 : LD) (v2 : LB) (v3 v4 v5 v6 v7 v8 : Int) (v9 : Bool) (v10 : LD) : Option (Int) := c53 N a0a v1 v2 v3 v4 v5 v6 v7 v8 v9 v10 (fun p => some p)
theorem d61 (a0a : a0g) (v1 : LD) (v2 : LB) (v3 v4 v5 v6 v7 v8 : Int) (v9 : Bool) (v10 : LD) (k0 : Int → Option R) : c53 N a0a v1 v2 v3 v4 v5 v6 v7 v8 v9 v10 k0 = (d0P N a0a v1 v2 v3 v4 v5 v6 v7 v8 v9 v10).bind k0 := by
 unfold d0P c53
 repeat' (first | with_reducible apply a0k | (with_reducible apply a0y; intro _) | rfl)
def e4h (a0a : a0g) (L : List Lf) (k0 : Int → Option R) : Option R := c53 N a0a (ll L 1) (ls L 2) (li L 3) (li L 4) (li L 5) (li L 6) (li L 7) (li L 8) (lb L 9) (ll L 10) k0
def b8M : Sh := { tmps := [(0, .c (.sl 24)), (1, .c (.f 74 [(0, 0)]))], mem := [(0, .box (.s :: rI 6 ([.sl 9])))] }
def e4i (a0a : a0g) (L : List Lf) : List (Bool × Res) := bnd (e4h N a0a L (fun p => some p)) fun q => [(q.isSome, ([.c (.i .i64 (q.getD default))], mgA (a0p b8M L).mem [] [0]))]
theorem e1V (a0a : a0g) (a0h : a0b Tryz.prog ((a0T N) a0a)) (L : List Lf) : bd Tryz.prog ((e1T N) a0a) ((d0O N) a0a a0h).h 106 b8M L = e4h N a0a L (fun p => some ([.c (.i .i64 p)], mgA (a0p b8M L).mem [] [0])) := by kernel_rfl
theorem e6W (a0a : a0g) (a0h : a0b Tryz.prog ((a0T N) a0a)) : a0V Tryz.prog 106 b8M ((e4i N) a0a) :=
 ((d0O N) a0a a0h).fn a0e ((c2K N) a0a a0h) fun L x hx => ((e1V N a0a a0h L).trans ((d61 N a0a ..).trans (a1f x hx)))
def d62 (a0a : a0g) : a0f := ext 106 (a2n b8M ((e4i N) a0a)) ((e1T N) a0a)
theorem c54 (a0a : a0g) (a0h : a0b Tryz.prog ((a0T N) a0a)) : a0b Tryz.prog ((d62 N) a0a) := a0V.to ((e6W N) a0a a0h) ((c2K N) a0a a0h)
def f1b : List (Nat × List Nat) := [(0, [0, 1]), (1, [0, 1])]
def f1c : a0M := []
def d63 (a0a : a0g) (a0h : a0b Tryz.prog ((a0T N) a0a)) : Sg Tryz.prog 1 75 := .start f1c f1b
def d64 (a0a : a0g) (v1 : LD) (v2 : LB) (v3 v4 v5 v6 v7 v8 : Int) (v9 : Bool) (v10 : LD) (k0 : Bool → Option R) : Option R :=
 bnd (d0P N a0a v1 v2 v3 v4 v5 v6 v7 v8 v9 v10) fun y0 =>
 bif y0.isSome then
  k0 (decide ((y0.getD default) ≥ 0))
 else
  none
def e1W (a0a : a0g) (v1 : LD) (v2 : LB) (v3 v4 v5 v6 v7 v8 : Int) (v9 : Bool) (v10 : LD) : Option (Bool) := d64 N a0a v1 v2 v3 v4 v5 v6 v7 v8 v9 v10 (fun p => some p)
theorem e1X (a0a : a0g) (v1 : LD) (v2 : LB) (v3 v4 v5 v6 v7 v8 : Int) (v9 : Bool) (v10 : LD) (k0 : Bool → Option R) : d64 N a0a v1 v2 v3 v4 v5 v6 v7 v8 v9 v10 k0 = (e1W N a0a v1 v2 v3 v4 v5 v6 v7 v8 v9 v10).bind k0 := by
 unfold e1W d64
 repeat' (first | with_reducible apply a0k | (with_reducible apply a0y; intro _) | rfl)
def f1d (a0a : a0g) (L : List Lf) (k0 : Bool → Option R) : Option R := d64 N a0a (ll L 1) (ls L 2) (li L 3) (li L 4) (li L 5) (li L 6) (li L 7) (li L 8) (lb L 9) (ll L 10) k0
def c55 : Sh := { tmps := [(0, .c (.sl 24)), (1, .c (.f 74 [(0, 0)]))], mem := [(0, .box (.s :: rI 6 ([.sl 9])))] }
def f1e (a0a : a0g) (L : List Lf) : List (Bool × Res) := bnd (f1d N a0a L (fun p => some p)) fun q => [(q.isSome, ([.c (.b (q.getD default))], mgA (a0p c55 L).mem [] [0]))]
theorem e6X (a0a : a0g) (a0h : a0b Tryz.prog ((a0T N) a0a)) (L : List Lf) : bd Tryz.prog ((d62 N) a0a) ((d63 N) a0a a0h).h 75 c55 L = f1d N a0a L (fun p => some ([.c (.b p)], mgA (a0p c55 L).mem [] [0])) := by kernel_rfl
theorem f1f (a0a : a0g) (a0h : a0b Tryz.prog ((a0T N) a0a)) : a0V Tryz.prog 75 c55 ((f1e N) a0a) :=
 ((d63 N) a0a a0h).fn a0e ((c54 N) a0a a0h) fun L x hx => ((e6X N a0a a0h L).trans ((e1X N a0a ..).trans (a1f x hx)))
def e1Y (a0a : a0g) : a0f := ext 75 (a2n c55 ((f1e N) a0a)) ((d62 N) a0a)
theorem c2L (a0a : a0g) (a0h : a0b Tryz.prog ((a0T N) a0a)) : a0b Tryz.prog ((e1Y N) a0a) := a0V.to ((f1f N) a0a a0h) ((c54 N) a0a a0h)
def e6Y : List (Nat × List Nat) := [(0, [0, 1]), (1, [0, 1]), (2, [8, 7, 1, 0]), (3, [8, 1, 0, 7]), (4, [1, 0, 5, 8, 7]), (5, [5]), (6, [8, 7, 1, 0]), (7, [])]
def e6Z : a0M := [(6, [0, 1, 7, 8], [], [])]
def d0Q (a0a : a0g) (a0h : a0b Tryz.prog ((a0T N) a0a)) : Sg Tryz.prog 0 107 := .start e6Z e6Y
def b0f (N : Nat) (a0a : a0g) (w1 : LD) (w2 : LB) (w3 : Int) (w4 : Int) (kr : Int → Option R) (k0 : Int → Option R) (k1 : Unit → Option R) : Option R :=
 bif (decide (w4 < w3)) then
  bif (inB w4 w1.length) then
   bif (w2 == (w1.getD w4.toNat (.i 0)).toS) then
    k0 w4
   else
    kr (IntKind.wrap .i64 (w4 + 1))
  else
   none
 else
  k1 ()
def b6S (N : Nat) (a0a : a0g) {R : Type} (w1 : LD) (w2 : LB) (w3 : Int) : Nat → Int → (Int → Option R) → (Unit → Option R) → Option R
 | 0, _, _, _ => none
 | m + 1, w4, k0, k1 => b0f N a0a w1 w2 w3 w4 (fun w4 => b6S N a0a w1 w2 w3 m w4 k0 k1) k0 k1
def c2M (a0a : a0g) (w1 : LD) (w2 : LB) (w3 : Int) (w4 : Int) : Option (Sum (Int) (Unit)) := b6S N a0a (R := (Sum (Int) (Unit))) w1 w2 w3 N w4 (fun p => some (.inl p)) (fun p => some (.inr p))
def b2N (a0a : a0g) (L x : List Lf) (kr : List Lf → Option R) (k0 : Int → Option R) (k1 : Unit → Option R) : Option R := b0f N a0a (ll L 1) (ls L 2) (li L 3) (li x 0) (fun w4 => kr [.i w4]) k0 k1
theorem c56 (a0a : a0g) (L x : List Lf) (kr : List Lf → Option R) (k0 : Int → Option R) (k1 : Unit → Option R) : b2N N a0a L x kr k0 k1 = (b2N N a0a L x (fun y => some (.inl y)) (fun p => some (.inr (.inl p))) (fun p => some (.inr (.inr p)))).bind (a1m kr (a1m k0 k1)) := by
 unfold b2N b0f
 repeat' (first | with_reducible apply a0k | (with_reducible apply a0y; intro _) | rfl)
def b6T (a0a : a0g) (L : List Lf) (m : Nat) (x : List Lf) : Option (Sum (Int) (Unit)) := b6S N a0a (R := (Sum (Int) (Unit))) (ll L 1) (ls L 2) (li L 3) m (li x 0) (fun p => some (.inl p)) (fun p => some (.inr p))
def b2O : Sh := { tmps := [(0, .c (.sl 9)), (1, .c (.s)), (7, .c (.i .i64)), (8, .c (.i .i64))], mem := [] }
def e1Z (a0a : a0g) (L : List Lf) : List (Bool × (Ex × St)) := bnd (b6T N a0a L N (pk b2O [4] L)) fun q => [((a04 q), (.ret, ⟨[(4, .c (.i .i64 (a0P q)))], []⟩)), ((a0r q).isSome, ((.exit 0), ⟨[], []⟩))]
theorem c8f (a0a : a0g) (a0h : a0b Tryz.prog ((a0T N) a0a)) (m : Nat) (kn : St → Option (Ex × St)) (L x : List Lf) : lpB Tryz.prog ((e1Y N) a0a) ((d0Q N) a0a a0h).h 0 107 6 b2O [4] [4] [] (m + 100) kn L x = b2N N a0a L x (fun y => kn (a0p b2O (mx b2O [4] L y))) (fun p => some (.ret, ⟨[(4, .c (.i .i64 p))], []⟩)) (fun _ => some ((.exit 0), ⟨[], []⟩)) := by kernel_rfl
theorem d65 (a0a : a0g) (L : List Lf) (m : Nat) (x : List Lf) : b6T N a0a L (m + 1) x = b2N N a0a L x (b6T N a0a L m) (fun p => some (.inl p)) (fun p => some (.inr p)) := by kernel_rfl
def d0R (a0a : a0g) (a0h : a0b Tryz.prog ((a0T N) a0a)) : Sg Tryz.prog 0 107 :=
 ((d0Q N) a0a a0h).lp ((e1Z N) a0a) N a0e ((c2L N) a0a a0h) (fun m kn L x => (c8f N a0a a0h m kn L x).trans (c56 N a0a L x _ _ _)) (fun L m x => (d65 N a0a L m x).trans (c56 N a0a L x (b6T N a0a L m) (fun p => some (.inl p)) (fun p => some (.inr p)))) fun L x hx => (a4i a1f) x hx
def c0Z (a0a : a0g) (v1 : LD) (v2 : LB) (k0 : Int → Option R) : Option R :=
 bnd (c2M N a0a v1 v2 (v1.length : Int) 0) fun y0 =>
 bif (a04 y0) then
  k0 (a0P y0)
 else
  bif (a0r y0).isSome then
   k0 (-1)
  else
   none
def d0S (a0a : a0g) (v1 : LD) (v2 : LB) : Option (Int) := c0Z N a0a v1 v2 (fun p => some p)
theorem d66 (a0a : a0g) (v1 : LD) (v2 : LB) (k0 : Int → Option R) : c0Z N a0a v1 v2 k0 = (d0S N a0a v1 v2).bind k0 := by
 unfold d0S c0Z
 repeat' (first | with_reducible apply a0k | (with_reducible apply a0y; intro _) | rfl)
def c8g : Sh := { tmps := [(0, .c (.sl 9)), (1, .c (.s))], mem := [] }
def e4j (a0a : a0g) (L : List Lf) : List (Bool × Res) := bnd (c0Z N a0a (ll L 1) (ls L 2) (fun p => some p)) fun q => [(q.isSome, ([.c (.i .i64 (q.getD default))], []))]
theorem e10 (a0a : a0g) (a0h : a0b Tryz.prog ((a0T N) a0a)) (L : List Lf) : bd Tryz.prog ((e1Y N) a0a) ((d0R N) a0a a0h).h 107 c8g L = c0Z N a0a (ll L 1) (ls L 2) (fun p => some ([.c (.i .i64 p)], [])) := by kernel_rfl
theorem e60 (a0a : a0g) (a0h : a0b Tryz.prog ((a0T N) a0a)) : a0V Tryz.prog 107 c8g ((e4j N) a0a) :=
 ((d0R N) a0a a0h).fn a0e ((c2L N) a0a a0h) fun L x hx => ((e10 N a0a a0h L).trans ((d66 N a0a ..).trans (a1f x hx)))
def d67 (a0a : a0g) : a0f := ext 107 (a2n c8g ((e4j N) a0a)) ((e1Y N) a0a)
theorem c57 (a0a : a0g) (a0h : a0b Tryz.prog ((a0T N) a0a)) : a0b Tryz.prog ((d67 N) a0a) := a0V.to ((e60 N) a0a a0h) ((c2L N) a0a a0h)
def f1g : List (Nat × List Nat) := [(0, [0, 1]), (1, [0, 1])]
def f1h : a0M := []
def d68 (a0a : a0g) (a0h : a0b Tryz.prog ((a0T N) a0a)) : Sg Tryz.prog 0 77 := .start f1h f1g
def d3g (a0a : a0g) (v1 : LD) (v2 : LB) (k0 : Bool → Option R) : Option R :=
 bnd (d0S N a0a v1 v2) fun y0 =>
 bif y0.isSome then
  k0 (decide ((y0.getD default) ≥ 0))
 else
  none
def d69 (a0a : a0g) (v1 : LD) (v2 : LB) : Option (Bool) := d3g N a0a v1 v2 (fun p => some p)
theorem e11 (a0a : a0g) (v1 : LD) (v2 : LB) (k0 : Bool → Option R) : d3g N a0a v1 v2 k0 = (d69 N a0a v1 v2).bind k0 := by
 unfold d69 d3g
 repeat' (first | with_reducible apply a0k | (with_reducible apply a0y; intro _) | rfl)
def d7a : Sh := { tmps := [(0, .c (.sl 9)), (1, .c (.s))], mem := [] }
def f1i (a0a : a0g) (L : List Lf) : List (Bool × Res) := bnd (d3g N a0a (ll L 1) (ls L 2) (fun p => some p)) fun q => [(q.isSome, ([.c (.b (q.getD default))], []))]
theorem e61 (a0a : a0g) (a0h : a0b Tryz.prog ((a0T N) a0a)) (L : List Lf) : bd Tryz.prog ((d67 N) a0a) ((d68 N) a0a a0h).h 77 d7a L = d3g N a0a (ll L 1) (ls L 2) (fun p => some ([.c (.b p)], [])) := by kernel_rfl
theorem f1j (a0a : a0g) (a0h : a0b Tryz.prog ((a0T N) a0a)) : a0V Tryz.prog 77 d7a ((f1i N) a0a) :=
 ((d68 N) a0a a0h).fn a0e ((c57 N) a0a a0h) fun L x hx => ((e61 N a0a a0h L).trans ((e11 N a0a ..).trans (a1f x hx)))
def e62 (a0a : a0g) : a0f := ext 77 (a2n d7a ((f1i N) a0a)) ((d67 N) a0a)
theorem d0T (a0a : a0g) (a0h : a0b Tryz.prog ((a0T N) a0a)) : a0b Tryz.prog ((e62 N) a0a) := a0V.to ((f1j N) a0a a0h) ((c57 N) a0a a0h)
def e63 : List (Nat × List Nat) := [(0, [0]), (1, [1])]
def e64 : a0M := []
def d0U (a0a : a0g) (a0h : a0b Tryz.prog ((a0T N) a0a)) : Sg Tryz.prog 0 109 := .start e64 e63
def d0V (N : Nat) (a0a : a0g) (k0 : Unit → R) : R :=
 k0 ()
def e4k (a0a : a0g) : Unit := d0V N a0a (fun p => p)
theorem e12 (a0a : a0g) (k0 : Unit → R) : d0V N a0a k0 = k0 (e4k N a0a) := by
 unfold e4k d0V
 repeat' (first | rfl | apply a0q | (apply a0K; intro _))
def c8h : Sh := { tmps := [(0, .g (.s :: rI 6 ([.sl 9])))], mem := [] }
def e4l (N : Nat) (a0a : a0g) (L : List Lf) : List (Bool × Res) := [(true, ([.c (.i .i64 (li L 2))], []))]
theorem e13 (a0a : a0g) (a0h : a0b Tryz.prog ((a0T N) a0a)) (L : List Lf) : bd Tryz.prog ((e62 N) a0a) ((d0U N) a0a a0h).h 109 c8h L = d0V N a0a (fun _ => some ([.c (.i .i64 (li L 2))], [])) := by kernel_rfl
theorem e65 (a0a : a0g) (a0h : a0b Tryz.prog ((a0T N) a0a)) : a0V Tryz.prog 109 c8h ((e4l N) a0a) :=
 ((d0U N) a0a a0h).fn a0e ((d0T N) a0a a0h) fun L x hx => ((e13 N a0a a0h L).trans ((e12 N a0a ..).trans (a2f _ _ hx)))
def d7b (a0a : a0g) : a0f := ext 109 (a2n c8h ((e4l N) a0a)) ((e62 N) a0a)
theorem c58 (a0a : a0g) (a0h : a0b Tryz.prog ((a0T N) a0a)) : a0b Tryz.prog ((d7b N) a0a) := a0V.to ((e65 N) a0a a0h) ((d0T N) a0a a0h)
def e66 : List (Nat × List Nat) := [(0, [0]), (1, [1])]
def e67 : a0M := []
def d0W (a0a : a0g) (a0h : a0b Tryz.prog ((a0T N) a0a)) : Sg Tryz.prog 0 110 := .start e67 e66
def c00 (N : Nat) (a0a : a0g) (v2 : Int) (k0 : Int → R) : R :=
 k0 (IntKind.wrap .i64 (v2.tdiv 86400))
def d0X (a0a : a0g) (v2 : Int) : Int := c00 N a0a v2 (fun p => p)
theorem e14 (a0a : a0g) (v2 : Int) (k0 : Int → R) : c00 N a0a v2 k0 = k0 (d0X N a0a v2) := by
 unfold d0X c00
 repeat' (first | rfl | apply a0q | (apply a0K; intro _))
def c8i : Sh := { tmps := [(0, .g (.s :: rI 6 ([.sl 9])))], mem := [] }
def e4m (a0a : a0g) (L : List Lf) : List (Bool × Res) := bnd (c00 N a0a (li L 2) (fun p => p)) fun q => [(true, ([.c (.i .i64 q)], []))]
theorem e15 (a0a : a0g) (a0h : a0b Tryz.prog ((a0T N) a0a)) (L : List Lf) : bd Tryz.prog ((d7b N) a0a) ((d0W N) a0a a0h).h 110 c8i L = c00 N a0a (li L 2) (fun p => some ([.c (.i .i64 p)], [])) := by kernel_rfl
theorem e68 (a0a : a0g) (a0h : a0b Tryz.prog ((a0T N) a0a)) : a0V Tryz.prog 110 c8i ((e4m N) a0a) :=
 ((d0W N) a0a a0h).fn a0e ((c58 N) a0a a0h) fun L x hx => ((e15 N a0a a0h L).trans ((e14 N a0a ..).trans (a2f _ _ hx)))
def d7c (a0a : a0g) : a0f := ext 110 (a2n c8i ((e4m N) a0a)) ((d7b N) a0a)
theorem c59 (a0a : a0g) (a0h : a0b Tryz.prog ((a0T N) a0a)) : a0b Tryz.prog ((d7c N) a0a) := a0V.to ((e68 N) a0a a0h) ((c58 N) a0a a0h)
def e69 : List (Nat × List Nat) := [(0, [0]), (1, [1])]
def e7a : a0M := []
def d0Y (a0a : a0g) (a0h : a0b Tryz.prog ((a0T N) a0a)) : Sg Tryz.prog 0 111 := .start e7a e69
def d0Z (N : Nat) (a0a : a0g) (k0 : Unit → R) : R :=
 k0 ()
def e4n (a0a : a0g) : Unit := d0Z N a0a (fun p => p)
theorem e16 (a0a : a0g) (k0 : Unit → R) : d0Z N a0a k0 = k0 (e4n N a0a) := by
 unfold e4n d0Z
 repeat' (first | rfl | apply a0q | (apply a0K; intro _))
def c8j : Sh := { tmps := [(0, .g (.s :: rI 6 ([.sl 9])))], mem := [] }
def e4o (N : Nat) (a0a : a0g) (L : List Lf) : List (Bool × Res) := [(true, ([.c (.i .i64 (li L 3))], []))]
theorem e17 (a0a : a0g) (a0h : a0b Tryz.prog ((a0T N) a0a)) (L : List Lf) : bd Tryz.prog ((d7c N) a0a) ((d0Y N) a0a a0h).h 111 c8j L = d0Z N a0a (fun _ => some ([.c (.i .i64 (li L 3))], [])) := by kernel_rfl
theorem e7b (a0a : a0g) (a0h : a0b Tryz.prog ((a0T N) a0a)) : a0V Tryz.prog 111 c8j ((e4o N) a0a) :=
 ((d0Y N) a0a a0h).fn a0e ((c59 N) a0a a0h) fun L x hx => ((e17 N a0a a0h L).trans ((e16 N a0a ..).trans (a2f _ _ hx)))
def d7d (a0a : a0g) : a0f := ext 111 (a2n c8j ((e4o N) a0a)) ((d7c N) a0a)
theorem c6a (a0a : a0g) (a0h : a0b Tryz.prog ((a0T N) a0a)) : a0b Tryz.prog ((d7d N) a0a) := a0V.to ((e7b N) a0a a0h) ((c59 N) a0a a0h)
def e7c : List (Nat × List Nat) := [(0, [0]), (1, [1])]
def e7d : a0M := []
def d00 (a0a : a0g) (a0h : a0b Tryz.prog ((a0T N) a0a)) : Sg Tryz.prog 0 112 := .start e7d e7c
def d01 (N : Nat) (a0a : a0g) (k0 : Unit → R) : R :=
 k0 ()
def e4p (a0a : a0g) : Unit := d01 N a0a (fun p => p)
theorem e18 (a0a : a0g) (k0 : Unit → R) : d01 N a0a k0 = k0 (e4p N a0a) := by
 unfold e4p d01
 repeat' (first | rfl | apply a0q | (apply a0K; intro _))
def c8k : Sh := { tmps := [(0, .g (.s :: rI 6 ([.sl 9])))], mem := [] }
def e4q (N : Nat) (a0a : a0g) (L : List Lf) : List (Bool × Res) := [(true, ([.c (.i .i64 (li L 4))], []))]
theorem e19 (a0a : a0g) (a0h : a0b Tryz.prog ((a0T N) a0a)) (L : List Lf) : bd Tryz.prog ((d7d N) a0a) ((d00 N) a0a a0h).h 112 c8k L = d01 N a0a (fun _ => some ([.c (.i .i64 (li L 4))], [])) := by kernel_rfl
theorem e7e (a0a : a0g) (a0h : a0b Tryz.prog ((a0T N) a0a)) : a0V Tryz.prog 112 c8k ((e4q N) a0a) :=
 ((d00 N) a0a a0h).fn a0e ((c6a N) a0a a0h) fun L x hx => ((e19 N a0a a0h L).trans ((e18 N a0a ..).trans (a2f _ _ hx)))
def d7e (a0a : a0g) : a0f := ext 112 (a2n c8k ((e4q N) a0a)) ((d7d N) a0a)
theorem c6b (a0a : a0g) (a0h : a0b Tryz.prog ((a0T N) a0a)) : a0b Tryz.prog ((d7e N) a0a) := a0V.to ((e7e N) a0a a0h) ((c6a N) a0a a0h)
def e7f : List (Nat × List Nat) := [(0, [0]), (1, [1])]
def e7g : a0M := []
def d02 (a0a : a0g) (a0h : a0b Tryz.prog ((a0T N) a0a)) : Sg Tryz.prog 0 113 := .start e7g e7f
def d03 (N : Nat) (a0a : a0g) (k0 : Unit → R) : R :=
 k0 ()
def e4r (a0a : a0g) : Unit := d03 N a0a (fun p => p)
theorem e2a (a0a : a0g) (k0 : Unit → R) : d03 N a0a k0 = k0 (e4r N a0a) := by
 unfold e4r d03
 repeat' (first | rfl | apply a0q | (apply a0K; intro _))
def c8l : Sh := { tmps := [(0, .g (.s :: rI 6 ([.sl 9])))], mem := [] }
def e4s (N : Nat) (a0a : a0g) (L : List Lf) : List (Bool × Res) := [(true, ([.c (.i .i64 (li L 5))], []))]
theorem e2b (a0a : a0g) (a0h : a0b Tryz.prog ((a0T N) a0a)) (L : List Lf) : bd Tryz.prog ((d7e N) a0a) ((d02 N) a0a a0h).h 113 c8l L = d03 N a0a (fun _ => some ([.c (.i .i64 (li L 5))], [])) := by kernel_rfl
theorem e7h (a0a : a0g) (a0h : a0b Tryz.prog ((a0T N) a0a)) : a0V Tryz.prog 113 c8l ((e4s N) a0a) :=
 ((d02 N) a0a a0h).fn a0e ((c6b N) a0a a0h) fun L x hx => ((e2b N a0a a0h L).trans ((e2a N a0a ..).trans (a2f _ _ hx)))
def d7f (a0a : a0g) : a0f := ext 113 (a2n c8l ((e4s N) a0a)) ((d7e N) a0a)
theorem c6c (a0a : a0g) (a0h : a0b Tryz.prog ((a0T N) a0a)) : a0b Tryz.prog ((d7f N) a0a) := a0V.to ((e7h N) a0a a0h) ((c6b N) a0a a0h)
def e7i : List (Nat × List Nat) := [(0, [0]), (1, [1])]
def e7j : a0M := []
def d04 (a0a : a0g) (a0h : a0b Tryz.prog ((a0T N) a0a)) : Sg Tryz.prog 0 114 := .start e7j e7i
def d05 (N : Nat) (a0a : a0g) (k0 : Unit → R) : R :=
 k0 ()
def e4t (a0a : a0g) : Unit := d05 N a0a (fun p => p)
theorem e2c (a0a : a0g) (k0 : Unit → R) : d05 N a0a k0 = k0 (e4t N a0a) := by
 unfold e4t d05
 repeat' (first | rfl | apply a0q | (apply a0K; intro _))
def c8m : Sh := { tmps := [(0, .g (.s :: rI 6 ([.sl 9])))], mem := [] }
def e4u (N : Nat) (a0a : a0g) (L : List Lf) : List (Bool × Res) := [(true, ([.c (.i .i64 (li L 6))], []))]
theorem e2d (a0a : a0g) (a0h : a0b Tryz.prog ((a0T N) a0a)) (L : List Lf) : bd Tryz.prog ((d7f N) a0a) ((d04 N) a0a a0h).h 114 c8m L = d05 N a0a (fun _ => some ([.c (.i .i64 (li L 6))], [])) := by kernel_rfl
theorem e7k (a0a : a0g) (a0h : a0b Tryz.prog ((a0T N) a0a)) : a0V Tryz.prog 114 c8m ((e4u N) a0a) :=
 ((d04 N) a0a a0h).fn a0e ((c6c N) a0a a0h) fun L x hx => ((e2d N a0a a0h L).trans ((e2c N a0a ..).trans (a2f _ _ hx)))
def d7g (a0a : a0g) : a0f := ext 114 (a2n c8m ((e4u N) a0a)) ((d7f N) a0a)
theorem c6d (a0a : a0g) (a0h : a0b Tryz.prog ((a0T N) a0a)) : a0b Tryz.prog ((d7g N) a0a) := a0V.to ((e7k N) a0a a0h) ((c6c N) a0a a0h)
def e7l : List (Nat × List Nat) := [(0, [0]), (1, [1])]
def e7m : a0M := []
def d06 (a0a : a0g) (a0h : a0b Tryz.prog ((a0T N) a0a)) : Sg Tryz.prog 0 115 := .start e7m e7l
def c01 (N : Nat) (a0a : a0g) (v2 : Int) (k0 : Int → R) : R :=
 k0 ((IntKind.wrap .i64 (v2.tdiv 86400)).tmod 7)
def d07 (a0a : a0g) (v2 : Int) : Int := c01 N a0a v2 (fun p => p)
theorem e2e (a0a : a0g) (v2 : Int) (k0 : Int → R) : c01 N a0a v2 k0 = k0 (d07 N a0a v2) := by
 unfold d07 c01
 repeat' (first | rfl | apply a0q | (apply a0K; intro _))
def c8n : Sh := { tmps := [(0, .g (.s :: rI 6 ([.sl 9])))], mem := [] }
def e4v (a0a : a0g) (L : List Lf) : List (Bool × Res) := bnd (c01 N a0a (li L 2) (fun p => p)) fun q => [(true, ([.c (.i .i64 q)], []))]
theorem e2f (a0a : a0g) (a0h : a0b Tryz.prog ((a0T N) a0a)) (L : List Lf) : bd Tryz.prog ((d7g N) a0a) ((d06 N) a0a a0h).h 115 c8n L = c01 N a0a (li L 2) (fun p => some ([.c (.i .i64 p)], [])) := by kernel_rfl
theorem e7n (a0a : a0g) (a0h : a0b Tryz.prog ((a0T N) a0a)) : a0V Tryz.prog 115 c8n ((e4v N) a0a) :=
 ((d06 N) a0a a0h).fn a0e ((c6d N) a0a a0h) fun L x hx => ((e2f N a0a a0h L).trans ((e2e N a0a ..).trans (a2f _ _ hx)))
def d7h (a0a : a0g) : a0f := ext 115 (a2n c8n ((e4v N) a0a)) ((d7g N) a0a)
theorem c6e (a0a : a0g) (a0h : a0b Tryz.prog ((a0T N) a0a)) : a0b Tryz.prog ((d7h N) a0a) := a0V.to ((e7n N) a0a a0h) ((c6d N) a0a a0h)
def f1k : List (Nat × List Nat) := [(0, [0, 1]), (1, [3, 2]), (2, [2, 5, 3]), (3, [8, 2, 5, 3]), (5, [8, 2, 5, 3]), (7, [8, 5, 2, 3]), (9, [8, 3, 2]), (11, [8, 3, 2]), (13, [8, 3, 2]), (14, [3, 2]), (12, [3, 2]), (10, [3, 2]), (8, [5, 2]), (6, [2, 5]), (4, [2, 5]), (15, [2, 3])]
def f1l : a0M := [(46, [2, 3], [2, 3], [])]
def d7i (a0a : a0g) (a0h : a0b Tryz.prog ((a0T N) a0a)) : Sg Tryz.prog 0 42 := .start f1l f1k
def b2P (a0a : a0g) (w1 w2 w3 w9 w10 w11 w12 w13 : Int) (k0 : Bool → Option R) : Option R :=
 bif (w1 == 0) then
  none
 else
  bif (w1 == 1) then
   bnd (a6r N w9 w2 w3) fun y0 =>
   k0 y0
  else
   bif (w1 == 2) then
    bnd (d0X N a0a w9) fun y1 =>
    bnd (a6r N y1 w2 w3) fun y2 =>
    k0 y2
   else
    bif (w1 == 3) then
     bnd (a6r N w10 w2 w3) fun y3 =>
     k0 y3
    else
     bif (w1 == 4) then
      bnd (a6r N w11 w2 w3) fun y4 =>
      k0 y4
     else
      bif (w1 == 5) then
       bnd (a6r N w12 w2 w3) fun y5 =>
       k0 y5
      else
       bif (w1 == 6) then
        bnd (a6r N w13 w2 w3) fun y6 =>
        k0 y6
       else
        bif (w1 == 7) then
         bnd (d07 N a0a w9) fun y7 =>
         bnd (a6r N y7 w2 w3) fun y8 =>
         k0 y8
        else
         none
def b2Q (a0a : a0g) (w1 w2 w3 w9 w10 w11 w12 w13 : Int) : Option (Bool) := b2P N a0a w1 w2 w3 w9 w10 w11 w12 w13 (fun p => some p)
theorem c8o (a0a : a0g) (w1 w2 w3 w9 w10 w11 w12 w13 : Int) (k0 : Bool → Option R) : b2P N a0a w1 w2 w3 w9 w10 w11 w12 w13 k0 = (b2Q N a0a w1 w2 w3 w9 w10 w11 w12 w13).bind k0 := by
 unfold b2Q b2P
 repeat' (first | with_reducible apply a0k | (with_reducible apply a0y; intro _) | rfl)
def d08 (a0a : a0g) (L : List Lf) (k0 : Bool → Option R) : Option R := b2P N a0a (li L 1) (li L 2) (li L 3) (li L 9) (li L 10) (li L 11) (li L 12) (li L 13) k0
def d7j : Sh := { tmps := [(2, .c (.p 2 0)), (3, .c (.p 3 0))], mem := [(2, .box (.i .i64 :: [.i .i64, .i .i64, .i .i64, .s, .sl 24])), (3, .box (.s :: rI 6 ([.sl 9])))] }
def e2g (a0a : a0g) (L : List Lf) : List (Bool × (Ex × St)) := bnd (d08 N a0a L (fun p => some p)) fun q => [(q.isSome, (.normal, ⟨[(4, .c (.b (q.getD default)))], []⟩))]
theorem d3h (a0a : a0g) (a0h : a0b Tryz.prog ((a0T N) a0a)) (L : List Lf) : pc Tryz.prog ((d7h N) a0a) ((d7i N) a0a a0h).h 0 100 42 46 d7j L [4] [] = d08 N a0a L (fun p => some (.normal, ⟨[(4, .c (.b p))], []⟩)) := by kernel_rfl
def d7k (a0a : a0g) (a0h : a0b Tryz.prog ((a0T N) a0a)) : Sg Tryz.prog 0 42 :=
 ((d7i N) a0a a0h).cut ((e2g N) a0a) a0e ((c6e N) a0a a0h) fun L x hx => (d3h N a0a a0h L).trans ((c8o N a0a ..).trans (a1f x hx))
def d7l (a0a : a0g) (v0 v1 v2 v3 : Int) (v4 : LB) (v5 : Bool) (v6 : LD) (v7 : LB) (v8 v9 v10 v11 v12 v13 : Int) (v14 : Bool) (v15 : LD) (k0 : Bool → Option R) : Option R :=
 bif (v0 == 1) then
  bnd (e1R N a0a v6 v7 v8 v9 v10 v11 v12 v13 v14 v15) fun y0 =>
  bif y0.isSome then
   k0 (!(y0.getD default))
  else
   none
 else
  bif (v0 == 2) then
   bnd (e1W N a0a v6 v7 v8 v9 v10 v11 v12 v13 v14 v15) fun y1 =>
   bif y1.isSome then
    k0 (y1.getD default)
   else
    none
  else
   bif (v0 == 3) then
    bif (inB 0 v6.length) then
     bnd (c5V N a0a ((v6.getD 0 (.i 0)).cell 0).toI ((v6.getD 0 (.i 0)).cell 1).toI ((v6.getD 0 (.i 0)).cell 2).toI ((v6.getD 0 (.i 0)).cell 3).toI ((v6.getD 0 (.i 0)).cell 4).toS ((v6.getD 0 (.i 0)).cell 5).isNil ((v6.getD 0 (.i 0)).cell 5).items v7 v8 v9 v10 v11 v12 v13 v14 v15) fun y2 =>
     bif y2.isSome then
      k0 (!(y2.getD default))
     else
      none
    else
     none
   else
    bif (v0 == 4) then
     k0 (v8 == v2)
    else
     bif (v0 == 5) then
      bnd (d69 N a0a v15 v4) fun y3 =>
      bif y3.isSome then
       k0 (y3.getD default)
      else
       none
     else
      bif (v0 == 6) then
       bif (Nat.blt v7.length 4294967281) then
        k0 (Lib.contains v7 v4)
       else
        none
      else
       bnd (b2Q N a0a v1 v2 v3 v9 v10 v11 v12 v13) fun y4 =>
       bif y4.isSome then
        k0 (y4.getD default)
       else
        none
def d3i (a0a : a0g) (v0 v1 v2 v3 : Int) (v4 : LB) (v5 : Bool) (v6 : LD) (v7 : LB) (v8 v9 v10 v11 v12 v13 : Int) (v14 : Bool) (v15 : LD) : Option (Bool) := d7l N a0a v0 v1 v2 v3 v4 v5 v6 v7 v8 v9 v10 v11 v12 v13 v14 v15 (fun p => some p)
theorem e2h (a0a : a0g) (v0 v1 v2 v3 : Int) (v4 : LB) (v5 : Bool) (v6 : LD) (v7 : LB) (v8 v9 v10 v11 v12 v13 : Int) (v14 : Bool) (v15 : LD) (k0 : Bool → Option R) : d7l N a0a v0 v1 v2 v3 v4 v5 v6 v7 v8 v9 v10 v11 v12 v13 v14 v15 k0 = (d3i N a0a v0 v1 v2 v3 v4 v5 v6 v7 v8 v9 v10 v11 v12 v13 v14 v15).bind k0 := by
 unfold d3i d7l
 repeat' (first | with_reducible apply a0k | (with_reducible apply a0y; intro _) | rfl)
def f4C (a0a : a0g) (L : List Lf) (k0 : Bool → Option R) : Option R := d7l N a0a (li L 0) (li L 1) (li L 2) (li L 3) (ls L 4) (lb L 5) (ll L 6) (ls L 7) (li L 8) (li L 9) (li L 10) (li L 11) (li L 12) (li L 13) (lb L 14) (ll L 15) k0
theorem e7o (a0a : a0g) (a0h : a0b Tryz.prog ((a0T N) a0a)) (L : List Lf) : bd Tryz.prog ((d7h N) a0a) ((d7k N) a0a a0h).h 42 d0I L = f4C N a0a L (fun p => some ([.c (.b p)], [])) := by kernel_rfl
theorem e7p (a0a : a0g) (a0h : a0b Tryz.prog ((a0T N) a0a)) (L : List Lf) (x : Res) (hx : a5f ((f0V N) (fun v0 v1 v2 v3 v4 v5 v6 v7 v8 v9 v10 v11 v12 v13 v14 v15 => d3i N a0a v0 v1 v2 v3 v4 v5 v6 v7 v8 v9 v10 v11 v12 v13 v14 v15) L) some = some x) : a1I Tryz.prog 42 (a5P (a0p d0I L).tmps) (a0p d0I L).mem x :=
 a3p (n := 200) a0e ((c6e N) a0a a0h) ((d7k N) a0a a0h).ok rfl ((e7o N a0a a0h L).trans ((e2h N a0a ..).trans (a1f x hx)))
def a8F (N : Nat) : Nat → a0g
 | 0 => fun _ _ _ _ _ _ _ _ _ _ _ _ _ _ _ _ => none
 | m + 1 => fun v0 v1 v2 v3 v4 v5 v6 v7 v8 v9 v10 v11 v12 v13 v14 v15 => d3i N (a8F N m) v0 v1 v2 v3 v4 v5 v6 v7 v8 v9 v10 v11 v12 v13 v14 v15
theorem d7m (N : Nat) : ∀ m, a0b Tryz.prog ((a0T N) (a8F N m))
 | 0 => a0Y (d0H N) (AM.enters_of (by kernel_rfl)) (a1h fun L x hx => by
  have h : (none : Option Res) = some x := hx
  cases h)
 | m + 1 => a0Y (d0H N) (AM.enters_of (by kernel_rfl)) (a1h fun L x hx => e7p N (a8F N m) (d7m N m) L x hx)
def e7q : a0f := (a0T N) (a8F N N)
theorem d09 : a0b Tryz.prog (e7q N) := d7m N N
def e7r : List (Nat × List Nat) := [(0, [0]), (1, [1])]
def e7s : a0M := []
def d1a (N : Nat) : Sg Tryz.prog 0 109 := .start e7s e7r
def d1b (N : Nat) (k0 : Unit → R) : R :=
 k0 ()
def e4w : Unit := d1b N (fun p => p)
theorem e2i (k0 : Unit → R) : d1b N k0 = k0 (e4w N) := by
 unfold e4w d1b
 repeat' (first | rfl | apply a0q | (apply a0K; intro _))
def c8p : Sh := { tmps := [(0, .g (.s :: rI 6 ([.sl 9])))], mem := [] }
def e4x (N : Nat) (L : List Lf) : List (Bool × Res) := [(true, ([.c (.i .i64 (li L 2))], []))]
theorem e2j (L : List Lf) : bd Tryz.prog (e7q N) (d1a N).h 109 c8p L = d1b N (fun _ => some ([.c (.i .i64 (li L 2))], [])) := by kernel_rfl
theorem e7t : a0V Tryz.prog 109 c8p (e4x N) :=
 (d1a N).fn a0e (d09 N) fun L x hx => ((e2j N L).trans ((e2i N ..).trans (a2f _ _ hx)))
def d7n : a0f := ext 109 (a2n c8p (e4x N)) (e7q N)
theorem c6f : a0b Tryz.prog (d7n N) := a0V.to (e7t N) (d09 N)
def e7u : List (Nat × List Nat) := [(0, [0]), (1, [1])]
def e7v : a0M := []
def d1c (N : Nat) : Sg Tryz.prog 0 110 := .start e7v e7u
def c02 (N : Nat) (v2 : Int) (k0 : Int → R) : R :=
 k0 (IntKind.wrap .i64 (v2.tdiv 86400))
def c6g (v2 : Int) : Int := c02 N v2 (fun p => p)
theorem e2k (v2 : Int) (k0 : Int → R) : c02 N v2 k0 = k0 (c6g N v2) := by
 unfold c6g c02
 repeat' (first | rfl | apply a0q | (apply a0K; intro _))
def c8q : Sh := { tmps := [(0, .g (.s :: rI 6 ([.sl 9])))], mem := [] }
def e4y (L : List Lf) : List (Bool × Res) := bnd (c02 N (li L 2) (fun p => p)) fun q => [(true, ([.c (.i .i64 q)], []))]
theorem e2l (L : List Lf) : bd Tryz.prog (d7n N) (d1c N).h 110 c8q L = c02 N (li L 2) (fun p => some ([.c (.i .i64 p)], [])) := by kernel_rfl
theorem e7w : a0V Tryz.prog 110 c8q (e4y N) :=
 (d1c N).fn a0e (c6f N) fun L x hx => ((e2l N L).trans ((e2k N ..).trans (a2f _ _ hx)))
def d7o : a0f := ext 110 (a2n c8q (e4y N)) (d7n N)
theorem c6h : a0b Tryz.prog (d7o N) := a0V.to (e7w N) (c6f N)
def e7x : List (Nat × List Nat) := [(0, [0]), (1, [1])]
def e7y : a0M := []
def d1d (N : Nat) : Sg Tryz.prog 0 111 := .start e7y e7x
def d1e (N : Nat) (k0 : Unit → R) : R :=
 k0 ()
def e4z : Unit := d1e N (fun p => p)
theorem e2m (k0 : Unit → R) : d1e N k0 = k0 (e4z N) := by
 unfold e4z d1e
 repeat' (first | rfl | apply a0q | (apply a0K; intro _))
def c8r : Sh := { tmps := [(0, .g (.s :: rI 6 ([.sl 9])))], mem := [] }
def e4A (N : Nat) (L : List Lf) : List (Bool × Res) := [(true, ([.c (.i .i64 (li L 3))], []))]
theorem e2n (L : List Lf) : bd Tryz.prog (d7o N) (d1d N).h 111 c8r L = d1e N (fun _ => some ([.c (.i .i64 (li L 3))], [])) := by kernel_rfl
theorem e7z : a0V Tryz.prog 111 c8r (e4A N) :=
 (d1d N).fn a0e (c6h N) fun L x hx => ((e2n N L).trans ((e2m N ..).trans (a2f _ _ hx)))
def d7p : a0f := ext 111 (a2n c8r (e4A N)) (d7o N)
theorem c6i : a0b Tryz.prog (d7p N) := a0V.to (e7z N) (c6h N)
def e7A : List (Nat × List Nat) := [(0, [0]), (1, [1])]
def e7B : a0M := []
def d1f (N : Nat) : Sg Tryz.prog 0 112 := .start e7B e7A
def d1g (N : Nat) (k0 : Unit → R) : R :=
 k0 ()
def e4B : Unit := d1g N (fun p => p)
theorem e2o (k0 : Unit → R) : d1g N k0 = k0 (e4B N) := by
 unfold e4B d1g
 repeat' (first | rfl | apply a0q | (apply a0K; intro _))
def c8s : Sh := { tmps := [(0, .g (.s :: rI 6 ([.sl 9])))], mem := [] }
def e4C (N : Nat) (L : List Lf) : List (Bool × Res) := [(true, ([.c (.i .i64 (li L 4))], []))]
theorem e2p (L : List Lf) : bd Tryz.prog (d7p N) (d1f N).h 112 c8s L = d1g N (fun _ => some ([.c (.i .i64 (li L 4))], [])) := by kernel_rfl
theorem e7C : a0V Tryz.prog 112 c8s (e4C N) :=
 (d1f N).fn a0e (c6i N) fun L x hx => ((e2p N L).trans ((e2o N ..).trans (a2f _ _ hx)))
def d7q : a0f := ext 112 (a2n c8s (e4C N)) (d7p N)
theorem c6j : a0b Tryz.prog (d7q N) := a0V.to (e7C N) (c6i N)
def e7D : List (Nat × List Nat) := [(0, [0]), (1, [1])]
def e7E : a0M := []
def d1h (N : Nat) : Sg Tryz.prog 0 113 := .start e7E e7D
def d1i (N : Nat) (k0 : Unit → R) : R :=
 k0 ()
def e4D : Unit := d1i N (fun p => p)
theorem e2q (k0 : Unit → R) : d1i N k0 = k0 (e4D N) := by
 unfold e4D d1i
 repeat' (first | rfl | apply a0q | (apply a0K; intro _))
def c8t : Sh := { tmps := [(0, .g (.s :: rI 6 ([.sl 9])))], mem := [] }
def e4E (N : Nat) (L : List Lf) : List (Bool × Res) := [(true, ([.c (.i .i64 (li L 5))], []))]
theorem e2r (L : List Lf) : bd Tryz.prog (d7q N) (d1h N).h 113 c8t L = d1i N (fun _ => some ([.c (.i .i64 (li L 5))], [])) := by kernel_rfl
theorem e7F : a0V Tryz.prog 113 c8t (e4E N) :=
 (d1h N).fn a0e (c6j N) fun L x hx => ((e2r N L).trans ((e2q N ..).trans (a2f _ _ hx)))
def d7r : a0f := ext 113 (a2n c8t (e4E N)) (d7q N)
theorem c6k : a0b Tryz.prog (d7r N) := a0V.to (e7F N) (c6j N)
def e7G : List (Nat × List Nat) := [(0, [0]), (1, [1])]
def e7H : a0M := []
def d1j (N : Nat) : Sg Tryz.prog 0 114 := .start e7H e7G
def d1k (N : Nat) (k0 : Unit → R) : R :=
 k0 ()
def e4F : Unit := d1k N (fun p => p)
theorem e2s (k0 : Unit → R) : d1k N k0 = k0 (e4F N) := by
 unfold e4F d1k
 repeat' (first | rfl | apply a0q | (apply a0K; intro _))
def c8u : Sh := { tmps := [(0, .g (.s :: rI 6 ([.sl 9])))], mem := [] }
def e4G (N : Nat) (L : List Lf) : List (Bool × Res) := [(true, ([.c (.i .i64 (li L 6))], []))]
theorem e2t (L : List Lf) : bd Tryz.prog (d7r N) (d1j N).h 114 c8u L = d1k N (fun _ => some ([.c (.i .i64 (li L 6))], [])) := by kernel_rfl
theorem e7I : a0V Tryz.prog 114 c8u (e4G N) :=
 (d1j N).fn a0e (c6k N) fun L x hx => ((e2t N L).trans ((e2s N ..).trans (a2f _ _ hx)))
def d7s : a0f := ext 114 (a2n c8u (e4G N)) (d7r N)
theorem c6l : a0b Tryz.prog (d7s N) := a0V.to (e7I N) (c6k N)
def e7J : List (Nat × List Nat) := [(0, [0]), (1, [1])]
def e7K : a0M := []
def d1l (N : Nat) : Sg Tryz.prog 0 115 := .start e7K e7J
def c03 (N : Nat) (v2 : Int) (k0 : Int → R) : R :=
 k0 ((IntKind.wrap .i64 (v2.tdiv 86400)).tmod 7)
def c6m (v2 : Int) : Int := c03 N v2 (fun p => p)
theorem e2u (v2 : Int) (k0 : Int → R) : c03 N v2 k0 = k0 (c6m N v2) := by
 unfold c6m c03
 repeat' (first | rfl | apply a0q | (apply a0K; intro _))
def c8v : Sh := { tmps := [(0, .g (.s :: rI 6 ([.sl 9])))], mem := [] }
def e4H (L : List Lf) : List (Bool × Res) := bnd (c03 N (li L 2) (fun p => p)) fun q => [(true, ([.c (.i .i64 q)], []))]
theorem e2v (L : List Lf) : bd Tryz.prog (d7s N) (d1l N).h 115 c8v L = c03 N (li L 2) (fun p => some ([.c (.i .i64 p)], [])) := by kernel_rfl
theorem e7L : a0V Tryz.prog 115 c8v (e4H N) :=
 (d1l N).fn a0e (c6l N) fun L x hx => ((e2v N L).trans ((e2u N ..).trans (a2f _ _ hx)))
def d7t : a0f := ext 115 (a2n c8v (e4H N)) (d7s N)
theorem c6n : a0b Tryz.prog (d7t N) := a0V.to (e7L N) (c6l N)
def e7M : List (Nat × List Nat) := [(0, [0]), (1, [])]
def e7N : a0M := []
def d1m (N : Nat) : Sg Tryz.prog 0 104 := .start e7N e7M
def d1n (N : Nat) (k0 : Unit → R) : R :=
 k0 ()
def e4I : Unit := d1n N (fun p => p)
theorem e2w (k0 : Unit → R) : d1n N k0 = k0 (e4I N) := by
 unfold e4I d1n
 repeat' (first | rfl | apply a0q | (apply a0K; intro _))
def c8w : Sh := { tmps := [(0, .g (.s :: rI 6 ([.sl 9])))], mem := [] }
def e4J (N : Nat) (L : List Lf) : List (Bool × Res) := [(true, ([.c (.i .i64 1)], []))]
theorem e2x (L : List Lf) : bd Tryz.prog (d7t N) (d1m N).h 104 c8w L = d1n N (fun _ => some ([.c (.i .i64 1)], [])) := by kernel_rfl
theorem e7O : a0V Tryz.prog 104 c8w (e4J N) :=
 (d1m N).fn a0e (c6n N) fun L x hx => ((e2x N L).trans ((e2w N ..).trans (a2f _ _ hx)))
def a0W : a0f := ext 104 (a2n c8w (e4J N)) (d7t N)
theorem a0m : a0b Tryz.prog (a0W N) := a0V.to (e7O N) (c6n N)
def f1m : List (Nat × List Nat) := [(0, [0, 1]), (1, [2, 1, 4]), (2, [2, 1, 4, 6]), (3, [2, 1, 4]), (4, [1, 2, 6, 4]), (5, [1, 2, 6, 4, 8, 7]), (6, [23, 22, 21, 2, 6, 4, 8, 7]), (7, [21, 23, 2, 22, 6, 4, 8, 7]), (8, [2, 10, 23, 22, 21, 6, 4, 8, 7]), (9, [10, 2, 6, 4, 23, 22, 21, 8, 7]), (10, [2, 6, 10, 4, 23, 22, 21, 8, 11, 7]), (12, [36, 6, 10, 2, 4, 23, 22, 21, 8, 11, 7]), (14, [36, 11, 8, 7, 2, 10, 4, 23, 22, 21, 6]), (11, [7, 6, 10, 2, 4, 23, 22, 21, 8]), (16, [11, 8, 7, 2, 10, 4, 23, 22, 21, 6]), (17, [8, 11, 7, 2, 10, 4, 23, 22, 21, 6]), (15, [11, 2, 10, 4, 23, 22, 21, 6]), (18, [7, 11, 2, 10, 4, 23, 22, 21, 6]), (19, [11, 7, 2, 10, 4, 23, 22, 21, 6]), (13, [6, 10, 2, 4, 23, 22, 21, 8]), (20, [7, 2, 10, 4, 23, 22, 21, 6, 8]), (21, [10, 4]), (22, [23, 22, 21, 2, 6, 4, 8, 7]), (23, [4])]
def f1n : a0M := [(10, [1, 2, 4], [2, 4], []), (11, [1, 2, 4, 6, 14], [2, 4], []), (18, [2, 4, 6, 7, 8, 21, 22, 23], [2, 4], []), (45056, [2, 4, 6, 7, 10, 11, 21, 22, 23, 53], [2, 4, 10], []), (51002, [2, 4, 6, 7, 8, 10, 11, 21, 22, 23, 49], [2, 4, 10], []), (33050, [2, 4, 6, 7, 8, 10, 11, 21, 22, 23, 47], [2, 4, 10], []), (42041, [2, 4, 6, 7, 8, 10, 11, 21, 22, 23, 36, 42], [2, 4, 10], [])]
def d7u (N : Nat) : Sg Tryz.prog 0 67 := .start f1n f1m
def b2R (N : Nat) (w4 : Int) (k0 : Unit → Option R) (k1 : Unit → Option R) (k2 : Unit → Option R) (k3 : Unit → Option R) (k4 : Unit → Option R) (k5 : Unit → Option R) (k6 : Unit → Option R) (k7 : Unit → Option R) : Option R :=
 bif (w4 == 0) then
  k0 ()
 else
  bif (w4 == 1) then
   k1 ()
  else
   bif (w4 == 2) then
    k2 ()
   else
    bif (w4 == 3) then
     k3 ()
    else
     bif (w4 == 4) then
      k4 ()
     else
      bif (w4 == 5) then
       k5 ()
      else
       bif (w4 == 6) then
        k6 ()
       else
        bif (w4 == 7) then
         k7 ()
        else
         none
def c2N (w4 : Int) : Option (Sum (Unit) (Sum (Unit) (Sum (Unit) (Sum (Unit) (Sum (Unit) (Sum (Unit) (Sum (Unit) (Unit)))))))) := b2R N w4 (fun p => some (.inl p)) (fun p => some (.inr (.inl p))) (fun p => some (.inr (.inr (.inl p)))) (fun p => some (.inr (.inr (.inr (.inl p))))) (fun p => some (.inr (.inr (.inr (.inr (.inl p)))))) (fun p => some (.inr (.inr (.inr (.inr (.inr (.inl p))))))) (fun p => some (.inr (.inr (.inr (.inr (.inr (.inr (.inl p)))))))) (fun p => some (.inr (.inr (.inr (.inr (.inr (.inr (.inr p))))))))
theorem c8x (w4 : Int) (k0 : Unit → Option R) (k1 : Unit → Option R) (k2 : Unit → Option R) (k3 : Unit → Option R) (k4 : Unit → Option R) (k5 : Unit → Option R) (k6 : Unit → Option R) (k7 : Unit → Option R) : b2R N w4 k0 k1 k2 k3 k4 k5 k6 k7 = (c2N N w4).bind (a1m k0 (a1m k1 (a1m k2 (a1m k3 (a1m k4 (a1m k5 (a1m k6 k7))))))) := by
 unfold c2N b2R
 repeat' (first | with_reducible apply a0k | (with_reducible apply a0y; intro _) | rfl)
def a32 : Sh := { tmps := [(1, .c (.sl 40)), (2, .c (.p 2 0)), (4, .c (.p 4 0))], mem := [(2, .box (.s :: rI 7 ([.s, .sl 24]))), (4, .box (.s :: rI 6 ([.sl 9])))] }
def c04 (L : List Lf) (_ : Unit) : Ex × St := (.normal, mg (a0p a32 L) [1, 2, 4, 6] [(6, .c (.v .nilFunc))] [2, 4] [])
def c05 (L : List Lf) (_ : Unit) : Ex × St := (.normal, mg (a0p a32 L) [1, 2, 4, 6] [(6, .c (.f 109 []))] [2, 4] [])
def c06 (L : List Lf) (_ : Unit) : Ex × St := (.normal, mg (a0p a32 L) [1, 2, 4, 6] [(6, .c (.f 110 []))] [2, 4] [])
def c07 (L : List Lf) (_ : Unit) : Ex × St := (.normal, mg (a0p a32 L) [1, 2, 4, 6] [(6, .c (.f 111 []))] [2, 4] [])
def c08 (L : List Lf) (_ : Unit) : Ex × St := (.normal, mg (a0p a32 L) [1, 2, 4, 6] [(6, .c (.f 112 []))] [2, 4] [])
def c09 (L : List Lf) (_ : Unit) : Ex × St := (.normal, mg (a0p a32 L) [1, 2, 4, 6] [(6, .c (.f 113 []))] [2, 4] [])
def c1a (L : List Lf) (_ : Unit) : Ex × St := (.normal, mg (a0p a32 L) [1, 2, 4, 6] [(6, .c (.f 114 []))] [2, 4] [])
def c1b (L : List Lf) (_ : Unit) : Ex × St := (.normal, mg (a0p a32 L) [1, 2, 4, 6] [(6, .c (.f 115 []))] [2, 4] [])
def e2y (L : List Lf) : List (Bool × (Ex × St)) := bnd (b2R N (li L 4) (fun p => some (.inl p)) (fun p => some (.inr (.inl p))) (fun p => some (.inr (.inr (.inl p)))) (fun p => some (.inr (.inr (.inr (.inl p))))) (fun p => some (.inr (.inr (.inr (.inr (.inl p)))))) (fun p => some (.inr (.inr (.inr (.inr (.inr (.inl p))))))) (fun p => some (.inr (.inr (.inr (.inr (.inr (.inr (.inl p)))))))) (fun p => some (.inr (.inr (.inr (.inr (.inr (.inr (.inr p))))))))) fun q => [((a04 q), c04 L ()), ((a04 (a0r q)), c05 L ()), ((a04 (a0r (a0r q))), c06 L ()), ((a04 (a0r (a0r (a0r q)))), c07 L ()), ((a04 (a0r (a0r (a0r (a0r q))))), c08 L ()), ((a04 (a0r (a0r (a0r (a0r (a0r q)))))), c09 L ()), ((a04 (a0r (a0r (a0r (a0r (a0r (a0r q))))))), c1a L ()), ((a0r (a0r (a0r (a0r (a0r (a0r (a0r q))))))).isSome, c1b L ())]
theorem d3j (L : List Lf) : pc Tryz.prog (a0W N) (d7u N).h 0 100 67 10 a32 L [1, 2, 4, 6] [2, 4] = b2R N (li L 4) (fun _ => some (c04 L ())) (fun _ => some (c05 L ())) (fun _ => some (c06 L ())) (fun _ => some (c07 L ())) (fun _ => some (c08 L ())) (fun _ => some (c09 L ())) (fun _ => some (c1a L ())) (fun _ => some (c1b L ())) := by kernel_rfl
def d7v : Sg Tryz.prog 0 67 :=
 (d7u N).cut (e2y N) a0e (a0m N) fun L x hx => (d3j N L).trans ((c8x N ..).trans ((a4i (a4i (a4i (a4i (a4i (a4i (a4i a1f))))))) x hx))
def b2S (w2 : Bool) (w5 : Int) (k0 : Unit → Option R) (k1 : Unit → Option R) (k2 : Unit → Option R) (k3 : Unit → Option R) (k4 : Unit → Option R) (k5 : Unit → Option R) (k6 : Unit → Option R) (k7 : Unit → Option R) (k8 : Unit → Option R) : Option R :=
 bif w2 then
  bnd (c2N N w5) fun y0 =>
  bif (a04 y0) then
   k0 ()
  else
   bif (a04 (a0r y0)) then
    k1 ()
   else
    bif (a04 (a0r (a0r y0))) then
     k2 ()
    else
     bif (a04 (a0r (a0r (a0r y0)))) then
      k3 ()
     else
      bif (a04 (a0r (a0r (a0r (a0r y0))))) then
       k4 ()
      else
       bif (a04 (a0r (a0r (a0r (a0r (a0r y0)))))) then
        k5 ()
       else
        bif (a04 (a0r (a0r (a0r (a0r (a0r (a0r y0))))))) then
         k6 ()
        else
         bif (a0r (a0r (a0r (a0r (a0r (a0r (a0r y0))))))).isSome then
          k7 ()
         else
          none
 else
  k8 ()
def c2O (w2 : Bool) (w5 : Int) : Option (Sum (Unit) (Sum (Unit) (Sum (Unit) (Sum (Unit) (Sum (Unit) (Sum (Unit) (Sum (Unit) (Sum (Unit) (Unit))))))))) := b2S N w2 w5 (fun p => some (.inl p)) (fun p => some (.inr (.inl p))) (fun p => some (.inr (.inr (.inl p)))) (fun p => some (.inr (.inr (.inr (.inl p))))) (fun p => some (.inr (.inr (.inr (.inr (.inl p)))))) (fun p => some (.inr (.inr (.inr (.inr (.inr (.inl p))))))) (fun p => some (.inr (.inr (.inr (.inr (.inr (.inr (.inl p)))))))) (fun p => some (.inr (.inr (.inr (.inr (.inr (.inr (.inr (.inl p))))))))) (fun p => some (.inr (.inr (.inr (.inr (.inr (.inr (.inr (.inr p)))))))))
theorem c8y (w2 : Bool) (w5 : Int) (k0 : Unit → Option R) (k1 : Unit → Option R) (k2 : Unit → Option R) (k3 : Unit → Option R) (k4 : Unit → Option R) (k5 : Unit → Option R) (k6 : Unit → Option R) (k7 : Unit → Option R) (k8 : Unit → Option R) : b2S N w2 w5 k0 k1 k2 k3 k4 k5 k6 k7 k8 = (c2O N w2 w5).bind (a1m k0 (a1m k1 (a1m k2 (a1m k3 (a1m k4 (a1m k5 (a1m k6 (a1m k7 k8)))))))) := by
 unfold c2O b2S
 repeat' (first | with_reducible apply a0k | (with_reducible apply a0y; intro _) | rfl)
def a2W : Sh := { tmps := [(1, .c (.sl 40)), (2, .c (.p 2 0)), (4, .c (.p 4 0)), (6, .c (.f 104 [])), (14, .c (.b))], mem := [(2, .box (.s :: rI 7 ([.s, .sl 24]))), (4, .box (.s :: rI 6 ([.sl 9])))] }
def c1c (L : List Lf) (_ : Unit) : Ex × St := (.normal, mg (a0p a2W L) [1, 2, 4, 6] [(6, .c (.v .nilFunc))] [2, 4] [])
def c1d (L : List Lf) (_ : Unit) : Ex × St := (.normal, mg (a0p a2W L) [1, 2, 4, 6] [(6, .c (.f 109 []))] [2, 4] [])
def c1e (L : List Lf) (_ : Unit) : Ex × St := (.normal, mg (a0p a2W L) [1, 2, 4, 6] [(6, .c (.f 110 []))] [2, 4] [])
def c1f (L : List Lf) (_ : Unit) : Ex × St := (.normal, mg (a0p a2W L) [1, 2, 4, 6] [(6, .c (.f 111 []))] [2, 4] [])
def c1g (L : List Lf) (_ : Unit) : Ex × St := (.normal, mg (a0p a2W L) [1, 2, 4, 6] [(6, .c (.f 112 []))] [2, 4] [])
def c1h (L : List Lf) (_ : Unit) : Ex × St := (.normal, mg (a0p a2W L) [1, 2, 4, 6] [(6, .c (.f 113 []))] [2, 4] [])
def c1i (L : List Lf) (_ : Unit) : Ex × St := (.normal, mg (a0p a2W L) [1, 2, 4, 6] [(6, .c (.f 114 []))] [2, 4] [])
def c1j (L : List Lf) (_ : Unit) : Ex × St := (.normal, mg (a0p a2W L) [1, 2, 4, 6] [(6, .c (.f 115 []))] [2, 4] [])
def e2z (L : List Lf) : List (Bool × (Ex × St)) := bnd (b2S N (lb L 2) (li L 5) (fun p => some (.inl p)) (fun p => some (.inr (.inl p))) (fun p => some (.inr (.inr (.inl p)))) (fun p => some (.inr (.inr (.inr (.inl p))))) (fun p => some (.inr (.inr (.inr (.inr (.inl p)))))) (fun p => some (.inr (.inr (.inr (.inr (.inr (.inl p))))))) (fun p => some (.inr (.inr (.inr (.inr (.inr (.inr (.inl p)))))))) (fun p => some (.inr (.inr (.inr (.inr (.inr (.inr (.inr (.inl p))))))))) (fun p => some (.inr (.inr (.inr (.inr (.inr (.inr (.inr (.inr p)))))))))) fun q => [((a04 q), c1c L ()), ((a04 (a0r q)), c1d L ()), ((a04 (a0r (a0r q))), c1e L ()), ((a04 (a0r (a0r (a0r q)))), c1f L ()), ((a04 (a0r (a0r (a0r (a0r q))))), c1g L ()), ((a04 (a0r (a0r (a0r (a0r (a0r q)))))), c1h L ()), ((a04 (a0r (a0r (a0r (a0r (a0r (a0r q))))))), c1i L ()), ((a04 (a0r (a0r (a0r (a0r (a0r (a0r (a0r q)))))))), c1j L ()), ((a0r (a0r (a0r (a0r (a0r (a0r (a0r (a0r q)))))))).isSome, (.normal, mg (a0p a2W L) [1, 2, 4, 6] [] [2, 4] []))]
theorem d3k (L : List Lf) : pc Tryz.prog (a0W N) (d7v N).h 0 100 67 11 a2W L [1, 2, 4, 6] [2, 4] = b2S N (lb L 2) (li L 5) (fun _ => some (c1c L ())) (fun _ => some (c1d L ())) (fun _ => some (c1e L ())) (fun _ => some (c1f L ())) (fun _ => some (c1g L ())) (fun _ => some (c1h L ())) (fun _ => some (c1i L ())) (fun _ => some (c1j L ())) (fun _ => some (.normal, mg (a0p a2W L) [1, 2, 4, 6] [] [2, 4] [])) := by kernel_rfl
def d7w : Sg Tryz.prog 0 67 :=
 (d7v N).cut (e2z N) a0e (a0m N) fun L x hx => (d3k N L).trans ((c8y N ..).trans ((a4i (a4i (a4i (a4i (a4i (a4i (a4i (a4i a1f)))))))) x hx))
def a5W (N : Nat) (w0 : Int) (w6 : Bool) (k0 : Int → R) : R :=
 bif w6 then
  k0 (IntKind.wrap .i64 (w0 + 1))
 else
  k0 1
def b1E (w0 : Int) (w6 : Bool) : Int := a5W N w0 w6 (fun p => p)
theorem c2P (w0 : Int) (w6 : Bool) (k0 : Int → R) : a5W N w0 w6 k0 = k0 (b1E N w0 w6) := by
 unfold b1E a5W
 repeat' (first | rfl | apply a0q | (apply a0K; intro _))
def b5x : Sh := { tmps := [(2, .c (.p 2 0)), (4, .c (.p 4 0)), (6, .c (.nilf)), (7, .c (.i .i64)), (10, .c (.p 10 0)), (11, .c (.i .i64)), (21, .c (.sl 40)), (22, .c (.i .i64)), (23, .c (.i .i64)), (53, .c (.b))], mem := [(2, .box (.s :: rI 7 ([.s, .sl 24]))), (4, .box (.s :: rI 6 ([.sl 9]))), (10, .box (.s :: rI 6 ([.sl 9])))] }
def b2T (L : List Lf) (p : Int) : Ex × St := (.normal, mg (a0p b5x L) [2, 4, 6, 7, 10, 11, 21, 22, 23] [(7, .c (.i .i64 p))] [2, 4, 10] [])
def c8z (L : List Lf) : List (Bool × (Ex × St)) := bnd (a5W N (li L 0) (lb L 6) (fun p => p)) fun q => [(true, b2T L q)]
theorem c2Q (L : List Lf) : pc Tryz.prog (a0W N) (d7w N).h 0 100 67 45056 b5x L [2, 4, 6, 7, 10, 11, 21, 22, 23] [2, 4, 10] = a5W N (li L 0) (lb L 6) (fun p => some (b2T L p)) := by kernel_rfl
def d7x : Sg Tryz.prog 0 67 :=
 (d7w N).cut (c8z N) a0e (a0m N) fun L x hx => (c2Q N L).trans ((c2P N ..).trans (a2f _ _ hx))
def a71 (w0 w1 w2 : Int) (w7 : Bool) (k0 : Int → R) : R :=
 bif w7 then
  k0 w0
 else
  bnd (bif (decide (w1 ≥ 0)) then (w2 == (IntKind.wrap .i64 (w1 + 1))) else false) fun y0 =>
  bnd (b1E N w0 y0) fun y1 =>
  k0 y1
def b1F (w0 w1 w2 : Int) (w7 : Bool) : Int := a71 N w0 w1 w2 w7 (fun p => p)
theorem c2R (w0 w1 w2 : Int) (w7 : Bool) (k0 : Int → R) : a71 N w0 w1 w2 w7 k0 = k0 (b1F N w0 w1 w2 w7) := by
 unfold b1F a71
 repeat' (first | rfl | apply a0q | (apply a0K; intro _))
def b8N (L : List Lf) (k0 : Int → R) : R := a71 N (li L 0) (li L 1) (li L 2) (lb L 7) k0
def b5y : Sh := { tmps := [(2, .c (.p 2 0)), (4, .c (.p 4 0)), (6, .c (.nilf)), (7, .c (.i .i64)), (8, .c (.i .i64)), (10, .c (.p 10 0)), (11, .c (.i .i64)), (21, .c (.sl 40)), (22, .c (.i .i64)), (23, .c (.i .i64)), (49, .c (.b))], mem := [(2, .box (.s :: rI 7 ([.s, .sl 24]))), (4, .box (.s :: rI 6 ([.sl 9]))), (10, .box (.s :: rI 6 ([.sl 9])))] }
def b2U (L : List Lf) (p : Int) : Ex × St := (.normal, mg (a0p b5y L) [2, 4, 6, 7, 10, 11, 21, 22, 23] [(7, .c (.i .i64 p))] [2, 4, 10] [])
def c8A (L : List Lf) : List (Bool × (Ex × St)) := bnd (b8N N L (fun p => p)) fun q => [(true, b2U L q)]
theorem c2S (L : List Lf) : pc Tryz.prog (a0W N) (d7x N).h 0 100 67 51002 b5y L [2, 4, 6, 7, 10, 11, 21, 22, 23] [2, 4, 10] = b8N N L (fun p => some (b2U L p)) := by kernel_rfl
def d7y : Sg Tryz.prog 0 67 :=
 (d7x N).cut (c8A N) a0e (a0m N) fun L x hx => (c2S N L).trans ((c2R N ..).trans (a2f _ _ hx))
def c2T (w3 : LD) (w4 w7 w9 w10 w11 w12 w13 : Int) (w14 : LB) (w15 : Bool) (w16 : LD) (w0 w1 w5 : Int) (kr : Int → Int → Int → Option R) (k0 : Ty1 → Option R) (k1 : Unit → Option R) : Option R :=
 bif (decide (w5 < w4)) then
  bif (inB w5 w3.length) then
   bnd (a8F N N w10 w11 w12 w13 w14 w15 w16 ((w3.getD w5.toNat (.i 0)).cell 0).toS ((w3.getD w5.toNat (.i 0)).cell 1).toI ((w3.getD w5.toNat (.i 0)).cell 2).toI ((w3.getD w5.toNat (.i 0)).cell 3).toI ((w3.getD w5.toNat (.i 0)).cell 4).toI ((w3.getD w5.toNat (.i 0)).cell 5).toI ((w3.getD w5.toNat (.i 0)).cell 6).toI ((w3.getD w5.toNat (.i 0)).cell 7).isNil ((w3.getD w5.toNat (.i 0)).cell 7).items) fun y0 =>
   bif y0.isSome then
    bif (!(y0.getD default)) then
     kr w0 w1 (IntKind.wrap .i64 (w5 + 1))
    else
     bnd (IntKind.wrap .i64 (((w3.getD w5.toNat (.i 0)).cell 2).toI.tdiv 86400)) fun y1 =>
     bif (w7 == 3) then
      none
     else
      bif (w7 == 4) then
       bnd (b1F N w0 w1 y1 (y1 == w1)) fun y2 =>
       bif (decide (y2 ≥ w9)) then
        k0 (((w3.getD w5.toNat (.i 0)).cell 0).toS, ((w3.getD w5.toNat (.i 0)).cell 1).toI, ((w3.getD w5.toNat (.i 0)).cell 2).toI, ((w3.getD w5.toNat (.i 0)).cell 3).toI, ((w3.getD w5.toNat (.i 0)).cell 4).toI, ((w3.getD w5.toNat (.i 0)).cell 5).toI, ((w3.getD w5.toNat (.i 0)).cell 6).toI, ((w3.getD w5.toNat (.i 0)).cell 7).isNil, ((w3.getD w5.toNat (.i 0)).cell 7).items)
       else
        kr y2 y1 (IntKind.wrap .i64 (w5 + 1))
      else
       none
   else
    none
  else
   none
 else
  k1 ()
def c2U (N : Nat) {R : Type} (w3 : LD) (w4 w7 w9 w10 w11 w12 w13 : Int) (w14 : LB) (w15 : Bool) (w16 : LD) : Nat → Int → Int → Int → (Ty1 → Option R) → (Unit → Option R) → Option R
 | 0, _, _, _, _, _ => none
 | m + 1, w0, w1, w5, k0, k1 => c2T N w3 w4 w7 w9 w10 w11 w12 w13 w14 w15 w16 w0 w1 w5 (fun w0 w1 w5 => c2U N w3 w4 w7 w9 w10 w11 w12 w13 w14 w15 w16 m w0 w1 w5 k0 k1) k0 k1
def e2A (w3 : LD) (w4 w7 w9 w10 w11 w12 w13 : Int) (w14 : LB) (w15 : Bool) (w16 : LD) (w0 w1 w5 : Int) : Option (Sum (Ty1) (Unit)) := c2U N (R := (Sum (Ty1) (Unit))) w3 w4 w7 w9 w10 w11 w12 w13 w14 w15 w16 N w0 w1 w5 (fun p => some (.inl p)) (fun p => some (.inr p))
def b2V (L x : List Lf) (kr : List Lf → Option R) (k0 : Ty1 → Option R) (k1 : Unit → Option R) : Option R := c2T N (ll L 3) (li L 4) (li L 7) (li L 9) (li L 10) (li L 11) (li L 12) (li L 13) (ls L 14) (lb L 15) (ll L 16) (li x 0) (li x 1) (li x 2) (fun w0 w1 w5 => kr [.i w0, .i w1, .i w5]) k0 k1
theorem c6o (L x : List Lf) (kr : List Lf → Option R) (k0 : Ty1 → Option R) (k1 : Unit → Option R) : b2V N L x kr k0 k1 = (b2V N L x (fun y => some (.inl y)) (fun p => some (.inr (.inl p))) (fun p => some (.inr (.inr p)))).bind (a1m kr (a1m k0 k1)) := by
 unfold b2V c2T
 repeat' (first | with_reducible apply a0k | (with_reducible apply a0y; intro _) | rfl)
def b6U (L : List Lf) (m : Nat) (x : List Lf) : Option (Sum (Ty1) (Unit)) := c2U N (R := (Sum (Ty1) (Unit))) (ll L 3) (li L 4) (li L 7) (li L 9) (li L 10) (li L 11) (li L 12) (li L 13) (ls L 14) (lb L 15) (ll L 16) m (li x 0) (li x 1) (li x 2) (fun p => some (.inl p)) (fun p => some (.inr p))
def a7o : Sh := { tmps := [(2, .c (.p 2 0)), (4, .c (.p 4 0)), (6, .c (.nilf)), (7, .c (.i .i64)), (8, .c (.i .i64)), (21, .c (.sl 40)), (22, .c (.i .i64)), (23, .c (.i .i64))], mem := [(2, .box (.s :: rI 7 ([.s, .sl 24]))), (4, .box (.s :: rI 6 ([.sl 9])))] }
def c1k (L : List Lf) (p : Ty1) : Ex × St := let p1 := p.2; let p2 := p1.2; let p3 := p2.2; let p4 := p3.2; let p5 := p4.2; let p6 := p5.2; let p7 := p6.2; let p8 := p7.2; (.ret, ⟨[(4, .c (.p 4 0)), (5, .c (.b true))], [(4, .box [.s p.1, .i .i64 p1.1, .i .i64 p2.1, .i .i64 p3.1, .i .i64 p4.1, .i .i64 p5.1, .i .i64 p6.1, .sl 9 p7.1 p8])]⟩)
def e2B (L : List Lf) : List (Bool × (Ex × St)) := bnd (b6U N L N (pk a7o [0, 1, 5] L)) fun q => [((a04 q), c1k L (a0P q)), ((a0r q).isSome, ((.exit 0), mg (a0p a7o L) [4] [] [4] []))]
theorem c8B (m : Nat) (kn : St → Option (Ex × St)) (L x : List Lf) : lpB Tryz.prog (a0W N) (d7y N).h 0 67 18 a7o [0, 1, 5] [4, 5] [4] (m + 100) kn L x = b2V N L x (fun y => kn (a0p a7o (mx a7o [0, 1, 5] L y))) (fun p => some (c1k L p)) (fun _ => some ((.exit 0), mg (a0p a7o L) [4] [] [4] [])) := by kernel_rfl
theorem d7z (L : List Lf) (m : Nat) (x : List Lf) : b6U N L (m + 1) x = b2V N L x (b6U N L m) (fun p => some (.inl p)) (fun p => some (.inr p)) := by kernel_rfl
def c8C : Sg Tryz.prog 0 67 :=
 (d7y N).lp (e2B N) N a0e (a0m N) (fun m kn L x => (c8B N m kn L x).trans (c6o N L x _ _ _)) (fun L m x => (d7z N L m x).trans (c6o N L x (b6U N L m) (fun p => some (.inl p)) (fun p => some (.inr p)))) fun L x hx => (a4i a1f) x hx
def a3M (N : Nat) (w0 : Int) (w6 : Bool) (k0 : Int → R) : R :=
 bif w6 then
  k0 (IntKind.wrap .i64 (w0 + 1))
 else
  k0 1
def a6D (w0 : Int) (w6 : Bool) : Int := a3M N w0 w6 (fun p => p)
theorem b9L (w0 : Int) (w6 : Bool) (k0 : Int → R) : a3M N w0 w6 k0 = k0 (a6D N w0 w6) := by
 unfold a6D a3M
 repeat' (first | rfl | apply a0q | (apply a0K; intro _))
def b2W : Sh := { tmps := [(2, .c (.p 2 0)), (4, .c (.p 4 0)), (6, .c (.f 109 [])), (7, .c (.i .i64)), (10, .c (.p 10 0)), (11, .c (.i .i64)), (21, .c (.sl 40)), (22, .c (.i .i64)), (23, .c (.i .i64)), (53, .c (.b))], mem := [(2, .box (.s :: rI 7 ([.s, .sl 24]))), (4, .box (.s :: rI 6 ([.sl 9]))), (10, .box (.s :: rI 6 ([.sl 9])))] }
def b01 (L : List Lf) (p : Int) : Ex × St := (.normal, mg (a0p b2W L) [2, 4, 6, 7, 10, 11, 21, 22, 23] [(7, .c (.i .i64 p))] [2, 4, 10] [])
def c6p (L : List Lf) : List (Bool × (Ex × St)) := bnd (a3M N (li L 0) (lb L 6) (fun p => p)) fun q => [(true, b01 L q)]
theorem b9M (L : List Lf) : pc Tryz.prog (a0W N) ((c8C N).no 45056).h 0 100 67 45056 b2W L [2, 4, 6, 7, 10, 11, 21, 22, 23] [2, 4, 10] = a3M N (li L 0) (lb L 6) (fun p => some (b01 L p)) := by kernel_rfl
def c8D : Sg Tryz.prog 0 67 :=
 (c8C N).add (((c8C N).no 45056).cut (c6p N) a0e (a0m N) fun L x hx => (b9M N L).trans ((b9L N ..).trans (a2f _ _ hx))) 45056
def a4O (w0 w1 w2 : Int) (w7 : Bool) (k0 : Int → R) : R :=
 bif w7 then
  k0 w0
 else
  bnd (bif (decide (w1 ≥ 0)) then (w2 == (IntKind.wrap .i64 (w1 + 1))) else false) fun y0 =>
  bnd (a6D N w0 y0) fun y1 =>
  k0 y1
def a6E (w0 w1 w2 : Int) (w7 : Bool) : Int := a4O N w0 w1 w2 w7 (fun p => p)
theorem b9N (w0 w1 w2 : Int) (w7 : Bool) (k0 : Int → R) : a4O N w0 w1 w2 w7 k0 = k0 (a6E N w0 w1 w2 w7) := by
 unfold a6E a4O
 repeat' (first | rfl | apply a0q | (apply a0K; intro _))
def b5z (L : List Lf) (k0 : Int → R) : R := a4O N (li L 0) (li L 1) (li L 2) (lb L 7) k0
def b2X : Sh := { tmps := [(2, .c (.p 2 0)), (4, .c (.p 4 0)), (6, .c (.f 109 [])), (7, .c (.i .i64)), (8, .c (.i .i64)), (10, .c (.p 10 0)), (11, .c (.i .i64)), (21, .c (.sl 40)), (22, .c (.i .i64)), (23, .c (.i .i64)), (49, .c (.b))], mem := [(2, .box (.s :: rI 7 ([.s, .sl 24]))), (4, .box (.s :: rI 6 ([.sl 9]))), (10, .box (.s :: rI 6 ([.sl 9])))] }
def b02 (L : List Lf) (p : Int) : Ex × St := (.normal, mg (a0p b2X L) [2, 4, 6, 7, 10, 11, 21, 22, 23] [(7, .c (.i .i64 p))] [2, 4, 10] [])
def c6q (L : List Lf) : List (Bool × (Ex × St)) := bnd (b5z N L (fun p => p)) fun q => [(true, b02 L q)]
theorem b9O (L : List Lf) : pc Tryz.prog (a0W N) ((c8D N).no 51002).h 0 100 67 51002 b2X L [2, 4, 6, 7, 10, 11, 21, 22, 23] [2, 4, 10] = b5z N L (fun p => some (b02 L p)) := by kernel_rfl
def d7A : Sg Tryz.prog 0 67 :=
 (c8D N).add (((c8D N).no 51002).cut (c6q N) a0e (a0m N) fun L x hx => (b9O N L).trans ((b9N N ..).trans (a2f _ _ hx))) 51002
def a5X (w0 w1 w2 : Int) (w7 : Bool) (w30 : Int) (k0 : Int × Int → R) : R :=
 bif w7 then
  bnd (a6E N w0 w1 w2 (w2 == w1)) fun y0 =>
  k0 (y0, w2)
 else
  k0 ((IntKind.wrap .i64 (w0 + w30)), w1)
def a73 (w0 w1 w2 : Int) (w7 : Bool) (w30 : Int) : Int × Int := a5X N w0 w1 w2 w7 w30 (fun p => p)
theorem c2V (w0 w1 w2 : Int) (w7 : Bool) (w30 : Int) (k0 : Int × Int → R) : a5X N w0 w1 w2 w7 w30 k0 = k0 (a73 N w0 w1 w2 w7 w30) := by
 unfold a73 a5X
 repeat' (first | rfl | apply a0q | (apply a0K; intro _))
def b8O (L : List Lf) (k0 : Int × Int → R) : R := a5X N (li L 0) (li L 1) (li L 2) (lb L 7) (li L 30) k0
def b5A : Sh := { tmps := [(2, .c (.p 2 0)), (4, .c (.p 4 0)), (6, .c (.f 109 [])), (7, .c (.i .i64)), (8, .c (.i .i64)), (10, .c (.p 10 0)), (11, .c (.i .i64)), (21, .c (.sl 40)), (22, .c (.i .i64)), (23, .c (.i .i64)), (47, .c (.b))], mem := [(2, .box (.s :: rI 7 ([.s, .sl 24]))), (4, .box (.s :: rI 6 ([.sl 9]))), (10, .box (.s :: rI 6 ([.sl 9])))] }
def b2Y (L : List Lf) (p : Int × Int) : Ex × St := (.normal, mg (a0p b5A L) [2, 4, 6, 7, 8, 10, 21, 22, 23] [(7, .c (.i .i64 p.1)), (8, .c (.i .i64 p.2))] [2, 4, 10] [])
def c8E (L : List Lf) : List (Bool × (Ex × St)) := bnd (b8O N L (fun p => p)) fun q => [(true, b2Y L q)]
theorem c2W (L : List Lf) : pc Tryz.prog (a0W N) (d7A N).h 0 100 67 33050 b5A L [2, 4, 6, 7, 8, 10, 21, 22, 23] [2, 4, 10] = b8O N L (fun p => some (b2Y L p)) := by kernel_rfl
def d7B : Sg Tryz.prog 0 67 :=
 (d7A N).cut (c8E N) a0e (a0m N) fun L x hx => (c2W N L).trans ((c2V N ..).trans (a2f _ _ hx))
def a5Y (w0 w1 w2 w7 : Int) (w8 : Bool) (w31 : Int) (k0 : Int × Int → R) : R :=
 bif w8 then
  k0 (w31, w1)
 else
  bnd (a73 N w0 w1 w2 (w7 == 4) w31) fun y0 =>
  k0 y0
def a5Z (w0 w1 w2 w7 : Int) (w8 : Bool) (w31 : Int) : Int × Int := a5Y N w0 w1 w2 w7 w8 w31 (fun p => p)
theorem c2X (w0 w1 w2 w7 : Int) (w8 : Bool) (w31 : Int) (k0 : Int × Int → R) : a5Y N w0 w1 w2 w7 w8 w31 k0 = k0 (a5Z N w0 w1 w2 w7 w8 w31) := by
 unfold a5Z a5Y
 repeat' (first | rfl | apply a0q | (apply a0K; intro _))
def b8P (L : List Lf) (k0 : Int × Int → R) : R := a5Y N (li L 0) (li L 1) (li L 2) (li L 7) (lb L 8) (li L 31) k0
def b5B : Sh := { tmps := [(2, .c (.p 2 0)), (4, .c (.p 4 0)), (6, .c (.f 109 [])), (7, .c (.i .i64)), (8, .c (.i .i64)), (10, .c (.p 10 0)), (11, .c (.i .i64)), (21, .c (.sl 40)), (22, .c (.i .i64)), (23, .c (.i .i64)), (36, .c (.i .i64)), (42, .c (.b))], mem := [(2, .box (.s :: rI 7 ([.s, .sl 24]))), (4, .box (.s :: rI 6 ([.sl 9]))), (10, .box (.s :: rI 6 ([.sl 9])))] }
def b2Z (L : List Lf) (p : Int × Int) : Ex × St := (.normal, mg (a0p b5B L) [2, 4, 6, 7, 8, 10, 21, 22, 23] [(7, .c (.i .i64 p.1)), (8, .c (.i .i64 p.2))] [2, 4, 10] [])
def c8F (L : List Lf) : List (Bool × (Ex × St)) := bnd (b8P N L (fun p => p)) fun q => [(true, b2Z L q)]
theorem c2Y (L : List Lf) : pc Tryz.prog (a0W N) (d7B N).h 0 100 67 42041 b5B L [2, 4, 6, 7, 8, 10, 21, 22, 23] [2, 4, 10] = b8P N L (fun p => some (b2Z L p)) := by kernel_rfl
def c8G : Sg Tryz.prog 0 67 :=
 (d7B N).cut (c8F N) a0e (a0m N) fun L x hx => (c2Y N L).trans ((c2X N ..).trans (a2f _ _ hx))
def a7p (w3 : LD) (w4 w7 w9 w10 w11 w12 w13 : Int) (w14 : LB) (w15 : Bool) (w16 : LD) (w0 w1 w5 : Int) (kr : Int → Int → Int → Option R) (k0 : Ty1 → Option R) (k1 : Unit → Option R) : Option R :=
 bif (decide (w5 < w4)) then
  bif (inB w5 w3.length) then
   bnd (a8F N N w10 w11 w12 w13 w14 w15 w16 ((w3.getD w5.toNat (.i 0)).cell 0).toS ((w3.getD w5.toNat (.i 0)).cell 1).toI ((w3.getD w5.toNat (.i 0)).cell 2).toI ((w3.getD w5.toNat (.i 0)).cell 3).toI ((w3.getD w5.toNat (.i 0)).cell 4).toI ((w3.getD w5.toNat (.i 0)).cell 5).toI ((w3.getD w5.toNat (.i 0)).cell 6).toI ((w3.getD w5.toNat (.i 0)).cell 7).isNil ((w3.getD w5.toNat (.i 0)).cell 7).items) fun y0 =>
   bif y0.isSome then
    bif (!(y0.getD default)) then
     kr w0 w1 (IntKind.wrap .i64 (w5 + 1))
    else
     bnd (IntKind.wrap .i64 (((w3.getD w5.toNat (.i 0)).cell 2).toI.tdiv 86400)) fun y1 =>
     bnd (a5Z N w0 w1 y1 w7 (w7 == 3) ((w3.getD w5.toNat (.i 0)).cell 2).toI) fun y2 =>
     bif (decide (y2.1 ≥ w9)) then
      k0 (((w3.getD w5.toNat (.i 0)).cell 0).toS, ((w3.getD w5.toNat (.i 0)).cell 1).toI, ((w3.getD w5.toNat (.i 0)).cell 2).toI, ((w3.getD w5.toNat (.i 0)).cell 3).toI, ((w3.getD w5.toNat (.i 0)).cell 4).toI, ((w3.getD w5.toNat (.i 0)).cell 5).toI, ((w3.getD w5.toNat (.i 0)).cell 6).toI, ((w3.getD w5.toNat (.i 0)).cell 7).isNil, ((w3.getD w5.toNat (.i 0)).cell 7).items)
     else
      kr y2.1 y2.2 (IntKind.wrap .i64 (w5 + 1))
   else
    none
  else
   none
 else
  k1 ()
def b20 (N : Nat) {R : Type} (w3 : LD) (w4 w7 w9 w10 w11 w12 w13 : Int) (w14 : LB) (w15 : Bool) (w16 : LD) : Nat → Int → Int → Int → (Ty1 → Option R) → (Unit → Option R) → Option R
 | 0, _, _, _, _, _ => none
 | m + 1, w0, w1, w5, k0, k1 => a7p N w3 w4 w7 w9 w10 w11 w12 w13 w14 w15 w16 w0 w1 w5 (fun w0 w1 w5 => b20 N w3 w4 w7 w9 w10 w11 w12 w13 w14 w15 w16 m w0 w1 w5 k0 k1) k0 k1
def b8Q (w3 : LD) (w4 w7 w9 w10 w11 w12 w13 : Int) (w14 : LB) (w15 : Bool) (w16 : LD) (w0 w1 w5 : Int) : Option (Sum (Ty1) (Unit)) := b20 N (R := (Sum (Ty1) (Unit))) w3 w4 w7 w9 w10 w11 w12 w13 w14 w15 w16 N w0 w1 w5 (fun p => some (.inl p)) (fun p => some (.inr p))
def a9e (L x : List Lf) (kr : List Lf → Option R) (k0 : Ty1 → Option R) (k1 : Unit → Option R) : Option R := a7p N (ll L 3) (li L 4) (li L 7) (li L 9) (li L 10) (li L 11) (li L 12) (li L 13) (ls L 14) (lb L 15) (ll L 16) (li x 0) (li x 1) (li x 2) (fun w0 w1 w5 => kr [.i w0, .i w1, .i w5]) k0 k1
theorem c1l (L x : List Lf) (kr : List Lf → Option R) (k0 : Ty1 → Option R) (k1 : Unit → Option R) : a9e N L x kr k0 k1 = (a9e N L x (fun y => some (.inl y)) (fun p => some (.inr (.inl p))) (fun p => some (.inr (.inr p)))).bind (a1m kr (a1m k0 k1)) := by
 unfold a9e a7p
 repeat' (first | with_reducible apply a0k | (with_reducible apply a0y; intro _) | rfl)
def b21 (L : List Lf) (m : Nat) (x : List Lf) : Option (Sum (Ty1) (Unit)) := b20 N (R := (Sum (Ty1) (Unit))) (ll L 3) (li L 4) (li L 7) (li L 9) (li L 10) (li L 11) (li L 12) (li L 13) (ls L 14) (lb L 15) (ll L 16) m (li x 0) (li x 1) (li x 2) (fun p => some (.inl p)) (fun p => some (.inr p))
def a5C : Sh := { tmps := [(2, .c (.p 2 0)), (4, .c (.p 4 0)), (6, .c (.f 109 [])), (7, .c (.i .i64)), (8, .c (.i .i64)), (21, .c (.sl 40)), (22, .c (.i .i64)), (23, .c (.i .i64))], mem := [(2, .box (.s :: rI 7 ([.s, .sl 24]))), (4, .box (.s :: rI 6 ([.sl 9])))] }
def b8R (L : List Lf) (p : Ty1) : Ex × St := let p1 := p.2; let p2 := p1.2; let p3 := p2.2; let p4 := p3.2; let p5 := p4.2; let p6 := p5.2; let p7 := p6.2; let p8 := p7.2; (.ret, ⟨[(4, .c (.p 4 0)), (5, .c (.b true))], [(4, .box [.s p.1, .i .i64 p1.1, .i .i64 p2.1, .i .i64 p3.1, .i .i64 p4.1, .i .i64 p5.1, .i .i64 p6.1, .sl 9 p7.1 p8])]⟩)
def d7C (L : List Lf) : List (Bool × (Ex × St)) := bnd (b21 N L N (pk a5C [0, 1, 5] L)) fun q => [((a04 q), b8R L (a0P q)), ((a0r q).isSome, ((.exit 0), mg (a0p a5C L) [4] [] [4] []))]
theorem c6r (m : Nat) (kn : St → Option (Ex × St)) (L x : List Lf) : lpB Tryz.prog (a0W N) ((c8G N).no 18).h 0 67 18 a5C [0, 1, 5] [4, 5] [4] (m + 100) kn L x = a9e N L x (fun y => kn (a0p a5C (mx a5C [0, 1, 5] L y))) (fun p => some (b8R L p)) (fun _ => some ((.exit 0), mg (a0p a5C L) [4] [] [4] [])) := by kernel_rfl
theorem d3l (L : List Lf) (m : Nat) (x : List Lf) : b21 N L (m + 1) x = a9e N L x (b21 N L m) (fun p => some (.inl p)) (fun p => some (.inr p)) := by kernel_rfl
def c2Z : Sg Tryz.prog 0 67 :=
 (c8G N).add (((c8G N).no 18).lp (d7C N) N a0e (a0m N) (fun m kn L x => (c6r N m kn L x).trans (c1l N L x _ _ _)) (fun L m x => (d3l N L m x).trans (c1l N L x (b21 N L m) (fun p => some (.inl p)) (fun p => some (.inr p)))) fun L x hx => (a4i a1f) x hx) 18
def a3e (N : Nat) (w0 : Int) (w6 : Bool) (k0 : Int → R) : R :=
 bif w6 then
  k0 (IntKind.wrap .i64 (w0 + 1))
 else
  k0 1
def a5p (w0 : Int) (w6 : Bool) : Int := a3e N w0 w6 (fun p => p)
theorem b8S (w0 : Int) (w6 : Bool) (k0 : Int → R) : a3e N w0 w6 k0 = k0 (a5p N w0 w6) := by
 unfold a5p a3e
 repeat' (first | rfl | apply a0q | (apply a0K; intro _))
def b03 : Sh := { tmps := [(2, .c (.p 2 0)), (4, .c (.p 4 0)), (6, .c (.f 110 [])), (7, .c (.i .i64)), (10, .c (.p 10 0)), (11, .c (.i .i64)), (21, .c (.sl 40)), (22, .c (.i .i64)), (23, .c (.i .i64)), (53, .c (.b))], mem := [(2, .box (.s :: rI 7 ([.s, .sl 24]))), (4, .box (.s :: rI 6 ([.sl 9]))), (10, .box (.s :: rI 6 ([.sl 9])))] }
def a9f (L : List Lf) (p : Int) : Ex × St := (.normal, mg (a0p b03 L) [2, 4, 6, 7, 10, 11, 21, 22, 23] [(7, .c (.i .i64 p))] [2, 4, 10] [])
def c20 (L : List Lf) : List (Bool × (Ex × St)) := bnd (a3e N (li L 0) (lb L 6) (fun p => p)) fun q => [(true, a9f L q)]
theorem b8T (L : List Lf) : pc Tryz.prog (a0W N) ((c2Z N).no 45056).h 0 100 67 45056 b03 L [2, 4, 6, 7, 10, 11, 21, 22, 23] [2, 4, 10] = a3e N (li L 0) (lb L 6) (fun p => some (a9f L p)) := by kernel_rfl
def c21 : Sg Tryz.prog 0 67 :=
 (c2Z N).add (((c2Z N).no 45056).cut (c20 N) a0e (a0m N) fun L x hx => (b8T N L).trans ((b8S N ..).trans (a2f _ _ hx))) 45056
def a33 (w0 w1 w2 : Int) (w7 : Bool) (k0 : Int → R) : R :=
 bif w7 then
  k0 w0
 else
  bnd (bif (decide (w1 ≥ 0)) then (w2 == (IntKind.wrap .i64 (w1 + 1))) else false) fun y0 =>
  bnd (a5p N w0 y0) fun y1 =>
  k0 y1
def a5q (w0 w1 w2 : Int) (w7 : Bool) : Int := a33 N w0 w1 w2 w7 (fun p => p)
theorem b8U (w0 w1 w2 : Int) (w7 : Bool) (k0 : Int → R) : a33 N w0 w1 w2 w7 k0 = k0 (a5q N w0 w1 w2 w7) := by
 unfold a5q a33
 repeat' (first | rfl | apply a0q | (apply a0K; intro _))
def b22 (L : List Lf) (k0 : Int → R) : R := a33 N (li L 0) (li L 1) (li L 2) (lb L 7) k0
def b04 : Sh := { tmps := [(2, .c (.p 2 0)), (4, .c (.p 4 0)), (6, .c (.f 110 [])), (7, .c (.i .i64)), (8, .c (.i .i64)), (10, .c (.p 10 0)), (11, .c (.i .i64)), (21, .c (.sl 40)), (22, .c (.i .i64)), (23, .c (.i .i64)), (49, .c (.b))], mem := [(2, .box (.s :: rI 7 ([.s, .sl 24]))), (4, .box (.s :: rI 6 ([.sl 9]))), (10, .box (.s :: rI 6 ([.sl 9])))] }
def a9g (L : List Lf) (p : Int) : Ex × St := (.normal, mg (a0p b04 L) [2, 4, 6, 7, 10, 11, 21, 22, 23] [(7, .c (.i .i64 p))] [2, 4, 10] [])
def c22 (L : List Lf) : List (Bool × (Ex × St)) := bnd (b22 N L (fun p => p)) fun q => [(true, a9g L q)]
theorem b8V (L : List Lf) : pc Tryz.prog (a0W N) ((c21 N).no 51002).h 0 100 67 51002 b04 L [2, 4, 6, 7, 10, 11, 21, 22, 23] [2, 4, 10] = b22 N L (fun p => some (a9g L p)) := by kernel_rfl
def c23 : Sg Tryz.prog 0 67 :=
 (c21 N).add (((c21 N).no 51002).cut (c22 N) a0e (a0m N) fun L x hx => (b8V N L).trans ((b8U N ..).trans (a2f _ _ hx))) 51002
def a4P (w0 w1 w2 : Int) (w7 : Bool) (w30 : Int) (k0 : Int × Int → R) : R :=
 bif w7 then
  bnd (a5q N w0 w1 w2 (w2 == w1)) fun y0 =>
  k0 (y0, w2)
 else
  bnd (c6g N w30) fun y1 =>
  k0 ((IntKind.wrap .i64 (w0 + y1)), w1)
def a6F (w0 w1 w2 : Int) (w7 : Bool) (w30 : Int) : Int × Int := a4P N w0 w1 w2 w7 w30 (fun p => p)
theorem b9P (w0 w1 w2 : Int) (w7 : Bool) (w30 : Int) (k0 : Int × Int → R) : a4P N w0 w1 w2 w7 w30 k0 = k0 (a6F N w0 w1 w2 w7 w30) := by
 unfold a6F a4P
 repeat' (first | rfl | apply a0q | (apply a0K; intro _))
def b5C (L : List Lf) (k0 : Int × Int → R) : R := a4P N (li L 0) (li L 1) (li L 2) (lb L 7) (li L 30) k0
def b23 : Sh := { tmps := [(2, .c (.p 2 0)), (4, .c (.p 4 0)), (6, .c (.f 110 [])), (7, .c (.i .i64)), (8, .c (.i .i64)), (10, .c (.p 10 0)), (11, .c (.i .i64)), (21, .c (.sl 40)), (22, .c (.i .i64)), (23, .c (.i .i64)), (47, .c (.b))], mem := [(2, .box (.s :: rI 7 ([.s, .sl 24]))), (4, .box (.s :: rI 6 ([.sl 9]))), (10, .box (.s :: rI 6 ([.sl 9])))] }
def b05 (L : List Lf) (p : Int × Int) : Ex × St := (.normal, mg (a0p b23 L) [2, 4, 6, 7, 8, 10, 21, 22, 23] [(7, .c (.i .i64 p.1)), (8, .c (.i .i64 p.2))] [2, 4, 10] [])
def c6s (L : List Lf) : List (Bool × (Ex × St)) := bnd (b5C N L (fun p => p)) fun q => [(true, b05 L q)]
theorem b9Q (L : List Lf) : pc Tryz.prog (a0W N) ((c23 N).no 33050).h 0 100 67 33050 b23 L [2, 4, 6, 7, 8, 10, 21, 22, 23] [2, 4, 10] = b5C N L (fun p => some (b05 L p)) := by kernel_rfl
def c24 : Sg Tryz.prog 0 67 :=
 (c23 N).add (((c23 N).no 33050).cut (c6s N) a0e (a0m N) fun L x hx => (b9Q N L).trans ((b9P N ..).trans (a2f _ _ hx))) 33050
def a4Q (w0 w1 w2 w7 : Int) (w8 : Bool) (w31 : Int) (k0 : Int × Int → R) : R :=
 bif w8 then
  bnd (c6g N w31) fun y0 =>
  k0 (y0, w1)
 else
  bnd (a6F N w0 w1 w2 (w7 == 4) w31) fun y1 =>
  k0 y1
def a4R (w0 w1 w2 w7 : Int) (w8 : Bool) (w31 : Int) : Int × Int := a4Q N w0 w1 w2 w7 w8 w31 (fun p => p)
theorem b9R (w0 w1 w2 w7 : Int) (w8 : Bool) (w31 : Int) (k0 : Int × Int → R) : a4Q N w0 w1 w2 w7 w8 w31 k0 = k0 (a4R N w0 w1 w2 w7 w8 w31) := by
 unfold a4R a4Q
 repeat' (first | rfl | apply a0q | (apply a0K; intro _))
def b5D (L : List Lf) (k0 : Int × Int → R) : R := a4Q N (li L 0) (li L 1) (li L 2) (li L 7) (lb L 8) (li L 31) k0
def b24 : Sh := { tmps := [(2, .c (.p 2 0)), (4, .c (.p 4 0)), (6, .c (.f 110 [])), (7, .c (.i .i64)), (8, .c (.i .i64)), (10, .c (.p 10 0)), (11, .c (.i .i64)), (21, .c (.sl 40)), (22, .c (.i .i64)), (23, .c (.i .i64)), (36, .c (.i .i64)), (42, .c (.b))], mem := [(2, .box (.s :: rI 7 ([.s, .sl 24]))), (4, .box (.s :: rI 6 ([.sl 9]))), (10, .box (.s :: rI 6 ([.sl 9])))] }
def b06 (L : List Lf) (p : Int × Int) : Ex × St := (.normal, mg (a0p b24 L) [2, 4, 6, 7, 8, 10, 21, 22, 23] [(7, .c (.i .i64 p.1)), (8, .c (.i .i64 p.2))] [2, 4, 10] [])
def c6t (L : List Lf) : List (Bool × (Ex × St)) := bnd (b5D N L (fun p => p)) fun q => [(true, b06 L q)]
theorem b9S (L : List Lf) : pc Tryz.prog (a0W N) ((c24 N).no 42041).h 0 100 67 42041 b24 L [2, 4, 6, 7, 8, 10, 21, 22, 23] [2, 4, 10] = b5D N L (fun p => some (b06 L p)) := by kernel_rfl
def c25 : Sg Tryz.prog 0 67 :=
 (c24 N).add (((c24 N).no 42041).cut (c6t N) a0e (a0m N) fun L x hx => (b9S N L).trans ((b9R N ..).trans (a2f _ _ hx))) 42041
def a5D (w3 : LD) (w4 w7 w9 w10 w11 w12 w13 : Int) (w14 : LB) (w15 : Bool) (w16 : LD) (w0 w1 w5 : Int) (kr : Int → Int → Int → Option R) (k0 : Ty1 → Option R) (k1 : Unit → Option R) : Option R :=
 bif (decide (w5 < w4)) then
  bif (inB w5 w3.length) then
   bnd (a8F N N w10 w11 w12 w13 w14 w15 w16 ((w3.getD w5.toNat (.i 0)).cell 0).toS ((w3.getD w5.toNat (.i 0)).cell 1).toI ((w3.getD w5.toNat (.i 0)).cell 2).toI ((w3.getD w5.toNat (.i 0)).cell 3).toI ((w3.getD w5.toNat (.i 0)).cell 4).toI ((w3.getD w5.toNat (.i 0)).cell 5).toI ((w3.getD w5.toNat (.i 0)).cell 6).toI ((w3.getD w5.toNat (.i 0)).cell 7).isNil ((w3.getD w5.toNat (.i 0)).cell 7).items) fun y0 =>
   bif y0.isSome then
    bif (!(y0.getD default)) then
     kr w0 w1 (IntKind.wrap .i64 (w5 + 1))
    else
     bnd (IntKind.wrap .i64 (((w3.getD w5.toNat (.i 0)).cell 2).toI.tdiv 86400)) fun y1 =>
     bnd (a4R N w0 w1 y1 w7 (w7 == 3) ((w3.getD w5.toNat (.i 0)).cell 2).toI) fun y2 =>
     bif (decide (y2.1 ≥ w9)) then
      k0 (((w3.getD w5.toNat (.i 0)).cell 0).toS, ((w3.getD w5.toNat (.i 0)).cell 1).toI, ((w3.getD w5.toNat (.i 0)).cell 2).toI, ((w3.getD w5.toNat (.i 0)).cell 3).toI, ((w3.getD w5.toNat (.i 0)).cell 4).toI, ((w3.getD w5.toNat (.i 0)).cell 5).toI, ((w3.getD w5.toNat (.i 0)).cell 6).toI, ((w3.getD w5.toNat (.i 0)).cell 7).isNil, ((w3.getD w5.toNat (.i 0)).cell 7).items)
     else
      kr y2.1 y2.2 (IntKind.wrap .i64 (w5 + 1))
   else
    none
  else
   none
 else
  k1 ()
def b0g (N : Nat) {R : Type} (w3 : LD) (w4 w7 w9 w10 w11 w12 w13 : Int) (w14 : LB) (w15 : Bool) (w16 : LD) : Nat → Int → Int → Int → (Ty1 → Option R) → (Unit → Option R) → Option R
 | 0, _, _, _, _, _ => none
 | m + 1, w0, w1, w5, k0, k1 => a5D N w3 w4 w7 w9 w10 w11 w12 w13 w14 w15 w16 w0 w1 w5 (fun w0 w1 w5 => b0g N w3 w4 w7 w9 w10 w11 w12 w13 w14 w15 w16 m w0 w1 w5 k0 k1) k0 k1
def b4y (w3 : LD) (w4 w7 w9 w10 w11 w12 w13 : Int) (w14 : LB) (w15 : Bool) (w16 : LD) (w0 w1 w5 : Int) : Option (Sum (Ty1) (Unit)) := b0g N (R := (Sum (Ty1) (Unit))) w3 w4 w7 w9 w10 w11 w12 w13 w14 w15 w16 N w0 w1 w5 (fun p => some (.inl p)) (fun p => some (.inr p))
def a7q (L x : List Lf) (kr : List Lf → Option R) (k0 : Ty1 → Option R) (k1 : Unit → Option R) : Option R := a5D N (ll L 3) (li L 4) (li L 7) (li L 9) (li L 10) (li L 11) (li L 12) (li L 13) (ls L 14) (lb L 15) (ll L 16) (li x 0) (li x 1) (li x 2) (fun w0 w1 w5 => kr [.i w0, .i w1, .i w5]) k0 k1
theorem b8W (L x : List Lf) (kr : List Lf → Option R) (k0 : Ty1 → Option R) (k1 : Unit → Option R) : a7q N L x kr k0 k1 = (a7q N L x (fun y => some (.inl y)) (fun p => some (.inr (.inl p))) (fun p => some (.inr (.inr p)))).bind (a1m kr (a1m k0 k1)) := by
 unfold a7q a5D
 repeat' (first | with_reducible apply a0k | (with_reducible apply a0y; intro _) | rfl)
def b0h (L : List Lf) (m : Nat) (x : List Lf) : Option (Sum (Ty1) (Unit)) := b0g N (R := (Sum (Ty1) (Unit))) (ll L 3) (li L 4) (li L 7) (li L 9) (li L 10) (li L 11) (li L 12) (li L 13) (ls L 14) (lb L 15) (ll L 16) m (li x 0) (li x 1) (li x 2) (fun p => some (.inl p)) (fun p => some (.inr p))
def a4x : Sh := { tmps := [(2, .c (.p 2 0)), (4, .c (.p 4 0)), (6, .c (.f 110 [])), (7, .c (.i .i64)), (8, .c (.i .i64)), (21, .c (.sl 40)), (22, .c (.i .i64)), (23, .c (.i .i64))], mem := [(2, .box (.s :: rI 7 ([.s, .sl 24]))), (4, .box (.s :: rI 6 ([.sl 9])))] }
def b5E (L : List Lf) (p : Ty1) : Ex × St := let p1 := p.2; let p2 := p1.2; let p3 := p2.2; let p4 := p3.2; let p5 := p4.2; let p6 := p5.2; let p7 := p6.2; let p8 := p7.2; (.ret, ⟨[(4, .c (.p 4 0)), (5, .c (.b true))], [(4, .box [.s p.1, .i .i64 p1.1, .i .i64 p2.1, .i .i64 p3.1, .i .i64 p4.1, .i .i64 p5.1, .i .i64 p6.1, .sl 9 p7.1 p8])]⟩)
def d3m (L : List Lf) : List (Bool × (Ex × St)) := bnd (b0h N L N (pk a4x [0, 1, 5] L)) fun q => [((a04 q), b5E L (a0P q)), ((a0r q).isSome, ((.exit 0), mg (a0p a4x L) [4] [] [4] []))]
theorem c26 (m : Nat) (kn : St → Option (Ex × St)) (L x : List Lf) : lpB Tryz.prog (a0W N) ((c25 N).no 18).h 0 67 18 a4x [0, 1, 5] [4, 5] [4] (m + 100) kn L x = a7q N L x (fun y => kn (a0p a4x (mx a4x [0, 1, 5] L y))) (fun p => some (b5E L p)) (fun _ => some ((.exit 0), mg (a0p a4x L) [4] [] [4] [])) := by kernel_rfl
theorem c8H (L : List Lf) (m : Nat) (x : List Lf) : b0h N L (m + 1) x = a7q N L x (b0h N L m) (fun p => some (.inl p)) (fun p => some (.inr p)) := by kernel_rfl
def c27 : Sg Tryz.prog 0 67 :=
 (c25 N).add (((c25 N).no 18).lp (d3m N) N a0e (a0m N) (fun m kn L x => (c26 N m kn L x).trans (b8W N L x _ _ _)) (fun L m x => (c8H N L m x).trans (b8W N L x (b0h N L m) (fun p => some (.inl p)) (fun p => some (.inr p)))) fun L x hx => (a4i a1f) x hx) 18
def a2H (N : Nat) (w0 : Int) (w6 : Bool) (k0 : Int → R) : R :=
 bif w6 then
  k0 (IntKind.wrap .i64 (w0 + 1))
 else
  k0 1
def a4C (w0 : Int) (w6 : Bool) : Int := a2H N w0 w6 (fun p => p)
theorem b5Y (w0 : Int) (w6 : Bool) (k0 : Int → R) : a2H N w0 w6 k0 = k0 (a4C N w0 w6) := by
 unfold a4C a2H
 repeat' (first | rfl | apply a0q | (apply a0K; intro _))
def a9h : Sh := { tmps := [(2, .c (.p 2 0)), (4, .c (.p 4 0)), (6, .c (.f 111 [])), (7, .c (.i .i64)), (10, .c (.p 10 0)), (11, .c (.i .i64)), (21, .c (.sl 40)), (22, .c (.i .i64)), (23, .c (.i .i64)), (53, .c (.b))], mem := [(2, .box (.s :: rI 7 ([.s, .sl 24]))), (4, .box (.s :: rI 6 ([.sl 9]))), (10, .box (.s :: rI 6 ([.sl 9])))] }
def a8p (L : List Lf) (p : Int) : Ex × St := (.normal, mg (a0p a9h L) [2, 4, 6, 7, 10, 11, 21, 22, 23] [(7, .c (.i .i64 p))] [2, 4, 10] [])
def b9T (L : List Lf) : List (Bool × (Ex × St)) := bnd (a2H N (li L 0) (lb L 6) (fun p => p)) fun q => [(true, a8p L q)]
theorem b5Z (L : List Lf) : pc Tryz.prog (a0W N) ((c27 N).no 45056).h 0 100 67 45056 a9h L [2, 4, 6, 7, 10, 11, 21, 22, 23] [2, 4, 10] = a2H N (li L 0) (lb L 6) (fun p => some (a8p L p)) := by kernel_rfl
def c28 : Sg Tryz.prog 0 67 :=
 (c27 N).add (((c27 N).no 45056).cut (b9T N) a0e (a0m N) fun L x hx => (b5Z N L).trans ((b5Y N ..).trans (a2f _ _ hx))) 45056
def a3q (w0 w1 w2 : Int) (w7 : Bool) (k0 : Int → R) : R :=
 bif w7 then
  k0 w0
 else
  bnd (bif (decide (w1 ≥ 0)) then (w2 == (IntKind.wrap .i64 (w1 + 1))) else false) fun y0 =>
  bnd (a4C N w0 y0) fun y1 =>
  k0 y1
def a4D (w0 w1 w2 : Int) (w7 : Bool) : Int := a3q N w0 w1 w2 w7 (fun p => p)
theorem b50 (w0 w1 w2 : Int) (w7 : Bool) (k0 : Int → R) : a3q N w0 w1 w2 w7 k0 = k0 (a4D N w0 w1 w2 w7) := by
 unfold a4D a3q
 repeat' (first | rfl | apply a0q | (apply a0K; intro _))
def b07 (L : List Lf) (k0 : Int → R) : R := a3q N (li L 0) (li L 1) (li L 2) (lb L 7) k0
def a9i : Sh := { tmps := [(2, .c (.p 2 0)), (4, .c (.p 4 0)), (6, .c (.f 111 [])), (7, .c (.i .i64)), (8, .c (.i .i64)), (10, .c (.p 10 0)), (11, .c (.i .i64)), (21, .c (.sl 40)), (22, .c (.i .i64)), (23, .c (.i .i64)), (49, .c (.b))], mem := [(2, .box (.s :: rI 7 ([.s, .sl 24]))), (4, .box (.s :: rI 6 ([.sl 9]))), (10, .box (.s :: rI 6 ([.sl 9])))] }
def a8q (L : List Lf) (p : Int) : Ex × St := (.normal, mg (a0p a9i L) [2, 4, 6, 7, 10, 11, 21, 22, 23] [(7, .c (.i .i64 p))] [2, 4, 10] [])
def b9U (L : List Lf) : List (Bool × (Ex × St)) := bnd (b07 N L (fun p => p)) fun q => [(true, a8q L q)]
theorem b51 (L : List Lf) : pc Tryz.prog (a0W N) ((c28 N).no 51002).h 0 100 67 51002 a9i L [2, 4, 6, 7, 10, 11, 21, 22, 23] [2, 4, 10] = b07 N L (fun p => some (a8q L p)) := by kernel_rfl
def c29 : Sg Tryz.prog 0 67 :=
 (c28 N).add (((c28 N).no 51002).cut (b9U N) a0e (a0m N) fun L x hx => (b51 N L).trans ((b50 N ..).trans (a2f _ _ hx))) 51002
def a34 (w0 w1 w2 : Int) (w7 : Bool) (w31 : Int) (k0 : Int × Int → R) : R :=
 bif w7 then
  bnd (a4D N w0 w1 w2 (w2 == w1)) fun y0 =>
  k0 (y0, w2)
 else
  k0 ((IntKind.wrap .i64 (w0 + w31)), w1)
def a5r (w0 w1 w2 : Int) (w7 : Bool) (w31 : Int) : Int × Int := a34 N w0 w1 w2 w7 w31 (fun p => p)
theorem b8X (w0 w1 w2 : Int) (w7 : Bool) (w31 : Int) (k0 : Int × Int → R) : a34 N w0 w1 w2 w7 w31 k0 = k0 (a5r N w0 w1 w2 w7 w31) := by
 unfold a5r a34
 repeat' (first | rfl | apply a0q | (apply a0K; intro _))
def b25 (L : List Lf) (k0 : Int × Int → R) : R := a34 N (li L 0) (li L 1) (li L 2) (lb L 7) (li L 31) k0
def b08 : Sh := { tmps := [(2, .c (.p 2 0)), (4, .c (.p 4 0)), (6, .c (.f 111 [])), (7, .c (.i .i64)), (8, .c (.i .i64)), (10, .c (.p 10 0)), (11, .c (.i .i64)), (21, .c (.sl 40)), (22, .c (.i .i64)), (23, .c (.i .i64)), (47, .c (.b))], mem := [(2, .box (.s :: rI 7 ([.s, .sl 24]))), (4, .box (.s :: rI 6 ([.sl 9]))), (10, .box (.s :: rI 6 ([.sl 9])))] }
def a9j (L : List Lf) (p : Int × Int) : Ex × St := (.normal, mg (a0p b08 L) [2, 4, 6, 7, 8, 10, 21, 22, 23] [(7, .c (.i .i64 p.1)), (8, .c (.i .i64 p.2))] [2, 4, 10] [])
def c3a (L : List Lf) : List (Bool × (Ex × St)) := bnd (b25 N L (fun p => p)) fun q => [(true, a9j L q)]
theorem b8Y (L : List Lf) : pc Tryz.prog (a0W N) ((c29 N).no 33050).h 0 100 67 33050 b08 L [2, 4, 6, 7, 8, 10, 21, 22, 23] [2, 4, 10] = b25 N L (fun p => some (a9j L p)) := by kernel_rfl
def c3b : Sg Tryz.prog 0 67 :=
 (c29 N).add (((c29 N).no 33050).cut (c3a N) a0e (a0m N) fun L x hx => (b8Y N L).trans ((b8X N ..).trans (a2f _ _ hx))) 33050
def a35 (w0 w1 w2 w7 : Int) (w8 : Bool) (w32 : Int) (k0 : Int × Int → R) : R :=
 bif w8 then
  k0 (w32, w1)
 else
  bnd (a5r N w0 w1 w2 (w7 == 4) w32) fun y0 =>
  k0 y0
def a36 (w0 w1 w2 w7 : Int) (w8 : Bool) (w32 : Int) : Int × Int := a35 N w0 w1 w2 w7 w8 w32 (fun p => p)
theorem b8Z (w0 w1 w2 w7 : Int) (w8 : Bool) (w32 : Int) (k0 : Int × Int → R) : a35 N w0 w1 w2 w7 w8 w32 k0 = k0 (a36 N w0 w1 w2 w7 w8 w32) := by
 unfold a36 a35
 repeat' (first | rfl | apply a0q | (apply a0K; intro _))
def b26 (L : List Lf) (k0 : Int × Int → R) : R := a35 N (li L 0) (li L 1) (li L 2) (li L 7) (lb L 8) (li L 32) k0
def b09 : Sh := { tmps := [(2, .c (.p 2 0)), (4, .c (.p 4 0)), (6, .c (.f 111 [])), (7, .c (.i .i64)), (8, .c (.i .i64)), (10, .c (.p 10 0)), (11, .c (.i .i64)), (21, .c (.sl 40)), (22, .c (.i .i64)), (23, .c (.i .i64)), (36, .c (.i .i64)), (42, .c (.b))], mem := [(2, .box (.s :: rI 7 ([.s, .sl 24]))), (4, .box (.s :: rI 6 ([.sl 9]))), (10, .box (.s :: rI 6 ([.sl 9])))] }
def a9k (L : List Lf) (p : Int × Int) : Ex × St := (.normal, mg (a0p b09 L) [2, 4, 6, 7, 8, 10, 21, 22, 23] [(7, .c (.i .i64 p.1)), (8, .c (.i .i64 p.2))] [2, 4, 10] [])
def c3c (L : List Lf) : List (Bool × (Ex × St)) := bnd (b26 N L (fun p => p)) fun q => [(true, a9k L q)]
theorem b80 (L : List Lf) : pc Tryz.prog (a0W N) ((c3b N).no 42041).h 0 100 67 42041 b09 L [2, 4, 6, 7, 8, 10, 21, 22, 23] [2, 4, 10] = b26 N L (fun p => some (a9k L p)) := by kernel_rfl
def c3d : Sg Tryz.prog 0 67 :=
 (c3b N).add (((c3b N).no 42041).cut (c3c N) a0e (a0m N) fun L x hx => (b80 N L).trans ((b8Z N ..).trans (a2f _ _ hx))) 42041
def a4y (w3 : LD) (w4 w7 w9 w10 w11 w12 w13 : Int) (w14 : LB) (w15 : Bool) (w16 : LD) (w0 w1 w5 : Int) (kr : Int → Int → Int → Option R) (k0 : Ty1 → Option R) (k1 : Unit → Option R) : Option R :=
 bif (decide (w5 < w4)) then
  bif (inB w5 w3.length) then
   bnd (a8F N N w10 w11 w12 w13 w14 w15 w16 ((w3.getD w5.toNat (.i 0)).cell 0).toS ((w3.getD w5.toNat (.i 0)).cell 1).toI ((w3.getD w5.toNat (.i 0)).cell 2).toI ((w3.getD w5.toNat (.i 0)).cell 3).toI ((w3.getD w5.toNat (.i 0)).cell 4).toI ((w3.getD w5.toNat (.i 0)).cell 5).toI ((w3.getD w5.toNat (.i 0)).cell 6).toI ((w3.getD w5.toNat (.i 0)).cell 7).isNil ((w3.getD w5.toNat (.i 0)).cell 7).items) fun y0 =>
   bif y0.isSome then
    bif (!(y0.getD default)) then
     kr w0 w1 (IntKind.wrap .i64 (w5 + 1))
    else
     bnd (IntKind.wrap .i64 (((w3.getD w5.toNat (.i 0)).cell 2).toI.tdiv 86400)) fun y1 =>
     bnd (a36 N w0 w1 y1 w7 (w7 == 3) ((w3.getD w5.toNat (.i 0)).cell 3).toI) fun y2 =>
     bif (decide (y2.1 ≥ w9)) then
      k0 (((w3.getD w5.toNat (.i 0)).cell 0).toS, ((w3.getD w5.toNat (.i 0)).cell 1).toI, ((w3.getD w5.toNat (.i 0)).cell 2).toI, ((w3.getD w5.toNat (.i 0)).cell 3).toI, ((w3.getD w5.toNat (.i 0)).cell 4).toI, ((w3.getD w5.toNat (.i 0)).cell 5).toI, ((w3.getD w5.toNat (.i 0)).cell 6).toI, ((w3.getD w5.toNat (.i 0)).cell 7).isNil, ((w3.getD w5.toNat (.i 0)).cell 7).items)
     else
      kr y2.1 y2.2 (IntKind.wrap .i64 (w5 + 1))
   else
    none
  else
   none
 else
  k1 ()
def a74 (N : Nat) {R : Type} (w3 : LD) (w4 w7 w9 w10 w11 w12 w13 : Int) (w14 : LB) (w15 : Bool) (w16 : LD) : Nat → Int → Int → Int → (Ty1 → Option R) → (Unit → Option R) → Option R
 | 0, _, _, _, _, _ => none
 | m + 1, w0, w1, w5, k0, k1 => a4y N w3 w4 w7 w9 w10 w11 w12 w13 w14 w15 w16 w0 w1 w5 (fun w0 w1 w5 => a74 N w3 w4 w7 w9 w10 w11 w12 w13 w14 w15 w16 m w0 w1 w5 k0 k1) k0 k1
def b1G (w3 : LD) (w4 w7 w9 w10 w11 w12 w13 : Int) (w14 : LB) (w15 : Bool) (w16 : LD) (w0 w1 w5 : Int) : Option (Sum (Ty1) (Unit)) := a74 N (R := (Sum (Ty1) (Unit))) w3 w4 w7 w9 w10 w11 w12 w13 w14 w15 w16 N w0 w1 w5 (fun p => some (.inl p)) (fun p => some (.inr p))
def a52 (L x : List Lf) (kr : List Lf → Option R) (k0 : Ty1 → Option R) (k1 : Unit → Option R) : Option R := a4y N (ll L 3) (li L 4) (li L 7) (li L 9) (li L 10) (li L 11) (li L 12) (li L 13) (ls L 14) (lb L 15) (ll L 16) (li x 0) (li x 1) (li x 2) (fun w0 w1 w5 => kr [.i w0, .i w1, .i w5]) k0 k1
theorem b5F (L x : List Lf) (kr : List Lf → Option R) (k0 : Ty1 → Option R) (k1 : Unit → Option R) : a52 N L x kr k0 k1 = (a52 N L x (fun y => some (.inl y)) (fun p => some (.inr (.inl p))) (fun p => some (.inr (.inr p)))).bind (a1m kr (a1m k0 k1)) := by
 unfold a52 a4y
 repeat' (first | with_reducible apply a0k | (with_reducible apply a0y; intro _) | rfl)
def a78 (L : List Lf) (m : Nat) (x : List Lf) : Option (Sum (Ty1) (Unit)) := a74 N (R := (Sum (Ty1) (Unit))) (ll L 3) (li L 4) (li L 7) (li L 9) (li L 10) (li L 11) (li L 12) (li L 13) (ls L 14) (lb L 15) (ll L 16) m (li x 0) (li x 1) (li x 2) (fun p => some (.inl p)) (fun p => some (.inr p))
def a3N : Sh := { tmps := [(2, .c (.p 2 0)), (4, .c (.p 4 0)), (6, .c (.f 111 [])), (7, .c (.i .i64)), (8, .c (.i .i64)), (21, .c (.sl 40)), (22, .c (.i .i64)), (23, .c (.i .i64))], mem := [(2, .box (.s :: rI 7 ([.s, .sl 24]))), (4, .box (.s :: rI 6 ([.sl 9])))] }
def b27 (L : List Lf) (p : Ty1) : Ex × St := let p1 := p.2; let p2 := p1.2; let p3 := p2.2; let p4 := p3.2; let p5 := p4.2; let p6 := p5.2; let p7 := p6.2; let p8 := p7.2; (.ret, ⟨[(4, .c (.p 4 0)), (5, .c (.b true))], [(4, .box [.s p.1, .i .i64 p1.1, .i .i64 p2.1, .i .i64 p3.1, .i .i64 p4.1, .i .i64 p5.1, .i .i64 p6.1, .sl 9 p7.1 p8])]⟩)
def c8I (L : List Lf) : List (Bool × (Ex × St)) := bnd (a78 N L N (pk a3N [0, 1, 5] L)) fun q => [((a04 q), b27 L (a0P q)), ((a0r q).isSome, ((.exit 0), mg (a0p a3N L) [4] [] [4] []))]
theorem b9V (m : Nat) (kn : St → Option (Ex × St)) (L x : List Lf) : lpB Tryz.prog (a0W N) ((c3d N).no 18).h 0 67 18 a3N [0, 1, 5] [4, 5] [4] (m + 100) kn L x = a52 N L x (fun y => kn (a0p a3N (mx a3N [0, 1, 5] L y))) (fun p => some (b27 L p)) (fun _ => some ((.exit 0), mg (a0p a3N L) [4] [] [4] [])) := by kernel_rfl
theorem c6u (L : List Lf) (m : Nat) (x : List Lf) : a78 N L (m + 1) x = a52 N L x (a78 N L m) (fun p => some (.inl p)) (fun p => some (.inr p)) := by kernel_rfl
def c3e : Sg Tryz.prog 0 67 :=
 (c3d N).add (((c3d N).no 18).lp (c8I N) N a0e (a0m N) (fun m kn L x => (b9V N m kn L x).trans (b5F N L x _ _ _)) (fun L m x => (c6u N L m x).trans (b5F N L x (a78 N L m) (fun p => some (.inl p)) (fun p => some (.inr p)))) fun L x hx => (a4i a1f) x hx) 18
def a1X (N : Nat) (w0 : Int) (w6 : Bool) (k0 : Int → R) : R :=
 bif w6 then
  k0 (IntKind.wrap .i64 (w0 + 1))
 else
  k0 1
def a38 (w0 : Int) (w6 : Bool) : Int := a1X N w0 w6 (fun p => p)
theorem b4z (w0 : Int) (w6 : Bool) (k0 : Int → R) : a1X N w0 w6 k0 = k0 (a38 N w0 w6) := by
 unfold a38 a1X
 repeat' (first | rfl | apply a0q | (apply a0K; intro _))
def a8r : Sh := { tmps := [(2, .c (.p 2 0)), (4, .c (.p 4 0)), (6, .c (.f 112 [])), (7, .c (.i .i64)), (10, .c (.p 10 0)), (11, .c (.i .i64)), (21, .c (.sl 40)), (22, .c (.i .i64)), (23, .c (.i .i64)), (53, .c (.b))], mem := [(2, .box (.s :: rI 7 ([.s, .sl 24]))), (4, .box (.s :: rI 6 ([.sl 9]))), (10, .box (.s :: rI 6 ([.sl 9])))] }
def a7r (L : List Lf) (p : Int) : Ex × St := (.normal, mg (a0p a8r L) [2, 4, 6, 7, 10, 11, 21, 22, 23] [(7, .c (.i .i64 p))] [2, 4, 10] [])
def b81 (L : List Lf) : List (Bool × (Ex × St)) := bnd (a1X N (li L 0) (lb L 6) (fun p => p)) fun q => [(true, a7r L q)]
theorem b4A (L : List Lf) : pc Tryz.prog (a0W N) ((c3e N).no 45056).h 0 100 67 45056 a8r L [2, 4, 6, 7, 10, 11, 21, 22, 23] [2, 4, 10] = a1X N (li L 0) (lb L 6) (fun p => some (a7r L p)) := by kernel_rfl
def c3f : Sg Tryz.prog 0 67 :=
 (c3e N).add (((c3e N).no 45056).cut (b81 N) a0e (a0m N) fun L x hx => (b4A N L).trans ((b4z N ..).trans (a2f _ _ hx))) 45056
def a2X (w0 w1 w2 : Int) (w7 : Bool) (k0 : Int → R) : R :=
 bif w7 then
  k0 w0
 else
  bnd (bif (decide (w1 ≥ 0)) then (w2 == (IntKind.wrap .i64 (w1 + 1))) else false) fun y0 =>
  bnd (a38 N w0 y0) fun y1 =>
  k0 y1
def a4a (w0 w1 w2 : Int) (w7 : Bool) : Int := a2X N w0 w1 w2 w7 (fun p => p)
theorem b4B (w0 w1 w2 : Int) (w7 : Bool) (k0 : Int → R) : a2X N w0 w1 w2 w7 k0 = k0 (a4a N w0 w1 w2 w7) := by
 unfold a4a a2X
 repeat' (first | rfl | apply a0q | (apply a0K; intro _))
def a9l (L : List Lf) (k0 : Int → R) : R := a2X N (li L 0) (li L 1) (li L 2) (lb L 7) k0
def a8s : Sh := { tmps := [(2, .c (.p 2 0)), (4, .c (.p 4 0)), (6, .c (.f 112 [])), (7, .c (.i .i64)), (8, .c (.i .i64)), (10, .c (.p 10 0)), (11, .c (.i .i64)), (21, .c (.sl 40)), (22, .c (.i .i64)), (23, .c (.i .i64)), (49, .c (.b))], mem := [(2, .box (.s :: rI 7 ([.s, .sl 24]))), (4, .box (.s :: rI 6 ([.sl 9]))), (10, .box (.s :: rI 6 ([.sl 9])))] }
def a7s (L : List Lf) (p : Int) : Ex × St := (.normal, mg (a0p a8s L) [2, 4, 6, 7, 10, 11, 21, 22, 23] [(7, .c (.i .i64 p))] [2, 4, 10] [])
def b82 (L : List Lf) : List (Bool × (Ex × St)) := bnd (a9l N L (fun p => p)) fun q => [(true, a7s L q)]
theorem b4C (L : List Lf) : pc Tryz.prog (a0W N) ((c3f N).no 51002).h 0 100 67 51002 a8s L [2, 4, 6, 7, 10, 11, 21, 22, 23] [2, 4, 10] = a9l N L (fun p => some (a7s L p)) := by kernel_rfl
def c3g : Sg Tryz.prog 0 67 :=
 (c3f N).add (((c3f N).no 51002).cut (b82 N) a0e (a0m N) fun L x hx => (b4C N L).trans ((b4B N ..).trans (a2f _ _ hx))) 51002
def a3r (w0 w1 w2 : Int) (w7 : Bool) (w32 : Int) (k0 : Int × Int → R) : R :=
 bif w7 then
  bnd (a4a N w0 w1 w2 (w2 == w1)) fun y0 =>
  k0 (y0, w2)
 else
  k0 ((IntKind.wrap .i64 (w0 + w32)), w1)
def a4E (w0 w1 w2 : Int) (w7 : Bool) (w32 : Int) : Int × Int := a3r N w0 w1 w2 w7 w32 (fun p => p)
theorem b52 (w0 w1 w2 : Int) (w7 : Bool) (w32 : Int) (k0 : Int × Int → R) : a3r N w0 w1 w2 w7 w32 k0 = k0 (a4E N w0 w1 w2 w7 w32) := by
 unfold a4E a3r
 repeat' (first | rfl | apply a0q | (apply a0K; intro _))
def b1a (L : List Lf) (k0 : Int × Int → R) : R := a3r N (li L 0) (li L 1) (li L 2) (lb L 7) (li L 32) k0
def a9m : Sh := { tmps := [(2, .c (.p 2 0)), (4, .c (.p 4 0)), (6, .c (.f 112 [])), (7, .c (.i .i64)), (8, .c (.i .i64)), (10, .c (.p 10 0)), (11, .c (.i .i64)), (21, .c (.sl 40)), (22, .c (.i .i64)), (23, .c (.i .i64)), (47, .c (.b))], mem := [(2, .box (.s :: rI 7 ([.s, .sl 24]))), (4, .box (.s :: rI 6 ([.sl 9]))), (10, .box (.s :: rI 6 ([.sl 9])))] }
def a8t (L : List Lf) (p : Int × Int) : Ex × St := (.normal, mg (a0p a9m L) [2, 4, 6, 7, 8, 10, 21, 22, 23] [(7, .c (.i .i64 p.1)), (8, .c (.i .i64 p.2))] [2, 4, 10] [])
def b9W (L : List Lf) : List (Bool × (Ex × St)) := bnd (b1a N L (fun p => p)) fun q => [(true, a8t L q)]
theorem b53 (L : List Lf) : pc Tryz.prog (a0W N) ((c3g N).no 33050).h 0 100 67 33050 a9m L [2, 4, 6, 7, 8, 10, 21, 22, 23] [2, 4, 10] = b1a N L (fun p => some (a8t L p)) := by kernel_rfl
def c3h : Sg Tryz.prog 0 67 :=
 (c3g N).add (((c3g N).no 33050).cut (b9W N) a0e (a0m N) fun L x hx => (b53 N L).trans ((b52 N ..).trans (a2f _ _ hx))) 33050
def a3s (w0 w1 w2 w7 : Int) (w8 : Bool) (w33 : Int) (k0 : Int × Int → R) : R :=
 bif w8 then
  k0 (w33, w1)
 else
  bnd (a4E N w0 w1 w2 (w7 == 4) w33) fun y0 =>
  k0 y0
def a3t (w0 w1 w2 w7 : Int) (w8 : Bool) (w33 : Int) : Int × Int := a3s N w0 w1 w2 w7 w8 w33 (fun p => p)
theorem b54 (w0 w1 w2 w7 : Int) (w8 : Bool) (w33 : Int) (k0 : Int × Int → R) : a3s N w0 w1 w2 w7 w8 w33 k0 = k0 (a3t N w0 w1 w2 w7 w8 w33) := by
 unfold a3t a3s
 repeat' (first | rfl | apply a0q | (apply a0K; intro _))
def b1b (L : List Lf) (k0 : Int × Int → R) : R := a3s N (li L 0) (li L 1) (li L 2) (li L 7) (lb L 8) (li L 33) k0
def a9n : Sh := { tmps := [(2, .c (.p 2 0)), (4, .c (.p 4 0)), (6, .c (.f 112 [])), (7, .c (.i .i64)), (8, .c (.i .i64)), (10, .c (.p 10 0)), (11, .c (.i .i64)), (21, .c (.sl 40)), (22, .c (.i .i64)), (23, .c (.i .i64)), (36, .c (.i .i64)), (42, .c (.b))], mem := [(2, .box (.s :: rI 7 ([.s, .sl 24]))), (4, .box (.s :: rI 6 ([.sl 9]))), (10, .box (.s :: rI 6 ([.sl 9])))] }
def a8u (L : List Lf) (p : Int × Int) : Ex × St := (.normal, mg (a0p a9n L) [2, 4, 6, 7, 8, 10, 21, 22, 23] [(7, .c (.i .i64 p.1)), (8, .c (.i .i64 p.2))] [2, 4, 10] [])
def b9X (L : List Lf) : List (Bool × (Ex × St)) := bnd (b1b N L (fun p => p)) fun q => [(true, a8u L q)]
theorem b55 (L : List Lf) : pc Tryz.prog (a0W N) ((c3h N).no 42041).h 0 100 67 42041 a9n L [2, 4, 6, 7, 8, 10, 21, 22, 23] [2, 4, 10] = b1b N L (fun p => some (a8u L p)) := by kernel_rfl
def c3i : Sg Tryz.prog 0 67 :=
 (c3h N).add (((c3h N).no 42041).cut (b9X N) a0e (a0m N) fun L x hx => (b55 N L).trans ((b54 N ..).trans (a2f _ _ hx))) 42041
def a3O (w3 : LD) (w4 w7 w9 w10 w11 w12 w13 : Int) (w14 : LB) (w15 : Bool) (w16 : LD) (w0 w1 w5 : Int) (kr : Int → Int → Int → Option R) (k0 : Ty1 → Option R) (k1 : Unit → Option R) : Option R :=
 bif (decide (w5 < w4)) then
  bif (inB w5 w3.length) then
   bnd (a8F N N w10 w11 w12 w13 w14 w15 w16 ((w3.getD w5.toNat (.i 0)).cell 0).toS ((w3.getD w5.toNat (.i 0)).cell 1).toI ((w3.getD w5.toNat (.i 0)).cell 2).toI ((w3.getD w5.toNat (.i 0)).cell 3).toI ((w3.getD w5.toNat (.i 0)).cell 4).toI ((w3.getD w5.toNat (.i 0)).cell 5).toI ((w3.getD w5.toNat (.i 0)).cell 6).toI ((w3.getD w5.toNat (.i 0)).cell 7).isNil ((w3.getD w5.toNat (.i 0)).cell 7).items) fun y0 =>
   bif y0.isSome then
    bif (!(y0.getD default)) then
     kr w0 w1 (IntKind.wrap .i64 (w5 + 1))
    else
     bnd (IntKind.wrap .i64 (((w3.getD w5.toNat (.i 0)).cell 2).toI.tdiv 86400)) fun y1 =>
     bnd (a3t N w0 w1 y1 w7 (w7 == 3) ((w3.getD w5.toNat (.i 0)).cell 4).toI) fun y2 =>
     bif (decide (y2.1 ≥ w9)) then
      k0 (((w3.getD w5.toNat (.i 0)).cell 0).toS, ((w3.getD w5.toNat (.i 0)).cell 1).toI, ((w3.getD w5.toNat (.i 0)).cell 2).toI, ((w3.getD w5.toNat (.i 0)).cell 3).toI, ((w3.getD w5.toNat (.i 0)).cell 4).toI, ((w3.getD w5.toNat (.i 0)).cell 5).toI, ((w3.getD w5.toNat (.i 0)).cell 6).toI, ((w3.getD w5.toNat (.i 0)).cell 7).isNil, ((w3.getD w5.toNat (.i 0)).cell 7).items)
     else
      kr y2.1 y2.2 (IntKind.wrap .i64 (w5 + 1))
   else
    none
  else
   none
 else
  k1 ()
def a6G (N : Nat) {R : Type} (w3 : LD) (w4 w7 w9 w10 w11 w12 w13 : Int) (w14 : LB) (w15 : Bool) (w16 : LD) : Nat → Int → Int → Int → (Ty1 → Option R) → (Unit → Option R) → Option R
 | 0, _, _, _, _, _ => none
 | m + 1, w0, w1, w5, k0, k1 => a3O N w3 w4 w7 w9 w10 w11 w12 w13 w14 w15 w16 w0 w1 w5 (fun w0 w1 w5 => a6G N w3 w4 w7 w9 w10 w11 w12 w13 w14 w15 w16 m w0 w1 w5 k0 k1) k0 k1
def a9o (w3 : LD) (w4 w7 w9 w10 w11 w12 w13 : Int) (w14 : LB) (w15 : Bool) (w16 : LD) (w0 w1 w5 : Int) : Option (Sum (Ty1) (Unit)) := a6G N (R := (Sum (Ty1) (Unit))) w3 w4 w7 w9 w10 w11 w12 w13 w14 w15 w16 N w0 w1 w5 (fun p => some (.inl p)) (fun p => some (.inr p))
def a4S (L x : List Lf) (kr : List Lf → Option R) (k0 : Ty1 → Option R) (k1 : Unit → Option R) : Option R := a3O N (ll L 3) (li L 4) (li L 7) (li L 9) (li L 10) (li L 11) (li L 12) (li L 13) (ls L 14) (lb L 15) (ll L 16) (li x 0) (li x 1) (li x 2) (fun w0 w1 w5 => kr [.i w0, .i w1, .i w5]) k0 k1
theorem b28 (L x : List Lf) (kr : List Lf → Option R) (k0 : Ty1 → Option R) (k1 : Unit → Option R) : a4S N L x kr k0 k1 = (a4S N L x (fun y => some (.inl y)) (fun p => some (.inr (.inl p))) (fun p => some (.inr (.inr p)))).bind (a1m kr (a1m k0 k1)) := by
 unfold a4S a3O
 repeat' (first | with_reducible apply a0k | (with_reducible apply a0y; intro _) | rfl)
def a6H (L : List Lf) (m : Nat) (x : List Lf) : Option (Sum (Ty1) (Unit)) := a6G N (R := (Sum (Ty1) (Unit))) (ll L 3) (li L 4) (li L 7) (li L 9) (li L 10) (li L 11) (li L 12) (li L 13) (ls L 14) (lb L 15) (ll L 16) m (li x 0) (li x 1) (li x 2) (fun p => some (.inl p)) (fun p => some (.inr p))
def a3f : Sh := { tmps := [(2, .c (.p 2 0)), (4, .c (.p 4 0)), (6, .c (.f 112 [])), (7, .c (.i .i64)), (8, .c (.i .i64)), (21, .c (.sl 40)), (22, .c (.i .i64)), (23, .c (.i .i64))], mem := [(2, .box (.s :: rI 7 ([.s, .sl 24]))), (4, .box (.s :: rI 6 ([.sl 9])))] }
def b1c (L : List Lf) (p : Ty1) : Ex × St := let p1 := p.2; let p2 := p1.2; let p3 := p2.2; let p4 := p3.2; let p5 := p4.2; let p6 := p5.2; let p7 := p6.2; let p8 := p7.2; (.ret, ⟨[(4, .c (.p 4 0)), (5, .c (.b true))], [(4, .box [.s p.1, .i .i64 p1.1, .i .i64 p2.1, .i .i64 p3.1, .i .i64 p4.1, .i .i64 p5.1, .i .i64 p6.1, .sl 9 p7.1 p8])]⟩)
def c6v (L : List Lf) : List (Bool × (Ex × St)) := bnd (a6H N L N (pk a3f [0, 1, 5] L)) fun q => [((a04 q), b1c L (a0P q)), ((a0r q).isSome, ((.exit 0), mg (a0p a3f L) [4] [] [4] []))]
theorem b83 (m : Nat) (kn : St → Option (Ex × St)) (L x : List Lf) : lpB Tryz.prog (a0W N) ((c3i N).no 18).h 0 67 18 a3f [0, 1, 5] [4, 5] [4] (m + 100) kn L x = a4S N L x (fun y => kn (a0p a3f (mx a3f [0, 1, 5] L y))) (fun p => some (b1c L p)) (fun _ => some ((.exit 0), mg (a0p a3f L) [4] [] [4] [])) := by kernel_rfl
theorem c3j (L : List Lf) (m : Nat) (x : List Lf) : a6H N L (m + 1) x = a4S N L x (a6H N L m) (fun p => some (.inl p)) (fun p => some (.inr p)) := by kernel_rfl
def c3k : Sg Tryz.prog 0 67 :=
 (c3i N).add (((c3i N).no 18).lp (c6v N) N a0e (a0m N) (fun m kn L x => (b83 N m kn L x).trans (b28 N L x _ _ _)) (fun L m x => (c3j N L m x).trans (b28 N L x (a6H N L m) (fun p => some (.inl p)) (fun p => some (.inr p)))) fun L x hx => (a4i a1f) x hx) 18
def a1D (N : Nat) (w0 : Int) (w6 : Bool) (k0 : Int → R) : R :=
 bif w6 then
  k0 (IntKind.wrap .i64 (w0 + 1))
 else
  k0 1
def a3z (w0 : Int) (w6 : Bool) : Int := a1D N w0 w6 (fun p => p)
theorem b29 (w0 : Int) (w6 : Bool) (k0 : Int → R) : a1D N w0 w6 k0 = k0 (a3z N w0 w6) := by
 unfold a3z a1D
 repeat' (first | rfl | apply a0q | (apply a0K; intro _))
def a7t : Sh := { tmps := [(2, .c (.p 2 0)), (4, .c (.p 4 0)), (6, .c (.f 113 [])), (7, .c (.i .i64)), (10, .c (.p 10 0)), (11, .c (.i .i64)), (21, .c (.sl 40)), (22, .c (.i .i64)), (23, .c (.i .i64)), (53, .c (.b))], mem := [(2, .box (.s :: rI 7 ([.s, .sl 24]))), (4, .box (.s :: rI 6 ([.sl 9]))), (10, .box (.s :: rI 6 ([.sl 9])))] }
def a6I (L : List Lf) (p : Int) : Ex × St := (.normal, mg (a0p a7t L) [2, 4, 6, 7, 10, 11, 21, 22, 23] [(7, .c (.i .i64 p))] [2, 4, 10] [])
def b56 (L : List Lf) : List (Bool × (Ex × St)) := bnd (a1D N (li L 0) (lb L 6) (fun p => p)) fun q => [(true, a6I L q)]
theorem b3a (L : List Lf) : pc Tryz.prog (a0W N) ((c3k N).no 45056).h 0 100 67 45056 a7t L [2, 4, 6, 7, 10, 11, 21, 22, 23] [2, 4, 10] = a1D N (li L 0) (lb L 6) (fun p => some (a6I L p)) := by kernel_rfl
def c3l : Sg Tryz.prog 0 67 :=
 (c3k N).add (((c3k N).no 45056).cut (b56 N) a0e (a0m N) fun L x hx => (b3a N L).trans ((b29 N ..).trans (a2f _ _ hx))) 45056
def a2C (w0 w1 w2 : Int) (w7 : Bool) (k0 : Int → R) : R :=
 bif w7 then
  k0 w0
 else
  bnd (bif (decide (w1 ≥ 0)) then (w2 == (IntKind.wrap .i64 (w1 + 1))) else false) fun y0 =>
  bnd (a3z N w0 y0) fun y1 =>
  k0 y1
def a3A (w0 w1 w2 : Int) (w7 : Bool) : Int := a2C N w0 w1 w2 w7 (fun p => p)
theorem b3b (w0 w1 w2 : Int) (w7 : Bool) (k0 : Int → R) : a2C N w0 w1 w2 w7 k0 = k0 (a3A N w0 w1 w2 w7) := by
 unfold a3A a2C
 repeat' (first | rfl | apply a0q | (apply a0K; intro _))
def a8v (L : List Lf) (k0 : Int → R) : R := a2C N (li L 0) (li L 1) (li L 2) (lb L 7) k0
def a7u : Sh := { tmps := [(2, .c (.p 2 0)), (4, .c (.p 4 0)), (6, .c (.f 113 [])), (7, .c (.i .i64)), (8, .c (.i .i64)), (10, .c (.p 10 0)), (11, .c (.i .i64)), (21, .c (.sl 40)), (22, .c (.i .i64)), (23, .c (.i .i64)), (49, .c (.b))], mem := [(2, .box (.s :: rI 7 ([.s, .sl 24]))), (4, .box (.s :: rI 6 ([.sl 9]))), (10, .box (.s :: rI 6 ([.sl 9])))] }
def a6J (L : List Lf) (p : Int) : Ex × St := (.normal, mg (a0p a7u L) [2, 4, 6, 7, 10, 11, 21, 22, 23] [(7, .c (.i .i64 p))] [2, 4, 10] [])
def b57 (L : List Lf) : List (Bool × (Ex × St)) := bnd (a8v N L (fun p => p)) fun q => [(true, a6J L q)]
theorem b3c (L : List Lf) : pc Tryz.prog (a0W N) ((c3l N).no 51002).h 0 100 67 51002 a7u L [2, 4, 6, 7, 10, 11, 21, 22, 23] [2, 4, 10] = a8v N L (fun p => some (a6J L p)) := by kernel_rfl
def c3m : Sg Tryz.prog 0 67 :=
 (c3l N).add (((c3l N).no 51002).cut (b57 N) a0e (a0m N) fun L x hx => (b3c N L).trans ((b3b N ..).trans (a2f _ _ hx))) 51002
def a2Y (w0 w1 w2 : Int) (w7 : Bool) (w33 : Int) (k0 : Int × Int → R) : R :=
 bif w7 then
  bnd (a3A N w0 w1 w2 (w2 == w1)) fun y0 =>
  k0 (y0, w2)
 else
  k0 ((IntKind.wrap .i64 (w0 + w33)), w1)
def a4b (w0 w1 w2 : Int) (w7 : Bool) (w33 : Int) : Int × Int := a2Y N w0 w1 w2 w7 w33 (fun p => p)
theorem b4D (w0 w1 w2 : Int) (w7 : Bool) (w33 : Int) (k0 : Int × Int → R) : a2Y N w0 w1 w2 w7 w33 k0 = k0 (a4b N w0 w1 w2 w7 w33) := by
 unfold a4b a2Y
 repeat' (first | rfl | apply a0q | (apply a0K; intro _))
def a9p (L : List Lf) (k0 : Int × Int → R) : R := a2Y N (li L 0) (li L 1) (li L 2) (lb L 7) (li L 33) k0
def a8w : Sh := { tmps := [(2, .c (.p 2 0)), (4, .c (.p 4 0)), (6, .c (.f 113 [])), (7, .c (.i .i64)), (8, .c (.i .i64)), (10, .c (.p 10 0)), (11, .c (.i .i64)), (21, .c (.sl 40)), (22, .c (.i .i64)), (23, .c (.i .i64)), (47, .c (.b))], mem := [(2, .box (.s :: rI 7 ([.s, .sl 24]))), (4, .box (.s :: rI 6 ([.sl 9]))), (10, .box (.s :: rI 6 ([.sl 9])))] }
def a7v (L : List Lf) (p : Int × Int) : Ex × St := (.normal, mg (a0p a8w L) [2, 4, 6, 7, 8, 10, 21, 22, 23] [(7, .c (.i .i64 p.1)), (8, .c (.i .i64 p.2))] [2, 4, 10] [])
def b84 (L : List Lf) : List (Bool × (Ex × St)) := bnd (a9p N L (fun p => p)) fun q => [(true, a7v L q)]
theorem b4E (L : List Lf) : pc Tryz.prog (a0W N) ((c3m N).no 33050).h 0 100 67 33050 a8w L [2, 4, 6, 7, 8, 10, 21, 22, 23] [2, 4, 10] = a9p N L (fun p => some (a7v L p)) := by kernel_rfl
def c3n : Sg Tryz.prog 0 67 :=
 (c3m N).add (((c3m N).no 33050).cut (b84 N) a0e (a0m N) fun L x hx => (b4E N L).trans ((b4D N ..).trans (a2f _ _ hx))) 33050
def a2Z (w0 w1 w2 w7 : Int) (w8 : Bool) (w34 : Int) (k0 : Int × Int → R) : R :=
 bif w8 then
  k0 (w34, w1)
 else
  bnd (a4b N w0 w1 w2 (w7 == 4) w34) fun y0 =>
  k0 y0
def a3a (w0 w1 w2 w7 : Int) (w8 : Bool) (w34 : Int) : Int × Int := a2Z N w0 w1 w2 w7 w8 w34 (fun p => p)
theorem b4F (w0 w1 w2 w7 : Int) (w8 : Bool) (w34 : Int) (k0 : Int × Int → R) : a2Z N w0 w1 w2 w7 w8 w34 k0 = k0 (a3a N w0 w1 w2 w7 w8 w34) := by
 unfold a3a a2Z
 repeat' (first | rfl | apply a0q | (apply a0K; intro _))
def a9q (L : List Lf) (k0 : Int × Int → R) : R := a2Z N (li L 0) (li L 1) (li L 2) (li L 7) (lb L 8) (li L 34) k0
def a8x : Sh := { tmps := [(2, .c (.p 2 0)), (4, .c (.p 4 0)), (6, .c (.f 113 [])), (7, .c (.i .i64)), (8, .c (.i .i64)), (10, .c (.p 10 0)), (11, .c (.i .i64)), (21, .c (.sl 40)), (22, .c (.i .i64)), (23, .c (.i .i64)), (36, .c (.i .i64)), (42, .c (.b))], mem := [(2, .box (.s :: rI 7 ([.s, .sl 24]))), (4, .box (.s :: rI 6 ([.sl 9]))), (10, .box (.s :: rI 6 ([.sl 9])))] }
def a7w (L : List Lf) (p : Int × Int) : Ex × St := (.normal, mg (a0p a8x L) [2, 4, 6, 7, 8, 10, 21, 22, 23] [(7, .c (.i .i64 p.1)), (8, .c (.i .i64 p.2))] [2, 4, 10] [])
def b85 (L : List Lf) : List (Bool × (Ex × St)) := bnd (a9q N L (fun p => p)) fun q => [(true, a7w L q)]
theorem b4G (L : List Lf) : pc Tryz.prog (a0W N) ((c3n N).no 42041).h 0 100 67 42041 a8x L [2, 4, 6, 7, 8, 10, 21, 22, 23] [2, 4, 10] = a9q N L (fun p => some (a7w L p)) := by kernel_rfl
def c3o : Sg Tryz.prog 0 67 :=
 (c3n N).add (((c3n N).no 42041).cut (b85 N) a0e (a0m N) fun L x hx => (b4G N L).trans ((b4F N ..).trans (a2f _ _ hx))) 42041
def a3g (w3 : LD) (w4 w7 w9 w10 w11 w12 w13 : Int) (w14 : LB) (w15 : Bool) (w16 : LD) (w0 w1 w5 : Int) (kr : Int → Int → Int → Option R) (k0 : Ty1 → Option R) (k1 : Unit → Option R) : Option R :=
 bif (decide (w5 < w4)) then
  bif (inB w5 w3.length) then
   bnd (a8F N N w10 w11 w12 w13 w14 w15 w16 ((w3.getD w5.toNat (.i 0)).cell 0).toS ((w3.getD w5.toNat (.i 0)).cell 1).toI ((w3.getD w5.toNat (.i 0)).cell 2).toI ((w3.getD w5.toNat (.i 0)).cell 3).toI ((w3.getD w5.toNat (.i 0)).cell 4).toI ((w3.getD w5.toNat (.i 0)).cell 5).toI ((w3.getD w5.toNat (.i 0)).cell 6).toI ((w3.getD w5.toNat (.i 0)).cell 7).isNil ((w3.getD w5.toNat (.i 0)).cell 7).items) fun y0 =>
   bif y0.isSome then
    bif (!(y0.getD default)) then
     kr w0 w1 (IntKind.wrap .i64 (w5 + 1))
    else
     bnd (IntKind.wrap .i64 (((w3.getD w5.toNat (.i 0)).cell 2).toI.tdiv 86400)) fun y1 =>
     bnd (a3a N w0 w1 y1 w7 (w7 == 3) ((w3.getD w5.toNat (.i 0)).cell 5).toI) fun y2 =>
     bif (decide (y2.1 ≥ w9)) then
      k0 (((w3.getD w5.toNat (.i 0)).cell 0).toS, ((w3.getD w5.toNat (.i 0)).cell 1).toI, ((w3.getD w5.toNat (.i 0)).cell 2).toI, ((w3.getD w5.toNat (.i 0)).cell 3).toI, ((w3.getD w5.toNat (.i 0)).cell 4).toI, ((w3.getD w5.toNat (.i 0)).cell 5).toI, ((w3.getD w5.toNat (.i 0)).cell 6).toI, ((w3.getD w5.toNat (.i 0)).cell 7).isNil, ((w3.getD w5.toNat (.i 0)).cell 7).items)
     else
      kr y2.1 y2.2 (IntKind.wrap .i64 (w5 + 1))
   else
    none
  else
   none
 else
  k1 ()
def a5s (N : Nat) {R : Type} (w3 : LD) (w4 w7 w9 w10 w11 w12 w13 : Int) (w14 : LB) (w15 : Bool) (w16 : LD) : Nat → Int → Int → Int → (Ty1 → Option R) → (Unit → Option R) → Option R
 | 0, _, _, _, _, _ => none
 | m + 1, w0, w1, w5, k0, k1 => a3g N w3 w4 w7 w9 w10 w11 w12 w13 w14 w15 w16 w0 w1 w5 (fun w0 w1 w5 => a5s N w3 w4 w7 w9 w10 w11 w12 w13 w14 w15 w16 m w0 w1 w5 k0 k1) k0 k1
def a79 (w3 : LD) (w4 w7 w9 w10 w11 w12 w13 : Int) (w14 : LB) (w15 : Bool) (w16 : LD) (w0 w1 w5 : Int) : Option (Sum (Ty1) (Unit)) := a5s N (R := (Sum (Ty1) (Unit))) w3 w4 w7 w9 w10 w11 w12 w13 w14 w15 w16 N w0 w1 w5 (fun p => some (.inl p)) (fun p => some (.inr p))
def a4c (L x : List Lf) (kr : List Lf → Option R) (k0 : Ty1 → Option R) (k1 : Unit → Option R) : Option R := a3g N (ll L 3) (li L 4) (li L 7) (li L 9) (li L 10) (li L 11) (li L 12) (li L 13) (ls L 14) (lb L 15) (ll L 16) (li x 0) (li x 1) (li x 2) (fun w0 w1 w5 => kr [.i w0, .i w1, .i w5]) k0 k1
theorem b1d (L x : List Lf) (kr : List Lf → Option R) (k0 : Ty1 → Option R) (k1 : Unit → Option R) : a4c N L x kr k0 k1 = (a4c N L x (fun y => some (.inl y)) (fun p => some (.inr (.inl p))) (fun p => some (.inr (.inr p)))).bind (a1m kr (a1m k0 k1)) := by
 unfold a4c a3g
 repeat' (first | with_reducible apply a0k | (with_reducible apply a0y; intro _) | rfl)
def a5t (L : List Lf) (m : Nat) (x : List Lf) : Option (Sum (Ty1) (Unit)) := a5s N (R := (Sum (Ty1) (Unit))) (ll L 3) (li L 4) (li L 7) (li L 9) (li L 10) (li L 11) (li L 12) (li L 13) (ls L 14) (lb L 15) (ll L 16) m (li x 0) (li x 1) (li x 2) (fun p => some (.inl p)) (fun p => some (.inr p))
def a2I : Sh := { tmps := [(2, .c (.p 2 0)), (4, .c (.p 4 0)), (6, .c (.f 113 [])), (7, .c (.i .i64)), (8, .c (.i .i64)), (21, .c (.sl 40)), (22, .c (.i .i64)), (23, .c (.i .i64))], mem := [(2, .box (.s :: rI 7 ([.s, .sl 24]))), (4, .box (.s :: rI 6 ([.sl 9])))] }
def a9r (L : List Lf) (p : Ty1) : Ex × St := let p1 := p.2; let p2 := p1.2; let p3 := p2.2; let p4 := p3.2; let p5 := p4.2; let p6 := p5.2; let p7 := p6.2; let p8 := p7.2; (.ret, ⟨[(4, .c (.p 4 0)), (5, .c (.b true))], [(4, .box [.s p.1, .i .i64 p1.1, .i .i64 p2.1, .i .i64 p3.1, .i .i64 p4.1, .i .i64 p5.1, .i .i64 p6.1, .sl 9 p7.1 p8])]⟩)
def c3p (L : List Lf) : List (Bool × (Ex × St)) := bnd (a5t N L N (pk a2I [0, 1, 5] L)) fun q => [((a04 q), a9r L (a0P q)), ((a0r q).isSome, ((.exit 0), mg (a0p a2I L) [4] [] [4] []))]
theorem b58 (m : Nat) (kn : St → Option (Ex × St)) (L x : List Lf) : lpB Tryz.prog (a0W N) ((c3o N).no 18).h 0 67 18 a2I [0, 1, 5] [4, 5] [4] (m + 100) kn L x = a4c N L x (fun y => kn (a0p a2I (mx a2I [0, 1, 5] L y))) (fun p => some (a9r L p)) (fun _ => some ((.exit 0), mg (a0p a2I L) [4] [] [4] [])) := by kernel_rfl
theorem b9Y (L : List Lf) (m : Nat) (x : List Lf) : a5t N L (m + 1) x = a4c N L x (a5t N L m) (fun p => some (.inl p)) (fun p => some (.inr p)) := by kernel_rfl
def c3q : Sg Tryz.prog 0 67 :=
 (c3o N).add (((c3o N).no 18).lp (c3p N) N a0e (a0m N) (fun m kn L x => (b58 N m kn L x).trans (b1d N L x _ _ _)) (fun L m x => (b9Y N L m x).trans (b1d N L x (a5t N L m) (fun p => some (.inl p)) (fun p => some (.inr p)))) fun L x hx => (a4i a1f) x hx) 18
def a1r (N : Nat) (w0 : Int) (w6 : Bool) (k0 : Int → R) : R :=
 bif w6 then
  k0 (IntKind.wrap .i64 (w0 + 1))
 else
  k0 1
def a3h (w0 : Int) (w6 : Bool) : Int := a1r N w0 w6 (fun p => p)
theorem b1H (w0 : Int) (w6 : Bool) (k0 : Int → R) : a1r N w0 w6 k0 = k0 (a3h N w0 w6) := by
 unfold a3h a1r
 repeat' (first | rfl | apply a0q | (apply a0K; intro _))
def a6K : Sh := { tmps := [(2, .c (.p 2 0)), (4, .c (.p 4 0)), (6, .c (.f 114 [])), (7, .c (.i .i64)), (10, .c (.p 10 0)), (11, .c (.i .i64)), (21, .c (.sl 40)), (22, .c (.i .i64)), (23, .c (.i .i64)), (53, .c (.b))], mem := [(2, .box (.s :: rI 7 ([.s, .sl 24]))), (4, .box (.s :: rI 6 ([.sl 9]))), (10, .box (.s :: rI 6 ([.sl 9])))] }
def a54 (L : List Lf) (p : Int) : Ex × St := (.normal, mg (a0p a6K L) [2, 4, 6, 7, 10, 11, 21, 22, 23] [(7, .c (.i .i64 p))] [2, 4, 10] [])
def b4H (L : List Lf) : List (Bool × (Ex × St)) := bnd (a1r N (li L 0) (lb L 6) (fun p => p)) fun q => [(true, a54 L q)]
theorem b1I (L : List Lf) : pc Tryz.prog (a0W N) ((c3q N).no 45056).h 0 100 67 45056 a6K L [2, 4, 6, 7, 10, 11, 21, 22, 23] [2, 4, 10] = a1r N (li L 0) (lb L 6) (fun p => some (a54 L p)) := by kernel_rfl
def c3r : Sg Tryz.prog 0 67 :=
 (c3q N).add (((c3q N).no 45056).cut (b4H N) a0e (a0m N) fun L x hx => (b1I N L).trans ((b1H N ..).trans (a2f _ _ hx))) 45056
def a1Y (w0 w1 w2 : Int) (w7 : Bool) (k0 : Int → R) : R :=
 bif w7 then
  k0 w0
 else
  bnd (bif (decide (w1 ≥ 0)) then (w2 == (IntKind.wrap .i64 (w1 + 1))) else false) fun y0 =>
  bnd (a3h N w0 y0) fun y1 =>
  k0 y1
def a3i (w0 w1 w2 : Int) (w7 : Bool) : Int := a1Y N w0 w1 w2 w7 (fun p => p)
theorem b1J (w0 w1 w2 : Int) (w7 : Bool) (k0 : Int → R) : a1Y N w0 w1 w2 w7 k0 = k0 (a3i N w0 w1 w2 w7) := by
 unfold a3i a1Y
 repeat' (first | rfl | apply a0q | (apply a0K; intro _))
def a7x (L : List Lf) (k0 : Int → R) : R := a1Y N (li L 0) (li L 1) (li L 2) (lb L 7) k0
def a6L : Sh := { tmps := [(2, .c (.p 2 0)), (4, .c (.p 4 0)), (6, .c (.f 114 [])), (7, .c (.i .i64)), (8, .c (.i .i64)), (10, .c (.p 10 0)), (11, .c (.i .i64)), (21, .c (.sl 40)), (22, .c (.i .i64)), (23, .c (.i .i64)), (49, .c (.b))], mem := [(2, .box (.s :: rI 7 ([.s, .sl 24]))), (4, .box (.s :: rI 6 ([.sl 9]))), (10, .box (.s :: rI 6 ([.sl 9])))] }
def a56 (L : List Lf) (p : Int) : Ex × St := (.normal, mg (a0p a6L L) [2, 4, 6, 7, 10, 11, 21, 22, 23] [(7, .c (.i .i64 p))] [2, 4, 10] [])
def b4I (L : List Lf) : List (Bool × (Ex × St)) := bnd (a7x N L (fun p => p)) fun q => [(true, a56 L q)]
theorem b1K (L : List Lf) : pc Tryz.prog (a0W N) ((c3r N).no 51002).h 0 100 67 51002 a6L L [2, 4, 6, 7, 10, 11, 21, 22, 23] [2, 4, 10] = a7x N L (fun p => some (a56 L p)) := by kernel_rfl
def c3s : Sg Tryz.prog 0 67 :=
 (c3r N).add (((c3r N).no 51002).cut (b4I N) a0e (a0m N) fun L x hx => (b1K N L).trans ((b1J N ..).trans (a2f _ _ hx))) 51002
def a2D (w0 w1 w2 : Int) (w7 : Bool) (w34 : Int) (k0 : Int × Int → R) : R :=
 bif w7 then
  bnd (a3i N w0 w1 w2 (w2 == w1)) fun y0 =>
  k0 (y0, w2)
 else
  k0 ((IntKind.wrap .i64 (w0 + w34)), w1)
def a3B (w0 w1 w2 : Int) (w7 : Bool) (w34 : Int) : Int × Int := a2D N w0 w1 w2 w7 w34 (fun p => p)
theorem b3d (w0 w1 w2 : Int) (w7 : Bool) (w34 : Int) (k0 : Int × Int → R) : a2D N w0 w1 w2 w7 w34 k0 = k0 (a3B N w0 w1 w2 w7 w34) := by
 unfold a3B a2D
 repeat' (first | rfl | apply a0q | (apply a0K; intro _))
def a8y (L : List Lf) (k0 : Int × Int → R) : R := a2D N (li L 0) (li L 1) (li L 2) (lb L 7) (li L 34) k0
def a7y : Sh := { tmps := [(2, .c (.p 2 0)), (4, .c (.p 4 0)), (6, .c (.f 114 [])), (7, .c (.i .i64)), (8, .c (.i .i64)), (10, .c (.p 10 0)), (11, .c (.i .i64)), (21, .c (.sl 40)), (22, .c (.i .i64)), (23, .c (.i .i64)), (47, .c (.b))], mem := [(2, .box (.s :: rI 7 ([.s, .sl 24]))), (4, .box (.s :: rI 6 ([.sl 9]))), (10, .box (.s :: rI 6 ([.sl 9])))] }
def a6M (L : List Lf) (p : Int × Int) : Ex × St := (.normal, mg (a0p a7y L) [2, 4, 6, 7, 8, 10, 21, 22, 23] [(7, .c (.i .i64 p.1)), (8, .c (.i .i64 p.2))] [2, 4, 10] [])
def b59 (L : List Lf) : List (Bool × (Ex × St)) := bnd (a8y N L (fun p => p)) fun q => [(true, a6M L q)]
theorem b3e (L : List Lf) : pc Tryz.prog (a0W N) ((c3s N).no 33050).h 0 100 67 33050 a7y L [2, 4, 6, 7, 8, 10, 21, 22, 23] [2, 4, 10] = a8y N L (fun p => some (a6M L p)) := by kernel_rfl
def c3t : Sg Tryz.prog 0 67 :=
 (c3s N).add (((c3s N).no 33050).cut (b59 N) a0e (a0m N) fun L x hx => (b3e N L).trans ((b3d N ..).trans (a2f _ _ hx))) 33050
def a2E (w0 w1 w2 w7 : Int) (w8 : Bool) (w35 : Int) (k0 : Int × Int → R) : R :=
 bif w8 then
  k0 (w35, w1)
 else
  bnd (a3B N w0 w1 w2 (w7 == 4) w35) fun y0 =>
  k0 y0
def a2F (w0 w1 w2 w7 : Int) (w8 : Bool) (w35 : Int) : Int × Int := a2E N w0 w1 w2 w7 w8 w35 (fun p => p)
theorem b3f (w0 w1 w2 w7 : Int) (w8 : Bool) (w35 : Int) (k0 : Int × Int → R) : a2E N w0 w1 w2 w7 w8 w35 k0 = k0 (a2F N w0 w1 w2 w7 w8 w35) := by
 unfold a2F a2E
 repeat' (first | rfl | apply a0q | (apply a0K; intro _))
def a8z (L : List Lf) (k0 : Int × Int → R) : R := a2E N (li L 0) (li L 1) (li L 2) (li L 7) (lb L 8) (li L 35) k0
def a7z : Sh := { tmps := [(2, .c (.p 2 0)), (4, .c (.p 4 0)), (6, .c (.f 114 [])), (7, .c (.i .i64)), (8, .c (.i .i64)), (10, .c (.p 10 0)), (11, .c (.i .i64)), (21, .c (.sl 40)), (22, .c (.i .i64)), (23, .c (.i .i64)), (36, .c (.i .i64)), (42, .c (.b))], mem := [(2, .box (.s :: rI 7 ([.s, .sl 24]))), (4, .box (.s :: rI 6 ([.sl 9]))), (10, .box (.s :: rI 6 ([.sl 9])))] }
def a6N (L : List Lf) (p : Int × Int) : Ex × St := (.normal, mg (a0p a7z L) [2, 4, 6, 7, 8, 10, 21, 22, 23] [(7, .c (.i .i64 p.1)), (8, .c (.i .i64 p.2))] [2, 4, 10] [])
def b6a (L : List Lf) : List (Bool × (Ex × St)) := bnd (a8z N L (fun p => p)) fun q => [(true, a6N L q)]
theorem b3g (L : List Lf) : pc Tryz.prog (a0W N) ((c3t N).no 42041).h 0 100 67 42041 a7z L [2, 4, 6, 7, 8, 10, 21, 22, 23] [2, 4, 10] = a8z N L (fun p => some (a6N L p)) := by kernel_rfl
def c3u : Sg Tryz.prog 0 67 :=
 (c3t N).add (((c3t N).no 42041).cut (b6a N) a0e (a0m N) fun L x hx => (b3g N L).trans ((b3f N ..).trans (a2f _ _ hx))) 42041
def a2J (w3 : LD) (w4 w7 w9 w10 w11 w12 w13 : Int) (w14 : LB) (w15 : Bool) (w16 : LD) (w0 w1 w5 : Int) (kr : Int → Int → Int → Option R) (k0 : Ty1 → Option R) (k1 : Unit → Option R) : Option R :=
 bif (decide (w5 < w4)) then
  bif (inB w5 w3.length) then
   bnd (a8F N N w10 w11 w12 w13 w14 w15 w16 ((w3.getD w5.toNat (.i 0)).cell 0).toS ((w3.getD w5.toNat (.i 0)).cell 1).toI ((w3.getD w5.toNat (.i 0)).cell 2).toI ((w3.getD w5.toNat (.i 0)).cell 3).toI ((w3.getD w5.toNat (.i 0)).cell 4).toI ((w3.getD w5.toNat (.i 0)).cell 5).toI ((w3.getD w5.toNat (.i 0)).cell 6).toI ((w3.getD w5.toNat (.i 0)).cell 7).isNil ((w3.getD w5.toNat (.i 0)).cell 7).items) fun y0 =>
   bif y0.isSome then
    bif (!(y0.getD default)) then
     kr w0 w1 (IntKind.wrap .i64 (w5 + 1))
    else
     bnd (IntKind.wrap .i64 (((w3.getD w5.toNat (.i 0)).cell 2).toI.tdiv 86400)) fun y1 =>
     bnd (a2F N w0 w1 y1 w7 (w7 == 3) ((w3.getD w5.toNat (.i 0)).cell 6).toI) fun y2 =>
     bif (decide (y2.1 ≥ w9)) then
      k0 (((w3.getD w5.toNat (.i 0)).cell 0).toS, ((w3.getD w5.toNat (.i 0)).cell 1).toI, ((w3.getD w5.toNat (.i 0)).cell 2).toI, ((w3.getD w5.toNat (.i 0)).cell 3).toI, ((w3.getD w5.toNat (.i 0)).cell 4).toI, ((w3.getD w5.toNat (.i 0)).cell 5).toI, ((w3.getD w5.toNat (.i 0)).cell 6).toI, ((w3.getD w5.toNat (.i 0)).cell 7).isNil, ((w3.getD w5.toNat (.i 0)).cell 7).items)
     else
      kr y2.1 y2.2 (IntKind.wrap .i64 (w5 + 1))
   else
    none
  else
   none
 else
  k1 ()
def a4F (N : Nat) {R : Type} (w3 : LD) (w4 w7 w9 w10 w11 w12 w13 : Int) (w14 : LB) (w15 : Bool) (w16 : LD) : Nat → Int → Int → Int → (Ty1 → Option R) → (Unit → Option R) → Option R
 | 0, _, _, _, _, _ => none
 | m + 1, w0, w1, w5, k0, k1 => a2J N w3 w4 w7 w9 w10 w11 w12 w13 w14 w15 w16 w0 w1 w5 (fun w0 w1 w5 => a4F N w3 w4 w7 w9 w10 w11 w12 w13 w14 w15 w16 m w0 w1 w5 k0 k1) k0 k1
def a65 (w3 : LD) (w4 w7 w9 w10 w11 w12 w13 : Int) (w14 : LB) (w15 : Bool) (w16 : LD) (w0 w1 w5 : Int) : Option (Sum (Ty1) (Unit)) := a4F N (R := (Sum (Ty1) (Unit))) w3 w4 w7 w9 w10 w11 w12 w13 w14 w15 w16 N w0 w1 w5 (fun p => some (.inl p)) (fun p => some (.inr p))
def a3u (L x : List Lf) (kr : List Lf → Option R) (k0 : Ty1 → Option R) (k1 : Unit → Option R) : Option R := a2J N (ll L 3) (li L 4) (li L 7) (li L 9) (li L 10) (li L 11) (li L 12) (li L 13) (ls L 14) (lb L 15) (ll L 16) (li x 0) (li x 1) (li x 2) (fun w0 w1 w5 => kr [.i w0, .i w1, .i w5]) k0 k1
theorem a9s (L x : List Lf) (kr : List Lf → Option R) (k0 : Ty1 → Option R) (k1 : Unit → Option R) : a3u N L x kr k0 k1 = (a3u N L x (fun y => some (.inl y)) (fun p => some (.inr (.inl p))) (fun p => some (.inr (.inr p)))).bind (a1m kr (a1m k0 k1)) := by
 unfold a3u a2J
 repeat' (first | with_reducible apply a0k | (with_reducible apply a0y; intro _) | rfl)
def a4G (L : List Lf) (m : Nat) (x : List Lf) : Option (Sum (Ty1) (Unit)) := a4F N (R := (Sum (Ty1) (Unit))) (ll L 3) (li L 4) (li L 7) (li L 9) (li L 10) (li L 11) (li L 12) (li L 13) (ls L 14) (lb L 15) (ll L 16) m (li x 0) (li x 1) (li x 2) (fun p => some (.inl p)) (fun p => some (.inr p))
def a1Z : Sh := { tmps := [(2, .c (.p 2 0)), (4, .c (.p 4 0)), (6, .c (.f 114 [])), (7, .c (.i .i64)), (8, .c (.i .i64)), (21, .c (.sl 40)), (22, .c (.i .i64)), (23, .c (.i .i64))], mem := [(2, .box (.s :: rI 7 ([.s, .sl 24]))), (4, .box (.s :: rI 6 ([.sl 9])))] }
def a8A (L : List Lf) (p : Ty1) : Ex × St := let p1 := p.2; let p2 := p1.2; let p3 := p2.2; let p4 := p3.2; let p5 := p4.2; let p6 := p5.2; let p7 := p6.2; let p8 := p7.2; (.ret, ⟨[(4, .c (.p 4 0)), (5, .c (.b true))], [(4, .box [.s p.1, .i .i64 p1.1, .i .i64 p2.1, .i .i64 p3.1, .i .i64 p4.1, .i .i64 p5.1, .i .i64 p6.1, .sl 9 p7.1 p8])]⟩)
def b9Z (L : List Lf) : List (Bool × (Ex × St)) := bnd (a4G N L N (pk a1Z [0, 1, 5] L)) fun q => [((a04 q), a8A L (a0P q)), ((a0r q).isSome, ((.exit 0), mg (a0p a1Z L) [4] [] [4] []))]
theorem b4J (m : Nat) (kn : St → Option (Ex × St)) (L x : List Lf) : lpB Tryz.prog (a0W N) ((c3u N).no 18).h 0 67 18 a1Z [0, 1, 5] [4, 5] [4] (m + 100) kn L x = a3u N L x (fun y => kn (a0p a1Z (mx a1Z [0, 1, 5] L y))) (fun p => some (a8A L p)) (fun _ => some ((.exit 0), mg (a0p a1Z L) [4] [] [4] [])) := by kernel_rfl
theorem b86 (L : List Lf) (m : Nat) (x : List Lf) : a4G N L (m + 1) x = a3u N L x (a4G N L m) (fun p => some (.inl p)) (fun p => some (.inr p)) := by kernel_rfl
def c3v : Sg Tryz.prog 0 67 :=
 (c3u N).add (((c3u N).no 18).lp (b9Z N) N a0e (a0m N) (fun m kn L x => (b4J N m kn L x).trans (a9s N L x _ _ _)) (fun L m x => (b86 N L m x).trans (a9s N L x (a4G N L m) (fun p => some (.inl p)) (fun p => some (.inr p)))) fun L x hx => (a4i a1f) x hx) 18
def a1i (N : Nat) (w0 : Int) (w6 : Bool) (k0 : Int → R) : R :=
 bif w6 then
  k0 (IntKind.wrap .i64 (w0 + 1))
 else
  k0 1
def a2O (w0 : Int) (w6 : Bool) : Int := a1i N w0 w6 (fun p => p)
theorem b0J (w0 : Int) (w6 : Bool) (k0 : Int → R) : a1i N w0 w6 k0 = k0 (a2O N w0 w6) := by
 unfold a2O a1i
 repeat' (first | rfl | apply a0q | (apply a0K; intro _))
def a57 : Sh := { tmps := [(2, .c (.p 2 0)), (4, .c (.p 4 0)), (6, .c (.f 115 [])), (7, .c (.i .i64)), (10, .c (.p 10 0)), (11, .c (.i .i64)), (21, .c (.sl 40)), (22, .c (.i .i64)), (23, .c (.i .i64)), (53, .c (.b))], mem := [(2, .box (.s :: rI 7 ([.s, .sl 24]))), (4, .box (.s :: rI 6 ([.sl 9]))), (10, .box (.s :: rI 6 ([.sl 9])))] }
def a48 (L : List Lf) (p : Int) : Ex × St := (.normal, mg (a0p a57 L) [2, 4, 6, 7, 10, 11, 21, 22, 23] [(7, .c (.i .i64 p))] [2, 4, 10] [])
def b3h (L : List Lf) : List (Bool × (Ex × St)) := bnd (a1i N (li L 0) (lb L 6) (fun p => p)) fun q => [(true, a48 L q)]
theorem b0K (L : List Lf) : pc Tryz.prog (a0W N) ((c3v N).no 45056).h 0 100 67 45056 a57 L [2, 4, 6, 7, 10, 11, 21, 22, 23] [2, 4, 10] = a1i N (li L 0) (lb L 6) (fun p => some (a48 L p)) := by kernel_rfl
def c3w : Sg Tryz.prog 0 67 :=
 (c3v N).add (((c3v N).no 45056).cut (b3h N) a0e (a0m N) fun L x hx => (b0K N L).trans ((b0J N ..).trans (a2f _ _ hx))) 45056
def a1L (w0 w1 w2 : Int) (w7 : Bool) (k0 : Int → R) : R :=
 bif w7 then
  k0 w0
 else
  bnd (bif (decide (w1 ≥ 0)) then (w2 == (IntKind.wrap .i64 (w1 + 1))) else false) fun y0 =>
  bnd (a2O N w0 y0) fun y1 =>
  k0 y1
def a2P (w0 w1 w2 : Int) (w7 : Bool) : Int := a1L N w0 w1 w2 w7 (fun p => p)
theorem b0L (w0 w1 w2 : Int) (w7 : Bool) (k0 : Int → R) : a1L N w0 w1 w2 w7 k0 = k0 (a2P N w0 w1 w2 w7) := by
 unfold a2P a1L
 repeat' (first | rfl | apply a0q | (apply a0K; intro _))
def a6O (L : List Lf) (k0 : Int → R) : R := a1L N (li L 0) (li L 1) (li L 2) (lb L 7) k0
def a58 : Sh := { tmps := [(2, .c (.p 2 0)), (4, .c (.p 4 0)), (6, .c (.f 115 [])), (7, .c (.i .i64)), (8, .c (.i .i64)), (10, .c (.p 10 0)), (11, .c (.i .i64)), (21, .c (.sl 40)), (22, .c (.i .i64)), (23, .c (.i .i64)), (49, .c (.b))], mem := [(2, .box (.s :: rI 7 ([.s, .sl 24]))), (4, .box (.s :: rI 6 ([.sl 9]))), (10, .box (.s :: rI 6 ([.sl 9])))] }
def a49 (L : List Lf) (p : Int) : Ex × St := (.normal, mg (a0p a58 L) [2, 4, 6, 7, 10, 11, 21, 22, 23] [(7, .c (.i .i64 p))] [2, 4, 10] [])
def b3i (L : List Lf) : List (Bool × (Ex × St)) := bnd (a6O N L (fun p => p)) fun q => [(true, a49 L q)]
theorem b0M (L : List Lf) : pc Tryz.prog (a0W N) ((c3w N).no 51002).h 0 100 67 51002 a58 L [2, 4, 6, 7, 10, 11, 21, 22, 23] [2, 4, 10] = a6O N L (fun p => some (a49 L p)) := by kernel_rfl
def c3x : Sg Tryz.prog 0 67 :=
 (c3w N).add (((c3w N).no 51002).cut (b3i N) a0e (a0m N) fun L x hx => (b0M N L).trans ((b0L N ..).trans (a2f _ _ hx))) 51002
def a2a (w0 w1 w2 : Int) (w7 : Bool) (w30 : Int) (k0 : Int × Int → R) : R :=
 bif w7 then
  bnd (a2P N w0 w1 w2 (w2 == w1)) fun y0 =>
  k0 (y0, w2)
 else
  bnd (c6m N w30) fun y1 =>
  k0 ((IntKind.wrap .i64 (w0 + y1)), w1)
def a3j (w0 w1 w2 : Int) (w7 : Bool) (w30 : Int) : Int × Int := a2a N w0 w1 w2 w7 w30 (fun p => p)
theorem b1L (w0 w1 w2 : Int) (w7 : Bool) (w30 : Int) (k0 : Int × Int → R) : a2a N w0 w1 w2 w7 w30 k0 = k0 (a3j N w0 w1 w2 w7 w30) := by
 unfold a3j a2a
 repeat' (first | rfl | apply a0q | (apply a0K; intro _))
def a7A (L : List Lf) (k0 : Int × Int → R) : R := a2a N (li L 0) (li L 1) (li L 2) (lb L 7) (li L 30) k0
def a6P : Sh := { tmps := [(2, .c (.p 2 0)), (4, .c (.p 4 0)), (6, .c (.f 115 [])), (7, .c (.i .i64)), (8, .c (.i .i64)), (10, .c (.p 10 0)), (11, .c (.i .i64)), (21, .c (.sl 40)), (22, .c (.i .i64)), (23, .c (.i .i64)), (47, .c (.b))], mem := [(2, .box (.s :: rI 7 ([.s, .sl 24]))), (4, .box (.s :: rI 6 ([.sl 9]))), (10, .box (.s :: rI 6 ([.sl 9])))] }
def a59 (L : List Lf) (p : Int × Int) : Ex × St := (.normal, mg (a0p a6P L) [2, 4, 6, 7, 8, 10, 21, 22, 23] [(7, .c (.i .i64 p.1)), (8, .c (.i .i64 p.2))] [2, 4, 10] [])
def b4K (L : List Lf) : List (Bool × (Ex × St)) := bnd (a7A N L (fun p => p)) fun q => [(true, a59 L q)]
theorem b1M (L : List Lf) : pc Tryz.prog (a0W N) ((c3x N).no 33050).h 0 100 67 33050 a6P L [2, 4, 6, 7, 8, 10, 21, 22, 23] [2, 4, 10] = a7A N L (fun p => some (a59 L p)) := by kernel_rfl
def c3y : Sg Tryz.prog 0 67 :=
 (c3x N).add (((c3x N).no 33050).cut (b4K N) a0e (a0m N) fun L x hx => (b1M N L).trans ((b1L N ..).trans (a2f _ _ hx))) 33050
def a2b (w0 w1 w2 w7 : Int) (w8 : Bool) (w31 : Int) (k0 : Int × Int → R) : R :=
 bif w8 then
  bnd (c6m N w31) fun y0 =>
  k0 (y0, w1)
 else
  bnd (a3j N w0 w1 w2 (w7 == 4) w31) fun y1 =>
  k0 y1
def a2c (w0 w1 w2 w7 : Int) (w8 : Bool) (w31 : Int) : Int × Int := a2b N w0 w1 w2 w7 w8 w31 (fun p => p)
theorem b1N (w0 w1 w2 w7 : Int) (w8 : Bool) (w31 : Int) (k0 : Int × Int → R) : a2b N w0 w1 w2 w7 w8 w31 k0 = k0 (a2c N w0 w1 w2 w7 w8 w31) := by
 unfold a2c a2b
 repeat' (first | rfl | apply a0q | (apply a0K; intro _))
def a7B (L : List Lf) (k0 : Int × Int → R) : R := a2b N (li L 0) (li L 1) (li L 2) (li L 7) (lb L 8) (li L 31) k0
def a6Q : Sh := { tmps := [(2, .c (.p 2 0)), (4, .c (.p 4 0)), (6, .c (.f 115 [])), (7, .c (.i .i64)), (8, .c (.i .i64)), (10, .c (.p 10 0)), (11, .c (.i .i64)), (21, .c (.sl 40)), (22, .c (.i .i64)), (23, .c (.i .i64)), (36, .c (.i .i64)), (42, .c (.b))], mem := [(2, .box (.s :: rI 7 ([.s, .sl 24]))), (4, .box (.s :: rI 6 ([.sl 9]))), (10, .box (.s :: rI 6 ([.sl 9])))] }
def a6a (L : List Lf) (p : Int × Int) : Ex × St := (.normal, mg (a0p a6Q L) [2, 4, 6, 7, 8, 10, 21, 22, 23] [(7, .c (.i .i64 p.1)), (8, .c (.i .i64 p.2))] [2, 4, 10] [])
def b4L (L : List Lf) : List (Bool × (Ex × St)) := bnd (a7B N L (fun p => p)) fun q => [(true, a6a L q)]
theorem b1O (L : List Lf) : pc Tryz.prog (a0W N) ((c3y N).no 42041).h 0 100 67 42041 a6Q L [2, 4, 6, 7, 8, 10, 21, 22, 23] [2, 4, 10] = a7B N L (fun p => some (a6a L p)) := by kernel_rfl
def c3z : Sg Tryz.prog 0 67 :=
 (c3y N).add (((c3y N).no 42041).cut (b4L N) a0e (a0m N) fun L x hx => (b1O N L).trans ((b1N N ..).trans (a2f _ _ hx))) 42041
def a2d (w3 : LD) (w4 w7 w9 w10 w11 w12 w13 : Int) (w14 : LB) (w15 : Bool) (w16 : LD) (w0 w1 w5 : Int) (kr : Int → Int → Int → Option R) (k0 : Ty1 → Option R) (k1 : Unit → Option R) : Option R :=
 bif (decide (w5 < w4)) then
  bif (inB w5 w3.length) then
   bnd (a8F N N w10 w11 w12 w13 w14 w15 w16 ((w3.getD w5.toNat (.i 0)).cell 0).toS ((w3.getD w5.toNat (.i 0)).cell 1).toI ((w3.getD w5.toNat (.i 0)).cell 2).toI ((w3.getD w5.toNat (.i 0)).cell 3).toI ((w3.getD w5.toNat (.i 0)).cell 4).toI ((w3.getD w5.toNat (.i 0)).cell 5).toI ((w3.getD w5.toNat (.i 0)).cell 6).toI ((w3.getD w5.toNat (.i 0)).cell 7).isNil ((w3.getD w5.toNat (.i 0)).cell 7).items) fun y0 =>
   bif y0.isSome then
    bif (!(y0.getD default)) then
     kr w0 w1 (IntKind.wrap .i64 (w5 + 1))
    else
     bnd (IntKind.wrap .i64 (((w3.getD w5.toNat (.i 0)).cell 2).toI.tdiv 86400)) fun y1 =>
     bnd (a2c N w0 w1 y1 w7 (w7 == 3) ((w3.getD w5.toNat (.i 0)).cell 2).toI) fun y2 =>
     bif (decide (y2.1 ≥ w9)) then
      k0 (((w3.getD w5.toNat (.i 0)).cell 0).toS, ((w3.getD w5.toNat (.i 0)).cell 1).toI, ((w3.getD w5.toNat (.i 0)).cell 2).toI, ((w3.getD w5.toNat (.i 0)).cell 3).toI, ((w3.getD w5.toNat (.i 0)).cell 4).toI, ((w3.getD w5.toNat (.i 0)).cell 5).toI, ((w3.getD w5.toNat (.i 0)).cell 6).toI, ((w3.getD w5.toNat (.i 0)).cell 7).isNil, ((w3.getD w5.toNat (.i 0)).cell 7).items)
     else
      kr y2.1 y2.2 (IntKind.wrap .i64 (w5 + 1))
   else
    none
  else
   none
 else
  k1 ()
def a4d (N : Nat) {R : Type} (w3 : LD) (w4 w7 w9 w10 w11 w12 w13 : Int) (w14 : LB) (w15 : Bool) (w16 : LD) : Nat → Int → Int → Int → (Ty1 → Option R) → (Unit → Option R) → Option R
 | 0, _, _, _, _, _ => none
 | m + 1, w0, w1, w5, k0, k1 => a2d N w3 w4 w7 w9 w10 w11 w12 w13 w14 w15 w16 w0 w1 w5 (fun w0 w1 w5 => a4d N w3 w4 w7 w9 w10 w11 w12 w13 w14 w15 w16 m w0 w1 w5 k0 k1) k0 k1
def a6b (w3 : LD) (w4 w7 w9 w10 w11 w12 w13 : Int) (w14 : LB) (w15 : Bool) (w16 : LD) (w0 w1 w5 : Int) : Option (Sum (Ty1) (Unit)) := a4d N (R := (Sum (Ty1) (Unit))) w3 w4 w7 w9 w10 w11 w12 w13 w14 w15 w16 N w0 w1 w5 (fun p => some (.inl p)) (fun p => some (.inr p))
def a3b (L x : List Lf) (kr : List Lf → Option R) (k0 : Ty1 → Option R) (k1 : Unit → Option R) : Option R := a2d N (ll L 3) (li L 4) (li L 7) (li L 9) (li L 10) (li L 11) (li L 12) (li L 13) (ls L 14) (lb L 15) (ll L 16) (li x 0) (li x 1) (li x 2) (fun w0 w1 w5 => kr [.i w0, .i w1, .i w5]) k0 k1
theorem a8B (L x : List Lf) (kr : List Lf → Option R) (k0 : Ty1 → Option R) (k1 : Unit → Option R) : a3b N L x kr k0 k1 = (a3b N L x (fun y => some (.inl y)) (fun p => some (.inr (.inl p))) (fun p => some (.inr (.inr p)))).bind (a1m kr (a1m k0 k1)) := by
 unfold a3b a2d
 repeat' (first | with_reducible apply a0k | (with_reducible apply a0y; intro _) | rfl)
def a4e (L : List Lf) (m : Nat) (x : List Lf) : Option (Sum (Ty1) (Unit)) := a4d N (R := (Sum (Ty1) (Unit))) (ll L 3) (li L 4) (li L 7) (li L 9) (li L 10) (li L 11) (li L 12) (li L 13) (ls L 14) (lb L 15) (ll L 16) m (li x 0) (li x 1) (li x 2) (fun p => some (.inl p)) (fun p => some (.inr p))
def a1E : Sh := { tmps := [(2, .c (.p 2 0)), (4, .c (.p 4 0)), (6, .c (.f 115 [])), (7, .c (.i .i64)), (8, .c (.i .i64)), (21, .c (.sl 40)), (22, .c (.i .i64)), (23, .c (.i .i64))], mem := [(2, .box (.s :: rI 7 ([.s, .sl 24]))), (4, .box (.s :: rI 6 ([.sl 9])))] }
def a7C (L : List Lf) (p : Ty1) : Ex × St := let p1 := p.2; let p2 := p1.2; let p3 := p2.2; let p4 := p3.2; let p5 := p4.2; let p6 := p5.2; let p7 := p6.2; let p8 := p7.2; (.ret, ⟨[(4, .c (.p 4 0)), (5, .c (.b true))], [(4, .box [.s p.1, .i .i64 p1.1, .i .i64 p2.1, .i .i64 p3.1, .i .i64 p4.1, .i .i64 p5.1, .i .i64 p6.1, .sl 9 p7.1 p8])]⟩)
def b87 (L : List Lf) : List (Bool × (Ex × St)) := bnd (a4e N L N (pk a1E [0, 1, 5] L)) fun q => [((a04 q), a7C L (a0P q)), ((a0r q).isSome, ((.exit 0), mg (a0p a1E L) [4] [] [4] []))]
theorem b3j (m : Nat) (kn : St → Option (Ex × St)) (L x : List Lf) : lpB Tryz.prog (a0W N) ((c3z N).no 18).h 0 67 18 a1E [0, 1, 5] [4, 5] [4] (m + 100) kn L x = a3b N L x (fun y => kn (a0p a1E (mx a1E [0, 1, 5] L y))) (fun p => some (a7C L p)) (fun _ => some ((.exit 0), mg (a0p a1E L) [4] [] [4] [])) := by kernel_rfl
theorem b6b (L : List Lf) (m : Nat) (x : List Lf) : a4e N L (m + 1) x = a3b N L x (a4e N L m) (fun p => some (.inl p)) (fun p => some (.inr p)) := by kernel_rfl
def c3A : Sg Tryz.prog 0 67 :=
 (c3z N).add (((c3z N).no 18).lp (b87 N) N a0e (a0m N) (fun m kn L x => (b3j N m kn L x).trans (a8B N L x _ _ _)) (fun L m x => (b6b N L m x).trans (a8B N L x (a4e N L m) (fun p => some (.inl p)) (fun p => some (.inr p)))) fun L x hx => (a4i a1f) x hx) 18
def a1a (N : Nat) (w0 : Int) (w6 : Bool) (k0 : Int → R) : R :=
 bif w6 then
  k0 (IntKind.wrap .i64 (w0 + 1))
 else
  k0 1
def a2x (w0 : Int) (w6 : Bool) : Int := a1a N w0 w6 (fun p => p)
theorem a9t (w0 : Int) (w6 : Bool) (k0 : Int → R) : a1a N w0 w6 k0 = k0 (a2x N w0 w6) := by
 unfold a2x a1a
 repeat' (first | rfl | apply a0q | (apply a0K; intro _))
def a5a : Sh := { tmps := [(2, .c (.p 2 0)), (4, .c (.p 4 0)), (6, .c (.f 104 [])), (7, .c (.i .i64)), (10, .c (.p 10 0)), (11, .c (.i .i64)), (21, .c (.sl 40)), (22, .c (.i .i64)), (23, .c (.i .i64)), (53, .c (.b))], mem := [(2, .box (.s :: rI 7 ([.s, .sl 24]))), (4, .box (.s :: rI 6 ([.sl 9]))), (10, .box (.s :: rI 6 ([.sl 9])))] }
def a4T (L : List Lf) (p : Int) : Ex × St := (.normal, mg (a0p a5a L) [2, 4, 6, 7, 10, 11, 21, 22, 23] [(7, .c (.i .i64 p))] [2, 4, 10] [])
def b1P (L : List Lf) : List (Bool × (Ex × St)) := bnd (a1a N (li L 0) (lb L 6) (fun p => p)) fun q => [(true, a4T L q)]
theorem a9u (L : List Lf) : pc Tryz.prog (a0W N) ((c3A N).no 45056).h 0 100 67 45056 a5a L [2, 4, 6, 7, 10, 11, 21, 22, 23] [2, 4, 10] = a1a N (li L 0) (lb L 6) (fun p => some (a4T L p)) := by kernel_rfl
def c3B : Sg Tryz.prog 0 67 :=
 (c3A N).add (((c3A N).no 45056).cut (b1P N) a0e (a0m N) fun L x hx => (a9u N L).trans ((a9t N ..).trans (a2f _ _ hx))) 45056
def a1v (w0 w1 w2 : Int) (w7 : Bool) (k0 : Int → R) : R :=
 bif w7 then
  k0 w0
 else
  bnd (bif (decide (w1 ≥ 0)) then (w2 == (IntKind.wrap .i64 (w1 + 1))) else false) fun y0 =>
  bnd (a2x N w0 y0) fun y1 =>
  k0 y1
def a2y (w0 w1 w2 : Int) (w7 : Bool) : Int := a1v N w0 w1 w2 w7 (fun p => p)
theorem a9v (w0 w1 w2 : Int) (w7 : Bool) (k0 : Int → R) : a1v N w0 w1 w2 w7 k0 = k0 (a2y N w0 w1 w2 w7) := by
 unfold a2y a1v
 repeat' (first | rfl | apply a0q | (apply a0K; intro _))
def a6c (L : List Lf) (k0 : Int → R) : R := a1v N (li L 0) (li L 1) (li L 2) (lb L 7) k0
def a5b : Sh := { tmps := [(2, .c (.p 2 0)), (4, .c (.p 4 0)), (6, .c (.f 104 [])), (7, .c (.i .i64)), (8, .c (.i .i64)), (10, .c (.p 10 0)), (11, .c (.i .i64)), (21, .c (.sl 40)), (22, .c (.i .i64)), (23, .c (.i .i64)), (49, .c (.b))], mem := [(2, .box (.s :: rI 7 ([.s, .sl 24]))), (4, .box (.s :: rI 6 ([.sl 9]))), (10, .box (.s :: rI 6 ([.sl 9])))] }
def a4U (L : List Lf) (p : Int) : Ex × St := (.normal, mg (a0p a5b L) [2, 4, 6, 7, 10, 11, 21, 22, 23] [(7, .c (.i .i64 p))] [2, 4, 10] [])
def b1Q (L : List Lf) : List (Bool × (Ex × St)) := bnd (a6c N L (fun p => p)) fun q => [(true, a4U L q)]
theorem a9w (L : List Lf) : pc Tryz.prog (a0W N) ((c3B N).no 51002).h 0 100 67 51002 a5b L [2, 4, 6, 7, 10, 11, 21, 22, 23] [2, 4, 10] = a6c N L (fun p => some (a4U L p)) := by kernel_rfl
def c3C : Sg Tryz.prog 0 67 :=
 (c3B N).add (((c3B N).no 51002).cut (b1Q N) a0e (a0m N) fun L x hx => (a9w N L).trans ((a9v N ..).trans (a2f _ _ hx))) 51002
def a1M (w0 w1 w2 : Int) (w7 : Bool) (k0 : Int × Int → R) : R :=
 bif w7 then
  bnd (a2y N w0 w1 w2 (w2 == w1)) fun y0 =>
  k0 (y0, w2)
 else
  k0 ((IntKind.wrap .i64 (w0 + 1)), w1)
def a2Q (w0 w1 w2 : Int) (w7 : Bool) : Int × Int := a1M N w0 w1 w2 w7 (fun p => p)
theorem b0N (w0 w1 w2 : Int) (w7 : Bool) (k0 : Int × Int → R) : a1M N w0 w1 w2 w7 k0 = k0 (a2Q N w0 w1 w2 w7) := by
 unfold a2Q a1M
 repeat' (first | rfl | apply a0q | (apply a0K; intro _))
def a6R (L : List Lf) (k0 : Int × Int → R) : R := a1M N (li L 0) (li L 1) (li L 2) (lb L 7) k0
def a6d : Sh := { tmps := [(2, .c (.p 2 0)), (4, .c (.p 4 0)), (6, .c (.f 104 [])), (7, .c (.i .i64)), (8, .c (.i .i64)), (10, .c (.p 10 0)), (11, .c (.i .i64)), (21, .c (.sl 40)), (22, .c (.i .i64)), (23, .c (.i .i64)), (47, .c (.b))], mem := [(2, .box (.s :: rI 7 ([.s, .sl 24]))), (4, .box (.s :: rI 6 ([.sl 9]))), (10, .box (.s :: rI 6 ([.sl 9])))] }
def a5c (L : List Lf) (p : Int × Int) : Ex × St := (.normal, mg (a0p a6d L) [2, 4, 6, 7, 8, 10, 21, 22, 23] [(7, .c (.i .i64 p.1)), (8, .c (.i .i64 p.2))] [2, 4, 10] [])
def b3k (L : List Lf) : List (Bool × (Ex × St)) := bnd (a6R N L (fun p => p)) fun q => [(true, a5c L q)]
theorem b0O (L : List Lf) : pc Tryz.prog (a0W N) ((c3C N).no 33050).h 0 100 67 33050 a6d L [2, 4, 6, 7, 8, 10, 21, 22, 23] [2, 4, 10] = a6R N L (fun p => some (a5c L p)) := by kernel_rfl
def c3D : Sg Tryz.prog 0 67 :=
 (c3C N).add (((c3C N).no 33050).cut (b3k N) a0e (a0m N) fun L x hx => (b0O N L).trans ((b0N N ..).trans (a2f _ _ hx))) 33050
def a1N (w0 w1 w2 w7 : Int) (w8 : Bool) (k0 : Int × Int → R) : R :=
 bif w8 then
  k0 (1, w1)
 else
  bnd (a2Q N w0 w1 w2 (w7 == 4)) fun y0 =>
  k0 y0
def a1O (w0 w1 w2 w7 : Int) (w8 : Bool) : Int × Int := a1N N w0 w1 w2 w7 w8 (fun p => p)
theorem b0P (w0 w1 w2 w7 : Int) (w8 : Bool) (k0 : Int × Int → R) : a1N N w0 w1 w2 w7 w8 k0 = k0 (a1O N w0 w1 w2 w7 w8) := by
 unfold a1O a1N
 repeat' (first | rfl | apply a0q | (apply a0K; intro _))
def a6S (L : List Lf) (k0 : Int × Int → R) : R := a1N N (li L 0) (li L 1) (li L 2) (li L 7) (lb L 8) k0
def a6e : Sh := { tmps := [(2, .c (.p 2 0)), (4, .c (.p 4 0)), (6, .c (.f 104 [])), (7, .c (.i .i64)), (8, .c (.i .i64)), (10, .c (.p 10 0)), (11, .c (.i .i64)), (21, .c (.sl 40)), (22, .c (.i .i64)), (23, .c (.i .i64)), (36, .c (.i .i64)), (42, .c (.b))], mem := [(2, .box (.s :: rI 7 ([.s, .sl 24]))), (4, .box (.s :: rI 6 ([.sl 9]))), (10, .box (.s :: rI 6 ([.sl 9])))] }
def a5d (L : List Lf) (p : Int × Int) : Ex × St := (.normal, mg (a0p a6e L) [2, 4, 6, 7, 8, 10, 21, 22, 23] [(7, .c (.i .i64 p.1)), (8, .c (.i .i64 p.2))] [2, 4, 10] [])
def b3l (L : List Lf) : List (Bool × (Ex × St)) := bnd (a6S N L (fun p => p)) fun q => [(true, a5d L q)]
theorem b0Q (L : List Lf) : pc Tryz.prog (a0W N) ((c3D N).no 42041).h 0 100 67 42041 a6e L [2, 4, 6, 7, 8, 10, 21, 22, 23] [2, 4, 10] = a6S N L (fun p => some (a5d L p)) := by kernel_rfl
def c3E : Sg Tryz.prog 0 67 :=
 (c3D N).add (((c3D N).no 42041).cut (b3l N) a0e (a0m N) fun L x hx => (b0Q N L).trans ((b0P N ..).trans (a2f _ _ hx))) 42041
def a1F (w3 : LD) (w4 w7 w9 w10 w11 w12 w13 : Int) (w14 : LB) (w15 : Bool) (w16 : LD) (w0 w1 w5 : Int) (kr : Int → Int → Int → Option R) (k0 : Ty1 → Option R) (k1 : Unit → Option R) : Option R :=
 bif (decide (w5 < w4)) then
  bif (inB w5 w3.length) then
   bnd (a8F N N w10 w11 w12 w13 w14 w15 w16 ((w3.getD w5.toNat (.i 0)).cell 0).toS ((w3.getD w5.toNat (.i 0)).cell 1).toI ((w3.getD w5.toNat (.i 0)).cell 2).toI ((w3.getD w5.toNat (.i 0)).cell 3).toI ((w3.getD w5.toNat (.i 0)).cell 4).toI ((w3.getD w5.toNat (.i 0)).cell 5).toI ((w3.getD w5.toNat (.i 0)).cell 6).toI ((w3.getD w5.toNat (.i 0)).cell 7).isNil ((w3.getD w5.toNat (.i 0)).cell 7).items) fun y0 =>
   bif y0.isSome then
    bif (!(y0.getD default)) then
     kr w0 w1 (IntKind.wrap .i64 (w5 + 1))
    else
     bnd (IntKind.wrap .i64 (((w3.getD w5.toNat (.i 0)).cell 2).toI.tdiv 86400)) fun y1 =>
     bnd (a1O N w0 w1 y1 w7 (w7 == 3)) fun y2 =>
     bif (decide (y2.1 ≥ w9)) then
      k0 (((w3.getD w5.toNat (.i 0)).cell 0).toS, ((w3.getD w5.toNat (.i 0)).cell 1).toI, ((w3.getD w5.toNat (.i 0)).cell 2).toI, ((w3.getD w5.toNat (.i 0)).cell 3).toI, ((w3.getD w5.toNat (.i 0)).cell 4).toI, ((w3.getD w5.toNat (.i 0)).cell 5).toI, ((w3.getD w5.toNat (.i 0)).cell 6).toI, ((w3.getD w5.toNat (.i 0)).cell 7).isNil, ((w3.getD w5.toNat (.i 0)).cell 7).items)
     else
      kr y2.1 y2.2 (IntKind.wrap .i64 (w5 + 1))
   else
    none
  else
   none
 else
  k1 ()
def a3C (N : Nat) {R : Type} (w3 : LD) (w4 w7 w9 w10 w11 w12 w13 : Int) (w14 : LB) (w15 : Bool) (w16 : LD) : Nat → Int → Int → Int → (Ty1 → Option R) → (Unit → Option R) → Option R
 | 0, _, _, _, _, _ => none
 | m + 1, w0, w1, w5, k0, k1 => a1F N w3 w4 w7 w9 w10 w11 w12 w13 w14 w15 w16 w0 w1 w5 (fun w0 w1 w5 => a3C N w3 w4 w7 w9 w10 w11 w12 w13 w14 w15 w16 m w0 w1 w5 k0 k1) k0 k1
def a42 (w3 : LD) (w4 w7 w9 w10 w11 w12 w13 : Int) (w14 : LB) (w15 : Bool) (w16 : LD) (w0 w1 w5 : Int) : Option (Sum (Ty1) (Unit)) := a3C N (R := (Sum (Ty1) (Unit))) w3 w4 w7 w9 w10 w11 w12 w13 w14 w15 w16 N w0 w1 w5 (fun p => some (.inl p)) (fun p => some (.inr p))
def a2G (L x : List Lf) (kr : List Lf → Option R) (k0 : Ty1 → Option R) (k1 : Unit → Option R) : Option R := a1F N (ll L 3) (li L 4) (li L 7) (li L 9) (li L 10) (li L 11) (li L 12) (li L 13) (ls L 14) (lb L 15) (ll L 16) (li x 0) (li x 1) (li x 2) (fun w0 w1 w5 => kr [.i w0, .i w1, .i w5]) k0 k1
theorem a7D (L x : List Lf) (kr : List Lf → Option R) (k0 : Ty1 → Option R) (k1 : Unit → Option R) : a2G N L x kr k0 k1 = (a2G N L x (fun y => some (.inl y)) (fun p => some (.inr (.inl p))) (fun p => some (.inr (.inr p)))).bind (a1m kr (a1m k0 k1)) := by
 unfold a2G a1F
 repeat' (first | with_reducible apply a0k | (with_reducible apply a0y; intro _) | rfl)
def a3D (L : List Lf) (m : Nat) (x : List Lf) : Option (Sum (Ty1) (Unit)) := a3C N (R := (Sum (Ty1) (Unit))) (ll L 3) (li L 4) (li L 7) (li L 9) (li L 10) (li L 11) (li L 12) (li L 13) (ls L 14) (lb L 15) (ll L 16) m (li x 0) (li x 1) (li x 2) (fun p => some (.inl p)) (fun p => some (.inr p))
def a1s : Sh := { tmps := [(2, .c (.p 2 0)), (4, .c (.p 4 0)), (6, .c (.f 104 [])), (7, .c (.i .i64)), (8, .c (.i .i64)), (21, .c (.sl 40)), (22, .c (.i .i64)), (23, .c (.i .i64))], mem := [(2, .box (.s :: rI 7 ([.s, .sl 24]))), (4, .box (.s :: rI 6 ([.sl 9])))] }
def a6T (L : List Lf) (p : Ty1) : Ex × St := let p1 := p.2; let p2 := p1.2; let p3 := p2.2; let p4 := p3.2; let p5 := p4.2; let p6 := p5.2; let p7 := p6.2; let p8 := p7.2; (.ret, ⟨[(4, .c (.p 4 0)), (5, .c (.b true))], [(4, .box [.s p.1, .i .i64 p1.1, .i .i64 p2.1, .i .i64 p3.1, .i .i64 p4.1, .i .i64 p5.1, .i .i64 p6.1, .sl 9 p7.1 p8])]⟩)
def b6c (L : List Lf) : List (Bool × (Ex × St)) := bnd (a3D N L N (pk a1s [0, 1, 5] L)) fun q => [((a04 q), a6T L (a0P q)), ((a0r q).isSome, ((.exit 0), mg (a0p a1s L) [4] [] [4] []))]
theorem b1R (m : Nat) (kn : St → Option (Ex × St)) (L x : List Lf) : lpB Tryz.prog (a0W N) ((c3E N).no 18).h 0 67 18 a1s [0, 1, 5] [4, 5] [4] (m + 100) kn L x = a2G N L x (fun y => kn (a0p a1s (mx a1s [0, 1, 5] L y))) (fun p => some (a6T L p)) (fun _ => some ((.exit 0), mg (a0p a1s L) [4] [] [4] [])) := by kernel_rfl
theorem b4M (L : List Lf) (m : Nat) (x : List Lf) : a3D N L (m + 1) x = a2G N L x (a3D N L m) (fun p => some (.inl p)) (fun p => some (.inr p)) := by kernel_rfl
def d1o : Sg Tryz.prog 0 67 :=
 (c3E N).add (((c3E N).no 18).lp (b6c N) N a0e (a0m N) (fun m kn L x => (b1R N m kn L x).trans (a7D N L x _ _ _)) (fun L m x => (b4M N L m x).trans (a7D N L x (a3D N L m) (fun p => some (.inl p)) (fun p => some (.inr p)))) fun L x hx => (a4i a1f) x hx) 18
def d7D (v1 v2 v3 v4 v5 v6 v7 : Int) (v8 : LB) (v9 : Bool) (v10 v12 : LD) (k0 : Ty0 → Option R) : Option R :=
 bnd (c2O N (decide (v2 > 0)) v2) fun y0 =>
 bif (a04 y0) then
  bnd (e2A N v12 (v12.length : Int) v1 v3 v4 v5 v6 v7 v8 v9 v10 0 (-1) 0) fun y1 =>
  bif (a04 y1) then
   k0 ((a0P y1).1, (a0P y1).2.1, (a0P y1).2.2.1, (a0P y1).2.2.2.1, (a0P y1).2.2.2.2.1, (a0P y1).2.2.2.2.2.1, (a0P y1).2.2.2.2.2.2.1, (a0P y1).2.2.2.2.2.2.2.1, (a0P y1).2.2.2.2.2.2.2.2, true)
  else
   bif (a0r y1).isSome then
    k0 (([] : List UInt8), 0, 0, 0, 0, 0, 0, true, [], false)
   else
    none
 else
  bif (a04 (a0r y0)) then
   bnd (b8Q N v12 (v12.length : Int) v1 v3 v4 v5 v6 v7 v8 v9 v10 0 (-1) 0) fun y2 =>
   bif (a04 y2) then
    k0 ((a0P y2).1, (a0P y2).2.1, (a0P y2).2.2.1, (a0P y2).2.2.2.1, (a0P y2).2.2.2.2.1, (a0P y2).2.2.2.2.2.1, (a0P y2).2.2.2.2.2.2.1, (a0P y2).2.2.2.2.2.2.2.1, (a0P y2).2.2.2.2.2.2.2.2, true)
   else
    bif (a0r y2).isSome then
     k0 (([] : List UInt8), 0, 0, 0, 0, 0, 0, true, [], false)
    else
     none
  else
   bif (a04 (a0r (a0r y0))) then
    bnd (b4y N v12 (v12.length : Int) v1 v3 v4 v5 v6 v7 v8 v9 v10 0 (-1) 0) fun y3 =>
    bif (a04 y3) then
     k0 ((a0P y3).1, (a0P y3).2.1, (a0P y3).2.2.1, (a0P y3).2.2.2.1, (a0P y3).2.2.2.2.1, (a0P y3).2.2.2.2.2.1, (a0P y3).2.2.2.2.2.2.1, (a0P y3).2.2.2.2.2.2.2.1, (a0P y3).2.2.2.2.2.2.2.2, true)
    else
     bif (a0r y3).isSome then
      k0 (([] : List UInt8), 0, 0, 0, 0, 0, 0, true, [], false)
     else
      none
   else
    bif (a04 (a0r (a0r (a0r y0)))) then
     bnd (b1G N v12 (v12.length : Int) v1 v3 v4 v5 v6 v7 v8 v9 v10 0 (-1) 0) fun y4 =>
     bif (a04 y4) then
      k0 ((a0P y4).1, (a0P y4).2.1, (a0P y4).2.2.1, (a0P y4).2.2.2.1, (a0P y4).2.2.2.2.1, (a0P y4).2.2.2.2.2.1, (a0P y4).2.2.2.2.2.2.1, (a0P y4).2.2.2.2.2.2.2.1, (a0P y4).2.2.2.2.2.2.2.2, true)
     else
      bif (a0r y4).isSome then
       k0 (([] : List UInt8), 0, 0, 0, 0, 0, 0, true, [], false)
      else
       none
    else
     bif (a04 (a0r (a0r (a0r (a0r y0))))) then
      bnd (a9o N v12 (v12.length : Int) v1 v3 v4 v5 v6 v7 v8 v9 v10 0 (-1) 0) fun y5 =>
      bif (a04 y5) then
       k0 ((a0P y5).1, (a0P y5).2.1, (a0P y5).2.2.1, (a0P y5).2.2.2.1, (a0P y5).2.2.2.2.1, (a0P y5).2.2.2.2.2.1, (a0P y5).2.2.2.2.2.2.1, (a0P y5).2.2.2.2.2.2.2.1, (a0P y5).2.2.2.2.2.2.2.2, true)
      else
       bif (a0r y5).isSome then
        k0 (([] : List UInt8), 0, 0, 0, 0, 0, 0, true, [], false)
       else
        none
     else
      bif (a04 (a0r (a0r (a0r (a0r (a0r y0)))))) then
       bnd (a79 N v12 (v12.length : Int) v1 v3 v4 v5 v6 v7 v8 v9 v10 0 (-1) 0) fun y6 =>
       bif (a04 y6) then
        k0 ((a0P y6).1, (a0P y6).2.1, (a0P y6).2.2.1, (a0P y6).2.2.2.1, (a0P y6).2.2.2.2.1, (a0P y6).2.2.2.2.2.1, (a0P y6).2.2.2.2.2.2.1, (a0P y6).2.2.2.2.2.2.2.1, (a0P y6).2.2.2.2.2.2.2.2, true)
       else
        bif (a0r y6).isSome then
         k0 (([] : List UInt8), 0, 0, 0, 0, 0, 0, true, [], false)
        else
         none
      else
       bif (a04 (a0r (a0r (a0r (a0r (a0r (a0r y0))))))) then
        bnd (a65 N v12 (v12.length : Int) v1 v3 v4 v5 v6 v7 v8 v9 v10 0 (-1) 0) fun y7 =>
        bif (a04 y7) then
         k0 ((a0P y7).1, (a0P y7).2.1, (a0P y7).2.2.1, (a0P y7).2.2.2.1, (a0P y7).2.2.2.2.1, (a0P y7).2.2.2.2.2.1, (a0P y7).2.2.2.2.2.2.1, (a0P y7).2.2.2.2.2.2.2.1, (a0P y7).2.2.2.2.2.2.2.2, true)
        else
         bif (a0r y7).isSome then
          k0 (([] : List UInt8), 0, 0, 0, 0, 0, 0, true, [], false)
         else
          none
       else
        bif (a04 (a0r (a0r (a0r (a0r (a0r (a0r (a0r y0)))))))) then
         bnd (a6b N v12 (v12.length : Int) v1 v3 v4 v5 v6 v7 v8 v9 v10 0 (-1) 0) fun y8 =>
         bif (a04 y8) then
          k0 ((a0P y8).1, (a0P y8).2.1, (a0P y8).2.2.1, (a0P y8).2.2.2.1, (a0P y8).2.2.2.2.1, (a0P y8).2.2.2.2.2.1, (a0P y8).2.2.2.2.2.2.1, (a0P y8).2.2.2.2.2.2.2.1, (a0P y8).2.2.2.2.2.2.2.2, true)
         else
          bif (a0r y8).isSome then
           k0 (([] : List UInt8), 0, 0, 0, 0, 0, 0, true, [], false)
          else
           none
        else
         bif (a0r (a0r (a0r (a0r (a0r (a0r (a0r (a0r y0)))))))).isSome then
          bnd (a42 N v12 (v12.length : Int) v1 v3 v4 v5 v6 v7 v8 v9 v10 0 (-1) 0) fun y9 =>
          bif (a04 y9) then
           k0 ((a0P y9).1, (a0P y9).2.1, (a0P y9).2.2.1, (a0P y9).2.2.2.1, (a0P y9).2.2.2.2.1, (a0P y9).2.2.2.2.2.1, (a0P y9).2.2.2.2.2.2.1, (a0P y9).2.2.2.2.2.2.2.1, (a0P y9).2.2.2.2.2.2.2.2, true)
          else
           bif (a0r y9).isSome then
            k0 (([] : List UInt8), 0, 0, 0, 0, 0, 0, true, [], false)
           else
            none
         else
          none
def d3n (v1 v2 v3 v4 v5 v6 v7 : Int) (v8 : LB) (v9 : Bool) (v10 v12 : LD) : Option (Ty0) := d7D N v1 v2 v3 v4 v5 v6 v7 v8 v9 v10 v12 (fun p => some p)
theorem e2C (v1 v2 v3 v4 v5 v6 v7 : Int) (v8 : LB) (v9 : Bool) (v10 v12 : LD) (k0 : Ty0 → Option R) : d7D N v1 v2 v3 v4 v5 v6 v7 v8 v9 v10 v12 k0 = (d3n N v1 v2 v3 v4 v5 v6 v7 v8 v9 v10 v12).bind k0 := by
 unfold d3n d7D
 repeat' (first | with_reducible apply a0k | (with_reducible apply a0y; intro _) | rfl)
def f1o (L : List Lf) (k0 : Ty0 → Option R) : Option R := d7D N (li L 1) (li L 2) (li L 3) (li L 4) (li L 5) (li L 6) (li L 7) (ls L 8) (lb L 9) (ll L 10) (ll L 12) k0
def d7E : Sh := { tmps := [(0, .g (.s :: rI 7 ([.s, .sl 24]))), (1, .c (.sl 40))], mem := [] }
def d7F (L : List Lf) (p : Ty0) : Res := let p1 := p.2; let p2 := p1.2; let p3 := p2.2; let p4 := p3.2; let p5 := p4.2; let p6 := p5.2; let p7 := p6.2; let p8 := p7.2; let p9 := p8.2; ([.g [.s p.1, .i .i64 p1.1, .i .i64 p2.1, .i .i64 p3.1, .i .i64 p4.1, .i .i64 p5.1, .i .i64 p6.1, .sl 9 p7.1 p8.1], .c (.b p9)], [])
def f1p (L : List Lf) : List (Bool × Res) := bnd (f1o N L (fun p => some p)) fun q => [(q.isSome, d7F L (q.getD default))]
theorem e7P (L : List Lf) : bd Tryz.prog (a0W N) (d1o N).h 67 d7E L = f1o N L (fun p => some (d7F L p)) := by kernel_rfl
end
end Go.Proofs.YtfkkcdapcgimlaaGreatDoor
