/- Functions of the program as plain Lean definitions, each with the proof that the program computes it. No condition. Printed by a program of the prover, part 2. -/
import Derived.Test.YtfkkcdapcgimlaaGreatDoorBPp1
import Derived.KernelRfl
set_option linter.all false
set_option maxRecDepth 100000
namespace Go.Proofs.YtfkkcdapcgimlaaGreatDoor
open Go Go.AM
noncomputable section
variable (N : Nat) {R : Type}
theorem f1q : a0V Tryz.prog 67 d7E (f1p N) :=
 (d1o N).fn a0e (a0m N) fun L x hx => ((e7P N L).trans ((e2C N ..).trans (a1f x hx)))
def f1r : a0f := ext 67 (a2n d7E (f1p N)) (a0W N)
theorem e2D : a0b Tryz.prog (f1r N) := a0V.to (f1q N) (a0m N)
def e4K : Sh := b5G
def f1s (N : Nat) (L : List Lf) : List (Bool × Res) := b1S L
theorem f1t : a0V Tryz.prog 68 e4K (f1s N) := c3F
def d7G : a0f := ext 68 (a2n e4K (f1s N)) (f1r N)
theorem b6V : a0b Tryz.prog (d7G N) := a0V.to (f1t N) (e2D N)
def f1u : List (Nat × List Nat) := [(0, [1, 0]), (1, [1, 0]), (2, [0, 1]), (3, [0, 1, 5]), (4, [15, 14, 13, 1, 5]), (5, [13, 15, 1, 5, 14]), (6, [7, 1, 5, 15, 14, 13]), (7, [9, 5, 7, 8, 15, 14, 13, 1]), (8, [5, 7, 8, 15, 14, 13, 1]), (9, [15, 14, 13, 1, 5]), (10, [5]), (11, [5])]
def f1v : a0M := [(12, [1, 5, 13, 14, 15], [5], [5]), (26, [1, 5, 7, 8, 13, 14, 15, 25], [5, 7, 8], [])]
def d7H (N : Nat) : Sg Tryz.prog 0 36 := .start f1v f1u
def b3m (N : Nat) (w6 : Bool) (w8 : LD) (w9 w20 : LB) (w22 : Int) (k0 : LD → Option R) (k1 : Unit → Option R) : Option R :=
 bif w6 then
  bif (decide ((w8.length + 1) * 40 ≤ b1h) && decide ((w8.length + 1) ≤ a0U)) then
   k0 (w8 ++ [(.a [(.s w9), (.s w20), (.i w22)])])
  else
   none
 else
  k1 ()
def b6W (w6 : Bool) (w8 : LD) (w9 w20 : LB) (w22 : Int) : Option (Sum (LD) (Unit)) := b3m N w6 w8 w9 w20 w22 (fun p => some (.inl p)) (fun p => some (.inr p))
theorem c8J (w6 : Bool) (w8 : LD) (w9 w20 : LB) (w22 : Int) (k0 : LD → Option R) (k1 : Unit → Option R) : b3m N w6 w8 w9 w20 w22 k0 k1 = (b6W N w6 w8 w9 w20 w22).bind (a1m k0 k1) := by
 unfold b6W b3m
 repeat' (first | with_reducible apply a0k | (with_reducible apply a0y; intro _) | rfl)
def d1p (L : List Lf) (k0 : LD → Option R) (k1 : Unit → Option R) : Option R := b3m N (lb L 6) (ll L 8) (ls L 9) (ls L 20) (li L 22) k0 k1
def b88 : Sh := { tmps := [(1, .c (.sl 40)), (5, .c (.o 5)), (7, .c (.p 7 0)), (8, .c (.p 8 0)), (13, .c (.sl 52)), (14, .c (.i .i64)), (15, .c (.i .i64)), (25, .c (.b))], mem := [(5, .row 47 true), (7, .box (.s :: rI 7 ([.s, .sl 24]))), (8, .box (.s :: rI 6 ([.sl 9])))] }
def c1m (L : List Lf) (p : LD) : Ex × St := (.normal, mg (a0p b88 L) [1, 5, 13, 14, 15] [(5, .c (.o 35))] [35] [(35, .row 47 true false p)])
def c1n (L : List Lf) (_ : Unit) : Ex × St := (.normal, mg (a0p b88 L) [1, 5, 13, 14, 15] [] [5] [])
def e2E (L : List Lf) : List (Bool × (Ex × St)) := bnd (d1p N L (fun p => some (.inl p)) (fun p => some (.inr p))) fun q => [((a04 q), c1m L (a0P q)), ((a0r q).isSome, c1n L ())]
theorem d3o (L : List Lf) : pc Tryz.prog (d7G N) (d7H N).h 0 100 36 26 b88 L [1, 5, 13, 14, 15] [5, 35] = d1p N L (fun p => some (c1m L p)) (fun _ => some (c1n L ())) := by kernel_rfl
def d7I : Sg Tryz.prog 0 36 :=
 (d7H N).cut (e2E N) a0e (b6V N) fun L x hx => (d3o N L).trans ((c8J N ..).trans ((a4i a1f) x hx))
def b0i (w1 w3 : LD) (w4 : Int) (w5 : Int) (w6 : Bool) (w7 : LD) (kr : Int → Bool → LD → Option R) (k0 : Bool × LD → Option R) : Option R :=
 bif (decide (w5 < w4)) then
  bif (inB w5 w3.length) then
   bnd (d3n N ((w3.getD w5.toNat (.i 0)).cell 1).toI ((w3.getD w5.toNat (.i 0)).cell 2).toI ((w3.getD w5.toNat (.i 0)).cell 3).toI ((w3.getD w5.toNat (.i 0)).cell 4).toI ((w3.getD w5.toNat (.i 0)).cell 5).toI ((w3.getD w5.toNat (.i 0)).cell 6).toI ((w3.getD w5.toNat (.i 0)).cell 7).toI ((w3.getD w5.toNat (.i 0)).cell 8).toS ((w3.getD w5.toNat (.i 0)).cell 9).isNil ((w3.getD w5.toNat (.i 0)).cell 9).items w1) fun y0 =>
   bif y0.isSome then
    bnd (b6W N (y0.getD default).2.2.2.2.2.2.2.2.2 w7 ((w3.getD w5.toNat (.i 0)).cell 0).toS (y0.getD default).1 (y0.getD default).2.2.1) fun y1 =>
    bif (a04 y1) then
     kr (IntKind.wrap .i64 (w5 + 1)) false (a0P y1)
    else
     bif (a0r y1).isSome then
      kr (IntKind.wrap .i64 (w5 + 1)) w6 w7
     else
      none
   else
    none
  else
   none
 else
  k0 (w6, w7)
def b6X (N : Nat) {R : Type} (w1 w3 : LD) (w4 : Int) : Nat → Int → Bool → LD → (Bool × LD → Option R) → Option R
 | 0, _, _, _, _ => none
 | m + 1, w5, w6, w7, k0 => b0i N w1 w3 w4 w5 w6 w7 (fun w5 w6 w7 => b6X N w1 w3 w4 m w5 w6 w7 k0) k0
def c3G (w1 w3 : LD) (w4 : Int) (w5 : Int) (w6 : Bool) (w7 : LD) : Option (Bool × LD) := b6X N (R := (Bool × LD)) w1 w3 w4 N w5 w6 w7 (fun p => some p)
def b3n (L x : List Lf) (kr : List Lf → Option R) (k0 : Bool × LD → Option R) : Option R := b0i N (ll L 1) (ll L 3) (li L 4) (li x 0) (lb x 1) (ll x 2) (fun w5 w6 w7 => kr [.i w5, .b w6, .l w7]) k0
theorem c6w (L x : List Lf) (kr : List Lf → Option R) (k0 : Bool × LD → Option R) : b3n N L x kr k0 = (b3n N L x (fun y => some (.inl y)) (fun p => some (.inr p))).bind (a1m kr k0) := by
 unfold b3n b0i
 repeat' (first | with_reducible apply a0k | (with_reducible apply a0y; intro _) | rfl)
def b6Y (L : List Lf) (m : Nat) (x : List Lf) : Option (Bool × LD) := b6X N (R := (Bool × LD)) (ll L 1) (ll L 3) (li L 4) m (li x 0) (lb x 1) (ll x 2) (fun p => some p)
def b3o : Sh := { tmps := [(1, .c (.sl 40)), (5, .c (.o 5)), (13, .c (.sl 52)), (14, .c (.i .i64)), (15, .c (.i .i64))], mem := [(5, .row 47 true)] }
def e2F (L : List Lf) : List (Bool × (Ex × St)) := bnd (b6Y N L N (pk b3o [5, 6, 7] L)) fun q => [(q.isSome, ((.exit 0), ⟨[(5, .c (.o 5))], [(5, .row 47 true (q.getD default).1 (q.getD default).2)]⟩))]
theorem c8K (m : Nat) (kn : St → Option (Ex × St)) (L x : List Lf) : lpB Tryz.prog (d7G N) (d7I N).h 0 36 12 b3o [5, 6, 7] [4, 5] [5] (m + 100) kn L x = b3n N L x (fun y => kn (a0p b3o (mx b3o [5, 6, 7] L y))) (fun p => some ((.exit 0), ⟨[(5, .c (.o 5))], [(5, .row 47 true p.1 p.2)]⟩)) := by kernel_rfl
theorem d7J (L : List Lf) (m : Nat) (x : List Lf) : b6Y N L (m + 1) x = b3n N L x (b6Y N L m) some := by kernel_rfl
def d7K : Sg Tryz.prog 0 36 :=
 (d7I N).lp (e2F N) N a0e (b6V N) (fun m kn L x => (c8K N m kn L x).trans (c6w N L x _ _)) (fun L m x => (d7J N L m x).trans (c6w N L x (b6Y N L m) some)) fun L x hx => a1f x hx
def c8L (v1 v3 : LD) (k0 : Bool × LD → Option R) : Option R :=
 bnd (d3f N v3) fun y0 =>
 bif y0.isSome then
  bnd (c3G N (y0.getD default).2 v1 (v1.length : Int) 0 true []) fun y1 =>
  bif y1.isSome then
   bif (a4z (y1.getD default).2) then
    k0 ((y1.getD default).1, (a1U (y1.getD default).2))
   else
    none
  else
   none
 else
  none
def c8M (v1 v3 : LD) : Option (Bool × LD) := c8L N v1 v3 (fun p => some p)
theorem e2G (v1 v3 : LD) (k0 : Bool × LD → Option R) : c8L N v1 v3 k0 = (c8M N v1 v3).bind k0 := by
 unfold c8M c8L
 repeat' (first | with_reducible apply a0k | (with_reducible apply a0y; intro _) | rfl)
def d7L : Sh := { tmps := [(0, .c (.sl 52)), (1, .c (.sl 40))], mem := [] }
def f1w (L : List Lf) : List (Bool × Res) := bnd (c8L N (ll L 1) (ll L 3) (fun p => some p)) fun q => [(q.isSome, ([.c (.sl 47 (q.getD default).1 (q.getD default).2)], []))]
theorem e7Q (L : List Lf) : bd Tryz.prog (d7G N) (d7K N).h 36 d7L L = c8L N (ll L 1) (ll L 3) (fun p => some ([.c (.sl 47 p.1 p.2)], [])) := by kernel_rfl
theorem f1x : a0V Tryz.prog 36 d7L (f1w N) :=
 (d7K N).fn a0e (b6V N) fun L x hx => ((e7Q N L).trans ((e2G N ..).trans (a1f x hx)))
def e7R : a0f := ext 36 (a2n d7L (f1w N)) (d7G N)
theorem d1q : a0b Tryz.prog (e7R N) := a0V.to (f1x N) (b6V N)
def f1y : List (Nat × List Nat) := [(0, [0, 1]), (1, [0, 1]), (2, [6, 0, 1]), (3, [6]), (4, [0, 1])]
def f1z : a0M := []
def d7M (N : Nat) : Sg Tryz.prog 0 15 := .start f1z f1y
def d3p (v1 v3 : LD) (k0 : Bool × LD × Int → Option R) : Option R :=
 bnd (d6f N v1) fun y0 =>
 bif y0.isSome then
  bnd (d6t N v3) fun y1 =>
  bif y1.isSome then
   bnd (d6y N [(.i (y0.getD default)), (.i (y1.getD default))]) fun y2 =>
   bif y2.isSome then
    bif ((y2.getD default) != 0) then
     k0 (true, [], (y2.getD default))
    else
     bnd (c8M N v1 v3) fun y3 =>
     bif y3.isSome then
      k0 ((y3.getD default).1, (y3.getD default).2, 0)
     else
      none
   else
    none
  else
   none
 else
  none
def c6x (v1 v3 : LD) : Option (Bool × LD × Int) := d3p N v1 v3 (fun p => some p)
theorem e2H (v1 v3 : LD) (k0 : Bool × LD × Int → Option R) : d3p N v1 v3 k0 = (c6x N v1 v3).bind k0 := by
 unfold c6x d3p
 repeat' (first | with_reducible apply a0k | (with_reducible apply a0y; intro _) | rfl)
def d7N : Sh := { tmps := [(0, .c (.sl 52)), (1, .c (.sl 40))], mem := [] }
def f1A (L : List Lf) : List (Bool × Res) := bnd (d3p N (ll L 1) (ll L 3) (fun p => some p)) fun q => [(q.isSome, ([.c (.sl 47 (q.getD default).1 (q.getD default).2.1), .c (.i .i64 (q.getD default).2.2)], []))]
theorem e7S (L : List Lf) : bd Tryz.prog (e7R N) (d7M N).h 15 d7N L = d3p N (ll L 1) (ll L 3) (fun p => some ([.c (.sl 47 p.1 p.2.1), .c (.i .i64 p.2.2)], [])) := by kernel_rfl
theorem f1B : a0V Tryz.prog 15 d7N (f1A N) :=
 (d7M N).fn a0e (d1q N) fun L x hx => ((e7S N L).trans ((e2H N ..).trans (a1f x hx)))
def e7T : a0f := ext 15 (a2n d7N (f1A N)) (e7R N)
theorem d1r : a0b Tryz.prog (e7T N) := a0V.to (f1B N) (d1q N)
def f1C : List (Nat × List Nat) := [(0, [0]), (1, [0]), (2, []), (3, [0])]
def f1D : a0M := []
def d7O (N : Nat) : Sg Tryz.prog 0 13 := .start f1D f1C true
def d3q (N : Nat) (v0 : Bool) (v1 : LD) (k0 : Unit → Option R) (k1 : Bool → Option R) : Option R :=
 bif v0 then
  k0 ()
 else
  bif (decide ((0 + v1.length) * 88 ≤ b1h) && decide ((0 + v1.length) ≤ a0U)) then
   k1 (v1.isEmpty && false)
  else
   none
def e2I (v0 : Bool) (v1 : LD) : Option (Sum (Unit) (Bool)) := d3q N v0 v1 (fun p => some (.inl p)) (fun p => some (.inr p))
theorem e2J (v0 : Bool) (v1 : LD) (k0 : Unit → Option R) (k1 : Bool → Option R) : d3q N v0 v1 k0 k1 = (e2I N v0 v1).bind (a1m k0 k1) := by
 unfold e2I d3q
 repeat' (first | with_reducible apply a0k | (with_reducible apply a0y; intro _) | rfl)
def d7P : Sh := { tmps := [(0, .c (.sl 40))], mem := [] }
def f1E (L : List Lf) : List (Bool × Res) := bnd (d3q N (lb L 0) (ll L 1) (fun p => some (.inl p)) (fun p => some (.inr p))) fun q => [((a04 q), ([.c (.sl 40 true [])], [])), ((a0r q).isSome, ([.c (.o 7)], [(7, .row 40 true ((a0r q).getD default) (ll L 1))]))]
theorem e7U (L : List Lf) : bd Tryz.prog (e7T N) (d7O N).h 13 d7P L = d3q N (lb L 0) (ll L 1) (fun _ => some ([.c (.sl 40 true [])], [])) (fun p => some ([.c (.o 7)], [(7, .row 40 true p (ll L 1))])) := by kernel_rfl
theorem f1F : a0V Tryz.prog 13 d7P (f1E N) :=
 (d7O N).fn a0e (d1r N) fun L x hx => ((e7U N L).trans ((e2J N ..).trans ((a4i a1f) x hx)))
def e2K : a0f := ext 13 (a2n d7P (f1E N)) (e7T N)
theorem c3H : a0b Tryz.prog (e2K N) := a0V.to (f1F N) (d1r N)
def f1G : List (Nat × List Nat) := [(0, [0]), (1, [0]), (2, [3, 0]), (4, [0, 3]), (5, [4, 3, 0]), (6, []), (3, [3, 0]), (7, [0])]
def f1H : a0M := [(6, [0, 3], [], [])]
def d7Q (N : Nat) : Sg Tryz.prog 0 40 := .start f1H f1G
def b4N (N : Nat) (w0 : LB) (w1 : Int) (kr : Int → Option R) (k0 : Unit → Option R) (k1 : Unit → Option R) : Option R :=
 bif (decide (w1 < (w0.length : Int))) then
  bif (inB w1 w0.length) then
   bnd (bif (decide (((w0.getD w1.toNat 0).toNat : Int) ≥ 97)) then (decide (((w0.getD w1.toNat 0).toNat : Int) ≤ 122)) else false) fun y0 =>
   bnd (bif y0 then true else (bif (decide (((w0.getD w1.toNat 0).toNat : Int) ≥ 65)) then (decide (((w0.getD w1.toNat 0).toNat : Int) ≤ 90)) else false)) fun y1 =>
   bnd (bif y1 then true else (bif (decide (((w0.getD w1.toNat 0).toNat : Int) ≥ 48)) then (decide (((w0.getD w1.toNat 0).toNat : Int) ≤ 57)) else false)) fun y2 =>
   bnd (bif y2 then true else (((w0.getD w1.toNat 0).toNat : Int) == 45)) fun y3 =>
   bnd (bif y3 then true else (((w0.getD w1.toNat 0).toNat : Int) == 95)) fun y4 =>
   bnd (bif y4 then true else (((w0.getD w1.toNat 0).toNat : Int) == 46)) fun y5 =>
   bif (!y5) then
    k0 ()
   else
    kr (IntKind.wrap .i64 (w1 + 1))
  else
   none
 else
  k1 ()
def c3I (N : Nat) {R : Type} (w0 : LB) : Nat → Int → (Unit → Option R) → (Unit → Option R) → Option R
 | 0, _, _, _ => none
 | m + 1, w1, k0, k1 => b4N N w0 w1 (fun w1 => c3I N w0 m w1 k0 k1) k0 k1
def c8N (w0 : LB) (w1 : Int) : Option (Sum (Unit) (Unit)) := c3I N (R := (Sum (Unit) (Unit))) w0 N w1 (fun p => some (.inl p)) (fun p => some (.inr p))
def b89 (L x : List Lf) (kr : List Lf → Option R) (k0 : Unit → Option R) (k1 : Unit → Option R) : Option R := b4N N (ls L 0) (li x 0) (fun w1 => kr [.i w1]) k0 k1
theorem d1s (L x : List Lf) (kr : List Lf → Option R) (k0 : Unit → Option R) (k1 : Unit → Option R) : b89 N L x kr k0 k1 = (b89 N L x (fun y => some (.inl y)) (fun p => some (.inr (.inl p))) (fun p => some (.inr (.inr p)))).bind (a1m kr (a1m k0 k1)) := by
 unfold b89 b4N
 repeat' (first | with_reducible apply a0k | (with_reducible apply a0y; intro _) | rfl)
def c3J (L : List Lf) (m : Nat) (x : List Lf) : Option (Sum (Unit) (Unit)) := c3I N (R := (Sum (Unit) (Unit))) (ls L 0) m (li x 0) (fun p => some (.inl p)) (fun p => some (.inr p))
def b6Z : Sh := { tmps := [(0, .c (.s)), (3, .c (.i .i64))], mem := [] }
def e7V (L : List Lf) : List (Bool × (Ex × St)) := bnd (c3J N L N (pk b6Z [1] L)) fun q => [((a04 q), (.ret, ⟨[(2, .c (.b false))], []⟩)), ((a0r q).isSome, ((.exit 0), ⟨[(0, .c (.s (ls L 0)))], []⟩))]
theorem d3r (m : Nat) (kn : St → Option (Ex × St)) (L x : List Lf) : lpB Tryz.prog (e2K N) (d7Q N).h 0 40 6 b6Z [1] [0, 2] [] (m + 100) kn L x = b89 N L x (fun y => kn (a0p b6Z (mx b6Z [1] L y))) (fun _ => some (.ret, ⟨[(2, .c (.b false))], []⟩)) (fun _ => some ((.exit 0), ⟨[(0, .c (.s (ls L 0)))], []⟩)) := by kernel_rfl
theorem e2L (L : List Lf) (m : Nat) (x : List Lf) : c3J N L (m + 1) x = b89 N L x (c3J N L m) (fun p => some (.inl p)) (fun p => some (.inr p)) := by kernel_rfl
def d7R : Sg Tryz.prog 0 40 :=
 (d7Q N).lp (e7V N) N a0e (c3H N) (fun m kn L x => (d3r N m kn L x).trans (d1s N L x _ _ _)) (fun L m x => (e2L N L m x).trans (d1s N L x (c3J N L m) (fun p => some (.inl p)) (fun p => some (.inr p)))) fun L x hx => (a4i a1f) x hx
def d3s (v0 : LB) (k0 : Bool → Option R) : Option R :=
 bnd (c8N N v0 0) fun y0 =>
 bif (a04 y0) then
  k0 false
 else
  bif (a0r y0).isSome then
   bnd (bif (decide ((v0.length : Int) ≥ 1)) then (decide ((v0.length : Int) ≤ 60)) else false) fun y1 =>
   k0 y1
  else
   none
def c6y (v0 : LB) : Option (Bool) := d3s N v0 (fun p => some p)
theorem e2M (v0 : LB) (k0 : Bool → Option R) : d3s N v0 k0 = (c6y N v0).bind k0 := by
 unfold c6y d3s
 repeat' (first | with_reducible apply a0k | (with_reducible apply a0y; intro _) | rfl)
def d7S : Sh := { tmps := [(0, .c (.s))], mem := [] }
def f1I (L : List Lf) : List (Bool × Res) := bnd (d3s N (ls L 0) (fun p => some p)) fun q => [(q.isSome, ([.c (.b (q.getD default))], []))]
theorem e7W (L : List Lf) : bd Tryz.prog (e2K N) (d7R N).h 40 d7S L = d3s N (ls L 0) (fun p => some ([.c (.b p)], [])) := by kernel_rfl
theorem f1J : a0V Tryz.prog 40 d7S (f1I N) :=
 (d7R N).fn a0e (c3H N) fun L x hx => ((e7W N L).trans ((e2M N ..).trans (a1f x hx)))
def e7X : a0f := ext 40 (a2n d7S (f1I N)) (e2K N)
theorem d1t : a0b Tryz.prog (e7X N) := a0V.to (f1J N) (c3H N)
def f1K : List (Nat × List Nat) := [(0, [0, 1, 2]), (1, [0, 1, 2])]
def f1L : a0M := []
def d7T (N : Nat) : Sg Tryz.prog 0 31 := .start f1L f1K
def d3t (N : Nat) (v0 v1 v2 : Int) (k0 : Bool → R) : R :=
 k0 (bif (decide (v0 < v1)) then true else (decide (v0 > v2)))
def a9x (v0 v1 v2 : Int) : Bool := d3t N v0 v1 v2 (fun p => p)
theorem e7Y (v0 v1 v2 : Int) (k0 : Bool → R) : d3t N v0 v1 v2 k0 = k0 (a9x N v0 v1 v2) := by
 unfold a9x d3t
 repeat' (first | rfl | apply a0q | (apply a0K; intro _))
def d7U : Sh := { tmps := [(0, .c (.i .i64)), (1, .c (.i .i64)), (2, .c (.i .i64))], mem := [] }
def f1M (L : List Lf) : List (Bool × Res) := bnd (d3t N (li L 0) (li L 1) (li L 2) (fun p => p)) fun q => [(true, ([.c (.b q)], []))]
theorem e7Z (L : List Lf) : bd Tryz.prog (e7X N) (d7T N).h 31 d7U L = d3t N (li L 0) (li L 1) (li L 2) (fun p => some ([.c (.b p)], [])) := by kernel_rfl
theorem f1N : a0V Tryz.prog 31 d7U (f1M N) :=
 (d7T N).fn a0e (d1t N) fun L x hx => ((e7Z N L).trans ((e7Y N ..).trans (a2f _ _ hx)))
def f1O : a0f := ext 31 (a2n d7U (f1M N)) (e7X N)
theorem d1u : a0b Tryz.prog (f1O N) := a0V.to (f1N N) (d1t N)
abbrev a3P : Type := Int → Int → Int → Int → LB → Bool → LD → Int → Option (Int)
def d1v : Sh := { tmps := [(0, .g (.i .i64 :: [.i .i64, .i .i64, .i .i64, .s, .sl 24])), (1, .c (.i .i64))], mem := [] }
def f1P (N : Nat) (a0E : a3P) (L : List Lf) : List (Bool × Res) := bnd (a0E (li L 0) (li L 1) (li L 2) (li L 3) (ls L 4) (lb L 5) (ll L 6) (li L 7)) fun q => [(q.isSome, ([.c (.i .i64 (q.getD default))], []))]
def c3K (a0E : a3P) : a0f := ext 56 (a2n d1v ((f1P N) a0E)) (f1O N)
def f1Q : List (Nat × List Nat) := [(0, [0, 1]), (1, [2, 1]), (2, [2, 5, 1]), (3, [11, 10, 9, 5, 1]), (4, [9, 11, 5, 1, 10]), (5, [5, 1, 7, 11, 10, 9]), (6, [1]), (7, [5, 7, 1, 11, 10, 9]), (8, [11, 10, 9, 5, 1]), (9, [5])]
def f1R : a0M := [(9, [1, 5, 9, 10, 11], [], [])]
def d7V (a0E : a3P) (a8C : a0b Tryz.prog ((c3K N) a0E)) : Sg Tryz.prog 0 56 := .start f1R f1Q
def b4O (N : Nat) (a0E : a3P) (w0 : Int) (w3 : LD) (w4 : Int) (w1 w5 : Int) (kr : Int → Int → Option R) (k0 : Unit → Option R) (k1 : Int → Option R) : Option R :=
 bif (decide (w5 < w4)) then
  bif (inB w5 w3.length) then
   bif (decide (w1 ≥ w0)) then
    k0 ()
   else
    bnd (a0E ((w3.getD w5.toNat (.i 0)).cell 0).toI ((w3.getD w5.toNat (.i 0)).cell 1).toI ((w3.getD w5.toNat (.i 0)).cell 2).toI ((w3.getD w5.toNat (.i 0)).cell 3).toI ((w3.getD w5.toNat (.i 0)).cell 4).toS ((w3.getD w5.toNat (.i 0)).cell 5).isNil ((w3.getD w5.toNat (.i 0)).cell 5).items (IntKind.wrap .i64 (w0 - w1))) fun y0 =>
    bif y0.isSome then
     kr (IntKind.wrap .i64 (w1 + (y0.getD default))) (IntKind.wrap .i64 (w5 + 1))
    else
     none
  else
   none
 else
  k1 w1
def c3L (N : Nat) (a0E : a3P) {R : Type} (w0 : Int) (w3 : LD) (w4 : Int) : Nat → Int → Int → (Unit → Option R) → (Int → Option R) → Option R
 | 0, _, _, _, _ => none
 | m + 1, w1, w5, k0, k1 => b4O N a0E w0 w3 w4 w1 w5 (fun w1 w5 => c3L N a0E w0 w3 w4 m w1 w5 k0 k1) k0 k1
def c8O (a0E : a3P) (w0 : Int) (w3 : LD) (w4 : Int) (w1 w5 : Int) : Option (Sum (Unit) (Int)) := c3L N a0E (R := (Sum (Unit) (Int))) w0 w3 w4 N w1 w5 (fun p => some (.inl p)) (fun p => some (.inr p))
def b9a (a0E : a3P) (L x : List Lf) (kr : List Lf → Option R) (k0 : Unit → Option R) (k1 : Int → Option R) : Option R := b4O N a0E (li L 0) (ll L 3) (li L 4) (li x 0) (li x 1) (fun w1 w5 => kr [.i w1, .i w5]) k0 k1
theorem d1w (a0E : a3P) (L x : List Lf) (kr : List Lf → Option R) (k0 : Unit → Option R) (k1 : Int → Option R) : b9a N a0E L x kr k0 k1 = (b9a N a0E L x (fun y => some (.inl y)) (fun p => some (.inr (.inl p))) (fun p => some (.inr (.inr p)))).bind (a1m kr (a1m k0 k1)) := by
 unfold b9a b4O
 repeat' (first | with_reducible apply a0k | (with_reducible apply a0y; intro _) | rfl)
def c3M (a0E : a3P) (L : List Lf) (m : Nat) (x : List Lf) : Option (Sum (Unit) (Int)) := c3L N a0E (R := (Sum (Unit) (Int))) (li L 0) (ll L 3) (li L 4) m (li x 0) (li x 1) (fun p => some (.inl p)) (fun p => some (.inr p))
def b60 : Sh := { tmps := [(1, .c (.i .i64)), (5, .c (.i .i64)), (9, .c (.sl 24)), (10, .c (.i .i64)), (11, .c (.i .i64))], mem := [] }
def e70 (a0E : a3P) (L : List Lf) : List (Bool × (Ex × St)) := bnd (c3M N a0E L N (pk b60 [1, 5] L)) fun q => [((a04 q), (.ret, ⟨[(4, .c (.i .i64 (li L 0)))], []⟩)), ((a0r q).isSome, ((.exit 0), ⟨[(5, .c (.i .i64 ((a0r q).getD default)))], []⟩))]
theorem d3u (a0E : a3P) (a8C : a0b Tryz.prog ((c3K N) a0E)) (m : Nat) (kn : St → Option (Ex × St)) (L x : List Lf) : lpB Tryz.prog ((c3K N) a0E) ((d7V N) a0E a8C).h 0 56 9 b60 [1, 5] [4, 5] [] (m + 100) kn L x = b9a N a0E L x (fun y => kn (a0p b60 (mx b60 [1, 5] L y))) (fun _ => some (.ret, ⟨[(4, .c (.i .i64 (li L 0)))], []⟩)) (fun p => some ((.exit 0), ⟨[(5, .c (.i .i64 p))], []⟩)) := by kernel_rfl
theorem e2N (a0E : a3P) (L : List Lf) (m : Nat) (x : List Lf) : c3M N a0E L (m + 1) x = b9a N a0E L x (c3M N a0E L m) (fun p => some (.inl p)) (fun p => some (.inr p)) := by kernel_rfl
def d7W (a0E : a3P) (a8C : a0b Tryz.prog ((c3K N) a0E)) : Sg Tryz.prog 0 56 :=
 ((d7V N) a0E a8C).lp ((e70 N) a0E) N a0e a8C (fun m kn L x => (d3u N a0E a8C m kn L x).trans (d1w N a0E L x _ _ _)) (fun L m x => (e2N N a0E L m x).trans (d1w N a0E L x (c3M N a0E L m) (fun p => some (.inl p)) (fun p => some (.inr p)))) fun L x hx => (a4i a1f) x hx
def d7X (a0E : a3P) (v0 v1 v2 v3 : Int) (v4 : LB) (v5 : Bool) (v6 : LD) (v7 : Int) (k0 : Int → Option R) : Option R :=
 bnd (c8O N a0E v7 v6 (v6.length : Int) 1 0) fun y0 =>
 bif (a04 y0) then
  k0 v7
 else
  bif (a0r y0).isSome then
   k0 ((a0r y0).getD default)
  else
   none
def d3v (a0E : a3P) (v0 v1 v2 v3 : Int) (v4 : LB) (v5 : Bool) (v6 : LD) (v7 : Int) : Option (Int) := d7X N a0E v0 v1 v2 v3 v4 v5 v6 v7 (fun p => some p)
theorem e2O (a0E : a3P) (v0 v1 v2 v3 : Int) (v4 : LB) (v5 : Bool) (v6 : LD) (v7 : Int) (k0 : Int → Option R) : d7X N a0E v0 v1 v2 v3 v4 v5 v6 v7 k0 = (d3v N a0E v0 v1 v2 v3 v4 v5 v6 v7).bind k0 := by
 unfold d3v d7X
 repeat' (first | with_reducible apply a0k | (with_reducible apply a0y; intro _) | rfl)
def f4D (a0E : a3P) (L : List Lf) (k0 : Int → Option R) : Option R := d7X N a0E (li L 0) (li L 1) (li L 2) (li L 3) (ls L 4) (lb L 5) (ll L 6) (li L 7) k0
theorem e71 (a0E : a3P) (a8C : a0b Tryz.prog ((c3K N) a0E)) (L : List Lf) : bd Tryz.prog ((c3K N) a0E) ((d7W N) a0E a8C).h 56 d1v L = f4D N a0E L (fun p => some ([.c (.i .i64 p)], [])) := by kernel_rfl
theorem e72 (a0E : a3P) (a8C : a0b Tryz.prog ((c3K N) a0E)) (L : List Lf) (x : Res) (hx : a5f ((f1P N) (fun v0 v1 v2 v3 v4 v5 v6 v7 => d3v N a0E v0 v1 v2 v3 v4 v5 v6 v7) L) some = some x) : a1I Tryz.prog 56 (a5P (a0p d1v L).tmps) (a0p d1v L).mem x :=
 a3p (n := 200) a0e a8C ((d7W N) a0E a8C).ok rfl ((e71 N a0E a8C L).trans ((e2O N a0E ..).trans (a1f x hx)))
def b90 (N : Nat) : Nat → a3P
 | 0 => fun _ _ _ _ _ _ _ _ => none
 | m + 1 => fun v0 v1 v2 v3 v4 v5 v6 v7 => d3v N (b90 N m) v0 v1 v2 v3 v4 v5 v6 v7
theorem d7Y (N : Nat) : ∀ m, a0b Tryz.prog ((c3K N) (b90 N m))
 | 0 => a0Y (d1u N) (AM.enters_of (by kernel_rfl)) (a1h fun L x hx => by
  have h : (none : Option Res) = some x := hx
  cases h)
 | m + 1 => a0Y (d1u N) (AM.enters_of (by kernel_rfl)) (a1h fun L x hx => e72 N (b90 N m) (d7Y N m) L x hx)
def e73 : a0f := (c3K N) (b90 N N)
theorem d1x : a0b Tryz.prog (e73 N) := d7Y N N
def f1S : List (Nat × List Nat) := [(0, [0]), (1, [0])]
def f1T : a0M := []
def d7Z (N : Nat) : Sg Tryz.prog 0 32 := .start f1T f1S
def d3w (N : Nat) (v0 : Int) (k0 : Bool → R) : R :=
 k0 (bif (decide (v0 ≥ 1)) then (decide (v0 ≤ 7)) else false)
def c8P (v0 : Int) : Bool := d3w N v0 (fun p => p)
theorem e74 (v0 : Int) (k0 : Bool → R) : d3w N v0 k0 = k0 (c8P N v0) := by
 unfold c8P d3w
 repeat' (first | rfl | apply a0q | (apply a0K; intro _))
def d70 : Sh := { tmps := [(0, .c (.i .i64))], mem := [] }
def f1U (L : List Lf) : List (Bool × Res) := bnd (d3w N (li L 0) (fun p => p)) fun q => [(true, ([.c (.b q)], []))]
theorem e75 (L : List Lf) : bd Tryz.prog (e73 N) (d7Z N).h 32 d70 L = d3w N (li L 0) (fun p => some ([.c (.b p)], [])) := by kernel_rfl
theorem f1V : a0V Tryz.prog 32 d70 (f1U N) :=
 (d7Z N).fn a0e (d1x N) fun L x hx => ((e75 N L).trans ((e74 N ..).trans (a2f _ _ hx)))
def c3N : a0f := ext 32 (a2n d70 (f1U N)) (e73 N)
theorem a6U : a0b Tryz.prog (c3N N) := a0V.to (f1V N) (d1x N)
def f1W : List (Nat × List Nat) := [(0, [0]), (1, [1]), (2, []), (3, [1]), (4, [1, 3]), (5, [12, 1, 3]), (9, [12, 1, 3]), (13, [12, 1, 3]), (22, [12, 1, 3]), (23, [1, 3]), (24, []), (25, [1, 3]), (26, []), (27, [1, 3]), (14, [1, 3]), (15, [4, 1, 3]), (17, [1, 4, 3]), (18, []), (16, [4, 1, 3]), (19, [1, 3]), (20, []), (21, [1, 3]), (10, [1, 3]), (11, []), (12, [1, 3]), (6, [1, 3]), (7, []), (8, [1, 3]), (28, [1, 3]), (29, []), (30, [1]), (31, []), (32, [])]
def f1X : a0M := [(45, [1, 3, 4], [1, 3], []), (76, [1, 3], [1, 3], []), (71, [1, 3, 58], [1, 3], []), (66044, [1, 3, 12, 30], [1, 3], []), (39032, [1, 3, 12, 21], [1, 3], []), (27020, [1, 3, 12, 13], [1, 3], [])]
def d71 (N : Nat) : Sg Tryz.prog 0 88 := .start f1X f1W
def b0j (w5 : LB) (w0 : Int) (kr : Int → Option R) (k0 : Unit → Option R) (k1 : Unit → Option R) : Option R :=
 bif (decide (w0 < (w5.length : Int))) then
  bif (inB w0 w5.length) then
   bnd (a9x N (IntKind.wrap .i64 ((w5.getD w0.toNat 0).toNat : Int)) 32 126) fun y0 =>
   bif y0 then
    k0 ()
   else
    kr (IntKind.wrap .i64 (w0 + 1))
  else
   none
 else
  k1 ()
def b61 (N : Nat) {R : Type} (w5 : LB) : Nat → Int → (Unit → Option R) → (Unit → Option R) → Option R
 | 0, _, _, _ => none
 | m + 1, w0, k0, k1 => b0j N w5 w0 (fun w0 => b61 N w5 m w0 k0 k1) k0 k1
def c3O (w5 : LB) (w0 : Int) : Option (Sum (Unit) (Unit)) := b61 N (R := (Sum (Unit) (Unit))) w5 N w0 (fun p => some (.inl p)) (fun p => some (.inr p))
def b3p (L x : List Lf) (kr : List Lf → Option R) (k0 : Unit → Option R) (k1 : Unit → Option R) : Option R := b0j N (ls L 5) (li x 0) (fun w0 => kr [.i w0]) k0 k1
theorem c6z (L x : List Lf) (kr : List Lf → Option R) (k0 : Unit → Option R) (k1 : Unit → Option R) : b3p N L x kr k0 k1 = (b3p N L x (fun y => some (.inl y)) (fun p => some (.inr (.inl p))) (fun p => some (.inr (.inr p)))).bind (a1m kr (a1m k0 k1)) := by
 unfold b3p b0j
 repeat' (first | with_reducible apply a0k | (with_reducible apply a0y; intro _) | rfl)
def b62 (L : List Lf) (m : Nat) (x : List Lf) : Option (Sum (Unit) (Unit)) := b61 N (R := (Sum (Unit) (Unit))) (ls L 5) m (li x 0) (fun p => some (.inl p)) (fun p => some (.inr p))
def a6f : Sh := { tmps := [(1, .c (.p 1 0)), (3, .c (.p 3 0)), (4, .c (.i .i64))], mem := [(1, .box (.i .i64 :: [.i .i64, .i .i64, .i .i64, .s, .sl 24])), (3, .box (.i .i64 :: [.i .i64, .i .i64, .i .i64, .s, .sl 24]))] }
def c1o (L : List Lf) (_ : Unit) : Ex × St := (.ret, mg (a0p a6f L) [2] [(2, .c (.i .i64 2))] [1, 3] [])
def e2P (L : List Lf) : List (Bool × (Ex × St)) := bnd (b62 N L N (pk a6f [0] L)) fun q => [((a04 q), c1o L ()), ((a0r q).isSome, ((.exit 1), mg (a0p a6f L) [1, 3] [] [1, 3] []))]
theorem c8Q (m : Nat) (kn : St → Option (Ex × St)) (L x : List Lf) : lpB Tryz.prog (c3N N) (d71 N).h 0 88 45 a6f [0] [1, 2, 3] [1, 3] (m + 100) kn L x = b3p N L x (fun y => kn (a0p a6f (mx a6f [0] L y))) (fun _ => some (c1o L ())) (fun _ => some ((.exit 1), mg (a0p a6f L) [1, 3] [] [1, 3] [])) := by kernel_rfl
theorem d72 (L : List Lf) (m : Nat) (x : List Lf) : b62 N L (m + 1) x = b3p N L x (b62 N L m) (fun p => some (.inl p)) (fun p => some (.inr p)) := by kernel_rfl
def d73 : Sg Tryz.prog 0 88 :=
 (d71 N).lp (e2P N) N a0e (a6U N) (fun m kn L x => (c8Q N m kn L x).trans (c6z N L x _ _ _)) (fun L m x => (d72 N L m x).trans (c6z N L x (b62 N L m) (fun p => some (.inl p)) (fun p => some (.inr p)))) fun L x hx => (a4i a1f) x hx
def b0k (w2 w3 : Int) (k0 : Bool → R) : R :=
 bnd (a9x N w2 (-1000000000000000) 1000000000000000) fun y0 =>
 bif y0 then
  k0 true
 else
  bnd (a9x N w3 (-1000000000000000) 1000000000000000) fun y1 =>
  k0 (bif y1 then true else (decide (w2 > w3)))
def b3q (w2 w3 : Int) : Bool := b0k N w2 w3 (fun p => p)
theorem d3x (w2 w3 : Int) (k0 : Bool → R) : b0k N w2 w3 k0 = k0 (b3q N w2 w3) := by
 unfold b3q b0k
 repeat' (first | rfl | apply a0q | (apply a0K; intro _))
def c6A : Sh := { tmps := [(1, .c (.p 1 0)), (3, .c (.p 3 0))], mem := [(1, .box (.i .i64 :: [.i .i64, .i .i64, .i .i64, .s, .sl 24])), (3, .box (.i .i64 :: [.i .i64, .i .i64, .i .i64, .s, .sl 24]))] }
def c1p (L : List Lf) (p : Bool) : Ex × St := (.normal, mg (a0p c6A L) [1, 3, 78] [(78, .c (.b p))] [1, 3] [])
def e2Q (L : List Lf) : List (Bool × (Ex × St)) := bnd (b0k N (li L 2) (li L 3) (fun p => p)) fun q => [(true, c1p L q)]
theorem d3y (L : List Lf) : pc Tryz.prog (c3N N) (d73 N).h 0 100 88 76 c6A L [1, 3, 78] [1, 3] = b0k N (li L 2) (li L 3) (fun p => some (c1p L p)) := by kernel_rfl
def d74 : Sg Tryz.prog 0 88 :=
 (d73 N).cut (e2Q N) a0e (a6U N) fun L x hx => (d3y N L).trans ((d3x N ..).trans (a2f _ _ hx))
def b3r (w0 : Bool) (w2 w3 w4 w9 w10 w11 : Int) (k0 : Int → Option R) (k1 : Int × Int × Int → Option R) : Option R :=
 bif w0 then
  bnd (c8P N w2) fun y0 =>
  bif (!y0) then
   k0 7
  else
   bnd (b3q N w3 w4) fun y1 =>
   bif y1 then
    k0 9
   else
    k1 (w2, w3, w4)
 else
  k1 (w9, w10, w11)
def b63 (w0 : Bool) (w2 w3 w4 w9 w10 w11 : Int) : Option (Sum (Int) (Int × Int × Int)) := b3r N w0 w2 w3 w4 w9 w10 w11 (fun p => some (.inl p)) (fun p => some (.inr p))
theorem c8R (w0 : Bool) (w2 w3 w4 w9 w10 w11 : Int) (k0 : Int → Option R) (k1 : Int × Int × Int → Option R) : b3r N w0 w2 w3 w4 w9 w10 w11 k0 k1 = (b63 N w0 w2 w3 w4 w9 w10 w11).bind (a1m k0 k1) := by
 unfold b63 b3r
 repeat' (first | with_reducible apply a0k | (with_reducible apply a0y; intro _) | rfl)
def d1y (L : List Lf) (k0 : Int → Option R) (k1 : Int × Int × Int → Option R) : Option R := b3r N (lb L 0) (li L 2) (li L 3) (li L 4) (li L 9) (li L 10) (li L 11) k0 k1
def b9b : Sh := { tmps := [(1, .c (.p 1 0)), (3, .c (.p 3 0)), (58, .c (.b))], mem := [(1, .box (.i .i64 :: [.i .i64, .i .i64, .i .i64, .s, .sl 24])), (3, .box (.i .i64 :: [.i .i64, .i .i64, .i .i64, .s, .sl 24]))] }
def c1q (L : List Lf) (p : Int) : Ex × St := (.ret, mg (a0p b9b L) [2] [(2, .c (.i .i64 p))] [1, 3] [])
def c1r (L : List Lf) (p : Int × Int × Int) : Ex × St := (.normal, mg (a0p b9b L) [1, 3] [] [1, 3] [(3, .box [.i .i64 (li L 8), .i .i64 p.1, .i .i64 p.2.1, .i .i64 p.2.2, .s (ls L 12), .sl 24 (lb L 13) (ll L 14)])])
def e2R (L : List Lf) : List (Bool × (Ex × St)) := bnd (d1y N L (fun p => some (.inl p)) (fun p => some (.inr p))) fun q => [((a04 q), c1q L (a0P q)), ((a0r q).isSome, c1r L ((a0r q).getD default))]
theorem d3z (L : List Lf) : pc Tryz.prog (c3N N) (d74 N).h 0 100 88 71 b9b L [1, 2, 3] [1, 3] = d1y N L (fun p => some (c1q L p)) (fun p => some (c1r L p)) := by kernel_rfl
def d75 : Sg Tryz.prog 0 88 :=
 (d74 N).cut (e2R N) a0e (a6U N) fun L x hx => (d3z N L).trans ((c8R N ..).trans ((a4i a1f) x hx))
def a6g (w0 : Int) (w1 : Bool) (w3 w4 w5 : Int) (w6 : LB) (w10 w11 w12 : Int) (w13 : LB) (k0 : Int → Option R) (k1 : Ty2 → Option R) : Option R :=
 bif w1 then
  bnd (c3O N w6 0) fun y0 =>
  bif (a04 y0) then
   k0 2
  else
   bif (a0r y0).isSome then
    bnd (bif (decide ((w6.length : Int) < 1)) then true else (decide ((w6.length : Int) > 60))) fun y1 =>
    bif y1 then
     k0 2
    else
     k1 (w10, w11, w12, w6)
   else
    none
 else
  bnd (b63 N (w0 == 7) w3 w4 w5 w10 w11 w12) fun y2 =>
  bif (a04 y2) then
   k0 (a0P y2)
  else
   bif (a0r y2).isSome then
    k1 (((a0r y2).getD default).1, ((a0r y2).getD default).2.1, ((a0r y2).getD default).2.2, w13)
   else
    none
def a8a (w0 : Int) (w1 : Bool) (w3 w4 w5 : Int) (w6 : LB) (w10 w11 w12 : Int) (w13 : LB) : Option (Sum (Int) (Ty2)) := a6g N w0 w1 w3 w4 w5 w6 w10 w11 w12 w13 (fun p => some (.inl p)) (fun p => some (.inr p))
theorem b91 (w0 : Int) (w1 : Bool) (w3 w4 w5 : Int) (w6 : LB) (w10 w11 w12 : Int) (w13 : LB) (k0 : Int → Option R) (k1 : Ty2 → Option R) : a6g N w0 w1 w3 w4 w5 w6 w10 w11 w12 w13 k0 k1 = (a8a N w0 w1 w3 w4 w5 w6 w10 w11 w12 w13).bind (a1m k0 k1) := by
 unfold a8a a6g
 repeat' (first | with_reducible apply a0k | (with_reducible apply a0y; intro _) | rfl)
def b9c (L : List Lf) (k0 : Int → Option R) (k1 : Ty2 → Option R) : Option R := a6g N (li L 0) (lb L 1) (li L 3) (li L 4) (li L 5) (ls L 6) (li L 10) (li L 11) (li L 12) (ls L 13) k0 k1
def a9y : Sh := { tmps := [(1, .c (.p 1 0)), (3, .c (.p 3 0)), (12, .c (.i .i64)), (30, .c (.b))], mem := [(1, .box (.i .i64 :: [.i .i64, .i .i64, .i .i64, .s, .sl 24])), (3, .box (.i .i64 :: [.i .i64, .i .i64, .i .i64, .s, .sl 24]))] }
def b3s (L : List Lf) (p : Int) : Ex × St := (.ret, mg (a0p a9y L) [2] [(2, .c (.i .i64 p))] [1, 3] [])
def b3t (L : List Lf) (p : Ty2) : Ex × St := (.normal, mg (a0p a9y L) [1, 3] [] [1, 3] [(3, .box [.i .i64 (li L 9), .i .i64 p.1, .i .i64 p.2.1, .i .i64 p.2.2.1, .s p.2.2.2, .sl 24 (lb L 14) (ll L 15)])])
def c8S (L : List Lf) : List (Bool × (Ex × St)) := bnd (b9c N L (fun p => some (.inl p)) (fun p => some (.inr p))) fun q => [((a04 q), b3s L (a0P q)), ((a0r q).isSome, b3t L ((a0r q).getD default))]
theorem c3P (L : List Lf) : pc Tryz.prog (c3N N) (d75 N).h 0 100 88 66044 a9y L [1, 2, 3] [1, 3] = b9c N L (fun p => some (b3s L p)) (fun p => some (b3t L p)) := by kernel_rfl
def d76 : Sg Tryz.prog 0 88 :=
 (d75 N).cut (c8S N) a0e (a6U N) fun L x hx => (c3P N L).trans ((b91 N ..).trans ((a4i a1f) x hx))
def a6h (w0 : Int) (w1 : Bool) (w3 w4 w5 : Int) (w6 : LB) (w10 w11 w12 : Int) (w13 : LB) (k0 : Int → Option R) (k1 : Ty2 → Option R) : Option R :=
 bif w1 then
  bnd (c6y N w6) fun y0 =>
  bif y0.isSome then
   bif (!(y0.getD default)) then
    k0 8
   else
    k1 (w10, w11, w12, w6)
  else
   none
 else
  bnd (a8a N w0 (w0 == 6) w3 w4 w5 w6 w10 w11 w12 w13) fun y1 =>
  bif (a04 y1) then
   k0 (a0P y1)
  else
   bif (a0r y1).isSome then
    k1 ((a0r y1).getD default)
   else
    none
def a8b (w0 : Int) (w1 : Bool) (w3 w4 w5 : Int) (w6 : LB) (w10 w11 w12 : Int) (w13 : LB) : Option (Sum (Int) (Ty2)) := a6h N w0 w1 w3 w4 w5 w6 w10 w11 w12 w13 (fun p => some (.inl p)) (fun p => some (.inr p))
theorem b92 (w0 : Int) (w1 : Bool) (w3 w4 w5 : Int) (w6 : LB) (w10 w11 w12 : Int) (w13 : LB) (k0 : Int → Option R) (k1 : Ty2 → Option R) : a6h N w0 w1 w3 w4 w5 w6 w10 w11 w12 w13 k0 k1 = (a8b N w0 w1 w3 w4 w5 w6 w10 w11 w12 w13).bind (a1m k0 k1) := by
 unfold a8b a6h
 repeat' (first | with_reducible apply a0k | (with_reducible apply a0y; intro _) | rfl)
def b9d (L : List Lf) (k0 : Int → Option R) (k1 : Ty2 → Option R) : Option R := a6h N (li L 0) (lb L 1) (li L 3) (li L 4) (li L 5) (ls L 6) (li L 10) (li L 11) (li L 12) (ls L 13) k0 k1
def a9z : Sh := { tmps := [(1, .c (.p 1 0)), (3, .c (.p 3 0)), (12, .c (.i .i64)), (21, .c (.b))], mem := [(1, .box (.i .i64 :: [.i .i64, .i .i64, .i .i64, .s, .sl 24])), (3, .box (.i .i64 :: [.i .i64, .i .i64, .i .i64, .s, .sl 24]))] }
def b3u (L : List Lf) (p : Int) : Ex × St := (.ret, mg (a0p a9z L) [2] [(2, .c (.i .i64 p))] [1, 3] [])
def b3v (L : List Lf) (p : Ty2) : Ex × St := (.normal, mg (a0p a9z L) [1, 3] [] [1, 3] [(3, .box [.i .i64 (li L 9), .i .i64 p.1, .i .i64 p.2.1, .i .i64 p.2.2.1, .s p.2.2.2, .sl 24 (lb L 14) (ll L 15)])])
def c8T (L : List Lf) : List (Bool × (Ex × St)) := bnd (b9d N L (fun p => some (.inl p)) (fun p => some (.inr p))) fun q => [((a04 q), b3u L (a0P q)), ((a0r q).isSome, b3v L ((a0r q).getD default))]
theorem c3Q (L : List Lf) : pc Tryz.prog (c3N N) (d76 N).h 0 100 88 39032 a9z L [1, 2, 3] [1, 3] = b9d N L (fun p => some (b3u L p)) (fun p => some (b3v L p)) := by kernel_rfl
def d77 : Sg Tryz.prog 0 88 :=
 (d76 N).cut (c8T N) a0e (a6U N) fun L x hx => (c3Q N L).trans ((b92 N ..).trans ((a4i a1f) x hx))
def a6i (w0 : Int) (w1 : Bool) (w3 w4 w5 : Int) (w6 : LB) (w10 w11 w12 : Int) (w13 : LB) (k0 : Int → Option R) (k1 : Ty2 → Option R) : Option R :=
 bif w1 then
  bnd (a9x N w4 1 5) fun y0 =>
  bif y0 then
   k0 7
  else
   k1 (w10, w4, w12, w13)
 else
  bnd (a8b N w0 (w0 == 5) w3 w4 w5 w6 w10 w11 w12 w13) fun y1 =>
  bif (a04 y1) then
   k0 (a0P y1)
  else
   bif (a0r y1).isSome then
    k1 ((a0r y1).getD default)
   else
    none
def a8c (w0 : Int) (w1 : Bool) (w3 w4 w5 : Int) (w6 : LB) (w10 w11 w12 : Int) (w13 : LB) : Option (Sum (Int) (Ty2)) := a6i N w0 w1 w3 w4 w5 w6 w10 w11 w12 w13 (fun p => some (.inl p)) (fun p => some (.inr p))
theorem b93 (w0 : Int) (w1 : Bool) (w3 w4 w5 : Int) (w6 : LB) (w10 w11 w12 : Int) (w13 : LB) (k0 : Int → Option R) (k1 : Ty2 → Option R) : a6i N w0 w1 w3 w4 w5 w6 w10 w11 w12 w13 k0 k1 = (a8c N w0 w1 w3 w4 w5 w6 w10 w11 w12 w13).bind (a1m k0 k1) := by
 unfold a8c a6i
 repeat' (first | with_reducible apply a0k | (with_reducible apply a0y; intro _) | rfl)
def b9e (L : List Lf) (k0 : Int → Option R) (k1 : Ty2 → Option R) : Option R := a6i N (li L 0) (lb L 1) (li L 3) (li L 4) (li L 5) (ls L 6) (li L 10) (li L 11) (li L 12) (ls L 13) k0 k1
def a9A : Sh := { tmps := [(1, .c (.p 1 0)), (3, .c (.p 3 0)), (12, .c (.i .i64)), (13, .c (.b))], mem := [(1, .box (.i .i64 :: [.i .i64, .i .i64, .i .i64, .s, .sl 24])), (3, .box (.i .i64 :: [.i .i64, .i .i64, .i .i64, .s, .sl 24]))] }
def b3w (L : List Lf) (p : Int) : Ex × St := (.ret, mg (a0p a9A L) [2] [(2, .c (.i .i64 p))] [1, 3] [])
def b3x (L : List Lf) (p : Ty2) : Ex × St := (.normal, mg (a0p a9A L) [1, 3] [] [1, 3] [(3, .box [.i .i64 (li L 9), .i .i64 p.1, .i .i64 p.2.1, .i .i64 p.2.2.1, .s p.2.2.2, .sl 24 (lb L 14) (ll L 15)])])
def c8U (L : List Lf) : List (Bool × (Ex × St)) := bnd (b9e N L (fun p => some (.inl p)) (fun p => some (.inr p))) fun q => [((a04 q), b3w L (a0P q)), ((a0r q).isSome, b3x L ((a0r q).getD default))]
theorem c3R (L : List Lf) : pc Tryz.prog (c3N N) (d77 N).h 0 100 88 27020 a9A L [1, 2, 3] [1, 3] = b9e N L (fun p => some (b3w L p)) (fun p => some (b3x L p)) := by kernel_rfl
def d78 : Sg Tryz.prog 0 88 :=
 (d77 N).cut (c8U N) a0e (a6U N) fun L x hx => (c3R N L).trans ((b93 N ..).trans ((a4i a1f) x hx))
def d79 (v0 v1 v2 v3 : Int) (v4 : LB) (v6 : LD) (k0 : Int → Option R) : Option R :=
 bnd (a9x N v0 1 7) fun y0 =>
 bif y0 then
  k0 7
 else
  bnd (a8c N v0 (v0 == 4) v1 v2 v3 v4 0 0 0 ([] : List UInt8)) fun y1 =>
  bif (a04 y1) then
   k0 (a0P y1)
  else
   bif (a0r y1).isSome then
    bnd (bif (v1 != ((a0r y1).getD default).1) then true else (v2 != ((a0r y1).getD default).2.1)) fun y2 =>
    bnd (bif y2 then true else (v3 != ((a0r y1).getD default).2.2.1)) fun y3 =>
    bnd (bif y3 then true else (!(v4 == ((a0r y1).getD default).2.2.2))) fun y4 =>
    bif y4 then
     k0 2
    else
     bnd (bif (decide (v0 > 3)) then (decide ((v6.length : Int) > 0)) else false) fun y5 =>
     bnd (bif y5 then true else (bif (v0 == 3) then ((v6.length : Int) != 1) else false)) fun y6 =>
     bif y6 then
      k0 2
     else
      k0 0
   else
    none
def d8a (v0 v1 v2 v3 : Int) (v4 : LB) (v6 : LD) : Option (Int) := d79 N v0 v1 v2 v3 v4 v6 (fun p => some p)
theorem e2S (v0 v1 v2 v3 : Int) (v4 : LB) (v6 : LD) (k0 : Int → Option R) : d79 N v0 v1 v2 v3 v4 v6 k0 = (d8a N v0 v1 v2 v3 v4 v6).bind k0 := by
 unfold d8a d79
 repeat' (first | with_reducible apply a0k | (with_reducible apply a0y; intro _) | rfl)
def f1Y (L : List Lf) (k0 : Int → Option R) : Option R := d79 N (li L 0) (li L 1) (li L 2) (li L 3) (ls L 4) (ll L 6) k0
def d8b : Sh := { tmps := [(0, .g (.i .i64 :: [.i .i64, .i .i64, .i .i64, .s, .sl 24]))], mem := [] }
def f1Z (L : List Lf) : List (Bool × Res) := bnd (f1Y N L (fun p => some p)) fun q => [(q.isSome, ([.c (.i .i64 (q.getD default))], []))]
theorem e76 (L : List Lf) : bd Tryz.prog (c3N N) (d78 N).h 88 d8b L = f1Y N L (fun p => some ([.c (.i .i64 p)], [])) := by kernel_rfl
theorem f10 : a0V Tryz.prog 88 d8b (f1Z N) :=
 (d78 N).fn a0e (a6U N) fun L x hx => ((e76 N L).trans ((e2S N ..).trans (a1f x hx)))
def f11 : a0f := ext 88 (a2n d8b (f1Z N)) (c3N N)
theorem d1z : a0b Tryz.prog (f11 N) := a0V.to (f10 N) (a6U N)
abbrev a3v : Type := Int → Int → Int → Int → LB → Bool → LD → Int → Option (Int)
def d1A : Sh := { tmps := [(0, .g (.i .i64 :: [.i .i64, .i .i64, .i .i64, .s, .sl 24])), (1, .c (.i .i64))], mem := [] }
def f12 (N : Nat) (a0F : a3v) (L : List Lf) : List (Bool × Res) := bnd (a0F (li L 0) (li L 1) (li L 2) (li L 3) (ls L 4) (lb L 5) (ll L 6) (li L 7)) fun q => [(q.isSome, ([.c (.i .i64 (q.getD default))], []))]
def c3S (a0F : a3v) : a0f := ext 57 (a2n d1A ((f12 N) a0F)) (f11 N)
def f13 : List (Nat × List Nat) := [(0, [0, 1]), (1, [2, 1]), (2, [5, 1, 2]), (3, [5]), (4, [1, 2]), (5, []), (6, [2, 1]), (7, [19, 18, 17, 1]), (8, [17, 19, 1, 18]), (9, [7, 1, 19, 18, 17]), (10, [8, 19, 18, 17, 1]), (11, [8]), (12, [19, 18, 17, 1]), (13, [])]
def f16 : a0M := [(21, [1, 17, 18, 19], [], [])]
def d8c (a0F : a3v) (a8D : a0b Tryz.prog ((c3S N) a0F)) : Sg Tryz.prog 0 57 := .start f16 f13
def b0l (N : Nat) (a0F : a3v) (w0 : Int) (w2 : LD) (w3 : Int) (w4 : Int) (kr : Int → Option R) (k0 : Int → Option R) (k1 : Unit → Option R) : Option R :=
 bif (decide (w4 < w3)) then
  bif (inB w4 w2.length) then
   bnd (a0F ((w2.getD w4.toNat (.i 0)).cell 0).toI ((w2.getD w4.toNat (.i 0)).cell 1).toI ((w2.getD w4.toNat (.i 0)).cell 2).toI ((w2.getD w4.toNat (.i 0)).cell 3).toI ((w2.getD w4.toNat (.i 0)).cell 4).toS ((w2.getD w4.toNat (.i 0)).cell 5).isNil ((w2.getD w4.toNat (.i 0)).cell 5).items (IntKind.wrap .i64 (w0 + 1))) fun y0 =>
   bif y0.isSome then
    bif ((y0.getD default) != 0) then
     k0 (y0.getD default)
    else
     kr (IntKind.wrap .i64 (w4 + 1))
   else
    none
  else
   none
 else
  k1 ()
def b64 (N : Nat) (a0F : a3v) {R : Type} (w0 : Int) (w2 : LD) (w3 : Int) : Nat → Int → (Int → Option R) → (Unit → Option R) → Option R
 | 0, _, _, _ => none
 | m + 1, w4, k0, k1 => b0l N a0F w0 w2 w3 w4 (fun w4 => b64 N a0F w0 w2 w3 m w4 k0 k1) k0 k1
def b0m (a0F : a3v) (w0 : Int) (w2 : LD) (w3 : Int) (w4 : Int) : Option (Sum (Int) (Unit)) := b64 N a0F (R := (Sum (Int) (Unit))) w0 w2 w3 N w4 (fun p => some (.inl p)) (fun p => some (.inr p))
def b3y (a0F : a3v) (L x : List Lf) (kr : List Lf → Option R) (k0 : Int → Option R) (k1 : Unit → Option R) : Option R := b0l N a0F (li L 0) (ll L 2) (li L 3) (li x 0) (fun w4 => kr [.i w4]) k0 k1
theorem c6B (a0F : a3v) (L x : List Lf) (kr : List Lf → Option R) (k0 : Int → Option R) (k1 : Unit → Option R) : b3y N a0F L x kr k0 k1 = (b3y N a0F L x (fun y => some (.inl y)) (fun p => some (.inr (.inl p))) (fun p => some (.inr (.inr p)))).bind (a1m kr (a1m k0 k1)) := by
 unfold b3y b0l
 repeat' (first | with_reducible apply a0k | (with_reducible apply a0y; intro _) | rfl)
def b65 (a0F : a3v) (L : List Lf) (m : Nat) (x : List Lf) : Option (Sum (Int) (Unit)) := b64 N a0F (R := (Sum (Int) (Unit))) (li L 0) (ll L 2) (li L 3) m (li x 0) (fun p => some (.inl p)) (fun p => some (.inr p))
def b3z : Sh := { tmps := [(1, .c (.i .i64)), (17, .c (.sl 24)), (18, .c (.i .i64)), (19, .c (.i .i64))], mem := [] }
def e2T (a0F : a3v) (L : List Lf) : List (Bool × (Ex × St)) := bnd (b65 N a0F L N (pk b3z [4] L)) fun q => [((a04 q), (.ret, ⟨[(4, .c (.i .i64 (a0P q)))], []⟩)), ((a0r q).isSome, ((.exit 0), ⟨[], []⟩))]
theorem c8V (a0F : a3v) (a8D : a0b Tryz.prog ((c3S N) a0F)) (m : Nat) (kn : St → Option (Ex × St)) (L x : List Lf) : lpB Tryz.prog ((c3S N) a0F) ((d8c N) a0F a8D).h 0 57 21 b3z [4] [4] [] (m + 100) kn L x = b3y N a0F L x (fun y => kn (a0p b3z (mx b3z [4] L y))) (fun p => some (.ret, ⟨[(4, .c (.i .i64 p))], []⟩)) (fun _ => some ((.exit 0), ⟨[], []⟩)) := by kernel_rfl
theorem d8d (a0F : a3v) (L : List Lf) (m : Nat) (x : List Lf) : b65 N a0F L (m + 1) x = b3y N a0F L x (b65 N a0F L m) (fun p => some (.inl p)) (fun p => some (.inr p)) := by kernel_rfl
def d8e (a0F : a3v) (a8D : a0b Tryz.prog ((c3S N) a0F)) : Sg Tryz.prog 0 57 :=
 ((d8c N) a0F a8D).lp ((e2T N) a0F) N a0e a8D (fun m kn L x => (c8V N a0F a8D m kn L x).trans (c6B N a0F L x _ _ _)) (fun L m x => (d8d N a0F L m x).trans (c6B N a0F L x (b65 N a0F L m) (fun p => some (.inl p)) (fun p => some (.inr p)))) fun L x hx => (a4i a1f) x hx
def d8f (a0F : a3v) (v0 v1 v2 v3 : Int) (v4 : LB) (v5 : Bool) (v6 : LD) (v7 : Int) (k0 : Int → Option R) : Option R :=
 bnd (d8a N v0 v1 v2 v3 v4 v6) fun y0 =>
 bif y0.isSome then
  bif ((y0.getD default) != 0) then
   k0 (y0.getD default)
  else
   bif (decide (v7 > 20)) then
    k0 3
   else
    bnd (b0m N a0F v7 v6 (v6.length : Int) 0) fun y1 =>
    bif (a04 y1) then
     k0 (a0P y1)
    else
     bif (a0r y1).isSome then
      k0 0
     else
      none
 else
  none
def c8W (a0F : a3v) (v0 v1 v2 v3 : Int) (v4 : LB) (v5 : Bool) (v6 : LD) (v7 : Int) : Option (Int) := d8f N a0F v0 v1 v2 v3 v4 v5 v6 v7 (fun p => some p)
theorem e2U (a0F : a3v) (v0 v1 v2 v3 : Int) (v4 : LB) (v5 : Bool) (v6 : LD) (v7 : Int) (k0 : Int → Option R) : d8f N a0F v0 v1 v2 v3 v4 v5 v6 v7 k0 = (c8W N a0F v0 v1 v2 v3 v4 v5 v6 v7).bind k0 := by
 unfold c8W d8f
 repeat' (first | with_reducible apply a0k | (with_reducible apply a0y; intro _) | rfl)
def f4E (a0F : a3v) (L : List Lf) (k0 : Int → Option R) : Option R := d8f N a0F (li L 0) (li L 1) (li L 2) (li L 3) (ls L 4) (lb L 5) (ll L 6) (li L 7) k0
theorem e77 (a0F : a3v) (a8D : a0b Tryz.prog ((c3S N) a0F)) (L : List Lf) : bd Tryz.prog ((c3S N) a0F) ((d8e N) a0F a8D).h 57 d1A L = f4E N a0F L (fun p => some ([.c (.i .i64 p)], [])) := by kernel_rfl
theorem e78 (a0F : a3v) (a8D : a0b Tryz.prog ((c3S N) a0F)) (L : List Lf) (x : Res) (hx : a5f ((f12 N) (fun v0 v1 v2 v3 v4 v5 v6 v7 => c8W N a0F v0 v1 v2 v3 v4 v5 v6 v7) L) some = some x) : a1I Tryz.prog 57 (a5P (a0p d1A L).tmps) (a0p d1A L).mem x :=
 a3p (n := 200) a0e a8D ((d8e N) a0F a8D).ok rfl ((e77 N a0F a8D L).trans ((e2U N a0F ..).trans (a1f x hx)))
def b0R (N : Nat) : Nat → a3v
 | 0 => fun _ _ _ _ _ _ _ _ => none
 | m + 1 => fun v0 v1 v2 v3 v4 v5 v6 v7 => c8W N (b0R N m) v0 v1 v2 v3 v4 v5 v6 v7
theorem d8g (N : Nat) : ∀ m, a0b Tryz.prog ((c3S N) (b0R N m))
 | 0 => a0Y (d1z N) (AM.enters_of (by kernel_rfl)) (a1h fun L x hx => by
  have h : (none : Option Res) = some x := hx
  cases h)
 | m + 1 => a0Y (d1z N) (AM.enters_of (by kernel_rfl)) (a1h fun L x hx => e78 N (b0R N m) (d8g N m) L x hx)
def e79 : a0f := (c3S N) (b0R N N)
theorem d1B : a0b Tryz.prog (e79 N) := d8g N N
def f17 : List (Nat × List Nat) := [(0, [0]), (1, [1]), (2, []), (3, [1])]
def f18 : a0M := []
def d8h (N : Nat) : Sg Tryz.prog 0 30 := .start f18 f17
def d8i (v0 v1 v2 v3 : Int) (v4 : LB) (v5 : Bool) (v6 : LD) (k0 : Int → Option R) : Option R :=
 bnd (b90 N N v0 v1 v2 v3 v4 v5 v6 101) fun y0 =>
 bif y0.isSome then
  bif (decide ((y0.getD default) > 100)) then
   k0 3
  else
   bnd (b0R N N v0 v1 v2 v3 v4 v5 v6 0) fun y1 =>
   bif y1.isSome then
    k0 (y1.getD default)
   else
    none
 else
  none
def d8j (v0 v1 v2 v3 : Int) (v4 : LB) (v5 : Bool) (v6 : LD) : Option (Int) := d8i N v0 v1 v2 v3 v4 v5 v6 (fun p => some p)
theorem e2V (v0 v1 v2 v3 : Int) (v4 : LB) (v5 : Bool) (v6 : LD) (k0 : Int → Option R) : d8i N v0 v1 v2 v3 v4 v5 v6 k0 = (d8j N v0 v1 v2 v3 v4 v5 v6).bind k0 := by
 unfold d8j d8i
 repeat' (first | with_reducible apply a0k | (with_reducible apply a0y; intro _) | rfl)
def f19 (L : List Lf) (k0 : Int → Option R) : Option R := d8i N (li L 0) (li L 1) (li L 2) (li L 3) (ls L 4) (lb L 5) (ll L 6) k0
def d8k : Sh := { tmps := [(0, .g (.i .i64 :: [.i .i64, .i .i64, .i .i64, .s, .sl 24]))], mem := [] }
def f2a (L : List Lf) : List (Bool × Res) := bnd (f19 N L (fun p => some p)) fun q => [(q.isSome, ([.c (.i .i64 (q.getD default))], []))]
theorem e8a (L : List Lf) : bd Tryz.prog (e79 N) (d8h N).h 30 d8k L = f19 N L (fun p => some ([.c (.i .i64 p)], [])) := by kernel_rfl
theorem f2b : a0V Tryz.prog 30 d8k (f2a N) :=
 (d8h N).fn a0e (d1B N) fun L x hx => ((e8a N L).trans ((e2V N ..).trans (a1f x hx)))
def e2W : a0f := ext 30 (a2n d8k (f2a N)) (e79 N)
theorem c3T : a0b Tryz.prog (e2W N) := a0V.to (f2b N) (d1B N)
def f2c : List (Nat × List Nat) := [(0, [0]), (1, [1]), (2, []), (3, [1]), (4, []), (5, [1]), (6, [3, 1]), (7, [3]), (8, [1]), (9, [4, 1]), (10, []), (11, [1]), (12, []), (13, [])]
def f2d : a0M := [(28, [1, 4], [1], [])]
def d8l (N : Nat) : Sg Tryz.prog 0 20 := .start f2d f2c
def b0n (w0 : Bool) (w3 : Int) (k0 : Bool → R) : R :=
 bif w0 then
  bnd (c8P N w3) fun y0 =>
  bnd (bif (!y0) then true else (bif (!w0) then (w3 != 0) else false)) fun y1 =>
  k0 y1
 else
  k0 (bif (!w0) then (w3 != 0) else false)
def b3A (w0 : Bool) (w3 : Int) : Bool := b0n N w0 w3 (fun p => p)
theorem d3A (w0 : Bool) (w3 : Int) (k0 : Bool → R) : b0n N w0 w3 k0 = k0 (b3A N w0 w3) := by
 unfold b3A b0n
 repeat' (first | rfl | apply a0q | (apply a0K; intro _))
def c6C : Sh := { tmps := [(1, .c (.p 1 0)), (4, .c (.b))], mem := [(1, .box (.s :: rI 7 ([.s, .sl 24])))] }
def c1s (L : List Lf) (p : Bool) : Ex × St := (.normal, mg (a0p c6C L) [1, 41] [(41, .c (.b p))] [1] [])
def e2X (L : List Lf) : List (Bool × (Ex × St)) := bnd (b0n N (lb L 0) (li L 3) (fun p => p)) fun q => [(true, c1s L q)]
theorem d3B (L : List Lf) : pc Tryz.prog (e2W N) (d8l N).h 0 100 20 28 c6C L [1, 41] [1] = b0n N (lb L 0) (li L 3) (fun p => some (c1s L p)) := by kernel_rfl
def d8m : Sg Tryz.prog 0 20 :=
 (d8l N).cut (e2X N) a0e (c3T N) fun L x hx => (d3B N L).trans ((d3A N ..).trans (a2f _ _ hx))
def d8n (v0 : LB) (v1 v2 v3 v4 v5 v6 v7 : Int) (v8 : LB) (v9 : Bool) (v10 : LD) (k0 : Int → Option R) : Option R :=
 bnd (c6y N v0) fun y0 =>
 bif y0.isSome then
  bif (!(y0.getD default)) then
   k0 8
  else
   bnd (a9x N v1 1 4) fun y1 =>
   bif y1 then
    k0 7
   else
    bnd (d8j N v4 v5 v6 v7 v8 v9 v10) fun y2 =>
    bif y2.isSome then
     bif ((y2.getD default) != 0) then
      k0 (y2.getD default)
     else
      bnd (b3A N (bif (v1 == 2) then true else (v1 == 3)) v2) fun y3 =>
      bif y3 then
       k0 7
      else
       bnd (a9x N v3 1 10000000000000) fun y4 =>
       bif y4 then
        k0 9
       else
        k0 0
    else
     none
 else
  none
def d8o (v0 : LB) (v1 v2 v3 v4 v5 v6 v7 : Int) (v8 : LB) (v9 : Bool) (v10 : LD) : Option (Int) := d8n N v0 v1 v2 v3 v4 v5 v6 v7 v8 v9 v10 (fun p => some p)
theorem e2Y (v0 : LB) (v1 v2 v3 v4 v5 v6 v7 : Int) (v8 : LB) (v9 : Bool) (v10 : LD) (k0 : Int → Option R) : d8n N v0 v1 v2 v3 v4 v5 v6 v7 v8 v9 v10 k0 = (d8o N v0 v1 v2 v3 v4 v5 v6 v7 v8 v9 v10).bind k0 := by
 unfold d8o d8n
 repeat' (first | with_reducible apply a0k | (with_reducible apply a0y; intro _) | rfl)
def f2e (L : List Lf) (k0 : Int → Option R) : Option R := d8n N (ls L 0) (li L 1) (li L 2) (li L 3) (li L 4) (li L 5) (li L 6) (li L 7) (ls L 8) (lb L 9) (ll L 10) k0
def d8p : Sh := { tmps := [(0, .g (.s :: rI 7 ([.s, .sl 24])))], mem := [] }
def f2f (L : List Lf) : List (Bool × Res) := bnd (f2e N L (fun p => some p)) fun q => [(q.isSome, ([.c (.i .i64 (q.getD default))], []))]
theorem e8b (L : List Lf) : bd Tryz.prog (e2W N) (d8m N).h 20 d8p L = f2e N L (fun p => some ([.c (.i .i64 p)], [])) := by kernel_rfl
theorem f2g : a0V Tryz.prog 20 d8p (f2f N) :=
 (d8m N).fn a0e (c3T N) fun L x hx => ((e8b N L).trans ((e2Y N ..).trans (a1f x hx)))
def d8q : a0f := ext 20 (a2n d8p (f2f N)) (e2W N)
theorem b66 : a0b Tryz.prog (d8q N) := a0V.to (f2g N) (c3T N)
def f2h : List (Nat × List Nat) := [(0, [0]), (1, [0]), (2, []), (3, [0]), (4, [13, 12, 11, 0]), (5, [13, 11, 0, 12]), (6, [4, 0, 3, 13, 12, 11]), (7, [5, 0, 3, 4, 13, 12, 11]), (8, [5]), (9, [0, 3, 4, 13, 12, 11]), (10, [27, 26, 25, 4, 13, 12, 11, 0]), (11, [25, 27, 4, 26, 13, 12, 11, 0]), (12, [7, 4, 27, 26, 25, 13, 12, 11, 0]), (13, []), (14, [27, 26, 25, 4, 13, 12, 11, 0]), (15, [13, 12, 11, 0]), (16, [])]
def f2i : a0M := [(12, [0, 11, 12, 13], [], []), (30, [0, 4, 11, 12, 13, 25, 26, 27], [4], [])]
def d8r (N : Nat) : Sg Tryz.prog 0 37 := .start f2i f2h
def b0o (N : Nat) (w7 : LD) (w8 : Int) (w10 : LB) (w9 : Int) (kr : Int → Option R) (k0 : Unit → Option R) (k1 : Unit → Option R) : Option R :=
 bif (decide (w9 < w8)) then
  bif (inB w9 w7.length) then
   bif (((w7.getD w9.toNat (.i 0)).cell 0).toS == w10) then
    k0 ()
   else
    kr (IntKind.wrap .i64 (w9 + 1))
  else
   none
 else
  k1 ()
def b67 (N : Nat) {R : Type} (w7 : LD) (w8 : Int) (w10 : LB) : Nat → Int → (Unit → Option R) → (Unit → Option R) → Option R
 | 0, _, _, _ => none
 | m + 1, w9, k0, k1 => b0o N w7 w8 w10 w9 (fun w9 => b67 N w7 w8 w10 m w9 k0 k1) k0 k1
def c3U (w7 : LD) (w8 : Int) (w10 : LB) (w9 : Int) : Option (Sum (Unit) (Unit)) := b67 N (R := (Sum (Unit) (Unit))) w7 w8 w10 N w9 (fun p => some (.inl p)) (fun p => some (.inr p))
def b3B (L x : List Lf) (kr : List Lf → Option R) (k0 : Unit → Option R) (k1 : Unit → Option R) : Option R := b0o N (ll L 7) (li L 8) (ls L 10) (li x 0) (fun w9 => kr [.i w9]) k0 k1
theorem c6D (L x : List Lf) (kr : List Lf → Option R) (k0 : Unit → Option R) (k1 : Unit → Option R) : b3B N L x kr k0 k1 = (b3B N L x (fun y => some (.inl y)) (fun p => some (.inr (.inl p))) (fun p => some (.inr (.inr p)))).bind (a1m kr (a1m k0 k1)) := by
 unfold b3B b0o
 repeat' (first | with_reducible apply a0k | (with_reducible apply a0y; intro _) | rfl)
def b68 (L : List Lf) (m : Nat) (x : List Lf) : Option (Sum (Unit) (Unit)) := b67 N (R := (Sum (Unit) (Unit))) (ll L 7) (li L 8) (ls L 10) m (li x 0) (fun p => some (.inl p)) (fun p => some (.inr p))
def a7E : Sh := { tmps := [(0, .c (.sl 52)), (4, .c (.p 4 0)), (11, .c (.sl 52)), (12, .c (.i .i64)), (13, .c (.i .i64)), (25, .c (.sl 52)), (26, .c (.i .i64)), (27, .c (.i .i64))], mem := [(4, .box (.s :: rI 7 ([.s, .sl 24])))] }
def e2Z (L : List Lf) : List (Bool × (Ex × St)) := bnd (b68 N L N (pk a7E [9] L)) fun q => [((a04 q), (.ret, ⟨[(2, .c (.i .i64 5))], []⟩)), ((a0r q).isSome, ((.exit 2), mg (a0p a7E L) [0, 11, 12, 13] [] [] []))]
theorem c8X (m : Nat) (kn : St → Option (Ex × St)) (L x : List Lf) : lpB Tryz.prog (d8q N) (d8r N).h 0 37 30 a7E [9] [0, 2, 11, 12, 13] [] (m + 100) kn L x = b3B N L x (fun y => kn (a0p a7E (mx a7E [9] L y))) (fun _ => some (.ret, ⟨[(2, .c (.i .i64 5))], []⟩)) (fun _ => some ((.exit 2), mg (a0p a7E L) [0, 11, 12, 13] [] [] [])) := by kernel_rfl
theorem d8s (L : List Lf) (m : Nat) (x : List Lf) : b68 N L (m + 1) x = b3B N L x (b68 N L m) (fun p => some (.inl p)) (fun p => some (.inr p)) := by kernel_rfl
def d8t : Sg Tryz.prog 0 37 :=
 (d8r N).lp (e2Z N) N a0e (b66 N) (fun m kn L x => (c8X N m kn L x).trans (c6D N L x _ _ _)) (fun L m x => (d8s N L m x).trans (c6D N L x (b68 N L m) (fun p => some (.inl p)) (fun p => some (.inr p)))) fun L x hx => (a4i a1f) x hx
def b0p (w1 w3 : LD) (w4 : Int) (w5 : Int) (kr : Int → Option R) (k0 : Int → Option R) (k1 : Unit → Option R) : Option R :=
 bif (decide (w5 < w4)) then
  bif (inB w5 w3.length) then
   bnd (d8o N ((w3.getD w5.toNat (.i 0)).cell 0).toS ((w3.getD w5.toNat (.i 0)).cell 1).toI ((w3.getD w5.toNat (.i 0)).cell 2).toI ((w3.getD w5.toNat (.i 0)).cell 3).toI ((w3.getD w5.toNat (.i 0)).cell 4).toI ((w3.getD w5.toNat (.i 0)).cell 5).toI ((w3.getD w5.toNat (.i 0)).cell 6).toI ((w3.getD w5.toNat (.i 0)).cell 7).toI ((w3.getD w5.toNat (.i 0)).cell 8).toS ((w3.getD w5.toNat (.i 0)).cell 9).isNil ((w3.getD w5.toNat (.i 0)).cell 9).items) fun y0 =>
   bif y0.isSome then
    bif ((y0.getD default) != 0) then
     k0 (y0.getD default)
    else
     bif ((decide (0 ≤ w5)) && (decide (w5 ≤ (w1.length : Int)))) then
      bnd (c3U N ((w1.take w5.toNat).drop 0) (((w1.take w5.toNat).drop 0).length : Int) ((w3.getD w5.toNat (.i 0)).cell 0).toS 0) fun y1 =>
      bif (a04 y1) then
       k0 5
      else
       bif (a0r y1).isSome then
        kr (IntKind.wrap .i64 (w5 + 1))
       else
        none
     else
      none
   else
    none
  else
   none
 else
  k1 ()
def b69 (N : Nat) {R : Type} (w1 w3 : LD) (w4 : Int) : Nat → Int → (Int → Option R) → (Unit → Option R) → Option R
 | 0, _, _, _ => none
 | m + 1, w5, k0, k1 => b0p N w1 w3 w4 w5 (fun w5 => b69 N w1 w3 w4 m w5 k0 k1) k0 k1
def c3V (w1 w3 : LD) (w4 : Int) (w5 : Int) : Option (Sum (Int) (Unit)) := b69 N (R := (Sum (Int) (Unit))) w1 w3 w4 N w5 (fun p => some (.inl p)) (fun p => some (.inr p))
def b3C (L x : List Lf) (kr : List Lf → Option R) (k0 : Int → Option R) (k1 : Unit → Option R) : Option R := b0p N (ll L 1) (ll L 3) (li L 4) (li x 0) (fun w5 => kr [.i w5]) k0 k1
theorem c6E (L x : List Lf) (kr : List Lf → Option R) (k0 : Int → Option R) (k1 : Unit → Option R) : b3C N L x kr k0 k1 = (b3C N L x (fun y => some (.inl y)) (fun p => some (.inr (.inl p))) (fun p => some (.inr (.inr p)))).bind (a1m kr (a1m k0 k1)) := by
 unfold b3C b0p
 repeat' (first | with_reducible apply a0k | (with_reducible apply a0y; intro _) | rfl)
def b7a (L : List Lf) (m : Nat) (x : List Lf) : Option (Sum (Int) (Unit)) := b69 N (R := (Sum (Int) (Unit))) (ll L 1) (ll L 3) (li L 4) m (li x 0) (fun p => some (.inl p)) (fun p => some (.inr p))
def b3D : Sh := { tmps := [(0, .c (.sl 52)), (11, .c (.sl 52)), (12, .c (.i .i64)), (13, .c (.i .i64))], mem := [] }
def e20 (L : List Lf) : List (Bool × (Ex × St)) := bnd (b7a N L N (pk b3D [5] L)) fun q => [((a04 q), (.ret, ⟨[(2, .c (.i .i64 (a0P q)))], []⟩)), ((a0r q).isSome, ((.exit 0), ⟨[], []⟩))]
theorem c8Y (m : Nat) (kn : St → Option (Ex × St)) (L x : List Lf) : lpB Tryz.prog (d8q N) (d8t N).h 0 37 12 b3D [5] [2] [] (m + 100) kn L x = b3C N L x (fun y => kn (a0p b3D (mx b3D [5] L y))) (fun p => some (.ret, ⟨[(2, .c (.i .i64 p))], []⟩)) (fun _ => some ((.exit 0), ⟨[], []⟩)) := by kernel_rfl
theorem d8u (L : List Lf) (m : Nat) (x : List Lf) : b7a N L (m + 1) x = b3C N L x (b7a N L m) (fun p => some (.inl p)) (fun p => some (.inr p)) := by kernel_rfl
def d8v : Sg Tryz.prog 0 37 :=
 (d8t N).lp (e20 N) N a0e (b66 N) (fun m kn L x => (c8Y N m kn L x).trans (c6E N L x _ _ _)) (fun L m x => (d8u N L m x).trans (c6E N L x (b7a N L m) (fun p => some (.inl p)) (fun p => some (.inr p)))) fun L x hx => (a4i a1f) x hx
def d3C (v1 : LD) (k0 : Int → Option R) : Option R :=
 bif (decide ((v1.length : Int) > 50)) then
  k0 3
 else
  bnd (c3V N v1 v1 (v1.length : Int) 0) fun y0 =>
  bif (a04 y0) then
   k0 (a0P y0)
  else
   bif (a0r y0).isSome then
    k0 0
   else
    none
def d8w (v1 : LD) : Option (Int) := d3C N v1 (fun p => some p)
theorem e21 (v1 : LD) (k0 : Int → Option R) : d3C N v1 k0 = (d8w N v1).bind k0 := by
 unfold d8w d3C
 repeat' (first | with_reducible apply a0k | (with_reducible apply a0y; intro _) | rfl)
def d8x : Sh := { tmps := [(0, .c (.sl 52))], mem := [] }
def f2j (L : List Lf) : List (Bool × Res) := bnd (d3C N (ll L 1) (fun p => some p)) fun q => [(q.isSome, ([.c (.i .i64 (q.getD default))], []))]
theorem e8c (L : List Lf) : bd Tryz.prog (d8q N) (d8v N).h 37 d8x L = d3C N (ll L 1) (fun p => some ([.c (.i .i64 p)], [])) := by kernel_rfl
theorem f2k : a0V Tryz.prog 37 d8x (f2j N) :=
 (d8v N).fn a0e (b66 N) fun L x hx => ((e8c N L).trans ((e21 N ..).trans (a1f x hx)))
def d8y : a0f := ext 37 (a2n d8x (f2j N)) (d8q N)
theorem b7b : a0b Tryz.prog (d8y N) := a0V.to (f2k N) (b66 N)
def f2l : List (Nat × List Nat) := [(0, [0]), (1, [1]), (3, [1]), (5, [1]), (7, [1]), (8, []), (6, []), (4, []), (2, []), (9, [1]), (10, [46, 45, 44, 1]), (11, [46, 44, 1, 45]), (12, [4, 3, 1, 46, 45, 44]), (13, []), (14, [3, 4, 1, 46, 45, 44]), (15, []), (16, [46, 45, 44, 1]), (17, [])]
def f2m : a0M := [(16, [1], [1], []), (30, [1, 44, 45, 46], [1], [])]
def d8z (N : Nat) : Sg Tryz.prog 0 50 := .start f2m f2l
def b3E (w2 w3 w4 w5 w6 : Int) (k0 : Bool → R) : R :=
 bnd (a9x N w2 0 86399999999) fun y0 =>
 bif y0 then
  k0 true
 else
  bnd (a9x N w3 0 10000000000000) fun y1 =>
  bif y1 then
   k0 true
  else
   bnd (a9x N w4 0 10000000000000) fun y2 =>
   bif y2 then
    k0 true
   else
    bnd (a9x N w5 0 10000000000000) fun y3 =>
    bif y3 then
     k0 true
    else
     bnd (a9x N w6 0 10000000000000) fun y4 =>
     k0 y4
def b3F (w2 w3 w4 w5 w6 : Int) : Bool := b3E N w2 w3 w4 w5 w6 (fun p => p)
theorem d3D (w2 w3 w4 w5 w6 : Int) (k0 : Bool → R) : b3E N w2 w3 w4 w5 w6 k0 = k0 (b3F N w2 w3 w4 w5 w6) := by
 unfold b3F b3E
 repeat' (first | rfl | apply a0q | (apply a0K; intro _))
def d1C (L : List Lf) (k0 : Bool → R) : R := b3E N (li L 2) (li L 3) (li L 4) (li L 5) (li L 6) k0
def c6F : Sh := { tmps := [(1, .c (.p 1 0))], mem := [(1, .box (.s :: rI 6 ([.sl 9])))] }
def c1t (L : List Lf) (p : Bool) : Ex × St := (.normal, mg (a0p c6F L) [1, 14] [(14, .c (.b p))] [1] [])
def e22 (L : List Lf) : List (Bool × (Ex × St)) := bnd (d1C N L (fun p => p)) fun q => [(true, c1t L q)]
theorem d3E (L : List Lf) : pc Tryz.prog (d8y N) (d8z N).h 0 100 50 16 c6F L [1, 14] [1] = d1C N L (fun p => some (c1t L p)) := by kernel_rfl
def d8A : Sg Tryz.prog 0 50 :=
 (d8z N).cut (e22 N) a0e (b7b N) fun L x hx => (d3E N L).trans ((d3D N ..).trans (a2f _ _ hx))
def b0q (w1 : LD) (w2 : Int) (w12 : LD) (w3 : Int) (kr : Int → Option R) (k0 : Int → Option R) (k1 : Unit → Option R) : Option R :=
 bif (decide (w3 < w2)) then
  bif (inB w3 w1.length) then
   bnd (c6y N (w1.getD w3.toNat (.i 0)).toS) fun y0 =>
   bif y0.isSome then
    bif (!(y0.getD default)) then
     k0 8
    else
     bif (bif (inB (IntKind.wrap .i64 (w3 - 1)) w12.length) then true else (!((decide (w3 > 0)) == true))) then
      bnd (bif (decide (w3 > 0)) then ((Op.bytesLess (w1.getD w3.toNat (.i 0)).toS (w12.getD (IntKind.wrap .i64 (w3 - 1)).toNat (.i 0)).toS) || ((w1.getD w3.toNat (.i 0)).toS == (w12.getD (IntKind.wrap .i64 (w3 - 1)).toNat (.i 0)).toS)) else false) fun y1 =>
      bif y1 then
       k0 10
      else
       kr (IntKind.wrap .i64 (w3 + 1))
     else
      none
   else
    none
  else
   none
 else
  k1 ()
def b7c (N : Nat) {R : Type} (w1 : LD) (w2 : Int) (w12 : LD) : Nat → Int → (Int → Option R) → (Unit → Option R) → Option R
 | 0, _, _, _ => none
 | m + 1, w3, k0, k1 => b0q N w1 w2 w12 w3 (fun w3 => b7c N w1 w2 w12 m w3 k0 k1) k0 k1
def c3W (w1 : LD) (w2 : Int) (w12 : LD) (w3 : Int) : Option (Sum (Int) (Unit)) := b7c N (R := (Sum (Int) (Unit))) w1 w2 w12 N w3 (fun p => some (.inl p)) (fun p => some (.inr p))
def b3G (L x : List Lf) (kr : List Lf → Option R) (k0 : Int → Option R) (k1 : Unit → Option R) : Option R := b0q N (ll L 1) (li L 2) (ll L 12) (li x 0) (fun w3 => kr [.i w3]) k0 k1
theorem c6G (L x : List Lf) (kr : List Lf → Option R) (k0 : Int → Option R) (k1 : Unit → Option R) : b3G N L x kr k0 k1 = (b3G N L x (fun y => some (.inl y)) (fun p => some (.inr (.inl p))) (fun p => some (.inr (.inr p)))).bind (a1m kr (a1m k0 k1)) := by
 unfold b3G b0q
 repeat' (first | with_reducible apply a0k | (with_reducible apply a0y; intro _) | rfl)
def b7d (L : List Lf) (m : Nat) (x : List Lf) : Option (Sum (Int) (Unit)) := b7c N (R := (Sum (Int) (Unit))) (ll L 1) (li L 2) (ll L 12) m (li x 0) (fun p => some (.inl p)) (fun p => some (.inr p))
def b3H : Sh := { tmps := [(1, .c (.p 1 0)), (44, .c (.sl 9)), (45, .c (.i .i64)), (46, .c (.i .i64))], mem := [(1, .box (.s :: rI 6 ([.sl 9])))] }
def e23 (L : List Lf) : List (Bool × (Ex × St)) := bnd (b7d N L N (pk b3H [3] L)) fun q => [((a04 q), (.ret, ⟨[(2, .c (.i .i64 (a0P q)))], []⟩)), ((a0r q).isSome, ((.exit 1), ⟨[], []⟩))]
theorem c8Z (m : Nat) (kn : St → Option (Ex × St)) (L x : List Lf) : lpB Tryz.prog (d8y N) (d8A N).h 0 50 30 b3H [3] [2] [] (m + 100) kn L x = b3G N L x (fun y => kn (a0p b3H (mx b3H [3] L y))) (fun p => some (.ret, ⟨[(2, .c (.i .i64 p))], []⟩)) (fun _ => some ((.exit 1), ⟨[], []⟩)) := by kernel_rfl
theorem d8B (L : List Lf) (m : Nat) (x : List Lf) : b7d N L (m + 1) x = b3G N L x (b7d N L m) (fun p => some (.inl p)) (fun p => some (.inr p)) := by kernel_rfl
def d8C : Sg Tryz.prog 0 50 :=
 (d8A N).lp (e23 N) N a0e (b7b N) (fun m kn L x => (c8Z N m kn L x).trans (c6G N L x _ _ _)) (fun L m x => (d8B N L m x).trans (c6G N L x (b7d N L m) (fun p => some (.inl p)) (fun p => some (.inr p)))) fun L x hx => (a4i a1f) x hx
def d8D (v0 : LB) (v1 v2 v3 v4 v5 v6 : Int) (v8 : LD) (k0 : Int → Option R) : Option R :=
 bnd (c6y N v0) fun y0 =>
 bif y0.isSome then
  bif (!(y0.getD default)) then
   k0 8
  else
   bnd (a9x N v1 1 5) fun y1 =>
   bif y1 then
    k0 7
   else
    bnd (b3F N v2 v3 v4 v5 v6) fun y2 =>
    bif y2 then
     k0 9
    else
     bif (decide ((v8.length : Int) > 20)) then
      k0 3
     else
      bnd (c3W N v8 (v8.length : Int) v8 0) fun y3 =>
      bif (a04 y3) then
       k0 (a0P y3)
      else
       bif (a0r y3).isSome then
        k0 0
       else
        none
 else
  none
def d8E (v0 : LB) (v1 v2 v3 v4 v5 v6 : Int) (v8 : LD) : Option (Int) := d8D N v0 v1 v2 v3 v4 v5 v6 v8 (fun p => some p)
theorem e24 (v0 : LB) (v1 v2 v3 v4 v5 v6 : Int) (v8 : LD) (k0 : Int → Option R) : d8D N v0 v1 v2 v3 v4 v5 v6 v8 k0 = (d8E N v0 v1 v2 v3 v4 v5 v6 v8).bind k0 := by
 unfold d8E d8D
 repeat' (first | with_reducible apply a0k | (with_reducible apply a0y; intro _) | rfl)
def f2n (L : List Lf) (k0 : Int → Option R) : Option R := d8D N (ls L 0) (li L 1) (li L 2) (li L 3) (li L 4) (li L 5) (li L 6) (ll L 8) k0
def d8F : Sh := { tmps := [(0, .g (.s :: rI 6 ([.sl 9])))], mem := [] }
def f2o (L : List Lf) : List (Bool × Res) := bnd (f2n N L (fun p => some p)) fun q => [(q.isSome, ([.c (.i .i64 (q.getD default))], []))]
theorem e8d (L : List Lf) : bd Tryz.prog (d8y N) (d8C N).h 50 d8F L = f2n N L (fun p => some ([.c (.i .i64 p)], [])) := by kernel_rfl
theorem f2p : a0V Tryz.prog 50 d8F (f2o N) :=
 (d8C N).fn a0e (b7b N) fun L x hx => ((e8d N L).trans ((e24 N ..).trans (a1f x hx)))
def e25 : a0f := ext 50 (a2n d8F (f2o N)) (d8y N)
theorem c3X : a0b Tryz.prog (e25 N) := a0V.to (f2p N) (b7b N)
def f2q : List (Nat × List Nat) := [(0, [0]), (1, [0]), (2, []), (3, [0]), (4, [0, 3]), (5, [13, 12, 11, 3]), (6, [11, 13, 3, 12]), (7, [5, 3, 13, 12, 11]), (8, [6, 3, 5, 13, 12, 11]), (9, [6]), (10, [3, 5, 13, 12, 11]), (11, []), (12, [3, 5, 13, 12, 11]), (13, [13, 12, 11, 3]), (14, [])]
def f2r : a0M := [(15, [3, 11, 12, 13], [10], [])]
def d8G (N : Nat) : Sg Tryz.prog 0 25 := .start f2r f2q
def b0r (w1 : LD) (w2 : Int) (w3 : Int) (w4 : (List (D × D))) (kr : Int → (List (D × D)) → Option R) (k0 : Int → Option R) (k1 : Unit → Option R) : Option R :=
 bif (decide (w3 < w2)) then
  bif (inB w3 w1.length) then
   bnd (d8E N ((w1.getD w3.toNat (.i 0)).cell 0).toS ((w1.getD w3.toNat (.i 0)).cell 1).toI ((w1.getD w3.toNat (.i 0)).cell 2).toI ((w1.getD w3.toNat (.i 0)).cell 3).toI ((w1.getD w3.toNat (.i 0)).cell 4).toI ((w1.getD w3.toNat (.i 0)).cell 5).toI ((w1.getD w3.toNat (.i 0)).cell 6).toI ((w1.getD w3.toNat (.i 0)).cell 7).items) fun y0 =>
   bif y0.isSome then
    bif ((y0.getD default) != 0) then
     k0 (y0.getD default)
    else
     bnd ((b0F Tryz.prog 9 (.s ((w1.getD w3.toNat (.i 0)).cell 0).toS) w4).getD (.b false)).toB fun y1 =>
     bif y1 then
      k0 5
     else
      bnd (e0f Tryz.prog 9 (.s ((w1.getD w3.toNat (.i 0)).cell 0).toS) (.b true) w4) fun y2 =>
      kr (IntKind.wrap .i64 (w3 + 1)) y2
   else
    none
  else
   none
 else
  k1 ()
def b7e (N : Nat) {R : Type} (w1 : LD) (w2 : Int) : Nat → Int → (List (D × D)) → (Int → Option R) → (Unit → Option R) → Option R
 | 0, _, _, _, _ => none
 | m + 1, w3, w4, k0, k1 => b0r N w1 w2 w3 w4 (fun w3 w4 => b7e N w1 w2 m w3 w4 k0 k1) k0 k1
def c3Y (w1 : LD) (w2 : Int) (w3 : Int) (w4 : (List (D × D))) : Option (Sum (Int) (Unit)) := b7e N (R := (Sum (Int) (Unit))) w1 w2 N w3 w4 (fun p => some (.inl p)) (fun p => some (.inr p))
def b3I (L x : List Lf) (kr : List Lf → Option R) (k0 : Int → Option R) (k1 : Unit → Option R) : Option R := b0r N (ll L 1) (li L 2) (li x 0) (lm x 1) (fun w3 w4 => kr [.i w3, .m w4]) k0 k1
theorem c6H (L x : List Lf) (kr : List Lf → Option R) (k0 : Int → Option R) (k1 : Unit → Option R) : b3I N L x kr k0 k1 = (b3I N L x (fun y => some (.inl y)) (fun p => some (.inr (.inl p))) (fun p => some (.inr (.inr p)))).bind (a1m kr (a1m k0 k1)) := by
 unfold b3I b0r
 repeat' (first | with_reducible apply a0k | (with_reducible apply a0y; intro _) | rfl)
def b7f (L : List Lf) (m : Nat) (x : List Lf) : Option (Sum (Int) (Unit)) := b7e N (R := (Sum (Int) (Unit))) (ll L 1) (li L 2) m (li x 0) (lm x 1) (fun p => some (.inl p)) (fun p => some (.inr p))
def b3J : Sh := { tmps := [(3, .c (.m 10)), (11, .c (.sl 40)), (12, .c (.i .i64)), (13, .c (.i .i64))], mem := [(10, .map 9 4)] }
def e26 (L : List Lf) : List (Bool × (Ex × St)) := bnd (b7f N L N (pk b3J [3, 4] L)) fun q => [((a04 q), (.ret, ⟨[(2, .c (.i .i64 (a0P q)))], []⟩)), ((a0r q).isSome, ((.exit 0), ⟨[], []⟩))]
theorem c80 (m : Nat) (kn : St → Option (Ex × St)) (L x : List Lf) : lpB Tryz.prog (e25 N) (d8G N).h 0 25 15 b3J [3, 4] [2] [] (m + 100) kn L x = b3I N L x (fun y => kn (a0p b3J (mx b3J [3, 4] L y))) (fun p => some (.ret, ⟨[(2, .c (.i .i64 p))], []⟩)) (fun _ => some ((.exit 0), ⟨[], []⟩)) := by kernel_rfl
theorem d8H (L : List Lf) (m : Nat) (x : List Lf) : b7f N L (m + 1) x = b3I N L x (b7f N L m) (fun p => some (.inl p)) (fun p => some (.inr p)) := by kernel_rfl
def d8I : Sg Tryz.prog 0 25 :=
 (d8G N).lp (e26 N) N a0e (c3X N) (fun m kn L x => (c80 N m kn L x).trans (c6H N L x _ _ _)) (fun L m x => (d8H N L m x).trans (c6H N L x (b7f N L m) (fun p => some (.inl p)) (fun p => some (.inr p)))) fun L x hx => (a4i a1f) x hx
def d3F (v1 : LD) (k0 : Int → Option R) : Option R :=
 bif (decide ((v1.length : Int) > 5000)) then
  k0 3
 else
  bnd (c3Y N v1 (v1.length : Int) 0 []) fun y0 =>
  bif (a04 y0) then
   k0 (a0P y0)
  else
   bif (a0r y0).isSome then
    k0 0
   else
    none
def d8J (v1 : LD) : Option (Int) := d3F N v1 (fun p => some p)
theorem e27 (v1 : LD) (k0 : Int → Option R) : d3F N v1 k0 = (d8J N v1).bind k0 := by
 unfold d8J d3F
 repeat' (first | with_reducible apply a0k | (with_reducible apply a0y; intro _) | rfl)
def d8K : Sh := { tmps := [(0, .c (.sl 40))], mem := [] }
def f2s (L : List Lf) : List (Bool × Res) := bnd (d3F N (ll L 1) (fun p => some p)) fun q => [(q.isSome, ([.c (.i .i64 (q.getD default))], []))]
theorem e8e (L : List Lf) : bd Tryz.prog (e25 N) (d8I N).h 25 d8K L = d3F N (ll L 1) (fun p => some ([.c (.i .i64 p)], [])) := by kernel_rfl
theorem f2t : a0V Tryz.prog 25 d8K (f2s N) :=
 (d8I N).fn a0e (c3X N) fun L x hx => ((e8e N L).trans ((e27 N ..).trans (a1f x hx)))
def f2u : a0f := ext 25 (a2n d8K (f2s N)) (e25 N)
theorem d1D : a0b Tryz.prog (f2u N) := a0V.to (f2t N) (c3X N)
abbrev a1c : Type := Bool → LD → Option (Bool × LD)
def d1E : Sh := { tmps := [(0, .c (.sl 40))], mem := [] }
def f2v (N : Nat) (a0l : a1c) (L : List Lf) : List (Bool × Res) := bnd (a0l (lb L 0) (ll L 1)) fun q => [(q.isSome, ([.c (.sl 40 (q.getD default).1 (q.getD default).2)], []))]
def b1T (a0l : a1c) : a0f := ext 70 (a2n d1E ((f2v N) a0l)) (f2u N)
def f2w : List (Nat × List Nat) := [(0, [0]), (1, [0]), (2, [0]), (3, [0]), (4, [3, 4]), (5, [3, 4, 5]), (6, [4, 3, 5]), (8, [5, 4, 3]), (7, [5, 3, 4]), (9, [5])]
def f2x : a0M := [(15, [3, 4, 5], [5], [5]), (19, [3, 4, 5], [5], []), (24023, [3, 4, 5, 72], [5], [])]
def d8L (a0l : a1c) (a2R : a0b Tryz.prog ((b1T N) a0l)) : Sg Tryz.prog 0 70 := .start f2x f2w
def b0s (N : Nat) (a0l : a1c) (w1 w3 : LD) (k0 : Bool → Option R) : Option R :=
 bif ((w3.length : Int) == 0) then
  k0 true
 else
  bif (decide ((w1.length : Int) > 0)) then
   bif (inB 0 w1.length) then
    bif (inB 0 w3.length) then
     bnd (decide (((w1.getD 0 (.i 0)).cell 2).toI < ((w3.getD 0 (.i 0)).cell 2).toI)) fun y0 =>
     bif y0 then
      k0 true
     else
      bif (inB 0 w1.length) then
       bif (inB 0 w3.length) then
        bnd (((w1.getD 0 (.i 0)).cell 2).toI == ((w3.getD 0 (.i 0)).cell 2).toI) fun y1 =>
        bif y1 then
         bif (inB 0 w1.length) then
          bif (inB 0 w3.length) then
           bnd (Op.bytesLess ((w1.getD 0 (.i 0)).cell 0).toS ((w3.getD 0 (.i 0)).cell 0).toS) fun y2 =>
           k0 y2
          else
           none
         else
          none
        else
         k0 false
       else
        none
      else
       none
    else
     none
   else
    none
  else
   k0 false
def b3K (a0l : a1c) (w1 w3 : LD) : Option (Bool) := b0s N a0l w1 w3 (fun p => some p)
theorem c81 (a0l : a1c) (w1 w3 : LD) (k0 : Bool → Option R) : b0s N a0l w1 w3 k0 = (b3K N a0l w1 w3).bind k0 := by
 unfold b3K b0s
 repeat' (first | with_reducible apply a0k | (with_reducible apply a0y; intro _) | rfl)
def c6I : Sh := { tmps := [(3, .c (.sl 40)), (4, .c (.sl 40)), (5, .c (.o 5))], mem := [(5, .row 40 true)] }
def c1u (L : List Lf) (p : Bool) : Ex × St := (.normal, mg (a0p c6I L) [3, 4, 5, 72] [(72, .c (.b p))] [5] [])
def e28 (a0l : a1c) (L : List Lf) : List (Bool × (Ex × St)) := bnd (b0s N a0l (ll L 1) (ll L 3) (fun p => some p)) fun q => [(q.isSome, c1u L (q.getD default))]
theorem d3G (a0l : a1c) (a2R : a0b Tryz.prog ((b1T N) a0l)) (L : List Lf) : pc Tryz.prog ((b1T N) a0l) ((d8L N) a0l a2R).h 0 100 70 19 c6I L [3, 4, 5, 72] [5] = b0s N a0l (ll L 1) (ll L 3) (fun p => some (c1u L p)) := by kernel_rfl
def d8M (a0l : a1c) (a2R : a0b Tryz.prog ((b1T N) a0l)) : Sg Tryz.prog 0 70 :=
 ((d8L N) a0l a2R).cut ((e28 N) a0l) a0e a2R fun L x hx => (d3G N a0l a2R L).trans ((c81 N a0l ..).trans (a1f x hx))
def a4A (N : Nat) (a0l : a1c) (w1 w3 : LD) (w4 : Bool) (w6 : LD) (k0 : LD × LD → Option R) (k1 : LD × LD → Option R) : Option R :=
 bif w4 then
  bif (inB 0 w1.length) then
   bif (decide ((w6.length + 1) * 88 ≤ b1h) && decide ((w6.length + 1) ≤ a0U)) then
    bnd ((w6 ++ [(.a [(.s ((w1.getD 0 (.i 0)).cell 0).toS), (.i ((w1.getD 0 (.i 0)).cell 1).toI), (.i ((w1.getD 0 (.i 0)).cell 2).toI), (.i ((w1.getD 0 (.i 0)).cell 3).toI), (.i ((w1.getD 0 (.i 0)).cell 4).toI), (.i ((w1.getD 0 (.i 0)).cell 5).toI), (.i ((w1.getD 0 (.i 0)).cell 6).toI), (.l ((w1.getD 0 (.i 0)).cell 7).isNil ((w1.getD 0 (.i 0)).cell 7).items)])]) : List D) fun y0 =>
    bif ((decide (1 ≤ (w1.length : Int))) && (decide ((w1.length : Int) ≤ (w1.length : Int)))) then
     k0 (((w1.take (w1.length : Int).toNat).drop 1), y0)
    else
     none
   else
    none
  else
   none
 else
  bif (inB 0 w3.length) then
   bif (decide ((w6.length + 1) * 88 ≤ b1h) && decide ((w6.length + 1) ≤ a0U)) then
    bnd ((w6 ++ [(.a [(.s ((w3.getD 0 (.i 0)).cell 0).toS), (.i ((w3.getD 0 (.i 0)).cell 1).toI), (.i ((w3.getD 0 (.i 0)).cell 2).toI), (.i ((w3.getD 0 (.i 0)).cell 3).toI), (.i ((w3.getD 0 (.i 0)).cell 4).toI), (.i ((w3.getD 0 (.i 0)).cell 5).toI), (.i ((w3.getD 0 (.i 0)).cell 6).toI), (.l ((w3.getD 0 (.i 0)).cell 7).isNil ((w3.getD 0 (.i 0)).cell 7).items)])]) : List D) fun y1 =>
    bif ((decide (1 ≤ (w3.length : Int))) && (decide ((w3.length : Int) ≤ (w3.length : Int)))) then
     k1 (((w3.take (w3.length : Int).toNat).drop 1), y1)
    else
     none
   else
    none
  else
   none
def a3H (a0l : a1c) (w1 w3 : LD) (w4 : Bool) (w6 : LD) : Option (Sum (LD × LD) (LD × LD)) := a4A N a0l w1 w3 w4 w6 (fun p => some (.inl p)) (fun p => some (.inr p))
theorem b94 (a0l : a1c) (w1 w3 : LD) (w4 : Bool) (w6 : LD) (k0 : LD × LD → Option R) (k1 : LD × LD → Option R) : a4A N a0l w1 w3 w4 w6 k0 k1 = (a3H N a0l w1 w3 w4 w6).bind (a1m k0 k1) := by
 unfold a3H a4A
 repeat' (first | with_reducible apply a0k | (with_reducible apply a0y; intro _) | rfl)
def b9f (a0l : a1c) (L : List Lf) (k0 : LD × LD → Option R) (k1 : LD × LD → Option R) : Option R := a4A N a0l (ll L 1) (ll L 3) (lb L 4) (ll L 6) k0 k1
def c6J : Sh := { tmps := [(3, .c (.sl 40)), (4, .c (.sl 40)), (5, .c (.o 5)), (72, .c (.b))], mem := [(5, .row 40 true)] }
def b3L (L : List Lf) (p : LD × LD) : Ex × St := (.normal, ⟨[(3, .c (.sl 40 (lb L 0) p.1)), (4, .c (.sl 40 (lb L 2) (ll L 3))), (5, .c (.o 78))], [(78, .row 40 true false p.2)]⟩)
def b3M (L : List Lf) (p : LD × LD) : Ex × St := (.normal, ⟨[(3, .c (.sl 40 (lb L 0) (ll L 1))), (4, .c (.sl 40 (lb L 2) p.1)), (5, .c (.o 86))], [(86, .row 40 true false p.2)]⟩)
def c82 (a0l : a1c) (L : List Lf) : List (Bool × (Ex × St)) := bnd (b9f N a0l L (fun p => some (.inl p)) (fun p => some (.inr p))) fun q => [((a04 q), b3L L (a0P q)), ((a0r q).isSome, b3M L ((a0r q).getD default))]
theorem c3Z (a0l : a1c) (a2R : a0b Tryz.prog ((b1T N) a0l)) (L : List Lf) : pc Tryz.prog ((b1T N) a0l) ((d8M N) a0l a2R).h 0 100 70 24023 c6J L [3, 4, 5] [78, 86] = b9f N a0l L (fun p => some (b3L L p)) (fun p => some (b3M L p)) := by kernel_rfl
def d8N (a0l : a1c) (a2R : a0b Tryz.prog ((b1T N) a0l)) : Sg Tryz.prog 0 70 :=
 ((d8M N) a0l a2R).cut ((c82 N) a0l) a0e a2R fun L x hx => (c3Z N a0l a2R L).trans ((b94 N a0l ..).trans ((a4i a1f) x hx))
def b3N (a0l : a1c) (w1 w3 : LD) (w4 : Bool) (w5 : LD) (kr : LD → LD → Bool → LD → Option R) (k0 : Bool × LD → Option R) : Option R :=
 bnd (bif (decide ((w1.length : Int) > 0)) then true else (decide ((w3.length : Int) > 0))) fun y0 =>
 bif y0 then
  bnd (b3K N a0l w1 w3) fun y1 =>
  bif y1.isSome then
   bnd (a3H N a0l w1 w3 (y1.getD default) w5) fun y2 =>
   bif (a04 y2) then
    kr (a0P y2).1 w3 false (a0P y2).2
   else
    bif (a0r y2).isSome then
     kr w1 ((a0r y2).getD default).1 false ((a0r y2).getD default).2
    else
     none
  else
   none
 else
  k0 (w4, w5)
def b7g (N : Nat) (a0l : a1c) {R : Type} : Nat → LD → LD → Bool → LD → (Bool × LD → Option R) → Option R
 | 0, _, _, _, _, _ => none
 | m + 1, w1, w3, w4, w5, k0 => b3N N a0l w1 w3 w4 w5 (fun w1 w3 w4 w5 => b7g N a0l m w1 w3 w4 w5 k0) k0
def c30 (a0l : a1c) (w1 w3 : LD) (w4 : Bool) (w5 : LD) : Option (Bool × LD) := b7g N a0l (R := (Bool × LD)) N w1 w3 w4 w5 (fun p => some p)
def b3O (a0l : a1c) (L x : List Lf) (kr : List Lf → Option R) (k0 : Bool × LD → Option R) : Option R := b3N N a0l (ll x 0) (ll x 1) (lb x 2) (ll x 3) (fun w1 w3 w4 w5 => kr [.l w1, .l w3, .b w4, .l w5]) k0
theorem c6K (a0l : a1c) (L x : List Lf) (kr : List Lf → Option R) (k0 : Bool × LD → Option R) : b3O N a0l L x kr k0 = (b3O N a0l L x (fun y => some (.inl y)) (fun p => some (.inr p))).bind (a1m kr k0) := by
 unfold b3O b3N
 repeat' (first | with_reducible apply a0k | (with_reducible apply a0y; intro _) | rfl)
def b7h (a0l : a1c) (L : List Lf) (m : Nat) (x : List Lf) : Option (Bool × LD) := b7g N a0l (R := (Bool × LD)) m (ll x 0) (ll x 1) (lb x 2) (ll x 3) (fun p => some p)
def b3P : Sh := { tmps := [(3, .c (.sl 40)), (4, .c (.sl 40)), (5, .c (.o 5))], mem := [(5, .row 40 true)] }
def e29 (a0l : a1c) (L : List Lf) : List (Bool × (Ex × St)) := bnd (b7h N a0l L N (pk b3P [1, 3, 4, 5] L)) fun q => [(q.isSome, ((.exit 0), ⟨[(5, .c (.o 5))], [(5, .row 40 true (q.getD default).1 (q.getD default).2)]⟩))]
theorem c83 (a0l : a1c) (a2R : a0b Tryz.prog ((b1T N) a0l)) (m : Nat) (kn : St → Option (Ex × St)) (L x : List Lf) : lpB Tryz.prog ((b1T N) a0l) ((d8N N) a0l a2R).h 0 70 15 b3P [1, 3, 4, 5] [2, 5] [5] (m + 100) kn L x = b3O N a0l L x (fun y => kn (a0p b3P (mx b3P [1, 3, 4, 5] L y))) (fun p => some ((.exit 0), ⟨[(5, .c (.o 5))], [(5, .row 40 true p.1 p.2)]⟩)) := by kernel_rfl
theorem d8O (a0l : a1c) (L : List Lf) (m : Nat) (x : List Lf) : b7h N a0l L (m + 1) x = b3O N a0l L x (b7h N a0l L m) some := by kernel_rfl
def d8P (a0l : a1c) (a2R : a0b Tryz.prog ((b1T N) a0l)) : Sg Tryz.prog 0 70 :=
 ((d8N N) a0l a2R).lp ((e29 N) a0l) N a0e a2R (fun m kn L x => (c83 N a0l a2R m kn L x).trans (c6K N a0l L x _ _)) (fun L m x => (d8O N a0l L m x).trans (c6K N a0l L x (b7h N a0l L m) some)) fun L x hx => a1f x hx
def d8Q (a0l : a1c) (v0 : Bool) (v1 : LD) (k0 : Bool × LD → Option R) : Option R :=
 bif (decide ((v1.length : Int) < 2)) then
  bif (decide ((0 + v1.length) * 88 ≤ b1h) && decide ((0 + v1.length) ≤ a0U)) then
   k0 ((v1.isEmpty && false), v1)
  else
   none
 else
  bif ((decide (0 ≤ (IntKind.wrap .i64 ((v1.length : Int).tdiv 2)))) && (decide ((IntKind.wrap .i64 ((v1.length : Int).tdiv 2)) ≤ (v1.length : Int)))) then
   bnd (((v1.take (IntKind.wrap .i64 ((v1.length : Int).tdiv 2)).toNat).drop 0) : List D) fun y0 =>
   bnd (a0l v0 y0) fun y1 =>
   bif y1.isSome then
    bif (((decide (0 ≤ (IntKind.wrap .i64 ((v1.length : Int).tdiv 2)))) && (decide ((IntKind.wrap .i64 ((v1.length : Int).tdiv 2)) ≤ (v1.length : Int)))) && (decide ((v1.length : Int) ≤ (v1.length : Int)))) then
     bnd (((v1.take (v1.length : Int).toNat).drop (IntKind.wrap .i64 ((v1.length : Int).tdiv 2)).toNat) : List D) fun y2 =>
     bnd (a0l v0 y2) fun y3 =>
     bif y3.isSome then
      bnd (c30 N a0l (y1.getD default).2 (y3.getD default).2 true []) fun y4 =>
      bif y4.isSome then
       k0 (y4.getD default)
      else
       none
     else
      none
    else
     none
   else
    none
  else
   none
def d3H (a0l : a1c) (v0 : Bool) (v1 : LD) : Option (Bool × LD) := d8Q N a0l v0 v1 (fun p => some p)
theorem e3a (a0l : a1c) (v0 : Bool) (v1 : LD) (k0 : Bool × LD → Option R) : d8Q N a0l v0 v1 k0 = (d3H N a0l v0 v1).bind k0 := by
 unfold d3H d8Q
 repeat' (first | with_reducible apply a0k | (with_reducible apply a0y; intro _) | rfl)
theorem e8f (a0l : a1c) (a2R : a0b Tryz.prog ((b1T N) a0l)) (L : List Lf) : bd Tryz.prog ((b1T N) a0l) ((d8P N) a0l a2R).h 70 d1E L = d8Q N a0l (lb L 0) (ll L 1) (fun p => some ([.c (.sl 40 p.1 p.2)], [])) := by kernel_rfl
theorem e8g (a0l : a1c) (a2R : a0b Tryz.prog ((b1T N) a0l)) (L : List Lf) (x : Res) (hx : a5f ((f2v N) (fun v0 v1 => d3H N a0l v0 v1) L) some = some x) : a1I Tryz.prog 70 (a5P (a0p d1E L).tmps) (a0p d1E L).mem x :=
 a3p (n := 200) a0e a2R ((d8P N) a0l a2R).ok rfl ((e8f N a0l a2R L).trans ((e3a N a0l ..).trans (a1f x hx)))
def c31 (N : Nat) : Nat → a1c
 | 0 => fun _ _ => none
 | m + 1 => fun v0 v1 => d3H N (c31 N m) v0 v1
theorem d8R (N : Nat) : ∀ m, a0b Tryz.prog ((b1T N) (c31 N m))
 | 0 => a0Y (d1D N) (AM.enters_of (by kernel_rfl)) (a1h fun L x hx => by
  have h : (none : Option Res) = some x := hx
  cases h)
 | m + 1 => a0Y (d1D N) (AM.enters_of (by kernel_rfl)) (a1h fun L x hx => e8g N (c31 N m) (d8R N m) L x hx)
def f2y : a0f := (b1T N) (c31 N N)
theorem d1F : a0b Tryz.prog (f2y N) := d8R N N
abbrev a0N : Type := Int → Int → Int → Int → LB → Bool → LD → LB → Int → Int → Int → Int → Int → Int → Bool → LD → Option (Bool)
def d1G : Sh := { tmps := [(0, .g (.i .i64 :: [.i .i64, .i .i64, .i .i64, .s, .sl 24])), (1, .g (.s :: rI 6 ([.sl 9])))], mem := [] }
def f2z (N : Nat) (a0i : a0N) (L : List Lf) : List (Bool × Res) := bnd (a0i (li L 0) (li L 1) (li L 2) (li L 3) (ls L 4) (lb L 5) (ll L 6) (ls L 7) (li L 8) (li L 9) (li L 10) (li L 11) (li L 12) (li L 13) (lb L 14) (ll L 15)) fun q => [(q.isSome, ([.c (.b (q.getD default))], []))]
def a9B (a0i : a0N) : a0f := ext 51 (a2n d1G ((f2z N) a0i)) (f2y N)
def f2A : List (Nat × List Nat) := [(0, [0, 1]), (1, [2, 1]), (2, [1, 2, 5]), (3, [9, 2, 5]), (5, [9, 5, 2]), (7, [9, 2, 5]), (9, [9, 2, 5]), (11, [9, 2, 5]), (13, [9, 2, 5]), (14, [2]), (12, [2]), (10, [2]), (8, [2]), (6, [5]), (4, [2]), (15, [5])]
def f2B : a0M := []
def d8S (a0i : a0N) (a1j : a0b Tryz.prog ((a9B N) a0i)) : Sg Tryz.prog 0 85 := .start f2B f2A
def d8T (N : Nat) (a0i : a0N) (v2 v3 v4 v5 v6 v9 : Int) (k0 : Int → R) : R :=
 bif (v9 == 1) then
  k0 v2
 else
  bif (v9 == 2) then
   k0 (IntKind.wrap .i64 (v2.tdiv 86400))
  else
   bif (v9 == 3) then
    k0 v3
   else
    bif (v9 == 4) then
     k0 v4
    else
     bif (v9 == 5) then
      k0 v5
     else
      bif (v9 == 6) then
       k0 v6
      else
       k0 ((IntKind.wrap .i64 (v2.tdiv 86400)).tmod 7)
def d3I (a0i : a0N) (v2 v3 v4 v5 v6 v9 : Int) : Int := d8T N a0i v2 v3 v4 v5 v6 v9 (fun p => p)
theorem e8h (a0i : a0N) (v2 v3 v4 v5 v6 v9 : Int) (k0 : Int → R) : d8T N a0i v2 v3 v4 v5 v6 v9 k0 = k0 (d3I N a0i v2 v3 v4 v5 v6 v9) := by
 unfold d3I d8T
 repeat' (first | rfl | apply a0q | (apply a0K; intro _))
def f2C (a0i : a0N) (L : List Lf) (k0 : Int → R) : R := d8T N a0i (li L 2) (li L 3) (li L 4) (li L 5) (li L 6) (li L 9) k0
def d8U : Sh := { tmps := [(0, .g (.s :: rI 6 ([.sl 9]))), (1, .c (.i .i64))], mem := [] }
def f2D (a0i : a0N) (L : List Lf) : List (Bool × Res) := bnd (f2C N a0i L (fun p => p)) fun q => [(true, ([.c (.i .i64 q)], []))]
theorem e8i (a0i : a0N) (a1j : a0b Tryz.prog ((a9B N) a0i)) (L : List Lf) : bd Tryz.prog ((a9B N) a0i) ((d8S N) a0i a1j).h 85 d8U L = f2C N a0i L (fun p => some ([.c (.i .i64 p)], [])) := by kernel_rfl
theorem f2E (a0i : a0N) (a1j : a0b Tryz.prog ((a9B N) a0i)) : a0V Tryz.prog 85 d8U ((f2D N) a0i) :=
 ((d8S N) a0i a1j).fn a0e a1j fun L x hx => ((e8i N a0i a1j L).trans ((e8h N a0i ..).trans (a2f _ _ hx)))
def d8V (a0i : a0N) : a0f := ext 85 (a2n d8U ((f2D N) a0i)) ((a9B N) a0i)
theorem b7i (a0i : a0N) (a1j : a0b Tryz.prog ((a9B N) a0i)) : a0b Tryz.prog ((d8V N) a0i) := a0V.to ((f2E N) a0i a1j) a1j
def f2F : List (Nat × List Nat) := [(0, [0, 1]), (1, [2, 3]), (2, [13, 2, 3]), (10, [13, 2, 3]), (18, [13, 2, 3]), (20, [13, 3, 2]), (22, [13, 3, 2]), (30, [13, 3, 2]), (31, [3, 2]), (23, [3, 2]), (24, [62, 61, 60, 2]), (25, [60, 62, 2, 61]), (26, [10, 2, 62, 61, 60]), (27, []), (28, [62, 61, 60, 2]), (29, []), (21, [3, 2]), (19, [2, 3]), (11, [2, 3]), (12, [33, 32, 31, 3]), (13, [31, 33, 3, 32]), (14, [8, 3, 33, 32, 31]), (15, []), (16, [33, 32, 31, 3]), (17, []), (3, [2, 3]), (4, [19, 18, 17, 3]), (5, [17, 19, 3, 18]), (6, [6, 3, 19, 18, 17]), (7, []), (8, [19, 18, 17, 3]), (9, []), (32, [3, 2]), (33, [2, 11])]
def f2G : a0M := [(12, [3, 17, 18, 19], [3], []), (36, [3, 31, 32, 33], [3], []), (72, [2, 60, 61, 62], [2], [])]
def d8W (a0i : a0N) (a1j : a0b Tryz.prog ((a9B N) a0i)) : Sg Tryz.prog 0 51 := .start f2G f2F
def b0t (N : Nat) (a0i : a0N) (w1 : LD) (w2 : Int) (w4 : LB) (w5 w6 w7 w8 w9 w10 : Int) (w11 : Bool) (w12 : LD) (w3 : Int) (kr : Int → Option R) (k0 : Unit → Option R) (k1 : Unit → Option R) : Option R :=
 bif (decide (w3 < w2)) then
  bif (inB w3 w1.length) then
   bnd (a0i ((w1.getD w3.toNat (.i 0)).cell 0).toI ((w1.getD w3.toNat (.i 0)).cell 1).toI ((w1.getD w3.toNat (.i 0)).cell 2).toI ((w1.getD w3.toNat (.i 0)).cell 3).toI ((w1.getD w3.toNat (.i 0)).cell 4).toS ((w1.getD w3.toNat (.i 0)).cell 5).isNil ((w1.getD w3.toNat (.i 0)).cell 5).items w4 w5 w6 w7 w8 w9 w10 w11 w12) fun y0 =>
   bif y0.isSome then
    bif (!(y0.getD default)) then
     k0 ()
    else
     kr (IntKind.wrap .i64 (w3 + 1))
   else
    none
  else
   none
 else
  k1 ()
def b7j (N : Nat) (a0i : a0N) {R : Type} (w1 : LD) (w2 : Int) (w4 : LB) (w5 w6 w7 w8 w9 w10 : Int) (w11 : Bool) (w12 : LD) : Nat → Int → (Unit → Option R) → (Unit → Option R) → Option R
 | 0, _, _, _ => none
 | m + 1, w3, k0, k1 => b0t N a0i w1 w2 w4 w5 w6 w7 w8 w9 w10 w11 w12 w3 (fun w3 => b7j N a0i w1 w2 w4 w5 w6 w7 w8 w9 w10 w11 w12 m w3 k0 k1) k0 k1
def b7k (a0i : a0N) (w1 : LD) (w2 : Int) (w4 : LB) (w5 w6 w7 w8 w9 w10 : Int) (w11 : Bool) (w12 : LD) (w3 : Int) : Option (Sum (Unit) (Unit)) := b7j N a0i (R := (Sum (Unit) (Unit))) w1 w2 w4 w5 w6 w7 w8 w9 w10 w11 w12 N w3 (fun p => some (.inl p)) (fun p => some (.inr p))
def b3Q (a0i : a0N) (L x : List Lf) (kr : List Lf → Option R) (k0 : Unit → Option R) (k1 : Unit → Option R) : Option R := b0t N a0i (ll L 1) (li L 2) (ls L 4) (li L 5) (li L 6) (li L 7) (li L 8) (li L 9) (li L 10) (lb L 11) (ll L 12) (li x 0) (fun w3 => kr [.i w3]) k0 k1
theorem c6L (a0i : a0N) (L x : List Lf) (kr : List Lf → Option R) (k0 : Unit → Option R) (k1 : Unit → Option R) : b3Q N a0i L x kr k0 k1 = (b3Q N a0i L x (fun y => some (.inl y)) (fun p => some (.inr (.inl p))) (fun p => some (.inr (.inr p)))).bind (a1m kr (a1m k0 k1)) := by
 unfold b3Q b0t
 repeat' (first | with_reducible apply a0k | (with_reducible apply a0y; intro _) | rfl)
def b7l (a0i : a0N) (L : List Lf) (m : Nat) (x : List Lf) : Option (Sum (Unit) (Unit)) := b7j N a0i (R := (Sum (Unit) (Unit))) (ll L 1) (li L 2) (ls L 4) (li L 5) (li L 6) (li L 7) (li L 8) (li L 9) (li L 10) (lb L 11) (ll L 12) m (li x 0) (fun p => some (.inl p)) (fun p => some (.inr p))
def a6j : Sh := { tmps := [(3, .c (.p 3 0)), (17, .c (.sl 24)), (18, .c (.i .i64)), (19, .c (.i .i64))], mem := [(3, .box (.s :: rI 6 ([.sl 9])))] }
def c1v (L : List Lf) (_ : Unit) : Ex × St := (.ret, mg (a0p a6j L) [4] [(4, .c (.b false))] [3] [])
def e3b (a0i : a0N) (L : List Lf) : List (Bool × (Ex × St)) := bnd (b7l N a0i L N (pk a6j [3] L)) fun q => [((a04 q), c1v L ()), ((a0r q).isSome, ((.exit 1), mg (a0p a6j L) [3] [] [3] []))]
theorem c84 (a0i : a0N) (a1j : a0b Tryz.prog ((a9B N) a0i)) (m : Nat) (kn : St → Option (Ex × St)) (L x : List Lf) : lpB Tryz.prog ((d8V N) a0i) ((d8W N) a0i a1j).h 0 51 12 a6j [3] [2, 3, 4] [3] (m + 100) kn L x = b3Q N a0i L x (fun y => kn (a0p a6j (mx a6j [3] L y))) (fun _ => some (c1v L ())) (fun _ => some ((.exit 1), mg (a0p a6j L) [3] [] [3] [])) := by kernel_rfl
theorem d8X (a0i : a0N) (L : List Lf) (m : Nat) (x : List Lf) : b7l N a0i L (m + 1) x = b3Q N a0i L x (b7l N a0i L m) (fun p => some (.inl p)) (fun p => some (.inr p)) := by kernel_rfl
def d8Y (a0i : a0N) (a1j : a0b Tryz.prog ((a9B N) a0i)) : Sg Tryz.prog 0 51 :=
 ((d8W N) a0i a1j).lp ((e3b N) a0i) N a0e ((b7i N) a0i a1j) (fun m kn L x => (c84 N a0i a1j m kn L x).trans (c6L N a0i L x _ _ _)) (fun L m x => (d8X N a0i L m x).trans (c6L N a0i L x (b7l N a0i L m) (fun p => some (.inl p)) (fun p => some (.inr p)))) fun L x hx => (a4i a1f) x hx
def b0u (N : Nat) (a0i : a0N) (w1 : LD) (w2 : Int) (w4 : LB) (w5 w6 w7 w8 w9 w10 : Int) (w11 : Bool) (w12 : LD) (w3 : Int) (kr : Int → Option R) (k0 : Unit → Option R) (k1 : Unit → Option R) : Option R :=
 bif (decide (w3 < w2)) then
  bif (inB w3 w1.length) then
   bnd (a0i ((w1.getD w3.toNat (.i 0)).cell 0).toI ((w1.getD w3.toNat (.i 0)).cell 1).toI ((w1.getD w3.toNat (.i 0)).cell 2).toI ((w1.getD w3.toNat (.i 0)).cell 3).toI ((w1.getD w3.toNat (.i 0)).cell 4).toS ((w1.getD w3.toNat (.i 0)).cell 5).isNil ((w1.getD w3.toNat (.i 0)).cell 5).items w4 w5 w6 w7 w8 w9 w10 w11 w12) fun y0 =>
   bif y0.isSome then
    bif (y0.getD default) then
     k0 ()
    else
     kr (IntKind.wrap .i64 (w3 + 1))
   else
    none
  else
   none
 else
  k1 ()
def b7m (N : Nat) (a0i : a0N) {R : Type} (w1 : LD) (w2 : Int) (w4 : LB) (w5 w6 w7 w8 w9 w10 : Int) (w11 : Bool) (w12 : LD) : Nat → Int → (Unit → Option R) → (Unit → Option R) → Option R
 | 0, _, _, _ => none
 | m + 1, w3, k0, k1 => b0u N a0i w1 w2 w4 w5 w6 w7 w8 w9 w10 w11 w12 w3 (fun w3 => b7m N a0i w1 w2 w4 w5 w6 w7 w8 w9 w10 w11 w12 m w3 k0 k1) k0 k1
def b7n (a0i : a0N) (w1 : LD) (w2 : Int) (w4 : LB) (w5 w6 w7 w8 w9 w10 : Int) (w11 : Bool) (w12 : LD) (w3 : Int) : Option (Sum (Unit) (Unit)) := b7m N a0i (R := (Sum (Unit) (Unit))) w1 w2 w4 w5 w6 w7 w8 w9 w10 w11 w12 N w3 (fun p => some (.inl p)) (fun p => some (.inr p))
def b3R (a0i : a0N) (L x : List Lf) (kr : List Lf → Option R) (k0 : Unit → Option R) (k1 : Unit → Option R) : Option R := b0u N a0i (ll L 1) (li L 2) (ls L 4) (li L 5) (li L 6) (li L 7) (li L 8) (li L 9) (li L 10) (lb L 11) (ll L 12) (li x 0) (fun w3 => kr [.i w3]) k0 k1
theorem c6M (a0i : a0N) (L x : List Lf) (kr : List Lf → Option R) (k0 : Unit → Option R) (k1 : Unit → Option R) : b3R N a0i L x kr k0 k1 = (b3R N a0i L x (fun y => some (.inl y)) (fun p => some (.inr (.inl p))) (fun p => some (.inr (.inr p)))).bind (a1m kr (a1m k0 k1)) := by
 unfold b3R b0u
 repeat' (first | with_reducible apply a0k | (with_reducible apply a0y; intro _) | rfl)
def b7o (a0i : a0N) (L : List Lf) (m : Nat) (x : List Lf) : Option (Sum (Unit) (Unit)) := b7m N a0i (R := (Sum (Unit) (Unit))) (ll L 1) (li L 2) (ls L 4) (li L 5) (li L 6) (li L 7) (li L 8) (li L 9) (li L 10) (lb L 11) (ll L 12) m (li x 0) (fun p => some (.inl p)) (fun p => some (.inr p))
def a4V : Sh := { tmps := [(3, .c (.p 3 0)), (31, .c (.sl 24)), (32, .c (.i .i64)), (33, .c (.i .i64))], mem := [(3, .box (.s :: rI 6 ([.sl 9])))] }
def e3c (a0i : a0N) (L : List Lf) : List (Bool × (Ex × St)) := bnd (b7o N a0i L N (pk a4V [3] L)) fun q => [((a04 q), (.ret, mg (a0p a4V L) [4] [(4, .c (.b true))] [3] [])), ((a0r q).isSome, ((.exit 3), mg (a0p a4V L) [3] [] [3] []))]
theorem c85 (a0i : a0N) (a1j : a0b Tryz.prog ((a9B N) a0i)) (m : Nat) (kn : St → Option (Ex × St)) (L x : List Lf) : lpB Tryz.prog ((d8V N) a0i) ((d8Y N) a0i a1j).h 0 51 36 a4V [3] [2, 3, 4] [3] (m + 100) kn L x = b3R N a0i L x (fun y => kn (a0p a4V (mx a4V [3] L y))) (fun _ => some (.ret, mg (a0p a4V L) [4] [(4, .c (.b true))] [3] [])) (fun _ => some ((.exit 3), mg (a0p a4V L) [3] [] [3] [])) := by kernel_rfl
theorem d8Z (a0i : a0N) (L : List Lf) (m : Nat) (x : List Lf) : b7o N a0i L (m + 1) x = b3R N a0i L x (b7o N a0i L m) (fun p => some (.inl p)) (fun p => some (.inr p)) := by kernel_rfl
def d80 (a0i : a0N) (a1j : a0b Tryz.prog ((a9B N) a0i)) : Sg Tryz.prog 0 51 :=
 ((d8Y N) a0i a1j).lp ((e3c N) a0i) N a0e ((b7i N) a0i a1j) (fun m kn L x => (c85 N a0i a1j m kn L x).trans (c6M N a0i L x _ _ _)) (fun L m x => (d8Z N a0i L m x).trans (c6M N a0i L x (b7o N a0i L m) (fun p => some (.inl p)) (fun p => some (.inr p)))) fun L x hx => (a4i a1f) x hx
def b0v (N : Nat) (a0i : a0N) (w1 : LD) (w2 : Int) (w8 : LB) (w3 : Int) (kr : Int → Option R) (k0 : Unit → Option R) (k1 : Unit → Option R) : Option R :=
 bif (decide (w3 < w2)) then
  bif (inB w3 w1.length) then
   bif ((w1.getD w3.toNat (.i 0)).toS == w8) then
    k0 ()
   else
    kr (IntKind.wrap .i64 (w3 + 1))
  else
   none
 else
  k1 ()
def b7p (N : Nat) (a0i : a0N) {R : Type} (w1 : LD) (w2 : Int) (w8 : LB) : Nat → Int → (Unit → Option R) → (Unit → Option R) → Option R
 | 0, _, _, _ => none
 | m + 1, w3, k0, k1 => b0v N a0i w1 w2 w8 w3 (fun w3 => b7p N a0i w1 w2 w8 m w3 k0 k1) k0 k1
def b7q (a0i : a0N) (w1 : LD) (w2 : Int) (w8 : LB) (w3 : Int) : Option (Sum (Unit) (Unit)) := b7p N a0i (R := (Sum (Unit) (Unit))) w1 w2 w8 N w3 (fun p => some (.inl p)) (fun p => some (.inr p))
def b3S (a0i : a0N) (L x : List Lf) (kr : List Lf → Option R) (k0 : Unit → Option R) (k1 : Unit → Option R) : Option R := b0v N a0i (ll L 1) (li L 2) (ls L 8) (li x 0) (fun w3 => kr [.i w3]) k0 k1
theorem c6N (a0i : a0N) (L x : List Lf) (kr : List Lf → Option R) (k0 : Unit → Option R) (k1 : Unit → Option R) : b3S N a0i L x kr k0 k1 = (b3S N a0i L x (fun y => some (.inl y)) (fun p => some (.inr (.inl p))) (fun p => some (.inr (.inr p)))).bind (a1m kr (a1m k0 k1)) := by
 unfold b3S b0v
 repeat' (first | with_reducible apply a0k | (with_reducible apply a0y; intro _) | rfl)
def b7r (a0i : a0N) (L : List Lf) (m : Nat) (x : List Lf) : Option (Sum (Unit) (Unit)) := b7p N a0i (R := (Sum (Unit) (Unit))) (ll L 1) (li L 2) (ls L 8) m (li x 0) (fun p => some (.inl p)) (fun p => some (.inr p))
def a4W : Sh := { tmps := [(2, .c (.p 2 0)), (60, .c (.sl 9)), (61, .c (.i .i64)), (62, .c (.i .i64))], mem := [(2, .box (.i .i64 :: [.i .i64, .i .i64, .i .i64, .s, .sl 24]))] }
def e3d (a0i : a0N) (L : List Lf) : List (Bool × (Ex × St)) := bnd (b7r N a0i L N (pk a4W [3] L)) fun q => [((a04 q), (.ret, mg (a0p a4W L) [4] [(4, .c (.b true))] [2] [])), ((a0r q).isSome, ((.exit 5), mg (a0p a4W L) [2] [] [2] []))]
theorem c86 (a0i : a0N) (a1j : a0b Tryz.prog ((a9B N) a0i)) (m : Nat) (kn : St → Option (Ex × St)) (L x : List Lf) : lpB Tryz.prog ((d8V N) a0i) ((d80 N) a0i a1j).h 0 51 72 a4W [3] [2, 3, 4] [2] (m + 100) kn L x = b3S N a0i L x (fun y => kn (a0p a4W (mx a4W [3] L y))) (fun _ => some (.ret, mg (a0p a4W L) [4] [(4, .c (.b true))] [2] [])) (fun _ => some ((.exit 5), mg (a0p a4W L) [2] [] [2] [])) := by kernel_rfl
theorem d81 (a0i : a0N) (L : List Lf) (m : Nat) (x : List Lf) : b7r N a0i L (m + 1) x = b3S N a0i L x (b7r N a0i L m) (fun p => some (.inl p)) (fun p => some (.inr p)) := by kernel_rfl
def d82 (a0i : a0N) (a1j : a0b Tryz.prog ((a9B N) a0i)) : Sg Tryz.prog 0 51 :=
 ((d80 N) a0i a1j).lp ((e3d N) a0i) N a0e ((b7i N) a0i a1j) (fun m kn L x => (c86 N a0i a1j m kn L x).trans (c6N N a0i L x _ _ _)) (fun L m x => (d81 N a0i L m x).trans (c6N N a0i L x (b7r N a0i L m) (fun p => some (.inl p)) (fun p => some (.inr p)))) fun L x hx => (a4i a1f) x hx
def d83 (a0i : a0N) (v0 v1 v2 v3 : Int) (v4 : LB) (v5 : Bool) (v6 : LD) (v7 : LB) (v8 v9 v10 v11 v12 v13 : Int) (v14 : Bool) (v15 : LD) (k0 : Bool → Option R) : Option R :=
 bif (v0 == 1) then
  bnd (b7k N a0i v6 (v6.length : Int) v7 v8 v9 v10 v11 v12 v13 v14 v15 0) fun y0 =>
  bif (a04 y0) then
   k0 false
  else
   bif (a0r y0).isSome then
    k0 true
   else
    none
 else
  bif (v0 == 2) then
   bnd (b7n N a0i v6 (v6.length : Int) v7 v8 v9 v10 v11 v12 v13 v14 v15 0) fun y1 =>
   bif (a04 y1) then
    k0 true
   else
    bif (a0r y1).isSome then
     k0 false
    else
     none
  else
   bif (v0 == 3) then
    bif (inB 0 v6.length) then
     bnd (a0i ((v6.getD 0 (.i 0)).cell 0).toI ((v6.getD 0 (.i 0)).cell 1).toI ((v6.getD 0 (.i 0)).cell 2).toI ((v6.getD 0 (.i 0)).cell 3).toI ((v6.getD 0 (.i 0)).cell 4).toS ((v6.getD 0 (.i 0)).cell 5).isNil ((v6.getD 0 (.i 0)).cell 5).items v7 v8 v9 v10 v11 v12 v13 v14 v15) fun y2 =>
     bif y2.isSome then
      k0 (!(y2.getD default))
     else
      none
    else
     none
   else
    bif (v0 == 4) then
     k0 (v8 == v2)
    else
     bif (v0 == 5) then
      bnd (b7q N a0i v15 (v15.length : Int) v4 0) fun y3 =>
      bif (a04 y3) then
       k0 true
      else
       bif (a0r y3).isSome then
        k0 false
       else
        none
     else
      bif (v0 == 6) then
       bif (Nat.blt v7.length 4294967281) then
        k0 (Lib.contains v7 v4)
       else
        none
      else
       bnd (d3I N a0i v9 v10 v11 v12 v13 v1) fun y4 =>
       bnd (bif (decide (v2 ≤ y4)) then (decide (y4 ≤ v3)) else false) fun y5 =>
       k0 y5
def d3J (a0i : a0N) (v0 v1 v2 v3 : Int) (v4 : LB) (v5 : Bool) (v6 : LD) (v7 : LB) (v8 v9 v10 v11 v12 v13 : Int) (v14 : Bool) (v15 : LD) : Option (Bool) := d83 N a0i v0 v1 v2 v3 v4 v5 v6 v7 v8 v9 v10 v11 v12 v13 v14 v15 (fun p => some p)
theorem e3e (a0i : a0N) (v0 v1 v2 v3 : Int) (v4 : LB) (v5 : Bool) (v6 : LD) (v7 : LB) (v8 v9 v10 v11 v12 v13 : Int) (v14 : Bool) (v15 : LD) (k0 : Bool → Option R) : d83 N a0i v0 v1 v2 v3 v4 v5 v6 v7 v8 v9 v10 v11 v12 v13 v14 v15 k0 = (d3J N a0i v0 v1 v2 v3 v4 v5 v6 v7 v8 v9 v10 v11 v12 v13 v14 v15).bind k0 := by
 unfold d3J d83
 repeat' (first | with_reducible apply a0k | (with_reducible apply a0y; intro _) | rfl)
def f4F (a0i : a0N) (L : List Lf) (k0 : Bool → Option R) : Option R := d83 N a0i (li L 0) (li L 1) (li L 2) (li L 3) (ls L 4) (lb L 5) (ll L 6) (ls L 7) (li L 8) (li L 9) (li L 10) (li L 11) (li L 12) (li L 13) (lb L 14) (ll L 15) k0
theorem e8j (a0i : a0N) (a1j : a0b Tryz.prog ((a9B N) a0i)) (L : List Lf) : bd Tryz.prog ((d8V N) a0i) ((d82 N) a0i a1j).h 51 d1G L = f4F N a0i L (fun p => some ([.c (.b p)], [])) := by kernel_rfl
theorem e8k (a0i : a0N) (a1j : a0b Tryz.prog ((a9B N) a0i)) (L : List Lf) (x : Res) (hx : a5f ((f2z N) (fun v0 v1 v2 v3 v4 v5 v6 v7 v8 v9 v10 v11 v12 v13 v14 v15 => d3J N a0i v0 v1 v2 v3 v4 v5 v6 v7 v8 v9 v10 v11 v12 v13 v14 v15) L) some = some x) : a1I Tryz.prog 51 (a5P (a0p d1G L).tmps) (a0p d1G L).mem x :=
 a3p (n := 200) a0e ((b7i N) a0i a1j) ((d82 N) a0i a1j).ok rfl ((e8j N a0i a1j L).trans ((e3e N a0i ..).trans (a1f x hx)))
def b95 (N : Nat) : Nat → a0N
 | 0 => fun _ _ _ _ _ _ _ _ _ _ _ _ _ _ _ _ => none
 | m + 1 => fun v0 v1 v2 v3 v4 v5 v6 v7 v8 v9 v10 v11 v12 v13 v14 v15 => d3J N (b95 N m) v0 v1 v2 v3 v4 v5 v6 v7 v8 v9 v10 v11 v12 v13 v14 v15
theorem d84 (N : Nat) : ∀ m, a0b Tryz.prog ((a9B N) (b95 N m))
 | 0 => a0Y (d1F N) (AM.enters_of (by kernel_rfl)) (a1h fun L x hx => by
  have h : (none : Option Res) = some x := hx
  cases h)
 | m + 1 => a0Y (d1F N) (AM.enters_of (by kernel_rfl)) (a1h fun L x hx => e8k N (b95 N m) (d84 N m) L x hx)
def e8l : a0f := (a9B N) (b95 N N)
theorem d1H : a0b Tryz.prog (e8l N) := d84 N N
def f2H : List (Nat × List Nat) := [(0, [0, 1]), (1, [2, 1]), (2, [1, 2, 5]), (3, [9, 2, 5]), (5, [9, 5, 2]), (7, [9, 2, 5]), (9, [9, 2, 5]), (11, [9, 2, 5]), (13, [9, 2, 5]), (14, [2]), (12, [2]), (10, [2]), (8, [2]), (6, [5]), (4, [2]), (15, [5])]
def f2I : a0M := []
def d85 (N : Nat) : Sg Tryz.prog 0 85 := .start f2I f2H
def e3f (N : Nat) (v2 v3 v4 v5 v6 v9 : Int) (k0 : Int → R) : R :=
 bif (v9 == 1) then
  k0 v2
 else
  bif (v9 == 2) then
   k0 (IntKind.wrap .i64 (v2.tdiv 86400))
  else
   bif (v9 == 3) then
    k0 v3
   else
    bif (v9 == 4) then
     k0 v4
    else
     bif (v9 == 5) then
      k0 v5
     else
      bif (v9 == 6) then
       k0 v6
      else
       k0 ((IntKind.wrap .i64 (v2.tdiv 86400)).tmod 7)
def c6O (v2 v3 v4 v5 v6 v9 : Int) : Int := e3f N v2 v3 v4 v5 v6 v9 (fun p => p)
theorem e8m (v2 v3 v4 v5 v6 v9 : Int) (k0 : Int → R) : e3f N v2 v3 v4 v5 v6 v9 k0 = k0 (c6O N v2 v3 v4 v5 v6 v9) := by
 unfold c6O e3f
 repeat' (first | rfl | apply a0q | (apply a0K; intro _))
def f2J (L : List Lf) (k0 : Int → R) : R := e3f N (li L 2) (li L 3) (li L 4) (li L 5) (li L 6) (li L 9) k0
def d86 : Sh := { tmps := [(0, .g (.s :: rI 6 ([.sl 9]))), (1, .c (.i .i64))], mem := [] }
def f2K (L : List Lf) : List (Bool × Res) := bnd (f2J N L (fun p => p)) fun q => [(true, ([.c (.i .i64 q)], []))]
theorem e8n (L : List Lf) : bd Tryz.prog (e8l N) (d85 N).h 85 d86 L = f2J N L (fun p => some ([.c (.i .i64 p)], [])) := by kernel_rfl
theorem f2L : a0V Tryz.prog 85 d86 (f2K N) :=
 (d85 N).fn a0e (d1H N) fun L x hx => ((e8n N L).trans ((e8m N ..).trans (a2f _ _ hx)))
def b96 : a0f := ext 85 (a2n d86 (f2K N)) (e8l N)
theorem a5u : a0b Tryz.prog (b96 N) := a0V.to (f2L N) (d1H N)
def f2M : List (Nat × List Nat) := [(0, [0, 1]), (1, [1, 2, 4]), (2, [1, 2, 9, 8, 6, 7, 4]), (3, [16, 15, 14, 2, 9, 8, 6, 7, 4]), (4, [14, 16, 2, 15, 9, 8, 6, 7, 4]), (5, [2, 11, 16, 15, 14, 9, 8, 6, 7, 4]), (6, [11, 9, 8, 6, 2, 7, 4, 16, 15, 14]), (7, [12, 9, 8, 6, 2, 7, 11, 4, 16, 15, 14]), (9, [12, 9, 6, 2, 7, 11, 4, 16, 15, 14, 8]), (10, [12, 6, 2, 7, 11, 4, 16, 15, 14]), (8, [8, 12, 6, 2, 7, 11, 4, 16, 15, 14]), (11, [12, 6, 2, 7, 11, 4, 16, 15, 14, 8]), (12, [6, 2, 7, 11, 4, 16, 15, 14, 9, 8]), (13, [2, 7, 11, 6, 4, 16, 15, 14, 9, 8]), (14, [7, 11, 2, 6, 4, 16, 15, 14, 9, 8]), (15, [2, 6, 11, 4, 16, 15, 14, 9, 8, 7]), (16, [2, 6, 11, 4, 16, 15, 14, 9, 8, 7]), (18, [52, 6, 2, 11, 4, 16, 15, 14, 9, 8, 7]), (20, [52, 7, 2, 11, 4, 16, 15, 14, 9, 8, 6]), (22, [52, 11, 2, 4, 16, 15, 14, 9, 8, 6, 7]), (17, [8, 2, 11, 4, 16, 15, 14, 9, 6, 7]), (23, [11, 2, 4, 16, 15, 14, 9, 8, 6, 7]), (21, [7, 2, 11, 4, 16, 15, 14, 9, 8, 6]), (19, [6, 2, 11, 4, 16, 15, 14, 9, 8, 7]), (24, [13, 11, 4, 16, 15, 14, 2, 9, 8, 6, 7]), (25, [11, 4]), (26, [16, 15, 14, 2, 9, 8, 6, 7, 4]), (27, [4])]
def f2N : a0M := [(9, [2, 4, 6, 7, 8, 9, 14, 15, 16], [2, 4], []), (32, [2, 4, 6, 7, 8, 11, 12, 14, 15, 16, 35], [2, 4, 11], []), (27026, [2, 4, 6, 7, 8, 9, 11, 12, 14, 15, 16, 28], [2, 4, 11], []), (44, [2, 4, 6, 7, 8, 9, 11, 14, 15, 16, 44], [2, 4, 11], []), (51071, [2, 4, 6, 7, 8, 9, 11, 14, 15, 16, 69], [2, 4, 11], []), (66065, [2, 4, 6, 7, 8, 9, 11, 14, 15, 16, 52, 63], [2, 4, 11], []), (60059, [2, 4, 6, 7, 8, 9, 11, 14, 15, 16, 52, 57], [2, 4, 11], [])]
def d87 (N : Nat) : Sg Tryz.prog 0 71 := .start f2N f2M
def b0w (N : Nat) (w2 : Int) (w8 : Bool) (k0 : Int → R) : R :=
 bif w8 then
  k0 1
 else
  k0 w2
def b7s (w2 : Int) (w8 : Bool) : Int := b0w N w2 w8 (fun p => p)
theorem d3K (w2 : Int) (w8 : Bool) (k0 : Int → R) : b0w N w2 w8 k0 = k0 (b7s N w2 w8) := by
 unfold b7s b0w
 repeat' (first | rfl | apply a0q | (apply a0K; intro _))
def c6P : Sh := { tmps := [(2, .c (.p 2 0)), (4, .c (.p 4 0)), (6, .c (.i .i64)), (7, .c (.i .i64)), (8, .c (.i .i64)), (11, .c (.p 11 0)), (12, .c (.i .i64)), (14, .c (.sl 40)), (15, .c (.i .i64)), (16, .c (.i .i64)), (35, .c (.b))], mem := [(2, .box (.s :: rI 7 ([.s, .sl 24]))), (4, .box (.s :: rI 6 ([.sl 9]))), (11, .box (.s :: rI 6 ([.sl 9])))] }
def c1w (L : List Lf) (p : Int) : Ex × St := (.normal, mg (a0p c6P L) [2, 4, 6, 7, 8, 11, 12, 14, 15, 16] [(8, .c (.i .i64 p))] [2, 4, 11] [])
def e3g (L : List Lf) : List (Bool × (Ex × St)) := bnd (b0w N (li L 2) (lb L 8) (fun p => p)) fun q => [(true, c1w L q)]
theorem d3L (L : List Lf) : pc Tryz.prog (b96 N) (d87 N).h 0 100 71 32 c6P L [2, 4, 6, 7, 8, 11, 12, 14, 15, 16] [2, 4, 11] = b0w N (li L 2) (lb L 8) (fun p => some (c1w L p)) := by kernel_rfl
def d88 : Sg Tryz.prog 0 71 :=
 (d87 N).cut (e3g N) a0e (a5u N) fun L x hx => (d3L N L).trans ((d3K N ..).trans (a2f _ _ hx))
def a6k (w2 w3 w4 : Int) (w9 : Bool) (k0 : Int → R) : R :=
 bif w9 then
  k0 (IntKind.wrap .i64 (w2 + 1))
 else
  bnd (b7s N w2 (w4 != w3)) fun y0 =>
  k0 y0
def a6l (w2 w3 w4 : Int) (w9 : Bool) : Int := a6k N w2 w3 w4 w9 (fun p => p)
theorem c32 (w2 w3 w4 : Int) (w9 : Bool) (k0 : Int → R) : a6k N w2 w3 w4 w9 k0 = k0 (a6l N w2 w3 w4 w9) := by
 unfold a6l a6k
 repeat' (first | rfl | apply a0q | (apply a0K; intro _))
def b9g (L : List Lf) (k0 : Int → R) : R := a6k N (li L 2) (li L 3) (li L 4) (lb L 9) k0
def b5H : Sh := { tmps := [(2, .c (.p 2 0)), (4, .c (.p 4 0)), (6, .c (.i .i64)), (7, .c (.i .i64)), (8, .c (.i .i64)), (9, .c (.i .i64)), (11, .c (.p 11 0)), (12, .c (.i .i64)), (14, .c (.sl 40)), (15, .c (.i .i64)), (16, .c (.i .i64)), (28, .c (.b))], mem := [(2, .box (.s :: rI 7 ([.s, .sl 24]))), (4, .box (.s :: rI 6 ([.sl 9]))), (11, .box (.s :: rI 6 ([.sl 9])))] }
def b3T (L : List Lf) (p : Int) : Ex × St := (.normal, mg (a0p b5H L) [2, 4, 6, 7, 8, 11, 12, 14, 15, 16] [(8, .c (.i .i64 p))] [2, 4, 11] [])
def c87 (L : List Lf) : List (Bool × (Ex × St)) := bnd (b9g N L (fun p => p)) fun q => [(true, b3T L q)]
theorem c33 (L : List Lf) : pc Tryz.prog (b96 N) (d88 N).h 0 100 71 27026 b5H L [2, 4, 6, 7, 8, 11, 12, 14, 15, 16] [2, 4, 11] = b9g N L (fun p => some (b3T L p)) := by kernel_rfl
def d89 : Sg Tryz.prog 0 71 :=
 (d88 N).cut (c87 N) a0e (a5u N) fun L x hx => (c33 N L).trans ((c32 N ..).trans (a2f _ _ hx))
def b3U (w1 : Int) (w8 : Bool) (w11 w31 w32 w33 w34 w35 : Int) (k0 : Int → R) : R :=
 bif w8 then
  bnd (c6O N w31 w32 w33 w34 w35 w11) fun y0 =>
  k0 (IntKind.wrap .i64 (w1 + y0))
 else
  k0 w1
def b3V (w1 : Int) (w8 : Bool) (w11 w31 w32 w33 w34 w35 : Int) : Int := b3U N w1 w8 w11 w31 w32 w33 w34 w35 (fun p => p)
theorem d3M (w1 : Int) (w8 : Bool) (w11 w31 w32 w33 w34 w35 : Int) (k0 : Int → R) : b3U N w1 w8 w11 w31 w32 w33 w34 w35 k0 = k0 (b3V N w1 w8 w11 w31 w32 w33 w34 w35) := by
 unfold b3V b3U
 repeat' (first | rfl | apply a0q | (apply a0K; intro _))
def d1I (L : List Lf) (k0 : Int → R) : R := b3U N (li L 1) (lb L 8) (li L 11) (li L 31) (li L 32) (li L 33) (li L 34) (li L 35) k0
def c6Q : Sh := { tmps := [(2, .c (.p 2 0)), (4, .c (.p 4 0)), (6, .c (.i .i64)), (7, .c (.i .i64)), (8, .c (.i .i64)), (9, .c (.i .i64)), (11, .c (.p 11 0)), (14, .c (.sl 40)), (15, .c (.i .i64)), (16, .c (.i .i64)), (44, .c (.b))], mem := [(2, .box (.s :: rI 7 ([.s, .sl 24]))), (4, .box (.s :: rI 6 ([.sl 9]))), (11, .box (.s :: rI 6 ([.sl 9])))] }
def c1x (L : List Lf) (p : Int) : Ex × St := (.normal, mg (a0p c6Q L) [2, 4, 6, 7, 8, 9, 11, 14, 15, 16] [(7, .c (.i .i64 p))] [2, 4, 11] [])
def e3h (L : List Lf) : List (Bool × (Ex × St)) := bnd (d1I N L (fun p => p)) fun q => [(true, c1x L q)]
theorem d3N (L : List Lf) : pc Tryz.prog (b96 N) (d89 N).h 0 100 71 44 c6Q L [2, 4, 6, 7, 8, 9, 11, 14, 15, 16] [2, 4, 11] = d1I N L (fun p => some (c1x L p)) := by kernel_rfl
def d9a : Sg Tryz.prog 0 71 :=
 (d89 N).cut (e3h N) a0e (a5u N) fun L x hx => (d3N N L).trans ((d3M N ..).trans (a2f _ _ hx))
def a6m (w2 : Int) (w8 : Bool) (w11 w12 w31 w32 w33 w34 w35 : Int) (k0 : Bool → R) : R :=
 bif w8 then
  bnd (c6O N w31 w32 w33 w34 w35 w11) fun y0 =>
  k0 (decide (y0 ≥ w12))
 else
  k0 (decide (w2 ≥ w12))
def a8d (w2 : Int) (w8 : Bool) (w11 w12 w31 w32 w33 w34 w35 : Int) : Bool := a6m N w2 w8 w11 w12 w31 w32 w33 w34 w35 (fun p => p)
theorem c34 (w2 : Int) (w8 : Bool) (w11 w12 w31 w32 w33 w34 w35 : Int) (k0 : Bool → R) : a6m N w2 w8 w11 w12 w31 w32 w33 w34 w35 k0 = k0 (a8d N w2 w8 w11 w12 w31 w32 w33 w34 w35) := by
 unfold a8d a6m
 repeat' (first | rfl | apply a0q | (apply a0K; intro _))
def b9h (L : List Lf) (k0 : Bool → R) : R := a6m N (li L 2) (lb L 8) (li L 11) (li L 12) (li L 31) (li L 32) (li L 33) (li L 34) (li L 35) k0
def b5I : Sh := { tmps := [(2, .c (.p 2 0)), (4, .c (.p 4 0)), (6, .c (.i .i64)), (7, .c (.i .i64)), (8, .c (.i .i64)), (9, .c (.i .i64)), (11, .c (.p 11 0)), (14, .c (.sl 40)), (15, .c (.i .i64)), (16, .c (.i .i64)), (69, .c (.b))], mem := [(2, .box (.s :: rI 7 ([.s, .sl 24]))), (4, .box (.s :: rI 6 ([.sl 9]))), (11, .box (.s :: rI 6 ([.sl 9])))] }
def b3W (L : List Lf) (p : Bool) : Ex × St := (.normal, mg (a0p b5I L) [2, 4, 6, 7, 8, 9, 11, 13, 14, 15, 16] [(13, .c (.b p))] [2, 4, 11] [])
def c88 (L : List Lf) : List (Bool × (Ex × St)) := bnd (b9h N L (fun p => p)) fun q => [(true, b3W L q)]
theorem c35 (L : List Lf) : pc Tryz.prog (b96 N) (d9a N).h 0 100 71 51071 b5I L [2, 4, 6, 7, 8, 9, 11, 13, 14, 15, 16] [2, 4, 11] = b9h N L (fun p => some (b3W L p)) := by kernel_rfl
def d9b : Sg Tryz.prog 0 71 :=
 (d9a N).cut (c88 N) a0e (a5u N) fun L x hx => (c35 N L).trans ((c34 N ..).trans (a2f _ _ hx))
def a6n (w1 w2 w8 : Int) (w9 : Bool) (w12 w13 w32 w33 w34 w35 w36 : Int) (k0 : Bool → R) : R :=
 bif w9 then
  k0 (decide (w1 ≥ w13))
 else
  bnd (a8d N w2 (w8 == 3) w12 w13 w32 w33 w34 w35 w36) fun y0 =>
  k0 y0
def a8e (w1 w2 w8 : Int) (w9 : Bool) (w12 w13 w32 w33 w34 w35 w36 : Int) : Bool := a6n N w1 w2 w8 w9 w12 w13 w32 w33 w34 w35 w36 (fun p => p)
theorem c36 (w1 w2 w8 : Int) (w9 : Bool) (w12 w13 w32 w33 w34 w35 w36 : Int) (k0 : Bool → R) : a6n N w1 w2 w8 w9 w12 w13 w32 w33 w34 w35 w36 k0 = k0 (a8e N w1 w2 w8 w9 w12 w13 w32 w33 w34 w35 w36) := by
 unfold a8e a6n
 repeat' (first | rfl | apply a0q | (apply a0K; intro _))
def b9i (L : List Lf) (k0 : Bool → R) : R := a6n N (li L 1) (li L 2) (li L 8) (lb L 9) (li L 12) (li L 13) (li L 32) (li L 33) (li L 34) (li L 35) (li L 36) k0
def b5J : Sh := { tmps := [(2, .c (.p 2 0)), (4, .c (.p 4 0)), (6, .c (.i .i64)), (7, .c (.i .i64)), (8, .c (.i .i64)), (9, .c (.i .i64)), (11, .c (.p 11 0)), (14, .c (.sl 40)), (15, .c (.i .i64)), (16, .c (.i .i64)), (52, .c (.i .i64)), (63, .c (.b))], mem := [(2, .box (.s :: rI 7 ([.s, .sl 24]))), (4, .box (.s :: rI 6 ([.sl 9]))), (11, .box (.s :: rI 6 ([.sl 9])))] }
def b3X (L : List Lf) (p : Bool) : Ex × St := (.normal, mg (a0p b5J L) [2, 4, 6, 7, 8, 9, 11, 13, 14, 15, 16] [(13, .c (.b p))] [2, 4, 11] [])
def c89 (L : List Lf) : List (Bool × (Ex × St)) := bnd (b9i N L (fun p => p)) fun q => [(true, b3X L q)]
theorem c37 (L : List Lf) : pc Tryz.prog (b96 N) (d9b N).h 0 100 71 66065 b5J L [2, 4, 6, 7, 8, 9, 11, 13, 14, 15, 16] [2, 4, 11] = b9i N L (fun p => some (b3X L p)) := by kernel_rfl
def d9c : Sg Tryz.prog 0 71 :=
 (d9b N).cut (c89 N) a0e (a5u N) fun L x hx => (c37 N L).trans ((c36 N ..).trans (a2f _ _ hx))
def a6o (w0 w1 w2 w8 : Int) (w9 : Bool) (w12 w13 w32 w33 w34 w35 w36 : Int) (k0 : Bool → R) : R :=
 bif w9 then
  k0 (decide (w0 ≥ w13))
 else
  bnd (a8e N w1 w2 w8 (w8 == 2) w12 w13 w32 w33 w34 w35 w36) fun y0 =>
  k0 y0
def a6p (w0 w1 w2 w8 : Int) (w9 : Bool) (w12 w13 w32 w33 w34 w35 w36 : Int) : Bool := a6o N w0 w1 w2 w8 w9 w12 w13 w32 w33 w34 w35 w36 (fun p => p)
theorem c38 (w0 w1 w2 w8 : Int) (w9 : Bool) (w12 w13 w32 w33 w34 w35 w36 : Int) (k0 : Bool → R) : a6o N w0 w1 w2 w8 w9 w12 w13 w32 w33 w34 w35 w36 k0 = k0 (a6p N w0 w1 w2 w8 w9 w12 w13 w32 w33 w34 w35 w36) := by
 unfold a6p a6o
 repeat' (first | rfl | apply a0q | (apply a0K; intro _))
def b9j (L : List Lf) (k0 : Bool → R) : R := a6o N (li L 0) (li L 1) (li L 2) (li L 8) (lb L 9) (li L 12) (li L 13) (li L 32) (li L 33) (li L 34) (li L 35) (li L 36) k0
def b5K : Sh := { tmps := [(2, .c (.p 2 0)), (4, .c (.p 4 0)), (6, .c (.i .i64)), (7, .c (.i .i64)), (8, .c (.i .i64)), (9, .c (.i .i64)), (11, .c (.p 11 0)), (14, .c (.sl 40)), (15, .c (.i .i64)), (16, .c (.i .i64)), (52, .c (.i .i64)), (57, .c (.b))], mem := [(2, .box (.s :: rI 7 ([.s, .sl 24]))), (4, .box (.s :: rI 6 ([.sl 9]))), (11, .box (.s :: rI 6 ([.sl 9])))] }
def b3Y (L : List Lf) (p : Bool) : Ex × St := (.normal, mg (a0p b5K L) [2, 4, 6, 7, 8, 9, 11, 13, 14, 15, 16] [(13, .c (.b p))] [2, 4, 11] [])
def c9a (L : List Lf) : List (Bool × (Ex × St)) := bnd (b9j N L (fun p => p)) fun q => [(true, b3Y L q)]
theorem c39 (L : List Lf) : pc Tryz.prog (b96 N) (d9c N).h 0 100 71 60059 b5K L [2, 4, 6, 7, 8, 9, 11, 13, 14, 15, 16] [2, 4, 11] = b9j N L (fun p => some (b3Y L p)) := by kernel_rfl
def d9d : Sg Tryz.prog 0 71 :=
 (d9c N).cut (c9a N) a0e (a5u N) fun L x hx => (c39 N L).trans ((c38 N ..).trans (a2f _ _ hx))
def b4P (w5 : LD) (w6 w9 w10 w11 w12 w13 w14 w15 : Int) (w16 : LB) (w17 : Bool) (w18 : LD) (w0 w1 w2 w3 w7 : Int) (kr : Int → Int → Int → Int → Int → Option R) (k0 : Ty1 → Option R) (k1 : Unit → Option R) : Option R :=
 bif (decide (w7 < w6)) then
  bif (inB w7 w5.length) then
   bnd (b95 N N w12 w13 w14 w15 w16 w17 w18 ((w5.getD w7.toNat (.i 0)).cell 0).toS ((w5.getD w7.toNat (.i 0)).cell 1).toI ((w5.getD w7.toNat (.i 0)).cell 2).toI ((w5.getD w7.toNat (.i 0)).cell 3).toI ((w5.getD w7.toNat (.i 0)).cell 4).toI ((w5.getD w7.toNat (.i 0)).cell 5).toI ((w5.getD w7.toNat (.i 0)).cell 6).toI ((w5.getD w7.toNat (.i 0)).cell 7).isNil ((w5.getD w7.toNat (.i 0)).cell 7).items) fun y0 =>
   bif y0.isSome then
    bif (!(y0.getD default)) then
     kr w0 w1 w2 w3 (IntKind.wrap .i64 (w7 + 1))
    else
     bnd (IntKind.wrap .i64 (((w5.getD w7.toNat (.i 0)).cell 2).toI.tdiv 86400)) fun y1 =>
     bnd (a6l N w2 w3 y1 (y1 == (IntKind.wrap .i64 (w3 + 1)))) fun y2 =>
     bnd (c8P N w10) fun y3 =>
     bnd (b3V N w1 y3 w10 ((w5.getD w7.toNat (.i 0)).cell 2).toI ((w5.getD w7.toNat (.i 0)).cell 3).toI ((w5.getD w7.toNat (.i 0)).cell 4).toI ((w5.getD w7.toNat (.i 0)).cell 5).toI ((w5.getD w7.toNat (.i 0)).cell 6).toI) fun y4 =>
     bnd (a6p N (IntKind.wrap .i64 (w0 + 1)) y4 y2 w9 (w9 == 1) w10 w11 ((w5.getD w7.toNat (.i 0)).cell 2).toI ((w5.getD w7.toNat (.i 0)).cell 3).toI ((w5.getD w7.toNat (.i 0)).cell 4).toI ((w5.getD w7.toNat (.i 0)).cell 5).toI ((w5.getD w7.toNat (.i 0)).cell 6).toI) fun y5 =>
     bif y5 then
      k0 (((w5.getD w7.toNat (.i 0)).cell 0).toS, ((w5.getD w7.toNat (.i 0)).cell 1).toI, ((w5.getD w7.toNat (.i 0)).cell 2).toI, ((w5.getD w7.toNat (.i 0)).cell 3).toI, ((w5.getD w7.toNat (.i 0)).cell 4).toI, ((w5.getD w7.toNat (.i 0)).cell 5).toI, ((w5.getD w7.toNat (.i 0)).cell 6).toI, ((w5.getD w7.toNat (.i 0)).cell 7).isNil, ((w5.getD w7.toNat (.i 0)).cell 7).items)
     else
      kr (IntKind.wrap .i64 (w0 + 1)) y4 y2 y1 (IntKind.wrap .i64 (w7 + 1))
   else
    none
  else
   none
 else
  k1 ()
def c4a (N : Nat) {R : Type} (w5 : LD) (w6 w9 w10 w11 w12 w13 w14 w15 : Int) (w16 : LB) (w17 : Bool) (w18 : LD) : Nat → Int → Int → Int → Int → Int → (Ty1 → Option R) → (Unit → Option R) → Option R
 | 0, _, _, _, _, _, _, _ => none
 | m + 1, w0, w1, w2, w3, w7, k0, k1 => b4P N w5 w6 w9 w10 w11 w12 w13 w14 w15 w16 w17 w18 w0 w1 w2 w3 w7 (fun w0 w1 w2 w3 w7 => c4a N w5 w6 w9 w10 w11 w12 w13 w14 w15 w16 w17 w18 m w0 w1 w2 w3 w7 k0 k1) k0 k1
def c9b (w5 : LD) (w6 w9 w10 w11 w12 w13 w14 w15 : Int) (w16 : LB) (w17 : Bool) (w18 : LD) (w0 w1 w2 w3 w7 : Int) : Option (Sum (Ty1) (Unit)) := c4a N (R := (Sum (Ty1) (Unit))) w5 w6 w9 w10 w11 w12 w13 w14 w15 w16 w17 w18 N w0 w1 w2 w3 w7 (fun p => some (.inl p)) (fun p => some (.inr p))
def b9k (L x : List Lf) (kr : List Lf → Option R) (k0 : Ty1 → Option R) (k1 : Unit → Option R) : Option R := b4P N (ll L 5) (li L 6) (li L 9) (li L 10) (li L 11) (li L 12) (li L 13) (li L 14) (li L 15) (ls L 16) (lb L 17) (ll L 18) (li x 0) (li x 1) (li x 2) (li x 3) (li x 4) (fun w0 w1 w2 w3 w7 => kr [.i w0, .i w1, .i w2, .i w3, .i w7]) k0 k1
theorem d1J (L x : List Lf) (kr : List Lf → Option R) (k0 : Ty1 → Option R) (k1 : Unit → Option R) : b9k N L x kr k0 k1 = (b9k N L x (fun y => some (.inl y)) (fun p => some (.inr (.inl p))) (fun p => some (.inr (.inr p)))).bind (a1m kr (a1m k0 k1)) := by
 unfold b9k b4P
 repeat' (first | with_reducible apply a0k | (with_reducible apply a0y; intro _) | rfl)
def c4b (L : List Lf) (m : Nat) (x : List Lf) : Option (Sum (Ty1) (Unit)) := c4a N (R := (Sum (Ty1) (Unit))) (ll L 5) (li L 6) (li L 9) (li L 10) (li L 11) (li L 12) (li L 13) (li L 14) (li L 15) (ls L 16) (lb L 17) (ll L 18) m (li x 0) (li x 1) (li x 2) (li x 3) (li x 4) (fun p => some (.inl p)) (fun p => some (.inr p))
def b0x : Sh := { tmps := [(2, .c (.p 2 0)), (4, .c (.p 4 0)), (6, .c (.i .i64)), (7, .c (.i .i64)), (8, .c (.i .i64)), (9, .c (.i .i64)), (14, .c (.sl 40)), (15, .c (.i .i64)), (16, .c (.i .i64))], mem := [(2, .box (.s :: rI 7 ([.s, .sl 24]))), (4, .box (.s :: rI 6 ([.sl 9])))] }
def c6R (L : List Lf) (p : Ty1) : Ex × St := let p1 := p.2; let p2 := p1.2; let p3 := p2.2; let p4 := p3.2; let p5 := p4.2; let p6 := p5.2; let p7 := p6.2; let p8 := p7.2; (.ret, ⟨[(4, .c (.p 4 0)), (5, .c (.b true))], [(4, .box [.s p.1, .i .i64 p1.1, .i .i64 p2.1, .i .i64 p3.1, .i .i64 p4.1, .i .i64 p5.1, .i .i64 p6.1, .sl 9 p7.1 p8])]⟩)
def e8o (L : List Lf) : List (Bool × (Ex × St)) := bnd (c4b N L N (pk b0x [0, 1, 2, 3, 7] L)) fun q => [((a04 q), c6R L (a0P q)), ((a0r q).isSome, ((.exit 0), mg (a0p b0x L) [4] [] [4] []))]
theorem d3O (m : Nat) (kn : St → Option (Ex × St)) (L x : List Lf) : lpB Tryz.prog (b96 N) (d9d N).h 0 71 9 b0x [0, 1, 2, 3, 7] [4, 5] [4] (m + 100) kn L x = b9k N L x (fun y => kn (a0p b0x (mx b0x [0, 1, 2, 3, 7] L y))) (fun p => some (c6R L p)) (fun _ => some ((.exit 0), mg (a0p b0x L) [4] [] [4] [])) := by kernel_rfl
theorem e3i (L : List Lf) (m : Nat) (x : List Lf) : c4b N L (m + 1) x = b9k N L x (c4b N L m) (fun p => some (.inl p)) (fun p => some (.inr p)) := by kernel_rfl
def d9e : Sg Tryz.prog 0 71 :=
 (d9d N).lp (e8o N) N a0e (a5u N) (fun m kn L x => (d3O N m kn L x).trans (d1J N L x _ _ _)) (fun L m x => (e3i N L m x).trans (d1J N L x (c4b N L m) (fun p => some (.inl p)) (fun p => some (.inr p)))) fun L x hx => (a4i a1f) x hx
def d9f (v1 v2 v3 v4 v5 v6 v7 : Int) (v8 : LB) (v9 : Bool) (v10 v12 : LD) (k0 : Ty0 → Option R) : Option R :=
 bnd (c9b N v12 (v12.length : Int) v1 v2 v3 v4 v5 v6 v7 v8 v9 v10 0 0 0 (-2) 0) fun y0 =>
 bif (a04 y0) then
  k0 ((a0P y0).1, (a0P y0).2.1, (a0P y0).2.2.1, (a0P y0).2.2.2.1, (a0P y0).2.2.2.2.1, (a0P y0).2.2.2.2.2.1, (a0P y0).2.2.2.2.2.2.1, (a0P y0).2.2.2.2.2.2.2.1, (a0P y0).2.2.2.2.2.2.2.2, true)
 else
  bif (a0r y0).isSome then
   k0 (([] : List UInt8), 0, 0, 0, 0, 0, 0, true, [], false)
  else
   none
def d3P (v1 v2 v3 v4 v5 v6 v7 : Int) (v8 : LB) (v9 : Bool) (v10 v12 : LD) : Option (Ty0) := d9f N v1 v2 v3 v4 v5 v6 v7 v8 v9 v10 v12 (fun p => some p)
theorem e3j (v1 v2 v3 v4 v5 v6 v7 : Int) (v8 : LB) (v9 : Bool) (v10 v12 : LD) (k0 : Ty0 → Option R) : d9f N v1 v2 v3 v4 v5 v6 v7 v8 v9 v10 v12 k0 = (d3P N v1 v2 v3 v4 v5 v6 v7 v8 v9 v10 v12).bind k0 := by
 unfold d3P d9f
 repeat' (first | with_reducible apply a0k | (with_reducible apply a0y; intro _) | rfl)
def f2O (L : List Lf) (k0 : Ty0 → Option R) : Option R := d9f N (li L 1) (li L 2) (li L 3) (li L 4) (li L 5) (li L 6) (li L 7) (ls L 8) (lb L 9) (ll L 10) (ll L 12) k0
def d9g : Sh := { tmps := [(0, .g (.s :: rI 7 ([.s, .sl 24]))), (1, .c (.sl 40))], mem := [] }
def d9h (L : List Lf) (p : Ty0) : Res := let p1 := p.2; let p2 := p1.2; let p3 := p2.2; let p4 := p3.2; let p5 := p4.2; let p6 := p5.2; let p7 := p6.2; let p8 := p7.2; let p9 := p8.2; ([.g [.s p.1, .i .i64 p1.1, .i .i64 p2.1, .i .i64 p3.1, .i .i64 p4.1, .i .i64 p5.1, .i .i64 p6.1, .sl 9 p7.1 p8.1], .c (.b p9)], [])
def f2P (L : List Lf) : List (Bool × Res) := bnd (f2O N L (fun p => some p)) fun q => [(q.isSome, d9h L (q.getD default))]
theorem e8p (L : List Lf) : bd Tryz.prog (b96 N) (d9e N).h 71 d9g L = f2O N L (fun p => some (d9h L p)) := by kernel_rfl
theorem f2Q : a0V Tryz.prog 71 d9g (f2P N) :=
 (d9e N).fn a0e (a5u N) fun L x hx => ((e8p N L).trans ((e3j N ..).trans (a1f x hx)))
def e8q : a0f := ext 71 (a2n d9g (f2P N)) (b96 N)
theorem d1K : a0b Tryz.prog (e8q N) := a0V.to (f2Q N) (a5u N)
def f2R : List (Nat × List Nat) := [(0, [0, 1]), (1, [2, 3]), (2, [2, 3]), (3, [2, 3])]
def f2S : a0M := []
def d9i (N : Nat) : Sg Tryz.prog 0 72 := .start f2S f2R
def d9j (N : Nat) (v0 v1 : LB) (v2 : Int) (v3 v4 : LB) (v5 : Int) (k0 : Bool → R) : R :=
 bif (v2 != v5) then
  k0 (decide (v2 < v5))
 else
  bnd (bif (Op.bytesLess v1 v4) then true else (bif (v1 == v4) then (Op.bytesLess v0 v3) else false)) fun y0 =>
  k0 y0
def d9k (v0 v1 : LB) (v2 : Int) (v3 v4 : LB) (v5 : Int) : Bool := d9j N v0 v1 v2 v3 v4 v5 (fun p => p)
theorem e8r (v0 v1 : LB) (v2 : Int) (v3 v4 : LB) (v5 : Int) (k0 : Bool → R) : d9j N v0 v1 v2 v3 v4 v5 k0 = k0 (d9k N v0 v1 v2 v3 v4 v5) := by
 unfold d9k d9j
 repeat' (first | rfl | apply a0q | (apply a0K; intro _))
def f2T (L : List Lf) (k0 : Bool → R) : R := d9j N (ls L 0) (ls L 1) (li L 2) (ls L 3) (ls L 4) (li L 5) k0
def d9l : Sh := { tmps := [(0, .g ([.s, .s, .i .i64])), (1, .g ([.s, .s, .i .i64]))], mem := [] }
def f2U (L : List Lf) : List (Bool × Res) := bnd (f2T N L (fun p => p)) fun q => [(true, ([.c (.b q)], []))]
theorem e8s (L : List Lf) : bd Tryz.prog (e8q N) (d9i N).h 72 d9l L = f2T N L (fun p => some ([.c (.b p)], [])) := by kernel_rfl
theorem f2V : a0V Tryz.prog 72 d9l (f2U N) :=
 (d9i N).fn a0e (d1K N) fun L x hx => ((e8s N L).trans ((e8r N ..).trans (a2f _ _ hx)))
def d3Q : a0f := ext 72 (a2n d9l (f2U N)) (e8q N)
theorem b3Z : a0b Tryz.prog (d3Q N) := a0V.to (f2V N) (d1K N)
def f2W : List (Nat × List Nat) := [(0, [1, 0]), (1, [1, 0]), (2, [0, 5]), (3, [0, 5, 6]), (4, [17, 16, 15, 5, 6]), (5, [15, 17, 5, 16, 6]), (6, [8, 5, 17, 16, 15, 6]), (7, [10, 17, 16, 15, 5, 6, 8, 9]), (8, [8, 9, 6, 17, 16, 15, 5]), (9, [6, 11, 17, 16, 15, 5]), (10, [12, 11, 6, 17, 16, 15, 5]), (11, [12, 11, 6, 17, 16, 15, 5]), (12, [6, 12, 11, 17, 16, 15, 5, 60000006]), (13, [17, 16, 15, 5, 6]), (14, [6])]
def f2X : a0M := [(12, [5, 6, 15, 16, 17], [6], [6]), (30, [5, 6, 11, 12, 15, 16, 17], [6, 11], [6]), (31, [5, 6, 11, 12, 15, 16, 17], [6, 11], [])]
def d9m (N : Nat) : Sg Tryz.prog 0 38 := .start f2X f2W
def b30 (w2 : Int) (w8 : LD) (w9 w10 : LB) (w11 : Int) (k0 : Bool → Option R) : Option R :=
 bif (decide (w2 > 0)) then
  bif (inB (IntKind.wrap .i64 (w2 - 1)) w8.length) then
   bif (decide ((IntKind.wrap .i64 (w2 - 1)).toNat < w8.length)) then
    bnd ((w8.getD (IntKind.wrap .i64 (w2 - 1)).toNat (.i 0)).cell 0).toS fun y0 =>
    bnd ((w8.getD (IntKind.wrap .i64 (w2 - 1)).toNat (.i 0)).cell 1).toS fun y1 =>
    bnd ((w8.getD (IntKind.wrap .i64 (w2 - 1)).toNat (.i 0)).cell 2).toI fun y2 =>
    bnd (d9k N w9 w10 w11 y0 y1 y2) fun y3 =>
    k0 y3
   else
    none
  else
   none
 else
  k0 false
def b7t (w2 : Int) (w8 : LD) (w9 w10 : LB) (w11 : Int) : Option (Bool) := b30 N w2 w8 w9 w10 w11 (fun p => some p)
theorem c9c (w2 : Int) (w8 : LD) (w9 w10 : LB) (w11 : Int) (k0 : Bool → Option R) : b30 N w2 w8 w9 w10 w11 k0 = (b7t N w2 w8 w9 w10 w11).bind k0 := by
 unfold b7t b30
 repeat' (first | with_reducible apply a0k | (with_reducible apply a0y; intro _) | rfl)
def d1L (L : List Lf) (k0 : Bool → Option R) : Option R := b30 N (li L 2) (ll L 8) (ls L 9) (ls L 10) (li L 11) k0
def c6S : Sh := { tmps := [(5, .c (.sl 40)), (6, .c (.o 6)), (11, .c (.p 11 0)), (12, .c (.i .i64)), (15, .c (.sl 52)), (16, .c (.i .i64)), (17, .c (.i .i64))], mem := [(6, .row 47 true), (11, .box ([.s, .s, .i .i64]))] }
def c1y (L : List Lf) (p : Bool) : Ex × St := (.normal, mg (a0p c6S L) [5, 6, 11, 12, 15, 16, 17, 48] [(48, .c (.b p))] [6, 11] [])
def e3k (L : List Lf) : List (Bool × (Ex × St)) := bnd (d1L N L (fun p => some p)) fun q => [(q.isSome, c1y L (q.getD default))]
theorem d3R (L : List Lf) : pc Tryz.prog (d3Q N) (d9m N).h 0 100 38 31 c6S L [5, 6, 11, 12, 15, 16, 17, 48] [6, 11] = d1L N L (fun p => some (c1y L p)) := by kernel_rfl
def d9n : Sg Tryz.prog 0 38 :=
 (d9m N).cut (e3k N) a0e (b3Z N) fun L x hx => (d3R N L).trans ((c9c N ..).trans (a1f x hx))
def b31 (w8 : LD) (w9 w10 : LB) (w11 : Int) (w2 : Int) (kr : Int → Option R) (k0 : Int → Option R) : Option R :=
 bnd (b7t N w2 w8 w9 w10 w11) fun y0 =>
 bif y0.isSome then
  bif (y0.getD default) then
   kr (IntKind.wrap .i64 (w2 - 1))
  else
   k0 w2
 else
  none
def b7u (N : Nat) {R : Type} (w8 : LD) (w9 w10 : LB) (w11 : Int) : Nat → Int → (Int → Option R) → Option R
 | 0, _, _ => none
 | m + 1, w2, k0 => b31 N w8 w9 w10 w11 w2 (fun w2 => b7u N w8 w9 w10 w11 m w2 k0) k0
def c4c (w8 : LD) (w9 w10 : LB) (w11 : Int) (w2 : Int) : Option (Int) := b7u N (R := (Int)) w8 w9 w10 w11 N w2 (fun p => some p)
def b32 (L x : List Lf) (kr : List Lf → Option R) (k0 : Int → Option R) : Option R := b31 N (ll L 8) (ls L 9) (ls L 10) (li L 11) (li x 0) (fun w2 => kr [.i w2]) k0
theorem c6T (L x : List Lf) (kr : List Lf → Option R) (k0 : Int → Option R) : b32 N L x kr k0 = (b32 N L x (fun y => some (.inl y)) (fun p => some (.inr p))).bind (a1m kr k0) := by
 unfold b32 b31
 repeat' (first | with_reducible apply a0k | (with_reducible apply a0y; intro _) | rfl)
def b7v (L : List Lf) (m : Nat) (x : List Lf) : Option (Int) := b7u N (R := (Int)) (ll L 8) (ls L 9) (ls L 10) (li L 11) m (li x 0) (fun p => some p)
def a9C : Sh := { tmps := [(5, .c (.sl 40)), (6, .c (.o 6)), (11, .c (.p 11 0)), (12, .c (.i .i64)), (15, .c (.sl 52)), (16, .c (.i .i64)), (17, .c (.i .i64))], mem := [(6, .row 47 true), (11, .box ([.s, .s, .i .i64]))] }
def c1z (L : List Lf) (p : Int) : Ex × St := ((.exit 2), mg (a0p a9C L) [5, 6, 11, 12, 15, 16, 17] [(12, .c (.i .i64 p))] [6, 11] [])
def e3l (L : List Lf) : List (Bool × (Ex × St)) := bnd (b7v N L N (pk a9C [2] L)) fun q => [(q.isSome, c1z L (q.getD default))]
theorem c9d (m : Nat) (kn : St → Option (Ex × St)) (L x : List Lf) : lpB Tryz.prog (d3Q N) (d9n N).h 0 38 30 a9C [2] [4, 5, 6, 11, 12, 15, 16, 17] [6, 11] (m + 100) kn L x = b32 N L x (fun y => kn (a0p a9C (mx a9C [2] L y))) (fun p => some (c1z L p)) := by kernel_rfl
theorem d9o (L : List Lf) (m : Nat) (x : List Lf) : b7v N L (m + 1) x = b32 N L x (b7v N L m) some := by kernel_rfl
def d9p : Sg Tryz.prog 0 38 :=
 (d9n N).lp (e3l N) N a0e (b3Z N) (fun m kn L x => (c9d N m kn L x).trans (c6T N L x _ _)) (fun L m x => (d9o N L m x).trans (c6T N L x (b7v N L m) some)) fun L x hx => a1f x hx
def b0y (w1 w3 : LD) (w4 : Int) (w5 : Int) (w6 : Bool) (w7 : LD) (kr : Int → Bool → LD → Option R) (k0 : Bool × LD → Option R) : Option R :=
 bif (decide (w5 < w4)) then
  bif (inB w5 w3.length) then
   bnd (d3P N ((w3.getD w5.toNat (.i 0)).cell 1).toI ((w3.getD w5.toNat (.i 0)).cell 2).toI ((w3.getD w5.toNat (.i 0)).cell 3).toI ((w3.getD w5.toNat (.i 0)).cell 4).toI ((w3.getD w5.toNat (.i 0)).cell 5).toI ((w3.getD w5.toNat (.i 0)).cell 6).toI ((w3.getD w5.toNat (.i 0)).cell 7).toI ((w3.getD w5.toNat (.i 0)).cell 8).toS ((w3.getD w5.toNat (.i 0)).cell 9).isNil ((w3.getD w5.toNat (.i 0)).cell 9).items w1) fun y0 =>
   bif y0.isSome then
    bif (!(y0.getD default).2.2.2.2.2.2.2.2.2) then
     kr (IntKind.wrap .i64 (w5 + 1)) w6 w7
    else
     bnd (c4c N w7 ((w3.getD w5.toNat (.i 0)).cell 0).toS (y0.getD default).1 (y0.getD default).2.2.1 (w7.length : Int)) fun y1 =>
     bif y1.isSome then
      bif ((decide (0 ≤ (y1.getD default))) && (decide ((y1.getD default) ≤ (w7.length : Int)))) then
       bif (decide ((0 + ((w7.take (y1.getD default).toNat).drop 0).length) * 40 ≤ b1h) && decide ((0 + ((w7.take (y1.getD default).toNat).drop 0).length) ≤ a0U)) then
        bnd (((w7.take (y1.getD default).toNat).drop 0).isEmpty && false) fun y2 =>
        bif (decide ((((w7.take (y1.getD default).toNat).drop 0).length + 1) * 40 ≤ b1h) && decide ((((w7.take (y1.getD default).toNat).drop 0).length + 1) ≤ a0U)) then
         bnd ((((w7.take (y1.getD default).toNat).drop 0) ++ [(.a [(.s ((w3.getD w5.toNat (.i 0)).cell 0).toS), (.s (y0.getD default).1), (.i (y0.getD default).2.2.1)])]) : List D) fun y3 =>
         bif (((decide (0 ≤ (y1.getD default))) && (decide ((y1.getD default) ≤ (w7.length : Int)))) && (decide ((w7.length : Int) ≤ (w7.length : Int)))) then
          bnd (((w7.take (w7.length : Int).toNat).drop (y1.getD default).toNat) : List D) fun y4 =>
          bif (decide ((y3.length + y4.length) * 40 ≤ b1h) && decide ((y3.length + y4.length) ≤ a0U)) then
           kr (IntKind.wrap .i64 (w5 + 1)) (y4.isEmpty && false) (y3 ++ y4)
          else
           none
         else
          none
        else
         none
       else
        none
      else
       none
     else
      none
   else
    none
  else
   none
 else
  k0 (w6, w7)
def b7w (N : Nat) {R : Type} (w1 w3 : LD) (w4 : Int) : Nat → Int → Bool → LD → (Bool × LD → Option R) → Option R
 | 0, _, _, _, _ => none
 | m + 1, w5, w6, w7, k0 => b0y N w1 w3 w4 w5 w6 w7 (fun w5 w6 w7 => b7w N w1 w3 w4 m w5 w6 w7 k0) k0
def d1M (w1 w3 : LD) (w4 : Int) (w5 : Int) (w6 : Bool) (w7 : LD) : Option (Bool × LD) := b7w N (R := (Bool × LD)) w1 w3 w4 N w5 w6 w7 (fun p => some p)
def b33 (L x : List Lf) (kr : List Lf → Option R) (k0 : Bool × LD → Option R) : Option R := b0y N (ll L 1) (ll L 3) (li L 4) (li x 0) (lb x 1) (ll x 2) (fun w5 w6 w7 => kr [.i w5, .b w6, .l w7]) k0
theorem c6U (L x : List Lf) (kr : List Lf → Option R) (k0 : Bool × LD → Option R) : b33 N L x kr k0 = (b33 N L x (fun y => some (.inl y)) (fun p => some (.inr p))).bind (a1m kr k0) := by
 unfold b33 b0y
 repeat' (first | with_reducible apply a0k | (with_reducible apply a0y; intro _) | rfl)
def b7x (L : List Lf) (m : Nat) (x : List Lf) : Option (Bool × LD) := b7w N (R := (Bool × LD)) (ll L 1) (ll L 3) (li L 4) m (li x 0) (lb x 1) (ll x 2) (fun p => some p)
def b34 : Sh := { tmps := [(5, .c (.sl 40)), (6, .c (.o 6)), (15, .c (.sl 52)), (16, .c (.i .i64)), (17, .c (.i .i64))], mem := [(6, .row 47 true)] }
def e3m (L : List Lf) : List (Bool × (Ex × St)) := bnd (b7x N L N (pk b34 [5, 6, 7] L)) fun q => [(q.isSome, ((.exit 0), ⟨[(6, .c (.o 6))], [(6, .row 47 true (q.getD default).1 (q.getD default).2)]⟩))]
theorem c9e (m : Nat) (kn : St → Option (Ex × St)) (L x : List Lf) : lpB Tryz.prog (d3Q N) (d9p N).h 0 38 12 b34 [5, 6, 7] [4, 6] [6] (m + 100) kn L x = b33 N L x (fun y => kn (a0p b34 (mx b34 [5, 6, 7] L y))) (fun p => some ((.exit 0), ⟨[(6, .c (.o 6))], [(6, .row 47 true p.1 p.2)]⟩)) := by kernel_rfl
theorem d9q (L : List Lf) (m : Nat) (x : List Lf) : b7x N L (m + 1) x = b33 N L x (b7x N L m) some := by kernel_rfl
def d9r : Sg Tryz.prog 0 38 :=
 (d9p N).lp (e3m N) N a0e (b3Z N) (fun m kn L x => (c9e N m kn L x).trans (c6U N L x _ _)) (fun L m x => (d9q N L m x).trans (c6U N L x (b7x N L m) some)) fun L x hx => a1f x hx
def d3S (v1 : LD) (v2 : Bool) (v3 : LD) (k0 : Bool × LD → Option R) : Option R :=
 bnd (c31 N N v2 v3) fun y0 =>
 bif y0.isSome then
  bnd (d1M N (y0.getD default).2 v1 (v1.length : Int) 0 true []) fun y1 =>
  bif y1.isSome then
   k0 (y1.getD default)
  else
   none
 else
  none
def d9s (v1 : LD) (v2 : Bool) (v3 : LD) : Option (Bool × LD) := d3S N v1 v2 v3 (fun p => some p)
theorem e3n (v1 : LD) (v2 : Bool) (v3 : LD) (k0 : Bool × LD → Option R) : d3S N v1 v2 v3 k0 = (d9s N v1 v2 v3).bind k0 := by
 unfold d9s d3S
 repeat' (first | with_reducible apply a0k | (with_reducible apply a0y; intro _) | rfl)
def d9t : Sh := { tmps := [(0, .c (.sl 52)), (1, .c (.sl 40))], mem := [] }
def f2Y (L : List Lf) : List (Bool × Res) := bnd (d3S N (ll L 1) (lb L 2) (ll L 3) (fun p => some p)) fun q => [(q.isSome, ([.c (.sl 47 (q.getD default).1 (q.getD default).2)], []))]
theorem e8t (L : List Lf) : bd Tryz.prog (d3Q N) (d9r N).h 38 d9t L = d3S N (ll L 1) (lb L 2) (ll L 3) (fun p => some ([.c (.sl 47 p.1 p.2)], [])) := by kernel_rfl
theorem f2Z : a0V Tryz.prog 38 d9t (f2Y N) :=
 (d9r N).fn a0e (b3Z N) fun L x hx => ((e8t N L).trans ((e3n N ..).trans (a1f x hx)))
def e8u : a0f := ext 38 (a2n d9t (f2Y N)) (d3Q N)
theorem d1N : a0b Tryz.prog (e8u N) := a0V.to (f2Z N) (b3Z N)
def f3a : List (Nat × List Nat) := [(0, [0, 1]), (1, [0, 1]), (2, [6, 1, 0]), (3, [6]), (4, [1, 0]), (5, [7, 0, 1]), (6, [7]), (7, [0, 1])]
def f3b : a0M := []
def d9u (N : Nat) : Sg Tryz.prog 0 16 := .start f3b f3a
def d3T (v1 : LD) (v2 : Bool) (v3 : LD) (k0 : Bool × LD × Int → Option R) : Option R :=
 bnd (d8w N v1) fun y0 =>
 bif y0.isSome then
  bif ((y0.getD default) != 0) then
   k0 (true, [], (y0.getD default))
  else
   bnd (d8J N v3) fun y1 =>
   bif y1.isSome then
    bif ((y1.getD default) != 0) then
     k0 (true, [], (y1.getD default))
    else
     bnd (d9s N v1 v2 v3) fun y2 =>
     bif y2.isSome then
      k0 ((y2.getD default).1, (y2.getD default).2, 0)
     else
      none
   else
    none
 else
  none
def c9f (v1 : LD) (v2 : Bool) (v3 : LD) : Option (Bool × LD × Int) := d3T N v1 v2 v3 (fun p => some p)
theorem e3o (v1 : LD) (v2 : Bool) (v3 : LD) (k0 : Bool × LD × Int → Option R) : d3T N v1 v2 v3 k0 = (c9f N v1 v2 v3).bind k0 := by
 unfold c9f d3T
 repeat' (first | with_reducible apply a0k | (with_reducible apply a0y; intro _) | rfl)
def d9v : Sh := { tmps := [(0, .c (.sl 52)), (1, .c (.sl 40))], mem := [] }
def f3c (L : List Lf) : List (Bool × Res) := bnd (d3T N (ll L 1) (lb L 2) (ll L 3) (fun p => some p)) fun q => [(q.isSome, ([.c (.sl 47 (q.getD default).1 (q.getD default).2.1), .c (.i .i64 (q.getD default).2.2)], []))]
theorem e8v (L : List Lf) : bd Tryz.prog (e8u N) (d9u N).h 16 d9v L = d3T N (ll L 1) (lb L 2) (ll L 3) (fun p => some ([.c (.sl 47 p.1 p.2.1), .c (.i .i64 p.2.2)], [])) := by kernel_rfl
theorem f3d : a0V Tryz.prog 16 d9v (f3c N) :=
 (d9u N).fn a0e (d1N N) fun L x hx => ((e8v N L).trans ((e3o N ..).trans (a1f x hx)))
def f3e : a0f := ext 16 (a2n d9v (f3c N)) (e8u N)
theorem e3p : a0b Tryz.prog (f3e N) := a0V.to (f3d N) (d1N N)
def e4L : Sh := e4M
def f3f (N : Nat) (L : List Lf) : List (Bool × Res) := f3g L
theorem f3h : a0V Tryz.prog 12 e4L (f3f N) := e8w
def e8x : a0f := ext 12 (a2n e4L (f3f N)) (f3e N)
theorem d1O : a0b Tryz.prog (e8x N) := a0V.to (f3h N) (e3p N)
def f3i : List (Nat × List Nat) := [(0, [0, 1]), (1, [2, 1])]
def f3j : a0M := []
def d9w (N : Nat) : Sg Tryz.prog 1 18 := .start f3j f3i
def d3U (N : Nat) (v0 v3 : LB) (k0 : Bool → R) : R :=
 k0 (v0 == v3)
def e3q (v0 v3 : LB) : Bool := d3U N v0 v3 (fun p => p)
theorem e8y (v0 v3 : LB) (k0 : Bool → R) : d3U N v0 v3 k0 = k0 (e3q N v0 v3) := by
 unfold e3q d3U
 repeat' (first | rfl | apply a0q | (apply a0K; intro _))
def c6V : Sh := { tmps := [(0, .g ([.s, .s, .i .i64])), (1, .c (.p 0 0))], mem := [(0, .box ([.s, .s, .i .i64]))] }
def f3k (L : List Lf) : List (Bool × Res) := bnd (d3U N (ls L 0) (ls L 3) (fun p => p)) fun q => [(true, ([.c (.b q)], mgA (a0p c6V L).mem [] [0]))]
theorem e8z (L : List Lf) : bd Tryz.prog (e8x N) (d9w N).h 18 c6V L = d3U N (ls L 0) (ls L 3) (fun p => some ([.c (.b p)], mgA (a0p c6V L).mem [] [0])) := by kernel_rfl
theorem f3l : a0V Tryz.prog 18 c6V (f3k N) :=
 (d9w N).fn a0e (d1O N) fun L x hx => ((e8z N L).trans ((e8y N ..).trans (a2f _ _ hx)))
def e3r : a0f := ext 18 (a2n c6V (f3k N)) (e8x N)
theorem c4d : a0b Tryz.prog (e3r N) := a0V.to (f3l N) (d1O N)
def f3m : List (Nat × List Nat) := [(0, [0, 1]), (1, [0, 1]), (2, [8, 7, 1, 0]), (3, [8, 1, 0, 7]), (4, [1, 0, 5, 8, 7]), (5, [5]), (6, [8, 7, 1, 0]), (7, [])]
def f3n : a0M := [(6, [0, 1, 7, 8], [0], [])]
def d9x (N : Nat) : Sg Tryz.prog 1 17 := .start f3n f3m
def b9l (w1 : LD) (w2 : Int) (w4 : LB) (w3 : Int) (kr : Int → Option R) (k0 : Int → Option R) (k1 : Unit → Option R) : Option R :=
 bif (decide (w3 < w2)) then
  bif (inB w3 w1.length) then
   bnd (e3q N ((w1.getD w3.toNat (.i 0)).cell 0).toS w4) fun y0 =>
   bif y0 then
    k0 w3
   else
    kr (IntKind.wrap .i64 (w3 + 1))
  else
   none
 else
  k1 ()
def c4e (N : Nat) {R : Type} (w1 : LD) (w2 : Int) (w4 : LB) : Nat → Int → (Int → Option R) → (Unit → Option R) → Option R
 | 0, _, _, _ => none
 | m + 1, w3, k0, k1 => b9l N w1 w2 w4 w3 (fun w3 => c4e N w1 w2 w4 m w3 k0 k1) k0 k1
def d9y (w1 : LD) (w2 : Int) (w4 : LB) (w3 : Int) : Option (Sum (Int) (Unit)) := c4e N (R := (Sum (Int) (Unit))) w1 w2 w4 N w3 (fun p => some (.inl p)) (fun p => some (.inr p))
def b9m (L x : List Lf) (kr : List Lf → Option R) (k0 : Int → Option R) (k1 : Unit → Option R) : Option R := b9l N (ll L 1) (li L 2) (ls L 4) (li x 0) (fun w3 => kr [.i w3]) k0 k1
theorem d1P (L x : List Lf) (kr : List Lf → Option R) (k0 : Int → Option R) (k1 : Unit → Option R) : b9m N L x kr k0 k1 = (b9m N L x (fun y => some (.inl y)) (fun p => some (.inr (.inl p))) (fun p => some (.inr (.inr p)))).bind (a1m kr (a1m k0 k1)) := by
 unfold b9m b9l
 repeat' (first | with_reducible apply a0k | (with_reducible apply a0y; intro _) | rfl)
def c4f (L : List Lf) (m : Nat) (x : List Lf) : Option (Sum (Int) (Unit)) := c4e N (R := (Sum (Int) (Unit))) (ll L 1) (li L 2) (ls L 4) m (li x 0) (fun p => some (.inl p)) (fun p => some (.inr p))
def a8f : Sh := { tmps := [(0, .c (.sl 47)), (1, .c (.f 18 [(0, 0)])), (7, .c (.i .i64)), (8, .c (.i .i64))], mem := [(0, .box ([.s, .s, .i .i64]))] }
def c6W (L : List Lf) (p : Int) : Ex × St := (.ret, mg (a0p a8f L) [4] [(4, .c (.i .i64 p))] [0] [])
def e8A (L : List Lf) : List (Bool × (Ex × St)) := bnd (c4f N L N (pk a8f [3] L)) fun q => [((a04 q), c6W L (a0P q)), ((a0r q).isSome, ((.exit 0), mg (a0p a8f L) [] [] [0] []))]
theorem d3V (m : Nat) (kn : St → Option (Ex × St)) (L x : List Lf) : lpB Tryz.prog (e3r N) (d9x N).h 1 17 6 a8f [3] [4] [0] (m + 100) kn L x = b9m N L x (fun y => kn (a0p a8f (mx a8f [3] L y))) (fun p => some (c6W L p)) (fun _ => some ((.exit 0), mg (a0p a8f L) [] [] [0] [])) := by kernel_rfl
theorem e3s (L : List Lf) (m : Nat) (x : List Lf) : c4f N L (m + 1) x = b9m N L x (c4f N L m) (fun p => some (.inl p)) (fun p => some (.inr p)) := by kernel_rfl
def d9z : Sg Tryz.prog 1 17 :=
 (d9x N).lp (e8A N) N a0e (c4d N) (fun m kn L x => (d3V N m kn L x).trans (d1P N L x _ _ _)) (fun L m x => (e3s N L m x).trans (d1P N L x (c4f N L m) (fun p => some (.inl p)) (fun p => some (.inr p)))) fun L x hx => (a4i a1f) x hx
def d3W (v1 : LD) (v2 : LB) (k0 : Int → Option R) : Option R :=
 bnd (d9y N v1 (v1.length : Int) v2 0) fun y0 =>
 bif (a04 y0) then
  k0 (a0P y0)
 else
  bif (a0r y0).isSome then
   k0 (-1)
  else
   none
def d9A (v1 : LD) (v2 : LB) : Option (Int) := d3W N v1 v2 (fun p => some p)
theorem e3t (v1 : LD) (v2 : LB) (k0 : Int → Option R) : d3W N v1 v2 k0 = (d9A N v1 v2).bind k0 := by
 unfold d9A d3W
 repeat' (first | with_reducible apply a0k | (with_reducible apply a0y; intro _) | rfl)
def c6X : Sh := { tmps := [(0, .c (.sl 47)), (1, .c (.f 18 [(0, 0)]))], mem := [(0, .box ([.s, .s, .i .i64]))] }
def f3o (L : List Lf) : List (Bool × Res) := bnd (d3W N (ll L 1) (ls L 2) (fun p => some p)) fun q => [(q.isSome, ([.c (.i .i64 (q.getD default))], mgA (a0p c6X L).mem [] [0]))]
theorem e8B (L : List Lf) : bd Tryz.prog (e3r N) (d9z N).h 17 c6X L = d3W N (ll L 1) (ls L 2) (fun p => some ([.c (.i .i64 p)], mgA (a0p c6X L).mem [] [0])) := by kernel_rfl
theorem f3p : a0V Tryz.prog 17 c6X (f3o N) :=
 (d9z N).fn a0e (c4d N) fun L x hx => ((e8B N L).trans ((e3t N ..).trans (a1f x hx)))
def c9g : a0f := ext 17 (a2n c6X (f3o N)) (e3r N)
theorem b0z : a0b Tryz.prog (c9g N) := a0V.to (f3p N) (c4d N)
def f4G : List (Nat × List Nat) := [(0, [2, 0, 1]), (1, [0, 1, 5]), (2, [0, 1, 5, 8, 7]), (3, [8, 10, 0, 1, 7, 9]), (4, [0, 1, 8]), (5, [8, 12]), (6, [7, 9]), (7, [52, 51, 50, 9]), (8, [50, 52, 9, 51]), (9, [9, 14, 52, 51, 50]), (10, [15, 9, 14, 52, 51, 50]), (11, []), (12, [52, 51, 50, 9]), (13, [])]
def f4H : a0M := [(7, [0, 1, 5, 7, 8], [5], []), (16, [8, 12], [], []), (21, [9, 50, 51, 52], [], []), (31, [9, 14, 15, 50, 51, 52], [14], [])]
def e4N (N : Nat) : Sg Tryz.prog 0 5 := .start f4H f4G
def c6Y (w1 : LD) (w2 : Bool) (w3 : LD) (w7 : LB) (w8 w9 w10 w11 w12 w13 : Int) (w14 : Bool) (w15 : LD) (k0 : Bool × LD × Int → Option R) : Option R :=
 bnd (e2I N w2 w3) fun y0 =>
 bif (a04 y0) then
  bnd (c6x N w1 [(.a [(.s w7), (.i w8), (.i w9), (.i w10), (.i w11), (.i w12), (.i w13), (.l w14 w15)])]) fun y1 =>
  bif y1.isSome then
   k0 (y1.getD default)
  else
   none
 else
  bif (a0r y0).isSome then
   bif (decide ((w3.length + 1) * 88 ≤ b1h) && decide ((w3.length + 1) ≤ a0U)) then
    bnd ((w3 ++ [(.a [(.s w7), (.i w8), (.i w9), (.i w10), (.i w11), (.i w12), (.i w13), (.l w14 w15)])]) : List D) fun y2 =>
    bnd (c6x N w1 y2) fun y3 =>
    bif y3.isSome then
     k0 (y3.getD default)
    else
     none
   else
    none
  else
   none
def c6Z (w1 : LD) (w2 : Bool) (w3 : LD) (w7 : LB) (w8 w9 w10 w11 w12 w13 : Int) (w14 : Bool) (w15 : LD) : Option (Bool × LD × Int) := c6Y N w1 w2 w3 w7 w8 w9 w10 w11 w12 w13 w14 w15 (fun p => some p)
theorem d9B (w1 : LD) (w2 : Bool) (w3 : LD) (w7 : LB) (w8 w9 w10 w11 w12 w13 : Int) (w14 : Bool) (w15 : LD) (k0 : Bool × LD × Int → Option R) : c6Y N w1 w2 w3 w7 w8 w9 w10 w11 w12 w13 w14 w15 k0 = (c6Z N w1 w2 w3 w7 w8 w9 w10 w11 w12 w13 w14 w15).bind k0 := by
 unfold c6Z c6Y
 repeat' (first | with_reducible apply a0k | (with_reducible apply a0y; intro _) | rfl)
def e4O (L : List Lf) (k0 : Bool × LD × Int → Option R) : Option R := c6Y N (ll L 1) (lb L 2) (ll L 3) (ls L 7) (li L 8) (li L 9) (li L 10) (li L 11) (li L 12) (li L 13) (lb L 14) (ll L 15) k0
def d9C : Sh := { tmps := [(0, .c (.sl 52)), (1, .c (.sl 40)), (5, .c (.p 5 0)), (7, .c (.sl 47)), (8, .c (.i .i64))], mem := [(5, .box (.s :: rI 6 ([.sl 9])))] }
def d1Q (L : List Lf) (p : Bool × LD × Int) : Ex × St := (.normal, mg (a0p d9C L) [0, 1, 7, 8, 9, 10] [(9, .c (.sl 47 p.1 p.2.1)), (10, .c (.i .i64 p.2.2))] [] [])
def f3q (L : List Lf) : List (Bool × (Ex × St)) := bnd (e4O N L (fun p => some p)) fun q => [(q.isSome, d1Q L (q.getD default))]
theorem e3u (L : List Lf) : pc Tryz.prog (c9g N) (e4N N).h 0 100 5 7 d9C L [0, 1, 7, 8, 9, 10] [] = e4O N L (fun p => some (d1Q L p)) := by kernel_rfl
def e4P : Sg Tryz.prog 0 5 :=
 (e4N N).cut (f3q N) a0e (b0z N) fun L x hx => (e3u N L).trans ((d9B N ..).trans (a1f x hx))
def b4Q (N : Nat) (w0 w1 : Int) (k0 : Bool → R) : R :=
 bif (w0 == w1) then
  k0 true
 else
  k0 false
def c4g (w0 w1 : Int) : Bool := b4Q N w0 w1 (fun p => p)
theorem d9D (w0 w1 : Int) (k0 : Bool → R) : b4Q N w0 w1 k0 = k0 (c4g N w0 w1) := by
 unfold c4g b4Q
 repeat' (first | rfl | apply a0q | (apply a0K; intro _))
def e3v : Sh := { tmps := [(8, .c (.i .i64)), (12, .c (.i .i64))], mem := [] }
def e8C (L : List Lf) : List (Bool × (Ex × St)) := bnd (b4Q N (li L 0) (li L 1) (fun p => p)) fun q => [(true, (.normal, ⟨[(6, .c (.b q))], []⟩))]
theorem d9E (L : List Lf) : pc Tryz.prog (c9g N) (e4P N).h 0 100 5 16 e3v L [6] [] = b4Q N (li L 0) (li L 1) (fun p => some (.normal, ⟨[(6, .c (.b p))], []⟩)) := by kernel_rfl
def e4Q : Sg Tryz.prog 0 5 :=
 (e4P N).cut (e8C N) a0e (b0z N) fun L x hx => (d9E N L).trans ((d9D N ..).trans (a2f _ _ hx))
def b4R (N : Nat) (w1 : LD) (w2 w9 : Int) (k0 : Bool → Option R) : Option R :=
 bif (decide (w2 < 0)) then
  k0 true
 else
  bif (inB w2 w1.length) then
   k0 (decide (((w1.getD w2.toNat (.i 0)).cell 2).toI > w9))
  else
   none
def b9n (w1 : LD) (w2 w9 : Int) : Option (Bool) := b4R N w1 w2 w9 (fun p => some p)
theorem d3X (w1 : LD) (w2 w9 : Int) (k0 : Bool → Option R) : b4R N w1 w2 w9 k0 = (b9n N w1 w2 w9).bind k0 := by
 unfold b9n b4R
 repeat' (first | with_reducible apply a0k | (with_reducible apply a0y; intro _) | rfl)
def d1R : Sh := { tmps := [(9, .c (.sl 47)), (14, .c (.p 14 0)), (15, .c (.i .i64)), (50, .c (.sl 47)), (51, .c (.i .i64)), (52, .c (.i .i64))], mem := [(14, .box ([.s, .s, .i .i64]))] }
def c60 (L : List Lf) (p : Bool) : Ex × St := (.normal, mg (a0p d1R L) [9, 50, 51, 52, 70] [(70, .c (.b p))] [] [])
def e8D (L : List Lf) : List (Bool × (Ex × St)) := bnd (b4R N (ll L 1) (li L 2) (li L 9) (fun p => some p)) fun q => [(q.isSome, c60 L (q.getD default))]
theorem d9F (L : List Lf) : pc Tryz.prog (c9g N) (e4Q N).h 0 100 5 31 d1R L [9, 50, 51, 52, 70] [] = b4R N (ll L 1) (li L 2) (li L 9) (fun p => some (c60 L p)) := by kernel_rfl
def e4R : Sg Tryz.prog 0 5 :=
 (e4Q N).cut (e8D N) a0e (b0z N) fun L x hx => (d9F N L).trans ((d3X N ..).trans (a1f x hx))
def b4S (w1 w3 : LD) (w4 : Int) (w5 : Int) (kr : Int → Option R) (k0 : Unit → Option R) (k1 : Unit → Option R) : Option R :=
 bif (decide (w5 < w4)) then
  bif (inB w5 w3.length) then
   bnd (d9A N w1 ((w3.getD w5.toNat (.i 0)).cell 0).toS) fun y0 =>
   bif y0.isSome then
    bnd (b9n N w1 (y0.getD default) ((w3.getD w5.toNat (.i 0)).cell 2).toI) fun y1 =>
    bif y1.isSome then
     bif (y1.getD default) then
      k0 ()
     else
      kr (IntKind.wrap .i64 (w5 + 1))
    else
     none
   else
    none
  else
   none
 else
  k1 ()
def c4h (N : Nat) {R : Type} (w1 w3 : LD) (w4 : Int) : Nat → Int → (Unit → Option R) → (Unit → Option R) → Option R
 | 0, _, _, _ => none
 | m + 1, w5, k0, k1 => b4S N w1 w3 w4 w5 (fun w5 => c4h N w1 w3 w4 m w5 k0 k1) k0 k1
def c9h (w1 w3 : LD) (w4 : Int) (w5 : Int) : Option (Sum (Unit) (Unit)) := c4h N (R := (Sum (Unit) (Unit))) w1 w3 w4 N w5 (fun p => some (.inl p)) (fun p => some (.inr p))
def b9o (L x : List Lf) (kr : List Lf → Option R) (k0 : Unit → Option R) (k1 : Unit → Option R) : Option R := b4S N (ll L 1) (ll L 3) (li L 4) (li x 0) (fun w5 => kr [.i w5]) k0 k1
theorem d1S (L x : List Lf) (kr : List Lf → Option R) (k0 : Unit → Option R) (k1 : Unit → Option R) : b9o N L x kr k0 k1 = (b9o N L x (fun y => some (.inl y)) (fun p => some (.inr (.inl p))) (fun p => some (.inr (.inr p)))).bind (a1m kr (a1m k0 k1)) := by
 unfold b9o b4S
 repeat' (first | with_reducible apply a0k | (with_reducible apply a0y; intro _) | rfl)
def c4i (L : List Lf) (m : Nat) (x : List Lf) : Option (Sum (Unit) (Unit)) := c4h N (R := (Sum (Unit) (Unit))) (ll L 1) (ll L 3) (li L 4) m (li x 0) (fun p => some (.inl p)) (fun p => some (.inr p))
def b7y : Sh := { tmps := [(9, .c (.sl 47)), (50, .c (.sl 47)), (51, .c (.i .i64)), (52, .c (.i .i64))], mem := [] }
def e8E (L : List Lf) : List (Bool × (Ex × St)) := bnd (c4i N L N (pk b7y [5] L)) fun q => [((a04 q), (.ret, ⟨[(6, .c (.b false))], []⟩)), ((a0r q).isSome, ((.exit 0), ⟨[], []⟩))]
theorem d3Y (m : Nat) (kn : St → Option (Ex × St)) (L x : List Lf) : lpB Tryz.prog (c9g N) (e4R N).h 0 5 21 b7y [5] [6] [] (m + 100) kn L x = b9o N L x (fun y => kn (a0p b7y (mx b7y [5] L y))) (fun _ => some (.ret, ⟨[(6, .c (.b false))], []⟩)) (fun _ => some ((.exit 0), ⟨[], []⟩)) := by kernel_rfl
theorem e3w (L : List Lf) (m : Nat) (x : List Lf) : c4i N L (m + 1) x = b9o N L x (c4i N L m) (fun p => some (.inl p)) (fun p => some (.inr p)) := by kernel_rfl
def e4S : Sg Tryz.prog 0 5 :=
 (e4R N).lp (e8E N) N a0e (b0z N) (fun m kn L x => (d3Y N m kn L x).trans (d1S N L x _ _ _)) (fun L m x => (e3w N L m x).trans (d1S N L x (c4i N L m) (fun p => some (.inl p)) (fun p => some (.inr p)))) fun L x hx => (a4i a1f) x hx
def f3r (v1 : LD) (v2 : Bool) (v3 : LD) (v4 : LB) (v5 v6 v7 v8 v9 v10 : Int) (v11 : Bool) (v12 : LD) (k0 : Bool → Option R) : Option R :=
 bnd (c6x N v1 v3) fun y0 =>
 bif y0.isSome then
  bnd (c6Z N v1 v2 v3 v4 v5 v6 v7 v8 v9 v10 v11 v12) fun y1 =>
  bif y1.isSome then
   bnd (bif ((y0.getD default).2.2 != 0) then true else ((y1.getD default).2.2 != 0)) fun y2 =>
   bif y2 then
    bnd (c9f N v1 v2 v3) fun y3 =>
    bif y3.isSome then
     bnd (c4g N (y0.getD default).2.2 (y3.getD default).2.2) fun y4 =>
     k0 y4
    else
     none
   else
    bnd (c9h N (y1.getD default).2.1 (y0.getD default).2.1 ((y0.getD default).2.1.length : Int) 0) fun y5 =>
    bif (a04 y5) then
     k0 false
    else
     bif (a0r y5).isSome then
      k0 true
     else
      none
  else
   none
 else
  none
def f3s (v1 : LD) (v2 : Bool) (v3 : LD) (v4 : LB) (v5 v6 v7 v8 v9 v10 : Int) (v11 : Bool) (v12 : LD) : Option (Bool) := f3r N v1 v2 v3 v4 v5 v6 v7 v8 v9 v10 v11 v12 (fun p => some p)
theorem e8F (v1 : LD) (v2 : Bool) (v3 : LD) (v4 : LB) (v5 v6 v7 v8 v9 v10 : Int) (v11 : Bool) (v12 : LD) (k0 : Bool → Option R) : f3r N v1 v2 v3 v4 v5 v6 v7 v8 v9 v10 v11 v12 k0 = (f3s N v1 v2 v3 v4 v5 v6 v7 v8 v9 v10 v11 v12).bind k0 := by
 unfold f3s f3r
 repeat' (first | with_reducible apply a0k | (with_reducible apply a0y; intro _) | rfl)
def f5x (L : List Lf) (k0 : Bool → Option R) : Option R := f3r N (ll L 1) (lb L 2) (ll L 3) (ls L 4) (li L 5) (li L 6) (li L 7) (li L 8) (li L 9) (li L 10) (lb L 11) (ll L 12) k0
def e8G : Sh := { tmps := [(0, .c (.sl 52)), (1, .c (.sl 40)), (2, .g (.s :: rI 6 ([.sl 9])))], mem := [] }
def f4e (L : List Lf) : List (Bool × Res) := bnd (f5x N L (fun p => some p)) fun q => [(q.isSome, ([.c (.b (q.getD default))], []))]
theorem f3t (L : List Lf) : bd Tryz.prog (c9g N) (e4S N).h 5 e8G L = f5x N L (fun p => some ([.c (.b p)], [])) := by kernel_rfl
theorem f3u : a0V Tryz.prog 5 e8G (f4e N) :=
 (e4S N).fn a0e (b0z N) fun L x hx => ((f3t N L).trans ((e8F N ..).trans (a1f x hx)))
def f5y : a0f := ext 5 (a2n e8G (f4e N)) (c9g N)
theorem f4I : a0b Tryz.prog (f5y N) := a0V.to (f3u N) (b0z N)
end
end Go.Proofs.YtfkkcdapcgimlaaGreatDoor
