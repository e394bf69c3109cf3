/- A part of a proof of a law: lemmas. Conditions: those of each lemma. -/
import Derived.Test.YtfogaejiehebeaaHk1
set_option linter.all false
set_option maxRecDepth 100000
set_option linter.unusedVariables false
set_option linter.unusedSimpArgs false
set_option maxRecDepth 100000
namespace Go.Proofs.Ytfogaejiehebeaa
open Go Go.AM
abbrev LD : Type := List D
abbrev LB : Type := List UInt8
abbrev Ty0 : Type := Bool × Bool × Int × Bool × LD × Int × Int × Int
abbrev Ty1 : Type := LB × LB × Bool
abbrev Ty2 : Type := Bool × LD × Bool × LD
abbrev Ty3 : Type := Int × LB × Bool
variable (N : Nat) {R : Type}
noncomputable def e5d : List (Nat × List Nat) := [(0, []), (1, [])]
noncomputable def e5e : a0r := []
noncomputable def c9u (N : Nat) : Sg Try.prog 0 36 := .start e5e e5d
noncomputable def c9v (N : Nat) (k0 : D → R) : R :=
 k0 (.a [(.b false), (.b false), (.i 0), (.l true []), (.i 0), (.i 0), (.b false), (.b false), (.i 0), (.l true []), (.i 0), (.i 0), (.b false), (.b false), (.i 0), (.l true []), (.i 0), (.i 0), (.b false), (.b false), (.i 0), (.l true []), (.i 0), (.i 0), (.b false), (.b false), (.i 0), (.l true []), (.i 0), (.i 0), (.b false), (.b false), (.i 0), (.l true []), (.i 0), (.i 0), (.b false), (.b false), (.i 0), (.l true []), (.i 0), (.i 0), (.b false), (.b false), (.i 0), (.l true []), (.i 0), (.i 0), (.b false), (.b false), (.i 0), (.l true []), (.i 0), (.i 0), (.b false), (.b false), (.i 0), (.l true []), (.i 0), (.i 0), (.b false), (.b false), (.i 0), (.l true []), (.i 0), (.i 0), (.b false), (.b false), (.i 0), (.l true []), (.i 0), (.i 0), (.b false), (.b false), (.i 0), (.l true []), (.i 0), (.i 0), (.b false), (.b false), (.i 0), (.l true []), (.i 0), (.i 0), (.b false), (.b false), (.i 0), (.l true []), (.i 0), (.i 0), (.b false), (.b false), (.i 0), (.l true []), (.i 0), (.i 0), (.i (-1))])
noncomputable def a9T : D := c9v N (fun p => p)
theorem e1g (k0 : D → R) : c9v N k0 = k0 (a9T N) := by
 unfold a9T c9v
 repeat' (first | rfl | apply a0M | (apply a1u; intro _))
noncomputable def c9w : Sh := { tmps := [], mem := [] }
noncomputable def e5f (L : List Lf) : List (Bool × Res) := bnd (c9v N (fun p => p)) fun q => [(true, ([.c (.p 2 0)], [(2, .dat 93 q)]))]
theorem e1h (L : List Lf) : bd Try.prog a3o (c9u N).h 36 c9w L = c9v N (fun p => some ([.c (.p 2 0)], [(2, .dat 93 p)])) := by kernel_rfl
theorem e5g : a0t Try.prog 36 c9w (e5f N) :=
 (c9u N).fn a0b a1S fun L x hx => ((e1h N L).trans ((e1g N ..).trans (a4q _ _ hx)))
noncomputable def e1i : a0e := ext 36 (a1b c9w (e5f N)) a3o
theorem c3v : a0c Try.prog (e1i N) := a0t.to (e5g N) a1S
noncomputable def e5h : List (Nat × List Nat) := [(0, [0, 1, 2]), (1, [0, 1, 2])]
noncomputable def e5i : a0r := []
noncomputable def c9x (N : Nat) : Sg Try.prog 0 35 := .start e5i e5h
noncomputable def c1x (N : Nat) (v0 v1 v2 : Int) (k0 : Bool → R) : R :=
 k0 (bif (decide (v0 ≥ v1)) then (decide (v0 ≤ v2)) else false)
noncomputable def a2N (v0 v1 v2 : Int) : Bool := c1x N v0 v1 v2 (fun p => p)
theorem e1j (v0 v1 v2 : Int) (k0 : Bool → R) : c1x N v0 v1 v2 k0 = k0 (a2N N v0 v1 v2) := by
 unfold a2N c1x
 repeat' (first | rfl | apply a0M | (apply a1u; intro _))
noncomputable def c9y : Sh := { tmps := [(0, .c (.i .i64)), (1, .c (.i .i64)), (2, .c (.i .i64))], mem := [] }
noncomputable def e5j (L : List Lf) : List (Bool × Res) := bnd (c1x N (li L 0) (li L 1) (li L 2) (fun p => p)) fun q => [(true, ([.c (.b q)], []))]
theorem e1k (L : List Lf) : bd Try.prog (e1i N) (c9x N).h 35 c9y L = c1x N (li L 0) (li L 1) (li L 2) (fun p => some ([.c (.b p)], [])) := by kernel_rfl
theorem e5k : a0t Try.prog 35 c9y (e5j N) :=
 (c9x N).fn a0b (c3v N) fun L x hx => ((e1k N L).trans ((e1j N ..).trans (a4q _ _ hx)))
noncomputable def e1l : a0e := ext 35 (a1b c9y (e5j N)) (e1i N)
theorem c3w : a0c Try.prog (e1l N) := a0t.to (e5k N) (c3v N)
noncomputable def e5l : List (Nat × List Nat) := [(0, [0, 1]), (1, [2, 1])]
noncomputable def e5m : a0r := []
noncomputable def c9z (N : Nat) : Sg Try.prog 1 80 := .start e5m e5l
noncomputable def c5y (N : Nat) (v0 v3 : Int) (k0 : Bool → R) : R :=
 k0 (v0 == v3)
noncomputable def d6o (v0 v3 : Int) : Bool := c5y N v0 v3 (fun p => p)
theorem e1m (v0 v3 : Int) (k0 : Bool → R) : c5y N v0 v3 k0 = k0 (d6o N v0 v3) := by
 unfold d6o c5y
 repeat' (first | rfl | apply a0M | (apply a1u; intro _))
noncomputable def b9a : Sh := { tmps := [(0, .g ([.i .i64, .i .i64, .i .i64])), (1, .c (.p 0 0))], mem := [(0, .box ([.i .i64, .i .i64, .i .i64]))] }
noncomputable def e5n (L : List Lf) : List (Bool × Res) := bnd (c5y N (li L 0) (li L 3) (fun p => p)) fun q => [(true, ([.c (.b q)], mgA (a0x b9a L).mem [] [0]))]
theorem e1n (L : List Lf) : bd Try.prog (e1l N) (c9z N).h 80 b9a L = c5y N (li L 0) (li L 3) (fun p => some ([.c (.b p)], mgA (a0x b9a L).mem [] [0])) := by kernel_rfl
theorem e5o : a0t Try.prog 80 b9a (e5n N) :=
 (c9z N).fn a0b (c3w N) fun L x hx => ((e1n N L).trans ((e1m N ..).trans (a4q _ _ hx)))
noncomputable def d6p : a0e := ext 80 (a1b b9a (e5n N)) (e1l N)
theorem b58 : a0c Try.prog (d6p N) := a0t.to (e5o N) (c3w N)
noncomputable def e5p : List (Nat × List Nat) := [(0, [0, 1]), (1, [0, 1]), (2, [8, 7, 1, 0]), (3, [8, 1, 0, 7]), (4, [1, 0, 5, 8, 7]), (5, [5]), (6, [8, 7, 1, 0]), (7, [])]
noncomputable def e5q : a0r := [(6, [0, 1, 7, 8], [0], [])]
noncomputable def c9A (N : Nat) : Sg Try.prog 1 86 := .start e5q e5p
noncomputable def a8Y (w1 : LD) (w2 w4 : Int) (w3 : Int) (kr : Int → Option R) (k0 : Int → Option R) (k1 : Unit → Option R) : Option R :=
 bif (decide (w3 < w2)) then
  bif (inB w3 w1.length) then
   bnd (d6o N ((w1.getD w3.toNat (.i 0)).cell 0).toI w4) fun y0 =>
   bif y0 then
    k0 w3
   else
    kr (IntKind.wrap .i64 (w3 + 1))
  else
   none
 else
  k1 ()
noncomputable def b59 (N : Nat) {R : Type} (w1 : LD) (w2 w4 : Int) : Nat → Int → (Int → Option R) → (Unit → Option R) → Option R
 | 0, _, _, _ => none
 | m + 1, w3, k0, k1 => a8Y N w1 w2 w4 w3 (fun w3 => b59 N w1 w2 w4 m w3 k0 k1) k0 k1
noncomputable def c1y (w1 : LD) (w2 w4 : Int) (w3 : Int) : Option (Sum (Int) (Unit)) := b59 N (R := (Sum (Int) (Unit))) w1 w2 w4 N w3 (fun p => some (.inl p)) (fun p => some (.inr p))
noncomputable def b2I (L x : List Lf) (kr : List Lf → Option R) (k0 : Int → Option R) (k1 : Unit → Option R) : Option R := a8Y N (ll L 1) (li L 2) (li L 4) (li x 0) (fun w3 => kr [.i w3]) k0 k1
theorem c3x (L x : List Lf) (kr : List Lf → Option R) (k0 : Int → Option R) (k1 : Unit → Option R) : b2I N L x kr k0 k1 = (b2I N L x (fun y => some (.inl y)) (fun p => some (.inr (.inl p))) (fun p => some (.inr (.inr p)))).bind (a1a kr (a1a k0 k1)) := by
 unfold b2I a8Y
 repeat' (first | with_reducible apply a0d | (with_reducible apply a0l; intro _) | rfl)
noncomputable def b6a (L : List Lf) (m : Nat) (x : List Lf) : Option (Sum (Int) (Unit)) := b59 N (R := (Sum (Int) (Unit))) (ll L 1) (li L 2) (li L 4) m (li x 0) (fun p => some (.inl p)) (fun p => some (.inr p))
noncomputable def a34 : Sh := { tmps := [(0, .c (.sl 61)), (1, .c (.f 80 [(0, 0)])), (7, .c (.i .i64)), (8, .c (.i .i64))], mem := [(0, .box ([.i .i64, .i .i64, .i .i64]))] }
noncomputable def b9b (L : List Lf) (p : Int) : Ex × St := (.ret, mg (a0x a34 L) [4] [(4, .c (.i .i64 p))] [0] [])
noncomputable def e1o (L : List Lf) : List (Bool × (Ex × St)) := bnd (b6a N L N (pk a34 [3] L)) fun q => [((a07 q), b9b L (a3p q)), ((a0I q).isSome, ((.exit 0), mg (a0x a34 L) [] [] [0] []))]
theorem c5z (m : Nat) (kn : St → Option (Ex × St)) (L x : List Lf) : lpB Try.prog (d6p N) (c9A N).h 1 86 6 a34 [3] [4] [0] (m + 100) kn L x = b2I N L x (fun y => kn (a0x a34 (mx a34 [3] L y))) (fun p => some (b9b L p)) (fun _ => some ((.exit 0), mg (a0x a34 L) [] [] [0] [])) := by kernel_rfl
theorem d6q (L : List Lf) (m : Nat) (x : List Lf) : b6a N L (m + 1) x = b2I N L x (b6a N L m) (fun p => some (.inl p)) (fun p => some (.inr p)) := by kernel_rfl
noncomputable def c9B : Sg Try.prog 1 86 :=
 (c9A N).lp (e1o N) N a0b (b58 N) (fun m kn L x => (c5z N m kn L x).trans (c3x N L x _ _ _)) (fun L m x => (d6q N L m x).trans (c3x N L x (b6a N L m) (fun p => some (.inl p)) (fun p => some (.inr p)))) fun L x hx => (a3w a0D) x hx
noncomputable def c5A (v1 : LD) (v2 : Int) (k0 : Int → Option R) : Option R :=
 bnd (c1y N v1 (v1.length : Int) v2 0) fun y0 =>
 bif (a07 y0) then
  k0 (a3p y0)
 else
  bif (a0I y0).isSome then
   k0 (-1)
  else
   none
noncomputable def c9C (v1 : LD) (v2 : Int) : Option (Int) := c5A N v1 v2 (fun p => some p)
theorem d6r (v1 : LD) (v2 : Int) (k0 : Int → Option R) : c5A N v1 v2 k0 = (c9C N v1 v2).bind k0 := by
 unfold c9C c5A
 repeat' (first | with_reducible apply a0d | (with_reducible apply a0l; intro _) | rfl)
noncomputable def b9c : Sh := { tmps := [(0, .c (.sl 61)), (1, .c (.f 80 [(0, 0)]))], mem := [(0, .box ([.i .i64, .i .i64, .i .i64]))] }
noncomputable def e5r (L : List Lf) : List (Bool × Res) := bnd (c5A N (ll L 1) (li L 2) (fun p => some p)) fun q => [(q.isSome, ([.c (.i .i64 (q.getD default))], mgA (a0x b9c L).mem [] [0]))]
theorem e1p (L : List Lf) : bd Try.prog (d6p N) (c9B N).h 86 b9c L = c5A N (ll L 1) (li L 2) (fun p => some ([.c (.i .i64 p)], mgA (a0x b9c L).mem [] [0])) := by kernel_rfl
theorem e5s : a0t Try.prog 86 b9c (e5r N) :=
 (c9B N).fn a0b (b58 N) fun L x hx => ((e1p N L).trans ((d6r N ..).trans (a0D x hx)))
noncomputable def e1q : a0e := ext 86 (a1b b9c (e5r N)) (d6p N)
theorem c3y : a0c Try.prog (e1q N) := a0t.to (e5s N) (b58 N)
noncomputable def e5t : List (Nat × List Nat) := [(0, [0, 1]), (1, [0, 1])]
noncomputable def e5u : a0r := []
noncomputable def c9D (N : Nat) : Sg Try.prog 1 79 := .start e5u e5t
noncomputable def c5B (v1 : LD) (v2 : Int) (k0 : Bool → Option R) : Option R :=
 bnd (c9C N v1 v2) fun y0 =>
 bif y0.isSome then
  k0 (decide ((y0.getD default) ≥ 0))
 else
  none
noncomputable def c9E (v1 : LD) (v2 : Int) : Option (Bool) := c5B N v1 v2 (fun p => some p)
theorem d6s (v1 : LD) (v2 : Int) (k0 : Bool → Option R) : c5B N v1 v2 k0 = (c9E N v1 v2).bind k0 := by
 unfold c9E c5B
 repeat' (first | with_reducible apply a0d | (with_reducible apply a0l; intro _) | rfl)
noncomputable def b9d : Sh := { tmps := [(0, .c (.sl 61)), (1, .c (.f 80 [(0, 0)]))], mem := [(0, .box ([.i .i64, .i .i64, .i .i64]))] }
noncomputable def e5v (L : List Lf) : List (Bool × Res) := bnd (c5B N (ll L 1) (li L 2) (fun p => some p)) fun q => [(q.isSome, ([.c (.b (q.getD default))], mgA (a0x b9d L).mem [] [0]))]
theorem e1r (L : List Lf) : bd Try.prog (e1q N) (c9D N).h 79 b9d L = c5B N (ll L 1) (li L 2) (fun p => some ([.c (.b p)], mgA (a0x b9d L).mem [] [0])) := by kernel_rfl
theorem e5w : a0t Try.prog 79 b9d (e5v N) :=
 (c9D N).fn a0b (c3y N) fun L x hx => ((e1r N L).trans ((d6s N ..).trans (a0D x hx)))
noncomputable def c9F : a0e := ext 79 (a1b b9d (e5v N)) (e1q N)
theorem a95 : a0c Try.prog (c9F N) := a0t.to (e5w N) (c3y N)
noncomputable def e5x : List (Nat × List Nat) := [(0, [0]), (1, [1]), (3, [1]), (4, []), (2, []), (5, [1]), (6, [19, 18, 17, 1]), (7, [19, 17, 1, 18]), (8, [4, 1, 3, 19, 18, 17]), (9, [4, 5, 1, 3, 19, 18, 17]), (11, [4, 5, 1, 3, 19, 18, 17]), (13, [5, 4, 1, 3, 19, 18, 17]), (15, [1, 3, 4, 19, 18, 17]), (16, []), (14, []), (12, []), (10, []), (17, [19, 18, 17, 1]), (18, [])]
noncomputable def e5y : a0r := [(18, [1, 17, 18, 19], [1], []), (28, [1, 3, 4, 5, 17, 18, 19], [1, 4], [])]
noncomputable def c9G (N : Nat) : Sg Try.prog 0 71 := .start e5y e5x
noncomputable def a5k (w10 w11 : Int) (k0 : Bool → R) : R :=
 bnd (a2N N w10 0 255) fun y0 =>
 bif (!y0) then
  k0 true
 else
  bnd (a2N N w11 1 255) fun y1 =>
  k0 (!y1)
noncomputable def a96 (w10 w11 : Int) : Bool := a5k N w10 w11 (fun p => p)
theorem c5C (w10 w11 : Int) (k0 : Bool → R) : a5k N w10 w11 k0 = k0 (a96 N w10 w11) := by
 unfold a96 a5k
 repeat' (first | rfl | apply a0M | (apply a1u; intro _))
noncomputable def b9e : Sh := { tmps := [(1, .c (.p 1 0)), (3, .c (.i .i64)), (4, .c (.p 4 0)), (5, .c (.b)), (17, .c (.sl 61)), (18, .c (.i .i64)), (19, .c (.i .i64))], mem := [(1, .box ([.b, .i .i64, .sl 61])), (4, .box ([.i .i64, .i .i64, .i .i64]))] }
noncomputable def b4C (L : List Lf) (p : Bool) : Ex × St := (.normal, mg (a0x b9e L) [1, 3, 4, 5, 17, 18, 19, 32] [(32, .c (.b p))] [1, 4] [])
noncomputable def d6t (L : List Lf) : List (Bool × (Ex × St)) := bnd (a5k N (li L 10) (li L 11) (fun p => p)) fun q => [(true, b4C L q)]
theorem c5D (L : List Lf) : pc Try.prog (c9F N) (c9G N).h 0 100 71 28 b9e L [1, 3, 4, 5, 17, 18, 19, 32] [1, 4] = a5k N (li L 10) (li L 11) (fun p => some (b4C L p)) := by kernel_rfl
noncomputable def c9H : Sg Try.prog 0 71 :=
 (c9G N).cut (d6t N) a0b (a95 N) fun L x hx => (c5D N L).trans ((c5C N ..).trans (a4q _ _ hx))
noncomputable def a5l (w1 : LD) (w2 : Int) (w7 : LD) (w3 : Int) (kr : Int → Option R) (k0 : Int → Option R) (k1 : Unit → Option R) : Option R :=
 bif (decide (w3 < w2)) then
  bif (inB w3 w1.length) then
   bnd (bif (((w1.getD w3.toNat (.i 0)).cell 2).toI == 0) then true else (((w1.getD w3.toNat (.i 0)).cell 2).toI == 1)) fun y0 =>
   bnd (a96 N ((w1.getD w3.toNat (.i 0)).cell 0).toI ((w1.getD w3.toNat (.i 0)).cell 1).toI) fun y1 =>
   bif y1 then
    k0 9
   else
    bnd (a2N N ((w1.getD w3.toNat (.i 0)).cell 2).toI 0 3) fun y2 =>
    bif (!y2) then
     k0 7
    else
     bnd (bif y0 then (((w1.getD w3.toNat (.i 0)).cell 1).toI != 1) else false) fun y3 =>
     bnd (bif y3 then (((w1.getD w3.toNat (.i 0)).cell 1).toI != 2) else false) fun y4 =>
     bnd (bif y4 then (((w1.getD w3.toNat (.i 0)).cell 1).toI != 4) else false) fun y5 =>
     bif y5 then
      k0 2
     else
      bif ((decide (0 ≤ w3)) && (decide (w3 ≤ (w7.length : Int)))) then
       bnd (c9E N ((w7.take w3.toNat).drop 0) ((w1.getD w3.toNat (.i 0)).cell 0).toI) fun y6 =>
       bif y6.isSome then
        bif (y6.getD default) then
         k0 5
        else
         kr (IntKind.wrap .i64 (w3 + 1))
       else
        none
      else
       none
  else
   none
 else
  k1 ()
noncomputable def a97 (N : Nat) {R : Type} (w1 : LD) (w2 : Int) (w7 : LD) : Nat → Int → (Int → Option R) → (Unit → Option R) → Option R
 | 0, _, _, _ => none
 | m + 1, w3, k0, k1 => a5l N w1 w2 w7 w3 (fun w3 => a97 N w1 w2 w7 m w3 k0 k1) k0 k1
noncomputable def b6b (w1 : LD) (w2 : Int) (w7 : LD) (w3 : Int) : Option (Sum (Int) (Unit)) := a97 N (R := (Sum (Int) (Unit))) w1 w2 w7 N w3 (fun p => some (.inl p)) (fun p => some (.inr p))
noncomputable def a66 (L x : List Lf) (kr : List Lf → Option R) (k0 : Int → Option R) (k1 : Unit → Option R) : Option R := a5l N (ll L 1) (li L 2) (ll L 7) (li x 0) (fun w3 => kr [.i w3]) k0 k1
theorem b9f (L x : List Lf) (kr : List Lf → Option R) (k0 : Int → Option R) (k1 : Unit → Option R) : a66 N L x kr k0 k1 = (a66 N L x (fun y => some (.inl y)) (fun p => some (.inr (.inl p))) (fun p => some (.inr (.inr p)))).bind (a1a kr (a1a k0 k1)) := by
 unfold a66 a5l
 repeat' (first | with_reducible apply a0d | (with_reducible apply a0l; intro _) | rfl)
noncomputable def a98 (L : List Lf) (m : Nat) (x : List Lf) : Option (Sum (Int) (Unit)) := a97 N (R := (Sum (Int) (Unit))) (ll L 1) (li L 2) (ll L 7) m (li x 0) (fun p => some (.inl p)) (fun p => some (.inr p))
noncomputable def a67 : Sh := { tmps := [(1, .c (.p 1 0)), (17, .c (.sl 61)), (18, .c (.i .i64)), (19, .c (.i .i64))], mem := [(1, .box ([.b, .i .i64, .sl 61]))] }
noncomputable def d6u (L : List Lf) : List (Bool × (Ex × St)) := bnd (a98 N L N (pk a67 [3] L)) fun q => [((a07 q), (.ret, ⟨[(2, .c (.i .i64 (a3p q)))], []⟩)), ((a0I q).isSome, ((.exit 1), ⟨[], []⟩))]
theorem c1z (m : Nat) (kn : St → Option (Ex × St)) (L x : List Lf) : lpB Try.prog (c9F N) (c9H N).h 0 71 18 a67 [3] [2] [] (m + 100) kn L x = a66 N L x (fun y => kn (a0x a67 (mx a67 [3] L y))) (fun p => some (.ret, ⟨[(2, .c (.i .i64 p))], []⟩)) (fun _ => some ((.exit 1), ⟨[], []⟩)) := by kernel_rfl
theorem c9I (L : List Lf) (m : Nat) (x : List Lf) : a98 N L (m + 1) x = a66 N L x (a98 N L m) (fun p => some (.inl p)) (fun p => some (.inr p)) := by kernel_rfl
noncomputable def c9J : Sg Try.prog 0 71 :=
 (c9H N).lp (d6u N) N a0b (a95 N) (fun m kn L x => (c1z N m kn L x).trans (b9f N L x _ _ _)) (fun L m x => (c9I N L m x).trans (b9f N L x (a98 N L m) (fun p => some (.inl p)) (fun p => some (.inr p)))) fun L x hx => (a3w a0D) x hx
noncomputable def c5E (v1 : Int) (v3 : LD) (k0 : Int → Option R) : Option R :=
 bnd (a2N N v1 0 65535) fun y0 =>
 bif (!y0) then
  k0 9
 else
  bif (decide ((v3.length : Int) > 30)) then
   k0 3
  else
   bnd (b6b N v3 (v3.length : Int) v3 0) fun y1 =>
   bif (a07 y1) then
    k0 (a3p y1)
   else
    bif (a0I y1).isSome then
     k0 0
    else
     none
noncomputable def c9K (v1 : Int) (v3 : LD) : Option (Int) := c5E N v1 v3 (fun p => some p)
theorem d6v (v1 : Int) (v3 : LD) (k0 : Int → Option R) : c5E N v1 v3 k0 = (c9K N v1 v3).bind k0 := by
 unfold c9K c5E
 repeat' (first | with_reducible apply a0d | (with_reducible apply a0l; intro _) | rfl)
noncomputable def c9L : Sh := { tmps := [(0, .g ([.b, .i .i64, .sl 61]))], mem := [] }
noncomputable def e5z (L : List Lf) : List (Bool × Res) := bnd (c5E N (li L 1) (ll L 3) (fun p => some p)) fun q => [(q.isSome, ([.c (.i .i64 (q.getD default))], []))]
theorem e1s (L : List Lf) : bd Try.prog (c9F N) (c9J N).h 71 c9L L = c5E N (li L 1) (ll L 3) (fun p => some ([.c (.i .i64 p)], [])) := by kernel_rfl
theorem e5A : a0t Try.prog 71 c9L (e5z N) :=
 (c9J N).fn a0b (a95 N) fun L x hx => ((e1s N L).trans ((d6v N ..).trans (a0D x hx)))
noncomputable def c1A : a0e := ext 71 (a1b c9L (e5z N)) (c9F N)
theorem a5m : a0c Try.prog (c1A N) := a0t.to (e5A N) (a95 N)
noncomputable def e5B : List (Nat × List Nat) := [(0, [1, 0]), (1, [3, 0]), (2, [6, 5, 3, 0]), (3, [6, 5, 3, 0, 9, 7, 8]), (4, [5, 3, 0, 6, 9]), (5, [5, 3, 7, 8, 0, 6, 9]), (6, [3, 7, 8, 5, 0, 6]), (7, [3, 7, 8, 9, 5, 0, 6]), (9, [3, 7, 8, 9, 5, 0, 6]), (11, [3, 9, 5, 0, 6]), (13, [5, 3, 0, 6]), (14, [3]), (12, []), (10, []), (8, []), (15, [0, 3, 6]), (16, [10, 6, 0, 3]), (17, []), (18, [10, 6, 3]), (19, [6, 11, 3]), (20, [11, 3]), (21, [3, 11]), (22, []), (23, [])]
noncomputable def e5C : a0r := [(14, [0, 3, 5, 6, 7, 8, 9, 18], [0, 4], []), (20, [0, 3, 5, 6, 7, 8, 9, 19], [0, 4], []), (28, [0, 3, 5, 6, 7, 8, 9], [0, 4], []), (62, [3, 11, 87], [0, 4], [])]
noncomputable def c9M (N : Nat) : Sg Try.prog 1 45 := .start e5C e5B
noncomputable def a5n (N : Nat) (w2 w3 : Int) (w5 : Bool) (k0 : Int × Int → R) : R :=
 bif w5 then
  k0 (3, 31)
 else
  k0 (w2, w3)
noncomputable def a99 (w2 w3 : Int) (w5 : Bool) : Int × Int := a5n N w2 w3 w5 (fun p => p)
theorem c5F (w2 w3 : Int) (w5 : Bool) (k0 : Int × Int → R) : a5n N w2 w3 w5 k0 = k0 (a99 N w2 w3 w5) := by
 unfold a99 a5n
 repeat' (first | rfl | apply a0M | (apply a1u; intro _))
noncomputable def b9g : Sh := { tmps := [(0, .c (.p 0 0)), (3, .c (.p 4 0)), (5, .c (.b)), (6, .c (.b)), (7, .c (.i .i64)), (8, .c (.i .i64)), (9, .c (.i .i64)), (18, .c (.b))], mem := [(0, .dat 93), (4, .box ([.i .i64, .i .i64, .i .i64, .sl 44, .sl 5]))] }
noncomputable def b4D (L : List Lf) (p : Int × Int) : Ex × St := (.normal, mg (a0x b9g L) [0, 3, 5, 6, 7, 8, 9] [(7, .c (.i .i64 p.1)), (8, .c (.i .i64 p.2))] [0, 4] [])
noncomputable def d6w (L : List Lf) : List (Bool × (Ex × St)) := bnd (a5n N (li L 2) (li L 3) (lb L 5) (fun p => p)) fun q => [(true, b4D L q)]
theorem c5G (L : List Lf) : pc Try.prog (c1A N) (c9M N).h 1 100 45 14 b9g L [0, 3, 5, 6, 7, 8, 9] [0, 4] = a5n N (li L 2) (li L 3) (lb L 5) (fun p => some (b4D L p)) := by kernel_rfl
noncomputable def c9N : Sg Try.prog 1 45 :=
 (c9M N).cut (d6w N) a0b (a5m N) fun L x hx => (c5G N L).trans ((c5F N ..).trans (a4q _ _ hx))
noncomputable def a5o (N : Nat) (w4 : Int) (w5 : Bool) (k0 : Int → R) : R :=
 bif w5 then
  k0 1
 else
  k0 w4
noncomputable def b0a (w4 : Int) (w5 : Bool) : Int := a5o N w4 w5 (fun p => p)
theorem c5H (w4 : Int) (w5 : Bool) (k0 : Int → R) : a5o N w4 w5 k0 = k0 (b0a N w4 w5) := by
 unfold b0a a5o
 repeat' (first | rfl | apply a0M | (apply a1u; intro _))
noncomputable def b9h : Sh := { tmps := [(0, .c (.p 0 0)), (3, .c (.p 4 0)), (5, .c (.b)), (6, .c (.b)), (7, .c (.i .i64)), (8, .c (.i .i64)), (9, .c (.i .i64)), (19, .c (.b))], mem := [(0, .dat 93), (4, .box ([.i .i64, .i .i64, .i .i64, .sl 44, .sl 5]))] }
noncomputable def b4E (L : List Lf) (p : Int) : Ex × St := (.normal, mg (a0x b9h L) [0, 3, 5, 6, 7, 8, 9] [(9, .c (.i .i64 p))] [0, 4] [])
noncomputable def d6x (L : List Lf) : List (Bool × (Ex × St)) := bnd (a5o N (li L 4) (lb L 5) (fun p => p)) fun q => [(true, b4E L q)]
theorem c5I (L : List Lf) : pc Try.prog (c1A N) (c9N N).h 1 100 45 20 b9h L [0, 3, 5, 6, 7, 8, 9] [0, 4] = a5o N (li L 4) (lb L 5) (fun p => some (b4E L p)) := by kernel_rfl
noncomputable def c9O : Sg Try.prog 1 45 :=
 (c9N N).cut (d6x N) a0b (a5m N) fun L x hx => (c5I N L).trans ((c5H N ..).trans (a4q _ _ hx))
noncomputable def a68 (w2 w3 w7 w8 : Int) (k0 : Bool → R) : R :=
 bnd (a2N N w7 0 w2) fun y0 =>
 bif (!y0) then
  k0 true
 else
  bnd (a2N N w8 0 w3) fun y1 =>
  k0 (!y1)
noncomputable def b0b (w2 w3 w7 w8 : Int) : Bool := a68 N w2 w3 w7 w8 (fun p => p)
theorem c5J (w2 w3 w7 w8 : Int) (k0 : Bool → R) : a68 N w2 w3 w7 w8 k0 = k0 (b0b N w2 w3 w7 w8) := by
 unfold b0b a68
 repeat' (first | rfl | apply a0M | (apply a1u; intro _))
noncomputable def c3z (L : List Lf) (k0 : Bool → R) : R := a68 N (li L 2) (li L 3) (li L 7) (li L 8) k0
noncomputable def b9i : Sh := { tmps := [(0, .c (.p 0 0)), (3, .c (.p 4 0)), (5, .c (.b)), (6, .c (.b)), (7, .c (.i .i64)), (8, .c (.i .i64)), (9, .c (.i .i64))], mem := [(0, .dat 93), (4, .box ([.i .i64, .i .i64, .i .i64, .sl 44, .sl 5]))] }
noncomputable def b4F (L : List Lf) (p : Bool) : Ex × St := (.normal, mg (a0x b9i L) [0, 3, 5, 6, 9, 25] [(25, .c (.b p))] [0, 4] [])
noncomputable def d6y (L : List Lf) : List (Bool × (Ex × St)) := bnd (c3z N L (fun p => p)) fun q => [(true, b4F L q)]
theorem c5K (L : List Lf) : pc Try.prog (c1A N) (c9O N).h 1 100 45 28 b9i L [0, 3, 5, 6, 9, 25] [0, 4] = c3z N L (fun p => some (b4F L p)) := by kernel_rfl
noncomputable def c9P : Sg Try.prog 1 45 :=
 (c9O N).cut (d6y N) a0b (a5m N) fun L x hx => (c5K N L).trans ((c5J N ..).trans (a4q _ _ hx))
noncomputable def a5p (N : Nat) (w0 : Int) (w1 : Bool) (k0 : Int → R) : R :=
 bif w1 then
  k0 (IntKind.wrap .i64 (w0 - 4))
 else
  k0 w0
noncomputable def b0c (w0 : Int) (w1 : Bool) : Int := a5p N w0 w1 (fun p => p)
theorem c5L (w0 : Int) (w1 : Bool) (k0 : Int → R) : a5p N w0 w1 k0 = k0 (b0c N w0 w1) := by
 unfold b0c a5p
 repeat' (first | rfl | apply a0M | (apply a1u; intro _))
noncomputable def b9j : Sh := { tmps := [(3, .c (.p 4 0)), (11, .c (.i .i64)), (87, .c (.b))], mem := [(0, .dat 93), (4, .box ([.i .i64, .i .i64, .i .i64, .sl 44, .sl 5]))] }
noncomputable def b4G (L : List Lf) (p : Int) : Ex × St := (.normal, mg (a0x b9j L) [3, 11] [(11, .c (.i .i64 p))] [0, 4] [])
noncomputable def d6z (L : List Lf) : List (Bool × (Ex × St)) := bnd (a5p N (li L 0) (lb L 1) (fun p => p)) fun q => [(true, b4G L q)]
theorem c5M (L : List Lf) : pc Try.prog (c1A N) (c9P N).h 1 100 45 62 b9j L [3, 11] [0, 4] = a5p N (li L 0) (lb L 1) (fun p => some (b4G L p)) := by kernel_rfl
noncomputable def c9Q : Sg Try.prog 1 45 :=
 (c9P N).cut (d6z N) a0b (a5m N) fun L x hx => (c5M N L).trans ((c5L N ..).trans (a4q _ _ hx))
noncomputable def c9R (v0 v1 v2 : Int) (v4 v6 : LD) (v7 : D) (k0 : Int → Option R) : Option R :=
 bnd (a99 N 15 0 (v0 == 3)) fun y0 =>
 bnd (b0a N 0 (v0 == 1)) fun y1 =>
 bnd (a2N N v0 1 3) fun y2 =>
 bif (!y2) then
  k0 7
 else
  bnd (b0b N y0.1 y0.2 v1 v2) fun y3 =>
  bif y3 then
   k0 9
  else
   bnd (bif ((v4.length : Int) != y1) then true else (bif (v0 == 1) then (decide ((v6.length : Int) > 0)) else false)) fun y4 =>
   bif y4 then
    k0 2
   else
    bif (v0 == 1) then
     bif (inB 0 v4.length) then
      bnd (c9K N ((v4.getD 0 (.i 0)).cell 1).toI ((v4.getD 0 (.i 0)).cell 2).items) fun y5 =>
      bif y5.isSome then
       k0 (y5.getD default)
      else
       none
     else
      none
    else
     bif (inB v1 16) then
      bnd (bif (!(v7.cell (0 + (v1.toNat * 6))).toB) then true else (bif (v0 == 3) then (bif (decide ((v7.cell (5 + (v1.toNat * 6))).toI < 0)) then true else (decide ((v7.cell 96).toI < 0))) else false)) fun y6 =>
      bif y6 then
       k0 11
      else
       bnd (b0c N (v7.cell (4 + (v1.toNat * 6))).toI (v0 == 3)) fun y7 =>
       bif ((v6.length : Int) != y7) then
        k0 2
       else
        k0 0
     else
      none
noncomputable def c9S (v0 v1 v2 : Int) (v4 v6 : LD) (v7 : D) : Option (Int) := c9R N v0 v1 v2 v4 v6 v7 (fun p => some p)
theorem d6A (v0 v1 v2 : Int) (v4 v6 : LD) (v7 : D) (k0 : Int → Option R) : c9R N v0 v1 v2 v4 v6 v7 k0 = (c9S N v0 v1 v2 v4 v6 v7).bind k0 := by
 unfold c9S c9R
 repeat' (first | with_reducible apply a0d | (with_reducible apply a0l; intro _) | rfl)
noncomputable def e5D (L : List Lf) (k0 : Int → Option R) : Option R := c9R N (li L 0) (li L 1) (li L 2) (ll L 4) (ll L 6) (ld L 7) k0
noncomputable def c9T : Sh := { tmps := [(0, .c (.p 0 0)), (1, .g ([.i .i64, .i .i64, .i .i64, .sl 44, .sl 5]))], mem := [(0, .dat 93)] }
noncomputable def e5E (L : List Lf) : List (Bool × Res) := bnd (e5D N L (fun p => some p)) fun q => [(q.isSome, ([.c (.i .i64 (q.getD default))], [(0, .dat 93 (ld L 7))]))]
theorem e1t (L : List Lf) : bd Try.prog (c1A N) (c9Q N).h 45 c9T L = e5D N L (fun p => some ([.c (.i .i64 p)], [(0, .dat 93 (ld L 7))])) := by kernel_rfl
theorem e5F : a0t Try.prog 45 c9T (e5E N) :=
 (c9Q N).fn a0b (a5m N) fun L x hx => ((e1t N L).trans ((d6A N ..).trans (a0D x hx)))
noncomputable def c9U : a0e := ext 45 (a1b c9T (e5E N)) (c1A N)
theorem b0d : a0c Try.prog (c9U N) := a0t.to (e5F N) (a5m N)
noncomputable def e5G : List (Nat × List Nat) := [(0, [0]), (1, [1, 2]), (2, [1, 3, 2]), (3, [11, 10, 9, 3, 2]), (4, [9, 11, 3, 10, 2]), (5, [5, 3, 11, 10, 9, 2]), (6, [3, 5, 11, 10, 9, 2]), (7, [3, 5, 11, 10, 9, 2]), (8, [11, 10, 9, 3, 2]), (9, [3, 2])]
noncomputable def e5H : a0r := [(9, [2, 3, 9, 10, 11], [2, 3], []), (20, [2, 3, 5, 9, 10, 11, 32], [2, 3, 5], [])]
noncomputable def c9V (N : Nat) : Sg Try.prog 0 61 := .start e5H e5G
noncomputable def a5q (N : Nat) (w4 : Bool) (w17 w18 : Int) (k0 : Int → R) : R :=
 bif w4 then
  k0 w17
 else
  k0 w18
noncomputable def b0e (w4 : Bool) (w17 w18 : Int) : Int := a5q N w4 w17 w18 (fun p => p)
theorem c5N (w4 : Bool) (w17 w18 : Int) (k0 : Int → R) : a5q N w4 w17 w18 k0 = k0 (b0e N w4 w17 w18) := by
 unfold b0e a5q
 repeat' (first | rfl | apply a0M | (apply a1u; intro _))
noncomputable def b9k : Sh := { tmps := [(2, .c (.p 2 0)), (3, .c (.p 3 0)), (5, .c (.p 5 0)), (9, .c (.sl 61)), (10, .c (.i .i64)), (11, .c (.i .i64)), (32, .c (.b))], mem := [(2, .box (.b :: [.b, .i .i64, .sl 61, .i .i64, .i .i64])), (3, .box (.b :: [.b, .i .i64, .sl 61, .i .i64, .i .i64])), (5, .box ([.i .i64, .i .i64, .i .i64]))] }
noncomputable def b4H (L : List Lf) (p : Int) : Ex × St := (.normal, mg (a0x b9k L) [2, 3, 5, 9, 10, 11] [] [2, 3, 5] [(3, .box [.b (lb L 12), .b (lb L 13), .i .i64 (li L 14), .sl 61 (lb L 15) (ll L 16), .i .i64 (li L 17), .i .i64 p])])
noncomputable def d6B (L : List Lf) : List (Bool × (Ex × St)) := bnd (a5q N (lb L 4) (li L 17) (li L 18) (fun p => p)) fun q => [(true, b4H L q)]
theorem c5O (L : List Lf) : pc Try.prog (c9U N) (c9V N).h 0 100 61 20 b9k L [2, 3, 5, 9, 10, 11] [2, 3, 5] = a5q N (lb L 4) (li L 17) (li L 18) (fun p => some (b4H L p)) := by kernel_rfl
noncomputable def c9W : Sg Try.prog 0 61 :=
 (c9V N).cut (d6B N) a0b (b0d N) fun L x hx => (c5O N L).trans ((c5N N ..).trans (a4q _ _ hx))
noncomputable def b2J (w1 : LD) (w2 : Int) (w3 w16 w17 : Int) (kr : Int → Int → Int → Option R) (k0 : Int × Int → Option R) : Option R :=
 bif (decide (w3 < w2)) then
  bif (inB w3 w1.length) then
   bnd (bif (((w1.getD w3.toNat (.i 0)).cell 0).toI == 253) then (((w1.getD w3.toNat (.i 0)).cell 2).toI == 0) else false) fun y0 =>
   bnd (bif y0 then (((w1.getD w3.toNat (.i 0)).cell 1).toI == 4) else false) fun y1 =>
   bnd (b0e N (bif y1 then (decide (w17 < 0)) else false) w16 w17) fun y2 =>
   bnd (IntKind.wrap .i64 (w16 + ((w1.getD w3.toNat (.i 0)).cell 1).toI)) fun y3 =>
   kr (IntKind.wrap .i64 (w3 + 1)) y3 y2
  else
   none
 else
  k0 (w16, w17)
noncomputable def b6c (N : Nat) {R : Type} (w1 : LD) (w2 : Int) : Nat → Int → Int → Int → (Int × Int → Option R) → Option R
 | 0, _, _, _, _ => none
 | m + 1, w3, w16, w17, k0 => b2J N w1 w2 w3 w16 w17 (fun w3 w16 w17 => b6c N w1 w2 m w3 w16 w17 k0) k0
noncomputable def c9X (w1 : LD) (w2 : Int) (w3 w16 w17 : Int) : Option (Int × Int) := b6c N (R := (Int × Int)) w1 w2 N w3 w16 w17 (fun p => some p)
noncomputable def b2K (L x : List Lf) (kr : List Lf → Option R) (k0 : Int × Int → Option R) : Option R := b2J N (ll L 1) (li L 2) (li x 0) (li x 1) (li x 2) (fun w3 w16 w17 => kr [.i w3, .i w16, .i w17]) k0
theorem c3A (L x : List Lf) (kr : List Lf → Option R) (k0 : Int × Int → Option R) : b2K N L x kr k0 = (b2K N L x (fun y => some (.inl y)) (fun p => some (.inr p))).bind (a1a kr k0) := by
 unfold b2K b2J
 repeat' (first | with_reducible apply a0d | (with_reducible apply a0l; intro _) | rfl)
noncomputable def b6d (L : List Lf) (m : Nat) (x : List Lf) : Option (Int × Int) := b6c N (R := (Int × Int)) (ll L 1) (li L 2) m (li x 0) (li x 1) (li x 2) (fun p => some p)
noncomputable def a69 : Sh := { tmps := [(2, .c (.p 2 0)), (3, .c (.p 3 0)), (9, .c (.sl 61)), (10, .c (.i .i64)), (11, .c (.i .i64))], mem := [(2, .box (.b :: [.b, .i .i64, .sl 61, .i .i64, .i .i64])), (3, .box (.b :: [.b, .i .i64, .sl 61, .i .i64, .i .i64]))] }
noncomputable def b9l (L : List Lf) (p : Int × Int) : Ex × St := ((.exit 0), mg (a0x a69 L) [2, 3] [] [2, 3] [(3, .box [.b (lb L 11), .b (lb L 12), .i .i64 (li L 13), .sl 61 (lb L 14) (ll L 15), .i .i64 p.1, .i .i64 p.2])])
noncomputable def e1u (L : List Lf) : List (Bool × (Ex × St)) := bnd (b6d N L N (pk a69 [3, 16, 17] L)) fun q => [(q.isSome, b9l L (q.getD default))]
theorem c5P (m : Nat) (kn : St → Option (Ex × St)) (L x : List Lf) : lpB Try.prog (c9U N) (c9W N).h 0 61 9 a69 [3, 16, 17] [2, 3] [2, 3] (m + 100) kn L x = b2K N L x (fun y => kn (a0x a69 (mx a69 [3, 16, 17] L y))) (fun p => some (b9l L p)) := by kernel_rfl
theorem d6C (L : List Lf) (m : Nat) (x : List Lf) : b6d N L (m + 1) x = b2K N L x (b6d N L m) some := by kernel_rfl
noncomputable def c9Y : Sg Try.prog 0 61 :=
 (c9W N).lp (e1u N) N a0b (b0d N) (fun m kn L x => (c5P N m kn L x).trans (c3A N L x _ _)) (fun L m x => (d6C N L m x).trans (c3A N L x (b6d N L m) some)) fun L x hx => a0D x hx
noncomputable def c5Q (v3 : LD) (k0 : Int × Int → Option R) : Option R :=
 bnd (c9X N v3 (v3.length : Int) 0 0 (-1)) fun y0 =>
 bif y0.isSome then
  k0 (y0.getD default)
 else
  none
noncomputable def c9Z (v3 : LD) : Option (Int × Int) := c5Q N v3 (fun p => some p)
theorem d6D (v3 : LD) (k0 : Int × Int → Option R) : c5Q N v3 k0 = (c9Z N v3).bind k0 := by
 unfold c9Z c5Q
 repeat' (first | with_reducible apply a0d | (with_reducible apply a0l; intro _) | rfl)
noncomputable def c90 : Sh := { tmps := [(0, .g ([.b, .i .i64, .sl 61]))], mem := [] }
noncomputable def c91 (L : List Lf) (p : Int × Int) : Res := ([.g [.b true, .b (lb L 0), .i .i64 (li L 1), .sl 61 (lb L 2) (ll L 3), .i .i64 p.1, .i .i64 p.2]], [])
noncomputable def e5I (L : List Lf) : List (Bool × Res) := bnd (c5Q N (ll L 3) (fun p => some p)) fun q => [(q.isSome, c91 L (q.getD default))]
theorem e1v (L : List Lf) : bd Try.prog (c9U N) (c9Y N).h 61 c90 L = c5Q N (ll L 3) (fun p => some (c91 L p)) := by kernel_rfl
theorem e5J : a0t Try.prog 61 c90 (e5I N) :=
 (c9Y N).fn a0b (b0d N) fun L x hx => ((e1v N L).trans ((d6D N ..).trans (a0D x hx)))
noncomputable def c92 : a0e := ext 61 (a1b c90 (e5I N)) (c9U N)
theorem b0f : a0c Try.prog (c92 N) := a0t.to (e5J N) (b0d N)
noncomputable def e5K : List (Nat × List Nat) := [(0, [0, 1]), (1, [0, 1]), (2, [0, 1, 5]), (3, [10, 9, 0, 1, 5]), (4, [10, 0, 1, 5, 9]), (5, [0, 6, 1, 5, 10, 9]), (6, [1, 6, 5, 0, 10, 9, 7]), (7, [6, 5, 0, 10, 9, 1]), (8, [5, 0, 7, 10, 9, 1]), (9, [10, 9, 0, 1, 5]), (10, [5])]
noncomputable def e5L : a0r := [(9, [0, 1, 5, 9, 10], [], []), (23, [0, 1, 5, 6, 7, 9, 10, 18], [], [])]
noncomputable def c93 (N : Nat) : Sg Try.prog 0 62 := .start e5L e5K
noncomputable def a5r (N : Nat) (w4 w5 : Int) (w8 : Bool) (k0 : Int → R) : R :=
 bif w8 then
  k0 w4
 else
  k0 w5
noncomputable def a7a (w4 w5 : Int) (w8 : Bool) : Int := a5r N w4 w5 w8 (fun p => p)
theorem c5R (w4 w5 : Int) (w8 : Bool) (k0 : Int → R) : a5r N w4 w5 w8 k0 = k0 (a7a N w4 w5 w8) := by
 unfold a7a a5r
 repeat' (first | rfl | apply a0M | (apply a1u; intro _))
noncomputable def b9m : Sh := { tmps := [(0, .c (.sl 5)), (1, .c (.b)), (5, .c (.i .i64)), (6, .c (.i .i64)), (7, .c (.i .i64)), (9, .c (.i .i64)), (10, .c (.i .i64)), (18, .c (.b))], mem := [] }
noncomputable def b4I (L : List Lf) (p : Int) : Ex × St := (.normal, mg (a0x b9m L) [0, 1, 5, 7, 9, 10] [(7, .c (.i .i64 p))] [] [])
noncomputable def d6E (L : List Lf) : List (Bool × (Ex × St)) := bnd (a5r N (li L 4) (li L 5) (lb L 8) (fun p => p)) fun q => [(true, b4I L q)]
theorem c5S (L : List Lf) : pc Try.prog (c92 N) (c93 N).h 0 100 62 23 b9m L [0, 1, 5, 7, 9, 10] [] = a5r N (li L 4) (li L 5) (lb L 8) (fun p => some (b4I L p)) := by kernel_rfl
noncomputable def c94 : Sg Try.prog 0 62 :=
 (c93 N).cut (d6E N) a0b (b0f N) fun L x hx => (c5S N L).trans ((c5R N ..).trans (a4q _ _ hx))
noncomputable def b2L (w1 : LD) (w2 : Bool) (w4 : Int) (w3 w5 : Int) (kr : Int → Int → Option R) (k0 : Int → Option R) : Option R :=
 bif (decide (w5 < w4)) then
  bnd (IntKind.wrap .i64 ((IntKind.wrap .i64 ((w1.length : Int) - 1)) - w5)) fun y0 =>
  bnd (a7a N w5 y0 w2) fun y1 =>
  bif (inB y1 w1.length) then
   bnd ((c0I .or .i64 (IntKind.wrap .i64 (w3 * 2 ^ 8)) (IntKind.wrap .i64 (w1.getD y1.toNat (.i 0)).toI)).getD 0) fun y2 =>
   kr y2 (IntKind.wrap .i64 (w5 + 1))
  else
   none
 else
  k0 w3
noncomputable def b6e (N : Nat) {R : Type} (w1 : LD) (w2 : Bool) (w4 : Int) : Nat → Int → Int → (Int → Option R) → Option R
 | 0, _, _, _ => none
 | m + 1, w3, w5, k0 => b2L N w1 w2 w4 w3 w5 (fun w3 w5 => b6e N w1 w2 w4 m w3 w5 k0) k0
noncomputable def c95 (w1 : LD) (w2 : Bool) (w4 : Int) (w3 w5 : Int) : Option (Int) := b6e N (R := (Int)) w1 w2 w4 N w3 w5 (fun p => some p)
noncomputable def b2M (L x : List Lf) (kr : List Lf → Option R) (k0 : Int → Option R) : Option R := b2L N (ll L 1) (lb L 2) (li L 4) (li x 0) (li x 1) (fun w3 w5 => kr [.i w3, .i w5]) k0
theorem c3B (L x : List Lf) (kr : List Lf → Option R) (k0 : Int → Option R) : b2M N L x kr k0 = (b2M N L x (fun y => some (.inl y)) (fun p => some (.inr p))).bind (a1a kr k0) := by
 unfold b2M b2L
 repeat' (first | with_reducible apply a0d | (with_reducible apply a0l; intro _) | rfl)
noncomputable def b6f (L : List Lf) (m : Nat) (x : List Lf) : Option (Int) := b6e N (R := (Int)) (ll L 1) (lb L 2) (li L 4) m (li x 0) (li x 1) (fun p => some p)
noncomputable def b0g : Sh := { tmps := [(0, .c (.sl 5)), (1, .c (.b)), (5, .c (.i .i64)), (9, .c (.i .i64)), (10, .c (.i .i64))], mem := [] }
noncomputable def e1w (L : List Lf) : List (Bool × (Ex × St)) := bnd (b6f N L N (pk b0g [3, 5] L)) fun q => [(q.isSome, ((.exit 0), ⟨[(5, .c (.i .i64 (q.getD default)))], []⟩))]
theorem c5T (m : Nat) (kn : St → Option (Ex × St)) (L x : List Lf) : lpB Try.prog (c92 N) (c94 N).h 0 62 9 b0g [3, 5] [4, 5] [] (m + 100) kn L x = b2M N L x (fun y => kn (a0x b0g (mx b0g [3, 5] L y))) (fun p => some ((.exit 0), ⟨[(5, .c (.i .i64 p))], []⟩)) := by kernel_rfl
theorem d6F (L : List Lf) (m : Nat) (x : List Lf) : b6f N L (m + 1) x = b2M N L x (b6f N L m) some := by kernel_rfl
noncomputable def c96 : Sg Try.prog 0 62 :=
 (c94 N).lp (e1w N) N a0b (b0f N) (fun m kn L x => (c5T N m kn L x).trans (c3B N L x _ _)) (fun L m x => (d6F N L m x).trans (c3B N L x (b6f N L m) some)) fun L x hx => a0D x hx
noncomputable def c5U (v1 : LD) (v2 : Bool) (k0 : Int → Option R) : Option R :=
 bnd (c95 N v1 v2 (v1.length : Int) 0 0) fun y0 =>
 bif y0.isSome then
  k0 (y0.getD default)
 else
  none
noncomputable def c5V (v1 : LD) (v2 : Bool) : Option (Int) := c5U N v1 v2 (fun p => some p)
theorem d6G (v1 : LD) (v2 : Bool) (k0 : Int → Option R) : c5U N v1 v2 k0 = (c5V N v1 v2).bind k0 := by
 unfold c5V c5U
 repeat' (first | with_reducible apply a0d | (with_reducible apply a0l; intro _) | rfl)
noncomputable def c97 : Sh := { tmps := [(0, .c (.sl 5)), (1, .c (.b))], mem := [] }
noncomputable def e5M (L : List Lf) : List (Bool × Res) := bnd (c5U N (ll L 1) (lb L 2) (fun p => some p)) fun q => [(q.isSome, ([.c (.i .i64 (q.getD default))], []))]
theorem e1x (L : List Lf) : bd Try.prog (c92 N) (c96 N).h 62 c97 L = c5U N (ll L 1) (lb L 2) (fun p => some ([.c (.i .i64 p)], [])) := by kernel_rfl
theorem e5N : a0t Try.prog 62 c97 (e5M N) :=
 (c96 N).fn a0b (b0f N) fun L x hx => ((e1x N L).trans ((d6G N ..).trans (a0D x hx)))
noncomputable def e1y : a0e := ext 62 (a1b c97 (e5M N)) (c92 N)
theorem c3C : a0c Try.prog (e1y N) := a0t.to (e5N N) (b0f N)
noncomputable def e5O : List (Nat × List Nat) := [(0, [1, 0]), (1, [1, 0]), (2, [0]), (3, [0])]
noncomputable def e5P : a0r := []
noncomputable def c98 (N : Nat) : Sg Try.prog 0 41 := .start e5P e5O
noncomputable def c1B (N : Nat) (v0 : Int) (v1 : Bool) (k0 : Int → Option R) : Option R :=
 bif v1 then
  bif (decide (0 ≤ (IntKind.wrap .i64 ((IntKind.wrap .i64 (8 * v0)) - 1)))) then
   bnd (IntKind.wrap .i64 (1 * 2 ^ (min (IntKind.wrap .i64 ((IntKind.wrap .i64 (8 * v0)) - 1)).toNat 64))) fun y0 =>
   k0 (IntKind.wrap .i64 (y0 - 1))
  else
   none
 else
  bif (decide (0 ≤ (IntKind.wrap .i64 (8 * v0)))) then
   bnd (IntKind.wrap .i64 (1 * 2 ^ (min (IntKind.wrap .i64 (8 * v0)).toNat 64))) fun y1 =>
   k0 (IntKind.wrap .i64 (y1 - 1))
  else
   none
noncomputable def a7b (v0 : Int) (v1 : Bool) : Option (Int) := c1B N v0 v1 (fun p => some p)
theorem d6H (v0 : Int) (v1 : Bool) (k0 : Int → Option R) : c1B N v0 v1 k0 = (a7b N v0 v1).bind k0 := by
 unfold a7b c1B
 repeat' (first | with_reducible apply a0d | (with_reducible apply a0l; intro _) | rfl)
noncomputable def c99 : Sh := { tmps := [(0, .c (.i .i64)), (1, .c (.b))], mem := [] }
noncomputable def e5Q (L : List Lf) : List (Bool × Res) := bnd (c1B N (li L 0) (lb L 1) (fun p => some p)) fun q => [(q.isSome, ([.c (.i .i64 (q.getD default))], []))]
theorem e1z (L : List Lf) : bd Try.prog (e1y N) (c98 N).h 41 c99 L = c1B N (li L 0) (lb L 1) (fun p => some ([.c (.i .i64 p)], [])) := by kernel_rfl
theorem e5R : a0t Try.prog 41 c99 (e5Q N) :=
 (c98 N).fn a0b (c3C N) fun L x hx => ((e1z N L).trans ((d6H N ..).trans (a0D x hx)))
noncomputable def b9n : a0e := ext 41 (a1b c99 (e5Q N)) (e1y N)
theorem a35 : a0c Try.prog (b9n N) := a0t.to (e5R N) (c3C N)
noncomputable def e5S : List (Nat × List Nat) := [(0, [1, 0]), (1, [0, 3]), (2, [0, 3, 5]), (3, [3, 0, 5, 6]), (5, [3, 0, 6, 5]), (7, [6, 3, 0, 5]), (8, [3, 6, 0, 5]), (9, [7, 0, 5]), (10, [7, 0]), (6, [0, 3]), (4, [0, 3, 5]), (11, [5, 0]), (12, [0, 5]), (13, [5])]
noncomputable def e5T : a0r := [(32, [0, 5, 7, 67], [0], []), (26, [0, 3, 5, 6, 49], [0, 4, 7], []), (21020, [0, 3, 5, 6, 30], [0, 4, 7], []), (15014, [0, 3, 5, 6, 15], [0, 4, 7], []), (38, [0, 5, 70], [0], [])]
noncomputable def d0a (N : Nat) : Sg Try.prog 1 37 := .start e5T e5S
noncomputable def a5s (N : Nat) (w0 w1 : Int) (w2 : Bool) (k0 : Int → R) : R :=
 bif w2 then
  k0 w1
 else
  k0 w0
noncomputable def b0h (w0 w1 : Int) (w2 : Bool) : Int := a5s N w0 w1 w2 (fun p => p)
theorem c5W (w0 w1 : Int) (w2 : Bool) (k0 : Int → R) : a5s N w0 w1 w2 k0 = k0 (b0h N w0 w1 w2) := by
 unfold b0h a5s
 repeat' (first | rfl | apply a0M | (apply a1u; intro _))
noncomputable def b9o : Sh := { tmps := [(0, .c (.p 0 0)), (5, .c (.i .i64)), (7, .c (.i .i64)), (67, .c (.b))], mem := [(0, .dat 93)] }
noncomputable def b4J (L : List Lf) (p : Int) : Ex × St := (.normal, mg (a0x b9o L) [0, 5] [(5, .c (.i .i64 p))] [0] [])
noncomputable def d6I (L : List Lf) : List (Bool × (Ex × St)) := bnd (a5s N (li L 0) (li L 1) (lb L 2) (fun p => p)) fun q => [(true, b4J L q)]
theorem c5X (L : List Lf) : pc Try.prog (b9n N) (d0a N).h 1 100 37 32 b9o L [0, 5] [0] = a5s N (li L 0) (li L 1) (lb L 2) (fun p => some (b4J L p)) := by kernel_rfl
noncomputable def d0b : Sg Try.prog 1 37 :=
 (d0a N).cut (d6I N) a0b (a35 N) fun L x hx => (c5X N L).trans ((c5W N ..).trans (a4q _ _ hx))
noncomputable def a7c (w0 : Int) (w1 : Bool) (w9 : LD) (w11 : Bool) (w16 : Int) (k0 : Int → Option R) : Option R :=
 bif w1 then
  bif (((decide (0 ≤ w16)) && (decide (w16 ≤ (IntKind.wrap .i64 (w16 + 4))))) && (decide ((IntKind.wrap .i64 (w16 + 4)) ≤ (w9.length : Int)))) then
   bnd (((w9.take (IntKind.wrap .i64 (w16 + 4)).toNat).drop w16.toNat) : List D) fun y0 =>
   bnd (c5V N y0 w11) fun y1 =>
   bif y1.isSome then
    bnd (a7b N 4 false) fun y2 =>
    bif y2.isSome then
     bnd (b0h N w0 (y1.getD default) ((y1.getD default) != (y2.getD default))) fun y3 =>
     k0 y3
    else
     none
   else
    none
  else
   none
 else
  k0 w0
noncomputable def b0i (w0 : Int) (w1 : Bool) (w9 : LD) (w11 : Bool) (w16 : Int) : Option (Int) := a7c N w0 w1 w9 w11 w16 (fun p => some p)
theorem c1C (w0 : Int) (w1 : Bool) (w9 : LD) (w11 : Bool) (w16 : Int) (k0 : Int → Option R) : a7c N w0 w1 w9 w11 w16 k0 = (b0i N w0 w1 w9 w11 w16).bind k0 := by
 unfold b0i a7c
 repeat' (first | with_reducible apply a0d | (with_reducible apply a0l; intro _) | rfl)
noncomputable def c3D (L : List Lf) (k0 : Int → Option R) : Option R := a7c N (li L 0) (lb L 1) (ll L 9) (lb L 11) (li L 16) k0
noncomputable def b9p : Sh := { tmps := [(0, .c (.p 0 0)), (3, .c (.p 4 0)), (5, .c (.i .i64)), (6, .c (.p 7 0)), (49, .c (.b))], mem := [(0, .dat 93), (4, .box ([.i .i64, .i .i64, .i .i64, .sl 44, .sl 5])), (7, .box (.b :: [.b, .i .i64, .sl 61, .i .i64, .i .i64]))] }
noncomputable def b4K (L : List Lf) (p : Int) : Ex × St := (.normal, mg (a0x b9p L) [0, 5] [(5, .c (.i .i64 p))] [0] [])
noncomputable def d6J (L : List Lf) : List (Bool × (Ex × St)) := bnd (c3D N L (fun p => some p)) fun q => [(q.isSome, b4K L (q.getD default))]
theorem c5Y (L : List Lf) : pc Try.prog (b9n N) (d0b N).h 1 100 37 26 b9p L [0, 5] [0] = c3D N L (fun p => some (b4K L p)) := by kernel_rfl
noncomputable def d0c : Sg Try.prog 1 37 :=
 (d0b N).cut (d6J N) a0b (a35 N) fun L x hx => (c5Y N L).trans ((c1C N ..).trans (a0D x hx))
noncomputable def a24 (w0 : Int) (w1 : Bool) (w2 : D) (w5 : Int) (w9 : LD) (w11 : Bool) (w16 : Int) (k0 : Int → Option R) : Option R :=
 bif w1 then
  bnd (IntKind.wrap .i64 ((IntKind.wrap .i64 (w5 - ((w2.cell 96).toI.tmod 32))) + 32)) fun y0 =>
  k0 (IntKind.wrap .i64 ((w2.cell 96).toI + (y0.tmod 32)))
 else
  bnd (b0i N w0 (decide (w16 ≥ 0)) w9 w11 w16) fun y1 =>
  bif y1.isSome then
   k0 (y1.getD default)
  else
   none
noncomputable def a36 (w0 : Int) (w1 : Bool) (w2 : D) (w5 : Int) (w9 : LD) (w11 : Bool) (w16 : Int) : Option (Int) := a24 N w0 w1 w2 w5 w9 w11 w16 (fun p => some p)
theorem b3X (w0 : Int) (w1 : Bool) (w2 : D) (w5 : Int) (w9 : LD) (w11 : Bool) (w16 : Int) (k0 : Int → Option R) : a24 N w0 w1 w2 w5 w9 w11 w16 k0 = (a36 N w0 w1 w2 w5 w9 w11 w16).bind k0 := by
 unfold a36 a24
 repeat' (first | with_reducible apply a0d | (with_reducible apply a0l; intro _) | rfl)
noncomputable def b2N (L : List Lf) (k0 : Int → Option R) : Option R := a24 N (li L 0) (lb L 1) (ld L 2) (li L 5) (ll L 9) (lb L 11) (li L 16) k0
noncomputable def a9y : Sh := { tmps := [(0, .c (.p 0 0)), (3, .c (.p 4 0)), (5, .c (.i .i64)), (6, .c (.p 7 0)), (30, .c (.b))], mem := [(0, .dat 93), (4, .box ([.i .i64, .i .i64, .i .i64, .sl 44, .sl 5])), (7, .box (.b :: [.b, .i .i64, .sl 61, .i .i64, .i .i64]))] }
noncomputable def a7d (L : List Lf) (p : Int) : Ex × St := (.normal, mg (a0x a9y L) [0, 5] [(5, .c (.i .i64 p))] [0] [])
noncomputable def c1D (L : List Lf) : List (Bool × (Ex × St)) := bnd (b2N N L (fun p => some p)) fun q => [(q.isSome, a7d L (q.getD default))]
theorem b6g (L : List Lf) : pc Try.prog (b9n N) (d0c N).h 1 100 37 21020 a9y L [0, 5] [0] = b2N N L (fun p => some (a7d L p)) := by kernel_rfl
noncomputable def d0d : Sg Try.prog 1 37 :=
 (d0c N).cut (c1D N) a0b (a35 N) fun L x hx => (b6g N L).trans ((b3X N ..).trans (a0D x hx))
noncomputable def a25 (w0 : Int) (w1 : Bool) (w2 : D) (w3 w4 w5 : Int) (w7 w9 : LD) (w11 : Bool) (w16 : Int) (k0 : Int × D → Option R) : Option R :=
 bif w1 then
  bif (inB 0 w7.length) then
   bnd (c9Z N ((w7.getD 0 (.i 0)).cell 2).items) fun y0 =>
   bif y0.isSome then
    bif (inB w4 16) then
     bnd (((((((w2.put (0 + (w4.toNat * 6)) (.b true)).put (1 + (w4.toNat * 6)) (.b ((w7.getD 0 (.i 0)).cell 0).toB)).put (2 + (w4.toNat * 6)) (.i ((w7.getD 0 (.i 0)).cell 1).toI)).put (3 + (w4.toNat * 6)) (.l ((w7.getD 0 (.i 0)).cell 2).isNil ((w7.getD 0 (.i 0)).cell 2).items)).put (4 + (w4.toNat * 6)) (.i (y0.getD default).1)).put (5 + (w4.toNat * 6)) (.i (y0.getD default).2)) : D) fun y1 =>
     k0 (w0, y1)
    else
     none
   else
    none
  else
   none
 else
  bnd (a36 N w0 (w3 == 3) w2 w5 w9 w11 w16) fun y2 =>
  bif y2.isSome then
   k0 ((y2.getD default), w2)
  else
   none
noncomputable def a37 (w0 : Int) (w1 : Bool) (w2 : D) (w3 w4 w5 : Int) (w7 w9 : LD) (w11 : Bool) (w16 : Int) : Option (Int × D) := a25 N w0 w1 w2 w3 w4 w5 w7 w9 w11 w16 (fun p => some p)
theorem b3Y (w0 : Int) (w1 : Bool) (w2 : D) (w3 w4 w5 : Int) (w7 w9 : LD) (w11 : Bool) (w16 : Int) (k0 : Int × D → Option R) : a25 N w0 w1 w2 w3 w4 w5 w7 w9 w11 w16 k0 = (a37 N w0 w1 w2 w3 w4 w5 w7 w9 w11 w16).bind k0 := by
 unfold a37 a25
 repeat' (first | with_reducible apply a0d | (with_reducible apply a0l; intro _) | rfl)
noncomputable def b2O (L : List Lf) (k0 : Int × D → Option R) : Option R := a25 N (li L 0) (lb L 1) (ld L 2) (li L 3) (li L 4) (li L 5) (ll L 7) (ll L 9) (lb L 11) (li L 16) k0
noncomputable def b9q : Sh := { tmps := [(0, .c (.p 0 0)), (3, .c (.p 4 0)), (5, .c (.i .i64)), (6, .c (.p 7 0)), (15, .c (.b))], mem := [(0, .dat 93), (4, .box ([.i .i64, .i .i64, .i .i64, .sl 44, .sl 5])), (7, .box (.b :: [.b, .i .i64, .sl 61, .i .i64, .i .i64]))] }
noncomputable def a7e (L : List Lf) (p : Int × D) : Ex × St := (.normal, ⟨[(0, .c (.p 0 0)), (5, .c (.i .i64 p.1))], [(0, .dat 93 p.2)]⟩)
noncomputable def c1E (L : List Lf) : List (Bool × (Ex × St)) := bnd (b2O N L (fun p => some p)) fun q => [(q.isSome, a7e L (q.getD default))]
theorem b6h (L : List Lf) : pc Try.prog (b9n N) (d0d N).h 1 100 37 15014 b9q L [0, 5] [0] = b2O N L (fun p => some (a7e L p)) := by kernel_rfl
noncomputable def d0e : Sg Try.prog 1 37 :=
 (d0d N).cut (c1E N) a0b (a35 N) fun L x hx => (b6h N L).trans ((b3Y N ..).trans (a0D x hx))
noncomputable def a38 (N : Nat) (w0 : Int) (w1 : Bool) (w2 : D) (k0 : D → R) : R :=
 bif w1 then
  k0 (w2.put 96 (.i w0))
 else
  k0 w2
noncomputable def a5t (w0 : Int) (w1 : Bool) (w2 : D) : D := a38 N w0 w1 w2 (fun p => p)
theorem c5Z (w0 : Int) (w1 : Bool) (w2 : D) (k0 : D → R) : a38 N w0 w1 w2 k0 = k0 (a5t N w0 w1 w2) := by
 unfold a5t a38
 repeat' (first | rfl | apply a0M | (apply a1u; intro _))
noncomputable def d0f : Sh := { tmps := [(0, .c (.p 0 0)), (5, .c (.i .i64)), (70, .c (.b))], mem := [(0, .dat 93)] }
noncomputable def d6K (L : List Lf) : List (Bool × (Ex × St)) := bnd (a38 N (li L 0) (lb L 1) (ld L 2) (fun p => p)) fun q => [(true, (.normal, ⟨[(5, .c (.i .i64 (li L 0)))], [(0, .dat 93 q)]⟩))]
theorem c50 (L : List Lf) : pc Try.prog (b9n N) (d0e N).h 1 100 37 38 d0f L [5] [0] = a38 N (li L 0) (lb L 1) (ld L 2) (fun p => some (.normal, ⟨[(5, .c (.i .i64 (li L 0)))], [(0, .dat 93 p)]⟩)) := by kernel_rfl
noncomputable def d0g : Sg Try.prog 1 37 :=
 (d0e N).cut (d6K N) a0b (a35 N) fun L x hx => (c50 N L).trans ((c5Z N ..).trans (a4q _ _ hx))
noncomputable def d0h (v0 v1 v2 : Int) (v4 v6 : LD) (v7 : D) (k0 : Int × D → Option R) : Option R :=
 bif (inB v1 16) then
  bnd (a37 N (-1) (v0 == 1) v7 v0 v1 v2 v4 v6 (v7.cell (1 + (v1.toNat * 6))).toB (v7.cell (5 + (v1.toNat * 6))).toI) fun y0 =>
  bif y0.isSome then
   bnd (a5t N (y0.getD default).1 (decide ((y0.getD default).1 ≥ 0)) (y0.getD default).2) fun y1 =>
   k0 ((y0.getD default).1, y1)
  else
   none
 else
  none
noncomputable def c1F (v0 v1 v2 : Int) (v4 v6 : LD) (v7 : D) : Option (Int × D) := d0h N v0 v1 v2 v4 v6 v7 (fun p => some p)
theorem d6L (v0 v1 v2 : Int) (v4 v6 : LD) (v7 : D) (k0 : Int × D → Option R) : d0h N v0 v1 v2 v4 v6 v7 k0 = (c1F N v0 v1 v2 v4 v6 v7).bind k0 := by
 unfold c1F d0h
 repeat' (first | with_reducible apply a0d | (with_reducible apply a0l; intro _) | rfl)
noncomputable def e5U (L : List Lf) (k0 : Int × D → Option R) : Option R := d0h N (li L 0) (li L 1) (li L 2) (ll L 4) (ll L 6) (ld L 7) k0
noncomputable def d0i : Sh := { tmps := [(0, .c (.p 0 0)), (1, .g ([.i .i64, .i .i64, .i .i64, .sl 44, .sl 5]))], mem := [(0, .dat 93)] }
noncomputable def e5V (L : List Lf) : List (Bool × Res) := bnd (e5U N L (fun p => some p)) fun q => [(q.isSome, ([.c (.i .i64 (q.getD default).1)], [(0, .dat 93 (q.getD default).2)]))]
theorem e1A (L : List Lf) : bd Try.prog (b9n N) (d0g N).h 37 d0i L = e5U N L (fun p => some ([.c (.i .i64 p.1)], [(0, .dat 93 p.2)])) := by kernel_rfl
theorem e5W : a0t Try.prog 37 d0i (e5V N) :=
 (d0g N).fn a0b (a35 N) fun L x hx => ((e1A N L).trans ((d6L N ..).trans (a0D x hx)))
noncomputable def d6M : a0e := ext 37 (a1b d0i (e5V N)) (b9n N)
theorem b6i : a0c Try.prog (d6M N) := a0t.to (e5W N) (a35 N)
noncomputable def e5X : List (Nat × List Nat) := [(0, [0]), (1, [1]), (2, []), (3, [1]), (4, [1, 3]), (5, [15, 14, 13, 3]), (6, [13, 15, 3, 14]), (7, [3, 5, 15, 14, 13]), (8, [6, 3, 5, 15, 14, 13]), (9, [6]), (10, [3, 5, 15, 14, 13]), (11, [15, 14, 13, 3]), (12, [])]
noncomputable def e5Y : a0r := [(15, [3, 13, 14, 15], [12000000002], [])]
noncomputable def d0j (N : Nat) : Sg Try.prog 0 23 := .start e5Y e5X
noncomputable def b0j (w1 : LD) (w2 : Int) (w3 : Int) (w4 : D) (kr : Int → D → Option R) (k0 : Int → Option R) (k1 : Unit → Option R) : Option R :=
 bif (decide (w3 < w2)) then
  bif (inB w3 w1.length) then
   bnd (c9S N ((w1.getD w3.toNat (.i 0)).cell 0).toI ((w1.getD w3.toNat (.i 0)).cell 1).toI ((w1.getD w3.toNat (.i 0)).cell 2).toI ((w1.getD w3.toNat (.i 0)).cell 3).items ((w1.getD w3.toNat (.i 0)).cell 4).items w4) fun y0 =>
   bif y0.isSome then
    bif ((y0.getD default) != 0) then
     k0 (y0.getD default)
    else
     bnd (c1F N ((w1.getD w3.toNat (.i 0)).cell 0).toI ((w1.getD w3.toNat (.i 0)).cell 1).toI ((w1.getD w3.toNat (.i 0)).cell 2).toI ((w1.getD w3.toNat (.i 0)).cell 3).items ((w1.getD w3.toNat (.i 0)).cell 4).items w4) fun y1 =>
     bif y1.isSome then
      kr (IntKind.wrap .i64 (w3 + 1)) (y1.getD default).2
     else
      none
   else
    none
  else
   none
 else
  k1 ()
noncomputable def a7f (N : Nat) {R : Type} (w1 : LD) (w2 : Int) : Nat → Int → D → (Int → Option R) → (Unit → Option R) → Option R
 | 0, _, _, _, _ => none
 | m + 1, w3, w4, k0, k1 => b0j N w1 w2 w3 w4 (fun w3 w4 => a7f N w1 w2 m w3 w4 k0 k1) k0 k1
noncomputable def b6j (w1 : LD) (w2 : Int) (w3 : Int) (w4 : D) : Option (Sum (Int) (Unit)) := a7f N (R := (Sum (Int) (Unit))) w1 w2 N w3 w4 (fun p => some (.inl p)) (fun p => some (.inr p))
noncomputable def a7g (L x : List Lf) (kr : List Lf → Option R) (k0 : Int → Option R) (k1 : Unit → Option R) : Option R := b0j N (ll L 1) (li L 2) (li x 0) (ld x 1) (fun w3 w4 => kr [.i w3, .d w4]) k0 k1
theorem b9r (L x : List Lf) (kr : List Lf → Option R) (k0 : Int → Option R) (k1 : Unit → Option R) : a7g N L x kr k0 k1 = (a7g N L x (fun y => some (.inl y)) (fun p => some (.inr (.inl p))) (fun p => some (.inr (.inr p)))).bind (a1a kr (a1a k0 k1)) := by
 unfold a7g b0j
 repeat' (first | with_reducible apply a0d | (with_reducible apply a0l; intro _) | rfl)
noncomputable def b0k (L : List Lf) (m : Nat) (x : List Lf) : Option (Sum (Int) (Unit)) := a7f N (R := (Sum (Int) (Unit))) (ll L 1) (li L 2) m (li x 0) (ld x 1) (fun p => some (.inl p)) (fun p => some (.inr p))
noncomputable def a7h : Sh := { tmps := [(3, .c (.p 12000000002 0)), (13, .c (.sl 41)), (14, .c (.i .i64)), (15, .c (.i .i64))], mem := [(12000000002, .dat 93)] }
noncomputable def d6N (L : List Lf) : List (Bool × (Ex × St)) := bnd (b0k N L N (pk a7h [3, 4] L)) fun q => [((a07 q), (.ret, ⟨[(2, .c (.i .i64 (a3p q)))], []⟩)), ((a0I q).isSome, ((.exit 0), ⟨[], []⟩))]
theorem c1G (m : Nat) (kn : St → Option (Ex × St)) (L x : List Lf) : lpB Try.prog (d6M N) (d0j N).h 0 23 15 a7h [3, 4] [2] [] (m + 100) kn L x = a7g N L x (fun y => kn (a0x a7h (mx a7h [3, 4] L y))) (fun p => some (.ret, ⟨[(2, .c (.i .i64 p))], []⟩)) (fun _ => some ((.exit 0), ⟨[], []⟩)) := by kernel_rfl
theorem d0k (L : List Lf) (m : Nat) (x : List Lf) : b0k N L (m + 1) x = a7g N L x (b0k N L m) (fun p => some (.inl p)) (fun p => some (.inr p)) := by kernel_rfl
noncomputable def d0l : Sg Try.prog 0 23 :=
 (d0j N).lp (d6N N) N a0b (b6i N) (fun m kn L x => (c1G N m kn L x).trans (b9r N L x _ _ _)) (fun L m x => (d0k N L m x).trans (b9r N L x (b0k N L m) (fun p => some (.inl p)) (fun p => some (.inr p)))) fun L x hx => (a3w a0D) x hx
noncomputable def c1H (v1 : LD) (k0 : Int → Option R) : Option R :=
 bif (decide ((v1.length : Int) > 50000)) then
  k0 3
 else
  bnd (a9T N) fun y0 =>
  bnd (b6j N v1 (v1.length : Int) 0 y0) fun y1 =>
  bif (a07 y1) then
   k0 (a3p y1)
  else
   bif (a0I y1).isSome then
    k0 0
   else
    none
noncomputable def b6k (v1 : LD) : Option (Int) := c1H N v1 (fun p => some p)
theorem d6O (v1 : LD) (k0 : Int → Option R) : c1H N v1 k0 = (b6k N v1).bind k0 := by
 unfold b6k c1H
 repeat' (first | with_reducible apply a0d | (with_reducible apply a0l; intro _) | rfl)
noncomputable def d0m : Sh := { tmps := [(0, .g ([.sl 41]))], mem := [] }
noncomputable def e5Z (L : List Lf) : List (Bool × Res) := bnd (c1H N (ll L 1) (fun p => some p)) fun q => [(q.isSome, ([.c (.i .i64 (q.getD default))], []))]
theorem e1B (L : List Lf) : bd Try.prog (d6M N) (d0l N).h 23 d0m L = c1H N (ll L 1) (fun p => some ([.c (.i .i64 p)], [])) := by kernel_rfl
theorem e50 : a0t Try.prog 23 d0m (e5Z N) :=
 (d0l N).fn a0b (b6i N) fun L x hx => ((e1B N L).trans ((d6O N ..).trans (a0D x hx)))
noncomputable def d6P : a0e := ext 23 (a1b d0m (e5Z N)) (d6M N)
theorem b6l : a0c Try.prog (d6P N) := a0t.to (e50 N) (b6i N)
noncomputable def e51 : List (Nat × List Nat) := [(0, [0, 1]), (1, [2, 4, 1]), (2, [6, 4, 1, 2]), (3, [6, 4]), (4, [1, 2, 4]), (5, [4]), (6, [2, 1, 4]), (7, [2, 1, 7, 4]), (8, [30, 29, 28, 7, 2, 1, 4]), (9, [28, 30, 7, 29, 2, 1, 4]), (10, [7, 9, 30, 29, 28, 2, 1, 4]), (11, [30, 29, 28, 7, 2, 1, 4]), (12, [2, 1, 4, 7]), (13, [4]), (14, [7, 2, 1, 4])]
noncomputable def e52 : a0r := [(24, [1, 2, 4, 7, 28, 29, 30], [2, 4, 25000000002], [])]
noncomputable def d0n (N : Nat) : Sg Try.prog 0 13 := .start e52 e51
noncomputable def b0l (w2 : LD) (w3 : Int) (w4 : Int) (w14 : D) (kr : Int → D → Option R) (k0 : D → Option R) : Option R :=
 bif (decide (w4 < w3)) then
  bif (inB w4 w2.length) then
   bnd (c1F N ((w2.getD w4.toNat (.i 0)).cell 0).toI ((w2.getD w4.toNat (.i 0)).cell 1).toI ((w2.getD w4.toNat (.i 0)).cell 2).toI ((w2.getD w4.toNat (.i 0)).cell 3).items ((w2.getD w4.toNat (.i 0)).cell 4).items w14) fun y0 =>
   bif y0.isSome then
    kr (IntKind.wrap .i64 (w4 + 1)) (y0.getD default).2
   else
    none
  else
   none
 else
  k0 w14
noncomputable def a7i (N : Nat) {R : Type} (w2 : LD) (w3 : Int) : Nat → Int → D → (D → Option R) → Option R
 | 0, _, _, _ => none
 | m + 1, w4, w14, k0 => b0l N w2 w3 w4 w14 (fun w4 w14 => a7i N w2 w3 m w4 w14 k0) k0
noncomputable def c3E (w2 : LD) (w3 : Int) (w4 : Int) (w14 : D) : Option (D) := a7i N (R := (D)) w2 w3 N w4 w14 (fun p => some p)
noncomputable def a7j (L x : List Lf) (kr : List Lf → Option R) (k0 : D → Option R) : Option R := b0l N (ll L 2) (li L 3) (li x 0) (ld x 1) (fun w4 w14 => kr [.i w4, .d w14]) k0
theorem b9s (L x : List Lf) (kr : List Lf → Option R) (k0 : D → Option R) : a7j N L x kr k0 = (a7j N L x (fun y => some (.inl y)) (fun p => some (.inr p))).bind (a1a kr k0) := by
 unfold a7j b0l
 repeat' (first | with_reducible apply a0d | (with_reducible apply a0l; intro _) | rfl)
noncomputable def b0m (L : List Lf) (m : Nat) (x : List Lf) : Option (D) := a7i N (R := (D)) (ll L 2) (li L 3) m (li x 0) (ld x 1) (fun p => some p)
noncomputable def a4Y : Sh := { tmps := [(1, .c (.i .i64)), (2, .c (.p 2 0)), (4, .c (.p 4 0)), (7, .c (.p 25000000002 0)), (28, .c (.sl 41)), (29, .c (.i .i64)), (30, .c (.i .i64))], mem := [(2, .box ([.sl 41])), (4, .box (.b :: [.b, .i .i64, .sl 61, .i .i64, .i .i64])), (25000000002, .dat 93)] }
noncomputable def b4L (L : List Lf) (p : D) : Ex × St := ((.exit 0), mg (a0x a4Y L) [1, 2, 4, 7] [] [2, 4, 25000000002] [(25000000002, .dat 93 p)])
noncomputable def d6Q (L : List Lf) : List (Bool × (Ex × St)) := bnd (b0m N L N (pk a4Y [4, 14] L)) fun q => [(q.isSome, b4L L (q.getD default))]
theorem c1I (m : Nat) (kn : St → Option (Ex × St)) (L x : List Lf) : lpB Try.prog (d6P N) (d0n N).h 0 13 24 a4Y [4, 14] [1, 2, 4, 5, 7] [2, 4, 25000000002] (m + 100) kn L x = a7j N L x (fun y => kn (a0x a4Y (mx a4Y [4, 14] L y))) (fun p => some (b4L L p)) := by kernel_rfl
theorem d0o (L : List Lf) (m : Nat) (x : List Lf) : b0m N L (m + 1) x = a7j N L x (b0m N L m) some := by kernel_rfl
noncomputable def d0p : Sg Try.prog 0 13 :=
 (d0n N).lp (d6Q N) N a0b (b6l N) (fun m kn L x => (c1I N m kn L x).trans (b9s N L x _ _)) (fun L m x => (d0o N L m x).trans (b9s N L x (b0m N L m) some)) fun L x hx => a0D x hx
noncomputable def c51 (v1 : LD) (v2 : Int) (k0 : Ty0 → Option R) : Option R :=
 bnd (b6k N v1) fun y0 =>
 bif y0.isSome then
  bif ((y0.getD default) != 0) then
   k0 (false, false, 0, true, [], 0, 0, (y0.getD default))
  else
   bnd (a2N N v2 0 (IntKind.wrap .i64 ((v1.length : Int) - 1))) fun y1 =>
   bif (!y1) then
    k0 (false, false, 0, true, [], 0, 0, 4)
   else
    bnd (a9T N) fun y2 =>
    bif ((decide (0 ≤ v2)) && (decide (v2 ≤ (v1.length : Int)))) then
     bnd (c3E N ((v1.take v2.toNat).drop 0) (((v1.take v2.toNat).drop 0).length : Int) 0 y2) fun y3 =>
     bif y3.isSome then
      bif (inB v2 v1.length) then
       bif (((v1.getD v2.toNat (.i 0)).cell 0).toI == 1) then
        k0 (false, false, 0, true, [], 0, 0, 7)
       else
        bif (inB v2 v1.length) then
         bif (inB ((v1.getD v2.toNat (.i 0)).cell 1).toI 16) then
          bnd ((y3.getD default).cell (0 + (((v1.getD v2.toNat (.i 0)).cell 1).toI.toNat * 6))).toB fun y4 =>
          bnd ((y3.getD default).cell (1 + (((v1.getD v2.toNat (.i 0)).cell 1).toI.toNat * 6))).toB fun y5 =>
          bnd ((y3.getD default).cell (2 + (((v1.getD v2.toNat (.i 0)).cell 1).toI.toNat * 6))).toI fun y6 =>
          bnd ((y3.getD default).cell (3 + (((v1.getD v2.toNat (.i 0)).cell 1).toI.toNat * 6))).isNil fun y7 =>
          bnd (((y3.getD default).cell (3 + (((v1.getD v2.toNat (.i 0)).cell 1).toI.toNat * 6))).items : List D) fun y8 =>
          bnd ((y3.getD default).cell (4 + (((v1.getD v2.toNat (.i 0)).cell 1).toI.toNat * 6))).toI fun y9 =>
          bnd ((y3.getD default).cell (5 + (((v1.getD v2.toNat (.i 0)).cell 1).toI.toNat * 6))).toI fun y10 =>
          k0 (y4, y5, y6, y7, y8, y9, y10, 0)
         else
          none
        else
         none
      else
       none
     else
      none
    else
     none
 else
  none
noncomputable def c52 (v1 : LD) (v2 : Int) : Option (Ty0) := c51 N v1 v2 (fun p => some p)
theorem d6R (v1 : LD) (v2 : Int) (k0 : Ty0 → Option R) : c51 N v1 v2 k0 = (c52 N v1 v2).bind k0 := by
 unfold c52 c51
 repeat' (first | with_reducible apply a0d | (with_reducible apply a0l; intro _) | rfl)
noncomputable def d0q : Sh := { tmps := [(0, .g ([.sl 41])), (1, .c (.i .i64))], mem := [] }
noncomputable def d0r (L : List Lf) (p : Ty0) : Res := let p1 := p.2; let p2 := p1.2; let p3 := p2.2; let p4 := p3.2; let p5 := p4.2; let p6 := p5.2; let p7 := p6.2; ([.g [.b p.1, .b p1.1, .i .i64 p2.1, .sl 61 p3.1 p4.1, .i .i64 p5.1, .i .i64 p6.1], .c (.i .i64 p7)], [])
noncomputable def e53 (L : List Lf) : List (Bool × Res) := bnd (c51 N (ll L 1) (li L 2) (fun p => some p)) fun q => [(q.isSome, d0r L (q.getD default))]
theorem e1C (L : List Lf) : bd Try.prog (d6P N) (d0p N).h 13 d0q L = c51 N (ll L 1) (li L 2) (fun p => some (d0r L p)) := by kernel_rfl
theorem e55 : a0t Try.prog 13 d0q (e53 N) :=
 (d0p N).fn a0b (b6l N) fun L x hx => ((e1C N L).trans ((d6R N ..).trans (a0D x hx)))
noncomputable def d6S : a0e := ext 13 (a1b d0q (e53 N)) (d6P N)
theorem b6m : a0c Try.prog (d6S N) := a0t.to (e55 N) (b6l N)
noncomputable def e56 : List (Nat × List Nat) := [(0, [0, 1]), (1, [2, 1]), (2, [2, 1, 5]), (3, [2, 7, 1, 5, 6]), (4, [15, 14, 13, 7, 2, 1, 5, 6]), (5, [13, 15, 7, 2, 1, 14, 5, 6]), (6, [7, 2, 9, 1, 15, 14, 13, 5, 6]), (7, [7, 9, 1, 10, 15, 14, 13, 2, 5, 6]), (8, [1, 10, 15, 14, 13, 7, 2, 5, 6, 9]), (9, [5, 9, 6, 15, 14, 13, 7, 2, 1]), (10, [6, 9, 15, 14, 13, 7, 2, 1, 5]), (11, [15, 14, 13, 7, 2, 1, 5, 6]), (12, [5])]
noncomputable def e57 : a0r := [(12, [1, 2, 5, 6, 7, 13, 14, 15], [2, 5], [5])]
noncomputable def d0s (N : Nat) : Sg Try.prog 0 18 := .start e57 e56
noncomputable def a7k (N : Nat) (w0 : Bool) (w4 : LD) (w5 w13 : Int) (w1 w2 w6 : Int) (w14 : Bool) (w15 : LD) (kr : Int → Int → Int → Bool → LD → Option R) (k0 : Bool × LD → Option R) : Option R :=
 bif (decide (w6 < w5)) then
  bif (inB w6 w4.length) then
   bnd (IntKind.wrap .i64 (w2 + ((w4.getD w6.toNat (.i 0)).cell 1).toI)) fun y0 =>
   bif (bif w0 then (w2 == w13) else false) then
    kr w1 y0 (IntKind.wrap .i64 (w6 + 1)) w14 w15
   else
    bif (decide ((w15.length + 1) * 32 ≤ a1j) && decide ((w15.length + 1) ≤ a0i)) then
     bnd ((w15 ++ [(.a [(.i ((w4.getD w6.toNat (.i 0)).cell 0).toI), (.i ((w4.getD w6.toNat (.i 0)).cell 1).toI), (.i ((w4.getD w6.toNat (.i 0)).cell 2).toI), (.i w1)])]) : List D) fun y1 =>
     bnd (IntKind.wrap .i64 (w1 + ((w4.getD w6.toNat (.i 0)).cell 1).toI)) fun y2 =>
     kr y2 y0 (IntKind.wrap .i64 (w6 + 1)) false y1
    else
     none
  else
   none
 else
  k0 (w14, w15)
noncomputable def b0n (N : Nat) {R : Type} (w0 : Bool) (w4 : LD) (w5 w13 : Int) : Nat → Int → Int → Int → Bool → LD → (Bool × LD → Option R) → Option R
 | 0, _, _, _, _, _, _ => none
 | m + 1, w1, w2, w6, w14, w15, k0 => a7k N w0 w4 w5 w13 w1 w2 w6 w14 w15 (fun w1 w2 w6 w14 w15 => b0n N w0 w4 w5 w13 m w1 w2 w6 w14 w15 k0) k0
noncomputable def c3F (w0 : Bool) (w4 : LD) (w5 w13 : Int) (w1 w2 w6 : Int) (w14 : Bool) (w15 : LD) : Option (Bool × LD) := b0n N (R := (Bool × LD)) w0 w4 w5 w13 N w1 w2 w6 w14 w15 (fun p => some p)
noncomputable def a7l (L x : List Lf) (kr : List Lf → Option R) (k0 : Bool × LD → Option R) : Option R := a7k N (lb L 0) (ll L 4) (li L 5) (li L 13) (li x 0) (li x 1) (li x 2) (lb x 3) (ll x 4) (fun w1 w2 w6 w14 w15 => kr [.i w1, .i w2, .i w6, .b w14, .l w15]) k0
theorem b9t (L x : List Lf) (kr : List Lf → Option R) (k0 : Bool × LD → Option R) : a7l N L x kr k0 = (a7l N L x (fun y => some (.inl y)) (fun p => some (.inr p))).bind (a1a kr k0) := by
 unfold a7l a7k
 repeat' (first | with_reducible apply a0d | (with_reducible apply a0l; intro _) | rfl)
noncomputable def b0o (L : List Lf) (m : Nat) (x : List Lf) : Option (Bool × LD) := b0n N (R := (Bool × LD)) (lb L 0) (ll L 4) (li L 5) (li L 13) m (li x 0) (li x 1) (li x 2) (lb x 3) (ll x 4) (fun p => some p)
noncomputable def a7m : Sh := { tmps := [(1, .c (.b)), (2, .c (.p 2 0)), (5, .c (.o 5)), (6, .c (.i .i64)), (7, .c (.i .i64)), (13, .c (.sl 61)), (14, .c (.i .i64)), (15, .c (.i .i64))], mem := [(2, .box (.b :: [.b, .i .i64, .sl 61, .i .i64, .i .i64])), (5, .row 63 true)] }
noncomputable def d6T (L : List Lf) : List (Bool × (Ex × St)) := bnd (b0o N L N (pk a7m [1, 2, 6, 14, 15] L)) fun q => [(q.isSome, ((.exit 0), ⟨[(5, .c (.o 5))], [(5, .row 63 true (q.getD default).1 (q.getD default).2)]⟩))]
theorem c1J (m : Nat) (kn : St → Option (Ex × St)) (L x : List Lf) : lpB Try.prog (d6S N) (d0s N).h 0 18 12 a7m [1, 2, 6, 14, 15] [4, 5] [5] (m + 100) kn L x = a7l N L x (fun y => kn (a0x a7m (mx a7m [1, 2, 6, 14, 15] L y))) (fun p => some ((.exit 0), ⟨[(5, .c (.o 5))], [(5, .row 63 true p.1 p.2)]⟩)) := by kernel_rfl
theorem d0t (L : List Lf) (m : Nat) (x : List Lf) : b0o N L (m + 1) x = a7l N L x (b0o N L m) some := by kernel_rfl
noncomputable def d0u : Sg Try.prog 0 18 :=
 (d0s N).lp (d6T N) N a0b (b6m N) (fun m kn L x => (c1J N m kn L x).trans (b9t N L x _ _)) (fun L m x => (d0t N L m x).trans (b9t N L x (b0o N L m) some)) fun L x hx => a0D x hx
noncomputable def c53 (v4 : LD) (v6 : Int) (v7 : Bool) (k0 : Bool × LD → Option R) : Option R :=
 bnd (c3F N v7 v4 (v4.length : Int) v6 0 0 0 true []) fun y0 =>
 bif y0.isSome then
  k0 (y0.getD default)
 else
  none
noncomputable def c1K (v4 : LD) (v6 : Int) (v7 : Bool) : Option (Bool × LD) := c53 N v4 v6 v7 (fun p => some p)
theorem d6U (v4 : LD) (v6 : Int) (v7 : Bool) (k0 : Bool × LD → Option R) : c53 N v4 v6 v7 k0 = (c1K N v4 v6 v7).bind k0 := by
 unfold c1K c53
 repeat' (first | with_reducible apply a0d | (with_reducible apply a0l; intro _) | rfl)
noncomputable def d0v : Sh := { tmps := [(0, .g (.b :: [.b, .i .i64, .sl 61, .i .i64, .i .i64])), (1, .c (.b))], mem := [] }
noncomputable def e58 (L : List Lf) : List (Bool × Res) := bnd (c53 N (ll L 4) (li L 6) (lb L 7) (fun p => some p)) fun q => [(q.isSome, ([.c (.sl 63 (q.getD default).1 (q.getD default).2)], []))]
theorem e1D (L : List Lf) : bd Try.prog (d6S N) (d0u N).h 18 d0v L = c53 N (ll L 4) (li L 6) (lb L 7) (fun p => some ([.c (.sl 63 p.1 p.2)], [])) := by kernel_rfl
theorem e59 : a0t Try.prog 18 d0v (e58 N) :=
 (d0u N).fn a0b (b6m N) fun L x hx => ((e1D N L).trans ((d6U N ..).trans (a0D x hx)))
noncomputable def e1E : a0e := ext 18 (a1b d0v (e58 N)) (d6S N)
theorem c3G : a0c Try.prog (e1E N) := a0t.to (e59 N) (b6m N)
noncomputable def e6a : List (Nat × List Nat) := [(0, [0, 1]), (1, [2, 1])]
noncomputable def e6b : a0r := []
noncomputable def d0w (N : Nat) : Sg Try.prog 1 20 := .start e6b e6a
noncomputable def c54 (N : Nat) (v0 v4 : Int) (k0 : Bool → R) : R :=
 k0 (v0 == v4)
noncomputable def d6V (v0 v4 : Int) : Bool := c54 N v0 v4 (fun p => p)
theorem e1F (v0 v4 : Int) (k0 : Bool → R) : c54 N v0 v4 k0 = k0 (d6V N v0 v4) := by
 unfold d6V c54
 repeat' (first | rfl | apply a0M | (apply a1u; intro _))
noncomputable def b9u : Sh := { tmps := [(0, .g ([.i .i64, .i .i64, .i .i64, .i .i64])), (1, .c (.p 0 0))], mem := [(0, .box ([.i .i64, .i .i64, .i .i64, .s, .b]))] }
noncomputable def e6c (L : List Lf) : List (Bool × Res) := bnd (c54 N (li L 0) (li L 4) (fun p => p)) fun q => [(true, ([.c (.b q)], mgA (a0x b9u L).mem [] [0]))]
theorem e1G (L : List Lf) : bd Try.prog (e1E N) (d0w N).h 20 b9u L = c54 N (li L 0) (li L 4) (fun p => some ([.c (.b p)], mgA (a0x b9u L).mem [] [0])) := by kernel_rfl
theorem e6d : a0t Try.prog 20 b9u (e6c N) :=
 (d0w N).fn a0b (c3G N) fun L x hx => ((e1G N L).trans ((e1F N ..).trans (a4q _ _ hx)))
noncomputable def d6W : a0e := ext 20 (a1b b9u (e6c N)) (e1E N)
theorem b6n : a0c Try.prog (d6W N) := a0t.to (e6d N) (c3G N)
noncomputable def e6e : List (Nat × List Nat) := [(0, [0, 1]), (1, [0, 1]), (2, [8, 7, 1, 0]), (3, [8, 1, 0, 7]), (4, [1, 0, 5, 8, 7]), (5, [5]), (6, [8, 7, 1, 0]), (7, [])]
noncomputable def e6f : a0r := [(6, [0, 1, 7, 8], [0], [])]
noncomputable def d0x (N : Nat) : Sg Try.prog 1 19 := .start e6f e6e
noncomputable def b6o (w1 : LD) (w2 w4 : Int) (w3 : Int) (kr : Int → Option R) (k0 : Int → Option R) (k1 : Unit → Option R) : Option R :=
 bif (decide (w3 < w2)) then
  bif (inB w3 w1.length) then
   bnd (d6V N ((w1.getD w3.toNat (.i 0)).cell 0).toI w4) fun y0 =>
   bif y0 then
    k0 w3
   else
    kr (IntKind.wrap .i64 (w3 + 1))
  else
   none
 else
  k1 ()
noncomputable def b2P (N : Nat) {R : Type} (w1 : LD) (w2 w4 : Int) : Nat → Int → (Int → Option R) → (Unit → Option R) → Option R
 | 0, _, _, _ => none
 | m + 1, w3, k0, k1 => b6o N w1 w2 w4 w3 (fun w3 => b2P N w1 w2 w4 m w3 k0 k1) k0 k1
noncomputable def d0y (w1 : LD) (w2 w4 : Int) (w3 : Int) : Option (Sum (Int) (Unit)) := b2P N (R := (Sum (Int) (Unit))) w1 w2 w4 N w3 (fun p => some (.inl p)) (fun p => some (.inr p))
noncomputable def b2Q (L x : List Lf) (kr : List Lf → Option R) (k0 : Int → Option R) (k1 : Unit → Option R) : Option R := b6o N (ll L 1) (li L 2) (li L 4) (li x 0) (fun w3 => kr [.i w3]) k0 k1
theorem c3H (L x : List Lf) (kr : List Lf → Option R) (k0 : Int → Option R) (k1 : Unit → Option R) : b2Q N L x kr k0 k1 = (b2Q N L x (fun y => some (.inl y)) (fun p => some (.inr (.inl p))) (fun p => some (.inr (.inr p)))).bind (a1a kr (a1a k0 k1)) := by
 unfold b2Q b6o
 repeat' (first | with_reducible apply a0d | (with_reducible apply a0l; intro _) | rfl)
noncomputable def b6p (L : List Lf) (m : Nat) (x : List Lf) : Option (Sum (Int) (Unit)) := b2P N (R := (Sum (Int) (Unit))) (ll L 1) (li L 2) (li L 4) m (li x 0) (fun p => some (.inl p)) (fun p => some (.inr p))
noncomputable def a39 : Sh := { tmps := [(0, .c (.sl 63)), (1, .c (.f 20 [(0, 0)])), (7, .c (.i .i64)), (8, .c (.i .i64))], mem := [(0, .box ([.i .i64, .i .i64, .i .i64, .s, .b]))] }
noncomputable def b9v (L : List Lf) (p : Int) : Ex × St := (.ret, mg (a0x a39 L) [4] [(4, .c (.i .i64 p))] [0] [])
noncomputable def e1H (L : List Lf) : List (Bool × (Ex × St)) := bnd (b6p N L N (pk a39 [3] L)) fun q => [((a07 q), b9v L (a3p q)), ((a0I q).isSome, ((.exit 0), mg (a0x a39 L) [] [] [0] []))]
theorem c55 (m : Nat) (kn : St → Option (Ex × St)) (L x : List Lf) : lpB Try.prog (d6W N) (d0x N).h 1 19 6 a39 [3] [4] [0] (m + 100) kn L x = b2Q N L x (fun y => kn (a0x a39 (mx a39 [3] L y))) (fun p => some (b9v L p)) (fun _ => some ((.exit 0), mg (a0x a39 L) [] [] [0] [])) := by kernel_rfl
theorem d6X (L : List Lf) (m : Nat) (x : List Lf) : b6p N L (m + 1) x = b2Q N L x (b6p N L m) (fun p => some (.inl p)) (fun p => some (.inr p)) := by kernel_rfl
noncomputable def d0z : Sg Try.prog 1 19 :=
 (d0x N).lp (e1H N) N a0b (b6n N) (fun m kn L x => (c55 N m kn L x).trans (c3H N L x _ _ _)) (fun L m x => (d6X N L m x).trans (c3H N L x (b6p N L m) (fun p => some (.inl p)) (fun p => some (.inr p)))) fun L x hx => (a3w a0D) x hx
noncomputable def c56 (v1 : LD) (v2 : Int) (k0 : Int → Option R) : Option R :=
 bnd (d0y N v1 (v1.length : Int) v2 0) fun y0 =>
 bif (a07 y0) then
  k0 (a3p y0)
 else
  bif (a0I y0).isSome then
   k0 (-1)
  else
   none
noncomputable def d0A (v1 : LD) (v2 : Int) : Option (Int) := c56 N v1 v2 (fun p => some p)
theorem d6Y (v1 : LD) (v2 : Int) (k0 : Int → Option R) : c56 N v1 v2 k0 = (d0A N v1 v2).bind k0 := by
 unfold d0A c56
 repeat' (first | with_reducible apply a0d | (with_reducible apply a0l; intro _) | rfl)
noncomputable def b9w : Sh := { tmps := [(0, .c (.sl 63)), (1, .c (.f 20 [(0, 0)]))], mem := [(0, .box ([.i .i64, .i .i64, .i .i64, .s, .b]))] }
noncomputable def e6g (L : List Lf) : List (Bool × Res) := bnd (c56 N (ll L 1) (li L 2) (fun p => some p)) fun q => [(q.isSome, ([.c (.i .i64 (q.getD default))], mgA (a0x b9w L).mem [] [0]))]
theorem e1I (L : List Lf) : bd Try.prog (d6W N) (d0z N).h 19 b9w L = c56 N (ll L 1) (li L 2) (fun p => some ([.c (.i .i64 p)], mgA (a0x b9w L).mem [] [0])) := by kernel_rfl
theorem e6h : a0t Try.prog 19 b9w (e6g N) :=
 (d0z N).fn a0b (b6n N) fun L x hx => ((e1I N L).trans ((d6Y N ..).trans (a0D x hx)))
noncomputable def d6Z : a0e := ext 19 (a1b b9w (e6g N)) (d6W N)
theorem b6q : a0c Try.prog (d6Z N) := a0t.to (e6h N) (b6n N)
noncomputable def e6i : List (Nat × List Nat) := [(0, [0]), (1, [2, 3, 0]), (3, [0, 2, 3]), (2, [2, 3, 0])]
noncomputable def e6j : a0r := [(3, [0, 2, 3], [0], [])]
noncomputable def d0B (N : Nat) : Sg Try.prog 1 66 := .start e6j e6i
noncomputable def c1L (N : Nat) (w0 w1 : Int) (w3 : LD) (kr : Int → Int → LD → Option R) (k0 : LD → Option R) : Option R :=
 bif (decide (w0 < w1)) then
  bif (inB w1 w3.length) then
   bif (decide (w1.toNat < w3.length)) then
    bif (inB w0 w3.length) then
     bif (decide (w0.toNat < w3.length)) then
      bif (inB w0 w3.length) then
       bif (decide (w0.toNat < w3.length)) then
        bif (inB w1 (w3.set w0.toNat (.i (w3.getD w1.toNat (.i 0)).toI)).length) then
         bif (decide (w1.toNat < (w3.set w0.toNat (.i (w3.getD w1.toNat (.i 0)).toI)).length)) then
          bnd (((w3.set w0.toNat (.i (w3.getD w1.toNat (.i 0)).toI)).set w1.toNat (.i (w3.getD w0.toNat (.i 0)).toI)) : List D) fun y0 =>
          kr (IntKind.wrap .i64 (w0 + 1)) (IntKind.wrap .i64 (w1 - 1)) y0
         else
          none
        else
         none
       else
        none
      else
       none
     else
      none
    else
     none
   else
    none
  else
   none
 else
  k0 w3
noncomputable def c1M (N : Nat) {R : Type} : Nat → Int → Int → LD → (LD → Option R) → Option R
 | 0, _, _, _, _ => none
 | m + 1, w0, w1, w3, k0 => c1L N w0 w1 w3 (fun w0 w1 w3 => c1M N m w0 w1 w3 k0) k0
noncomputable def e1J (w0 w1 : Int) (w3 : LD) : Option (LD) := c1M N (R := (LD)) N w0 w1 w3 (fun p => some p)
noncomputable def b2R (L x : List Lf) (kr : List Lf → Option R) (k0 : LD → Option R) : Option R := c1L N (li x 0) (li x 1) (ll x 2) (fun w0 w1 w3 => kr [.i w0, .i w1, .l w3]) k0
theorem c3I (L x : List Lf) (kr : List Lf → Option R) (k0 : LD → Option R) : b2R N L x kr k0 = (b2R N L x (fun y => some (.inl y)) (fun p => some (.inr p))).bind (a1a kr k0) := by
 unfold b2R c1L
 repeat' (first | with_reducible apply a0d | (with_reducible apply a0l; intro _) | rfl)
noncomputable def b6r (L : List Lf) (m : Nat) (x : List Lf) : Option (LD) := c1M N (R := (LD)) m (li x 0) (li x 1) (ll x 2) (fun p => some p)
noncomputable def b0p : Sh := { tmps := [(0, .c (.o 0)), (2, .c (.i .i64)), (3, .c (.i .i64))], mem := [(0, .row 5 true)] }
noncomputable def e1K (L : List Lf) : List (Bool × (Ex × St)) := bnd (b6r N L N (pk b0p [0, 1, 3] L)) fun q => [(q.isSome, ((.exit 0), ⟨[], [(0, .row 5 true (lb L 2) (q.getD default))]⟩))]
theorem c57 (m : Nat) (kn : St → Option (Ex × St)) (L x : List Lf) : lpB Try.prog (d6Z N) (d0B N).h 1 66 3 b0p [0, 1, 3] [] [0] (m + 100) kn L x = b2R N L x (fun y => kn (a0x b0p (mx b0p [0, 1, 3] L y))) (fun p => some ((.exit 0), ⟨[], [(0, .row 5 true (lb L 2) p)]⟩)) := by kernel_rfl
theorem d60 (L : List Lf) (m : Nat) (x : List Lf) : b6r N L (m + 1) x = b2R N L x (b6r N L m) some := by kernel_rfl
noncomputable def d0C : Sg Try.prog 1 66 :=
 (d0B N).lp (e1K N) N a0b (b6q N) (fun m kn L x => (c57 N m kn L x).trans (c3I N L x _ _)) (fun L m x => (d60 N L m x).trans (c3I N L x (b6r N L m) some)) fun L x hx => a0D x hx
noncomputable def d0D (v1 : LD) (k0 : LD → Option R) : Option R :=
 bnd (e1J N 0 (IntKind.wrap .i64 ((v1.length : Int) - 1)) v1) fun y0 =>
 bif y0.isSome then
  k0 (y0.getD default)
 else
  none
noncomputable def e1L (v1 : LD) : Option (LD) := d0D N v1 (fun p => some p)
theorem d61 (v1 : LD) (k0 : LD → Option R) : d0D N v1 k0 = (e1L N v1).bind k0 := by
 unfold e1L d0D
 repeat' (first | with_reducible apply a0d | (with_reducible apply a0l; intro _) | rfl)
noncomputable def d0E : Sh := { tmps := [(0, .c (.o 0))], mem := [(0, .row 5 true)] }
noncomputable def e6k (L : List Lf) : List (Bool × Res) := bnd (d0D N (ll L 1) (fun p => some p)) fun q => [(q.isSome, ([], [(0, .row 5 true (lb L 0) (q.getD default))]))]
theorem e1M (L : List Lf) : bd Try.prog (d6Z N) (d0C N).h 66 d0E L = d0D N (ll L 1) (fun p => some ([], [(0, .row 5 true (lb L 0) p)])) := by kernel_rfl
theorem e6l : a0t Try.prog 66 d0E (e6k N) :=
 (d0C N).fn a0b (b6q N) fun L x hx => ((e1M N L).trans ((d61 N ..).trans (a0D x hx)))
noncomputable def d0F : a0e := ext 66 (a1b d0E (e6k N)) (d6Z N)
theorem b0q : a0c Try.prog (d0F N) := a0t.to (e6l N) (b6q N)
noncomputable def e6m : List (Nat × List Nat) := [(0, [1, 0, 2]), (1, [1, 0, 2]), (2, [7, 0, 2]), (3, [13, 12, 7, 0, 2]), (4, [13, 7, 0, 12, 2]), (5, [7, 8, 0, 13, 12, 2]), (6, [13, 12, 7, 0, 2]), (7, [2, 7]), (8, [7]), (9, [7])]
noncomputable def e6n : a0r := [(9, [0, 2, 7, 12, 13], [10], []), (26, [7, 25], [10], [])]
noncomputable def d0G (N : Nat) : Sg Try.prog 0 42 := .start e6n e6m
noncomputable def c1N (N : Nat) (w0 w2 : Int) (w3 : Int) (w5 : LD) (kr : Int → LD → Option R) (k0 : LD → Option R) : Option R :=
 bif (decide (w3 < w2)) then
  bif (decide (0 ≤ (IntKind.wrap .i64 (8 * w3)))) then
   bnd (IntKind.wrap .u8 (w0.fdiv (2 ^ (min (IntKind.wrap .i64 (8 * w3)).toNat 64)))) fun y0 =>
   bif (inB w3 w5.length) then
    bif (decide (w3.toNat < w5.length)) then
     kr (IntKind.wrap .i64 (w3 + 1)) (w5.set w3.toNat (.i y0))
    else
     none
   else
    none
  else
   none
 else
  k0 w5
noncomputable def c1O (N : Nat) {R : Type} (w0 w2 : Int) : Nat → Int → LD → (LD → Option R) → Option R
 | 0, _, _, _ => none
 | m + 1, w3, w5, k0 => c1N N w0 w2 w3 w5 (fun w3 w5 => c1O N w0 w2 m w3 w5 k0) k0
noncomputable def e1N (w0 w2 : Int) (w3 : Int) (w5 : LD) : Option (LD) := c1O N (R := (LD)) w0 w2 N w3 w5 (fun p => some p)
noncomputable def b2S (L x : List Lf) (kr : List Lf → Option R) (k0 : LD → Option R) : Option R := c1N N (li L 0) (li L 2) (li x 0) (ll x 1) (fun w3 w5 => kr [.i w3, .l w5]) k0
theorem c3J (L x : List Lf) (kr : List Lf → Option R) (k0 : LD → Option R) : b2S N L x kr k0 = (b2S N L x (fun y => some (.inl y)) (fun p => some (.inr p))).bind (a1a kr k0) := by
 unfold b2S c1N
 repeat' (first | with_reducible apply a0d | (with_reducible apply a0l; intro _) | rfl)
noncomputable def b6s (L : List Lf) (m : Nat) (x : List Lf) : Option (LD) := c1O N (R := (LD)) (li L 0) (li L 2) m (li x 0) (ll x 1) (fun p => some p)
noncomputable def a7n : Sh := { tmps := [(0, .c (.i .i64)), (2, .c (.b)), (7, .c (.o 10)), (12, .c (.i .i64)), (13, .c (.i .i64))], mem := [(10, .row 5 true)] }
noncomputable def b9x (L : List Lf) (p : LD) : Ex × St := ((.exit 0), mg (a0x a7n L) [2, 7] [] [10] [(10, .row 5 true (lb L 4) p)])
noncomputable def e1O (L : List Lf) : List (Bool × (Ex × St)) := bnd (b6s N L N (pk a7n [3, 5] L)) fun q => [(q.isSome, b9x L (q.getD default))]
theorem c58 (m : Nat) (kn : St → Option (Ex × St)) (L x : List Lf) : lpB Try.prog (d0F N) (d0G N).h 0 42 9 a7n [3, 5] [2, 6, 7] [10] (m + 100) kn L x = b2S N L x (fun y => kn (a0x a7n (mx a7n [3, 5] L y))) (fun p => some (b9x L p)) := by kernel_rfl
theorem d62 (L : List Lf) (m : Nat) (x : List Lf) : b6s N L (m + 1) x = b2S N L x (b6s N L m) some := by kernel_rfl
noncomputable def d0H : Sg Try.prog 0 42 :=
 (d0G N).lp (e1O N) N a0b (b0q N) (fun m kn L x => (c58 N m kn L x).trans (c3J N L x _ _)) (fun L m x => (d62 N L m x).trans (c3J N L x (b6s N L m) some)) fun L x hx => a0D x hx
noncomputable def a7o (w0 : Bool) (w2 : LD) (k0 : LD → Option R) : Option R :=
 bif w0 then
  bnd (e1L N w2) fun y0 =>
  bif y0.isSome then
   k0 (y0.getD default)
  else
   none
 else
  k0 w2
noncomputable def b6t (w0 : Bool) (w2 : LD) : Option (LD) := a7o N w0 w2 (fun p => some p)
theorem c1P (w0 : Bool) (w2 : LD) (k0 : LD → Option R) : a7o N w0 w2 k0 = (b6t N w0 w2).bind k0 := by
 unfold b6t a7o
 repeat' (first | with_reducible apply a0d | (with_reducible apply a0l; intro _) | rfl)
noncomputable def d0I : Sh := { tmps := [(7, .c (.o 10)), (25, .c (.b))], mem := [(10, .row 5 true)] }
noncomputable def b4M (L : List Lf) (p : LD) : Ex × St := (.normal, ⟨[(7, .c (.o 10))], [(10, .row 5 true (lb L 1) p)]⟩)
noncomputable def d63 (L : List Lf) : List (Bool × (Ex × St)) := bnd (a7o N (lb L 0) (ll L 2) (fun p => some p)) fun q => [(q.isSome, b4M L (q.getD default))]
theorem c59 (L : List Lf) : pc Try.prog (d0F N) (d0H N).h 0 100 42 26 d0I L [7] [10] = a7o N (lb L 0) (ll L 2) (fun p => some (b4M L p)) := by kernel_rfl
noncomputable def d0J : Sg Try.prog 0 42 :=
 (d0H N).cut (d63 N) a0b (b0q N) fun L x hx => (c59 N L).trans ((c1P N ..).trans (a0D x hx))
noncomputable def d0K (v0 v1 : Int) (v2 : Bool) (k0 : LD → Option R) : Option R :=
 bif (((decide (0 ≤ v1)) && (decide (v1 ≤ v1))) && (decide (v1.toNat * 1 ≤ a1j) && decide (v1.toNat ≤ a0i))) then
  bnd (e1N N v0 ((List.replicate v1.toNat ((.i 0) : D)).length : Int) 0 (List.replicate v1.toNat ((.i 0) : D))) fun y0 =>
  bif y0.isSome then
   bnd (b6t N v2 (y0.getD default)) fun y1 =>
   bif y1.isSome then
    k0 (y1.getD default)
   else
    none
  else
   none
 else
  none
noncomputable def b6u (v0 v1 : Int) (v2 : Bool) : Option (LD) := d0K N v0 v1 v2 (fun p => some p)
theorem d64 (v0 v1 : Int) (v2 : Bool) (k0 : LD → Option R) : d0K N v0 v1 v2 k0 = (b6u N v0 v1 v2).bind k0 := by
 unfold b6u d0K
 repeat' (first | with_reducible apply a0d | (with_reducible apply a0l; intro _) | rfl)
noncomputable def d0L : Sh := { tmps := [(0, .c (.i .i64)), (1, .c (.i .i64)), (2, .c (.b))], mem := [] }
noncomputable def e6o (L : List Lf) : List (Bool × Res) := bnd (d0K N (li L 0) (li L 1) (lb L 2) (fun p => some p)) fun q => [(q.isSome, ([.c (.sl 5 false (q.getD default))], []))]
theorem e1P (L : List Lf) : bd Try.prog (d0F N) (d0J N).h 42 d0L L = d0K N (li L 0) (li L 1) (lb L 2) (fun p => some ([.c (.sl 5 false p)], [])) := by kernel_rfl
theorem e6p : a0t Try.prog 42 d0L (e6o N) :=
 (d0J N).fn a0b (b0q N) fun L x hx => ((e1P N L).trans ((d64 N ..).trans (a0D x hx)))
noncomputable def e1Q : a0e := ext 42 (a1b d0L (e6o N)) (d0F N)
theorem c3K : a0c Try.prog (e1Q N) := a0t.to (e6p N) (b0q N)
noncomputable def e6q : List (Nat × List Nat) := [(0, [0, 1]), (1, [0, 1])]
noncomputable def e6r : a0r := []
noncomputable def d0M (N : Nat) : Sg Try.prog 0 82 := .start e6r e6q
noncomputable def c1Q (N : Nat) (v0 : LB) (v1 : Int) (k0 : Int → R) : R :=
 k0 (Lib.indexByte v0 v1.toNat.toUInt8)
noncomputable def d0N (v0 : LB) (v1 : Int) : Int := c1Q N v0 v1 (fun p => p)
theorem e1R (v0 : LB) (v1 : Int) (k0 : Int → R) : c1Q N v0 v1 k0 = k0 (d0N N v0 v1) := by
 unfold d0N c1Q
 repeat' (first | rfl | apply a0M | (apply a1u; intro _))
noncomputable def d0O : Sh := { tmps := [(0, .c (.s)), (1, .c (.i .u8))], mem := [] }
noncomputable def e6s (L : List Lf) : List (Bool × Res) := bnd (c1Q N (ls L 0) (li L 1) (fun p => p)) fun q => [(true, ([.c (.i .i64 q)], []))]
theorem e1S (L : List Lf) : bd Try.prog (e1Q N) (d0M N).h 82 d0O L = c1Q N (ls L 0) (li L 1) (fun p => some ([.c (.i .i64 p)], [])) := by kernel_rfl
theorem e6t : a0t Try.prog 82 d0O (e6s N) :=
 (d0M N).fn a0b (c3K N) fun L x hx => ((e1S N L).trans ((e1R N ..).trans (a4q _ _ hx)))
noncomputable def e1T : a0e := ext 82 (a1b d0O (e6s N)) (e1Q N)
theorem c3L : a0c Try.prog (e1T N) := a0t.to (e6t N) (c3K N)
noncomputable def e6u : List (Nat × List Nat) := [(0, [1, 0]), (1, [1, 0]), (2, [5, 1, 0]), (4, [5, 0, 1]), (6, [5, 0, 1]), (8, [5, 0, 1]), (9, [0, 1]), (7, []), (5, [0, 1]), (3, []), (10, [1, 0, 5]), (11, [1, 0, 5, 6]), (12, [0, 5, 6, 7, 1]), (13, [0, 5, 8, 6, 7, 1]), (14, [8, 9, 0, 6, 7, 5, 1]), (15, [8, 9, 0, 6, 7, 5, 1, 10]), (16, [0, 8, 6, 9, 7, 5, 1, 10]), (17, [0, 8, 9, 6, 7, 5, 1, 10]), (18, [11, 8, 0, 7, 5, 1, 10, 9, 6]), (19, []), (20, [8, 11, 0, 7, 5, 1, 10, 9, 6]), (21, [0, 8, 7, 5, 1, 10, 9, 6]), (22, [8]), (23, [8, 10, 5, 0, 1, 9, 6, 7]), (24, [10, 5, 8, 0, 1, 9, 6, 7]), (25, [5, 10, 8, 0, 1, 9, 6, 7]), (30, [5, 10, 8, 9, 0, 1, 6, 7]), (31, [0, 8, 1]), (32, [13, 8]), (33, []), (34, [8, 13]), (26, [0, 8, 1]), (27, [12, 8]), (28, [12, 8]), (29, []), (35, [])]
noncomputable def e6v : a0r := []
noncomputable def d0P (N : Nat) : Sg Try.prog 0 78 := .start e6v e6u
noncomputable def c1R (v0 : LB) (k0 : Int → R) : R :=
 bif (([0] : List UInt8) == v0) then
  k0 0
 else
  bnd (d0N N v0 0) fun y0 =>
  k0 y0
noncomputable def c1S (v0 : LB) : Int := c1R N v0 (fun p => p)
theorem e1U (v0 : LB) (k0 : Int → R) : c1R N v0 k0 = k0 (c1S N v0) := by
 unfold c1S c1R
 repeat' (first | rfl | apply a0M | (apply a1u; intro _))
noncomputable def d0Q : Sh := { tmps := [(0, .c (.s)), (1, .c (.ks [0]))], mem := [] }
noncomputable def e6w (L : List Lf) : List (Bool × Res) := bnd (c1R N (ls L 0) (fun p => p)) fun q => [(true, ([.c (.i .i64 q)], []))]
theorem e1V (L : List Lf) : bd Try.prog (e1T N) (d0P N).h 78 d0Q L = c1R N (ls L 0) (fun p => some ([.c (.i .i64 p)], [])) := by kernel_rfl
theorem e6x : a0t Try.prog 78 d0Q (e6w N) :=
 (d0P N).fn a0b (c3L N) fun L x hx => ((e1V N L).trans ((e1U N ..).trans (a4q _ _ hx)))
noncomputable def e1W : a0e := ext 78 (a1b d0Q (e6w N)) (e1T N)
theorem c3M : a0c Try.prog (e1W N) := a0t.to (e6x N) (c3L N)
noncomputable def e6y : List (Nat × List Nat) := [(0, [0, 1]), (1, [0, 1])]
noncomputable def e6z : a0r := []
noncomputable def d0R (N : Nat) : Sg Try.prog 0 67 := .start e6z e6y
noncomputable def c6a (v0 : LB) (k0 : Int → R) : R :=
 bnd (c1S N v0) fun y0 =>
 k0 y0
noncomputable def d65 (v0 : LB) : Int := c6a N v0 (fun p => p)
theorem e1X (v0 : LB) (k0 : Int → R) : c6a N v0 k0 = k0 (d65 N v0) := by
 unfold d65 c6a
 repeat' (first | rfl | apply a0M | (apply a1u; intro _))
noncomputable def d0S : Sh := { tmps := [(0, .c (.s)), (1, .c (.ks [0]))], mem := [] }
noncomputable def e6A (L : List Lf) : List (Bool × Res) := bnd (c6a N (ls L 0) (fun p => p)) fun q => [(true, ([.c (.i .i64 q)], []))]
theorem e1Y (L : List Lf) : bd Try.prog (e1W N) (d0R N).h 67 d0S L = c6a N (ls L 0) (fun p => some ([.c (.i .i64 p)], [])) := by kernel_rfl
theorem e6B : a0t Try.prog 67 d0S (e6A N) :=
 (d0R N).fn a0b (c3M N) fun L x hx => ((e1Y N L).trans ((e1X N ..).trans (a4q _ _ hx)))
noncomputable def e1Z : a0e := ext 67 (a1b d0S (e6A N)) (e1W N)
theorem c3N : a0c Try.prog (e1Z N) := a0t.to (e6B N) (c3M N)
noncomputable def e6C : List (Nat × List Nat) := [(0, [0, 1]), (1, [0, 1])]
noncomputable def e6D : a0r := []
noncomputable def d0T (N : Nat) : Sg Try.prog 0 43 := .start e6D e6C
noncomputable def c6b (v0 : LB) (k0 : Bool → R) : R :=
 bnd (d65 N v0) fun y0 =>
 k0 (decide (y0 ≥ 0))
noncomputable def c1T (v0 : LB) : Bool := c6b N v0 (fun p => p)
theorem e15 (v0 : LB) (k0 : Bool → R) : c6b N v0 k0 = k0 (c1T N v0) := by
 unfold c1T c6b
 repeat' (first | rfl | apply a0M | (apply a1u; intro _))
noncomputable def d0U : Sh := { tmps := [(0, .c (.s)), (1, .c (.ks [0]))], mem := [] }
noncomputable def e6E (L : List Lf) : List (Bool × Res) := bnd (c6b N (ls L 0) (fun p => p)) fun q => [(true, ([.c (.b q)], []))]
theorem e16 (L : List Lf) : bd Try.prog (e1Z N) (d0T N).h 43 d0U L = c6b N (ls L 0) (fun p => some ([.c (.b p)], [])) := by kernel_rfl
theorem e6F : a0t Try.prog 43 d0U (e6E N) :=
 (d0T N).fn a0b (c3N N) fun L x hx => ((e16 N L).trans ((e15 N ..).trans (a4q _ _ hx)))
noncomputable def c6c : a0e := ext 43 (a1b d0U (e6E N)) (e1Z N)
theorem a7p : a0c Try.prog (c6c N) := a0t.to (e6F N) (c3N N)
noncomputable def e6G : List (Nat × List Nat) := [(0, [0, 1, 2]), (1, [3, 4, 2]), (2, [8, 3, 4, 2]), (3, [3, 8, 4, 9, 2]), (4, [8, 10, 4, 3, 9, 2]), (5, [8, 10, 4, 3, 9, 2, 11]), (6, [10, 4, 3, 9, 2]), (7, [4, 3, 9, 10, 2, 11]), (9, [4, 9, 10, 3, 2, 11]), (11, [4, 3, 9, 11, 10, 2]), (13, [9, 4, 11, 10, 3, 2]), (15, [9, 4, 11, 10, 3, 2]), (17, [9, 4, 3, 2]), (19, [4, 3]), (21, [3, 4]), (23, [3, 4]), (25, [3, 4]), (26, []), (24, []), (22, []), (20, []), (18, [4, 3, 2]), (16, []), (14, []), (12, [3]), (10, [10, 3, 2]), (8, []), (27, [3, 4]), (28, [12, 4]), (29, [12])]
noncomputable def e6H : a0r := [(20, [2, 3, 4, 9, 10, 11, 29], [3, 4], []), (46, [2, 3, 4, 9, 10, 11], [3, 4], []), (64, [3, 4], [3, 4], [])]
noncomputable def d0V (N : Nat) : Sg Try.prog 0 21 := .start e6H e6G
noncomputable def a7q (N : Nat) (w2 w3 : Int) (w4 : Bool) (k0 : Int → R) : R :=
 bif w4 then
  k0 (IntKind.wrap .i64 ((IntKind.wrap .i64 (0 - w2)) - 1))
 else
  k0 w3
noncomputable def b0r (w2 w3 : Int) (w4 : Bool) : Int := a7q N w2 w3 w4 (fun p => p)
theorem c6d (w2 w3 : Int) (w4 : Bool) (k0 : Int → R) : a7q N w2 w3 w4 k0 = k0 (b0r N w2 w3 w4) := by
 unfold b0r a7q
 repeat' (first | rfl | apply a0M | (apply a1u; intro _))
noncomputable def b9y : Sh := { tmps := [(2, .c (.b)), (3, .c (.p 3 0)), (4, .c (.p 4 0)), (9, .c (.b)), (10, .c (.i .i64)), (11, .c (.i .i64)), (29, .c (.b))], mem := [(3, .box ([.i .i64, .i .i64, .i .i64, .i .i64])), (4, .box ([.i .i64, .i .i64, .i .i64, .s, .b]))] }
noncomputable def b4N (L : List Lf) (p : Int) : Ex × St := (.normal, mg (a0x b9y L) [2, 3, 4, 9, 10, 11] [(11, .c (.i .i64 p))] [3, 4] [])
noncomputable def d66 (L : List Lf) : List (Bool × (Ex × St)) := bnd (a7q N (li L 2) (li L 3) (lb L 4) (fun p => p)) fun q => [(true, b4N L q)]
theorem c6e (L : List Lf) : pc Try.prog (c6c N) (d0V N).h 0 100 21 20 b9y L [2, 3, 4, 9, 10, 11] [3, 4] = a7q N (li L 2) (li L 3) (lb L 4) (fun p => some (b4N L p)) := by kernel_rfl
noncomputable def d0W : Sg Try.prog 0 21 :=
 (d0V N).cut (d66 N) a0b (a7p N) fun L x hx => (c6e N L).trans ((c6d N ..).trans (a4q _ _ hx))
noncomputable def a7r (w1 : Bool) (w2 w3 w10 : Int) (k0 : Bool → R) : R :=
 bif w1 then
  bnd (a2N N w10 w3 (IntKind.wrap .i64 (w2 - 1))) fun y0 =>
  k0 (!y0)
 else
  k0 false
noncomputable def b0s (w1 : Bool) (w2 w3 w10 : Int) : Bool := a7r N w1 w2 w3 w10 (fun p => p)
theorem c6f (w1 : Bool) (w2 w3 w10 : Int) (k0 : Bool → R) : a7r N w1 w2 w3 w10 k0 = k0 (b0s N w1 w2 w3 w10) := by
 unfold b0s a7r
 repeat' (first | rfl | apply a0M | (apply a1u; intro _))
noncomputable def c3O (L : List Lf) (k0 : Bool → R) : R := a7r N (lb L 1) (li L 2) (li L 3) (li L 10) k0
noncomputable def b9z : Sh := { tmps := [(2, .c (.b)), (3, .c (.p 3 0)), (4, .c (.p 4 0)), (9, .c (.b)), (10, .c (.i .i64)), (11, .c (.i .i64))], mem := [(3, .box ([.i .i64, .i .i64, .i .i64, .i .i64])), (4, .box ([.i .i64, .i .i64, .i .i64, .s, .b]))] }
noncomputable def b4O (L : List Lf) (p : Bool) : Ex × St := (.normal, mg (a0x b9z L) [2, 3, 4, 9, 78] [(78, .c (.b p))] [3, 4] [])
noncomputable def d67 (L : List Lf) : List (Bool × (Ex × St)) := bnd (c3O N L (fun p => p)) fun q => [(true, b4O L q)]
theorem c6g (L : List Lf) : pc Try.prog (c6c N) (d0W N).h 0 100 21 46 b9z L [2, 3, 4, 9, 78] [3, 4] = c3O N L (fun p => some (b4O L p)) := by kernel_rfl
noncomputable def d0X : Sg Try.prog 0 21 :=
 (d0W N).cut (d67 N) a0b (a7p N) fun L x hx => (c6g N L).trans ((c6f N ..).trans (a4q _ _ hx))
noncomputable def a5u (w2 : Int) (w7 : LB) (k0 : Bool → R) : R :=
 bif (w2 == 2) then
  bif (w7 == ([] : List UInt8)) then
   k0 true
  else
   bnd (c1T N w7) fun y0 =>
   k0 y0
 else
  k0 false
noncomputable def b0t (w2 : Int) (w7 : LB) : Bool := a5u N w2 w7 (fun p => p)
theorem c6h (w2 : Int) (w7 : LB) (k0 : Bool → R) : a5u N w2 w7 k0 = k0 (b0t N w2 w7) := by
 unfold b0t a5u
 repeat' (first | rfl | apply a0M | (apply a1u; intro _))
noncomputable def b9A : Sh := { tmps := [(3, .c (.p 3 0)), (4, .c (.p 4 0))], mem := [(3, .box ([.i .i64, .i .i64, .i .i64, .i .i64])), (4, .box ([.i .i64, .i .i64, .i .i64, .s, .b]))] }
noncomputable def b4P (L : List Lf) (p : Bool) : Ex × St := (.normal, mg (a0x b9A L) [3, 4, 102] [(102, .c (.b p))] [3, 4] [])
noncomputable def d68 (L : List Lf) : List (Bool × (Ex × St)) := bnd (a5u N (li L 2) (ls L 7) (fun p => p)) fun q => [(true, b4P L q)]
theorem c6i (L : List Lf) : pc Try.prog (c6c N) (d0X N).h 0 100 21 64 b9A L [3, 4, 102] [3, 4] = a5u N (li L 2) (ls L 7) (fun p => some (b4P L p)) := by kernel_rfl
noncomputable def d0Y : Sg Try.prog 0 21 :=
 (d0X N).cut (d68 N) a0b (a7p N) fun L x hx => (c6i N L).trans ((c6h N ..).trans (a4q _ _ hx))
noncomputable def d0Z (v1 v2 v6 : Int) (v7 : LB) (v8 v9 : Bool) (k0 : Bool × LD × Int → Option R) : Option R :=
 bnd (a7b N v1 (v2 == 1)) fun y0 =>
 bif y0.isSome then
  bnd (b0r N (y0.getD default) 0 (v2 == 1)) fun y1 =>
  bnd (bif v8 then (bif (bif (v6 != 0) then true else (!(v7 == ([] : List UInt8)))) then true else (v2 == 3)) else false) fun y2 =>
  bif y2 then
   k0 (true, [], 2)
  else
   bnd (bif v8 then (bif (v2 == 1) then true else (v2 == 0)) else false) fun y3 =>
   bif y3 then
    bnd (b6u N (y0.getD default) v1 v9) fun y4 =>
    bif y4.isSome then
     k0 (false, (y4.getD default), 0)
    else
     none
   else
    bif v8 then
     bif (((decide (0 ≤ v1)) && (decide (v1 ≤ v1))) && (decide (v1.toNat * 1 ≤ a1j) && decide (v1.toNat ≤ a0i))) then
      k0 (false, (List.replicate v1.toNat ((.i 0) : D)), 0)
     else
      none
    else
     bnd (bif (bif (v2 == 1) then true else (v2 == 0)) then (!(v7 == ([] : List UInt8))) else false) fun y5 =>
     bif y5 then
      k0 (true, [], 2)
     else
      bnd (b0s N (bif (v2 == 1) then true else (v2 == 0)) (y0.getD default) y1 v6) fun y6 =>
      bif y6 then
       k0 (true, [], 9)
      else
       bif (bif (v2 == 1) then true else (v2 == 0)) then
        bnd (b6u N v6 v1 v9) fun y7 =>
        bif y7.isSome then
         k0 (false, (y7.getD default), 0)
        else
         none
       else
        bif (v6 != 0) then
         k0 (true, [], 2)
        else
         bnd (b0t N v2 v7) fun y8 =>
         bif y8 then
          k0 (true, [], 2)
         else
          bnd (bif (v2 == 2) then (decide ((v7.length : Int) > v1)) else false) fun y9 =>
          bif y9 then
           k0 (true, [], 3)
          else
           bif (bif (v2 == 3) then ((v7.length : Int) != v1) else false) then
            k0 (true, [], 2)
           else
            bif (((decide (0 ≤ v1)) && (decide (v1 ≤ v1))) && (decide (v1.toNat * 1 ≤ a1j) && decide (v1.toNat ≤ a0i))) then
             bnd (((a0E v7).take (List.replicate v1.toNat ((.i 0) : D)).length ++ (List.replicate v1.toNat ((.i 0) : D)).drop (a0E v7).length) : List D) fun y10 =>
             k0 (false, y10, 0)
            else
             none
 else
  none
noncomputable def d00 (v1 v2 v6 : Int) (v7 : LB) (v8 v9 : Bool) : Option (Bool × LD × Int) := d0Z N v1 v2 v6 v7 v8 v9 (fun p => some p)
theorem d69 (v1 v2 v6 : Int) (v7 : LB) (v8 v9 : Bool) (k0 : Bool × LD × Int → Option R) : d0Z N v1 v2 v6 v7 v8 v9 k0 = (d00 N v1 v2 v6 v7 v8 v9).bind k0 := by
 unfold d00 d0Z
 repeat' (first | with_reducible apply a0d | (with_reducible apply a0l; intro _) | rfl)
noncomputable def e6I (L : List Lf) (k0 : Bool × LD × Int → Option R) : Option R := d0Z N (li L 1) (li L 2) (li L 6) (ls L 7) (lb L 8) (lb L 9) k0
noncomputable def d01 : Sh := { tmps := [(0, .g ([.i .i64, .i .i64, .i .i64, .i .i64])), (1, .g ([.i .i64, .i .i64, .i .i64, .s, .b])), (2, .c (.b))], mem := [] }
noncomputable def e6J (L : List Lf) : List (Bool × Res) := bnd (e6I N L (fun p => some p)) fun q => [(q.isSome, ([.c (.sl 5 (q.getD default).1 (q.getD default).2.1), .c (.i .i64 (q.getD default).2.2)], []))]
theorem e17 (L : List Lf) : bd Try.prog (c6c N) (d0Y N).h 21 d01 L = e6I N L (fun p => some ([.c (.sl 5 p.1 p.2.1), .c (.i .i64 p.2.2)], [])) := by kernel_rfl
theorem e6K : a0t Try.prog 21 d01 (e6J N) :=
 (d0Y N).fn a0b (a7p N) fun L x hx => ((e17 N L).trans ((d69 N ..).trans (a0D x hx)))
noncomputable def d7a : a0e := ext 21 (a1b d01 (e6J N)) (c6c N)
theorem b6v : a0c Try.prog (d7a N) := a0t.to (e6K N) (a7p N)
noncomputable def e6L : List (Nat × List Nat) := [(0, [0, 1]), (1, [0, 1]), (2, [7, 0, 1]), (3, [0, 7, 1]), (4, [0])]
noncomputable def e6M : a0r := []
noncomputable def d02 (N : Nat) : Sg Try.prog 0 77 := .start e6M e6L
noncomputable def c6j (v0 : LB) (k0 : Ty1 → Option R) : Option R :=
 bnd (c1S N v0) fun y0 =>
 bif (decide (y0 ≥ 0)) then
  bif ((decide (0 ≤ y0)) && (decide (y0 ≤ (v0.length : Int)))) then
   bif (((decide (0 ≤ (IntKind.wrap .i64 (y0 + 1)))) && (decide ((IntKind.wrap .i64 (y0 + 1)) ≤ (v0.length : Int)))) && (decide ((v0.length : Int) ≤ (v0.length : Int)))) then
    bnd ((v0.take (v0.length : Int).toNat).drop (IntKind.wrap .i64 (y0 + 1)).toNat) fun y1 =>
    k0 (((v0.take y0.toNat).drop 0), y1, true)
   else
    none
  else
   none
 else
  k0 (v0, ([] : List UInt8), false)
noncomputable def d7b (v0 : LB) : Option (Ty1) := c6j N v0 (fun p => some p)
theorem d7c (v0 : LB) (k0 : Ty1 → Option R) : c6j N v0 k0 = (d7b N v0).bind k0 := by
 unfold d7b c6j
 repeat' (first | with_reducible apply a0d | (with_reducible apply a0l; intro _) | rfl)
noncomputable def d03 : Sh := { tmps := [(0, .c (.s)), (1, .c (.ks [0]))], mem := [] }
noncomputable def e6N (L : List Lf) : List (Bool × Res) := bnd (c6j N (ls L 0) (fun p => some p)) fun q => [(q.isSome, ([.c (.s (q.getD default).1), .c (.s (q.getD default).2.1), .c (.b (q.getD default).2.2)], []))]
theorem e2a (L : List Lf) : bd Try.prog (d7a N) (d02 N).h 77 d03 L = c6j N (ls L 0) (fun p => some ([.c (.s p.1), .c (.s p.2.1), .c (.b p.2.2)], [])) := by kernel_rfl
theorem e6O : a0t Try.prog 77 d03 (e6N N) :=
 (d02 N).fn a0b (b6v N) fun L x hx => ((e2a N L).trans ((d7c N ..).trans (a0D x hx)))
noncomputable def e2b : a0e := ext 77 (a1b d03 (e6N N)) (d7a N)
theorem c3P : a0c Try.prog (e2b N) := a0t.to (e6O N) (b6v N)
noncomputable def e6P : List (Nat × List Nat) := [(0, [0, 1]), (1, [0, 1])]
noncomputable def e6Q : a0r := []
noncomputable def d04 (N : Nat) : Sg Try.prog 0 63 := .start e6Q e6P
noncomputable def c6k (v0 : LB) (k0 : Ty1 → Option R) : Option R :=
 bnd (d7b N v0) fun y0 =>
 bif y0.isSome then
  k0 (y0.getD default)
 else
  none
noncomputable def c6l (v0 : LB) : Option (Ty1) := c6k N v0 (fun p => some p)
theorem d7d (v0 : LB) (k0 : Ty1 → Option R) : c6k N v0 k0 = (c6l N v0).bind k0 := by
 unfold c6l c6k
 repeat' (first | with_reducible apply a0d | (with_reducible apply a0l; intro _) | rfl)
noncomputable def d05 : Sh := { tmps := [(0, .c (.s)), (1, .c (.ks [0]))], mem := [] }
noncomputable def e6R (L : List Lf) : List (Bool × Res) := bnd (c6k N (ls L 0) (fun p => some p)) fun q => [(q.isSome, ([.c (.s (q.getD default).1), .c (.s (q.getD default).2.1), .c (.b (q.getD default).2.2)], []))]
theorem e2c (L : List Lf) : bd Try.prog (e2b N) (d04 N).h 63 d05 L = c6k N (ls L 0) (fun p => some ([.c (.s p.1), .c (.s p.2.1), .c (.b p.2.2)], [])) := by kernel_rfl
theorem e6S : a0t Try.prog 63 d05 (e6R N) :=
 (d04 N).fn a0b (c3P N) fun L x hx => ((e2c N L).trans ((d7d N ..).trans (a0D x hx)))
noncomputable def b9B : a0e := ext 63 (a1b d05 (e6R N)) (e2b N)
theorem a4a : a0c Try.prog (b9B N) := a0t.to (e6S N) (c3P N)
noncomputable def e6T : List (Nat × List Nat) := [(0, [0, 1, 2]), (1, [3, 1, 6, 2]), (2, [1, 3, 7, 6, 2]), (3, [3, 8, 7, 6, 2]), (10, [28, 8, 7, 6, 2, 3]), (12, [28, 8, 7, 6, 2, 3]), (4, [8, 2, 7, 3, 6]), (5, [7, 3, 6]), (6, [7, 6, 3]), (8, [3, 7, 6]), (9, [7, 3, 6]), (7, [7, 6]), (13, [8, 7, 6]), (14, [7, 6]), (11, [8, 7, 6]), (15, [7, 6])]
noncomputable def e6U : a0r := [(25, [3, 6, 7], [3, 6, 7], []), (29, [3, 6, 7, 60], [3, 6, 7], []), (24023, [3, 6, 7, 46], [3, 6, 7], []), (12041, [2, 3, 6, 7, 8, 75], [3, 6, 7], []), (36035, [2, 3, 6, 7, 8, 28, 70], [3, 6, 7], [])]
noncomputable def d06 (N : Nat) : Sg Try.prog 0 38 := .start e6U e6T
noncomputable def a5v (w1 w2 w11 : Int) (k0 : Bool → Option R) : Option R :=
 bif (w2 == 1) then
  bnd (a7b N w1 true) fun y0 =>
  bif y0.isSome then
   k0 (decide (w11 > (y0.getD default)))
  else
   none
 else
  k0 false
noncomputable def b0u (w1 w2 w11 : Int) : Option (Bool) := a5v N w1 w2 w11 (fun p => some p)
theorem c1U (w1 w2 w11 : Int) (k0 : Bool → Option R) : a5v N w1 w2 w11 k0 = (b0u N w1 w2 w11).bind k0 := by
 unfold b0u a5v
 repeat' (first | with_reducible apply a0d | (with_reducible apply a0l; intro _) | rfl)
noncomputable def b9C : Sh := { tmps := [(3, .c (.p 3 0)), (6, .c (.p 6 0)), (7, .c (.p 7 0))], mem := [(3, .box ([.i .i64, .i .i64, .i .i64, .i .i64])), (6, .box ([.i .i64, .i .i64, .i .i64, .s, .b])), (7, .box ([.i .i64, .i .i64, .i .i64, .s, .b]))] }
noncomputable def b4Q (L : List Lf) (p : Bool) : Ex × St := (.normal, mg (a0x b9C L) [3, 6, 7, 60] [(60, .c (.b p))] [3, 6, 7] [])
noncomputable def d7e (L : List Lf) : List (Bool × (Ex × St)) := bnd (a5v N (li L 1) (li L 2) (li L 11) (fun p => some p)) fun q => [(q.isSome, b4Q L (q.getD default))]
theorem c6m (L : List Lf) : pc Try.prog (b9B N) (d06 N).h 0 100 38 25 b9C L [3, 6, 7, 60] [3, 6, 7] = a5v N (li L 1) (li L 2) (li L 11) (fun p => some (b4Q L p)) := by kernel_rfl
noncomputable def d07 : Sg Try.prog 0 38 :=
 (d06 N).cut (d7e N) a0b (a4a N) fun L x hx => (c6m N L).trans ((c1U N ..).trans (a0D x hx))
noncomputable def a5w (N : Nat) (w0 : Bool) (w2 w12 : Int) (k0 : Int → Option R) : Option R :=
 bif w0 then
  bif (decide (0 ≤ (IntKind.wrap .i64 (8 * w2)))) then
   bnd (IntKind.wrap .i64 (1 * 2 ^ (min (IntKind.wrap .i64 (8 * w2)).toNat 64))) fun y0 =>
   k0 (IntKind.wrap .i64 (w12 - y0))
  else
   none
 else
  k0 w12
noncomputable def b0v (w0 : Bool) (w2 w12 : Int) : Option (Int) := a5w N w0 w2 w12 (fun p => some p)
theorem c1V (w0 : Bool) (w2 w12 : Int) (k0 : Int → Option R) : a5w N w0 w2 w12 k0 = (b0v N w0 w2 w12).bind k0 := by
 unfold b0v a5w
 repeat' (first | with_reducible apply a0d | (with_reducible apply a0l; intro _) | rfl)
noncomputable def b9D : Sh := { tmps := [(3, .c (.p 3 0)), (6, .c (.p 6 0)), (7, .c (.p 7 0)), (60, .c (.b))], mem := [(3, .box ([.i .i64, .i .i64, .i .i64, .i .i64])), (6, .box ([.i .i64, .i .i64, .i .i64, .s, .b])), (7, .box ([.i .i64, .i .i64, .i .i64, .s, .b]))] }
noncomputable def b4R (L : List Lf) (p : Int) : Ex × St := (.normal, mg (a0x b9D L) [6, 7] [] [6, 7] [(7, .box [.i .i64 (li L 10), .i .i64 (li L 11), .i .i64 p, .s (ls L 13), .b (lb L 14)])])
noncomputable def d7f (L : List Lf) : List (Bool × (Ex × St)) := bnd (a5w N (lb L 0) (li L 2) (li L 12) (fun p => some p)) fun q => [(q.isSome, b4R L (q.getD default))]
theorem c6n (L : List Lf) : pc Try.prog (b9B N) (d07 N).h 0 100 38 29 b9D L [6, 7] [6, 7] = a5w N (lb L 0) (li L 2) (li L 12) (fun p => some (b4R L p)) := by kernel_rfl
noncomputable def d08 : Sg Try.prog 0 38 :=
 (d07 N).cut (d7f N) a0b (a4a N) fun L x hx => (c6n N L).trans ((c1V N ..).trans (a0D x hx))
noncomputable def a26 (w0 : Bool) (w2 w3 w12 : Int) (k0 : Int → Option R) : Option R :=
 bif w0 then
  k0 0
 else
  bnd (b0u N w2 w3 w12) fun y0 =>
  bif y0.isSome then
   bnd (b0v N (y0.getD default) w2 w12) fun y1 =>
   bif y1.isSome then
    k0 (y1.getD default)
   else
    none
  else
   none
noncomputable def a4b (w0 : Bool) (w2 w3 w12 : Int) : Option (Int) := a26 N w0 w2 w3 w12 (fun p => some p)
theorem b3Z (w0 : Bool) (w2 w3 w12 : Int) (k0 : Int → Option R) : a26 N w0 w2 w3 w12 k0 = (a4b N w0 w2 w3 w12).bind k0 := by
 unfold a4b a26
 repeat' (first | with_reducible apply a0d | (with_reducible apply a0l; intro _) | rfl)
noncomputable def b2T (L : List Lf) (k0 : Int → Option R) : Option R := a26 N (lb L 0) (li L 2) (li L 3) (li L 12) k0
noncomputable def a9z : Sh := { tmps := [(3, .c (.p 3 0)), (6, .c (.p 6 0)), (7, .c (.p 7 0)), (46, .c (.b))], mem := [(3, .box ([.i .i64, .i .i64, .i .i64, .i .i64])), (6, .box ([.i .i64, .i .i64, .i .i64, .s, .b])), (7, .box ([.i .i64, .i .i64, .i .i64, .s, .b]))] }
noncomputable def a7s (L : List Lf) (p : Int) : Ex × St := (.normal, mg (a0x a9z L) [6, 7] [] [6, 7] [(7, .box [.i .i64 (li L 10), .i .i64 (li L 11), .i .i64 p, .s (ls L 13), .b (lb L 14)])])
noncomputable def c1W (L : List Lf) : List (Bool × (Ex × St)) := bnd (b2T N L (fun p => some p)) fun q => [(q.isSome, a7s L (q.getD default))]
theorem b6w (L : List Lf) : pc Try.prog (b9B N) (d08 N).h 0 100 38 24023 a9z L [6, 7] [6, 7] = b2T N L (fun p => some (a7s L p)) := by kernel_rfl
noncomputable def d09 : Sg Try.prog 0 38 :=
 (d08 N).cut (c1W N) a0b (a4a N) fun L x hx => (b6w N L).trans ((b3Z N ..).trans (a0D x hx))
noncomputable def a27 (w0 : Bool) (w2 : LD) (w3 : Bool) (w5 w6 w15 : Int) (w16 : LB) (k0 : Ty3 → Option R) : Option R :=
 bif w3 then
  bnd (c6l N (a9U w2)) fun y0 =>
  bif y0.isSome then
   k0 (w15, (y0.getD default).1, ((y0.getD default).1 == ([] : List UInt8)))
  else
   none
 else
  bnd (c5V N w2 w0) fun y1 =>
  bif y1.isSome then
   bnd (a7b N w5 (w6 == 1)) fun y2 =>
   bif y2.isSome then
    bnd (a4b N ((y1.getD default) == (y2.getD default)) w5 w6 (y1.getD default)) fun y3 =>
    bif y3.isSome then
     k0 ((y3.getD default), w16, ((y1.getD default) == (y2.getD default)))
    else
     none
   else
    none
  else
   none
noncomputable def a4c (w0 : Bool) (w2 : LD) (w3 : Bool) (w5 w6 w15 : Int) (w16 : LB) : Option (Ty3) := a27 N w0 w2 w3 w5 w6 w15 w16 (fun p => some p)
theorem b30 (w0 : Bool) (w2 : LD) (w3 : Bool) (w5 w6 w15 : Int) (w16 : LB) (k0 : Ty3 → Option R) : a27 N w0 w2 w3 w5 w6 w15 w16 k0 = (a4c N w0 w2 w3 w5 w6 w15 w16).bind k0 := by
 unfold a4c a27
 repeat' (first | with_reducible apply a0d | (with_reducible apply a0l; intro _) | rfl)
noncomputable def b2U (L : List Lf) (k0 : Ty3 → Option R) : Option R := a27 N (lb L 0) (ll L 2) (lb L 3) (li L 5) (li L 6) (li L 15) (ls L 16) k0
noncomputable def a9A : Sh := { tmps := [(2, .c (.b)), (3, .c (.p 3 0)), (6, .c (.p 6 0)), (7, .c (.p 7 0)), (8, .c (.sl 5)), (75, .c (.b))], mem := [(3, .box ([.i .i64, .i .i64, .i .i64, .i .i64])), (6, .box ([.i .i64, .i .i64, .i .i64, .s, .b])), (7, .box ([.i .i64, .i .i64, .i .i64, .s, .b]))] }
noncomputable def a7t (L : List Lf) (p : Ty3) : Ex × St := (.normal, mg (a0x a9A L) [6, 7] [] [6, 7] [(7, .box [.i .i64 (li L 13), .i .i64 (li L 14), .i .i64 p.1, .s p.2.1, .b p.2.2])])
noncomputable def c1X (L : List Lf) : List (Bool × (Ex × St)) := bnd (b2U N L (fun p => some p)) fun q => [(q.isSome, a7t L (q.getD default))]
theorem b6x (L : List Lf) : pc Try.prog (b9B N) (d09 N).h 0 100 38 12041 a9A L [6, 7] [6, 7] = b2U N L (fun p => some (a7t L p)) := by kernel_rfl
noncomputable def d1a : Sg Try.prog 0 38 :=
 (d09 N).cut (c1X N) a0b (a4a N) fun L x hx => (b6x N L).trans ((b30 N ..).trans (a0D x hx))
noncomputable def a28 (w0 : Bool) (w2 : LD) (w3 : Int) (w4 : Bool) (w6 w7 w16 : Int) (w17 : LB) (w18 : Bool) (k0 : Ty3 → Option R) : Option R :=
 bif w4 then
  k0 (w16, (a9U w2), w18)
 else
  bnd (a4c N w0 w2 (w3 == 2) w6 w7 w16 w17) fun y0 =>
  bif y0.isSome then
   k0 (y0.getD default)
  else
   none
noncomputable def a4d (w0 : Bool) (w2 : LD) (w3 : Int) (w4 : Bool) (w6 w7 w16 : Int) (w17 : LB) (w18 : Bool) : Option (Ty3) := a28 N w0 w2 w3 w4 w6 w7 w16 w17 w18 (fun p => some p)
theorem b31 (w0 : Bool) (w2 : LD) (w3 : Int) (w4 : Bool) (w6 w7 w16 : Int) (w17 : LB) (w18 : Bool) (k0 : Ty3 → Option R) : a28 N w0 w2 w3 w4 w6 w7 w16 w17 w18 k0 = (a4d N w0 w2 w3 w4 w6 w7 w16 w17 w18).bind k0 := by
 unfold a4d a28
 repeat' (first | with_reducible apply a0d | (with_reducible apply a0l; intro _) | rfl)
noncomputable def b2V (L : List Lf) (k0 : Ty3 → Option R) : Option R := a28 N (lb L 0) (ll L 2) (li L 3) (lb L 4) (li L 6) (li L 7) (li L 16) (ls L 17) (lb L 18) k0
noncomputable def a9B : Sh := { tmps := [(2, .c (.b)), (3, .c (.p 3 0)), (6, .c (.p 6 0)), (7, .c (.p 7 0)), (8, .c (.sl 5)), (28, .c (.i .i64)), (70, .c (.b))], mem := [(3, .box ([.i .i64, .i .i64, .i .i64, .i .i64])), (6, .box ([.i .i64, .i .i64, .i .i64, .s, .b])), (7, .box ([.i .i64, .i .i64, .i .i64, .s, .b]))] }
noncomputable def a7u (L : List Lf) (p : Ty3) : Ex × St := (.normal, mg (a0x a9B L) [6, 7] [] [6, 7] [(7, .box [.i .i64 (li L 14), .i .i64 (li L 15), .i .i64 p.1, .s p.2.1, .b p.2.2])])
noncomputable def c1Y (L : List Lf) : List (Bool × (Ex × St)) := bnd (b2V N L (fun p => some p)) fun q => [(q.isSome, a7u L (q.getD default))]
theorem b6y (L : List Lf) : pc Try.prog (b9B N) (d1a N).h 0 100 38 36035 a9B L [6, 7] [6, 7] = b2V N L (fun p => some (a7u L p)) := by kernel_rfl
noncomputable def d1b : Sg Try.prog 0 38 :=
 (d1a N).cut (c1Y N) a0b (a4a N) fun L x hx => (b6y N L).trans ((b31 N ..).trans (a0D x hx))
noncomputable def d1c (v1 v2 v3 : Int) (v5 : LD) (v6 : Bool) (k0 : Ty3 → Option R) : Option R :=
 bif (((decide (0 ≤ v3)) && (decide (v3 ≤ (IntKind.wrap .i64 (v3 + v1))))) && (decide ((IntKind.wrap .i64 (v3 + v1)) ≤ (v5.length : Int)))) then
  bnd (((v5.take (IntKind.wrap .i64 (v3 + v1)).toNat).drop v3.toNat) : List D) fun y0 =>
  bnd (a4d N v6 y0 v2 (v2 == 3) v1 v2 0 ([] : List UInt8) false) fun y1 =>
  bif y1.isSome then
   k0 (y1.getD default)
  else
   none
 else
  none
noncomputable def c6o (v1 v2 v3 : Int) (v5 : LD) (v6 : Bool) : Option (Ty3) := d1c N v1 v2 v3 v5 v6 (fun p => some p)
theorem d7g (v1 v2 v3 : Int) (v5 : LD) (v6 : Bool) (k0 : Ty3 → Option R) : d1c N v1 v2 v3 v5 v6 k0 = (c6o N v1 v2 v3 v5 v6).bind k0 := by
 unfold c6o d1c
 repeat' (first | with_reducible apply a0d | (with_reducible apply a0l; intro _) | rfl)
noncomputable def e6V (L : List Lf) (k0 : Ty3 → Option R) : Option R := d1c N (li L 1) (li L 2) (li L 3) (ll L 5) (lb L 6) k0
noncomputable def d1d : Sh := { tmps := [(0, .g ([.i .i64, .i .i64, .i .i64, .i .i64])), (1, .c (.sl 5)), (2, .c (.b))], mem := [] }
noncomputable def d1e (L : List Lf) (p : Ty3) : Res := ([.g [.i .i64 (li L 0), .i .i64 (li L 2), .i .i64 p.1, .s p.2.1, .b p.2.2]], [])
noncomputable def e6W (L : List Lf) : List (Bool × Res) := bnd (e6V N L (fun p => some p)) fun q => [(q.isSome, d1e L (q.getD default))]
theorem e2d (L : List Lf) : bd Try.prog (b9B N) (d1b N).h 38 d1d L = e6V N L (fun p => some (d1e L p)) := by kernel_rfl
theorem e6X : a0t Try.prog 38 d1d (e6W N) :=
 (d1b N).fn a0b (a4a N) fun L x hx => ((e2d N L).trans ((d7g N ..).trans (a0D x hx)))
noncomputable def d7h : a0e := ext 38 (a1b d1d (e6W N)) (b9B N)
theorem b6z : a0c Try.prog (d7h N) := a0t.to (e6X N) (a4a N)
noncomputable def e6Y : List (Nat × List Nat) := [(0, [0, 1]), (1, [2, 3]), (2, [2, 3, 5]), (3, [14, 13, 12, 5, 3, 2]), (4, [12, 14, 5, 3, 2, 13]), (5, [5, 7, 3, 2, 14, 13, 12]), (6, [14, 13, 12, 5, 3, 2]), (7, [5])]
noncomputable def e6Z : a0r := [(9, [2, 3, 5, 12, 13, 14], [2, 3, 5], [5])]
noncomputable def d1f (N : Nat) : Sg Try.prog 0 14 := .start e6Z e6Y
noncomputable def b2W (w1 : LD) (w2 : Int) (w5 : Bool) (w17 : LD) (w3 : Int) (w18 : Bool) (w19 : LD) (kr : Int → Bool → LD → Option R) (k0 : Bool × LD → Option R) : Option R :=
 bif (decide (w3 < w2)) then
  bif (inB w3 w1.length) then
   bnd (c6o N ((w1.getD w3.toNat (.i 0)).cell 1).toI ((w1.getD w3.toNat (.i 0)).cell 2).toI ((w1.getD w3.toNat (.i 0)).cell 3).toI w17 w5) fun y0 =>
   bif y0.isSome then
    bif (decide ((w19.length + 1) * 48 ≤ a1j) && decide ((w19.length + 1) ≤ a0i)) then
     bnd ((w19 ++ [(.a [(.i ((w1.getD w3.toNat (.i 0)).cell 0).toI), (.i ((w1.getD w3.toNat (.i 0)).cell 2).toI), (.i (y0.getD default).1), (.s (y0.getD default).2.1), (.b (y0.getD default).2.2)])]) : List D) fun y1 =>
     kr (IntKind.wrap .i64 (w3 + 1)) false y1
    else
     none
   else
    none
  else
   none
 else
  k0 (w18, w19)
noncomputable def b6A (N : Nat) {R : Type} (w1 : LD) (w2 : Int) (w5 : Bool) (w17 : LD) : Nat → Int → Bool → LD → (Bool × LD → Option R) → Option R
 | 0, _, _, _, _ => none
 | m + 1, w3, w18, w19, k0 => b2W N w1 w2 w5 w17 w3 w18 w19 (fun w3 w18 w19 => b6A N w1 w2 w5 w17 m w3 w18 w19 k0) k0
noncomputable def d1g (w1 : LD) (w2 : Int) (w5 : Bool) (w17 : LD) (w3 : Int) (w18 : Bool) (w19 : LD) : Option (Bool × LD) := b6A N (R := (Bool × LD)) w1 w2 w5 w17 N w3 w18 w19 (fun p => some p)
noncomputable def b2X (L x : List Lf) (kr : List Lf → Option R) (k0 : Bool × LD → Option R) : Option R := b2W N (ll L 1) (li L 2) (lb L 5) (ll L 17) (li x 0) (lb x 1) (ll x 2) (fun w3 w18 w19 => kr [.i w3, .b w18, .l w19]) k0
theorem c3Q (L x : List Lf) (kr : List Lf → Option R) (k0 : Bool × LD → Option R) : b2X N L x kr k0 = (b2X N L x (fun y => some (.inl y)) (fun p => some (.inr p))).bind (a1a kr k0) := by
 unfold b2X b2W
 repeat' (first | with_reducible apply a0d | (with_reducible apply a0l; intro _) | rfl)
noncomputable def b6B (L : List Lf) (m : Nat) (x : List Lf) : Option (Bool × LD) := b6A N (R := (Bool × LD)) (ll L 1) (li L 2) (lb L 5) (ll L 17) m (li x 0) (lb x 1) (ll x 2) (fun p => some p)
noncomputable def b0w : Sh := { tmps := [(2, .c (.p 2 0)), (3, .c (.p 3 0)), (5, .c (.o 5)), (12, .c (.sl 63)), (13, .c (.i .i64)), (14, .c (.i .i64))], mem := [(2, .box (.b :: [.b, .i .i64, .sl 61, .i .i64, .i .i64])), (3, .box ([.i .i64, .i .i64, .i .i64, .sl 44, .sl 5])), (5, .row 26 true)] }
noncomputable def e2e (L : List Lf) : List (Bool × (Ex × St)) := bnd (b6B N L N (pk b0w [3, 18, 19] L)) fun q => [(q.isSome, ((.exit 0), ⟨[(5, .c (.o 5))], [(5, .row 26 true (q.getD default).1 (q.getD default).2)]⟩))]
theorem c6p (m : Nat) (kn : St → Option (Ex × St)) (L x : List Lf) : lpB Try.prog (d7h N) (d1f N).h 0 14 9 b0w [3, 18, 19] [4, 5] [5] (m + 100) kn L x = b2X N L x (fun y => kn (a0x b0w (mx b0w [3, 18, 19] L y))) (fun p => some ((.exit 0), ⟨[(5, .c (.o 5))], [(5, .row 26 true p.1 p.2)]⟩)) := by kernel_rfl
theorem d7i (L : List Lf) (m : Nat) (x : List Lf) : b6B N L (m + 1) x = b2X N L x (b6B N L m) some := by kernel_rfl
noncomputable def d1h : Sg Try.prog 0 14 :=
 (d1f N).lp (e2e N) N a0b (b6z N) (fun m kn L x => (c6p N m kn L x).trans (c3Q N L x _ _)) (fun L m x => (d7i N L m x).trans (c3Q N L x (b6B N L m) some)) fun L x hx => a0D x hx
noncomputable def d1i (v1 : Bool) (v4 : LD) (v6 v7 : Int) (v13 : LD) (k0 : Bool × LD → Option R) : Option R :=
 bnd (c1K N v4 v6 (v7 == 3)) fun y0 =>
 bif y0.isSome then
  bnd (d1g N (y0.getD default).2 ((y0.getD default).2.length : Int) v1 v13 0 true []) fun y1 =>
  bif y1.isSome then
   k0 (y1.getD default)
  else
   none
 else
  none
noncomputable def c6q (v1 : Bool) (v4 : LD) (v6 v7 : Int) (v13 : LD) : Option (Bool × LD) := d1i N v1 v4 v6 v7 v13 (fun p => some p)
theorem d7j (v1 : Bool) (v4 : LD) (v6 v7 : Int) (v13 : LD) (k0 : Bool × LD → Option R) : d1i N v1 v4 v6 v7 v13 k0 = (c6q N v1 v4 v6 v7 v13).bind k0 := by
 unfold c6q d1i
 repeat' (first | with_reducible apply a0d | (with_reducible apply a0l; intro _) | rfl)
noncomputable def e60 (L : List Lf) (k0 : Bool × LD → Option R) : Option R := d1i N (lb L 1) (ll L 4) (li L 6) (li L 7) (ll L 13) k0
noncomputable def d1j : Sh := { tmps := [(0, .g (.b :: [.b, .i .i64, .sl 61, .i .i64, .i .i64])), (1, .g ([.i .i64, .i .i64, .i .i64, .sl 44, .sl 5]))], mem := [] }
noncomputable def e61 (L : List Lf) : List (Bool × Res) := bnd (e60 N L (fun p => some p)) fun q => [(q.isSome, ([.c (.sl 26 (q.getD default).1 (q.getD default).2)], []))]
theorem e2f (L : List Lf) : bd Try.prog (d7h N) (d1h N).h 14 d1j L = e60 N L (fun p => some ([.c (.sl 26 p.1 p.2)], [])) := by kernel_rfl
theorem e62 : a0t Try.prog 14 d1j (e61 N) :=
 (d1h N).fn a0b (b6z N) fun L x hx => ((e2f N L).trans ((d7j N ..).trans (a0D x hx)))
noncomputable def e2g : a0e := ext 14 (a1b d1j (e61 N)) (d7h N)
theorem c3R : a0c Try.prog (e2g N) := a0t.to (e62 N) (b6z N)
noncomputable def f1z : List (Nat × List Nat) := [(0, [0, 1]), (1, [2, 1]), (2, [7, 6, 2, 1]), (3, [7]), (4, [6, 2, 1])]
noncomputable def f1A : a0r := []
noncomputable def e0f (N : Nat) : Sg Try.prog 0 5 := .start f1A f1z
noncomputable def e4A (v1 : LD) (v2 : Int) (k0 : Bool × LD × Int → Option R) : Option R :=
 bnd (c52 N v1 v2) fun y0 =>
 bif y0.isSome then
  bif ((y0.getD default).2.2.2.2.2.2.2 != 0) then
   k0 (true, [], (y0.getD default).2.2.2.2.2.2.2)
  else
   bif (inB v2 v1.length) then
    bnd (c6q N (y0.getD default).2.1 (y0.getD default).2.2.2.2.1 (y0.getD default).2.2.2.2.2.2.1 ((v1.getD v2.toNat (.i 0)).cell 0).toI ((v1.getD v2.toNat (.i 0)).cell 4).items) fun y1 =>
    bif y1.isSome then
     k0 ((y1.getD default).1, (y1.getD default).2, 0)
    else
     none
   else
    none
 else
  none
noncomputable def e4B (v1 : LD) (v2 : Int) : Option (Bool × LD × Int) := e4A N v1 v2 (fun p => some p)
theorem e2h (v1 : LD) (v2 : Int) (k0 : Bool × LD × Int → Option R) : e4A N v1 v2 k0 = (e4B N v1 v2).bind k0 := by
 unfold e4B e4A
 repeat' (first | with_reducible apply a0d | (with_reducible apply a0l; intro _) | rfl)
noncomputable def e2i : Sh := { tmps := [(0, .g ([.sl 41])), (1, .c (.i .i64))], mem := [] }
noncomputable def f2i (L : List Lf) : List (Bool × Res) := bnd (e4A N (ll L 1) (li L 2) (fun p => some p)) fun q => [(q.isSome, ([.c (.sl 26 (q.getD default).1 (q.getD default).2.1), .c (.i .i64 (q.getD default).2.2)], []))]
theorem e63 (L : List Lf) : bd Try.prog (e2g N) (e0f N).h 5 e2i L = e4A N (ll L 1) (li L 2) (fun p => some ([.c (.sl 26 p.1 p.2.1), .c (.i .i64 p.2.2)], [])) := by kernel_rfl
theorem f1B : a0t Try.prog 5 e2i (f2i N) :=
 (e0f N).fn a0b (c3R N) fun L x hx => ((e63 N L).trans ((e2h N ..).trans (a0D x hx)))
noncomputable def f1C : a0e := ext 5 (a1b e2i (f2i N)) (e2g N)
theorem d1k : a0c Try.prog (f1C N) := a0t.to (f1B N) (c3R N)
noncomputable def e64 : List (Nat × List Nat) := [(0, [0, 1, 2]), (1, [0, 1, 2])]
noncomputable def e65 : a0r := []
noncomputable def d1l (N : Nat) : Sg Try.prog 0 49 := .start e65 e64
noncomputable def c6r (N : Nat) (v0 v1 v2 : Int) (k0 : Bool → R) : R :=
 k0 (bif (decide (v0 < v1)) then true else (decide (v0 > v2)))
noncomputable def a8Z (v0 v1 v2 : Int) : Bool := c6r N v0 v1 v2 (fun p => p)
theorem e2j (v0 v1 v2 : Int) (k0 : Bool → R) : c6r N v0 v1 v2 k0 = k0 (a8Z N v0 v1 v2) := by
 unfold a8Z c6r
 repeat' (first | rfl | apply a0M | (apply a1u; intro _))
noncomputable def d1m : Sh := { tmps := [(0, .c (.i .i64)), (1, .c (.i .i64)), (2, .c (.i .i64))], mem := [] }
noncomputable def e66 (L : List Lf) : List (Bool × Res) := bnd (c6r N (li L 0) (li L 1) (li L 2) (fun p => p)) fun q => [(true, ([.c (.b q)], []))]
theorem e2k (L : List Lf) : bd Try.prog (f1C N) (d1l N).h 49 d1m L = c6r N (li L 0) (li L 1) (li L 2) (fun p => some ([.c (.b p)], [])) := by kernel_rfl
theorem e67 : a0t Try.prog 49 d1m (e66 N) :=
 (d1l N).fn a0b (d1k N) fun L x hx => ((e2k N L).trans ((e2j N ..).trans (a4q _ _ hx)))
noncomputable def c6s : a0e := ext 49 (a1b d1m (e66 N)) (f1C N)
theorem a7v : a0c Try.prog (c6s N) := a0t.to (e67 N) (d1k N)
noncomputable def e69 : List (Nat × List Nat) := [(0, [0]), (1, [1]), (2, []), (3, [1]), (4, []), (5, [1]), (6, [17, 16, 15, 1]), (7, [17, 15, 1, 16]), (8, [4, 1, 3, 17, 16, 15]), (10, [4, 1, 3, 17, 16, 15]), (12, [4, 1, 3, 17, 16, 15]), (13, []), (11, []), (9, []), (14, [1, 3, 4, 17, 16, 15]), (15, [59, 58, 57, 4, 17, 16, 15, 1]), (16, [57, 59, 4, 58, 17, 16, 15, 1]), (17, [6, 4, 59, 58, 57, 17, 16, 15, 1]), (18, []), (19, [59, 58, 57, 4, 17, 16, 15, 1]), (20, [17, 16, 15, 1]), (21, [])]
noncomputable def e7a : a0r := [(18, [1, 15, 16, 17], [1], []), (25, [1, 3, 4, 15, 16, 17], [1, 4], []), (45, [1, 4, 15, 16, 17, 57, 58, 59], [1, 4], [])]
noncomputable def d1n (N : Nat) : Sg Try.prog 0 72 := .start e7a e69
noncomputable def a5x (w9 w10 : Int) (k0 : Bool → R) : R :=
 bnd (a8Z N w9 0 255) fun y0 =>
 bif y0 then
  k0 true
 else
  bnd (a8Z N w10 1 255) fun y1 =>
  k0 y1
noncomputable def b0x (w9 w10 : Int) : Bool := a5x N w9 w10 (fun p => p)
theorem c6t (w9 w10 : Int) (k0 : Bool → R) : a5x N w9 w10 k0 = k0 (b0x N w9 w10) := by
 unfold b0x a5x
 repeat' (first | rfl | apply a0M | (apply a1u; intro _))
noncomputable def b9E : Sh := { tmps := [(1, .c (.p 1 0)), (3, .c (.i .i64)), (4, .c (.p 4 0)), (15, .c (.sl 61)), (16, .c (.i .i64)), (17, .c (.i .i64))], mem := [(1, .box ([.b, .i .i64, .sl 61])), (4, .box ([.i .i64, .i .i64, .i .i64]))] }
noncomputable def b4S (L : List Lf) (p : Bool) : Ex × St := (.normal, mg (a0x b9E L) [1, 3, 4, 15, 16, 17, 22] [(22, .c (.b p))] [1, 4] [])
noncomputable def d7k (L : List Lf) : List (Bool × (Ex × St)) := bnd (a5x N (li L 9) (li L 10) (fun p => p)) fun q => [(true, b4S L q)]
theorem c6u (L : List Lf) : pc Try.prog (c6s N) (d1n N).h 0 100 72 25 b9E L [1, 3, 4, 15, 16, 17, 22] [1, 4] = a5x N (li L 9) (li L 10) (fun p => some (b4S L p)) := by kernel_rfl
noncomputable def d1o : Sg Try.prog 0 72 :=
 (d1n N).cut (d7k N) a0b (a7v N) fun L x hx => (c6u N L).trans ((c6t N ..).trans (a4q _ _ hx))
noncomputable def a5y (N : Nat) (w5 : LD) (w6 w12 : Int) (w7 : Int) (kr : Int → Option R) (k0 : Unit → Option R) (k1 : Unit → Option R) : Option R :=
 bif (decide (w7 < w6)) then
  bif (inB w7 w5.length) then
   bif (((w5.getD w7.toNat (.i 0)).cell 0).toI == w12) then
    k0 ()
   else
    kr (IntKind.wrap .i64 (w7 + 1))
  else
   none
 else
  k1 ()
noncomputable def b0y (N : Nat) {R : Type} (w5 : LD) (w6 w12 : Int) : Nat → Int → (Unit → Option R) → (Unit → Option R) → Option R
 | 0, _, _, _ => none
 | m + 1, w7, k0, k1 => a5y N w5 w6 w12 w7 (fun w7 => b0y N w5 w6 w12 m w7 k0 k1) k0 k1
noncomputable def b6C (w5 : LD) (w6 w12 : Int) (w7 : Int) : Option (Sum (Unit) (Unit)) := b0y N (R := (Sum (Unit) (Unit))) w5 w6 w12 N w7 (fun p => some (.inl p)) (fun p => some (.inr p))
noncomputable def a7w (L x : List Lf) (kr : List Lf → Option R) (k0 : Unit → Option R) (k1 : Unit → Option R) : Option R := a5y N (ll L 5) (li L 6) (li L 12) (li x 0) (fun w7 => kr [.i w7]) k0 k1
theorem b9F (L x : List Lf) (kr : List Lf → Option R) (k0 : Unit → Option R) (k1 : Unit → Option R) : a7w N L x kr k0 k1 = (a7w N L x (fun y => some (.inl y)) (fun p => some (.inr (.inl p))) (fun p => some (.inr (.inr p)))).bind (a1a kr (a1a k0 k1)) := by
 unfold a7w a5y
 repeat' (first | with_reducible apply a0d | (with_reducible apply a0l; intro _) | rfl)
noncomputable def b0z (L : List Lf) (m : Nat) (x : List Lf) : Option (Sum (Unit) (Unit)) := b0y N (R := (Sum (Unit) (Unit))) (ll L 5) (li L 6) (li L 12) m (li x 0) (fun p => some (.inl p)) (fun p => some (.inr p))
noncomputable def a29 : Sh := { tmps := [(1, .c (.p 1 0)), (4, .c (.p 4 0)), (15, .c (.sl 61)), (16, .c (.i .i64)), (17, .c (.i .i64)), (57, .c (.sl 61)), (58, .c (.i .i64)), (59, .c (.i .i64))], mem := [(1, .box ([.b, .i .i64, .sl 61])), (4, .box ([.i .i64, .i .i64, .i .i64]))] }
noncomputable def b4T (L : List Lf) (_ : Unit) : Ex × St := (.ret, mg (a0x a29 L) [2] [(2, .c (.i .i64 5))] [1] [])
noncomputable def d7l (L : List Lf) : List (Bool × (Ex × St)) := bnd (b0z N L N (pk a29 [7] L)) fun q => [((a07 q), b4T L ()), ((a0I q).isSome, ((.exit 3), mg (a0x a29 L) [1, 15, 16, 17] [] [1] []))]
theorem c1Z (m : Nat) (kn : St → Option (Ex × St)) (L x : List Lf) : lpB Try.prog (c6s N) (d1o N).h 0 72 45 a29 [7] [1, 2, 15, 16, 17] [1] (m + 100) kn L x = a7w N L x (fun y => kn (a0x a29 (mx a29 [7] L y))) (fun _ => some (b4T L ())) (fun _ => some ((.exit 3), mg (a0x a29 L) [1, 15, 16, 17] [] [1] [])) := by kernel_rfl
theorem d1p (L : List Lf) (m : Nat) (x : List Lf) : b0z N L (m + 1) x = a7w N L x (b0z N L m) (fun p => some (.inl p)) (fun p => some (.inr p)) := by kernel_rfl
noncomputable def d1q : Sg Try.prog 0 72 :=
 (d1o N).lp (d7l N) N a0b (a7v N) (fun m kn L x => (c1Z N m kn L x).trans (b9F N L x _ _ _)) (fun L m x => (d1p N L m x).trans (b9F N L x (b0z N L m) (fun p => some (.inl p)) (fun p => some (.inr p)))) fun L x hx => (a3w a0D) x hx
noncomputable def a5z (w1 : LD) (w2 : Int) (w7 : LD) (w3 : Int) (kr : Int → Option R) (k0 : Int → Option R) (k1 : Unit → Option R) : Option R :=
 bif (decide (w3 < w2)) then
  bif (inB w3 w1.length) then
   bnd (b0x N ((w1.getD w3.toNat (.i 0)).cell 0).toI ((w1.getD w3.toNat (.i 0)).cell 1).toI) fun y0 =>
   bif y0 then
    k0 9
   else
    bnd (a8Z N ((w1.getD w3.toNat (.i 0)).cell 2).toI 0 3) fun y1 =>
    bif y1 then
     k0 7
    else
     bnd (bif (decide (((w1.getD w3.toNat (.i 0)).cell 2).toI ≤ 1)) then (((w1.getD w3.toNat (.i 0)).cell 1).toI != 1) else false) fun y2 =>
     bnd (bif y2 then (((w1.getD w3.toNat (.i 0)).cell 1).toI != 2) else false) fun y3 =>
     bnd (bif y3 then (((w1.getD w3.toNat (.i 0)).cell 1).toI != 4) else false) fun y4 =>
     bif y4 then
      k0 2
     else
      bif ((decide (0 ≤ w3)) && (decide (w3 ≤ (w7.length : Int)))) then
       bnd (b6C N ((w7.take w3.toNat).drop 0) (((w7.take w3.toNat).drop 0).length : Int) ((w1.getD w3.toNat (.i 0)).cell 0).toI 0) fun y5 =>
       bif (a07 y5) then
        k0 5
       else
        bif (a0I y5).isSome then
         kr (IntKind.wrap .i64 (w3 + 1))
        else
         none
      else
       none
  else
   none
 else
  k1 ()
noncomputable def b0A (N : Nat) {R : Type} (w1 : LD) (w2 : Int) (w7 : LD) : Nat → Int → (Int → Option R) → (Unit → Option R) → Option R
 | 0, _, _, _ => none
 | m + 1, w3, k0, k1 => a5z N w1 w2 w7 w3 (fun w3 => b0A N w1 w2 w7 m w3 k0 k1) k0 k1
noncomputable def b6D (w1 : LD) (w2 : Int) (w7 : LD) (w3 : Int) : Option (Sum (Int) (Unit)) := b0A N (R := (Sum (Int) (Unit))) w1 w2 w7 N w3 (fun p => some (.inl p)) (fun p => some (.inr p))
noncomputable def a7x (L x : List Lf) (kr : List Lf → Option R) (k0 : Int → Option R) (k1 : Unit → Option R) : Option R := a5z N (ll L 1) (li L 2) (ll L 7) (li x 0) (fun w3 => kr [.i w3]) k0 k1
theorem b9G (L x : List Lf) (kr : List Lf → Option R) (k0 : Int → Option R) (k1 : Unit → Option R) : a7x N L x kr k0 k1 = (a7x N L x (fun y => some (.inl y)) (fun p => some (.inr (.inl p))) (fun p => some (.inr (.inr p)))).bind (a1a kr (a1a k0 k1)) := by
 unfold a7x a5z
 repeat' (first | with_reducible apply a0d | (with_reducible apply a0l; intro _) | rfl)
noncomputable def b0B (L : List Lf) (m : Nat) (x : List Lf) : Option (Sum (Int) (Unit)) := b0A N (R := (Sum (Int) (Unit))) (ll L 1) (li L 2) (ll L 7) m (li x 0) (fun p => some (.inl p)) (fun p => some (.inr p))
noncomputable def a7y : Sh := { tmps := [(1, .c (.p 1 0)), (15, .c (.sl 61)), (16, .c (.i .i64)), (17, .c (.i .i64))], mem := [(1, .box ([.b, .i .i64, .sl 61]))] }
noncomputable def d7m (L : List Lf) : List (Bool × (Ex × St)) := bnd (b0B N L N (pk a7y [3] L)) fun q => [((a07 q), (.ret, ⟨[(2, .c (.i .i64 (a3p q)))], []⟩)), ((a0I q).isSome, ((.exit 0), ⟨[], []⟩))]
theorem c10 (m : Nat) (kn : St → Option (Ex × St)) (L x : List Lf) : lpB Try.prog (c6s N) (d1q N).h 0 72 18 a7y [3] [2] [] (m + 100) kn L x = a7x N L x (fun y => kn (a0x a7y (mx a7y [3] L y))) (fun p => some (.ret, ⟨[(2, .c (.i .i64 p))], []⟩)) (fun _ => some ((.exit 0), ⟨[], []⟩)) := by kernel_rfl
theorem d1r (L : List Lf) (m : Nat) (x : List Lf) : b0B N L (m + 1) x = a7x N L x (b0B N L m) (fun p => some (.inl p)) (fun p => some (.inr p)) := by kernel_rfl
noncomputable def d1s : Sg Try.prog 0 72 :=
 (d1q N).lp (d7m N) N a0b (a7v N) (fun m kn L x => (c10 N m kn L x).trans (b9G N L x _ _ _)) (fun L m x => (d1r N L m x).trans (b9G N L x (b0B N L m) (fun p => some (.inl p)) (fun p => some (.inr p)))) fun L x hx => (a3w a0D) x hx
noncomputable def c6v (v1 : Int) (v3 : LD) (k0 : Int → Option R) : Option R :=
 bnd (a8Z N v1 0 65535) fun y0 =>
 bif y0 then
  k0 9
 else
  bif (decide ((v3.length : Int) > 30)) then
   k0 3
  else
   bnd (b6D N v3 (v3.length : Int) v3 0) fun y1 =>
   bif (a07 y1) then
    k0 (a3p y1)
   else
    bif (a0I y1).isSome then
     k0 0
    else
     none
noncomputable def d1t (v1 : Int) (v3 : LD) : Option (Int) := c6v N v1 v3 (fun p => some p)
theorem d7n (v1 : Int) (v3 : LD) (k0 : Int → Option R) : c6v N v1 v3 k0 = (d1t N v1 v3).bind k0 := by
 unfold d1t c6v
 repeat' (first | with_reducible apply a0d | (with_reducible apply a0l; intro _) | rfl)
noncomputable def d1u : Sh := { tmps := [(0, .g ([.b, .i .i64, .sl 61]))], mem := [] }
noncomputable def e7b (L : List Lf) : List (Bool × Res) := bnd (c6v N (li L 1) (ll L 3) (fun p => some p)) fun q => [(q.isSome, ([.c (.i .i64 (q.getD default))], []))]
theorem e2l (L : List Lf) : bd Try.prog (c6s N) (d1s N).h 72 d1u L = c6v N (li L 1) (ll L 3) (fun p => some ([.c (.i .i64 p)], [])) := by kernel_rfl
theorem e7c : a0t Try.prog 72 d1u (e7b N) :=
 (d1s N).fn a0b (a7v N) fun L x hx => ((e2l N L).trans ((d7n N ..).trans (a0D x hx)))
noncomputable def e2m : a0e := ext 72 (a1b d1u (e7b N)) (c6s N)
theorem c3S : a0c Try.prog (e2m N) := a0t.to (e7c N) (a7v N)
noncomputable def e7d : List (Nat × List Nat) := [(0, [0]), (1, [1])]
noncomputable def e7e : a0r := []
noncomputable def d1v (N : Nat) : Sg Try.prog 0 46 := .start e7e e7d
noncomputable def d1w (N : Nat) (v0 v1 v2 : Int) (k0 : Bool → R) : R :=
 bnd (bif (bif (v0 == 253) then (v2 == 0) else false) then (v1 == 4) else false) fun y0 =>
 k0 y0
noncomputable def d1x (v0 v1 v2 : Int) : Bool := d1w N v0 v1 v2 (fun p => p)
theorem e2n (v0 v1 v2 : Int) (k0 : Bool → R) : d1w N v0 v1 v2 k0 = k0 (d1x N v0 v1 v2) := by
 unfold d1x d1w
 repeat' (first | rfl | apply a0M | (apply a1u; intro _))
noncomputable def d1y : Sh := { tmps := [(0, .g ([.i .i64, .i .i64, .i .i64]))], mem := [] }
noncomputable def e7f (L : List Lf) : List (Bool × Res) := bnd (d1w N (li L 0) (li L 1) (li L 2) (fun p => p)) fun q => [(true, ([.c (.b q)], []))]
theorem e2o (L : List Lf) : bd Try.prog (e2m N) (d1v N).h 46 d1y L = d1w N (li L 0) (li L 1) (li L 2) (fun p => some ([.c (.b p)], [])) := by kernel_rfl
theorem e7g : a0t Try.prog 46 d1y (e7f N) :=
 (d1v N).fn a0b (c3S N) fun L x hx => ((e2o N L).trans ((e2n N ..).trans (a4q _ _ hx)))
noncomputable def d7o : a0e := ext 46 (a1b d1y (e7f N)) (e2m N)
theorem b6E : a0c Try.prog (d7o N) := a0t.to (e7g N) (c3S N)
noncomputable def e7h : List (Nat × List Nat) := [(0, [0]), (1, [1]), (2, [1, 4]), (3, [10, 9, 8, 4]), (4, [8, 10, 4, 9]), (5, [6, 4, 10, 9, 8]), (6, [4]), (7, [4, 6, 10, 9, 8]), (8, [10, 9, 8, 4]), (9, [])]
noncomputable def e7i : a0r := [(9, [4, 8, 9, 10], [], [])]
noncomputable def d1z (N : Nat) : Sg Try.prog 0 65 := .start e7i e7h
noncomputable def b2Y (w2 : LD) (w3 : Int) (w0 w4 : Int) (kr : Int → Int → Option R) (k0 : Int → Option R) (k1 : Unit → Option R) : Option R :=
 bif (decide (w4 < w3)) then
  bif (inB w4 w2.length) then
   bnd (d1x N ((w2.getD w4.toNat (.i 0)).cell 0).toI ((w2.getD w4.toNat (.i 0)).cell 1).toI ((w2.getD w4.toNat (.i 0)).cell 2).toI) fun y0 =>
   bif y0 then
    k0 w0
   else
    bnd (IntKind.wrap .i64 (w0 + ((w2.getD w4.toNat (.i 0)).cell 1).toI)) fun y1 =>
    kr y1 (IntKind.wrap .i64 (w4 + 1))
  else
   none
 else
  k1 ()
noncomputable def b6F (N : Nat) {R : Type} (w2 : LD) (w3 : Int) : Nat → Int → Int → (Int → Option R) → (Unit → Option R) → Option R
 | 0, _, _, _, _ => none
 | m + 1, w0, w4, k0, k1 => b2Y N w2 w3 w0 w4 (fun w0 w4 => b6F N w2 w3 m w0 w4 k0 k1) k0 k1
noncomputable def d1A (w2 : LD) (w3 : Int) (w0 w4 : Int) : Option (Sum (Int) (Unit)) := b6F N (R := (Sum (Int) (Unit))) w2 w3 N w0 w4 (fun p => some (.inl p)) (fun p => some (.inr p))
noncomputable def b2Z (L x : List Lf) (kr : List Lf → Option R) (k0 : Int → Option R) (k1 : Unit → Option R) : Option R := b2Y N (ll L 2) (li L 3) (li x 0) (li x 1) (fun w0 w4 => kr [.i w0, .i w4]) k0 k1
theorem c3T (L x : List Lf) (kr : List Lf → Option R) (k0 : Int → Option R) (k1 : Unit → Option R) : b2Z N L x kr k0 k1 = (b2Z N L x (fun y => some (.inl y)) (fun p => some (.inr (.inl p))) (fun p => some (.inr (.inr p)))).bind (a1a kr (a1a k0 k1)) := by
 unfold b2Z b2Y
 repeat' (first | with_reducible apply a0d | (with_reducible apply a0l; intro _) | rfl)
noncomputable def b6G (L : List Lf) (m : Nat) (x : List Lf) : Option (Sum (Int) (Unit)) := b6F N (R := (Sum (Int) (Unit))) (ll L 2) (li L 3) m (li x 0) (li x 1) (fun p => some (.inl p)) (fun p => some (.inr p))
noncomputable def b0C : Sh := { tmps := [(4, .c (.i .i64)), (8, .c (.sl 61)), (9, .c (.i .i64)), (10, .c (.i .i64))], mem := [] }
noncomputable def e2p (L : List Lf) : List (Bool × (Ex × St)) := bnd (b6G N L N (pk b0C [0, 4] L)) fun q => [((a07 q), (.ret, ⟨[(2, .c (.i .i64 (a3p q))), (3, .c (.b true))], []⟩)), ((a0I q).isSome, ((.exit 0), ⟨[], []⟩))]
theorem c6w (m : Nat) (kn : St → Option (Ex × St)) (L x : List Lf) : lpB Try.prog (d7o N) (d1z N).h 0 65 9 b0C [0, 4] [2, 3] [] (m + 100) kn L x = b2Z N L x (fun y => kn (a0x b0C (mx b0C [0, 4] L y))) (fun p => some (.ret, ⟨[(2, .c (.i .i64 p)), (3, .c (.b true))], []⟩)) (fun _ => some ((.exit 0), ⟨[], []⟩)) := by kernel_rfl
theorem d7p (L : List Lf) (m : Nat) (x : List Lf) : b6G N L (m + 1) x = b2Z N L x (b6G N L m) (fun p => some (.inl p)) (fun p => some (.inr p)) := by kernel_rfl
noncomputable def d1B : Sg Try.prog 0 65 :=
 (d1z N).lp (e2p N) N a0b (b6E N) (fun m kn L x => (c6w N m kn L x).trans (c3T N L x _ _ _)) (fun L m x => (d7p N L m x).trans (c3T N L x (b6G N L m) (fun p => some (.inl p)) (fun p => some (.inr p)))) fun L x hx => (a3w a0D) x hx
noncomputable def c6x (v3 : LD) (k0 : Int × Bool → Option R) : Option R :=
 bnd (d1A N v3 (v3.length : Int) 0 0) fun y0 =>
 bif (a07 y0) then
  k0 ((a3p y0), true)
 else
  bif (a0I y0).isSome then
   k0 (0, false)
  else
   none
noncomputable def c6y (v3 : LD) : Option (Int × Bool) := c6x N v3 (fun p => some p)
theorem d7q (v3 : LD) (k0 : Int × Bool → Option R) : c6x N v3 k0 = (c6y N v3).bind k0 := by
 unfold c6y c6x
 repeat' (first | with_reducible apply a0d | (with_reducible apply a0l; intro _) | rfl)
noncomputable def d1C : Sh := { tmps := [(0, .g ([.b, .i .i64, .sl 61]))], mem := [] }
noncomputable def e7j (L : List Lf) : List (Bool × Res) := bnd (c6x N (ll L 3) (fun p => some p)) fun q => [(q.isSome, ([.c (.i .i64 (q.getD default).1), .c (.b (q.getD default).2)], []))]
theorem e2q (L : List Lf) : bd Try.prog (d7o N) (d1B N).h 65 d1C L = c6x N (ll L 3) (fun p => some ([.c (.i .i64 p.1), .c (.b p.2)], [])) := by kernel_rfl
theorem e7k : a0t Try.prog 65 d1C (e7j N) :=
 (d1B N).fn a0b (b6E N) fun L x hx => ((e2q N L).trans ((d7q N ..).trans (a0D x hx)))
noncomputable def d1D : a0e := ext 65 (a1b d1C (e7j N)) (d7o N)
theorem b0D : a0c Try.prog (d1D N) := a0t.to (e7k N) (b6E N)
noncomputable def e7l : List (Nat × List Nat) := [(0, [0, 1]), (1, [1, 2]), (2, [1, 2, 5]), (3, [2, 6, 5]), (4, [13, 12, 11, 6, 5]), (5, [11, 13, 6, 12, 5]), (6, [6, 8, 13, 12, 11, 5]), (7, [13, 12, 11, 5]), (8, [5, 8, 13, 12, 11, 6]), (9, [13, 12, 11, 6, 5]), (10, [5])]
noncomputable def e7m : a0r := [(12, [5, 6, 11, 12, 13], [5], [5]), (19, [5, 6, 8, 11, 12, 13], [5, 8], [])]
noncomputable def d1E (N : Nat) : Sg Try.prog 0 24 := .start e7m e7l
noncomputable def a7z (w0 : Bool) (w7 w8 w9 : Int) (k0 : Bool → R) : R :=
 bif w0 then
  bnd (d1x N w7 w8 w9) fun y0 =>
  k0 y0
 else
  k0 false
noncomputable def a7A (w0 : Bool) (w7 w8 w9 : Int) : Bool := a7z N w0 w7 w8 w9 (fun p => p)
theorem c6z (w0 : Bool) (w7 w8 w9 : Int) (k0 : Bool → R) : a7z N w0 w7 w8 w9 k0 = k0 (a7A N w0 w7 w8 w9) := by
 unfold a7A a7z
 repeat' (first | rfl | apply a0M | (apply a1u; intro _))
noncomputable def c3U (L : List Lf) (k0 : Bool → R) : R := a7z N (lb L 0) (li L 7) (li L 8) (li L 9) k0
noncomputable def b9H : Sh := { tmps := [(5, .c (.o 5)), (6, .c (.b)), (8, .c (.p 8 0)), (11, .c (.sl 61)), (12, .c (.i .i64)), (13, .c (.i .i64))], mem := [(5, .row 61 true), (8, .box ([.i .i64, .i .i64, .i .i64]))] }
noncomputable def b4U (L : List Lf) (p : Bool) : Ex × St := (.normal, mg (a0x b9H L) [5, 6, 8, 11, 12, 13, 21] [(21, .c (.b p))] [5, 8] [])
noncomputable def d7r (L : List Lf) : List (Bool × (Ex × St)) := bnd (c3U N L (fun p => p)) fun q => [(true, b4U L q)]
theorem c6A (L : List Lf) : pc Try.prog (d1D N) (d1E N).h 0 100 24 19 b9H L [5, 6, 8, 11, 12, 13, 21] [5, 8] = c3U N L (fun p => some (b4U L p)) := by kernel_rfl
noncomputable def d1F : Sg Try.prog 0 24 :=
 (d1E N).cut (d7r N) a0b (b0D N) fun L x hx => (c6A N L).trans ((c6z N ..).trans (a4q _ _ hx))
noncomputable def a7B (w2 : LD) (w3 : Int) (w0 : Bool) (w4 : Int) (w5 : Bool) (w6 : LD) (kr : Bool → Int → Bool → LD → Option R) (k0 : Bool × LD → Option R) : Option R :=
 bif (decide (w4 < w3)) then
  bif (inB w4 w2.length) then
   bnd (a7A N w0 ((w2.getD w4.toNat (.i 0)).cell 0).toI ((w2.getD w4.toNat (.i 0)).cell 1).toI ((w2.getD w4.toNat (.i 0)).cell 2).toI) fun y0 =>
   bif y0 then
    kr false (IntKind.wrap .i64 (w4 + 1)) w5 w6
   else
    bif (decide ((w6.length + 1) * 24 ≤ a1j) && decide ((w6.length + 1) ≤ a0i)) then
     bnd ((w6 ++ [(.a [(.i ((w2.getD w4.toNat (.i 0)).cell 0).toI), (.i ((w2.getD w4.toNat (.i 0)).cell 1).toI), (.i ((w2.getD w4.toNat (.i 0)).cell 2).toI)])]) : List D) fun y1 =>
     kr w0 (IntKind.wrap .i64 (w4 + 1)) false y1
    else
     none
  else
   none
 else
  k0 (w5, w6)
noncomputable def b0E (N : Nat) {R : Type} (w2 : LD) (w3 : Int) : Nat → Bool → Int → Bool → LD → (Bool × LD → Option R) → Option R
 | 0, _, _, _, _, _ => none
 | m + 1, w0, w4, w5, w6, k0 => a7B N w2 w3 w0 w4 w5 w6 (fun w0 w4 w5 w6 => b0E N w2 w3 m w0 w4 w5 w6 k0) k0
noncomputable def c3V (w2 : LD) (w3 : Int) (w0 : Bool) (w4 : Int) (w5 : Bool) (w6 : LD) : Option (Bool × LD) := b0E N (R := (Bool × LD)) w2 w3 N w0 w4 w5 w6 (fun p => some p)
noncomputable def a7C (L x : List Lf) (kr : List Lf → Option R) (k0 : Bool × LD → Option R) : Option R := a7B N (ll L 2) (li L 3) (lb x 0) (li x 1) (lb x 2) (ll x 3) (fun w0 w4 w5 w6 => kr [.b w0, .i w4, .b w5, .l w6]) k0
theorem b9I (L x : List Lf) (kr : List Lf → Option R) (k0 : Bool × LD → Option R) : a7C N L x kr k0 = (a7C N L x (fun y => some (.inl y)) (fun p => some (.inr p))).bind (a1a kr k0) := by
 unfold a7C a7B
 repeat' (first | with_reducible apply a0d | (with_reducible apply a0l; intro _) | rfl)
noncomputable def b0F (L : List Lf) (m : Nat) (x : List Lf) : Option (Bool × LD) := b0E N (R := (Bool × LD)) (ll L 2) (li L 3) m (lb x 0) (li x 1) (lb x 2) (ll x 3) (fun p => some p)
noncomputable def a7D : Sh := { tmps := [(5, .c (.o 5)), (6, .c (.b)), (11, .c (.sl 61)), (12, .c (.i .i64)), (13, .c (.i .i64))], mem := [(5, .row 61 true)] }
noncomputable def d7s (L : List Lf) : List (Bool × (Ex × St)) := bnd (b0F N L N (pk a7D [0, 4, 5, 6] L)) fun q => [(q.isSome, ((.exit 0), ⟨[(5, .c (.o 5))], [(5, .row 61 true (q.getD default).1 (q.getD default).2)]⟩))]
theorem c11 (m : Nat) (kn : St → Option (Ex × St)) (L x : List Lf) : lpB Try.prog (d1D N) (d1F N).h 0 24 12 a7D [0, 4, 5, 6] [4, 5] [5] (m + 100) kn L x = a7C N L x (fun y => kn (a0x a7D (mx a7D [0, 4, 5, 6] L y))) (fun p => some ((.exit 0), ⟨[(5, .c (.o 5))], [(5, .row 61 true p.1 p.2)]⟩)) := by kernel_rfl
theorem d1G (L : List Lf) (m : Nat) (x : List Lf) : b0F N L (m + 1) x = a7C N L x (b0F N L m) some := by kernel_rfl
noncomputable def d1H : Sg Try.prog 0 24 :=
 (d1F N).lp (d7s N) N a0b (b0D N) (fun m kn L x => (c11 N m kn L x).trans (b9I N L x _ _)) (fun L m x => (d1G N L m x).trans (b9I N L x (b0F N L m) some)) fun L x hx => a0D x hx
noncomputable def c6B (v3 : LD) (v4 : Bool) (k0 : Bool × LD → Option R) : Option R :=
 bnd (c3V N v3 (v3.length : Int) v4 0 true []) fun y0 =>
 bif y0.isSome then
  k0 (y0.getD default)
 else
  none
noncomputable def b9J (v3 : LD) (v4 : Bool) : Option (Bool × LD) := c6B N v3 v4 (fun p => some p)
theorem d7t (v3 : LD) (v4 : Bool) (k0 : Bool × LD → Option R) : c6B N v3 v4 k0 = (b9J N v3 v4).bind k0 := by
 unfold b9J c6B
 repeat' (first | with_reducible apply a0d | (with_reducible apply a0l; intro _) | rfl)
noncomputable def d1I : Sh := { tmps := [(0, .g ([.b, .i .i64, .sl 61])), (1, .c (.b))], mem := [] }
noncomputable def e7n (L : List Lf) : List (Bool × Res) := bnd (c6B N (ll L 3) (lb L 4) (fun p => some p)) fun q => [(q.isSome, ([.c (.sl 61 (q.getD default).1 (q.getD default).2)], []))]
theorem e2r (L : List Lf) : bd Try.prog (d1D N) (d1H N).h 24 d1I L = c6B N (ll L 3) (lb L 4) (fun p => some ([.c (.sl 61 p.1 p.2)], [])) := by kernel_rfl
theorem e7o : a0t Try.prog 24 d1I (e7n N) :=
 (d1H N).fn a0b (b0D N) fun L x hx => ((e2r N L).trans ((d7t N ..).trans (a0D x hx)))
noncomputable def d7u : a0e := ext 24 (a1b d1I (e7n N)) (d1D N)
theorem b6H : a0c Try.prog (d7u N) := a0t.to (e7o N) (b0D N)
noncomputable def e7p : List (Nat × List Nat) := [(0, [0]), (1, [0]), (2, [0, 3]), (3, [8, 7, 6, 3]), (4, [6, 8, 3, 7]), (5, [3, 5, 8, 7, 6]), (6, [8, 7, 6, 3]), (7, [3])]
noncomputable def e7q : a0r := [(9, [3, 6, 7, 8], [], [])]
noncomputable def d1J (N : Nat) : Sg Try.prog 0 73 := .start e7q e7p
noncomputable def b20 (N : Nat) (w2 : LD) (w3 : Int) (w0 w4 : Int) (kr : Int → Int → Option R) (k0 : Int → Option R) : Option R :=
 bif (decide (w4 < w3)) then
  bif (inB w4 w2.length) then
   bnd (IntKind.wrap .i64 (w0 + ((w2.getD w4.toNat (.i 0)).cell 1).toI)) fun y0 =>
   kr y0 (IntKind.wrap .i64 (w4 + 1))
  else
   none
 else
  k0 w0
noncomputable def b6I (N : Nat) {R : Type} (w2 : LD) (w3 : Int) : Nat → Int → Int → (Int → Option R) → Option R
 | 0, _, _, _ => none
 | m + 1, w0, w4, k0 => b20 N w2 w3 w0 w4 (fun w0 w4 => b6I N w2 w3 m w0 w4 k0) k0
noncomputable def d1K (w2 : LD) (w3 : Int) (w0 w4 : Int) : Option (Int) := b6I N (R := (Int)) w2 w3 N w0 w4 (fun p => some p)
noncomputable def b21 (L x : List Lf) (kr : List Lf → Option R) (k0 : Int → Option R) : Option R := b20 N (ll L 2) (li L 3) (li x 0) (li x 1) (fun w0 w4 => kr [.i w0, .i w4]) k0
theorem c3W (L x : List Lf) (kr : List Lf → Option R) (k0 : Int → Option R) : b21 N L x kr k0 = (b21 N L x (fun y => some (.inl y)) (fun p => some (.inr p))).bind (a1a kr k0) := by
 unfold b21 b20
 repeat' (first | with_reducible apply a0d | (with_reducible apply a0l; intro _) | rfl)
noncomputable def b6J (L : List Lf) (m : Nat) (x : List Lf) : Option (Int) := b6I N (R := (Int)) (ll L 2) (li L 3) m (li x 0) (li x 1) (fun p => some p)
noncomputable def b0G : Sh := { tmps := [(3, .c (.i .i64)), (6, .c (.sl 61)), (7, .c (.i .i64)), (8, .c (.i .i64))], mem := [] }
noncomputable def e2s (L : List Lf) : List (Bool × (Ex × St)) := bnd (b6J N L N (pk b0G [0, 4] L)) fun q => [(q.isSome, ((.exit 0), ⟨[(3, .c (.i .i64 (q.getD default)))], []⟩))]
theorem c6C (m : Nat) (kn : St → Option (Ex × St)) (L x : List Lf) : lpB Try.prog (d7u N) (d1J N).h 0 73 9 b0G [0, 4] [2, 3] [] (m + 100) kn L x = b21 N L x (fun y => kn (a0x b0G (mx b0G [0, 4] L y))) (fun p => some ((.exit 0), ⟨[(3, .c (.i .i64 p))], []⟩)) := by kernel_rfl
theorem d7v (L : List Lf) (m : Nat) (x : List Lf) : b6J N L (m + 1) x = b21 N L x (b6J N L m) some := by kernel_rfl
noncomputable def d1L : Sg Try.prog 0 73 :=
 (d1J N).lp (e2s N) N a0b (b6H N) (fun m kn L x => (c6C N m kn L x).trans (c3W N L x _ _)) (fun L m x => (d7v N L m x).trans (c3W N L x (b6J N L m) some)) fun L x hx => a0D x hx
noncomputable def c6D (v1 : LD) (k0 : Int → Option R) : Option R :=
 bnd (d1K N v1 (v1.length : Int) 0 0) fun y0 =>
 bif y0.isSome then
  k0 (y0.getD default)
 else
  none
noncomputable def d1M (v1 : LD) : Option (Int) := c6D N v1 (fun p => some p)
theorem d7w (v1 : LD) (k0 : Int → Option R) : c6D N v1 k0 = (d1M N v1).bind k0 := by
 unfold d1M c6D
 repeat' (first | with_reducible apply a0d | (with_reducible apply a0l; intro _) | rfl)
noncomputable def d1N : Sh := { tmps := [(0, .c (.sl 61))], mem := [] }
noncomputable def e7r (L : List Lf) : List (Bool × Res) := bnd (c6D N (ll L 1) (fun p => some p)) fun q => [(q.isSome, ([.c (.i .i64 (q.getD default))], []))]
theorem e2t (L : List Lf) : bd Try.prog (d7u N) (d1L N).h 73 d1N L = c6D N (ll L 1) (fun p => some ([.c (.i .i64 p)], [])) := by kernel_rfl
theorem e7s : a0t Try.prog 73 d1N (e7r N) :=
 (d1L N).fn a0b (b6H N) fun L x hx => ((e2t N L).trans ((d7w N ..).trans (a0D x hx)))
noncomputable def d1O : a0e := ext 73 (a1b d1N (e7r N)) (d7u N)
theorem b0H : a0c Try.prog (d1O N) := a0t.to (e7s N) (b6H N)
noncomputable def e7t : List (Nat × List Nat) := [(0, [1, 0]), (1, [3, 0]), (2, []), (3, [3, 0]), (4, [3, 0, 5, 6]), (5, [3, 0]), (6, [3, 5, 6, 0]), (7, []), (8, [3, 0]), (9, [3]), (10, []), (11, [3]), (12, [3, 0]), (13, []), (14, [0, 3]), (15, []), (16, [0, 3]), (17, [7, 3, 0]), (18, [3, 9, 0, 7]), (19, []), (20, [3, 7]), (21, []), (22, [])]
noncomputable def e7u : a0r := [(17, [0, 3, 5, 6, 15], [0, 4], []), (19, [0, 3, 5, 6], [0, 4], [])]
noncomputable def d1P (N : Nat) : Sg Try.prog 1 50 := .start e7u e7t
noncomputable def a5A (N : Nat) (w0 w1 : Int) (w2 : Bool) (k0 : Int × Int → R) : R :=
 bif w2 then
  k0 (3, 31)
 else
  k0 (w0, w1)
noncomputable def b0I (w0 w1 : Int) (w2 : Bool) : Int × Int := a5A N w0 w1 w2 (fun p => p)
theorem c6E (w0 w1 : Int) (w2 : Bool) (k0 : Int × Int → R) : a5A N w0 w1 w2 k0 = k0 (b0I N w0 w1 w2) := by
 unfold b0I a5A
 repeat' (first | rfl | apply a0M | (apply a1u; intro _))
noncomputable def b9K : Sh := { tmps := [(0, .c (.p 0 0)), (3, .c (.p 4 0)), (5, .c (.i .i64)), (6, .c (.i .i64)), (15, .c (.b))], mem := [(0, .dat 100), (4, .box ([.i .i64, .i .i64, .i .i64, .sl 44, .sl 5]))] }
noncomputable def b4V (L : List Lf) (p : Int × Int) : Ex × St := (.normal, mg (a0x b9K L) [0, 3, 5, 6] [(5, .c (.i .i64 p.1)), (6, .c (.i .i64 p.2))] [0, 4] [])
noncomputable def d7x (L : List Lf) : List (Bool × (Ex × St)) := bnd (a5A N (li L 0) (li L 1) (lb L 2) (fun p => p)) fun q => [(true, b4V L q)]
theorem c6F (L : List Lf) : pc Try.prog (d1O N) (d1P N).h 1 100 50 17 b9K L [0, 3, 5, 6] [0, 4] = a5A N (li L 0) (li L 1) (lb L 2) (fun p => some (b4V L p)) := by kernel_rfl
noncomputable def d1Q : Sg Try.prog 1 50 :=
 (d1P N).cut (d7x N) a0b (b0H N) fun L x hx => (c6F N L).trans ((c6E N ..).trans (a4q _ _ hx))
noncomputable def a7E (w0 w1 w4 w5 : Int) (k0 : Bool → R) : R :=
 bnd (a8Z N w4 0 w0) fun y0 =>
 bif y0 then
  k0 true
 else
  bnd (a8Z N w5 0 w1) fun y1 =>
  k0 y1
noncomputable def b0J (w0 w1 w4 w5 : Int) : Bool := a7E N w0 w1 w4 w5 (fun p => p)
theorem c6G (w0 w1 w4 w5 : Int) (k0 : Bool → R) : a7E N w0 w1 w4 w5 k0 = k0 (b0J N w0 w1 w4 w5) := by
 unfold b0J a7E
 repeat' (first | rfl | apply a0M | (apply a1u; intro _))
noncomputable def c3X (L : List Lf) (k0 : Bool → R) : R := a7E N (li L 0) (li L 1) (li L 4) (li L 5) k0
noncomputable def b9L : Sh := { tmps := [(0, .c (.p 0 0)), (3, .c (.p 4 0)), (5, .c (.i .i64)), (6, .c (.i .i64))], mem := [(0, .dat 100), (4, .box ([.i .i64, .i .i64, .i .i64, .sl 44, .sl 5]))] }
noncomputable def b4W (L : List Lf) (p : Bool) : Ex × St := (.normal, mg (a0x b9L L) [0, 3, 25] [(25, .c (.b p))] [0, 4] [])
noncomputable def d7y (L : List Lf) : List (Bool × (Ex × St)) := bnd (c3X N L (fun p => p)) fun q => [(true, b4W L q)]
theorem c6H (L : List Lf) : pc Try.prog (d1O N) (d1Q N).h 1 100 50 19 b9L L [0, 3, 25] [0, 4] = c3X N L (fun p => some (b4W L p)) := by kernel_rfl
noncomputable def d1R : Sg Try.prog 1 50 :=
 (d1Q N).cut (d7y N) a0b (b0H N) fun L x hx => (c6H N L).trans ((c6G N ..).trans (a4q _ _ hx))
noncomputable def d1S (v0 v1 v2 : Int) (v4 v6 : LD) (v7 : D) (k0 : Int → Option R) : Option R :=
 bnd (a8Z N v0 1 3) fun y0 =>
 bif y0 then
  k0 7
 else
  bnd (b0I N 15 0 (v0 == 3)) fun y1 =>
  bnd (b0J N y1.1 y1.2 v1 v2) fun y2 =>
  bif y2 then
   k0 9
  else
   bif (v0 == 1) then
    bnd (bif ((v4.length : Int) != 1) then true else (decide ((v6.length : Int) > 0))) fun y3 =>
    bif y3 then
     k0 2
    else
     bif (inB 0 v4.length) then
      bnd (d1t N ((v4.getD 0 (.i 0)).cell 1).toI ((v4.getD 0 (.i 0)).cell 2).items) fun y4 =>
      bif y4.isSome then
       k0 (y4.getD default)
      else
       none
     else
      none
   else
    bif (decide ((v4.length : Int) > 0)) then
     k0 2
    else
     bif (inB v1 16) then
      bif (!(v7.cell (0 + (v1.toNat * 1))).toB) then
       k0 11
      else
       bif (inB v1 16) then
        bnd (c6y N (v7.cell (18 + (v1.toNat * 3))).items) fun y5 =>
        bif y5.isSome then
         bnd (bif (v0 == 3) then (bif (!(y5.getD default).2) then true else (decide ((v7.cell 64).toI < 0))) else false) fun y6 =>
         bif y6 then
          k0 11
         else
          bnd (b9J N (v7.cell (18 + (v1.toNat * 3))).items (v0 == 3)) fun y7 =>
          bif y7.isSome then
           bnd (d1M N (y7.getD default).2) fun y8 =>
           bif y8.isSome then
            bif ((v6.length : Int) != (y8.getD default)) then
             k0 2
            else
             k0 0
           else
            none
          else
           none
        else
         none
       else
        none
     else
      none
noncomputable def d1T (v0 v1 v2 : Int) (v4 v6 : LD) (v7 : D) : Option (Int) := d1S N v0 v1 v2 v4 v6 v7 (fun p => some p)
theorem d7z (v0 v1 v2 : Int) (v4 v6 : LD) (v7 : D) (k0 : Int → Option R) : d1S N v0 v1 v2 v4 v6 v7 k0 = (d1T N v0 v1 v2 v4 v6 v7).bind k0 := by
 unfold d1T d1S
 repeat' (first | with_reducible apply a0d | (with_reducible apply a0l; intro _) | rfl)
noncomputable def e7v (L : List Lf) (k0 : Int → Option R) : Option R := d1S N (li L 0) (li L 1) (li L 2) (ll L 4) (ll L 6) (ld L 7) k0
noncomputable def d1U : Sh := { tmps := [(0, .c (.p 0 0)), (1, .g ([.i .i64, .i .i64, .i .i64, .sl 44, .sl 5]))], mem := [(0, .dat 100)] }
noncomputable def e7w (L : List Lf) : List (Bool × Res) := bnd (e7v N L (fun p => some p)) fun q => [(q.isSome, ([.c (.i .i64 (q.getD default))], [(0, .dat 100 (ld L 7))]))]
theorem e2u (L : List Lf) : bd Try.prog (d1O N) (d1R N).h 50 d1U L = e7v N L (fun p => some ([.c (.i .i64 p)], [(0, .dat 100 (ld L 7))])) := by kernel_rfl
theorem e7x : a0t Try.prog 50 d1U (e7w N) :=
 (d1R N).fn a0b (b0H N) fun L x hx => ((e2u N L).trans ((d7z N ..).trans (a0D x hx)))
noncomputable def d1V : a0e := ext 50 (a1b d1U (e7w N)) (d1O N)
theorem b0K : a0c Try.prog (d1V N) := a0t.to (e7x N) (b0H N)
noncomputable def e7y : List (Nat × List Nat) := [(0, [0, 1]), (1, [0, 1]), (2, [0, 1, 5]), (3, [10, 9, 1, 0, 5]), (4, [10, 1, 0, 5, 9]), (5, [6, 1, 0, 5, 10, 9]), (6, [1, 0, 6, 5, 10, 9, 7]), (7, [0, 6, 5, 10, 9, 1]), (8, [5, 0, 7, 10, 9, 1]), (9, [10, 9, 1, 0, 5]), (10, [5])]
noncomputable def e7z : a0r := [(9, [0, 1, 5, 9, 10], [], []), (23, [0, 1, 5, 6, 7, 9, 10, 15], [], [])]
noncomputable def d1W (N : Nat) : Sg Try.prog 0 64 := .start e7z e7y
noncomputable def a7F (N : Nat) (w1 : LD) (w4 w5 : Int) (w8 : Bool) (k0 : Int → R) : R :=
 bif w8 then
  bnd (IntKind.wrap .i64 ((IntKind.wrap .i64 ((w1.length : Int) - 1)) - w4)) fun y0 =>
  k0 y0
 else
  k0 w5
noncomputable def a7G (w1 : LD) (w4 w5 : Int) (w8 : Bool) : Int := a7F N w1 w4 w5 w8 (fun p => p)
theorem c6I (w1 : LD) (w4 w5 : Int) (w8 : Bool) (k0 : Int → R) : a7F N w1 w4 w5 w8 k0 = k0 (a7G N w1 w4 w5 w8) := by
 unfold a7G a7F
 repeat' (first | rfl | apply a0M | (apply a1u; intro _))
noncomputable def c3Y (L : List Lf) (k0 : Int → R) : R := a7F N (ll L 1) (li L 4) (li L 5) (lb L 8) k0
noncomputable def b9M : Sh := { tmps := [(0, .c (.sl 5)), (1, .c (.b)), (5, .c (.i .i64)), (6, .c (.i .i64)), (7, .c (.i .i64)), (9, .c (.i .i64)), (10, .c (.i .i64)), (15, .c (.b))], mem := [] }
noncomputable def b4X (L : List Lf) (p : Int) : Ex × St := (.normal, mg (a0x b9M L) [0, 1, 5, 7, 9, 10] [(7, .c (.i .i64 p))] [] [])
noncomputable def d7A (L : List Lf) : List (Bool × (Ex × St)) := bnd (c3Y N L (fun p => p)) fun q => [(true, b4X L q)]
theorem c6J (L : List Lf) : pc Try.prog (d1V N) (d1W N).h 0 100 64 23 b9M L [0, 1, 5, 7, 9, 10] [] = c3Y N L (fun p => some (b4X L p)) := by kernel_rfl
noncomputable def d1X : Sg Try.prog 0 64 :=
 (d1W N).cut (d7A N) a0b (b0K N) fun L x hx => (c6J N L).trans ((c6I N ..).trans (a4q _ _ hx))
noncomputable def b22 (w1 : LD) (w2 : Bool) (w4 : Int) (w3 w5 : Int) (kr : Int → Int → Option R) (k0 : Int → Option R) : Option R :=
 bif (decide (w5 < w4)) then
  bnd (a7G N w1 w5 w5 (!w2)) fun y0 =>
  bif (inB y0 w1.length) then
   bnd (IntKind.wrap .i64 ((IntKind.wrap .i64 (256 * w3)) + (IntKind.wrap .i64 (w1.getD y0.toNat (.i 0)).toI))) fun y1 =>
   kr y1 (IntKind.wrap .i64 (w5 + 1))
  else
   none
 else
  k0 w3
noncomputable def b6K (N : Nat) {R : Type} (w1 : LD) (w2 : Bool) (w4 : Int) : Nat → Int → Int → (Int → Option R) → Option R
 | 0, _, _, _ => none
 | m + 1, w3, w5, k0 => b22 N w1 w2 w4 w3 w5 (fun w3 w5 => b6K N w1 w2 w4 m w3 w5 k0) k0
noncomputable def d1Y (w1 : LD) (w2 : Bool) (w4 : Int) (w3 w5 : Int) : Option (Int) := b6K N (R := (Int)) w1 w2 w4 N w3 w5 (fun p => some p)
noncomputable def b23 (L x : List Lf) (kr : List Lf → Option R) (k0 : Int → Option R) : Option R := b22 N (ll L 1) (lb L 2) (li L 4) (li x 0) (li x 1) (fun w3 w5 => kr [.i w3, .i w5]) k0
theorem c3Z (L x : List Lf) (kr : List Lf → Option R) (k0 : Int → Option R) : b23 N L x kr k0 = (b23 N L x (fun y => some (.inl y)) (fun p => some (.inr p))).bind (a1a kr k0) := by
 unfold b23 b22
 repeat' (first | with_reducible apply a0d | (with_reducible apply a0l; intro _) | rfl)
noncomputable def b6L (L : List Lf) (m : Nat) (x : List Lf) : Option (Int) := b6K N (R := (Int)) (ll L 1) (lb L 2) (li L 4) m (li x 0) (li x 1) (fun p => some p)
noncomputable def b0L : Sh := { tmps := [(0, .c (.sl 5)), (1, .c (.b)), (5, .c (.i .i64)), (9, .c (.i .i64)), (10, .c (.i .i64))], mem := [] }
noncomputable def e2v (L : List Lf) : List (Bool × (Ex × St)) := bnd (b6L N L N (pk b0L [3, 5] L)) fun q => [(q.isSome, ((.exit 0), ⟨[(5, .c (.i .i64 (q.getD default)))], []⟩))]
theorem c6K (m : Nat) (kn : St → Option (Ex × St)) (L x : List Lf) : lpB Try.prog (d1V N) (d1X N).h 0 64 9 b0L [3, 5] [4, 5] [] (m + 100) kn L x = b23 N L x (fun y => kn (a0x b0L (mx b0L [3, 5] L y))) (fun p => some ((.exit 0), ⟨[(5, .c (.i .i64 p))], []⟩)) := by kernel_rfl
theorem d7B (L : List Lf) (m : Nat) (x : List Lf) : b6L N L (m + 1) x = b23 N L x (b6L N L m) some := by kernel_rfl
noncomputable def d1Z : Sg Try.prog 0 64 :=
 (d1X N).lp (e2v N) N a0b (b0K N) (fun m kn L x => (c6K N m kn L x).trans (c3Z N L x _ _)) (fun L m x => (d7B N L m x).trans (c3Z N L x (b6L N L m) some)) fun L x hx => a0D x hx
noncomputable def c6L (v1 : LD) (v2 : Bool) (k0 : Int → Option R) : Option R :=
 bnd (d1Y N v1 v2 (v1.length : Int) 0 0) fun y0 =>
 bif y0.isSome then
  k0 (y0.getD default)
 else
  none
noncomputable def c6M (v1 : LD) (v2 : Bool) : Option (Int) := c6L N v1 v2 (fun p => some p)
theorem d7C (v1 : LD) (v2 : Bool) (k0 : Int → Option R) : c6L N v1 v2 k0 = (c6M N v1 v2).bind k0 := by
 unfold c6M c6L
 repeat' (first | with_reducible apply a0d | (with_reducible apply a0l; intro _) | rfl)
noncomputable def d14 : Sh := { tmps := [(0, .c (.sl 5)), (1, .c (.b))], mem := [] }
noncomputable def e7A (L : List Lf) : List (Bool × Res) := bnd (c6L N (ll L 1) (lb L 2) (fun p => some p)) fun q => [(q.isSome, ([.c (.i .i64 (q.getD default))], []))]
theorem e2w (L : List Lf) : bd Try.prog (d1V N) (d1Z N).h 64 d14 L = c6L N (ll L 1) (lb L 2) (fun p => some ([.c (.i .i64 p)], [])) := by kernel_rfl
theorem e7B : a0t Try.prog 64 d14 (e7A N) :=
 (d1Z N).fn a0b (b0K N) fun L x hx => ((e2w N L).trans ((d7C N ..).trans (a0D x hx)))
noncomputable def e2x : a0e := ext 64 (a1b d14 (e7A N)) (d1V N)
theorem c30 : a0c Try.prog (e2x N) := a0t.to (e7B N) (b0K N)
noncomputable def e7C : List (Nat × List Nat) := [(0, [1, 0]), (1, [3, 0]), (2, [10, 0, 3]), (5, [10, 0, 3]), (6, [0, 3]), (7, [0]), (3, [0, 3]), (4, []), (8, [0, 3]), (9, [5, 3, 0]), (10, [7, 3, 6, 5, 0]), (11, []), (12, [3, 6, 5, 0]), (13, [8, 0]), (14, []), (15, [0, 8]), (16, [8])]
noncomputable def e7D : a0r := []
noncomputable def d15 (N : Nat) : Sg Try.prog 1 40 := .start e7D e7C
noncomputable def d16 (v0 v1 v2 : Int) (v4 v6 : LD) (v7 : D) (k0 : Int × D → Option R) : Option R :=
 bif (v0 == 1) then
  bif (inB 0 v4.length) then
   bif (inB v1 16) then
    bif (inB v1 16) then
     bnd (((((v7.put (0 + (v1.toNat * 1)) (.b true)).put (16 + (v1.toNat * 3)) (.b ((v4.getD 0 (.i 0)).cell 0).toB)).put (17 + (v1.toNat * 3)) (.i ((v4.getD 0 (.i 0)).cell 1).toI)).put (18 + (v1.toNat * 3)) (.l ((v4.getD 0 (.i 0)).cell 2).isNil ((v4.getD 0 (.i 0)).cell 2).items)) : D) fun y0 =>
     k0 ((-1), y0)
    else
     none
   else
    none
  else
   none
 else
  bif (v0 == 3) then
   bnd (IntKind.wrap .i64 ((IntKind.wrap .i64 (v2 - ((v7.cell 64).toI.tmod 32))) + 32)) fun y1 =>
   bnd ((v7.put 64 (.i (IntKind.wrap .i64 ((v7.cell 64).toI + (y1.tmod 32))))) : D) fun y2 =>
   k0 ((y2.cell 64).toI, y2)
  else
   bif (inB v1 16) then
    bnd (c6y N (v7.cell (18 + (v1.toNat * 3))).items) fun y3 =>
    bif y3.isSome then
     bif (!(y3.getD default).2) then
      k0 ((-1), v7)
     else
      bif (((decide (0 ≤ (y3.getD default).1)) && (decide ((y3.getD default).1 ≤ (IntKind.wrap .i64 ((y3.getD default).1 + 4))))) && (decide ((IntKind.wrap .i64 ((y3.getD default).1 + 4)) ≤ (v6.length : Int)))) then
       bnd (((v6.take (IntKind.wrap .i64 ((y3.getD default).1 + 4)).toNat).drop (y3.getD default).1.toNat) : List D) fun y4 =>
       bnd (c6M N y4 (v7.cell (16 + (v1.toNat * 3))).toB) fun y5 =>
       bif y5.isSome then
        bif ((y5.getD default) == 4294967295) then
         k0 ((-1), v7)
        else
         k0 ((y5.getD default), (v7.put 64 (.i (y5.getD default))))
       else
        none
      else
       none
    else
     none
   else
    none
noncomputable def c6N (v0 v1 v2 : Int) (v4 v6 : LD) (v7 : D) : Option (Int × D) := d16 N v0 v1 v2 v4 v6 v7 (fun p => some p)
theorem d7D (v0 v1 v2 : Int) (v4 v6 : LD) (v7 : D) (k0 : Int × D → Option R) : d16 N v0 v1 v2 v4 v6 v7 k0 = (c6N N v0 v1 v2 v4 v6 v7).bind k0 := by
 unfold c6N d16
 repeat' (first | with_reducible apply a0d | (with_reducible apply a0l; intro _) | rfl)
noncomputable def e7E (L : List Lf) (k0 : Int × D → Option R) : Option R := d16 N (li L 0) (li L 1) (li L 2) (ll L 4) (ll L 6) (ld L 7) k0
noncomputable def d17 : Sh := { tmps := [(0, .c (.p 0 0)), (1, .g ([.i .i64, .i .i64, .i .i64, .sl 44, .sl 5]))], mem := [(0, .dat 100)] }
noncomputable def e7F (L : List Lf) : List (Bool × Res) := bnd (e7E N L (fun p => some p)) fun q => [(q.isSome, ([.c (.i .i64 (q.getD default).1)], [(0, .dat 100 (q.getD default).2)]))]
theorem e2y (L : List Lf) : bd Try.prog (e2x N) (d15 N).h 40 d17 L = e7E N L (fun p => some ([.c (.i .i64 p.1)], [(0, .dat 100 p.2)])) := by kernel_rfl
theorem e7G : a0t Try.prog 40 d17 (e7F N) :=
 (d15 N).fn a0b (c30 N) fun L x hx => ((e2y N L).trans ((d7D N ..).trans (a0D x hx)))
noncomputable def d7E : a0e := ext 40 (a1b d17 (e7F N)) (e2x N)
theorem b6M : a0c Try.prog (d7E N) := a0t.to (e7G N) (c30 N)
noncomputable def e7H : List (Nat × List Nat) := [(0, [0]), (1, [1]), (2, []), (3, [1]), (4, [1, 3]), (5, [16, 15, 14, 3]), (6, [14, 16, 3, 15]), (7, [3, 5, 16, 15, 14]), (8, [6, 3, 5, 16, 15, 14]), (9, [6]), (10, [3, 5, 16, 15, 14]), (11, [16, 15, 14, 3]), (12, [])]
noncomputable def e7I : a0r := [(15, [3, 14, 15, 16], [12], [])]
noncomputable def d18 (N : Nat) : Sg Try.prog 0 27 := .start e7I e7H
noncomputable def b0M (w1 : LD) (w2 : Int) (w3 : Int) (w4 : D) (kr : Int → D → Option R) (k0 : Int → Option R) (k1 : Unit → Option R) : Option R :=
 bif (decide (w3 < w2)) then
  bif (inB w3 w1.length) then
   bnd (d1T N ((w1.getD w3.toNat (.i 0)).cell 0).toI ((w1.getD w3.toNat (.i 0)).cell 1).toI ((w1.getD w3.toNat (.i 0)).cell 2).toI ((w1.getD w3.toNat (.i 0)).cell 3).items ((w1.getD w3.toNat (.i 0)).cell 4).items w4) fun y0 =>
   bif y0.isSome then
    bif ((y0.getD default) != 0) then
     k0 (y0.getD default)
    else
     bnd (c6N N ((w1.getD w3.toNat (.i 0)).cell 0).toI ((w1.getD w3.toNat (.i 0)).cell 1).toI ((w1.getD w3.toNat (.i 0)).cell 2).toI ((w1.getD w3.toNat (.i 0)).cell 3).items ((w1.getD w3.toNat (.i 0)).cell 4).items w4) fun y1 =>
     bif y1.isSome then
      kr (IntKind.wrap .i64 (w3 + 1)) (y1.getD default).2
     else
      none
   else
    none
  else
   none
 else
  k1 ()
noncomputable def a7H (N : Nat) {R : Type} (w1 : LD) (w2 : Int) : Nat → Int → D → (Int → Option R) → (Unit → Option R) → Option R
 | 0, _, _, _, _ => none
 | m + 1, w3, w4, k0, k1 => b0M N w1 w2 w3 w4 (fun w3 w4 => a7H N w1 w2 m w3 w4 k0 k1) k0 k1
noncomputable def b6N (w1 : LD) (w2 : Int) (w3 : Int) (w4 : D) : Option (Sum (Int) (Unit)) := a7H N (R := (Sum (Int) (Unit))) w1 w2 N w3 w4 (fun p => some (.inl p)) (fun p => some (.inr p))
noncomputable def a7I (L x : List Lf) (kr : List Lf → Option R) (k0 : Int → Option R) (k1 : Unit → Option R) : Option R := b0M N (ll L 1) (li L 2) (li x 0) (ld x 1) (fun w3 w4 => kr [.i w3, .d w4]) k0 k1
theorem b9N (L x : List Lf) (kr : List Lf → Option R) (k0 : Int → Option R) (k1 : Unit → Option R) : a7I N L x kr k0 k1 = (a7I N L x (fun y => some (.inl y)) (fun p => some (.inr (.inl p))) (fun p => some (.inr (.inr p)))).bind (a1a kr (a1a k0 k1)) := by
 unfold a7I b0M
 repeat' (first | with_reducible apply a0d | (with_reducible apply a0l; intro _) | rfl)
noncomputable def b0N (L : List Lf) (m : Nat) (x : List Lf) : Option (Sum (Int) (Unit)) := a7H N (R := (Sum (Int) (Unit))) (ll L 1) (li L 2) m (li x 0) (ld x 1) (fun p => some (.inl p)) (fun p => some (.inr p))
noncomputable def a7J : Sh := { tmps := [(3, .c (.p 12 0)), (14, .c (.sl 41)), (15, .c (.i .i64)), (16, .c (.i .i64))], mem := [(12, .dat 100)] }
noncomputable def d7F (L : List Lf) : List (Bool × (Ex × St)) := bnd (b0N N L N (pk a7J [3, 4] L)) fun q => [((a07 q), (.ret, ⟨[(2, .c (.i .i64 (a3p q)))], []⟩)), ((a0I q).isSome, ((.exit 0), ⟨[], []⟩))]
theorem c12 (m : Nat) (kn : St → Option (Ex × St)) (L x : List Lf) : lpB Try.prog (d7E N) (d18 N).h 0 27 15 a7J [3, 4] [2] [] (m + 100) kn L x = a7I N L x (fun y => kn (a0x a7J (mx a7J [3, 4] L y))) (fun p => some (.ret, ⟨[(2, .c (.i .i64 p))], []⟩)) (fun _ => some ((.exit 0), ⟨[], []⟩)) := by kernel_rfl
theorem d19 (L : List Lf) (m : Nat) (x : List Lf) : b0N N L (m + 1) x = a7I N L x (b0N N L m) (fun p => some (.inl p)) (fun p => some (.inr p)) := by kernel_rfl
noncomputable def d2a : Sg Try.prog 0 27 :=
 (d18 N).lp (d7F N) N a0b (b6M N) (fun m kn L x => (c12 N m kn L x).trans (b9N N L x _ _ _)) (fun L m x => (d19 N L m x).trans (b9N N L x (b0N N L m) (fun p => some (.inl p)) (fun p => some (.inr p)))) fun L x hx => (a3w a0D) x hx
noncomputable def c13 (v1 : LD) (k0 : Int → Option R) : Option R :=
 bif (decide ((v1.length : Int) > 50000)) then
  k0 3
 else
  bnd (b6N N v1 (v1.length : Int) 0 (.a [(.b false), (.b false), (.b false), (.b false), (.b false), (.b false), (.b false), (.b false), (.b false), (.b false), (.b false), (.b false), (.b false), (.b false), (.b false), (.b false), (.b false), (.i 0), (.l true []), (.b false), (.i 0), (.l true []), (.b false), (.i 0), (.l true []), (.b false), (.i 0), (.l true []), (.b false), (.i 0), (.l true []), (.b false), (.i 0), (.l true []), (.b false), (.i 0), (.l true []), (.b false), (.i 0), (.l true []), (.b false), (.i 0), (.l true []), (.b false), (.i 0), (.l true []), (.b false), (.i 0), (.l true []), (.b false), (.i 0), (.l true []), (.b false), (.i 0), (.l true []), (.b false), (.i 0), (.l true []), (.b false), (.i 0), (.l true []), (.b false), (.i 0), (.l true []), (.i (-1))])) fun y0 =>
  bif (a07 y0) then
   k0 (a3p y0)
  else
   bif (a0I y0).isSome then
    k0 0
   else
    none
noncomputable def b9O (v1 : LD) : Option (Int) := c13 N v1 (fun p => some p)
theorem d7G (v1 : LD) (k0 : Int → Option R) : c13 N v1 k0 = (b9O N v1).bind k0 := by
 unfold b9O c13
 repeat' (first | with_reducible apply a0d | (with_reducible apply a0l; intro _) | rfl)
noncomputable def d2b : Sh := { tmps := [(0, .g ([.sl 41]))], mem := [] }
noncomputable def e7J (L : List Lf) : List (Bool × Res) := bnd (c13 N (ll L 1) (fun p => some p)) fun q => [(q.isSome, ([.c (.i .i64 (q.getD default))], []))]
theorem e2z (L : List Lf) : bd Try.prog (d7E N) (d2a N).h 27 d2b L = c13 N (ll L 1) (fun p => some ([.c (.i .i64 p)], [])) := by kernel_rfl
theorem e7K : a0t Try.prog 27 d2b (e7J N) :=
 (d2a N).fn a0b (b6M N) fun L x hx => ((e2z N L).trans ((d7G N ..).trans (a0D x hx)))
noncomputable def e2A : a0e := ext 27 (a1b d2b (e7J N)) (d7E N)
theorem c31 : a0c Try.prog (e2A N) := a0t.to (e7K N) (b6M N)
noncomputable def e7L : List (Nat × List Nat) := [(0, [0, 1]), (1, [2, 1]), (2, [5, 1, 2]), (3, [5]), (4, [1, 2]), (5, []), (6, [2, 1]), (7, []), (8, [])]
noncomputable def e7M : a0r := []
noncomputable def d2c (N : Nat) : Sg Try.prog 0 15 := .start e7M e7L
noncomputable def c6O (v1 : LD) (v2 : Int) (k0 : Int → Option R) : Option R :=
 bnd (b9O N v1) fun y0 =>
 bif y0.isSome then
  bif ((y0.getD default) != 0) then
   k0 (y0.getD default)
  else
   bnd (bif (decide (v2 < 0)) then true else (decide (v2 ≥ (v1.length : Int)))) fun y1 =>
   bif y1 then
    k0 4
   else
    bif (inB v2 v1.length) then
     bif (((v1.getD v2.toNat (.i 0)).cell 0).toI == 1) then
      k0 7
     else
      k0 0
    else
     none
 else
  none
noncomputable def c6P (v1 : LD) (v2 : Int) : Option (Int) := c6O N v1 v2 (fun p => some p)
theorem d7H (v1 : LD) (v2 : Int) (k0 : Int → Option R) : c6O N v1 v2 k0 = (c6P N v1 v2).bind k0 := by
 unfold c6P c6O
 repeat' (first | with_reducible apply a0d | (with_reducible apply a0l; intro _) | rfl)
noncomputable def d2d : Sh := { tmps := [(0, .g ([.sl 41])), (1, .c (.i .i64))], mem := [] }
noncomputable def e7N (L : List Lf) : List (Bool × Res) := bnd (c6O N (ll L 1) (li L 2) (fun p => some p)) fun q => [(q.isSome, ([.c (.i .i64 (q.getD default))], []))]
theorem e2B (L : List Lf) : bd Try.prog (e2A N) (d2c N).h 15 d2d L = c6O N (ll L 1) (li L 2) (fun p => some ([.c (.i .i64 p)], [])) := by kernel_rfl
theorem e7O : a0t Try.prog 15 d2d (e7N N) :=
 (d2c N).fn a0b (c31 N) fun L x hx => ((e2B N L).trans ((d7H N ..).trans (a0D x hx)))
noncomputable def d2e : a0e := ext 15 (a1b d2d (e7N N)) (e2A N)
theorem b0O : a0c Try.prog (d2e N) := a0t.to (e7O N) (c31 N)
noncomputable def e7P : List (Nat × List Nat) := [(0, [0]), (1, [1, 2]), (2, [1, 3, 2]), (3, [1, 4, 3, 2]), (4, [15, 14, 13, 4, 3, 2]), (5, [13, 15, 4, 3, 14, 2]), (6, [4, 6, 3, 15, 14, 13, 2]), (7, [6, 4, 3, 7, 15, 14, 13, 2]), (8, [6, 4, 3, 7, 15, 14, 13, 2, 8]), (9, [4, 6, 3, 7, 15, 14, 13, 2]), (10, [3, 8, 7, 15, 14, 13, 4, 2]), (11, [3, 7, 15, 14, 13, 4, 2]), (12, [15, 14, 13, 4, 3, 2]), (13, [3, 2])]
noncomputable def e7Q : a0r := [(12, [2, 3, 4, 13, 14, 15], [2, 3, 11, 50003000, 50003001], [50003001, 50003000]), (29, [2, 3, 4, 6, 7, 8, 13, 14, 15, 24], [2, 3, 6, 11, 50003000, 50003001], [])]
noncomputable def d2f (N : Nat) : Sg Try.prog 0 17 := .start e7Q e7P
noncomputable def a5B (N : Nat) (w7 : Bool) (w13 : Int) (w19 : D) (k0 : LD → Option R) (k1 : Unit → Option R) : Option R :=
 bif w7 then
  bif (inB w13 16) then
   k0 [(.a [(.b (w19.cell (16 + (w13.toNat * 3))).toB), (.i (w19.cell (17 + (w13.toNat * 3))).toI), (.l (w19.cell (18 + (w13.toNat * 3))).isNil (w19.cell (18 + (w13.toNat * 3))).items)])]
  else
   none
 else
  k1 ()
noncomputable def a7K (w7 : Bool) (w13 : Int) (w19 : D) : Option (Sum (LD) (Unit)) := a5B N w7 w13 w19 (fun p => some (.inl p)) (fun p => some (.inr p))
theorem c14 (w7 : Bool) (w13 : Int) (w19 : D) (k0 : LD → Option R) (k1 : Unit → Option R) : a5B N w7 w13 w19 k0 k1 = (a7K N w7 w13 w19).bind (a1a k0 k1) := by
 unfold a7K a5B
 repeat' (first | with_reducible apply a0d | (with_reducible apply a0l; intro _) | rfl)
noncomputable def b24 : Sh := { tmps := [(2, .c (.p 2 0)), (3, .c (.p 3 0)), (4, .c (.p 11 0)), (6, .c (.p 6 0)), (7, .c (.i .i64)), (8, .c (.sl 44)), (13, .c (.sl 41)), (14, .c (.i .i64)), (15, .c (.i .i64)), (24, .c (.b))], mem := [(2, .box ([.sl 38, .sl 3])), (3, .box ([.o 50003000, .o 50003001])), (6, .box ([.i .i64, .i .i64, .i .i64, .sl 44, .sl 5])), (11, .dat 100), (50003000, .row 38 true), (50003001, .row 3 true)] }
noncomputable def b4Y (L : List Lf) (p : LD) : Ex × St := (.normal, mg (a0x b24 L) [2, 3, 4, 7, 8, 13, 14, 15] [(8, .c (.o 32))] [2, 3, 11, 32, 50003000, 50003001] [(32, .row 44 true false p)])
noncomputable def b4Z (L : List Lf) (_ : Unit) : Ex × St := (.normal, mg (a0x b24 L) [2, 3, 4, 7, 8, 13, 14, 15] [] [2, 3, 11, 50003000, 50003001] [])
noncomputable def d7I (L : List Lf) : List (Bool × (Ex × St)) := bnd (a5B N (lb L 7) (li L 13) (ld L 19) (fun p => some (.inl p)) (fun p => some (.inr p))) fun q => [((a07 q), b4Y L (a3p q)), ((a0I q).isSome, b4Z L ())]
theorem c6Q (L : List Lf) : pc Try.prog (d2e N) (d2f N).h 0 100 17 29 b24 L [2, 3, 4, 7, 8, 13, 14, 15] [2, 3, 11, 32, 50003000, 50003001] = a5B N (lb L 7) (li L 13) (ld L 19) (fun p => some (b4Y L p)) (fun _ => some (b4Z L ())) := by kernel_rfl
noncomputable def d2g : Sg Try.prog 0 17 :=
 (d2f N).cut (d7I N) a0b (b0O N) fun L x hx => (c6Q N L).trans ((c14 N ..).trans ((a3w a0D) x hx))
noncomputable def b0P (w1 : LD) (w2 : Int) (w3 : Int) (w8 : D) (w9 : Bool) (w10 : LD) (w11 : Bool) (w12 : LD) (kr : Int → D → Bool → LD → Bool → LD → Option R) (k0 : Ty2 → Option R) : Option R :=
 bif (decide (w3 < w2)) then
  bif (inB w3 w1.length) then
   bnd (c6N N ((w1.getD w3.toNat (.i 0)).cell 0).toI ((w1.getD w3.toNat (.i 0)).cell 1).toI ((w1.getD w3.toNat (.i 0)).cell 2).toI ((w1.getD w3.toNat (.i 0)).cell 3).items ((w1.getD w3.toNat (.i 0)).cell 4).items w8) fun y0 =>
   bif y0.isSome then
    bnd (a7K N (((w1.getD w3.toNat (.i 0)).cell 0).toI != 1) ((w1.getD w3.toNat (.i 0)).cell 1).toI (y0.getD default).2) fun y1 =>
    bif (a07 y1) then
     bif (decide ((w10.length + 1) * 24 ≤ a1j) && decide ((w10.length + 1) ≤ a0i)) then
      bif (decide ((w12.length + 1) * 8 ≤ a1j) && decide ((w12.length + 1) ≤ a0i)) then
       kr (IntKind.wrap .i64 (w3 + 1)) (y0.getD default).2 false (w10 ++ [(.l false (a3p y1))]) false (w12 ++ [(.i (y0.getD default).1)])
      else
       none
     else
      none
    else
     bif (a0I y1).isSome then
      bif (decide ((w10.length + 1) * 24 ≤ a1j) && decide ((w10.length + 1) ≤ a0i)) then
       bif (decide ((w12.length + 1) * 8 ≤ a1j) && decide ((w12.length + 1) ≤ a0i)) then
        kr (IntKind.wrap .i64 (w3 + 1)) (y0.getD default).2 false (w10 ++ [(.l true [])]) false (w12 ++ [(.i (y0.getD default).1)])
       else
        none
      else
       none
     else
      none
   else
    none
  else
   none
 else
  k0 (w9, w10, w11, w12)
noncomputable def a7L (N : Nat) {R : Type} (w1 : LD) (w2 : Int) : Nat → Int → D → Bool → LD → Bool → LD → (Ty2 → Option R) → Option R
 | 0, _, _, _, _, _, _, _ => none
 | m + 1, w3, w8, w9, w10, w11, w12, k0 => b0P N w1 w2 w3 w8 w9 w10 w11 w12 (fun w3 w8 w9 w10 w11 w12 => a7L N w1 w2 m w3 w8 w9 w10 w11 w12 k0) k0
noncomputable def b0Q (w1 : LD) (w2 : Int) (w3 : Int) (w8 : D) (w9 : Bool) (w10 : LD) (w11 : Bool) (w12 : LD) : Option (Ty2) := a7L N (R := (Ty2)) w1 w2 N w3 w8 w9 w10 w11 w12 (fun p => some p)
noncomputable def a7M (L x : List Lf) (kr : List Lf → Option R) (k0 : Ty2 → Option R) : Option R := b0P N (ll L 1) (li L 2) (li x 0) (ld x 1) (lb x 2) (ll x 3) (lb x 4) (ll x 5) (fun w3 w8 w9 w10 w11 w12 => kr [.i w3, .d w8, .b w9, .l w10, .b w11, .l w12]) k0
theorem b9P (L x : List Lf) (kr : List Lf → Option R) (k0 : Ty2 → Option R) : a7M N L x kr k0 = (a7M N L x (fun y => some (.inl y)) (fun p => some (.inr p))).bind (a1a kr k0) := by
 unfold a7M b0P
 repeat' (first | with_reducible apply a0d | (with_reducible apply a0l; intro _) | rfl)
noncomputable def b0R (L : List Lf) (m : Nat) (x : List Lf) : Option (Ty2) := a7L N (R := (Ty2)) (ll L 1) (li L 2) m (li x 0) (ld x 1) (lb x 2) (ll x 3) (lb x 4) (ll x 5) (fun p => some p)
noncomputable def a4Z : Sh := { tmps := [(2, .c (.p 2 0)), (3, .c (.p 3 0)), (4, .c (.p 11 0)), (13, .c (.sl 41)), (14, .c (.i .i64)), (15, .c (.i .i64))], mem := [(2, .box ([.sl 38, .sl 3])), (3, .box ([.o 50003000, .o 50003001])), (11, .dat 100), (50003000, .row 38 true), (50003001, .row 3 true)] }
noncomputable def b40 (L : List Lf) (p : Ty2) : Ex × St := ((.exit 0), mg (a0x a4Z L) [2, 3] [] [2, 3, 50003000, 50003001] [(50003000, .row 38 true p.1 p.2.1), (50003001, .row 3 true p.2.2.1 p.2.2.2)])
noncomputable def d7J (L : List Lf) : List (Bool × (Ex × St)) := bnd (b0R N L N (pk a4Z [3, 8, 9, 10, 11, 12] L)) fun q => [(q.isSome, b40 L (q.getD default))]
theorem c15 (m : Nat) (kn : St → Option (Ex × St)) (L x : List Lf) : lpB Try.prog (d2e N) (d2g N).h 0 17 12 a4Z [3, 8, 9, 10, 11, 12] [2, 3] [2, 3, 50003000, 50003001] (m + 100) kn L x = a7M N L x (fun y => kn (a0x a4Z (mx a4Z [3, 8, 9, 10, 11, 12] L y))) (fun p => some (b40 L p)) := by kernel_rfl
theorem d2h (L : List Lf) (m : Nat) (x : List Lf) : b0R N L (m + 1) x = a7M N L x (b0R N L m) some := by kernel_rfl
noncomputable def d2i : Sg Try.prog 0 17 :=
 (d2g N).lp (d7J N) N a0b (b0O N) (fun m kn L x => (c15 N m kn L x).trans (b9P N L x _ _)) (fun L m x => (d2h N L m x).trans (b9P N L x (b0R N L m) some)) fun L x hx => a0D x hx
noncomputable def c6R (v1 : LD) (k0 : Ty2 → Option R) : Option R :=
 bnd (b0Q N v1 (v1.length : Int) 0 (.a [(.b false), (.b false), (.b false), (.b false), (.b false), (.b false), (.b false), (.b false), (.b false), (.b false), (.b false), (.b false), (.b false), (.b false), (.b false), (.b false), (.b false), (.i 0), (.l true []), (.b false), (.i 0), (.l true []), (.b false), (.i 0), (.l true []), (.b false), (.i 0), (.l true []), (.b false), (.i 0), (.l true []), (.b false), (.i 0), (.l true []), (.b false), (.i 0), (.l true []), (.b false), (.i 0), (.l true []), (.b false), (.i 0), (.l true []), (.b false), (.i 0), (.l true []), (.b false), (.i 0), (.l true []), (.b false), (.i 0), (.l true []), (.b false), (.i 0), (.l true []), (.b false), (.i 0), (.l true []), (.b false), (.i 0), (.l true []), (.b false), (.i 0), (.l true []), (.i (-1))]) true [] true []) fun y0 =>
 bif y0.isSome then
  k0 (y0.getD default)
 else
  none
noncomputable def c16 (v1 : LD) : Option (Ty2) := c6R N v1 (fun p => some p)
theorem d7K (v1 : LD) (k0 : Ty2 → Option R) : c6R N v1 k0 = (c16 N v1).bind k0 := by
 unfold c16 c6R
 repeat' (first | with_reducible apply a0d | (with_reducible apply a0l; intro _) | rfl)
noncomputable def d2j : Sh := { tmps := [(0, .g ([.sl 41]))], mem := [] }
noncomputable def e7R (L : List Lf) : List (Bool × Res) := bnd (c6R N (ll L 1) (fun p => some p)) fun q => [(q.isSome, ([.g [.sl 38 (q.getD default).1 (q.getD default).2.1, .sl 3 (q.getD default).2.2.1 (q.getD default).2.2.2]], []))]
theorem e2C (L : List Lf) : bd Try.prog (d2e N) (d2i N).h 17 d2j L = c6R N (ll L 1) (fun p => some ([.g [.sl 38 p.1 p.2.1, .sl 3 p.2.2.1 p.2.2.2]], [])) := by kernel_rfl
theorem e7S : a0t Try.prog 17 d2j (e7R N) :=
 (d2i N).fn a0b (b0O N) fun L x hx => ((e2C N L).trans ((d7K N ..).trans (a0D x hx)))
noncomputable def e2D : a0e := ext 17 (a1b d2j (e7R N)) (d2e N)
theorem c32 : a0c Try.prog (e2D N) := a0t.to (e7S N) (b0O N)
noncomputable def e7T : List (Nat × List Nat) := [(0, [0]), (1, [1]), (2, [1]), (3, [1])]
noncomputable def e7U : a0r := []
noncomputable def d2k (N : Nat) : Sg Try.prog 0 48 := .start e7U e7T
noncomputable def c6S (N : Nat) (v1 v2 : Int) (k0 : Int → Option R) : Option R :=
 bif (v2 == 1) then
  bif (decide (0 ≤ (IntKind.wrap .i64 ((IntKind.wrap .i64 (8 * v1)) - 1)))) then
   bnd (IntKind.wrap .i64 (1 * 2 ^ (min (IntKind.wrap .i64 ((IntKind.wrap .i64 (8 * v1)) - 1)).toNat 64))) fun y0 =>
   k0 (IntKind.wrap .i64 (y0 - 1))
  else
   none
 else
  bif (decide (0 ≤ (IntKind.wrap .i64 (8 * v1)))) then
   bnd (IntKind.wrap .i64 (1 * 2 ^ (min (IntKind.wrap .i64 (8 * v1)).toNat 64))) fun y1 =>
   k0 (IntKind.wrap .i64 (y1 - 1))
  else
   none
noncomputable def c17 (v1 v2 : Int) : Option (Int) := c6S N v1 v2 (fun p => some p)
theorem d7L (v1 v2 : Int) (k0 : Int → Option R) : c6S N v1 v2 k0 = (c17 N v1 v2).bind k0 := by
 unfold c17 c6S
 repeat' (first | with_reducible apply a0d | (with_reducible apply a0l; intro _) | rfl)
noncomputable def d2l : Sh := { tmps := [(0, .g ([.i .i64, .i .i64, .i .i64]))], mem := [] }
noncomputable def e7V (L : List Lf) : List (Bool × Res) := bnd (c6S N (li L 1) (li L 2) (fun p => some p)) fun q => [(q.isSome, ([.c (.i .i64 (q.getD default))], []))]
theorem e2E (L : List Lf) : bd Try.prog (e2D N) (d2k N).h 48 d2l L = c6S N (li L 1) (li L 2) (fun p => some ([.c (.i .i64 p)], [])) := by kernel_rfl
theorem e7W : a0t Try.prog 48 d2l (e7V N) :=
 (d2k N).fn a0b (c32 N) fun L x hx => ((e2E N L).trans ((d7L N ..).trans (a0D x hx)))
noncomputable def c6T : a0e := ext 48 (a1b d2l (e7V N)) (e2D N)
theorem a7N : a0c Try.prog (c6T N) := a0t.to (e7W N) (c32 N)
noncomputable def e7X : List (Nat × List Nat) := [(0, [0, 1, 2]), (1, [3, 1, 6, 2]), (2, [3, 1, 7, 6, 2]), (10, [15, 1, 7, 6, 2, 3]), (13, [15, 1, 7, 6, 2, 3]), (3, [1, 2, 3, 7, 6]), (4, [8, 3, 7, 6]), (5, [7, 6]), (6, [7, 6]), (7, [3, 8, 7, 6]), (8, [8, 3, 7, 6]), (9, [8, 7, 6]), (14, [1, 7, 6]), (11, [1, 7, 6]), (12, [7, 6]), (15, [7, 6])]
noncomputable def e7Y : a0r := [(26, [3, 6, 7, 8, 36], [3, 6, 7], []), (9044, [1, 2, 3, 6, 7, 59], [3, 6, 7], []), (39035, [1, 2, 3, 6, 7, 15, 45], [3, 6, 7], [])]
noncomputable def d2m (N : Nat) : Sg Try.prog 0 39 := .start e7Y e7X
noncomputable def a7O (N : Nat) (w0 : Int) (w1 : Bool) (w3 : Int) (k0 : Int → Option R) : Option R :=
 bif w1 then
  bif (decide (0 ≤ (IntKind.wrap .i64 (8 * w3)))) then
   bnd (IntKind.wrap .i64 (1 * 2 ^ (min (IntKind.wrap .i64 (8 * w3)).toNat 64))) fun y0 =>
   k0 (IntKind.wrap .i64 (w0 - y0))
  else
   none
 else
  k0 w0
noncomputable def b6O (w0 : Int) (w1 : Bool) (w3 : Int) : Option (Int) := a7O N w0 w1 w3 (fun p => some p)
theorem c18 (w0 : Int) (w1 : Bool) (w3 : Int) (k0 : Int → Option R) : a7O N w0 w1 w3 k0 = (b6O N w0 w1 w3).bind k0 := by
 unfold b6O a7O
 repeat' (first | with_reducible apply a0d | (with_reducible apply a0l; intro _) | rfl)
noncomputable def b9Q : Sh := { tmps := [(3, .c (.p 3 0)), (6, .c (.p 6 0)), (7, .c (.p 7 0)), (8, .c (.i .i64)), (36, .c (.b))], mem := [(3, .box ([.i .i64, .i .i64, .i .i64])), (6, .box ([.i .i64, .i .i64, .i .i64, .s, .b])), (7, .box ([.i .i64, .i .i64, .i .i64, .s, .b]))] }
noncomputable def b41 (L : List Lf) (p : Int) : Ex × St := (.normal, mg (a0x b9Q L) [6, 7, 8] [(8, .c (.i .i64 p))] [6, 7] [])
noncomputable def d7M (L : List Lf) : List (Bool × (Ex × St)) := bnd (a7O N (li L 0) (lb L 1) (li L 3) (fun p => some p)) fun q => [(q.isSome, b41 L (q.getD default))]
theorem c6U (L : List Lf) : pc Try.prog (c6T N) (d2m N).h 0 100 39 26 b9Q L [6, 7, 8] [6, 7] = a7O N (li L 0) (lb L 1) (li L 3) (fun p => some (b41 L p)) := by kernel_rfl
noncomputable def d2n : Sg Try.prog 0 39 :=
 (d2m N).cut (d7M N) a0b (a7N N) fun L x hx => (c6U N L).trans ((c18 N ..).trans (a0D x hx))
noncomputable def a5C (w1 : LD) (w2 w3 : Bool) (w5 w6 w14 : Int) (w15 : LB) (k0 : Int × LB → Option R) (k1 : Unit → Option R) : Option R :=
 bif w3 then
  k0 (w14, (a9U w1))
 else
  bnd (c6M N w1 w2) fun y0 =>
  bif y0.isSome then
   bnd (c17 N w5 w6) fun y1 =>
   bif y1.isSome then
    bif ((y0.getD default) == (y1.getD default)) then
     k1 ()
    else
     bif (bif (decide (0 ≤ (IntKind.wrap .i64 ((IntKind.wrap .i64 (8 * w5)) - 1)))) then true else (!((w6 == 1) == true))) then
      bnd (bif (w6 == 1) then (decide ((y0.getD default) ≥ (IntKind.wrap .i64 (1 * 2 ^ (min (IntKind.wrap .i64 ((IntKind.wrap .i64 (8 * w5)) - 1)).toNat 64))))) else false) fun y2 =>
      bnd (b6O N (y0.getD default) y2 w5) fun y3 =>
      bif y3.isSome then
       k0 ((y3.getD default), w15)
      else
       none
     else
      none
   else
    none
  else
   none
noncomputable def a80 (w1 : LD) (w2 w3 : Bool) (w5 w6 w14 : Int) (w15 : LB) : Option (Sum (Int × LB) (Unit)) := a5C N w1 w2 w3 w5 w6 w14 w15 (fun p => some (.inl p)) (fun p => some (.inr p))
theorem b6P (w1 : LD) (w2 w3 : Bool) (w5 w6 w14 : Int) (w15 : LB) (k0 : Int × LB → Option R) (k1 : Unit → Option R) : a5C N w1 w2 w3 w5 w6 w14 w15 k0 k1 = (a80 N w1 w2 w3 w5 w6 w14 w15).bind (a1a k0 k1) := by
 unfold a80 a5C
 repeat' (first | with_reducible apply a0d | (with_reducible apply a0l; intro _) | rfl)
noncomputable def b42 (L : List Lf) (k0 : Int × LB → Option R) (k1 : Unit → Option R) : Option R := a5C N (ll L 1) (lb L 2) (lb L 3) (li L 5) (li L 6) (li L 14) (ls L 15) k0 k1
noncomputable def b25 : Sh := { tmps := [(1, .c (.sl 5)), (2, .c (.b)), (3, .c (.p 3 0)), (6, .c (.p 6 0)), (7, .c (.p 7 0)), (59, .c (.b))], mem := [(3, .box ([.i .i64, .i .i64, .i .i64])), (6, .box ([.i .i64, .i .i64, .i .i64, .s, .b])), (7, .box ([.i .i64, .i .i64, .i .i64, .s, .b]))] }
noncomputable def a9C (L : List Lf) (p : Int × LB) : Ex × St := (.normal, mg (a0x b25 L) [6, 7] [] [6, 7] [(7, .box [.i .i64 (li L 12), .i .i64 (li L 13), .i .i64 p.1, .s p.2, .b (lb L 16)])])
noncomputable def a9D (L : List Lf) (_ : Unit) : Ex × St := (.ret, ⟨[(6, .c (.p 6 0)), (7, .c (.p 7 0))], [(6, .box [.i .i64 (li L 12), .i .i64 (li L 13), .i .i64 (li L 14), .s (ls L 15), .b true]), (7, .box [.i .i64 (li L 12), .i .i64 (li L 13), .i .i64 (li L 14), .s (ls L 15), .b true])]⟩)
noncomputable def c6V (L : List Lf) : List (Bool × (Ex × St)) := bnd (b42 N L (fun p => some (.inl p)) (fun p => some (.inr p))) fun q => [((a07 q), a9C L (a3p q)), ((a0I q).isSome, a9D L ())]
theorem b9R (L : List Lf) : pc Try.prog (c6T N) (d2n N).h 0 100 39 9044 b25 L [6, 7] [6, 7] = b42 N L (fun p => some (a9C L p)) (fun _ => some (a9D L ())) := by kernel_rfl
noncomputable def d2o : Sg Try.prog 0 39 :=
 (d2n N).cut (c6V N) a0b (a7N N) fun L x hx => (b9R N L).trans ((b6P N ..).trans ((a3w a0D) x hx))
noncomputable def a4e (w1 : LD) (w2 : Bool) (w3 : Int) (w4 : Bool) (w6 w7 w15 : Int) (w16 : LB) (w17 : Bool) (k0 : Ty3 → Option R) (k1 : Unit → Option R) : Option R :=
 bif w4 then
  bnd (c6l N (a9U w1)) fun y0 =>
  bif y0.isSome then
   k0 (w15, (y0.getD default).1, ((y0.getD default).1 == ([] : List UInt8)))
  else
   none
 else
  bnd (a80 N w1 w2 (w3 == 3) w6 w7 w15 w16) fun y1 =>
  bif (a07 y1) then
   k0 ((a3p y1).1, (a3p y1).2, w17)
  else
   bif (a0I y1).isSome then
    k1 ()
   else
    none
noncomputable def a6p (w1 : LD) (w2 : Bool) (w3 : Int) (w4 : Bool) (w6 w7 w15 : Int) (w16 : LB) (w17 : Bool) : Option (Sum (Ty3) (Unit)) := a4e N w1 w2 w3 w4 w6 w7 w15 w16 w17 (fun p => some (.inl p)) (fun p => some (.inr p))
theorem b32 (w1 : LD) (w2 : Bool) (w3 : Int) (w4 : Bool) (w6 w7 w15 : Int) (w16 : LB) (w17 : Bool) (k0 : Ty3 → Option R) (k1 : Unit → Option R) : a4e N w1 w2 w3 w4 w6 w7 w15 w16 w17 k0 k1 = (a6p N w1 w2 w3 w4 w6 w7 w15 w16 w17).bind (a1a k0 k1) := by
 unfold a6p a4e
 repeat' (first | with_reducible apply a0d | (with_reducible apply a0l; intro _) | rfl)
noncomputable def b27 (L : List Lf) (k0 : Ty3 → Option R) (k1 : Unit → Option R) : Option R := a4e N (ll L 1) (lb L 2) (li L 3) (lb L 4) (li L 6) (li L 7) (li L 15) (ls L 16) (lb L 17) k0 k1
noncomputable def a9E : Sh := { tmps := [(1, .c (.sl 5)), (2, .c (.b)), (3, .c (.p 3 0)), (6, .c (.p 6 0)), (7, .c (.p 7 0)), (15, .c (.i .i64)), (45, .c (.b))], mem := [(3, .box ([.i .i64, .i .i64, .i .i64])), (6, .box ([.i .i64, .i .i64, .i .i64, .s, .b])), (7, .box ([.i .i64, .i .i64, .i .i64, .s, .b]))] }
noncomputable def a7P (L : List Lf) (p : Ty3) : Ex × St := (.normal, mg (a0x a9E L) [6, 7] [] [6, 7] [(7, .box [.i .i64 (li L 13), .i .i64 (li L 14), .i .i64 p.1, .s p.2.1, .b p.2.2])])
noncomputable def a7Q (L : List Lf) (_ : Unit) : Ex × St := (.ret, ⟨[(6, .c (.p 6 0)), (7, .c (.p 7 0))], [(6, .box [.i .i64 (li L 13), .i .i64 (li L 14), .i .i64 (li L 15), .s (ls L 16), .b true]), (7, .box [.i .i64 (li L 13), .i .i64 (li L 14), .i .i64 (li L 15), .s (ls L 16), .b true])]⟩)
noncomputable def c19 (L : List Lf) : List (Bool × (Ex × St)) := bnd (b27 N L (fun p => some (.inl p)) (fun p => some (.inr p))) fun q => [((a07 q), a7P L (a3p q)), ((a0I q).isSome, a7Q L ())]
theorem b6Q (L : List Lf) : pc Try.prog (c6T N) (d2o N).h 0 100 39 39035 a9E L [6, 7] [6, 7] = b27 N L (fun p => some (a7P L p)) (fun _ => some (a7Q L ())) := by kernel_rfl
noncomputable def d2p : Sg Try.prog 0 39 :=
 (d2o N).cut (c19 N) a0b (a7N N) fun L x hx => (b6Q N L).trans ((b32 N ..).trans ((a3w a0D) x hx))
noncomputable def d7N (v1 v2 : Int) (v4 : LD) (v5 : Bool) (k0 : Ty3 → Option R) : Option R :=
 bnd (a6p N v4 v5 v2 (v2 == 2) v1 v2 0 ([] : List UInt8) false) fun y0 =>
 bif (a07 y0) then
  k0 (a3p y0)
 else
  bif (a0I y0).isSome then
   k0 (0, ([] : List UInt8), true)
  else
   none
noncomputable def e2F (v1 v2 : Int) (v4 : LD) (v5 : Bool) : Option (Ty3) := d7N N v1 v2 v4 v5 (fun p => some p)
theorem d7O (v1 v2 : Int) (v4 : LD) (v5 : Bool) (k0 : Ty3 → Option R) : d7N N v1 v2 v4 v5 k0 = (e2F N v1 v2 v4 v5).bind k0 := by
 unfold e2F d7N
 repeat' (first | with_reducible apply a0d | (with_reducible apply a0l; intro _) | rfl)
noncomputable def e7Z (L : List Lf) (k0 : Ty3 → Option R) : Option R := d7N N (li L 1) (li L 2) (ll L 4) (lb L 5) k0
noncomputable def d2q : Sh := { tmps := [(0, .g ([.i .i64, .i .i64, .i .i64])), (1, .c (.sl 5)), (2, .c (.b))], mem := [] }
noncomputable def d2r (L : List Lf) (p : Ty3) : Res := ([.g [.i .i64 (li L 0), .i .i64 (li L 2), .i .i64 p.1, .s p.2.1, .b p.2.2]], [])
noncomputable def e70 (L : List Lf) : List (Bool × Res) := bnd (e7Z N L (fun p => some p)) fun q => [(q.isSome, d2r L (q.getD default))]
theorem e2G (L : List Lf) : bd Try.prog (c6T N) (d2p N).h 39 d2q L = e7Z N L (fun p => some (d2r L p)) := by kernel_rfl
theorem e76 : a0t Try.prog 39 d2q (e70 N) :=
 (d2p N).fn a0b (a7N N) fun L x hx => ((e2G N L).trans ((d7O N ..).trans (a0D x hx)))
noncomputable def d7P : a0e := ext 39 (a1b d2q (e70 N)) (c6T N)
theorem b6R : a0c Try.prog (d7P N) := a0t.to (e76 N) (a7N N)
noncomputable def e77 : List (Nat × List Nat) := [(0, [0, 1]), (1, [2, 3]), (2, [2, 3, 5]), (3, [2, 3, 5, 6]), (4, [15, 14, 13, 5, 3, 6, 2]), (5, [13, 15, 5, 3, 6, 2, 14]), (6, [5, 8, 3, 6, 2, 15, 14, 13]), (7, [6, 8, 15, 14, 13, 5, 3, 2]), (8, [15, 14, 13, 5, 3, 6, 2]), (9, [5])]
noncomputable def e78 : a0r := [(12, [2, 3, 5, 6, 13, 14, 15], [2, 3, 5], [5])]
noncomputable def d2s (N : Nat) : Sg Try.prog 0 16 := .start e78 e77
noncomputable def b6S (w2 : LD) (w3 : Int) (w5 : Bool) (w15 : LD) (w0 w4 : Int) (w16 : Bool) (w17 : LD) (kr : Int → Int → Bool → LD → Option R) (k0 : Bool × LD → Option R) : Option R :=
 bif (decide (w4 < w3)) then
  bif (inB w4 w2.length) then
   bnd (IntKind.wrap .i64 (w0 + ((w2.getD w4.toNat (.i 0)).cell 1).toI)) fun y0 =>
   bif (((decide (0 ≤ w0)) && (decide (w0 ≤ y0))) && (decide (y0 ≤ (w15.length : Int)))) then
    bnd (e2F N ((w2.getD w4.toNat (.i 0)).cell 1).toI ((w2.getD w4.toNat (.i 0)).cell 2).toI ((w15.take y0.toNat).drop w0.toNat) w5) fun y1 =>
    bif y1.isSome then
     bif (decide ((w17.length + 1) * 48 ≤ a1j) && decide ((w17.length + 1) ≤ a0i)) then
      bnd ((w17 ++ [(.a [(.i ((w2.getD w4.toNat (.i 0)).cell 0).toI), (.i ((w2.getD w4.toNat (.i 0)).cell 2).toI), (.i (y1.getD default).1), (.s (y1.getD default).2.1), (.b (y1.getD default).2.2)])]) : List D) fun y2 =>
      bnd (IntKind.wrap .i64 (w0 + ((w2.getD w4.toNat (.i 0)).cell 1).toI)) fun y0 =>
      kr y0 (IntKind.wrap .i64 (w4 + 1)) false y2
     else
      none
    else
     none
   else
    none
  else
   none
 else
  k0 (w16, w17)
noncomputable def b6T (N : Nat) {R : Type} (w2 : LD) (w3 : Int) (w5 : Bool) (w15 : LD) : Nat → Int → Int → Bool → LD → (Bool × LD → Option R) → Option R
 | 0, _, _, _, _, _ => none
 | m + 1, w0, w4, w16, w17, k0 => b6S N w2 w3 w5 w15 w0 w4 w16 w17 (fun w0 w4 w16 w17 => b6T N w2 w3 w5 w15 m w0 w4 w16 w17 k0) k0
noncomputable def d7Q (w2 : LD) (w3 : Int) (w5 : Bool) (w15 : LD) (w0 w4 : Int) (w16 : Bool) (w17 : LD) : Option (Bool × LD) := b6T N (R := (Bool × LD)) w2 w3 w5 w15 N w0 w4 w16 w17 (fun p => some p)
noncomputable def a7R (L x : List Lf) (kr : List Lf → Option R) (k0 : Bool × LD → Option R) : Option R := b6S N (ll L 2) (li L 3) (lb L 5) (ll L 15) (li x 0) (li x 1) (lb x 2) (ll x 3) (fun w0 w4 w16 w17 => kr [.i w0, .i w4, .b w16, .l w17]) k0
theorem b9S (L x : List Lf) (kr : List Lf → Option R) (k0 : Bool × LD → Option R) : a7R N L x kr k0 = (a7R N L x (fun y => some (.inl y)) (fun p => some (.inr p))).bind (a1a kr k0) := by
 unfold a7R b6S
 repeat' (first | with_reducible apply a0d | (with_reducible apply a0l; intro _) | rfl)
noncomputable def b0S (L : List Lf) (m : Nat) (x : List Lf) : Option (Bool × LD) := b6T N (R := (Bool × LD)) (ll L 2) (li L 3) (lb L 5) (ll L 15) m (li x 0) (li x 1) (lb x 2) (ll x 3) (fun p => some p)
noncomputable def a7S : Sh := { tmps := [(2, .c (.p 2 0)), (3, .c (.p 3 0)), (5, .c (.o 5)), (6, .c (.i .i64)), (13, .c (.sl 61)), (14, .c (.i .i64)), (15, .c (.i .i64))], mem := [(2, .box ([.b, .i .i64, .sl 61])), (3, .box ([.i .i64, .i .i64, .i .i64, .sl 44, .sl 5])), (5, .row 26 true)] }
noncomputable def d7R (L : List Lf) : List (Bool × (Ex × St)) := bnd (b0S N L N (pk a7S [0, 4, 16, 17] L)) fun q => [(q.isSome, ((.exit 0), ⟨[(5, .c (.o 5))], [(5, .row 26 true (q.getD default).1 (q.getD default).2)]⟩))]
theorem c2a (m : Nat) (kn : St → Option (Ex × St)) (L x : List Lf) : lpB Try.prog (d7P N) (d2s N).h 0 16 12 a7S [0, 4, 16, 17] [4, 5] [5] (m + 100) kn L x = a7R N L x (fun y => kn (a0x a7S (mx a7S [0, 4, 16, 17] L y))) (fun p => some ((.exit 0), ⟨[(5, .c (.o 5))], [(5, .row 26 true p.1 p.2)]⟩)) := by kernel_rfl
theorem d2t (L : List Lf) (m : Nat) (x : List Lf) : b0S N L (m + 1) x = a7R N L x (b0S N L m) some := by kernel_rfl
noncomputable def d2u : Sg Try.prog 0 16 :=
 (d2s N).lp (d7R N) N a0b (b6R N) (fun m kn L x => (c2a N m kn L x).trans (b9S N L x _ _)) (fun L m x => (d2t N L m x).trans (b9S N L x (b0S N L m) some)) fun L x hx => a0D x hx
noncomputable def d7S (v0 : Bool) (v3 : LD) (v4 : Int) (v10 : LD) (k0 : Bool × LD → Option R) : Option R :=
 bnd (b9J N v3 (v4 == 3)) fun y0 =>
 bif y0.isSome then
  bnd (d7Q N (y0.getD default).2 ((y0.getD default).2.length : Int) v0 v10 0 0 true []) fun y1 =>
  bif y1.isSome then
   k0 (y1.getD default)
  else
   none
 else
  none
noncomputable def e2H (v0 : Bool) (v3 : LD) (v4 : Int) (v10 : LD) : Option (Bool × LD) := d7S N v0 v3 v4 v10 (fun p => some p)
theorem d7T (v0 : Bool) (v3 : LD) (v4 : Int) (v10 : LD) (k0 : Bool × LD → Option R) : d7S N v0 v3 v4 v10 k0 = (e2H N v0 v3 v4 v10).bind k0 := by
 unfold e2H d7S
 repeat' (first | with_reducible apply a0d | (with_reducible apply a0l; intro _) | rfl)
noncomputable def e79 (L : List Lf) (k0 : Bool × LD → Option R) : Option R := d7S N (lb L 0) (ll L 3) (li L 4) (ll L 10) k0
noncomputable def d2v : Sh := { tmps := [(0, .g ([.b, .i .i64, .sl 61])), (1, .g ([.i .i64, .i .i64, .i .i64, .sl 44, .sl 5]))], mem := [] }
noncomputable def e8a (L : List Lf) : List (Bool × Res) := bnd (e79 N L (fun p => some p)) fun q => [(q.isSome, ([.c (.sl 26 (q.getD default).1 (q.getD default).2)], []))]
theorem e2I (L : List Lf) : bd Try.prog (d7P N) (d2u N).h 16 d2v L = e79 N L (fun p => some ([.c (.sl 26 p.1 p.2)], [])) := by kernel_rfl
theorem e8b : a0t Try.prog 16 d2v (e8a N) :=
 (d2u N).fn a0b (b6R N) fun L x hx => ((e2I N L).trans ((d7T N ..).trans (a0D x hx)))
noncomputable def e2J : a0e := ext 16 (a1b d2v (e8a N)) (d7P N)
theorem c33 : a0c Try.prog (e2J N) := a0t.to (e8b N) (b6R N)
noncomputable def f1D : List (Nat × List Nat) := [(0, [0, 1]), (1, [2, 1]), (2, [6, 2, 1]), (3, [6]), (4, [2, 1])]
noncomputable def f1E : a0r := []
noncomputable def e0g (N : Nat) : Sg Try.prog 0 6 := .start f1E f1D
noncomputable def e8c (v1 : LD) (v2 : Int) (k0 : Bool × LD × Int → Option R) : Option R :=
 bnd (c6P N v1 v2) fun y0 =>
 bif y0.isSome then
  bif ((y0.getD default) != 0) then
   k0 (true, [], (y0.getD default))
  else
   bnd (c16 N v1) fun y1 =>
   bif y1.isSome then
    bif (inB v2 (y1.getD default).2.1.length) then
     bif (inB 0 ((y1.getD default).2.1.getD v2.toNat (.i 0)).items.length) then
      bnd ((((y1.getD default).2.1.getD v2.toNat (.i 0)).items.getD 0 (.i 0)) : D) fun y2 =>
      bif (inB v2 v1.length) then
       bnd (e2H N (y2.cell 0).toB (y2.cell 2).items ((v1.getD v2.toNat (.i 0)).cell 0).toI ((v1.getD v2.toNat (.i 0)).cell 4).items) fun y3 =>
       bif y3.isSome then
        k0 ((y3.getD default).1, (y3.getD default).2, 0)
       else
        none
      else
       none
     else
      none
    else
     none
   else
    none
 else
  none
noncomputable def f2j (v1 : LD) (v2 : Int) : Option (Bool × LD × Int) := e8c N v1 v2 (fun p => some p)
theorem e2K (v1 : LD) (v2 : Int) (k0 : Bool × LD × Int → Option R) : e8c N v1 v2 k0 = (f2j N v1 v2).bind k0 := by
 unfold f2j e8c
 repeat' (first | with_reducible apply a0d | (with_reducible apply a0l; intro _) | rfl)
noncomputable def e2L : Sh := { tmps := [(0, .g ([.sl 41])), (1, .c (.i .i64))], mem := [] }
noncomputable def f2k (L : List Lf) : List (Bool × Res) := bnd (e8c N (ll L 1) (li L 2) (fun p => some p)) fun q => [(q.isSome, ([.c (.sl 26 (q.getD default).1 (q.getD default).2.1), .c (.i .i64 (q.getD default).2.2)], []))]
theorem e8d (L : List Lf) : bd Try.prog (e2J N) (e0g N).h 6 e2L L = e8c N (ll L 1) (li L 2) (fun p => some ([.c (.sl 26 p.1 p.2.1), .c (.i .i64 p.2.2)], [])) := by kernel_rfl
theorem f1F : a0t Try.prog 6 e2L (f2k N) :=
 (e0g N).fn a0b (c33 N) fun L x hx => ((e8d N L).trans ((e2K N ..).trans (a0D x hx)))
noncomputable def f2l : a0e := ext 6 (a1b e2L (f2k N)) (e2J N)
theorem e2M : a0c Try.prog (f2l N) := a0t.to (f1F N) (c33 N)

end Go.Proofs.Ytfogaejiehebeaa

set_option linter.unusedVariables false
set_option linter.unusedSimpArgs false
set_option maxRecDepth 100000
namespace Go.Proofs.Ytfogaejiehebeaa
open Go Go.AM
variable (N : Nat) {R : Type}
noncomputable def rgS : List (Nat × List Nat) := [(0, [0, 2, 1]), (1, [3, 1, 6, 5]), (2, [9, 6, 8, 3, 1, 5]), (3, [9, 6]), (4, [8, 3, 1, 5, 6]), (5, [10, 5, 6, 8, 3, 1]), (6, [11, 6, 10, 5, 8, 3, 1]), (8, [10, 11, 5, 6, 8, 3, 1]), (9, [6]), (7, [6]), (10, [10, 11, 5, 8, 6, 3, 1]), (11, [9, 6, 3, 1, 10, 11, 12]), (12, [9, 6]), (13, [3, 6, 1, 10, 11, 12]), (15, [13, 6]), (16, [14, 6, 13]), (17, [14, 6]), (18, [13, 6])]
noncomputable def hdS : a0r := [(43, [1, 6, 10, 11, 12, 13], [6, 13, Ce.R7, Ce.K7], [])]
noncomputable def sgS : Sg Try.prog 0 7 := (Sg.start hdS rgS).hand (id := 43) Ce.law43
noncomputable def F7s (v1 : LD) (v2 v3 v4 v5 : Int) (v6 : LB) (v7 : Bool) (k0 : Bool × LD × Int → Option R) : Option R :=
 bnd (c52 N v1 v2) fun y0 =>
 bif y0.isSome then
  bif ((y0.getD default).2.2.2.2.2.2.2 != 0) then
   k0 (true, [], (y0.getD default).2.2.2.2.2.2.2)
  else
   bif (inB v2 v1.length) then
    bnd (c1K N (y0.getD default).2.2.2.2.1 (y0.getD default).2.2.2.2.2.2.1 (((v1.getD v2.toNat (.i 0)).cell 0).toI == 3)) fun y1 =>
    bif y1.isSome then
     bnd (d0A N (y1.getD default).2 v3) fun y2 =>
     bif y2.isSome then
      bif (decide ((y2.getD default) < 0)) then
       k0 (true, [], 4)
      else
       bif (inB (y2.getD default) (y1.getD default).2.length) then
        bnd (((y1.getD default).2.getD (y2.getD default).toNat (.i 0)) : D) fun y3 =>
        bif ((y3.cell 2).toI != v4) then
         k0 (true, [], 7)
        else
         bif (inB (y2.getD default) (y1.getD default).2.length) then
          bnd (((y1.getD default).2.getD (y2.getD default).toNat (.i 0)) : D) fun y3 =>
          bnd (d00 N (y3.cell 1).toI (y3.cell 2).toI v5 v6 v7 (y0.getD default).2.1) fun y4 =>
          bif y4.isSome then
           bif ((y4.getD default).2.2 != 0) then
            k0 (true, [], (y4.getD default).2.2)
           else
            bnd (Ce.lpA N v1 (v1.length : Int) v2 N 0 true []) fun y5 =>
            bif y5.isSome then
             bif Ce.c43 v2 (y1.getD default).2 (y2.getD default) (y5.getD default).1 (y5.getD default).2.1 (y5.getD default).2.2.1 (y5.getD default).2.2.2 then
              bnd (Ce.xs' (y1.getD default).2 (y2.getD default) (y4.getD default).2.1 (y5.getD default).1 (y5.getD default).2.1 (y5.getD default).2.2.2) fun y7 =>
              bnd (b6k N y7) fun y6 =>
              bif y6.isSome then
               bif ((y6.getD default) != 0) then
                k0 (true, [], (y6.getD default))
               else
                k0 (false, y7, 0)
              else
               none
             else
              none
            else
             none
          else
           none
         else
          none
       else
        none
     else
      none
    else
     none
   else
    none
 else
  none
noncomputable def d2w (v1 : LD) (v2 v3 v4 v5 : Int) (v6 : LB) (v7 : Bool) : Option (Bool × LD × Int) := F7s N v1 v2 v3 v4 v5 v6 v7 (fun p => some p)
theorem f1G (v1 : LD) (v2 v3 v4 v5 : Int) (v6 : LB) (v7 : Bool) (k0 : Bool × LD × Int → Option R) : F7s N v1 v2 v3 v4 v5 v6 v7 k0 = (d2w N v1 v2 v3 v4 v5 v6 v7).bind k0 := by
 unfold d2w F7s
 repeat' (first | with_reducible apply a0d | (with_reducible apply a0l; intro _) | rfl)
noncomputable def TS (k : Int) : a0e := ext 22 (a1b Ce.sh22 (Ce.A22k N k)) (d7a N)
theorem f1H (k : Int) : a0c Try.prog (TS N k) := a0t.to (Ce.ok22k N k) (b6v N)
def e2N : Sh := { tmps := [(0, .g ([.sl 41])), (1, .c (.i .i64)), (2, .g ([.i .i64, .i .i64, .i .i64, .s, .b]))], mem := [] }
noncomputable def f2m (L : List Lf) : List (Bool × Res) := bnd (d2w N (ll L 1) (li L 2) (li L 3) (li L 4) (li L 5) (ls L 6) (lb L 7)) fun q => [(q.isSome, ([.g [.sl 41 (q.getD default).1 (q.getD default).2.1], .c (.i .i64 (q.getD default).2.2)], []))]
theorem f2O (L : List Lf) : bd Try.prog (TS N (li L 2)) sgS.h 7 e2N L = F7s N (ll L 1) (li L 2) (li L 3) (li L 4) (li L 5) (ls L 6) (lb L 7) (fun p => some ([.g [.sl 41 p.1 p.2.1], .c (.i .i64 p.2.2)], [])) := by kernel_rfl
theorem e8e : a0t Try.prog 7 e2N (f2m N) :=
 b5Z fun L x hx => b2h (n := 200) a0b (f1H N (li L 2)) sgS.ok rfl ((f2O N L).trans ((f1G N ..).trans (a0D x hx)))
end Go.Proofs.Ytfogaejiehebeaa

