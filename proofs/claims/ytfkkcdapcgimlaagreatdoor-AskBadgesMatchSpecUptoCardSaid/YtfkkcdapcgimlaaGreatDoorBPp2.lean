/- Functions of the program as plain Lean definitions, each with the proof that the program computes it. No condition. Printed by a program of the prover, part 2. -/
import Derived.Test.YtfkkcdapcgimlaaGreatDoorBPp1
import Derived.KernelRfl
set_option linter.all false
set_option maxRecDepth 100000
namespace Go.Proofs.YtfkkcdapcgimlaaGreatDoor
open Go Go.AM
noncomputable section
variable (N : Nat) {R : Type}
theorem f0n : a0L Tryz.prog 67 d6U (f0m N) :=
 (d0Q N).fn a0c (a0h N) fun L x hx => ((e6T N L).trans ((e1M N ..).trans (a08 x hx)))
def f0o : a0d := ext 67 (a2l d6U (f0m N)) (a0J N)
theorem e1N : a0a Tryz.prog (f0o N) := a0L.to (f0n N) (a0h N)
def e3T : Sh := b5i
def f0p (N : Nat) (L : List Lf) : List (Bool × Res) := b1u L
theorem f0q : a0L Tryz.prog 68 e3T (f0p N) := c3h
def d6W : a0d := ext 68 (a2l e3T (f0p N)) (f0o N)
theorem b6z : a0a Tryz.prog (d6W N) := a0L.to (f0q N) (e1N N)
def f0r : List (Nat × List Nat) := [(0, [1, 0]), (1, [1, 0]), (2, [0, 1]), (3, [0, 1, 5]), (4, [15, 14, 13, 1, 5]), (5, [13, 15, 1, 5, 14]), (6, [7, 1, 5, 15, 14, 13]), (7, [9, 5, 7, 8, 15, 14, 13, 1]), (8, [5, 7, 8, 15, 14, 13, 1]), (9, [15, 14, 13, 1, 5]), (10, [5]), (11, [5])]
def f0s : a0C := [(12, [1, 5, 13, 14, 15], [5], [5]), (26, [1, 5, 7, 8, 13, 14, 15, 25], [5, 7, 8], [])]
def d6X (N : Nat) : Sg Tryz.prog 0 36 := .start f0s f0r
def b2Z (N : Nat) (w6 : Bool) (w8 : LD) (w9 w20 : LB) (w22 : Int) (k0 : LD → Option R) (k1 : Unit → Option R) : Option R :=
 bif w6 then
  bif (decide ((w8.length + 1) * 40 ≤ b5p) && decide ((w8.length + 1) ≤ a0Q)) then
   k0 (w8 ++ [(.a [(.s w9), (.s w20), (.i w22)])])
  else
   none
 else
  k1 ()
def b6A (w6 : Bool) (w8 : LD) (w9 w20 : LB) (w22 : Int) : Option (Sum (LD) (Unit)) := b2Z N w6 w8 w9 w20 w22 (fun p => some (.inl p)) (fun p => some (.inr p))
theorem c8f (w6 : Bool) (w8 : LD) (w9 w20 : LB) (w22 : Int) (k0 : LD → Option R) (k1 : Unit → Option R) : b2Z N w6 w8 w9 w20 w22 k0 k1 = (b6A N w6 w8 w9 w20 w22).bind (a09 k0 k1) := by
 unfold b6A b2Z
 repeat' (first | with_reducible apply a0g | (with_reducible apply a0t; intro _) | rfl)
def d0R (L : List Lf) (k0 : LD → Option R) (k1 : Unit → Option R) : Option R := b2Z N (lb L 6) (ll L 8) (ls L 9) (ls L 20) (li L 22) k0 k1
def b8J : Sh := { tmps := [(1, .c (.sl 40)), (5, .c (.o 5)), (7, .c (.p 7 0)), (8, .c (.p 8 0)), (13, .c (.sl 52)), (14, .c (.i .i64)), (15, .c (.i .i64)), (25, .c (.b))], mem := [(5, .row 47 true), (7, .box (.s :: rI 7 ([.s, .sl 24]))), (8, .box (.s :: rI 6 ([.sl 9])))] }
def c0T (L : List Lf) (p : LD) : Ex × St := (.normal, mg (a0k b8J L) [1, 5, 13, 14, 15] [(5, .c (.o 35))] [35] [(35, .row 47 true false p)])
def c0U (L : List Lf) (_ : Unit) : Ex × St := (.normal, mg (a0k b8J L) [1, 5, 13, 14, 15] [] [5] [])
def e1O (L : List Lf) : List (Bool × (Ex × St)) := bnd (d0R N L (fun p => some (.inl p)) (fun p => some (.inr p))) fun q => [((a0T q), c0T L (a0H q)), ((a0l q).isSome, c0U L ())]
theorem d2K (L : List Lf) : pc Tryz.prog (d6W N) (d6X N).h 0 100 36 26 b8J L [1, 5, 13, 14, 15] [5, 35] = d0R N L (fun p => some (c0T L p)) (fun _ => some (c0U L ())) := by kernel_rfl
def d6Y : Sg Tryz.prog 0 36 :=
 (d6X N).cut (e1O N) a0c (b6z N) fun L x hx => (d2K N L).trans ((c8f N ..).trans ((a34 a08) x hx))
def a9W (w1 w3 : LD) (w4 : Int) (w5 : Int) (w6 : Bool) (w7 : LD) (kr : Int → Bool → LD → Option R) (k0 : Bool × LD → Option R) : Option R :=
 bif (decide (w5 < w4)) then
  bif (inB w5 w3.length) then
   bnd (d2J N ((w3.getD w5.toNat (.i 0)).cell 1).toI ((w3.getD w5.toNat (.i 0)).cell 2).toI ((w3.getD w5.toNat (.i 0)).cell 3).toI ((w3.getD w5.toNat (.i 0)).cell 4).toI ((w3.getD w5.toNat (.i 0)).cell 5).toI ((w3.getD w5.toNat (.i 0)).cell 6).toI ((w3.getD w5.toNat (.i 0)).cell 7).toI ((w3.getD w5.toNat (.i 0)).cell 8).toS ((w3.getD w5.toNat (.i 0)).cell 9).isNil ((w3.getD w5.toNat (.i 0)).cell 9).items w1) fun y0 =>
   bif y0.isSome then
    bnd (b6A N (y0.getD default).2.2.2.2.2.2.2.2.2 w7 ((w3.getD w5.toNat (.i 0)).cell 0).toS (y0.getD default).1 (y0.getD default).2.2.1) fun y1 =>
    bif (a0T y1) then
     kr (IntKind.wrap .i64 (w5 + 1)) false (a0H y1)
    else
     bif (a0l y1).isSome then
      kr (IntKind.wrap .i64 (w5 + 1)) w6 w7
     else
      none
   else
    none
  else
   none
 else
  k0 (w6, w7)
def b6B (N : Nat) {R : Type} (w1 w3 : LD) (w4 : Int) : Nat → Int → Bool → LD → (Bool × LD → Option R) → Option R
 | 0, _, _, _, _ => none
 | m + 1, w5, w6, w7, k0 => a9W N w1 w3 w4 w5 w6 w7 (fun w5 w6 w7 => b6B N w1 w3 w4 m w5 w6 w7 k0) k0
def c3i (w1 w3 : LD) (w4 : Int) (w5 : Int) (w6 : Bool) (w7 : LD) : Option (Bool × LD) := b6B N (R := (Bool × LD)) w1 w3 w4 N w5 w6 w7 (fun p => some p)
def b20 (L x : List Lf) (kr : List Lf → Option R) (k0 : Bool × LD → Option R) : Option R := a9W N (ll L 1) (ll L 3) (li L 4) (li x 0) (lb x 1) (ll x 2) (fun w5 w6 w7 => kr [.i w5, .b w6, .l w7]) k0
theorem c55 (L x : List Lf) (kr : List Lf → Option R) (k0 : Bool × LD → Option R) : b20 N L x kr k0 = (b20 N L x (fun y => some (.inl y)) (fun p => some (.inr p))).bind (a09 kr k0) := by
 unfold b20 a9W
 repeat' (first | with_reducible apply a0g | (with_reducible apply a0t; intro _) | rfl)
def b6C (L : List Lf) (m : Nat) (x : List Lf) : Option (Bool × LD) := b6B N (R := (Bool × LD)) (ll L 1) (ll L 3) (li L 4) m (li x 0) (lb x 1) (ll x 2) (fun p => some p)
def b21 : Sh := { tmps := [(1, .c (.sl 40)), (5, .c (.o 5)), (13, .c (.sl 52)), (14, .c (.i .i64)), (15, .c (.i .i64))], mem := [(5, .row 47 true)] }
def e1P (L : List Lf) : List (Bool × (Ex × St)) := bnd (b6C N L N (pk b21 [5, 6, 7] L)) fun q => [(q.isSome, ((.exit 0), ⟨[(5, .c (.o 5))], [(5, .row 47 true (q.getD default).1 (q.getD default).2)]⟩))]
theorem c8g (m : Nat) (kn : St → Option (Ex × St)) (L x : List Lf) : lpB Tryz.prog (d6W N) (d6Y N).h 0 36 12 b21 [5, 6, 7] [4, 5] [5] (m + 100) kn L x = b20 N L x (fun y => kn (a0k b21 (mx b21 [5, 6, 7] L y))) (fun p => some ((.exit 0), ⟨[(5, .c (.o 5))], [(5, .row 47 true p.1 p.2)]⟩)) := by kernel_rfl
theorem d6Z (L : List Lf) (m : Nat) (x : List Lf) : b6C N L (m + 1) x = b20 N L x (b6C N L m) some := by kernel_rfl
def d60 : Sg Tryz.prog 0 36 :=
 (d6Y N).lp (e1P N) N a0c (b6z N) (fun m kn L x => (c8g N m kn L x).trans (c55 N L x _ _)) (fun L m x => (d6Z N L m x).trans (c55 N L x (b6C N L m) some)) fun L x hx => a08 x hx
def d2L (v1 v3 : LD) (k0 : Bool × LD → Option R) : Option R :=
 bnd (d2B N v3) fun y0 =>
 bif y0.isSome then
  bnd (c3i N (y0.getD default).2 v1 (v1.length : Int) 0 true []) fun y1 =>
  bif y1.isSome then
   bif (a4n (y1.getD default).2) then
    k0 ((y1.getD default).1, (a3v (y1.getD default).2))
   else
    none
  else
   none
 else
  none
def d61 (v1 v3 : LD) : Option (Bool × LD) := d2L N v1 v3 (fun p => some p)
theorem e1Q (v1 v3 : LD) (k0 : Bool × LD → Option R) : d2L N v1 v3 k0 = (d61 N v1 v3).bind k0 := by
 unfold d61 d2L
 repeat' (first | with_reducible apply a0g | (with_reducible apply a0t; intro _) | rfl)
def d62 : Sh := { tmps := [(0, .c (.sl 52)), (1, .c (.sl 40))], mem := [] }
def f0t (L : List Lf) : List (Bool × Res) := bnd (d2L N (ll L 1) (ll L 3) (fun p => some p)) fun q => [(q.isSome, ([.c (.sl 47 (q.getD default).1 (q.getD default).2)], []))]
theorem e6U (L : List Lf) : bd Tryz.prog (d6W N) (d60 N).h 36 d62 L = d2L N (ll L 1) (ll L 3) (fun p => some ([.c (.sl 47 p.1 p.2)], [])) := by kernel_rfl
theorem f0u : a0L Tryz.prog 36 d62 (f0t N) :=
 (d60 N).fn a0c (b6z N) fun L x hx => ((e6U N L).trans ((e1Q N ..).trans (a08 x hx)))
def e6V : a0d := ext 36 (a2l d62 (f0t N)) (d6W N)
theorem d0S : a0a Tryz.prog (e6V N) := a0L.to (f0u N) (b6z N)
def f0v : List (Nat × List Nat) := [(0, [0, 1]), (1, [0, 1]), (2, [6, 0, 1]), (3, [6]), (4, [0, 1])]
def f0w : a0C := []
def d63 (N : Nat) : Sg Tryz.prog 0 15 := .start f0w f0v
def d2M (v1 v3 : LD) (k0 : Bool × LD × Int → Option R) : Option R :=
 bnd (d5v N v1) fun y0 =>
 bif y0.isSome then
  bnd (d5J N v3) fun y1 =>
  bif y1.isSome then
   bnd (d5O N [(.i (y0.getD default)), (.i (y1.getD default))]) fun y2 =>
   bif y2.isSome then
    bif ((y2.getD default) != 0) then
     k0 (true, [], (y2.getD default))
    else
     bnd (d61 N v1 v3) fun y3 =>
     bif y3.isSome then
      k0 ((y3.getD default).1, (y3.getD default).2, 0)
     else
      none
   else
    none
  else
   none
 else
  none
def d64 (v1 v3 : LD) : Option (Bool × LD × Int) := d2M N v1 v3 (fun p => some p)
theorem e1R (v1 v3 : LD) (k0 : Bool × LD × Int → Option R) : d2M N v1 v3 k0 = (d64 N v1 v3).bind k0 := by
 unfold d64 d2M
 repeat' (first | with_reducible apply a0g | (with_reducible apply a0t; intro _) | rfl)
def d65 : Sh := { tmps := [(0, .c (.sl 52)), (1, .c (.sl 40))], mem := [] }
def f0x (L : List Lf) : List (Bool × Res) := bnd (d2M N (ll L 1) (ll L 3) (fun p => some p)) fun q => [(q.isSome, ([.c (.sl 47 (q.getD default).1 (q.getD default).2.1), .c (.i .i64 (q.getD default).2.2)], []))]
theorem e6W (L : List Lf) : bd Tryz.prog (e6V N) (d63 N).h 15 d65 L = d2M N (ll L 1) (ll L 3) (fun p => some ([.c (.sl 47 p.1 p.2.1), .c (.i .i64 p.2.2)], [])) := by kernel_rfl
theorem f0y : a0L Tryz.prog 15 d65 (f0x N) :=
 (d63 N).fn a0c (d0S N) fun L x hx => ((e6W N L).trans ((e1R N ..).trans (a08 x hx)))
def e1S : a0d := ext 15 (a2l d65 (f0x N)) (e6V N)
theorem c3j : a0a Tryz.prog (e1S N) := a0L.to (f0y N) (d0S N)
def f0z : List (Nat × List Nat) := [(0, [0]), (1, [0]), (2, [3, 0]), (4, [0, 3]), (5, [4, 3, 0]), (6, []), (3, [3, 0]), (7, [0])]
def f0A : a0C := [(6, [0, 3], [], [])]
def d66 (N : Nat) : Sg Tryz.prog 0 40 := .start f0A f0z
def b4s (N : Nat) (w0 : LB) (w1 : Int) (kr : Int → Option R) (k0 : Unit → Option R) (k1 : Unit → Option R) : Option R :=
 bif (decide (w1 < (w0.length : Int))) then
  bif (inB w1 w0.length) then
   bnd (bif (decide (((w0.getD w1.toNat 0).toNat : Int) ≥ 97)) then (decide (((w0.getD w1.toNat 0).toNat : Int) ≤ 122)) else false) fun y0 =>
   bnd (bif y0 then true else (bif (decide (((w0.getD w1.toNat 0).toNat : Int) ≥ 65)) then (decide (((w0.getD w1.toNat 0).toNat : Int) ≤ 90)) else false)) fun y1 =>
   bnd (bif y1 then true else (bif (decide (((w0.getD w1.toNat 0).toNat : Int) ≥ 48)) then (decide (((w0.getD w1.toNat 0).toNat : Int) ≤ 57)) else false)) fun y2 =>
   bnd (bif y2 then true else (((w0.getD w1.toNat 0).toNat : Int) == 45)) fun y3 =>
   bnd (bif y3 then true else (((w0.getD w1.toNat 0).toNat : Int) == 95)) fun y4 =>
   bnd (bif y4 then true else (((w0.getD w1.toNat 0).toNat : Int) == 46)) fun y5 =>
   bif (!y5) then
    k0 ()
   else
    kr (IntKind.wrap .i64 (w1 + 1))
  else
   none
 else
  k1 ()
def c3k (N : Nat) {R : Type} (w0 : LB) : Nat → Int → (Unit → Option R) → (Unit → Option R) → Option R
 | 0, _, _, _ => none
 | m + 1, w1, k0, k1 => b4s N w0 w1 (fun w1 => c3k N w0 m w1 k0 k1) k0 k1
def c8h (w0 : LB) (w1 : Int) : Option (Sum (Unit) (Unit)) := c3k N (R := (Sum (Unit) (Unit))) w0 N w1 (fun p => some (.inl p)) (fun p => some (.inr p))
def b8K (L x : List Lf) (kr : List Lf → Option R) (k0 : Unit → Option R) (k1 : Unit → Option R) : Option R := b4s N (ls L 0) (li x 0) (fun w1 => kr [.i w1]) k0 k1
theorem d0T (L x : List Lf) (kr : List Lf → Option R) (k0 : Unit → Option R) (k1 : Unit → Option R) : b8K N L x kr k0 k1 = (b8K N L x (fun y => some (.inl y)) (fun p => some (.inr (.inl p))) (fun p => some (.inr (.inr p)))).bind (a09 kr (a09 k0 k1)) := by
 unfold b8K b4s
 repeat' (first | with_reducible apply a0g | (with_reducible apply a0t; intro _) | rfl)
def c3l (L : List Lf) (m : Nat) (x : List Lf) : Option (Sum (Unit) (Unit)) := c3k N (R := (Sum (Unit) (Unit))) (ls L 0) m (li x 0) (fun p => some (.inl p)) (fun p => some (.inr p))
def b6D : Sh := { tmps := [(0, .c (.s)), (3, .c (.i .i64))], mem := [] }
def e6X (L : List Lf) : List (Bool × (Ex × St)) := bnd (c3l N L N (pk b6D [1] L)) fun q => [((a0T q), (.ret, ⟨[(2, .c (.b false))], []⟩)), ((a0l q).isSome, ((.exit 0), ⟨[(0, .c (.s (ls L 0)))], []⟩))]
theorem d2N (m : Nat) (kn : St → Option (Ex × St)) (L x : List Lf) : lpB Tryz.prog (e1S N) (d66 N).h 0 40 6 b6D [1] [0, 2] [] (m + 100) kn L x = b8K N L x (fun y => kn (a0k b6D (mx b6D [1] L y))) (fun _ => some (.ret, ⟨[(2, .c (.b false))], []⟩)) (fun _ => some ((.exit 0), ⟨[(0, .c (.s (ls L 0)))], []⟩)) := by kernel_rfl
theorem e1T (L : List Lf) (m : Nat) (x : List Lf) : c3l N L (m + 1) x = b8K N L x (c3l N L m) (fun p => some (.inl p)) (fun p => some (.inr p)) := by kernel_rfl
def d67 : Sg Tryz.prog 0 40 :=
 (d66 N).lp (e6X N) N a0c (c3j N) (fun m kn L x => (d2N N m kn L x).trans (d0T N L x _ _ _)) (fun L m x => (e1T N L m x).trans (d0T N L x (c3l N L m) (fun p => some (.inl p)) (fun p => some (.inr p)))) fun L x hx => (a34 a08) x hx
def d2O (v0 : LB) (k0 : Bool → Option R) : Option R :=
 bnd (c8h N v0 0) fun y0 =>
 bif (a0T y0) then
  k0 false
 else
  bif (a0l y0).isSome then
   bnd (bif (decide ((v0.length : Int) ≥ 1)) then (decide ((v0.length : Int) ≤ 60)) else false) fun y1 =>
   k0 y1
  else
   none
def c56 (v0 : LB) : Option (Bool) := d2O N v0 (fun p => some p)
theorem e1U (v0 : LB) (k0 : Bool → Option R) : d2O N v0 k0 = (c56 N v0).bind k0 := by
 unfold c56 d2O
 repeat' (first | with_reducible apply a0g | (with_reducible apply a0t; intro _) | rfl)
def d68 : Sh := { tmps := [(0, .c (.s))], mem := [] }
def f0B (L : List Lf) : List (Bool × Res) := bnd (d2O N (ls L 0) (fun p => some p)) fun q => [(q.isSome, ([.c (.b (q.getD default))], []))]
theorem e6Y (L : List Lf) : bd Tryz.prog (e1S N) (d67 N).h 40 d68 L = d2O N (ls L 0) (fun p => some ([.c (.b p)], [])) := by kernel_rfl
theorem f0C : a0L Tryz.prog 40 d68 (f0B N) :=
 (d67 N).fn a0c (c3j N) fun L x hx => ((e6Y N L).trans ((e1U N ..).trans (a08 x hx)))
def e6Z : a0d := ext 40 (a2l d68 (f0B N)) (e1S N)
theorem d0U : a0a Tryz.prog (e6Z N) := a0L.to (f0C N) (c3j N)
def f0D : List (Nat × List Nat) := [(0, [0, 1, 2]), (1, [0, 1, 2])]
def f0E : a0C := []
def d69 (N : Nat) : Sg Tryz.prog 0 31 := .start f0E f0D
def d2P (N : Nat) (v0 v1 v2 : Int) (k0 : Bool → R) : R :=
 k0 (bif (decide (v0 < v1)) then true else (decide (v0 > v2)))
def a9b (v0 v1 v2 : Int) : Bool := d2P N v0 v1 v2 (fun p => p)
theorem e60 (v0 v1 v2 : Int) (k0 : Bool → R) : d2P N v0 v1 v2 k0 = k0 (a9b N v0 v1 v2) := by
 unfold a9b d2P
 repeat' (first | rfl | apply a0n | (apply a0A; intro _))
def d7a : Sh := { tmps := [(0, .c (.i .i64)), (1, .c (.i .i64)), (2, .c (.i .i64))], mem := [] }
def f0F (L : List Lf) : List (Bool × Res) := bnd (d2P N (li L 0) (li L 1) (li L 2) (fun p => p)) fun q => [(true, ([.c (.b q)], []))]
theorem e61 (L : List Lf) : bd Tryz.prog (e6Z N) (d69 N).h 31 d7a L = d2P N (li L 0) (li L 1) (li L 2) (fun p => some ([.c (.b p)], [])) := by kernel_rfl
theorem f0G : a0L Tryz.prog 31 d7a (f0F N) :=
 (d69 N).fn a0c (d0U N) fun L x hx => ((e61 N L).trans ((e60 N ..).trans (a2h _ _ hx)))
def f0H : a0d := ext 31 (a2l d7a (f0F N)) (e6Z N)
theorem d0V : a0a Tryz.prog (f0H N) := a0L.to (f0G N) (d0U N)
abbrev a3E : Type := Int → Int → Int → Int → LB → Bool → LD → Int → Option (Int)
def d0W : Sh := { tmps := [(0, .g (.i .i64 :: [.i .i64, .i .i64, .i .i64, .s, .sl 24])), (1, .c (.i .i64))], mem := [] }
def f0I (N : Nat) (rc56x1 : a3E) (L : List Lf) : List (Bool × Res) := bnd (rc56x1 (li L 0) (li L 1) (li L 2) (li L 3) (ls L 4) (lb L 5) (ll L 6) (li L 7)) fun q => [(q.isSome, ([.c (.i .i64 (q.getD default))], []))]
def c3m (rc56x1 : a3E) : a0d := ext 56 (a2l d0W ((f0I N) rc56x1)) (f0H N)
def f0J : List (Nat × List Nat) := [(0, [0, 1]), (1, [2, 1]), (2, [2, 5, 1]), (3, [11, 10, 9, 5, 1]), (4, [9, 11, 5, 1, 10]), (5, [5, 1, 7, 11, 10, 9]), (6, [1]), (7, [5, 7, 1, 11, 10, 9]), (8, [11, 10, 9, 5, 1]), (9, [5])]
def f0K : a0C := [(9, [1, 5, 9, 10, 11], [], [])]
def d7b (rc56x1 : a3E) (hR56x1 : a0a Tryz.prog ((c3m N) rc56x1)) : Sg Tryz.prog 0 56 := .start f0K f0J
def b4t (N : Nat) (rc56x1 : a3E) (w0 : Int) (w3 : LD) (w4 : Int) (w1 w5 : Int) (kr : Int → Int → Option R) (k0 : Unit → Option R) (k1 : Int → Option R) : Option R :=
 bif (decide (w5 < w4)) then
  bif (inB w5 w3.length) then
   bif (decide (w1 ≥ w0)) then
    k0 ()
   else
    bnd (rc56x1 ((w3.getD w5.toNat (.i 0)).cell 0).toI ((w3.getD w5.toNat (.i 0)).cell 1).toI ((w3.getD w5.toNat (.i 0)).cell 2).toI ((w3.getD w5.toNat (.i 0)).cell 3).toI ((w3.getD w5.toNat (.i 0)).cell 4).toS ((w3.getD w5.toNat (.i 0)).cell 5).isNil ((w3.getD w5.toNat (.i 0)).cell 5).items (IntKind.wrap .i64 (w0 - w1))) fun y0 =>
    bif y0.isSome then
     kr (IntKind.wrap .i64 (w1 + (y0.getD default))) (IntKind.wrap .i64 (w5 + 1))
    else
     none
  else
   none
 else
  k1 w1
def c3n (N : Nat) (rc56x1 : a3E) {R : Type} (w0 : Int) (w3 : LD) (w4 : Int) : Nat → Int → Int → (Unit → Option R) → (Int → Option R) → Option R
 | 0, _, _, _, _ => none
 | m + 1, w1, w5, k0, k1 => b4t N rc56x1 w0 w3 w4 w1 w5 (fun w1 w5 => c3n N rc56x1 w0 w3 w4 m w1 w5 k0 k1) k0 k1
def c8i (rc56x1 : a3E) (w0 : Int) (w3 : LD) (w4 : Int) (w1 w5 : Int) : Option (Sum (Unit) (Int)) := c3n N rc56x1 (R := (Sum (Unit) (Int))) w0 w3 w4 N w1 w5 (fun p => some (.inl p)) (fun p => some (.inr p))
def b8L (rc56x1 : a3E) (L x : List Lf) (kr : List Lf → Option R) (k0 : Unit → Option R) (k1 : Int → Option R) : Option R := b4t N rc56x1 (li L 0) (ll L 3) (li L 4) (li x 0) (li x 1) (fun w1 w5 => kr [.i w1, .i w5]) k0 k1
theorem d0X (rc56x1 : a3E) (L x : List Lf) (kr : List Lf → Option R) (k0 : Unit → Option R) (k1 : Int → Option R) : b8L N rc56x1 L x kr k0 k1 = (b8L N rc56x1 L x (fun y => some (.inl y)) (fun p => some (.inr (.inl p))) (fun p => some (.inr (.inr p)))).bind (a09 kr (a09 k0 k1)) := by
 unfold b8L b4t
 repeat' (first | with_reducible apply a0g | (with_reducible apply a0t; intro _) | rfl)
def c3o (rc56x1 : a3E) (L : List Lf) (m : Nat) (x : List Lf) : Option (Sum (Unit) (Int)) := c3n N rc56x1 (R := (Sum (Unit) (Int))) (li L 0) (ll L 3) (li L 4) m (li x 0) (li x 1) (fun p => some (.inl p)) (fun p => some (.inr p))
def b6E : Sh := { tmps := [(1, .c (.i .i64)), (5, .c (.i .i64)), (9, .c (.sl 24)), (10, .c (.i .i64)), (11, .c (.i .i64))], mem := [] }
def e62 (rc56x1 : a3E) (L : List Lf) : List (Bool × (Ex × St)) := bnd (c3o N rc56x1 L N (pk b6E [1, 5] L)) fun q => [((a0T q), (.ret, ⟨[(4, .c (.i .i64 (li L 0)))], []⟩)), ((a0l q).isSome, ((.exit 0), ⟨[(5, .c (.i .i64 ((a0l q).getD default)))], []⟩))]
theorem d2Q (rc56x1 : a3E) (hR56x1 : a0a Tryz.prog ((c3m N) rc56x1)) (m : Nat) (kn : St → Option (Ex × St)) (L x : List Lf) : lpB Tryz.prog ((c3m N) rc56x1) ((d7b N) rc56x1 hR56x1).h 0 56 9 b6E [1, 5] [4, 5] [] (m + 100) kn L x = b8L N rc56x1 L x (fun y => kn (a0k b6E (mx b6E [1, 5] L y))) (fun _ => some (.ret, ⟨[(4, .c (.i .i64 (li L 0)))], []⟩)) (fun p => some ((.exit 0), ⟨[(5, .c (.i .i64 p))], []⟩)) := by kernel_rfl
theorem e1V (rc56x1 : a3E) (L : List Lf) (m : Nat) (x : List Lf) : c3o N rc56x1 L (m + 1) x = b8L N rc56x1 L x (c3o N rc56x1 L m) (fun p => some (.inl p)) (fun p => some (.inr p)) := by kernel_rfl
def d7c (rc56x1 : a3E) (hR56x1 : a0a Tryz.prog ((c3m N) rc56x1)) : Sg Tryz.prog 0 56 :=
 ((d7b N) rc56x1 hR56x1).lp ((e62 N) rc56x1) N a0c hR56x1 (fun m kn L x => (d2Q N rc56x1 hR56x1 m kn L x).trans (d0X N rc56x1 L x _ _ _)) (fun L m x => (e1V N rc56x1 L m x).trans (d0X N rc56x1 L x (c3o N rc56x1 L m) (fun p => some (.inl p)) (fun p => some (.inr p)))) fun L x hx => (a34 a08) x hx
def d7d (rc56x1 : a3E) (v0 v1 v2 v3 : Int) (v4 : LB) (v5 : Bool) (v6 : LD) (v7 : Int) (k0 : Int → Option R) : Option R :=
 bnd (c8i N rc56x1 v7 v6 (v6.length : Int) 1 0) fun y0 =>
 bif (a0T y0) then
  k0 v7
 else
  bif (a0l y0).isSome then
   k0 ((a0l y0).getD default)
  else
   none
def d2R (rc56x1 : a3E) (v0 v1 v2 v3 : Int) (v4 : LB) (v5 : Bool) (v6 : LD) (v7 : Int) : Option (Int) := d7d N rc56x1 v0 v1 v2 v3 v4 v5 v6 v7 (fun p => some p)
theorem e1W (rc56x1 : a3E) (v0 v1 v2 v3 : Int) (v4 : LB) (v5 : Bool) (v6 : LD) (v7 : Int) (k0 : Int → Option R) : d7d N rc56x1 v0 v1 v2 v3 v4 v5 v6 v7 k0 = (d2R N rc56x1 v0 v1 v2 v3 v4 v5 v6 v7).bind k0 := by
 unfold d2R d7d
 repeat' (first | with_reducible apply a0g | (with_reducible apply a0t; intro _) | rfl)
def f3p (rc56x1 : a3E) (L : List Lf) (k0 : Int → Option R) : Option R := d7d N rc56x1 (li L 0) (li L 1) (li L 2) (li L 3) (ls L 4) (lb L 5) (ll L 6) (li L 7) k0
theorem e63 (rc56x1 : a3E) (hR56x1 : a0a Tryz.prog ((c3m N) rc56x1)) (L : List Lf) : bd Tryz.prog ((c3m N) rc56x1) ((d7c N) rc56x1 hR56x1).h 56 d0W L = f3p N rc56x1 L (fun p => some ([.c (.i .i64 p)], [])) := by kernel_rfl
theorem e64 (rc56x1 : a3E) (hR56x1 : a0a Tryz.prog ((c3m N) rc56x1)) (L : List Lf) (x : Res) (hx : a4Z ((f0I N) (fun v0 v1 v2 v3 v4 v5 v6 v7 => d2R N rc56x1 v0 v1 v2 v3 v4 v5 v6 v7) L) some = some x) : a1u Tryz.prog 56 (a5z (a0k d0W L).tmps) (a0k d0W L).mem x :=
 a3c (n := 200) a0c hR56x1 ((d7c N) rc56x1 hR56x1).ok rfl ((e63 N rc56x1 hR56x1 L).trans ((e1W N rc56x1 ..).trans (a08 x hx)))
def b9y (N : Nat) : Nat → a3E
 | 0 => fun _ _ _ _ _ _ _ _ => none
 | m + 1 => fun v0 v1 v2 v3 v4 v5 v6 v7 => d2R N (b9y N m) v0 v1 v2 v3 v4 v5 v6 v7
theorem d7e (N : Nat) : ∀ m, a0a Tryz.prog ((c3m N) (b9y N m))
 | 0 => a0M (d0V N) (AM.enters_of (by kernel_rfl)) (a04 fun L x hx => by
  have h : (none : Option Res) = some x := hx
  cases h)
 | m + 1 => a0M (d0V N) (AM.enters_of (by kernel_rfl)) (a04 fun L x hx => e64 N (b9y N m) (d7e N m) L x hx)
def e65 : a0d := (c3m N) (b9y N N)
theorem d0Y : a0a Tryz.prog (e65 N) := d7e N N
def f0L : List (Nat × List Nat) := [(0, [0]), (1, [0])]
def f0M : a0C := []
def d7f (N : Nat) : Sg Tryz.prog 0 32 := .start f0M f0L
def d2S (N : Nat) (v0 : Int) (k0 : Bool → R) : R :=
 k0 (bif (decide (v0 ≥ 1)) then (decide (v0 ≤ 7)) else false)
def c8j (v0 : Int) : Bool := d2S N v0 (fun p => p)
theorem e66 (v0 : Int) (k0 : Bool → R) : d2S N v0 k0 = k0 (c8j N v0) := by
 unfold c8j d2S
 repeat' (first | rfl | apply a0n | (apply a0A; intro _))
def d7g : Sh := { tmps := [(0, .c (.i .i64))], mem := [] }
def f0N (L : List Lf) : List (Bool × Res) := bnd (d2S N (li L 0) (fun p => p)) fun q => [(true, ([.c (.b q)], []))]
theorem e67 (L : List Lf) : bd Tryz.prog (e65 N) (d7f N).h 32 d7g L = d2S N (li L 0) (fun p => some ([.c (.b p)], [])) := by kernel_rfl
theorem f0O : a0L Tryz.prog 32 d7g (f0N N) :=
 (d7f N).fn a0c (d0Y N) fun L x hx => ((e67 N L).trans ((e66 N ..).trans (a2h _ _ hx)))
def c3p : a0d := ext 32 (a2l d7g (f0N N)) (e65 N)
theorem a6E : a0a Tryz.prog (c3p N) := a0L.to (f0O N) (d0Y N)
def f0P : List (Nat × List Nat) := [(0, [0]), (1, [1]), (2, []), (3, [1]), (4, [1, 3]), (5, [12, 1, 3]), (9, [12, 1, 3]), (13, [12, 1, 3]), (22, [12, 1, 3]), (23, [1, 3]), (24, []), (25, [1, 3]), (26, []), (27, [1, 3]), (14, [1, 3]), (15, [4, 1, 3]), (17, [1, 4, 3]), (18, []), (16, [4, 1, 3]), (19, [1, 3]), (20, []), (21, [1, 3]), (10, [1, 3]), (11, []), (12, [1, 3]), (6, [1, 3]), (7, []), (8, [1, 3]), (28, [1, 3]), (29, []), (30, [1]), (31, []), (32, [])]
def f0Q : a0C := [(45, [1, 3, 4], [1, 3], []), (76, [1, 3], [1, 3], []), (71, [1, 3, 58], [1, 3], []), (66044, [1, 3, 12, 30], [1, 3], []), (39032, [1, 3, 12, 21], [1, 3], []), (27020, [1, 3, 12, 13], [1, 3], [])]
def d7h (N : Nat) : Sg Tryz.prog 0 88 := .start f0Q f0P
def a9X (w5 : LB) (w0 : Int) (kr : Int → Option R) (k0 : Unit → Option R) (k1 : Unit → Option R) : Option R :=
 bif (decide (w0 < (w5.length : Int))) then
  bif (inB w0 w5.length) then
   bnd (a9b N (IntKind.wrap .i64 ((w5.getD w0.toNat 0).toNat : Int)) 32 126) fun y0 =>
   bif y0 then
    k0 ()
   else
    kr (IntKind.wrap .i64 (w0 + 1))
  else
   none
 else
  k1 ()
def b6F (N : Nat) {R : Type} (w5 : LB) : Nat → Int → (Unit → Option R) → (Unit → Option R) → Option R
 | 0, _, _, _ => none
 | m + 1, w0, k0, k1 => a9X N w5 w0 (fun w0 => b6F N w5 m w0 k0 k1) k0 k1
def c3q (w5 : LB) (w0 : Int) : Option (Sum (Unit) (Unit)) := b6F N (R := (Sum (Unit) (Unit))) w5 N w0 (fun p => some (.inl p)) (fun p => some (.inr p))
def b22 (L x : List Lf) (kr : List Lf → Option R) (k0 : Unit → Option R) (k1 : Unit → Option R) : Option R := a9X N (ls L 5) (li x 0) (fun w0 => kr [.i w0]) k0 k1
theorem c57 (L x : List Lf) (kr : List Lf → Option R) (k0 : Unit → Option R) (k1 : Unit → Option R) : b22 N L x kr k0 k1 = (b22 N L x (fun y => some (.inl y)) (fun p => some (.inr (.inl p))) (fun p => some (.inr (.inr p)))).bind (a09 kr (a09 k0 k1)) := by
 unfold b22 a9X
 repeat' (first | with_reducible apply a0g | (with_reducible apply a0t; intro _) | rfl)
def b6G (L : List Lf) (m : Nat) (x : List Lf) : Option (Sum (Unit) (Unit)) := b6F N (R := (Sum (Unit) (Unit))) (ls L 5) m (li x 0) (fun p => some (.inl p)) (fun p => some (.inr p))
def a5V : Sh := { tmps := [(1, .c (.p 1 0)), (3, .c (.p 3 0)), (4, .c (.i .i64))], mem := [(1, .box (.i .i64 :: [.i .i64, .i .i64, .i .i64, .s, .sl 24])), (3, .box (.i .i64 :: [.i .i64, .i .i64, .i .i64, .s, .sl 24]))] }
def c0V (L : List Lf) (_ : Unit) : Ex × St := (.ret, mg (a0k a5V L) [2] [(2, .c (.i .i64 2))] [1, 3] [])
def e1X (L : List Lf) : List (Bool × (Ex × St)) := bnd (b6G N L N (pk a5V [0] L)) fun q => [((a0T q), c0V L ()), ((a0l q).isSome, ((.exit 1), mg (a0k a5V L) [1, 3] [] [1, 3] []))]
theorem c8k (m : Nat) (kn : St → Option (Ex × St)) (L x : List Lf) : lpB Tryz.prog (c3p N) (d7h N).h 0 88 45 a5V [0] [1, 2, 3] [1, 3] (m + 100) kn L x = b22 N L x (fun y => kn (a0k a5V (mx a5V [0] L y))) (fun _ => some (c0V L ())) (fun _ => some ((.exit 1), mg (a0k a5V L) [1, 3] [] [1, 3] [])) := by kernel_rfl
theorem d7i (L : List Lf) (m : Nat) (x : List Lf) : b6G N L (m + 1) x = b22 N L x (b6G N L m) (fun p => some (.inl p)) (fun p => some (.inr p)) := by kernel_rfl
def d7j : Sg Tryz.prog 0 88 :=
 (d7h N).lp (e1X N) N a0c (a6E N) (fun m kn L x => (c8k N m kn L x).trans (c57 N L x _ _ _)) (fun L m x => (d7i N L m x).trans (c57 N L x (b6G N L m) (fun p => some (.inl p)) (fun p => some (.inr p)))) fun L x hx => (a34 a08) x hx
def a9Y (w2 w3 : Int) (k0 : Bool → R) : R :=
 bnd (a9b N w2 (-1000000000000000) 1000000000000000) fun y0 =>
 bif y0 then
  k0 true
 else
  bnd (a9b N w3 (-1000000000000000) 1000000000000000) fun y1 =>
  k0 (bif y1 then true else (decide (w2 > w3)))
def b23 (w2 w3 : Int) : Bool := a9Y N w2 w3 (fun p => p)
theorem d2T (w2 w3 : Int) (k0 : Bool → R) : a9Y N w2 w3 k0 = k0 (b23 N w2 w3) := by
 unfold b23 a9Y
 repeat' (first | rfl | apply a0n | (apply a0A; intro _))
def c58 : Sh := { tmps := [(1, .c (.p 1 0)), (3, .c (.p 3 0))], mem := [(1, .box (.i .i64 :: [.i .i64, .i .i64, .i .i64, .s, .sl 24])), (3, .box (.i .i64 :: [.i .i64, .i .i64, .i .i64, .s, .sl 24]))] }
def c0W (L : List Lf) (p : Bool) : Ex × St := (.normal, mg (a0k c58 L) [1, 3, 78] [(78, .c (.b p))] [1, 3] [])
def e1Y (L : List Lf) : List (Bool × (Ex × St)) := bnd (a9Y N (li L 2) (li L 3) (fun p => p)) fun q => [(true, c0W L q)]
theorem d2U (L : List Lf) : pc Tryz.prog (c3p N) (d7j N).h 0 100 88 76 c58 L [1, 3, 78] [1, 3] = a9Y N (li L 2) (li L 3) (fun p => some (c0W L p)) := by kernel_rfl
def d7k : Sg Tryz.prog 0 88 :=
 (d7j N).cut (e1Y N) a0c (a6E N) fun L x hx => (d2U N L).trans ((d2T N ..).trans (a2h _ _ hx))
def b24 (w0 : Bool) (w2 w3 w4 w9 w10 w11 : Int) (k0 : Int → Option R) (k1 : Int × Int × Int → Option R) : Option R :=
 bif w0 then
  bnd (c8j N w2) fun y0 =>
  bif (!y0) then
   k0 7
  else
   bnd (b23 N w3 w4) fun y1 =>
   bif y1 then
    k0 9
   else
    k1 (w2, w3, w4)
 else
  k1 (w9, w10, w11)
def b6H (w0 : Bool) (w2 w3 w4 w9 w10 w11 : Int) : Option (Sum (Int) (Int × Int × Int)) := b24 N w0 w2 w3 w4 w9 w10 w11 (fun p => some (.inl p)) (fun p => some (.inr p))
theorem c8l (w0 : Bool) (w2 w3 w4 w9 w10 w11 : Int) (k0 : Int → Option R) (k1 : Int × Int × Int → Option R) : b24 N w0 w2 w3 w4 w9 w10 w11 k0 k1 = (b6H N w0 w2 w3 w4 w9 w10 w11).bind (a09 k0 k1) := by
 unfold b6H b24
 repeat' (first | with_reducible apply a0g | (with_reducible apply a0t; intro _) | rfl)
def d0Z (L : List Lf) (k0 : Int → Option R) (k1 : Int × Int × Int → Option R) : Option R := b24 N (lb L 0) (li L 2) (li L 3) (li L 4) (li L 9) (li L 10) (li L 11) k0 k1
def b8M : Sh := { tmps := [(1, .c (.p 1 0)), (3, .c (.p 3 0)), (58, .c (.b))], mem := [(1, .box (.i .i64 :: [.i .i64, .i .i64, .i .i64, .s, .sl 24])), (3, .box (.i .i64 :: [.i .i64, .i .i64, .i .i64, .s, .sl 24]))] }
def c0X (L : List Lf) (p : Int) : Ex × St := (.ret, mg (a0k b8M L) [2] [(2, .c (.i .i64 p))] [1, 3] [])
def c0Y (L : List Lf) (p : Int × Int × Int) : Ex × St := (.normal, mg (a0k b8M L) [1, 3] [] [1, 3] [(3, .box [.i .i64 (li L 8), .i .i64 p.1, .i .i64 p.2.1, .i .i64 p.2.2, .s (ls L 12), .sl 24 (lb L 13) (ll L 14)])])
def e1Z (L : List Lf) : List (Bool × (Ex × St)) := bnd (d0Z N L (fun p => some (.inl p)) (fun p => some (.inr p))) fun q => [((a0T q), c0X L (a0H q)), ((a0l q).isSome, c0Y L ((a0l q).getD default))]
theorem d2V (L : List Lf) : pc Tryz.prog (c3p N) (d7k N).h 0 100 88 71 b8M L [1, 2, 3] [1, 3] = d0Z N L (fun p => some (c0X L p)) (fun p => some (c0Y L p)) := by kernel_rfl
def d7l : Sg Tryz.prog 0 88 :=
 (d7k N).cut (e1Z N) a0c (a6E N) fun L x hx => (d2V N L).trans ((c8l N ..).trans ((a34 a08) x hx))
def a5W (w0 : Int) (w1 : Bool) (w3 w4 w5 : Int) (w6 : LB) (w10 w11 w12 : Int) (w13 : LB) (k0 : Int → Option R) (k1 : Ty2 → Option R) : Option R :=
 bif w1 then
  bnd (c3q N w6 0) fun y0 =>
  bif (a0T y0) then
   k0 2
  else
   bif (a0l y0).isSome then
    bnd (bif (decide ((w6.length : Int) < 1)) then true else (decide ((w6.length : Int) > 60))) fun y1 =>
    bif y1 then
     k0 2
    else
     k1 (w10, w11, w12, w6)
   else
    none
 else
  bnd (b6H N (w0 == 7) w3 w4 w5 w10 w11 w12) fun y2 =>
  bif (a0T y2) then
   k0 (a0H y2)
  else
   bif (a0l y2).isSome then
    k1 (((a0l y2).getD default).1, ((a0l y2).getD default).2.1, ((a0l y2).getD default).2.2, w13)
   else
    none
def a7R (w0 : Int) (w1 : Bool) (w3 w4 w5 : Int) (w6 : LB) (w10 w11 w12 : Int) (w13 : LB) : Option (Sum (Int) (Ty2)) := a5W N w0 w1 w3 w4 w5 w6 w10 w11 w12 w13 (fun p => some (.inl p)) (fun p => some (.inr p))
theorem b9z (w0 : Int) (w1 : Bool) (w3 w4 w5 : Int) (w6 : LB) (w10 w11 w12 : Int) (w13 : LB) (k0 : Int → Option R) (k1 : Ty2 → Option R) : a5W N w0 w1 w3 w4 w5 w6 w10 w11 w12 w13 k0 k1 = (a7R N w0 w1 w3 w4 w5 w6 w10 w11 w12 w13).bind (a09 k0 k1) := by
 unfold a7R a5W
 repeat' (first | with_reducible apply a0g | (with_reducible apply a0t; intro _) | rfl)
def b8N (L : List Lf) (k0 : Int → Option R) (k1 : Ty2 → Option R) : Option R := a5W N (li L 0) (lb L 1) (li L 3) (li L 4) (li L 5) (ls L 6) (li L 10) (li L 11) (li L 12) (ls L 13) k0 k1
def a9c : Sh := { tmps := [(1, .c (.p 1 0)), (3, .c (.p 3 0)), (12, .c (.i .i64)), (30, .c (.b))], mem := [(1, .box (.i .i64 :: [.i .i64, .i .i64, .i .i64, .s, .sl 24])), (3, .box (.i .i64 :: [.i .i64, .i .i64, .i .i64, .s, .sl 24]))] }
def b25 (L : List Lf) (p : Int) : Ex × St := (.ret, mg (a0k a9c L) [2] [(2, .c (.i .i64 p))] [1, 3] [])
def b26 (L : List Lf) (p : Ty2) : Ex × St := (.normal, mg (a0k a9c L) [1, 3] [] [1, 3] [(3, .box [.i .i64 (li L 9), .i .i64 p.1, .i .i64 p.2.1, .i .i64 p.2.2.1, .s p.2.2.2, .sl 24 (lb L 14) (ll L 15)])])
def c8m (L : List Lf) : List (Bool × (Ex × St)) := bnd (b8N N L (fun p => some (.inl p)) (fun p => some (.inr p))) fun q => [((a0T q), b25 L (a0H q)), ((a0l q).isSome, b26 L ((a0l q).getD default))]
theorem c3r (L : List Lf) : pc Tryz.prog (c3p N) (d7l N).h 0 100 88 66044 a9c L [1, 2, 3] [1, 3] = b8N N L (fun p => some (b25 L p)) (fun p => some (b26 L p)) := by kernel_rfl
def d7m : Sg Tryz.prog 0 88 :=
 (d7l N).cut (c8m N) a0c (a6E N) fun L x hx => (c3r N L).trans ((b9z N ..).trans ((a34 a08) x hx))
def a5X (w0 : Int) (w1 : Bool) (w3 w4 w5 : Int) (w6 : LB) (w10 w11 w12 : Int) (w13 : LB) (k0 : Int → Option R) (k1 : Ty2 → Option R) : Option R :=
 bif w1 then
  bnd (c56 N w6) fun y0 =>
  bif y0.isSome then
   bif (!(y0.getD default)) then
    k0 8
   else
    k1 (w10, w11, w12, w6)
  else
   none
 else
  bnd (a7R N w0 (w0 == 6) w3 w4 w5 w6 w10 w11 w12 w13) fun y1 =>
  bif (a0T y1) then
   k0 (a0H y1)
  else
   bif (a0l y1).isSome then
    k1 ((a0l y1).getD default)
   else
    none
def a7S (w0 : Int) (w1 : Bool) (w3 w4 w5 : Int) (w6 : LB) (w10 w11 w12 : Int) (w13 : LB) : Option (Sum (Int) (Ty2)) := a5X N w0 w1 w3 w4 w5 w6 w10 w11 w12 w13 (fun p => some (.inl p)) (fun p => some (.inr p))
theorem b9A (w0 : Int) (w1 : Bool) (w3 w4 w5 : Int) (w6 : LB) (w10 w11 w12 : Int) (w13 : LB) (k0 : Int → Option R) (k1 : Ty2 → Option R) : a5X N w0 w1 w3 w4 w5 w6 w10 w11 w12 w13 k0 k1 = (a7S N w0 w1 w3 w4 w5 w6 w10 w11 w12 w13).bind (a09 k0 k1) := by
 unfold a7S a5X
 repeat' (first | with_reducible apply a0g | (with_reducible apply a0t; intro _) | rfl)
def b8O (L : List Lf) (k0 : Int → Option R) (k1 : Ty2 → Option R) : Option R := a5X N (li L 0) (lb L 1) (li L 3) (li L 4) (li L 5) (ls L 6) (li L 10) (li L 11) (li L 12) (ls L 13) k0 k1
def a9d : Sh := { tmps := [(1, .c (.p 1 0)), (3, .c (.p 3 0)), (12, .c (.i .i64)), (21, .c (.b))], mem := [(1, .box (.i .i64 :: [.i .i64, .i .i64, .i .i64, .s, .sl 24])), (3, .box (.i .i64 :: [.i .i64, .i .i64, .i .i64, .s, .sl 24]))] }
def b27 (L : List Lf) (p : Int) : Ex × St := (.ret, mg (a0k a9d L) [2] [(2, .c (.i .i64 p))] [1, 3] [])
def b28 (L : List Lf) (p : Ty2) : Ex × St := (.normal, mg (a0k a9d L) [1, 3] [] [1, 3] [(3, .box [.i .i64 (li L 9), .i .i64 p.1, .i .i64 p.2.1, .i .i64 p.2.2.1, .s p.2.2.2, .sl 24 (lb L 14) (ll L 15)])])
def c8n (L : List Lf) : List (Bool × (Ex × St)) := bnd (b8O N L (fun p => some (.inl p)) (fun p => some (.inr p))) fun q => [((a0T q), b27 L (a0H q)), ((a0l q).isSome, b28 L ((a0l q).getD default))]
theorem c3s (L : List Lf) : pc Tryz.prog (c3p N) (d7m N).h 0 100 88 39032 a9d L [1, 2, 3] [1, 3] = b8O N L (fun p => some (b27 L p)) (fun p => some (b28 L p)) := by kernel_rfl
def d7n : Sg Tryz.prog 0 88 :=
 (d7m N).cut (c8n N) a0c (a6E N) fun L x hx => (c3s N L).trans ((b9A N ..).trans ((a34 a08) x hx))
def a5Y (w0 : Int) (w1 : Bool) (w3 w4 w5 : Int) (w6 : LB) (w10 w11 w12 : Int) (w13 : LB) (k0 : Int → Option R) (k1 : Ty2 → Option R) : Option R :=
 bif w1 then
  bnd (a9b N w4 1 5) fun y0 =>
  bif y0 then
   k0 7
  else
   k1 (w10, w4, w12, w13)
 else
  bnd (a7S N w0 (w0 == 5) w3 w4 w5 w6 w10 w11 w12 w13) fun y1 =>
  bif (a0T y1) then
   k0 (a0H y1)
  else
   bif (a0l y1).isSome then
    k1 ((a0l y1).getD default)
   else
    none
def a7T (w0 : Int) (w1 : Bool) (w3 w4 w5 : Int) (w6 : LB) (w10 w11 w12 : Int) (w13 : LB) : Option (Sum (Int) (Ty2)) := a5Y N w0 w1 w3 w4 w5 w6 w10 w11 w12 w13 (fun p => some (.inl p)) (fun p => some (.inr p))
theorem b9B (w0 : Int) (w1 : Bool) (w3 w4 w5 : Int) (w6 : LB) (w10 w11 w12 : Int) (w13 : LB) (k0 : Int → Option R) (k1 : Ty2 → Option R) : a5Y N w0 w1 w3 w4 w5 w6 w10 w11 w12 w13 k0 k1 = (a7T N w0 w1 w3 w4 w5 w6 w10 w11 w12 w13).bind (a09 k0 k1) := by
 unfold a7T a5Y
 repeat' (first | with_reducible apply a0g | (with_reducible apply a0t; intro _) | rfl)
def b8P (L : List Lf) (k0 : Int → Option R) (k1 : Ty2 → Option R) : Option R := a5Y N (li L 0) (lb L 1) (li L 3) (li L 4) (li L 5) (ls L 6) (li L 10) (li L 11) (li L 12) (ls L 13) k0 k1
def a9e : Sh := { tmps := [(1, .c (.p 1 0)), (3, .c (.p 3 0)), (12, .c (.i .i64)), (13, .c (.b))], mem := [(1, .box (.i .i64 :: [.i .i64, .i .i64, .i .i64, .s, .sl 24])), (3, .box (.i .i64 :: [.i .i64, .i .i64, .i .i64, .s, .sl 24]))] }
def b29 (L : List Lf) (p : Int) : Ex × St := (.ret, mg (a0k a9e L) [2] [(2, .c (.i .i64 p))] [1, 3] [])
def b3a (L : List Lf) (p : Ty2) : Ex × St := (.normal, mg (a0k a9e L) [1, 3] [] [1, 3] [(3, .box [.i .i64 (li L 9), .i .i64 p.1, .i .i64 p.2.1, .i .i64 p.2.2.1, .s p.2.2.2, .sl 24 (lb L 14) (ll L 15)])])
def c8o (L : List Lf) : List (Bool × (Ex × St)) := bnd (b8P N L (fun p => some (.inl p)) (fun p => some (.inr p))) fun q => [((a0T q), b29 L (a0H q)), ((a0l q).isSome, b3a L ((a0l q).getD default))]
theorem c3t (L : List Lf) : pc Tryz.prog (c3p N) (d7n N).h 0 100 88 27020 a9e L [1, 2, 3] [1, 3] = b8P N L (fun p => some (b29 L p)) (fun p => some (b3a L p)) := by kernel_rfl
def d7o : Sg Tryz.prog 0 88 :=
 (d7n N).cut (c8o N) a0c (a6E N) fun L x hx => (c3t N L).trans ((b9B N ..).trans ((a34 a08) x hx))
def d7p (v0 v1 v2 v3 : Int) (v4 : LB) (v6 : LD) (k0 : Int → Option R) : Option R :=
 bnd (a9b N v0 1 7) fun y0 =>
 bif y0 then
  k0 7
 else
  bnd (a7T N v0 (v0 == 4) v1 v2 v3 v4 0 0 0 ([] : List UInt8)) fun y1 =>
  bif (a0T y1) then
   k0 (a0H y1)
  else
   bif (a0l y1).isSome then
    bnd (bif (v1 != ((a0l y1).getD default).1) then true else (v2 != ((a0l y1).getD default).2.1)) fun y2 =>
    bnd (bif y2 then true else (v3 != ((a0l y1).getD default).2.2.1)) fun y3 =>
    bnd (bif y3 then true else (!(v4 == ((a0l y1).getD default).2.2.2))) fun y4 =>
    bif y4 then
     k0 2
    else
     bnd (bif (decide (v0 > 3)) then (decide ((v6.length : Int) > 0)) else false) fun y5 =>
     bnd (bif y5 then true else (bif (v0 == 3) then ((v6.length : Int) != 1) else false)) fun y6 =>
     bif y6 then
      k0 2
     else
      k0 0
   else
    none
def d7q (v0 v1 v2 v3 : Int) (v4 : LB) (v6 : LD) : Option (Int) := d7p N v0 v1 v2 v3 v4 v6 (fun p => some p)
theorem e10 (v0 v1 v2 v3 : Int) (v4 : LB) (v6 : LD) (k0 : Int → Option R) : d7p N v0 v1 v2 v3 v4 v6 k0 = (d7q N v0 v1 v2 v3 v4 v6).bind k0 := by
 unfold d7q d7p
 repeat' (first | with_reducible apply a0g | (with_reducible apply a0t; intro _) | rfl)
def f0R (L : List Lf) (k0 : Int → Option R) : Option R := d7p N (li L 0) (li L 1) (li L 2) (li L 3) (ls L 4) (ll L 6) k0
def d7r : Sh := { tmps := [(0, .g (.i .i64 :: [.i .i64, .i .i64, .i .i64, .s, .sl 24]))], mem := [] }
def f0S (L : List Lf) : List (Bool × Res) := bnd (f0R N L (fun p => some p)) fun q => [(q.isSome, ([.c (.i .i64 (q.getD default))], []))]
theorem e68 (L : List Lf) : bd Tryz.prog (c3p N) (d7o N).h 88 d7r L = f0R N L (fun p => some ([.c (.i .i64 p)], [])) := by kernel_rfl
theorem f0T : a0L Tryz.prog 88 d7r (f0S N) :=
 (d7o N).fn a0c (a6E N) fun L x hx => ((e68 N L).trans ((e10 N ..).trans (a08 x hx)))
def f0U : a0d := ext 88 (a2l d7r (f0S N)) (c3p N)
theorem d00 : a0a Tryz.prog (f0U N) := a0L.to (f0T N) (a6E N)
abbrev a3i : Type := Int → Int → Int → Int → LB → Bool → LD → Int → Option (Int)
def d01 : Sh := { tmps := [(0, .g (.i .i64 :: [.i .i64, .i .i64, .i .i64, .s, .sl 24])), (1, .c (.i .i64))], mem := [] }
def f0V (N : Nat) (rc57x1 : a3i) (L : List Lf) : List (Bool × Res) := bnd (rc57x1 (li L 0) (li L 1) (li L 2) (li L 3) (ls L 4) (lb L 5) (ll L 6) (li L 7)) fun q => [(q.isSome, ([.c (.i .i64 (q.getD default))], []))]
def c3u (rc57x1 : a3i) : a0d := ext 57 (a2l d01 ((f0V N) rc57x1)) (f0U N)
def f0W : List (Nat × List Nat) := [(0, [0, 1]), (1, [2, 1]), (2, [5, 1, 2]), (3, [5]), (4, [1, 2]), (5, []), (6, [2, 1]), (7, [19, 18, 17, 1]), (8, [17, 19, 1, 18]), (9, [7, 1, 19, 18, 17]), (10, [8, 19, 18, 17, 1]), (11, [8]), (12, [19, 18, 17, 1]), (13, [])]
def f0X : a0C := [(21, [1, 17, 18, 19], [], [])]
def d7s (rc57x1 : a3i) (hR57x1 : a0a Tryz.prog ((c3u N) rc57x1)) : Sg Tryz.prog 0 57 := .start f0X f0W
def a9Z (N : Nat) (rc57x1 : a3i) (w0 : Int) (w2 : LD) (w3 : Int) (w4 : Int) (kr : Int → Option R) (k0 : Int → Option R) (k1 : Unit → Option R) : Option R :=
 bif (decide (w4 < w3)) then
  bif (inB w4 w2.length) then
   bnd (rc57x1 ((w2.getD w4.toNat (.i 0)).cell 0).toI ((w2.getD w4.toNat (.i 0)).cell 1).toI ((w2.getD w4.toNat (.i 0)).cell 2).toI ((w2.getD w4.toNat (.i 0)).cell 3).toI ((w2.getD w4.toNat (.i 0)).cell 4).toS ((w2.getD w4.toNat (.i 0)).cell 5).isNil ((w2.getD w4.toNat (.i 0)).cell 5).items (IntKind.wrap .i64 (w0 + 1))) fun y0 =>
   bif y0.isSome then
    bif ((y0.getD default) != 0) then
     k0 (y0.getD default)
    else
     kr (IntKind.wrap .i64 (w4 + 1))
   else
    none
  else
   none
 else
  k1 ()
def b6I (N : Nat) (rc57x1 : a3i) {R : Type} (w0 : Int) (w2 : LD) (w3 : Int) : Nat → Int → (Int → Option R) → (Unit → Option R) → Option R
 | 0, _, _, _ => none
 | m + 1, w4, k0, k1 => a9Z N rc57x1 w0 w2 w3 w4 (fun w4 => b6I N rc57x1 w0 w2 w3 m w4 k0 k1) k0 k1
def a90 (rc57x1 : a3i) (w0 : Int) (w2 : LD) (w3 : Int) (w4 : Int) : Option (Sum (Int) (Unit)) := b6I N rc57x1 (R := (Sum (Int) (Unit))) w0 w2 w3 N w4 (fun p => some (.inl p)) (fun p => some (.inr p))
def b3b (rc57x1 : a3i) (L x : List Lf) (kr : List Lf → Option R) (k0 : Int → Option R) (k1 : Unit → Option R) : Option R := a9Z N rc57x1 (li L 0) (ll L 2) (li L 3) (li x 0) (fun w4 => kr [.i w4]) k0 k1
theorem c59 (rc57x1 : a3i) (L x : List Lf) (kr : List Lf → Option R) (k0 : Int → Option R) (k1 : Unit → Option R) : b3b N rc57x1 L x kr k0 k1 = (b3b N rc57x1 L x (fun y => some (.inl y)) (fun p => some (.inr (.inl p))) (fun p => some (.inr (.inr p)))).bind (a09 kr (a09 k0 k1)) := by
 unfold b3b a9Z
 repeat' (first | with_reducible apply a0g | (with_reducible apply a0t; intro _) | rfl)
def b6J (rc57x1 : a3i) (L : List Lf) (m : Nat) (x : List Lf) : Option (Sum (Int) (Unit)) := b6I N rc57x1 (R := (Sum (Int) (Unit))) (li L 0) (ll L 2) (li L 3) m (li x 0) (fun p => some (.inl p)) (fun p => some (.inr p))
def b3c : Sh := { tmps := [(1, .c (.i .i64)), (17, .c (.sl 24)), (18, .c (.i .i64)), (19, .c (.i .i64))], mem := [] }
def e11 (rc57x1 : a3i) (L : List Lf) : List (Bool × (Ex × St)) := bnd (b6J N rc57x1 L N (pk b3c [4] L)) fun q => [((a0T q), (.ret, ⟨[(4, .c (.i .i64 (a0H q)))], []⟩)), ((a0l q).isSome, ((.exit 0), ⟨[], []⟩))]
theorem c8p (rc57x1 : a3i) (hR57x1 : a0a Tryz.prog ((c3u N) rc57x1)) (m : Nat) (kn : St → Option (Ex × St)) (L x : List Lf) : lpB Tryz.prog ((c3u N) rc57x1) ((d7s N) rc57x1 hR57x1).h 0 57 21 b3c [4] [4] [] (m + 100) kn L x = b3b N rc57x1 L x (fun y => kn (a0k b3c (mx b3c [4] L y))) (fun p => some (.ret, ⟨[(4, .c (.i .i64 p))], []⟩)) (fun _ => some ((.exit 0), ⟨[], []⟩)) := by kernel_rfl
theorem d7t (rc57x1 : a3i) (L : List Lf) (m : Nat) (x : List Lf) : b6J N rc57x1 L (m + 1) x = b3b N rc57x1 L x (b6J N rc57x1 L m) (fun p => some (.inl p)) (fun p => some (.inr p)) := by kernel_rfl
def d7u (rc57x1 : a3i) (hR57x1 : a0a Tryz.prog ((c3u N) rc57x1)) : Sg Tryz.prog 0 57 :=
 ((d7s N) rc57x1 hR57x1).lp ((e11 N) rc57x1) N a0c hR57x1 (fun m kn L x => (c8p N rc57x1 hR57x1 m kn L x).trans (c59 N rc57x1 L x _ _ _)) (fun L m x => (d7t N rc57x1 L m x).trans (c59 N rc57x1 L x (b6J N rc57x1 L m) (fun p => some (.inl p)) (fun p => some (.inr p)))) fun L x hx => (a34 a08) x hx
def d7v (rc57x1 : a3i) (v0 v1 v2 v3 : Int) (v4 : LB) (v5 : Bool) (v6 : LD) (v7 : Int) (k0 : Int → Option R) : Option R :=
 bnd (d7q N v0 v1 v2 v3 v4 v6) fun y0 =>
 bif y0.isSome then
  bif ((y0.getD default) != 0) then
   k0 (y0.getD default)
  else
   bif (decide (v7 > 20)) then
    k0 3
   else
    bnd (a90 N rc57x1 v7 v6 (v6.length : Int) 0) fun y1 =>
    bif (a0T y1) then
     k0 (a0H y1)
    else
     bif (a0l y1).isSome then
      k0 0
     else
      none
 else
  none
def c8q (rc57x1 : a3i) (v0 v1 v2 v3 : Int) (v4 : LB) (v5 : Bool) (v6 : LD) (v7 : Int) : Option (Int) := d7v N rc57x1 v0 v1 v2 v3 v4 v5 v6 v7 (fun p => some p)
theorem e12 (rc57x1 : a3i) (v0 v1 v2 v3 : Int) (v4 : LB) (v5 : Bool) (v6 : LD) (v7 : Int) (k0 : Int → Option R) : d7v N rc57x1 v0 v1 v2 v3 v4 v5 v6 v7 k0 = (c8q N rc57x1 v0 v1 v2 v3 v4 v5 v6 v7).bind k0 := by
 unfold c8q d7v
 repeat' (first | with_reducible apply a0g | (with_reducible apply a0t; intro _) | rfl)
def f3q (rc57x1 : a3i) (L : List Lf) (k0 : Int → Option R) : Option R := d7v N rc57x1 (li L 0) (li L 1) (li L 2) (li L 3) (ls L 4) (lb L 5) (ll L 6) (li L 7) k0
theorem e69 (rc57x1 : a3i) (hR57x1 : a0a Tryz.prog ((c3u N) rc57x1)) (L : List Lf) : bd Tryz.prog ((c3u N) rc57x1) ((d7u N) rc57x1 hR57x1).h 57 d01 L = f3q N rc57x1 L (fun p => some ([.c (.i .i64 p)], [])) := by kernel_rfl
theorem e7a (rc57x1 : a3i) (hR57x1 : a0a Tryz.prog ((c3u N) rc57x1)) (L : List Lf) (x : Res) (hx : a4Z ((f0V N) (fun v0 v1 v2 v3 v4 v5 v6 v7 => c8q N rc57x1 v0 v1 v2 v3 v4 v5 v6 v7) L) some = some x) : a1u Tryz.prog 57 (a5z (a0k d01 L).tmps) (a0k d01 L).mem x :=
 a3c (n := 200) a0c hR57x1 ((d7u N) rc57x1 hR57x1).ok rfl ((e69 N rc57x1 hR57x1 L).trans ((e12 N rc57x1 ..).trans (a08 x hx)))
def b0v (N : Nat) : Nat → a3i
 | 0 => fun _ _ _ _ _ _ _ _ => none
 | m + 1 => fun v0 v1 v2 v3 v4 v5 v6 v7 => c8q N (b0v N m) v0 v1 v2 v3 v4 v5 v6 v7
theorem d7w (N : Nat) : ∀ m, a0a Tryz.prog ((c3u N) (b0v N m))
 | 0 => a0M (d00 N) (AM.enters_of (by kernel_rfl)) (a04 fun L x hx => by
  have h : (none : Option Res) = some x := hx
  cases h)
 | m + 1 => a0M (d00 N) (AM.enters_of (by kernel_rfl)) (a04 fun L x hx => e7a N (b0v N m) (d7w N m) L x hx)
def e7b : a0d := (c3u N) (b0v N N)
theorem d02 : a0a Tryz.prog (e7b N) := d7w N N
def f0Y : List (Nat × List Nat) := [(0, [0]), (1, [1]), (2, []), (3, [1])]
def f0Z : a0C := []
def d7x (N : Nat) : Sg Tryz.prog 0 30 := .start f0Z f0Y
def d7y (v0 v1 v2 v3 : Int) (v4 : LB) (v5 : Bool) (v6 : LD) (k0 : Int → Option R) : Option R :=
 bnd (b9y N N v0 v1 v2 v3 v4 v5 v6 101) fun y0 =>
 bif y0.isSome then
  bif (decide ((y0.getD default) > 100)) then
   k0 3
  else
   bnd (b0v N N v0 v1 v2 v3 v4 v5 v6 0) fun y1 =>
   bif y1.isSome then
    k0 (y1.getD default)
   else
    none
 else
  none
def d7z (v0 v1 v2 v3 : Int) (v4 : LB) (v5 : Bool) (v6 : LD) : Option (Int) := d7y N v0 v1 v2 v3 v4 v5 v6 (fun p => some p)
theorem e13 (v0 v1 v2 v3 : Int) (v4 : LB) (v5 : Bool) (v6 : LD) (k0 : Int → Option R) : d7y N v0 v1 v2 v3 v4 v5 v6 k0 = (d7z N v0 v1 v2 v3 v4 v5 v6).bind k0 := by
 unfold d7z d7y
 repeat' (first | with_reducible apply a0g | (with_reducible apply a0t; intro _) | rfl)
def f00 (L : List Lf) (k0 : Int → Option R) : Option R := d7y N (li L 0) (li L 1) (li L 2) (li L 3) (ls L 4) (lb L 5) (ll L 6) k0
def d7A : Sh := { tmps := [(0, .g (.i .i64 :: [.i .i64, .i .i64, .i .i64, .s, .sl 24]))], mem := [] }
def f01 (L : List Lf) : List (Bool × Res) := bnd (f00 N L (fun p => some p)) fun q => [(q.isSome, ([.c (.i .i64 (q.getD default))], []))]
theorem e7c (L : List Lf) : bd Tryz.prog (e7b N) (d7x N).h 30 d7A L = f00 N L (fun p => some ([.c (.i .i64 p)], [])) := by kernel_rfl
theorem f02 : a0L Tryz.prog 30 d7A (f01 N) :=
 (d7x N).fn a0c (d02 N) fun L x hx => ((e7c N L).trans ((e13 N ..).trans (a08 x hx)))
def e14 : a0d := ext 30 (a2l d7A (f01 N)) (e7b N)
theorem c3v : a0a Tryz.prog (e14 N) := a0L.to (f02 N) (d02 N)
def f03 : List (Nat × List Nat) := [(0, [0]), (1, [1]), (2, []), (3, [1]), (4, []), (5, [1]), (6, [3, 1]), (7, [3]), (8, [1]), (9, [4, 1]), (10, []), (11, [1]), (12, []), (13, [])]
def f04 : a0C := [(28, [1, 4], [1], [])]
def d7B (N : Nat) : Sg Tryz.prog 0 20 := .start f04 f03
def a91 (w0 : Bool) (w3 : Int) (k0 : Bool → R) : R :=
 bif w0 then
  bnd (c8j N w3) fun y0 =>
  bnd (bif (!y0) then true else (bif (!w0) then (w3 != 0) else false)) fun y1 =>
  k0 y1
 else
  k0 (bif (!w0) then (w3 != 0) else false)
def b3d (w0 : Bool) (w3 : Int) : Bool := a91 N w0 w3 (fun p => p)
theorem d2W (w0 : Bool) (w3 : Int) (k0 : Bool → R) : a91 N w0 w3 k0 = k0 (b3d N w0 w3) := by
 unfold b3d a91
 repeat' (first | rfl | apply a0n | (apply a0A; intro _))
def c6a : Sh := { tmps := [(1, .c (.p 1 0)), (4, .c (.b))], mem := [(1, .box (.s :: rI 7 ([.s, .sl 24])))] }
def c0Z (L : List Lf) (p : Bool) : Ex × St := (.normal, mg (a0k c6a L) [1, 41] [(41, .c (.b p))] [1] [])
def e15 (L : List Lf) : List (Bool × (Ex × St)) := bnd (a91 N (lb L 0) (li L 3) (fun p => p)) fun q => [(true, c0Z L q)]
theorem d2X (L : List Lf) : pc Tryz.prog (e14 N) (d7B N).h 0 100 20 28 c6a L [1, 41] [1] = a91 N (lb L 0) (li L 3) (fun p => some (c0Z L p)) := by kernel_rfl
def d7C : Sg Tryz.prog 0 20 :=
 (d7B N).cut (e15 N) a0c (c3v N) fun L x hx => (d2X N L).trans ((d2W N ..).trans (a2h _ _ hx))
def d7D (v0 : LB) (v1 v2 v3 v4 v5 v6 v7 : Int) (v8 : LB) (v9 : Bool) (v10 : LD) (k0 : Int → Option R) : Option R :=
 bnd (c56 N v0) fun y0 =>
 bif y0.isSome then
  bif (!(y0.getD default)) then
   k0 8
  else
   bnd (a9b N v1 1 4) fun y1 =>
   bif y1 then
    k0 7
   else
    bnd (d7z N v4 v5 v6 v7 v8 v9 v10) fun y2 =>
    bif y2.isSome then
     bif ((y2.getD default) != 0) then
      k0 (y2.getD default)
     else
      bnd (b3d N (bif (v1 == 2) then true else (v1 == 3)) v2) fun y3 =>
      bif y3 then
       k0 7
      else
       bnd (a9b N v3 1 10000000000000) fun y4 =>
       bif y4 then
        k0 9
       else
        k0 0
    else
     none
 else
  none
def d2Y (v0 : LB) (v1 v2 v3 v4 v5 v6 v7 : Int) (v8 : LB) (v9 : Bool) (v10 : LD) : Option (Int) := d7D N v0 v1 v2 v3 v4 v5 v6 v7 v8 v9 v10 (fun p => some p)
theorem e16 (v0 : LB) (v1 v2 v3 v4 v5 v6 v7 : Int) (v8 : LB) (v9 : Bool) (v10 : LD) (k0 : Int → Option R) : d7D N v0 v1 v2 v3 v4 v5 v6 v7 v8 v9 v10 k0 = (d2Y N v0 v1 v2 v3 v4 v5 v6 v7 v8 v9 v10).bind k0 := by
 unfold d2Y d7D
 repeat' (first | with_reducible apply a0g | (with_reducible apply a0t; intro _) | rfl)
def f05 (L : List Lf) (k0 : Int → Option R) : Option R := d7D N (ls L 0) (li L 1) (li L 2) (li L 3) (li L 4) (li L 5) (li L 6) (li L 7) (ls L 8) (lb L 9) (ll L 10) k0
def d7E : Sh := { tmps := [(0, .g (.s :: rI 7 ([.s, .sl 24])))], mem := [] }
def f06 (L : List Lf) : List (Bool × Res) := bnd (f05 N L (fun p => some p)) fun q => [(q.isSome, ([.c (.i .i64 (q.getD default))], []))]
theorem e7d (L : List Lf) : bd Tryz.prog (e14 N) (d7C N).h 20 d7E L = f05 N L (fun p => some ([.c (.i .i64 p)], [])) := by kernel_rfl
theorem f07 : a0L Tryz.prog 20 d7E (f06 N) :=
 (d7C N).fn a0c (c3v N) fun L x hx => ((e7d N L).trans ((e16 N ..).trans (a08 x hx)))
def d7F : a0d := ext 20 (a2l d7E (f06 N)) (e14 N)
theorem b6K : a0a Tryz.prog (d7F N) := a0L.to (f07 N) (c3v N)
def f08 : List (Nat × List Nat) := [(0, [0]), (1, [0]), (2, []), (3, [0]), (4, [13, 12, 11, 0]), (5, [13, 11, 0, 12]), (6, [4, 0, 3, 13, 12, 11]), (7, [5, 0, 3, 4, 13, 12, 11]), (8, [5]), (9, [0, 3, 4, 13, 12, 11]), (10, [27, 26, 25, 4, 13, 12, 11, 0]), (11, [25, 27, 4, 26, 13, 12, 11, 0]), (12, [7, 4, 27, 26, 25, 13, 12, 11, 0]), (13, []), (14, [27, 26, 25, 4, 13, 12, 11, 0]), (15, [13, 12, 11, 0]), (16, [])]
def f09 : a0C := [(12, [0, 11, 12, 13], [], []), (30, [0, 4, 11, 12, 13, 25, 26, 27], [4], [])]
def d7G (N : Nat) : Sg Tryz.prog 0 37 := .start f09 f08
def a92 (N : Nat) (w7 : LD) (w8 : Int) (w10 : LB) (w9 : Int) (kr : Int → Option R) (k0 : Unit → Option R) (k1 : Unit → Option R) : Option R :=
 bif (decide (w9 < w8)) then
  bif (inB w9 w7.length) then
   bif (((w7.getD w9.toNat (.i 0)).cell 0).toS == w10) then
    k0 ()
   else
    kr (IntKind.wrap .i64 (w9 + 1))
  else
   none
 else
  k1 ()
def b6L (N : Nat) {R : Type} (w7 : LD) (w8 : Int) (w10 : LB) : Nat → Int → (Unit → Option R) → (Unit → Option R) → Option R
 | 0, _, _, _ => none
 | m + 1, w9, k0, k1 => a92 N w7 w8 w10 w9 (fun w9 => b6L N w7 w8 w10 m w9 k0 k1) k0 k1
def c3w (w7 : LD) (w8 : Int) (w10 : LB) (w9 : Int) : Option (Sum (Unit) (Unit)) := b6L N (R := (Sum (Unit) (Unit))) w7 w8 w10 N w9 (fun p => some (.inl p)) (fun p => some (.inr p))
def b3e (L x : List Lf) (kr : List Lf → Option R) (k0 : Unit → Option R) (k1 : Unit → Option R) : Option R := a92 N (ll L 7) (li L 8) (ls L 10) (li x 0) (fun w9 => kr [.i w9]) k0 k1
theorem c6b (L x : List Lf) (kr : List Lf → Option R) (k0 : Unit → Option R) (k1 : Unit → Option R) : b3e N L x kr k0 k1 = (b3e N L x (fun y => some (.inl y)) (fun p => some (.inr (.inl p))) (fun p => some (.inr (.inr p)))).bind (a09 kr (a09 k0 k1)) := by
 unfold b3e a92
 repeat' (first | with_reducible apply a0g | (with_reducible apply a0t; intro _) | rfl)
def b6M (L : List Lf) (m : Nat) (x : List Lf) : Option (Sum (Unit) (Unit)) := b6L N (R := (Sum (Unit) (Unit))) (ll L 7) (li L 8) (ls L 10) m (li x 0) (fun p => some (.inl p)) (fun p => some (.inr p))
def a7o : Sh := { tmps := [(0, .c (.sl 52)), (4, .c (.p 4 0)), (11, .c (.sl 52)), (12, .c (.i .i64)), (13, .c (.i .i64)), (25, .c (.sl 52)), (26, .c (.i .i64)), (27, .c (.i .i64))], mem := [(4, .box (.s :: rI 7 ([.s, .sl 24])))] }
def e17 (L : List Lf) : List (Bool × (Ex × St)) := bnd (b6M N L N (pk a7o [9] L)) fun q => [((a0T q), (.ret, ⟨[(2, .c (.i .i64 5))], []⟩)), ((a0l q).isSome, ((.exit 2), mg (a0k a7o L) [0, 11, 12, 13] [] [] []))]
theorem c8r (m : Nat) (kn : St → Option (Ex × St)) (L x : List Lf) : lpB Tryz.prog (d7F N) (d7G N).h 0 37 30 a7o [9] [0, 2, 11, 12, 13] [] (m + 100) kn L x = b3e N L x (fun y => kn (a0k a7o (mx a7o [9] L y))) (fun _ => some (.ret, ⟨[(2, .c (.i .i64 5))], []⟩)) (fun _ => some ((.exit 2), mg (a0k a7o L) [0, 11, 12, 13] [] [] [])) := by kernel_rfl
theorem d7H (L : List Lf) (m : Nat) (x : List Lf) : b6M N L (m + 1) x = b3e N L x (b6M N L m) (fun p => some (.inl p)) (fun p => some (.inr p)) := by kernel_rfl
def d7I : Sg Tryz.prog 0 37 :=
 (d7G N).lp (e17 N) N a0c (b6K N) (fun m kn L x => (c8r N m kn L x).trans (c6b N L x _ _ _)) (fun L m x => (d7H N L m x).trans (c6b N L x (b6M N L m) (fun p => some (.inl p)) (fun p => some (.inr p)))) fun L x hx => (a34 a08) x hx
def a93 (w1 w3 : LD) (w4 : Int) (w5 : Int) (kr : Int → Option R) (k0 : Int → Option R) (k1 : Unit → Option R) : Option R :=
 bif (decide (w5 < w4)) then
  bif (inB w5 w3.length) then
   bnd (d2Y N ((w3.getD w5.toNat (.i 0)).cell 0).toS ((w3.getD w5.toNat (.i 0)).cell 1).toI ((w3.getD w5.toNat (.i 0)).cell 2).toI ((w3.getD w5.toNat (.i 0)).cell 3).toI ((w3.getD w5.toNat (.i 0)).cell 4).toI ((w3.getD w5.toNat (.i 0)).cell 5).toI ((w3.getD w5.toNat (.i 0)).cell 6).toI ((w3.getD w5.toNat (.i 0)).cell 7).toI ((w3.getD w5.toNat (.i 0)).cell 8).toS ((w3.getD w5.toNat (.i 0)).cell 9).isNil ((w3.getD w5.toNat (.i 0)).cell 9).items) fun y0 =>
   bif y0.isSome then
    bif ((y0.getD default) != 0) then
     k0 (y0.getD default)
    else
     bif ((decide (0 ≤ w5)) && (decide (w5 ≤ (w1.length : Int)))) then
      bnd (c3w N ((w1.take w5.toNat).drop 0) (((w1.take w5.toNat).drop 0).length : Int) ((w3.getD w5.toNat (.i 0)).cell 0).toS 0) fun y1 =>
      bif (a0T y1) then
       k0 5
      else
       bif (a0l y1).isSome then
        kr (IntKind.wrap .i64 (w5 + 1))
       else
        none
     else
      none
   else
    none
  else
   none
 else
  k1 ()
def b6N (N : Nat) {R : Type} (w1 w3 : LD) (w4 : Int) : Nat → Int → (Int → Option R) → (Unit → Option R) → Option R
 | 0, _, _, _ => none
 | m + 1, w5, k0, k1 => a93 N w1 w3 w4 w5 (fun w5 => b6N N w1 w3 w4 m w5 k0 k1) k0 k1
def c3x (w1 w3 : LD) (w4 : Int) (w5 : Int) : Option (Sum (Int) (Unit)) := b6N N (R := (Sum (Int) (Unit))) w1 w3 w4 N w5 (fun p => some (.inl p)) (fun p => some (.inr p))
def b3f (L x : List Lf) (kr : List Lf → Option R) (k0 : Int → Option R) (k1 : Unit → Option R) : Option R := a93 N (ll L 1) (ll L 3) (li L 4) (li x 0) (fun w5 => kr [.i w5]) k0 k1
theorem c6c (L x : List Lf) (kr : List Lf → Option R) (k0 : Int → Option R) (k1 : Unit → Option R) : b3f N L x kr k0 k1 = (b3f N L x (fun y => some (.inl y)) (fun p => some (.inr (.inl p))) (fun p => some (.inr (.inr p)))).bind (a09 kr (a09 k0 k1)) := by
 unfold b3f a93
 repeat' (first | with_reducible apply a0g | (with_reducible apply a0t; intro _) | rfl)
def b6O (L : List Lf) (m : Nat) (x : List Lf) : Option (Sum (Int) (Unit)) := b6N N (R := (Sum (Int) (Unit))) (ll L 1) (ll L 3) (li L 4) m (li x 0) (fun p => some (.inl p)) (fun p => some (.inr p))
def b3g : Sh := { tmps := [(0, .c (.sl 52)), (11, .c (.sl 52)), (12, .c (.i .i64)), (13, .c (.i .i64))], mem := [] }
def e18 (L : List Lf) : List (Bool × (Ex × St)) := bnd (b6O N L N (pk b3g [5] L)) fun q => [((a0T q), (.ret, ⟨[(2, .c (.i .i64 (a0H q)))], []⟩)), ((a0l q).isSome, ((.exit 0), ⟨[], []⟩))]
theorem c8s (m : Nat) (kn : St → Option (Ex × St)) (L x : List Lf) : lpB Tryz.prog (d7F N) (d7I N).h 0 37 12 b3g [5] [2] [] (m + 100) kn L x = b3f N L x (fun y => kn (a0k b3g (mx b3g [5] L y))) (fun p => some (.ret, ⟨[(2, .c (.i .i64 p))], []⟩)) (fun _ => some ((.exit 0), ⟨[], []⟩)) := by kernel_rfl
theorem d7J (L : List Lf) (m : Nat) (x : List Lf) : b6O N L (m + 1) x = b3f N L x (b6O N L m) (fun p => some (.inl p)) (fun p => some (.inr p)) := by kernel_rfl
def d7K : Sg Tryz.prog 0 37 :=
 (d7I N).lp (e18 N) N a0c (b6K N) (fun m kn L x => (c8s N m kn L x).trans (c6c N L x _ _ _)) (fun L m x => (d7J N L m x).trans (c6c N L x (b6O N L m) (fun p => some (.inl p)) (fun p => some (.inr p)))) fun L x hx => (a34 a08) x hx
def d2Z (v1 : LD) (k0 : Int → Option R) : Option R :=
 bif (decide ((v1.length : Int) > 50)) then
  k0 3
 else
  bnd (c3x N v1 v1 (v1.length : Int) 0) fun y0 =>
  bif (a0T y0) then
   k0 (a0H y0)
  else
   bif (a0l y0).isSome then
    k0 0
   else
    none
def d7L (v1 : LD) : Option (Int) := d2Z N v1 (fun p => some p)
theorem e19 (v1 : LD) (k0 : Int → Option R) : d2Z N v1 k0 = (d7L N v1).bind k0 := by
 unfold d7L d2Z
 repeat' (first | with_reducible apply a0g | (with_reducible apply a0t; intro _) | rfl)
def d7M : Sh := { tmps := [(0, .c (.sl 52))], mem := [] }
def f1a (L : List Lf) : List (Bool × Res) := bnd (d2Z N (ll L 1) (fun p => some p)) fun q => [(q.isSome, ([.c (.i .i64 (q.getD default))], []))]
theorem e7e (L : List Lf) : bd Tryz.prog (d7F N) (d7K N).h 37 d7M L = d2Z N (ll L 1) (fun p => some ([.c (.i .i64 p)], [])) := by kernel_rfl
theorem f1b : a0L Tryz.prog 37 d7M (f1a N) :=
 (d7K N).fn a0c (b6K N) fun L x hx => ((e7e N L).trans ((e19 N ..).trans (a08 x hx)))
def d7N : a0d := ext 37 (a2l d7M (f1a N)) (d7F N)
theorem b6P : a0a Tryz.prog (d7N N) := a0L.to (f1b N) (b6K N)
def f1c : List (Nat × List Nat) := [(0, [0]), (1, [1]), (3, [1]), (5, [1]), (7, [1]), (8, []), (6, []), (4, []), (2, []), (9, [1]), (10, [46, 45, 44, 1]), (11, [46, 44, 1, 45]), (12, [4, 3, 1, 46, 45, 44]), (13, []), (14, [3, 4, 1, 46, 45, 44]), (15, []), (16, [46, 45, 44, 1]), (17, [])]
def f1d : a0C := [(16, [1], [1], []), (30, [1, 44, 45, 46], [1], [])]
def d7O (N : Nat) : Sg Tryz.prog 0 50 := .start f1d f1c
def b3h (w2 w3 w4 w5 w6 : Int) (k0 : Bool → R) : R :=
 bnd (a9b N w2 0 86399999999) fun y0 =>
 bif y0 then
  k0 true
 else
  bnd (a9b N w3 0 10000000000000) fun y1 =>
  bif y1 then
   k0 true
  else
   bnd (a9b N w4 0 10000000000000) fun y2 =>
   bif y2 then
    k0 true
   else
    bnd (a9b N w5 0 10000000000000) fun y3 =>
    bif y3 then
     k0 true
    else
     bnd (a9b N w6 0 10000000000000) fun y4 =>
     k0 y4
def b3i (w2 w3 w4 w5 w6 : Int) : Bool := b3h N w2 w3 w4 w5 w6 (fun p => p)
theorem d20 (w2 w3 w4 w5 w6 : Int) (k0 : Bool → R) : b3h N w2 w3 w4 w5 w6 k0 = k0 (b3i N w2 w3 w4 w5 w6) := by
 unfold b3i b3h
 repeat' (first | rfl | apply a0n | (apply a0A; intro _))
def d03 (L : List Lf) (k0 : Bool → R) : R := b3h N (li L 2) (li L 3) (li L 4) (li L 5) (li L 6) k0
def c6d : Sh := { tmps := [(1, .c (.p 1 0))], mem := [(1, .box (.s :: rI 6 ([.sl 9])))] }
def c00 (L : List Lf) (p : Bool) : Ex × St := (.normal, mg (a0k c6d L) [1, 14] [(14, .c (.b p))] [1] [])
def e2a (L : List Lf) : List (Bool × (Ex × St)) := bnd (d03 N L (fun p => p)) fun q => [(true, c00 L q)]
theorem d21 (L : List Lf) : pc Tryz.prog (d7N N) (d7O N).h 0 100 50 16 c6d L [1, 14] [1] = d03 N L (fun p => some (c00 L p)) := by kernel_rfl
def d7P : Sg Tryz.prog 0 50 :=
 (d7O N).cut (e2a N) a0c (b6P N) fun L x hx => (d21 N L).trans ((d20 N ..).trans (a2h _ _ hx))
def a94 (w1 : LD) (w2 : Int) (w12 : LD) (w3 : Int) (kr : Int → Option R) (k0 : Int → Option R) (k1 : Unit → Option R) : Option R :=
 bif (decide (w3 < w2)) then
  bif (inB w3 w1.length) then
   bnd (c56 N (w1.getD w3.toNat (.i 0)).toS) fun y0 =>
   bif y0.isSome then
    bif (!(y0.getD default)) then
     k0 8
    else
     bif (bif (inB (IntKind.wrap .i64 (w3 - 1)) w12.length) then true else (!((decide (w3 > 0)) == true))) then
      bnd (bif (decide (w3 > 0)) then ((Op.bytesLess (w1.getD w3.toNat (.i 0)).toS (w12.getD (IntKind.wrap .i64 (w3 - 1)).toNat (.i 0)).toS) || ((w1.getD w3.toNat (.i 0)).toS == (w12.getD (IntKind.wrap .i64 (w3 - 1)).toNat (.i 0)).toS)) else false) fun y1 =>
      bif y1 then
       k0 10
      else
       kr (IntKind.wrap .i64 (w3 + 1))
     else
      none
   else
    none
  else
   none
 else
  k1 ()
def b6Q (N : Nat) {R : Type} (w1 : LD) (w2 : Int) (w12 : LD) : Nat → Int → (Int → Option R) → (Unit → Option R) → Option R
 | 0, _, _, _ => none
 | m + 1, w3, k0, k1 => a94 N w1 w2 w12 w3 (fun w3 => b6Q N w1 w2 w12 m w3 k0 k1) k0 k1
def c3y (w1 : LD) (w2 : Int) (w12 : LD) (w3 : Int) : Option (Sum (Int) (Unit)) := b6Q N (R := (Sum (Int) (Unit))) w1 w2 w12 N w3 (fun p => some (.inl p)) (fun p => some (.inr p))
def b3j (L x : List Lf) (kr : List Lf → Option R) (k0 : Int → Option R) (k1 : Unit → Option R) : Option R := a94 N (ll L 1) (li L 2) (ll L 12) (li x 0) (fun w3 => kr [.i w3]) k0 k1
theorem c6e (L x : List Lf) (kr : List Lf → Option R) (k0 : Int → Option R) (k1 : Unit → Option R) : b3j N L x kr k0 k1 = (b3j N L x (fun y => some (.inl y)) (fun p => some (.inr (.inl p))) (fun p => some (.inr (.inr p)))).bind (a09 kr (a09 k0 k1)) := by
 unfold b3j a94
 repeat' (first | with_reducible apply a0g | (with_reducible apply a0t; intro _) | rfl)
def b6R (L : List Lf) (m : Nat) (x : List Lf) : Option (Sum (Int) (Unit)) := b6Q N (R := (Sum (Int) (Unit))) (ll L 1) (li L 2) (ll L 12) m (li x 0) (fun p => some (.inl p)) (fun p => some (.inr p))
def b3k : Sh := { tmps := [(1, .c (.p 1 0)), (44, .c (.sl 9)), (45, .c (.i .i64)), (46, .c (.i .i64))], mem := [(1, .box (.s :: rI 6 ([.sl 9])))] }
def e2b (L : List Lf) : List (Bool × (Ex × St)) := bnd (b6R N L N (pk b3k [3] L)) fun q => [((a0T q), (.ret, ⟨[(2, .c (.i .i64 (a0H q)))], []⟩)), ((a0l q).isSome, ((.exit 1), ⟨[], []⟩))]
theorem c8t (m : Nat) (kn : St → Option (Ex × St)) (L x : List Lf) : lpB Tryz.prog (d7N N) (d7P N).h 0 50 30 b3k [3] [2] [] (m + 100) kn L x = b3j N L x (fun y => kn (a0k b3k (mx b3k [3] L y))) (fun p => some (.ret, ⟨[(2, .c (.i .i64 p))], []⟩)) (fun _ => some ((.exit 1), ⟨[], []⟩)) := by kernel_rfl
theorem d7Q (L : List Lf) (m : Nat) (x : List Lf) : b6R N L (m + 1) x = b3j N L x (b6R N L m) (fun p => some (.inl p)) (fun p => some (.inr p)) := by kernel_rfl
def d7R : Sg Tryz.prog 0 50 :=
 (d7P N).lp (e2b N) N a0c (b6P N) (fun m kn L x => (c8t N m kn L x).trans (c6e N L x _ _ _)) (fun L m x => (d7Q N L m x).trans (c6e N L x (b6R N L m) (fun p => some (.inl p)) (fun p => some (.inr p)))) fun L x hx => (a34 a08) x hx
def d7S (v0 : LB) (v1 v2 v3 v4 v5 v6 : Int) (v8 : LD) (k0 : Int → Option R) : Option R :=
 bnd (c56 N v0) fun y0 =>
 bif y0.isSome then
  bif (!(y0.getD default)) then
   k0 8
  else
   bnd (a9b N v1 1 5) fun y1 =>
   bif y1 then
    k0 7
   else
    bnd (b3i N v2 v3 v4 v5 v6) fun y2 =>
    bif y2 then
     k0 9
    else
     bif (decide ((v8.length : Int) > 20)) then
      k0 3
     else
      bnd (c3y N v8 (v8.length : Int) v8 0) fun y3 =>
      bif (a0T y3) then
       k0 (a0H y3)
      else
       bif (a0l y3).isSome then
        k0 0
       else
        none
 else
  none
def d7T (v0 : LB) (v1 v2 v3 v4 v5 v6 : Int) (v8 : LD) : Option (Int) := d7S N v0 v1 v2 v3 v4 v5 v6 v8 (fun p => some p)
theorem e2c (v0 : LB) (v1 v2 v3 v4 v5 v6 : Int) (v8 : LD) (k0 : Int → Option R) : d7S N v0 v1 v2 v3 v4 v5 v6 v8 k0 = (d7T N v0 v1 v2 v3 v4 v5 v6 v8).bind k0 := by
 unfold d7T d7S
 repeat' (first | with_reducible apply a0g | (with_reducible apply a0t; intro _) | rfl)
def f1e (L : List Lf) (k0 : Int → Option R) : Option R := d7S N (ls L 0) (li L 1) (li L 2) (li L 3) (li L 4) (li L 5) (li L 6) (ll L 8) k0
def d7U : Sh := { tmps := [(0, .g (.s :: rI 6 ([.sl 9])))], mem := [] }
def f1f (L : List Lf) : List (Bool × Res) := bnd (f1e N L (fun p => some p)) fun q => [(q.isSome, ([.c (.i .i64 (q.getD default))], []))]
theorem e7f (L : List Lf) : bd Tryz.prog (d7N N) (d7R N).h 50 d7U L = f1e N L (fun p => some ([.c (.i .i64 p)], [])) := by kernel_rfl
theorem f1g : a0L Tryz.prog 50 d7U (f1f N) :=
 (d7R N).fn a0c (b6P N) fun L x hx => ((e7f N L).trans ((e2c N ..).trans (a08 x hx)))
def e2d : a0d := ext 50 (a2l d7U (f1f N)) (d7N N)
theorem c3z : a0a Tryz.prog (e2d N) := a0L.to (f1g N) (b6P N)
def f1h : List (Nat × List Nat) := [(0, [0]), (1, [0]), (2, []), (3, [0]), (4, [0, 3]), (5, [13, 12, 11, 3]), (6, [11, 13, 3, 12]), (7, [5, 3, 13, 12, 11]), (8, [6, 3, 5, 13, 12, 11]), (9, [6]), (10, [3, 5, 13, 12, 11]), (11, []), (12, [3, 5, 13, 12, 11]), (13, [13, 12, 11, 3]), (14, [])]
def f1i : a0C := [(15, [3, 11, 12, 13], [10], [])]
def d7V (N : Nat) : Sg Tryz.prog 0 25 := .start f1i f1h
def a95 (w1 : LD) (w2 : Int) (w3 : Int) (w4 : (List (D × D))) (kr : Int → (List (D × D)) → Option R) (k0 : Int → Option R) (k1 : Unit → Option R) : Option R :=
 bif (decide (w3 < w2)) then
  bif (inB w3 w1.length) then
   bnd (d7T N ((w1.getD w3.toNat (.i 0)).cell 0).toS ((w1.getD w3.toNat (.i 0)).cell 1).toI ((w1.getD w3.toNat (.i 0)).cell 2).toI ((w1.getD w3.toNat (.i 0)).cell 3).toI ((w1.getD w3.toNat (.i 0)).cell 4).toI ((w1.getD w3.toNat (.i 0)).cell 5).toI ((w1.getD w3.toNat (.i 0)).cell 6).toI ((w1.getD w3.toNat (.i 0)).cell 7).items) fun y0 =>
   bif y0.isSome then
    bif ((y0.getD default) != 0) then
     k0 (y0.getD default)
    else
     bnd ((b0j Tryz.prog 9 (.s ((w1.getD w3.toNat (.i 0)).cell 0).toS) w4).getD (.b false)).toB fun y1 =>
     bif y1 then
      k0 5
     else
      bnd (d9p Tryz.prog 9 (.s ((w1.getD w3.toNat (.i 0)).cell 0).toS) (.b true) w4) fun y2 =>
      kr (IntKind.wrap .i64 (w3 + 1)) y2
   else
    none
  else
   none
 else
  k1 ()
def b6S (N : Nat) {R : Type} (w1 : LD) (w2 : Int) : Nat → Int → (List (D × D)) → (Int → Option R) → (Unit → Option R) → Option R
 | 0, _, _, _, _ => none
 | m + 1, w3, w4, k0, k1 => a95 N w1 w2 w3 w4 (fun w3 w4 => b6S N w1 w2 m w3 w4 k0 k1) k0 k1
def c3A (w1 : LD) (w2 : Int) (w3 : Int) (w4 : (List (D × D))) : Option (Sum (Int) (Unit)) := b6S N (R := (Sum (Int) (Unit))) w1 w2 N w3 w4 (fun p => some (.inl p)) (fun p => some (.inr p))
def b3l (L x : List Lf) (kr : List Lf → Option R) (k0 : Int → Option R) (k1 : Unit → Option R) : Option R := a95 N (ll L 1) (li L 2) (li x 0) (lm x 1) (fun w3 w4 => kr [.i w3, .m w4]) k0 k1
theorem c6f (L x : List Lf) (kr : List Lf → Option R) (k0 : Int → Option R) (k1 : Unit → Option R) : b3l N L x kr k0 k1 = (b3l N L x (fun y => some (.inl y)) (fun p => some (.inr (.inl p))) (fun p => some (.inr (.inr p)))).bind (a09 kr (a09 k0 k1)) := by
 unfold b3l a95
 repeat' (first | with_reducible apply a0g | (with_reducible apply a0t; intro _) | rfl)
def b6T (L : List Lf) (m : Nat) (x : List Lf) : Option (Sum (Int) (Unit)) := b6S N (R := (Sum (Int) (Unit))) (ll L 1) (li L 2) m (li x 0) (lm x 1) (fun p => some (.inl p)) (fun p => some (.inr p))
def b3m : Sh := { tmps := [(3, .c (.m 10)), (11, .c (.sl 40)), (12, .c (.i .i64)), (13, .c (.i .i64))], mem := [(10, .map 9 4)] }
def e2e (L : List Lf) : List (Bool × (Ex × St)) := bnd (b6T N L N (pk b3m [3, 4] L)) fun q => [((a0T q), (.ret, ⟨[(2, .c (.i .i64 (a0H q)))], []⟩)), ((a0l q).isSome, ((.exit 0), ⟨[], []⟩))]
theorem c8u (m : Nat) (kn : St → Option (Ex × St)) (L x : List Lf) : lpB Tryz.prog (e2d N) (d7V N).h 0 25 15 b3m [3, 4] [2] [] (m + 100) kn L x = b3l N L x (fun y => kn (a0k b3m (mx b3m [3, 4] L y))) (fun p => some (.ret, ⟨[(2, .c (.i .i64 p))], []⟩)) (fun _ => some ((.exit 0), ⟨[], []⟩)) := by kernel_rfl
theorem d7W (L : List Lf) (m : Nat) (x : List Lf) : b6T N L (m + 1) x = b3l N L x (b6T N L m) (fun p => some (.inl p)) (fun p => some (.inr p)) := by kernel_rfl
def d7X : Sg Tryz.prog 0 25 :=
 (d7V N).lp (e2e N) N a0c (c3z N) (fun m kn L x => (c8u N m kn L x).trans (c6f N L x _ _ _)) (fun L m x => (d7W N L m x).trans (c6f N L x (b6T N L m) (fun p => some (.inl p)) (fun p => some (.inr p)))) fun L x hx => (a34 a08) x hx
def d22 (v1 : LD) (k0 : Int → Option R) : Option R :=
 bif (decide ((v1.length : Int) > 5000)) then
  k0 3
 else
  bnd (c3A N v1 (v1.length : Int) 0 []) fun y0 =>
  bif (a0T y0) then
   k0 (a0H y0)
  else
   bif (a0l y0).isSome then
    k0 0
   else
    none
def d7Y (v1 : LD) : Option (Int) := d22 N v1 (fun p => some p)
theorem e2f (v1 : LD) (k0 : Int → Option R) : d22 N v1 k0 = (d7Y N v1).bind k0 := by
 unfold d7Y d22
 repeat' (first | with_reducible apply a0g | (with_reducible apply a0t; intro _) | rfl)
def d7Z : Sh := { tmps := [(0, .c (.sl 40))], mem := [] }
def f1j (L : List Lf) : List (Bool × Res) := bnd (d22 N (ll L 1) (fun p => some p)) fun q => [(q.isSome, ([.c (.i .i64 (q.getD default))], []))]
theorem e7g (L : List Lf) : bd Tryz.prog (e2d N) (d7X N).h 25 d7Z L = d22 N (ll L 1) (fun p => some ([.c (.i .i64 p)], [])) := by kernel_rfl
theorem f1k : a0L Tryz.prog 25 d7Z (f1j N) :=
 (d7X N).fn a0c (c3z N) fun L x hx => ((e7g N L).trans ((e2f N ..).trans (a08 x hx)))
def f1l : a0d := ext 25 (a2l d7Z (f1j N)) (e2d N)
theorem d04 : a0a Tryz.prog (f1l N) := a0L.to (f1k N) (c3z N)
abbrev a01 : Type := Bool → LD → Option (Bool × LD)
def d05 : Sh := { tmps := [(0, .c (.sl 40))], mem := [] }
def f1m (N : Nat) (rc70x1 : a01) (L : List Lf) : List (Bool × Res) := bnd (rc70x1 (lb L 0) (ll L 1)) fun q => [(q.isSome, ([.c (.sl 40 (q.getD default).1 (q.getD default).2)], []))]
def b1v (rc70x1 : a01) : a0d := ext 70 (a2l d05 ((f1m N) rc70x1)) (f1l N)
def f1n : List (Nat × List Nat) := [(0, [0]), (1, [0]), (2, [0]), (3, [0]), (4, [3, 4]), (5, [3, 4, 5]), (6, [4, 3, 5]), (8, [5, 4, 3]), (7, [5, 3, 4]), (9, [5])]
def f1o : a0C := [(15, [3, 4, 5], [5], [5]), (19, [3, 4, 5], [5], []), (24023, [3, 4, 5, 72], [5], [])]
def d70 (rc70x1 : a01) (hR70x1 : a0a Tryz.prog ((b1v N) rc70x1)) : Sg Tryz.prog 0 70 := .start f1o f1n
def a96 (N : Nat) (rc70x1 : a01) (w1 w3 : LD) (k0 : Bool → Option R) : Option R :=
 bif ((w3.length : Int) == 0) then
  k0 true
 else
  bif (decide ((w1.length : Int) > 0)) then
   bif (inB 0 w1.length) then
    bif (inB 0 w3.length) then
     bnd (decide (((w1.getD 0 (.i 0)).cell 2).toI < ((w3.getD 0 (.i 0)).cell 2).toI)) fun y0 =>
     bif y0 then
      k0 true
     else
      bif (inB 0 w1.length) then
       bif (inB 0 w3.length) then
        bnd (((w1.getD 0 (.i 0)).cell 2).toI == ((w3.getD 0 (.i 0)).cell 2).toI) fun y1 =>
        bif y1 then
         bif (inB 0 w1.length) then
          bif (inB 0 w3.length) then
           bnd (Op.bytesLess ((w1.getD 0 (.i 0)).cell 0).toS ((w3.getD 0 (.i 0)).cell 0).toS) fun y2 =>
           k0 y2
          else
           none
         else
          none
        else
         k0 false
       else
        none
      else
       none
    else
     none
   else
    none
  else
   k0 false
def b3n (rc70x1 : a01) (w1 w3 : LD) : Option (Bool) := a96 N rc70x1 w1 w3 (fun p => some p)
theorem c8v (rc70x1 : a01) (w1 w3 : LD) (k0 : Bool → Option R) : a96 N rc70x1 w1 w3 k0 = (b3n N rc70x1 w1 w3).bind k0 := by
 unfold b3n a96
 repeat' (first | with_reducible apply a0g | (with_reducible apply a0t; intro _) | rfl)
def c6g : Sh := { tmps := [(3, .c (.sl 40)), (4, .c (.sl 40)), (5, .c (.o 5))], mem := [(5, .row 40 true)] }
def c01 (L : List Lf) (p : Bool) : Ex × St := (.normal, mg (a0k c6g L) [3, 4, 5, 72] [(72, .c (.b p))] [5] [])
def e2g (rc70x1 : a01) (L : List Lf) : List (Bool × (Ex × St)) := bnd (a96 N rc70x1 (ll L 1) (ll L 3) (fun p => some p)) fun q => [(q.isSome, c01 L (q.getD default))]
theorem d23 (rc70x1 : a01) (hR70x1 : a0a Tryz.prog ((b1v N) rc70x1)) (L : List Lf) : pc Tryz.prog ((b1v N) rc70x1) ((d70 N) rc70x1 hR70x1).h 0 100 70 19 c6g L [3, 4, 5, 72] [5] = a96 N rc70x1 (ll L 1) (ll L 3) (fun p => some (c01 L p)) := by kernel_rfl
def d71 (rc70x1 : a01) (hR70x1 : a0a Tryz.prog ((b1v N) rc70x1)) : Sg Tryz.prog 0 70 :=
 ((d70 N) rc70x1 hR70x1).cut ((e2g N) rc70x1) a0c hR70x1 fun L x hx => (d23 N rc70x1 hR70x1 L).trans ((c8v N rc70x1 ..).trans (a08 x hx))
def a4o (N : Nat) (rc70x1 : a01) (w1 w3 : LD) (w4 : Bool) (w6 : LD) (k0 : LD × LD → Option R) (k1 : LD × LD → Option R) : Option R :=
 bif w4 then
  bif (inB 0 w1.length) then
   bif (decide ((w6.length + 1) * 88 ≤ b5p) && decide ((w6.length + 1) ≤ a0Q)) then
    bnd ((w6 ++ [(.a [(.s ((w1.getD 0 (.i 0)).cell 0).toS), (.i ((w1.getD 0 (.i 0)).cell 1).toI), (.i ((w1.getD 0 (.i 0)).cell 2).toI), (.i ((w1.getD 0 (.i 0)).cell 3).toI), (.i ((w1.getD 0 (.i 0)).cell 4).toI), (.i ((w1.getD 0 (.i 0)).cell 5).toI), (.i ((w1.getD 0 (.i 0)).cell 6).toI), (.l ((w1.getD 0 (.i 0)).cell 7).isNil ((w1.getD 0 (.i 0)).cell 7).items)])]) : List D) fun y0 =>
    bif ((decide (1 ≤ (w1.length : Int))) && (decide ((w1.length : Int) ≤ (w1.length : Int)))) then
     k0 (((w1.take (w1.length : Int).toNat).drop 1), y0)
    else
     none
   else
    none
  else
   none
 else
  bif (inB 0 w3.length) then
   bif (decide ((w6.length + 1) * 88 ≤ b5p) && decide ((w6.length + 1) ≤ a0Q)) then
    bnd ((w6 ++ [(.a [(.s ((w3.getD 0 (.i 0)).cell 0).toS), (.i ((w3.getD 0 (.i 0)).cell 1).toI), (.i ((w3.getD 0 (.i 0)).cell 2).toI), (.i ((w3.getD 0 (.i 0)).cell 3).toI), (.i ((w3.getD 0 (.i 0)).cell 4).toI), (.i ((w3.getD 0 (.i 0)).cell 5).toI), (.i ((w3.getD 0 (.i 0)).cell 6).toI), (.l ((w3.getD 0 (.i 0)).cell 7).isNil ((w3.getD 0 (.i 0)).cell 7).items)])]) : List D) fun y1 =>
    bif ((decide (1 ≤ (w3.length : Int))) && (decide ((w3.length : Int) ≤ (w3.length : Int)))) then
     k1 (((w3.take (w3.length : Int).toNat).drop 1), y1)
    else
     none
   else
    none
  else
   none
def a3w (rc70x1 : a01) (w1 w3 : LD) (w4 : Bool) (w6 : LD) : Option (Sum (LD × LD) (LD × LD)) := a4o N rc70x1 w1 w3 w4 w6 (fun p => some (.inl p)) (fun p => some (.inr p))
theorem b9C (rc70x1 : a01) (w1 w3 : LD) (w4 : Bool) (w6 : LD) (k0 : LD × LD → Option R) (k1 : LD × LD → Option R) : a4o N rc70x1 w1 w3 w4 w6 k0 k1 = (a3w N rc70x1 w1 w3 w4 w6).bind (a09 k0 k1) := by
 unfold a3w a4o
 repeat' (first | with_reducible apply a0g | (with_reducible apply a0t; intro _) | rfl)
def b8Q (rc70x1 : a01) (L : List Lf) (k0 : LD × LD → Option R) (k1 : LD × LD → Option R) : Option R := a4o N rc70x1 (ll L 1) (ll L 3) (lb L 4) (ll L 6) k0 k1
def c6h : Sh := { tmps := [(3, .c (.sl 40)), (4, .c (.sl 40)), (5, .c (.o 5)), (72, .c (.b))], mem := [(5, .row 40 true)] }
def b3o (L : List Lf) (p : LD × LD) : Ex × St := (.normal, ⟨[(3, .c (.sl 40 (lb L 0) p.1)), (4, .c (.sl 40 (lb L 2) (ll L 3))), (5, .c (.o 78))], [(78, .row 40 true false p.2)]⟩)
def b3p (L : List Lf) (p : LD × LD) : Ex × St := (.normal, ⟨[(3, .c (.sl 40 (lb L 0) (ll L 1))), (4, .c (.sl 40 (lb L 2) p.1)), (5, .c (.o 86))], [(86, .row 40 true false p.2)]⟩)
def c8w (rc70x1 : a01) (L : List Lf) : List (Bool × (Ex × St)) := bnd (b8Q N rc70x1 L (fun p => some (.inl p)) (fun p => some (.inr p))) fun q => [((a0T q), b3o L (a0H q)), ((a0l q).isSome, b3p L ((a0l q).getD default))]
theorem c3B (rc70x1 : a01) (hR70x1 : a0a Tryz.prog ((b1v N) rc70x1)) (L : List Lf) : pc Tryz.prog ((b1v N) rc70x1) ((d71 N) rc70x1 hR70x1).h 0 100 70 24023 c6h L [3, 4, 5] [78, 86] = b8Q N rc70x1 L (fun p => some (b3o L p)) (fun p => some (b3p L p)) := by kernel_rfl
def d72 (rc70x1 : a01) (hR70x1 : a0a Tryz.prog ((b1v N) rc70x1)) : Sg Tryz.prog 0 70 :=
 ((d71 N) rc70x1 hR70x1).cut ((c8w N) rc70x1) a0c hR70x1 fun L x hx => (c3B N rc70x1 hR70x1 L).trans ((b9C N rc70x1 ..).trans ((a34 a08) x hx))
def b3q (rc70x1 : a01) (w1 w3 : LD) (w4 : Bool) (w5 : LD) (kr : LD → LD → Bool → LD → Option R) (k0 : Bool × LD → Option R) : Option R :=
 bnd (bif (decide ((w1.length : Int) > 0)) then true else (decide ((w3.length : Int) > 0))) fun y0 =>
 bif y0 then
  bnd (b3n N rc70x1 w1 w3) fun y1 =>
  bif y1.isSome then
   bnd (a3w N rc70x1 w1 w3 (y1.getD default) w5) fun y2 =>
   bif (a0T y2) then
    kr (a0H y2).1 w3 false (a0H y2).2
   else
    bif (a0l y2).isSome then
     kr w1 ((a0l y2).getD default).1 false ((a0l y2).getD default).2
    else
     none
  else
   none
 else
  k0 (w4, w5)
def b6U (N : Nat) (rc70x1 : a01) {R : Type} : Nat → LD → LD → Bool → LD → (Bool × LD → Option R) → Option R
 | 0, _, _, _, _, _ => none
 | m + 1, w1, w3, w4, w5, k0 => b3q N rc70x1 w1 w3 w4 w5 (fun w1 w3 w4 w5 => b6U N rc70x1 m w1 w3 w4 w5 k0) k0
def c3C (rc70x1 : a01) (w1 w3 : LD) (w4 : Bool) (w5 : LD) : Option (Bool × LD) := b6U N rc70x1 (R := (Bool × LD)) N w1 w3 w4 w5 (fun p => some p)
def b3r (rc70x1 : a01) (L x : List Lf) (kr : List Lf → Option R) (k0 : Bool × LD → Option R) : Option R := b3q N rc70x1 (ll x 0) (ll x 1) (lb x 2) (ll x 3) (fun w1 w3 w4 w5 => kr [.l w1, .l w3, .b w4, .l w5]) k0
theorem c6i (rc70x1 : a01) (L x : List Lf) (kr : List Lf → Option R) (k0 : Bool × LD → Option R) : b3r N rc70x1 L x kr k0 = (b3r N rc70x1 L x (fun y => some (.inl y)) (fun p => some (.inr p))).bind (a09 kr k0) := by
 unfold b3r b3q
 repeat' (first | with_reducible apply a0g | (with_reducible apply a0t; intro _) | rfl)
def b6V (rc70x1 : a01) (L : List Lf) (m : Nat) (x : List Lf) : Option (Bool × LD) := b6U N rc70x1 (R := (Bool × LD)) m (ll x 0) (ll x 1) (lb x 2) (ll x 3) (fun p => some p)
def b3s : Sh := { tmps := [(3, .c (.sl 40)), (4, .c (.sl 40)), (5, .c (.o 5))], mem := [(5, .row 40 true)] }
def e2h (rc70x1 : a01) (L : List Lf) : List (Bool × (Ex × St)) := bnd (b6V N rc70x1 L N (pk b3s [1, 3, 4, 5] L)) fun q => [(q.isSome, ((.exit 0), ⟨[(5, .c (.o 5))], [(5, .row 40 true (q.getD default).1 (q.getD default).2)]⟩))]
theorem c8x (rc70x1 : a01) (hR70x1 : a0a Tryz.prog ((b1v N) rc70x1)) (m : Nat) (kn : St → Option (Ex × St)) (L x : List Lf) : lpB Tryz.prog ((b1v N) rc70x1) ((d72 N) rc70x1 hR70x1).h 0 70 15 b3s [1, 3, 4, 5] [2, 5] [5] (m + 100) kn L x = b3r N rc70x1 L x (fun y => kn (a0k b3s (mx b3s [1, 3, 4, 5] L y))) (fun p => some ((.exit 0), ⟨[(5, .c (.o 5))], [(5, .row 40 true p.1 p.2)]⟩)) := by kernel_rfl
theorem d73 (rc70x1 : a01) (L : List Lf) (m : Nat) (x : List Lf) : b6V N rc70x1 L (m + 1) x = b3r N rc70x1 L x (b6V N rc70x1 L m) some := by kernel_rfl
def d74 (rc70x1 : a01) (hR70x1 : a0a Tryz.prog ((b1v N) rc70x1)) : Sg Tryz.prog 0 70 :=
 ((d72 N) rc70x1 hR70x1).lp ((e2h N) rc70x1) N a0c hR70x1 (fun m kn L x => (c8x N rc70x1 hR70x1 m kn L x).trans (c6i N rc70x1 L x _ _)) (fun L m x => (d73 N rc70x1 L m x).trans (c6i N rc70x1 L x (b6V N rc70x1 L m) some)) fun L x hx => a08 x hx
def d75 (rc70x1 : a01) (v0 : Bool) (v1 : LD) (k0 : Bool × LD → Option R) : Option R :=
 bif (decide ((v1.length : Int) < 2)) then
  bif (decide ((0 + v1.length) * 88 ≤ b5p) && decide ((0 + v1.length) ≤ a0Q)) then
   k0 ((v1.isEmpty && false), v1)
  else
   none
 else
  bif ((decide (0 ≤ (IntKind.wrap .i64 ((v1.length : Int).tdiv 2)))) && (decide ((IntKind.wrap .i64 ((v1.length : Int).tdiv 2)) ≤ (v1.length : Int)))) then
   bnd (((v1.take (IntKind.wrap .i64 ((v1.length : Int).tdiv 2)).toNat).drop 0) : List D) fun y0 =>
   bnd (rc70x1 v0 y0) fun y1 =>
   bif y1.isSome then
    bif (((decide (0 ≤ (IntKind.wrap .i64 ((v1.length : Int).tdiv 2)))) && (decide ((IntKind.wrap .i64 ((v1.length : Int).tdiv 2)) ≤ (v1.length : Int)))) && (decide ((v1.length : Int) ≤ (v1.length : Int)))) then
     bnd (((v1.take (v1.length : Int).toNat).drop (IntKind.wrap .i64 ((v1.length : Int).tdiv 2)).toNat) : List D) fun y2 =>
     bnd (rc70x1 v0 y2) fun y3 =>
     bif y3.isSome then
      bnd (c3C N rc70x1 (y1.getD default).2 (y3.getD default).2 true []) fun y4 =>
      bif y4.isSome then
       k0 (y4.getD default)
      else
       none
     else
      none
    else
     none
   else
    none
  else
   none
def d24 (rc70x1 : a01) (v0 : Bool) (v1 : LD) : Option (Bool × LD) := d75 N rc70x1 v0 v1 (fun p => some p)
theorem e2i (rc70x1 : a01) (v0 : Bool) (v1 : LD) (k0 : Bool × LD → Option R) : d75 N rc70x1 v0 v1 k0 = (d24 N rc70x1 v0 v1).bind k0 := by
 unfold d24 d75
 repeat' (first | with_reducible apply a0g | (with_reducible apply a0t; intro _) | rfl)
theorem e7h (rc70x1 : a01) (hR70x1 : a0a Tryz.prog ((b1v N) rc70x1)) (L : List Lf) : bd Tryz.prog ((b1v N) rc70x1) ((d74 N) rc70x1 hR70x1).h 70 d05 L = d75 N rc70x1 (lb L 0) (ll L 1) (fun p => some ([.c (.sl 40 p.1 p.2)], [])) := by kernel_rfl
theorem e7i (rc70x1 : a01) (hR70x1 : a0a Tryz.prog ((b1v N) rc70x1)) (L : List Lf) (x : Res) (hx : a4Z ((f1m N) (fun v0 v1 => d24 N rc70x1 v0 v1) L) some = some x) : a1u Tryz.prog 70 (a5z (a0k d05 L).tmps) (a0k d05 L).mem x :=
 a3c (n := 200) a0c hR70x1 ((d74 N) rc70x1 hR70x1).ok rfl ((e7h N rc70x1 hR70x1 L).trans ((e2i N rc70x1 ..).trans (a08 x hx)))
def c3D (N : Nat) : Nat → a01
 | 0 => fun _ _ => none
 | m + 1 => fun v0 v1 => d24 N (c3D N m) v0 v1
theorem d76 (N : Nat) : ∀ m, a0a Tryz.prog ((b1v N) (c3D N m))
 | 0 => a0M (d04 N) (AM.enters_of (by kernel_rfl)) (a04 fun L x hx => by
  have h : (none : Option Res) = some x := hx
  cases h)
 | m + 1 => a0M (d04 N) (AM.enters_of (by kernel_rfl)) (a04 fun L x hx => e7i N (c3D N m) (d76 N m) L x hx)
def f1p : a0d := (b1v N) (c3D N N)
theorem d06 : a0a Tryz.prog (f1p N) := d76 N N
abbrev a0B : Type := Int → Int → Int → Int → LB → Bool → LD → LB → Int → Int → Int → Int → Int → Int → Bool → LD → Option (Bool)
def d07 : Sh := { tmps := [(0, .g (.i .i64 :: [.i .i64, .i .i64, .i .i64, .s, .sl 24])), (1, .g (.s :: rI 6 ([.sl 9])))], mem := [] }
def f1q (N : Nat) (rc51x1 : a0B) (L : List Lf) : List (Bool × Res) := bnd (rc51x1 (li L 0) (li L 1) (li L 2) (li L 3) (ls L 4) (lb L 5) (ll L 6) (ls L 7) (li L 8) (li L 9) (li L 10) (li L 11) (li L 12) (li L 13) (lb L 14) (ll L 15)) fun q => [(q.isSome, ([.c (.b (q.getD default))], []))]
def a9f (rc51x1 : a0B) : a0d := ext 51 (a2l d07 ((f1q N) rc51x1)) (f1p N)
def f1r : List (Nat × List Nat) := [(0, [0, 1]), (1, [2, 1]), (2, [1, 2, 5]), (3, [9, 2, 5]), (5, [9, 5, 2]), (7, [9, 2, 5]), (9, [9, 2, 5]), (11, [9, 2, 5]), (13, [9, 2, 5]), (14, [2]), (12, [2]), (10, [2]), (8, [2]), (6, [5]), (4, [2]), (15, [5])]
def f1s : a0C := []
def d77 (rc51x1 : a0B) (hR51x1 : a0a Tryz.prog ((a9f N) rc51x1)) : Sg Tryz.prog 0 85 := .start f1s f1r
def d78 (N : Nat) (rc51x1 : a0B) (v2 v3 v4 v5 v6 v9 : Int) (k0 : Int → R) : R :=
 bif (v9 == 1) then
  k0 v2
 else
  bif (v9 == 2) then
   k0 (IntKind.wrap .i64 (v2.tdiv 86400))
  else
   bif (v9 == 3) then
    k0 v3
   else
    bif (v9 == 4) then
     k0 v4
    else
     bif (v9 == 5) then
      k0 v5
     else
      bif (v9 == 6) then
       k0 v6
      else
       k0 ((IntKind.wrap .i64 (v2.tdiv 86400)).tmod 7)
def d25 (rc51x1 : a0B) (v2 v3 v4 v5 v6 v9 : Int) : Int := d78 N rc51x1 v2 v3 v4 v5 v6 v9 (fun p => p)
theorem e7j (rc51x1 : a0B) (v2 v3 v4 v5 v6 v9 : Int) (k0 : Int → R) : d78 N rc51x1 v2 v3 v4 v5 v6 v9 k0 = k0 (d25 N rc51x1 v2 v3 v4 v5 v6 v9) := by
 unfold d25 d78
 repeat' (first | rfl | apply a0n | (apply a0A; intro _))
def f1t (rc51x1 : a0B) (L : List Lf) (k0 : Int → R) : R := d78 N rc51x1 (li L 2) (li L 3) (li L 4) (li L 5) (li L 6) (li L 9) k0
def d79 : Sh := { tmps := [(0, .g (.s :: rI 6 ([.sl 9]))), (1, .c (.i .i64))], mem := [] }
def f1u (rc51x1 : a0B) (L : List Lf) : List (Bool × Res) := bnd (f1t N rc51x1 L (fun p => p)) fun q => [(true, ([.c (.i .i64 q)], []))]
theorem e7k (rc51x1 : a0B) (hR51x1 : a0a Tryz.prog ((a9f N) rc51x1)) (L : List Lf) : bd Tryz.prog ((a9f N) rc51x1) ((d77 N) rc51x1 hR51x1).h 85 d79 L = f1t N rc51x1 L (fun p => some ([.c (.i .i64 p)], [])) := by kernel_rfl
theorem f1v (rc51x1 : a0B) (hR51x1 : a0a Tryz.prog ((a9f N) rc51x1)) : a0L Tryz.prog 85 d79 ((f1u N) rc51x1) :=
 ((d77 N) rc51x1 hR51x1).fn a0c hR51x1 fun L x hx => ((e7k N rc51x1 hR51x1 L).trans ((e7j N rc51x1 ..).trans (a2h _ _ hx)))
def d8a (rc51x1 : a0B) : a0d := ext 85 (a2l d79 ((f1u N) rc51x1)) ((a9f N) rc51x1)
theorem b6W (rc51x1 : a0B) (hR51x1 : a0a Tryz.prog ((a9f N) rc51x1)) : a0a Tryz.prog ((d8a N) rc51x1) := a0L.to ((f1v N) rc51x1 hR51x1) hR51x1
def f1w : List (Nat × List Nat) := [(0, [0, 1]), (1, [2, 3]), (2, [13, 2, 3]), (10, [13, 2, 3]), (18, [13, 2, 3]), (20, [13, 3, 2]), (22, [13, 3, 2]), (30, [13, 3, 2]), (31, [3, 2]), (23, [3, 2]), (24, [62, 61, 60, 2]), (25, [60, 62, 2, 61]), (26, [10, 2, 62, 61, 60]), (27, []), (28, [62, 61, 60, 2]), (29, []), (21, [3, 2]), (19, [2, 3]), (11, [2, 3]), (12, [33, 32, 31, 3]), (13, [31, 33, 3, 32]), (14, [8, 3, 33, 32, 31]), (15, []), (16, [33, 32, 31, 3]), (17, []), (3, [2, 3]), (4, [19, 18, 17, 3]), (5, [17, 19, 3, 18]), (6, [6, 3, 19, 18, 17]), (7, []), (8, [19, 18, 17, 3]), (9, []), (32, [3, 2]), (33, [2, 11])]
def f1x : a0C := [(12, [3, 17, 18, 19], [3], []), (36, [3, 31, 32, 33], [3], []), (72, [2, 60, 61, 62], [2], [])]
def d8b (rc51x1 : a0B) (hR51x1 : a0a Tryz.prog ((a9f N) rc51x1)) : Sg Tryz.prog 0 51 := .start f1x f1w
def a97 (N : Nat) (rc51x1 : a0B) (w1 : LD) (w2 : Int) (w4 : LB) (w5 w6 w7 w8 w9 w10 : Int) (w11 : Bool) (w12 : LD) (w3 : Int) (kr : Int → Option R) (k0 : Unit → Option R) (k1 : Unit → Option R) : Option R :=
 bif (decide (w3 < w2)) then
  bif (inB w3 w1.length) then
   bnd (rc51x1 ((w1.getD w3.toNat (.i 0)).cell 0).toI ((w1.getD w3.toNat (.i 0)).cell 1).toI ((w1.getD w3.toNat (.i 0)).cell 2).toI ((w1.getD w3.toNat (.i 0)).cell 3).toI ((w1.getD w3.toNat (.i 0)).cell 4).toS ((w1.getD w3.toNat (.i 0)).cell 5).isNil ((w1.getD w3.toNat (.i 0)).cell 5).items w4 w5 w6 w7 w8 w9 w10 w11 w12) fun y0 =>
   bif y0.isSome then
    bif (!(y0.getD default)) then
     k0 ()
    else
     kr (IntKind.wrap .i64 (w3 + 1))
   else
    none
  else
   none
 else
  k1 ()
def b6X (N : Nat) (rc51x1 : a0B) {R : Type} (w1 : LD) (w2 : Int) (w4 : LB) (w5 w6 w7 w8 w9 w10 : Int) (w11 : Bool) (w12 : LD) : Nat → Int → (Unit → Option R) → (Unit → Option R) → Option R
 | 0, _, _, _ => none
 | m + 1, w3, k0, k1 => a97 N rc51x1 w1 w2 w4 w5 w6 w7 w8 w9 w10 w11 w12 w3 (fun w3 => b6X N rc51x1 w1 w2 w4 w5 w6 w7 w8 w9 w10 w11 w12 m w3 k0 k1) k0 k1
def b6Y (rc51x1 : a0B) (w1 : LD) (w2 : Int) (w4 : LB) (w5 w6 w7 w8 w9 w10 : Int) (w11 : Bool) (w12 : LD) (w3 : Int) : Option (Sum (Unit) (Unit)) := b6X N rc51x1 (R := (Sum (Unit) (Unit))) w1 w2 w4 w5 w6 w7 w8 w9 w10 w11 w12 N w3 (fun p => some (.inl p)) (fun p => some (.inr p))
def b3t (rc51x1 : a0B) (L x : List Lf) (kr : List Lf → Option R) (k0 : Unit → Option R) (k1 : Unit → Option R) : Option R := a97 N rc51x1 (ll L 1) (li L 2) (ls L 4) (li L 5) (li L 6) (li L 7) (li L 8) (li L 9) (li L 10) (lb L 11) (ll L 12) (li x 0) (fun w3 => kr [.i w3]) k0 k1
theorem c6j (rc51x1 : a0B) (L x : List Lf) (kr : List Lf → Option R) (k0 : Unit → Option R) (k1 : Unit → Option R) : b3t N rc51x1 L x kr k0 k1 = (b3t N rc51x1 L x (fun y => some (.inl y)) (fun p => some (.inr (.inl p))) (fun p => some (.inr (.inr p)))).bind (a09 kr (a09 k0 k1)) := by
 unfold b3t a97
 repeat' (first | with_reducible apply a0g | (with_reducible apply a0t; intro _) | rfl)
def b6Z (rc51x1 : a0B) (L : List Lf) (m : Nat) (x : List Lf) : Option (Sum (Unit) (Unit)) := b6X N rc51x1 (R := (Sum (Unit) (Unit))) (ll L 1) (li L 2) (ls L 4) (li L 5) (li L 6) (li L 7) (li L 8) (li L 9) (li L 10) (lb L 11) (ll L 12) m (li x 0) (fun p => some (.inl p)) (fun p => some (.inr p))
def a5Z : Sh := { tmps := [(3, .c (.p 3 0)), (17, .c (.sl 24)), (18, .c (.i .i64)), (19, .c (.i .i64))], mem := [(3, .box (.s :: rI 6 ([.sl 9])))] }
def c02 (L : List Lf) (_ : Unit) : Ex × St := (.ret, mg (a0k a5Z L) [4] [(4, .c (.b false))] [3] [])
def e2j (rc51x1 : a0B) (L : List Lf) : List (Bool × (Ex × St)) := bnd (b6Z N rc51x1 L N (pk a5Z [3] L)) fun q => [((a0T q), c02 L ()), ((a0l q).isSome, ((.exit 1), mg (a0k a5Z L) [3] [] [3] []))]
theorem c8y (rc51x1 : a0B) (hR51x1 : a0a Tryz.prog ((a9f N) rc51x1)) (m : Nat) (kn : St → Option (Ex × St)) (L x : List Lf) : lpB Tryz.prog ((d8a N) rc51x1) ((d8b N) rc51x1 hR51x1).h 0 51 12 a5Z [3] [2, 3, 4] [3] (m + 100) kn L x = b3t N rc51x1 L x (fun y => kn (a0k a5Z (mx a5Z [3] L y))) (fun _ => some (c02 L ())) (fun _ => some ((.exit 1), mg (a0k a5Z L) [3] [] [3] [])) := by kernel_rfl
theorem d8c (rc51x1 : a0B) (L : List Lf) (m : Nat) (x : List Lf) : b6Z N rc51x1 L (m + 1) x = b3t N rc51x1 L x (b6Z N rc51x1 L m) (fun p => some (.inl p)) (fun p => some (.inr p)) := by kernel_rfl
def d8d (rc51x1 : a0B) (hR51x1 : a0a Tryz.prog ((a9f N) rc51x1)) : Sg Tryz.prog 0 51 :=
 ((d8b N) rc51x1 hR51x1).lp ((e2j N) rc51x1) N a0c ((b6W N) rc51x1 hR51x1) (fun m kn L x => (c8y N rc51x1 hR51x1 m kn L x).trans (c6j N rc51x1 L x _ _ _)) (fun L m x => (d8c N rc51x1 L m x).trans (c6j N rc51x1 L x (b6Z N rc51x1 L m) (fun p => some (.inl p)) (fun p => some (.inr p)))) fun L x hx => (a34 a08) x hx
def a98 (N : Nat) (rc51x1 : a0B) (w1 : LD) (w2 : Int) (w4 : LB) (w5 w6 w7 w8 w9 w10 : Int) (w11 : Bool) (w12 : LD) (w3 : Int) (kr : Int → Option R) (k0 : Unit → Option R) (k1 : Unit → Option R) : Option R :=
 bif (decide (w3 < w2)) then
  bif (inB w3 w1.length) then
   bnd (rc51x1 ((w1.getD w3.toNat (.i 0)).cell 0).toI ((w1.getD w3.toNat (.i 0)).cell 1).toI ((w1.getD w3.toNat (.i 0)).cell 2).toI ((w1.getD w3.toNat (.i 0)).cell 3).toI ((w1.getD w3.toNat (.i 0)).cell 4).toS ((w1.getD w3.toNat (.i 0)).cell 5).isNil ((w1.getD w3.toNat (.i 0)).cell 5).items w4 w5 w6 w7 w8 w9 w10 w11 w12) fun y0 =>
   bif y0.isSome then
    bif (y0.getD default) then
     k0 ()
    else
     kr (IntKind.wrap .i64 (w3 + 1))
   else
    none
  else
   none
 else
  k1 ()
def b60 (N : Nat) (rc51x1 : a0B) {R : Type} (w1 : LD) (w2 : Int) (w4 : LB) (w5 w6 w7 w8 w9 w10 : Int) (w11 : Bool) (w12 : LD) : Nat → Int → (Unit → Option R) → (Unit → Option R) → Option R
 | 0, _, _, _ => none
 | m + 1, w3, k0, k1 => a98 N rc51x1 w1 w2 w4 w5 w6 w7 w8 w9 w10 w11 w12 w3 (fun w3 => b60 N rc51x1 w1 w2 w4 w5 w6 w7 w8 w9 w10 w11 w12 m w3 k0 k1) k0 k1
def b61 (rc51x1 : a0B) (w1 : LD) (w2 : Int) (w4 : LB) (w5 w6 w7 w8 w9 w10 : Int) (w11 : Bool) (w12 : LD) (w3 : Int) : Option (Sum (Unit) (Unit)) := b60 N rc51x1 (R := (Sum (Unit) (Unit))) w1 w2 w4 w5 w6 w7 w8 w9 w10 w11 w12 N w3 (fun p => some (.inl p)) (fun p => some (.inr p))
def b3u (rc51x1 : a0B) (L x : List Lf) (kr : List Lf → Option R) (k0 : Unit → Option R) (k1 : Unit → Option R) : Option R := a98 N rc51x1 (ll L 1) (li L 2) (ls L 4) (li L 5) (li L 6) (li L 7) (li L 8) (li L 9) (li L 10) (lb L 11) (ll L 12) (li x 0) (fun w3 => kr [.i w3]) k0 k1
theorem c6k (rc51x1 : a0B) (L x : List Lf) (kr : List Lf → Option R) (k0 : Unit → Option R) (k1 : Unit → Option R) : b3u N rc51x1 L x kr k0 k1 = (b3u N rc51x1 L x (fun y => some (.inl y)) (fun p => some (.inr (.inl p))) (fun p => some (.inr (.inr p)))).bind (a09 kr (a09 k0 k1)) := by
 unfold b3u a98
 repeat' (first | with_reducible apply a0g | (with_reducible apply a0t; intro _) | rfl)
def b62 (rc51x1 : a0B) (L : List Lf) (m : Nat) (x : List Lf) : Option (Sum (Unit) (Unit)) := b60 N rc51x1 (R := (Sum (Unit) (Unit))) (ll L 1) (li L 2) (ls L 4) (li L 5) (li L 6) (li L 7) (li L 8) (li L 9) (li L 10) (lb L 11) (ll L 12) m (li x 0) (fun p => some (.inl p)) (fun p => some (.inr p))
def a4J : Sh := { tmps := [(3, .c (.p 3 0)), (31, .c (.sl 24)), (32, .c (.i .i64)), (33, .c (.i .i64))], mem := [(3, .box (.s :: rI 6 ([.sl 9])))] }
def e2k (rc51x1 : a0B) (L : List Lf) : List (Bool × (Ex × St)) := bnd (b62 N rc51x1 L N (pk a4J [3] L)) fun q => [((a0T q), (.ret, mg (a0k a4J L) [4] [(4, .c (.b true))] [3] [])), ((a0l q).isSome, ((.exit 3), mg (a0k a4J L) [3] [] [3] []))]
theorem c8z (rc51x1 : a0B) (hR51x1 : a0a Tryz.prog ((a9f N) rc51x1)) (m : Nat) (kn : St → Option (Ex × St)) (L x : List Lf) : lpB Tryz.prog ((d8a N) rc51x1) ((d8d N) rc51x1 hR51x1).h 0 51 36 a4J [3] [2, 3, 4] [3] (m + 100) kn L x = b3u N rc51x1 L x (fun y => kn (a0k a4J (mx a4J [3] L y))) (fun _ => some (.ret, mg (a0k a4J L) [4] [(4, .c (.b true))] [3] [])) (fun _ => some ((.exit 3), mg (a0k a4J L) [3] [] [3] [])) := by kernel_rfl
theorem d8e (rc51x1 : a0B) (L : List Lf) (m : Nat) (x : List Lf) : b62 N rc51x1 L (m + 1) x = b3u N rc51x1 L x (b62 N rc51x1 L m) (fun p => some (.inl p)) (fun p => some (.inr p)) := by kernel_rfl
def d8f (rc51x1 : a0B) (hR51x1 : a0a Tryz.prog ((a9f N) rc51x1)) : Sg Tryz.prog 0 51 :=
 ((d8d N) rc51x1 hR51x1).lp ((e2k N) rc51x1) N a0c ((b6W N) rc51x1 hR51x1) (fun m kn L x => (c8z N rc51x1 hR51x1 m kn L x).trans (c6k N rc51x1 L x _ _ _)) (fun L m x => (d8e N rc51x1 L m x).trans (c6k N rc51x1 L x (b62 N rc51x1 L m) (fun p => some (.inl p)) (fun p => some (.inr p)))) fun L x hx => (a34 a08) x hx
def a99 (N : Nat) (rc51x1 : a0B) (w1 : LD) (w2 : Int) (w8 : LB) (w3 : Int) (kr : Int → Option R) (k0 : Unit → Option R) (k1 : Unit → Option R) : Option R :=
 bif (decide (w3 < w2)) then
  bif (inB w3 w1.length) then
   bif ((w1.getD w3.toNat (.i 0)).toS == w8) then
    k0 ()
   else
    kr (IntKind.wrap .i64 (w3 + 1))
  else
   none
 else
  k1 ()
def b63 (N : Nat) (rc51x1 : a0B) {R : Type} (w1 : LD) (w2 : Int) (w8 : LB) : Nat → Int → (Unit → Option R) → (Unit → Option R) → Option R
 | 0, _, _, _ => none
 | m + 1, w3, k0, k1 => a99 N rc51x1 w1 w2 w8 w3 (fun w3 => b63 N rc51x1 w1 w2 w8 m w3 k0 k1) k0 k1
def b64 (rc51x1 : a0B) (w1 : LD) (w2 : Int) (w8 : LB) (w3 : Int) : Option (Sum (Unit) (Unit)) := b63 N rc51x1 (R := (Sum (Unit) (Unit))) w1 w2 w8 N w3 (fun p => some (.inl p)) (fun p => some (.inr p))
def b3v (rc51x1 : a0B) (L x : List Lf) (kr : List Lf → Option R) (k0 : Unit → Option R) (k1 : Unit → Option R) : Option R := a99 N rc51x1 (ll L 1) (li L 2) (ls L 8) (li x 0) (fun w3 => kr [.i w3]) k0 k1
theorem c6l (rc51x1 : a0B) (L x : List Lf) (kr : List Lf → Option R) (k0 : Unit → Option R) (k1 : Unit → Option R) : b3v N rc51x1 L x kr k0 k1 = (b3v N rc51x1 L x (fun y => some (.inl y)) (fun p => some (.inr (.inl p))) (fun p => some (.inr (.inr p)))).bind (a09 kr (a09 k0 k1)) := by
 unfold b3v a99
 repeat' (first | with_reducible apply a0g | (with_reducible apply a0t; intro _) | rfl)
def b65 (rc51x1 : a0B) (L : List Lf) (m : Nat) (x : List Lf) : Option (Sum (Unit) (Unit)) := b63 N rc51x1 (R := (Sum (Unit) (Unit))) (ll L 1) (li L 2) (ls L 8) m (li x 0) (fun p => some (.inl p)) (fun p => some (.inr p))
def a4K : Sh := { tmps := [(2, .c (.p 2 0)), (60, .c (.sl 9)), (61, .c (.i .i64)), (62, .c (.i .i64))], mem := [(2, .box (.i .i64 :: [.i .i64, .i .i64, .i .i64, .s, .sl 24]))] }
def e2l (rc51x1 : a0B) (L : List Lf) : List (Bool × (Ex × St)) := bnd (b65 N rc51x1 L N (pk a4K [3] L)) fun q => [((a0T q), (.ret, mg (a0k a4K L) [4] [(4, .c (.b true))] [2] [])), ((a0l q).isSome, ((.exit 5), mg (a0k a4K L) [2] [] [2] []))]
theorem c8A (rc51x1 : a0B) (hR51x1 : a0a Tryz.prog ((a9f N) rc51x1)) (m : Nat) (kn : St → Option (Ex × St)) (L x : List Lf) : lpB Tryz.prog ((d8a N) rc51x1) ((d8f N) rc51x1 hR51x1).h 0 51 72 a4K [3] [2, 3, 4] [2] (m + 100) kn L x = b3v N rc51x1 L x (fun y => kn (a0k a4K (mx a4K [3] L y))) (fun _ => some (.ret, mg (a0k a4K L) [4] [(4, .c (.b true))] [2] [])) (fun _ => some ((.exit 5), mg (a0k a4K L) [2] [] [2] [])) := by kernel_rfl
theorem d8g (rc51x1 : a0B) (L : List Lf) (m : Nat) (x : List Lf) : b65 N rc51x1 L (m + 1) x = b3v N rc51x1 L x (b65 N rc51x1 L m) (fun p => some (.inl p)) (fun p => some (.inr p)) := by kernel_rfl
def d8h (rc51x1 : a0B) (hR51x1 : a0a Tryz.prog ((a9f N) rc51x1)) : Sg Tryz.prog 0 51 :=
 ((d8f N) rc51x1 hR51x1).lp ((e2l N) rc51x1) N a0c ((b6W N) rc51x1 hR51x1) (fun m kn L x => (c8A N rc51x1 hR51x1 m kn L x).trans (c6l N rc51x1 L x _ _ _)) (fun L m x => (d8g N rc51x1 L m x).trans (c6l N rc51x1 L x (b65 N rc51x1 L m) (fun p => some (.inl p)) (fun p => some (.inr p)))) fun L x hx => (a34 a08) x hx
def d8i (rc51x1 : a0B) (v0 v1 v2 v3 : Int) (v4 : LB) (v5 : Bool) (v6 : LD) (v7 : LB) (v8 v9 v10 v11 v12 v13 : Int) (v14 : Bool) (v15 : LD) (k0 : Bool → Option R) : Option R :=
 bif (v0 == 1) then
  bnd (b6Y N rc51x1 v6 (v6.length : Int) v7 v8 v9 v10 v11 v12 v13 v14 v15 0) fun y0 =>
  bif (a0T y0) then
   k0 false
  else
   bif (a0l y0).isSome then
    k0 true
   else
    none
 else
  bif (v0 == 2) then
   bnd (b61 N rc51x1 v6 (v6.length : Int) v7 v8 v9 v10 v11 v12 v13 v14 v15 0) fun y1 =>
   bif (a0T y1) then
    k0 true
   else
    bif (a0l y1).isSome then
     k0 false
    else
     none
  else
   bif (v0 == 3) then
    bif (inB 0 v6.length) then
     bnd (rc51x1 ((v6.getD 0 (.i 0)).cell 0).toI ((v6.getD 0 (.i 0)).cell 1).toI ((v6.getD 0 (.i 0)).cell 2).toI ((v6.getD 0 (.i 0)).cell 3).toI ((v6.getD 0 (.i 0)).cell 4).toS ((v6.getD 0 (.i 0)).cell 5).isNil ((v6.getD 0 (.i 0)).cell 5).items v7 v8 v9 v10 v11 v12 v13 v14 v15) fun y2 =>
     bif y2.isSome then
      k0 (!(y2.getD default))
     else
      none
    else
     none
   else
    bif (v0 == 4) then
     k0 (v8 == v2)
    else
     bif (v0 == 5) then
      bnd (b64 N rc51x1 v15 (v15.length : Int) v4 0) fun y3 =>
      bif (a0T y3) then
       k0 true
      else
       bif (a0l y3).isSome then
        k0 false
       else
        none
     else
      bif (v0 == 6) then
       bif (Nat.blt v7.length 4294967281) then
        k0 (Lib.contains v7 v4)
       else
        none
      else
       bnd (d25 N rc51x1 v9 v10 v11 v12 v13 v1) fun y4 =>
       bnd (bif (decide (v2 ≤ y4)) then (decide (y4 ≤ v3)) else false) fun y5 =>
       k0 y5
def d26 (rc51x1 : a0B) (v0 v1 v2 v3 : Int) (v4 : LB) (v5 : Bool) (v6 : LD) (v7 : LB) (v8 v9 v10 v11 v12 v13 : Int) (v14 : Bool) (v15 : LD) : Option (Bool) := d8i N rc51x1 v0 v1 v2 v3 v4 v5 v6 v7 v8 v9 v10 v11 v12 v13 v14 v15 (fun p => some p)
theorem e2m (rc51x1 : a0B) (v0 v1 v2 v3 : Int) (v4 : LB) (v5 : Bool) (v6 : LD) (v7 : LB) (v8 v9 v10 v11 v12 v13 : Int) (v14 : Bool) (v15 : LD) (k0 : Bool → Option R) : d8i N rc51x1 v0 v1 v2 v3 v4 v5 v6 v7 v8 v9 v10 v11 v12 v13 v14 v15 k0 = (d26 N rc51x1 v0 v1 v2 v3 v4 v5 v6 v7 v8 v9 v10 v11 v12 v13 v14 v15).bind k0 := by
 unfold d26 d8i
 repeat' (first | with_reducible apply a0g | (with_reducible apply a0t; intro _) | rfl)
def f3r (rc51x1 : a0B) (L : List Lf) (k0 : Bool → Option R) : Option R := d8i N rc51x1 (li L 0) (li L 1) (li L 2) (li L 3) (ls L 4) (lb L 5) (ll L 6) (ls L 7) (li L 8) (li L 9) (li L 10) (li L 11) (li L 12) (li L 13) (lb L 14) (ll L 15) k0
theorem e7l (rc51x1 : a0B) (hR51x1 : a0a Tryz.prog ((a9f N) rc51x1)) (L : List Lf) : bd Tryz.prog ((d8a N) rc51x1) ((d8h N) rc51x1 hR51x1).h 51 d07 L = f3r N rc51x1 L (fun p => some ([.c (.b p)], [])) := by kernel_rfl
theorem e7m (rc51x1 : a0B) (hR51x1 : a0a Tryz.prog ((a9f N) rc51x1)) (L : List Lf) (x : Res) (hx : a4Z ((f1q N) (fun v0 v1 v2 v3 v4 v5 v6 v7 v8 v9 v10 v11 v12 v13 v14 v15 => d26 N rc51x1 v0 v1 v2 v3 v4 v5 v6 v7 v8 v9 v10 v11 v12 v13 v14 v15) L) some = some x) : a1u Tryz.prog 51 (a5z (a0k d07 L).tmps) (a0k d07 L).mem x :=
 a3c (n := 200) a0c ((b6W N) rc51x1 hR51x1) ((d8h N) rc51x1 hR51x1).ok rfl ((e7l N rc51x1 hR51x1 L).trans ((e2m N rc51x1 ..).trans (a08 x hx)))
def b9D (N : Nat) : Nat → a0B
 | 0 => fun _ _ _ _ _ _ _ _ _ _ _ _ _ _ _ _ => none
 | m + 1 => fun v0 v1 v2 v3 v4 v5 v6 v7 v8 v9 v10 v11 v12 v13 v14 v15 => d26 N (b9D N m) v0 v1 v2 v3 v4 v5 v6 v7 v8 v9 v10 v11 v12 v13 v14 v15
theorem d8j (N : Nat) : ∀ m, a0a Tryz.prog ((a9f N) (b9D N m))
 | 0 => a0M (d06 N) (AM.enters_of (by kernel_rfl)) (a04 fun L x hx => by
  have h : (none : Option Res) = some x := hx
  cases h)
 | m + 1 => a0M (d06 N) (AM.enters_of (by kernel_rfl)) (a04 fun L x hx => e7m N (b9D N m) (d8j N m) L x hx)
def e7n : a0d := (a9f N) (b9D N N)
theorem d08 : a0a Tryz.prog (e7n N) := d8j N N
def f1y : List (Nat × List Nat) := [(0, [0, 1]), (1, [2, 1]), (2, [1, 2, 5]), (3, [9, 2, 5]), (5, [9, 5, 2]), (7, [9, 2, 5]), (9, [9, 2, 5]), (11, [9, 2, 5]), (13, [9, 2, 5]), (14, [2]), (12, [2]), (10, [2]), (8, [2]), (6, [5]), (4, [2]), (15, [5])]
def f1z : a0C := []
def d8k (N : Nat) : Sg Tryz.prog 0 85 := .start f1z f1y
def e2n (N : Nat) (v2 v3 v4 v5 v6 v9 : Int) (k0 : Int → R) : R :=
 bif (v9 == 1) then
  k0 v2
 else
  bif (v9 == 2) then
   k0 (IntKind.wrap .i64 (v2.tdiv 86400))
  else
   bif (v9 == 3) then
    k0 v3
   else
    bif (v9 == 4) then
     k0 v4
    else
     bif (v9 == 5) then
      k0 v5
     else
      bif (v9 == 6) then
       k0 v6
      else
       k0 ((IntKind.wrap .i64 (v2.tdiv 86400)).tmod 7)
def c6m (v2 v3 v4 v5 v6 v9 : Int) : Int := e2n N v2 v3 v4 v5 v6 v9 (fun p => p)
theorem e7o (v2 v3 v4 v5 v6 v9 : Int) (k0 : Int → R) : e2n N v2 v3 v4 v5 v6 v9 k0 = k0 (c6m N v2 v3 v4 v5 v6 v9) := by
 unfold c6m e2n
 repeat' (first | rfl | apply a0n | (apply a0A; intro _))
def f1A (L : List Lf) (k0 : Int → R) : R := e2n N (li L 2) (li L 3) (li L 4) (li L 5) (li L 6) (li L 9) k0
def d8l : Sh := { tmps := [(0, .g (.s :: rI 6 ([.sl 9]))), (1, .c (.i .i64))], mem := [] }
def f1B (L : List Lf) : List (Bool × Res) := bnd (f1A N L (fun p => p)) fun q => [(true, ([.c (.i .i64 q)], []))]
theorem e7p (L : List Lf) : bd Tryz.prog (e7n N) (d8k N).h 85 d8l L = f1A N L (fun p => some ([.c (.i .i64 p)], [])) := by kernel_rfl
theorem f1C : a0L Tryz.prog 85 d8l (f1B N) :=
 (d8k N).fn a0c (d08 N) fun L x hx => ((e7p N L).trans ((e7o N ..).trans (a2h _ _ hx)))
def b9E : a0d := ext 85 (a2l d8l (f1B N)) (e7n N)
theorem a5f : a0a Tryz.prog (b9E N) := a0L.to (f1C N) (d08 N)
def f1D : List (Nat × List Nat) := [(0, [0, 1]), (1, [1, 2, 4]), (2, [1, 2, 9, 8, 6, 7, 4]), (3, [16, 15, 14, 2, 9, 8, 6, 7, 4]), (4, [14, 16, 2, 15, 9, 8, 6, 7, 4]), (5, [2, 11, 16, 15, 14, 9, 8, 6, 7, 4]), (6, [11, 9, 8, 6, 2, 7, 4, 16, 15, 14]), (7, [12, 9, 8, 6, 2, 7, 11, 4, 16, 15, 14]), (9, [12, 9, 6, 2, 7, 11, 4, 16, 15, 14, 8]), (10, [12, 6, 2, 7, 11, 4, 16, 15, 14]), (8, [8, 12, 6, 2, 7, 11, 4, 16, 15, 14]), (11, [12, 6, 2, 7, 11, 4, 16, 15, 14, 8]), (12, [6, 2, 7, 11, 4, 16, 15, 14, 9, 8]), (13, [2, 7, 11, 6, 4, 16, 15, 14, 9, 8]), (14, [7, 11, 2, 6, 4, 16, 15, 14, 9, 8]), (15, [2, 6, 11, 4, 16, 15, 14, 9, 8, 7]), (16, [2, 6, 11, 4, 16, 15, 14, 9, 8, 7]), (18, [52, 6, 2, 11, 4, 16, 15, 14, 9, 8, 7]), (20, [52, 7, 2, 11, 4, 16, 15, 14, 9, 8, 6]), (22, [52, 11, 2, 4, 16, 15, 14, 9, 8, 6, 7]), (17, [8, 2, 11, 4, 16, 15, 14, 9, 6, 7]), (23, [11, 2, 4, 16, 15, 14, 9, 8, 6, 7]), (21, [7, 2, 11, 4, 16, 15, 14, 9, 8, 6]), (19, [6, 2, 11, 4, 16, 15, 14, 9, 8, 7]), (24, [13, 11, 4, 16, 15, 14, 2, 9, 8, 6, 7]), (25, [11, 4]), (26, [16, 15, 14, 2, 9, 8, 6, 7, 4]), (27, [4])]
def f1E : a0C := [(9, [2, 4, 6, 7, 8, 9, 14, 15, 16], [2, 4], []), (32, [2, 4, 6, 7, 8, 11, 12, 14, 15, 16, 35], [2, 4, 11], []), (27026, [2, 4, 6, 7, 8, 9, 11, 12, 14, 15, 16, 28], [2, 4, 11], []), (44, [2, 4, 6, 7, 8, 9, 11, 14, 15, 16, 44], [2, 4, 11], []), (51071, [2, 4, 6, 7, 8, 9, 11, 14, 15, 16, 69], [2, 4, 11], []), (66065, [2, 4, 6, 7, 8, 9, 11, 14, 15, 16, 52, 63], [2, 4, 11], []), (60059, [2, 4, 6, 7, 8, 9, 11, 14, 15, 16, 52, 57], [2, 4, 11], [])]
def d8m (N : Nat) : Sg Tryz.prog 0 71 := .start f1E f1D
def b0a (N : Nat) (w2 : Int) (w8 : Bool) (k0 : Int → R) : R :=
 bif w8 then
  k0 1
 else
  k0 w2
def b66 (w2 : Int) (w8 : Bool) : Int := b0a N w2 w8 (fun p => p)
theorem d27 (w2 : Int) (w8 : Bool) (k0 : Int → R) : b0a N w2 w8 k0 = k0 (b66 N w2 w8) := by
 unfold b66 b0a
 repeat' (first | rfl | apply a0n | (apply a0A; intro _))
def c6n : Sh := { tmps := [(2, .c (.p 2 0)), (4, .c (.p 4 0)), (6, .c (.i .i64)), (7, .c (.i .i64)), (8, .c (.i .i64)), (11, .c (.p 11 0)), (12, .c (.i .i64)), (14, .c (.sl 40)), (15, .c (.i .i64)), (16, .c (.i .i64)), (35, .c (.b))], mem := [(2, .box (.s :: rI 7 ([.s, .sl 24]))), (4, .box (.s :: rI 6 ([.sl 9]))), (11, .box (.s :: rI 6 ([.sl 9])))] }
def c03 (L : List Lf) (p : Int) : Ex × St := (.normal, mg (a0k c6n L) [2, 4, 6, 7, 8, 11, 12, 14, 15, 16] [(8, .c (.i .i64 p))] [2, 4, 11] [])
def e2o (L : List Lf) : List (Bool × (Ex × St)) := bnd (b0a N (li L 2) (lb L 8) (fun p => p)) fun q => [(true, c03 L q)]
theorem d28 (L : List Lf) : pc Tryz.prog (b9E N) (d8m N).h 0 100 71 32 c6n L [2, 4, 6, 7, 8, 11, 12, 14, 15, 16] [2, 4, 11] = b0a N (li L 2) (lb L 8) (fun p => some (c03 L p)) := by kernel_rfl
def d8n : Sg Tryz.prog 0 71 :=
 (d8m N).cut (e2o N) a0c (a5f N) fun L x hx => (d28 N L).trans ((d27 N ..).trans (a2h _ _ hx))
def a52 (w2 w3 w4 : Int) (w9 : Bool) (k0 : Int → R) : R :=
 bif w9 then
  k0 (IntKind.wrap .i64 (w2 + 1))
 else
  bnd (b66 N w2 (w4 != w3)) fun y0 =>
  k0 y0
def a54 (w2 w3 w4 : Int) (w9 : Bool) : Int := a52 N w2 w3 w4 w9 (fun p => p)
theorem c3E (w2 w3 w4 : Int) (w9 : Bool) (k0 : Int → R) : a52 N w2 w3 w4 w9 k0 = k0 (a54 N w2 w3 w4 w9) := by
 unfold a54 a52
 repeat' (first | rfl | apply a0n | (apply a0A; intro _))
def b8R (L : List Lf) (k0 : Int → R) : R := a52 N (li L 2) (li L 3) (li L 4) (lb L 9) k0
def b5j : Sh := { tmps := [(2, .c (.p 2 0)), (4, .c (.p 4 0)), (6, .c (.i .i64)), (7, .c (.i .i64)), (8, .c (.i .i64)), (9, .c (.i .i64)), (11, .c (.p 11 0)), (12, .c (.i .i64)), (14, .c (.sl 40)), (15, .c (.i .i64)), (16, .c (.i .i64)), (28, .c (.b))], mem := [(2, .box (.s :: rI 7 ([.s, .sl 24]))), (4, .box (.s :: rI 6 ([.sl 9]))), (11, .box (.s :: rI 6 ([.sl 9])))] }
def b3w (L : List Lf) (p : Int) : Ex × St := (.normal, mg (a0k b5j L) [2, 4, 6, 7, 8, 11, 12, 14, 15, 16] [(8, .c (.i .i64 p))] [2, 4, 11] [])
def c8B (L : List Lf) : List (Bool × (Ex × St)) := bnd (b8R N L (fun p => p)) fun q => [(true, b3w L q)]
theorem c3F (L : List Lf) : pc Tryz.prog (b9E N) (d8n N).h 0 100 71 27026 b5j L [2, 4, 6, 7, 8, 11, 12, 14, 15, 16] [2, 4, 11] = b8R N L (fun p => some (b3w L p)) := by kernel_rfl
def d8o : Sg Tryz.prog 0 71 :=
 (d8n N).cut (c8B N) a0c (a5f N) fun L x hx => (c3F N L).trans ((c3E N ..).trans (a2h _ _ hx))
def b3x (w1 : Int) (w8 : Bool) (w11 w31 w32 w33 w34 w35 : Int) (k0 : Int → R) : R :=
 bif w8 then
  bnd (c6m N w31 w32 w33 w34 w35 w11) fun y0 =>
  k0 (IntKind.wrap .i64 (w1 + y0))
 else
  k0 w1
def b3y (w1 : Int) (w8 : Bool) (w11 w31 w32 w33 w34 w35 : Int) : Int := b3x N w1 w8 w11 w31 w32 w33 w34 w35 (fun p => p)
theorem d29 (w1 : Int) (w8 : Bool) (w11 w31 w32 w33 w34 w35 : Int) (k0 : Int → R) : b3x N w1 w8 w11 w31 w32 w33 w34 w35 k0 = k0 (b3y N w1 w8 w11 w31 w32 w33 w34 w35) := by
 unfold b3y b3x
 repeat' (first | rfl | apply a0n | (apply a0A; intro _))
def d09 (L : List Lf) (k0 : Int → R) : R := b3x N (li L 1) (lb L 8) (li L 11) (li L 31) (li L 32) (li L 33) (li L 34) (li L 35) k0
def c6o : Sh := { tmps := [(2, .c (.p 2 0)), (4, .c (.p 4 0)), (6, .c (.i .i64)), (7, .c (.i .i64)), (8, .c (.i .i64)), (9, .c (.i .i64)), (11, .c (.p 11 0)), (14, .c (.sl 40)), (15, .c (.i .i64)), (16, .c (.i .i64)), (44, .c (.b))], mem := [(2, .box (.s :: rI 7 ([.s, .sl 24]))), (4, .box (.s :: rI 6 ([.sl 9]))), (11, .box (.s :: rI 6 ([.sl 9])))] }
def c04 (L : List Lf) (p : Int) : Ex × St := (.normal, mg (a0k c6o L) [2, 4, 6, 7, 8, 9, 11, 14, 15, 16] [(7, .c (.i .i64 p))] [2, 4, 11] [])
def e2p (L : List Lf) : List (Bool × (Ex × St)) := bnd (d09 N L (fun p => p)) fun q => [(true, c04 L q)]
theorem d3a (L : List Lf) : pc Tryz.prog (b9E N) (d8o N).h 0 100 71 44 c6o L [2, 4, 6, 7, 8, 9, 11, 14, 15, 16] [2, 4, 11] = d09 N L (fun p => some (c04 L p)) := by kernel_rfl
def d8p : Sg Tryz.prog 0 71 :=
 (d8o N).cut (e2p N) a0c (a5f N) fun L x hx => (d3a N L).trans ((d29 N ..).trans (a2h _ _ hx))
def a56 (w2 : Int) (w8 : Bool) (w11 w12 w31 w32 w33 w34 w35 : Int) (k0 : Bool → R) : R :=
 bif w8 then
  bnd (c6m N w31 w32 w33 w34 w35 w11) fun y0 =>
  k0 (decide (y0 ≥ w12))
 else
  k0 (decide (w2 ≥ w12))
def a7U (w2 : Int) (w8 : Bool) (w11 w12 w31 w32 w33 w34 w35 : Int) : Bool := a56 N w2 w8 w11 w12 w31 w32 w33 w34 w35 (fun p => p)
theorem c3G (w2 : Int) (w8 : Bool) (w11 w12 w31 w32 w33 w34 w35 : Int) (k0 : Bool → R) : a56 N w2 w8 w11 w12 w31 w32 w33 w34 w35 k0 = k0 (a7U N w2 w8 w11 w12 w31 w32 w33 w34 w35) := by
 unfold a7U a56
 repeat' (first | rfl | apply a0n | (apply a0A; intro _))
def b8S (L : List Lf) (k0 : Bool → R) : R := a56 N (li L 2) (lb L 8) (li L 11) (li L 12) (li L 31) (li L 32) (li L 33) (li L 34) (li L 35) k0
def b5k : Sh := { tmps := [(2, .c (.p 2 0)), (4, .c (.p 4 0)), (6, .c (.i .i64)), (7, .c (.i .i64)), (8, .c (.i .i64)), (9, .c (.i .i64)), (11, .c (.p 11 0)), (14, .c (.sl 40)), (15, .c (.i .i64)), (16, .c (.i .i64)), (69, .c (.b))], mem := [(2, .box (.s :: rI 7 ([.s, .sl 24]))), (4, .box (.s :: rI 6 ([.sl 9]))), (11, .box (.s :: rI 6 ([.sl 9])))] }
def b3z (L : List Lf) (p : Bool) : Ex × St := (.normal, mg (a0k b5k L) [2, 4, 6, 7, 8, 9, 11, 13, 14, 15, 16] [(13, .c (.b p))] [2, 4, 11] [])
def c8C (L : List Lf) : List (Bool × (Ex × St)) := bnd (b8S N L (fun p => p)) fun q => [(true, b3z L q)]
theorem c3H (L : List Lf) : pc Tryz.prog (b9E N) (d8p N).h 0 100 71 51071 b5k L [2, 4, 6, 7, 8, 9, 11, 13, 14, 15, 16] [2, 4, 11] = b8S N L (fun p => some (b3z L p)) := by kernel_rfl
def d8q : Sg Tryz.prog 0 71 :=
 (d8p N).cut (c8C N) a0c (a5f N) fun L x hx => (c3H N L).trans ((c3G N ..).trans (a2h _ _ hx))
def a57 (w1 w2 w8 : Int) (w9 : Bool) (w12 w13 w32 w33 w34 w35 w36 : Int) (k0 : Bool → R) : R :=
 bif w9 then
  k0 (decide (w1 ≥ w13))
 else
  bnd (a7U N w2 (w8 == 3) w12 w13 w32 w33 w34 w35 w36) fun y0 =>
  k0 y0
def a7V (w1 w2 w8 : Int) (w9 : Bool) (w12 w13 w32 w33 w34 w35 w36 : Int) : Bool := a57 N w1 w2 w8 w9 w12 w13 w32 w33 w34 w35 w36 (fun p => p)
theorem c3I (w1 w2 w8 : Int) (w9 : Bool) (w12 w13 w32 w33 w34 w35 w36 : Int) (k0 : Bool → R) : a57 N w1 w2 w8 w9 w12 w13 w32 w33 w34 w35 w36 k0 = k0 (a7V N w1 w2 w8 w9 w12 w13 w32 w33 w34 w35 w36) := by
 unfold a7V a57
 repeat' (first | rfl | apply a0n | (apply a0A; intro _))
def b8T (L : List Lf) (k0 : Bool → R) : R := a57 N (li L 1) (li L 2) (li L 8) (lb L 9) (li L 12) (li L 13) (li L 32) (li L 33) (li L 34) (li L 35) (li L 36) k0
def b5l : Sh := { tmps := [(2, .c (.p 2 0)), (4, .c (.p 4 0)), (6, .c (.i .i64)), (7, .c (.i .i64)), (8, .c (.i .i64)), (9, .c (.i .i64)), (11, .c (.p 11 0)), (14, .c (.sl 40)), (15, .c (.i .i64)), (16, .c (.i .i64)), (52, .c (.i .i64)), (63, .c (.b))], mem := [(2, .box (.s :: rI 7 ([.s, .sl 24]))), (4, .box (.s :: rI 6 ([.sl 9]))), (11, .box (.s :: rI 6 ([.sl 9])))] }
def b3A (L : List Lf) (p : Bool) : Ex × St := (.normal, mg (a0k b5l L) [2, 4, 6, 7, 8, 9, 11, 13, 14, 15, 16] [(13, .c (.b p))] [2, 4, 11] [])
def c8D (L : List Lf) : List (Bool × (Ex × St)) := bnd (b8T N L (fun p => p)) fun q => [(true, b3A L q)]
theorem c3J (L : List Lf) : pc Tryz.prog (b9E N) (d8q N).h 0 100 71 66065 b5l L [2, 4, 6, 7, 8, 9, 11, 13, 14, 15, 16] [2, 4, 11] = b8T N L (fun p => some (b3A L p)) := by kernel_rfl
def d8r : Sg Tryz.prog 0 71 :=
 (d8q N).cut (c8D N) a0c (a5f N) fun L x hx => (c3J N L).trans ((c3I N ..).trans (a2h _ _ hx))
def a58 (w0 w1 w2 w8 : Int) (w9 : Bool) (w12 w13 w32 w33 w34 w35 w36 : Int) (k0 : Bool → R) : R :=
 bif w9 then
  k0 (decide (w0 ≥ w13))
 else
  bnd (a7V N w1 w2 w8 (w8 == 2) w12 w13 w32 w33 w34 w35 w36) fun y0 =>
  k0 y0
def a59 (w0 w1 w2 w8 : Int) (w9 : Bool) (w12 w13 w32 w33 w34 w35 w36 : Int) : Bool := a58 N w0 w1 w2 w8 w9 w12 w13 w32 w33 w34 w35 w36 (fun p => p)
theorem c3K (w0 w1 w2 w8 : Int) (w9 : Bool) (w12 w13 w32 w33 w34 w35 w36 : Int) (k0 : Bool → R) : a58 N w0 w1 w2 w8 w9 w12 w13 w32 w33 w34 w35 w36 k0 = k0 (a59 N w0 w1 w2 w8 w9 w12 w13 w32 w33 w34 w35 w36) := by
 unfold a59 a58
 repeat' (first | rfl | apply a0n | (apply a0A; intro _))
def b8U (L : List Lf) (k0 : Bool → R) : R := a58 N (li L 0) (li L 1) (li L 2) (li L 8) (lb L 9) (li L 12) (li L 13) (li L 32) (li L 33) (li L 34) (li L 35) (li L 36) k0
def b5m : Sh := { tmps := [(2, .c (.p 2 0)), (4, .c (.p 4 0)), (6, .c (.i .i64)), (7, .c (.i .i64)), (8, .c (.i .i64)), (9, .c (.i .i64)), (11, .c (.p 11 0)), (14, .c (.sl 40)), (15, .c (.i .i64)), (16, .c (.i .i64)), (52, .c (.i .i64)), (57, .c (.b))], mem := [(2, .box (.s :: rI 7 ([.s, .sl 24]))), (4, .box (.s :: rI 6 ([.sl 9]))), (11, .box (.s :: rI 6 ([.sl 9])))] }
def b3B (L : List Lf) (p : Bool) : Ex × St := (.normal, mg (a0k b5m L) [2, 4, 6, 7, 8, 9, 11, 13, 14, 15, 16] [(13, .c (.b p))] [2, 4, 11] [])
def c8E (L : List Lf) : List (Bool × (Ex × St)) := bnd (b8U N L (fun p => p)) fun q => [(true, b3B L q)]
theorem c3L (L : List Lf) : pc Tryz.prog (b9E N) (d8r N).h 0 100 71 60059 b5m L [2, 4, 6, 7, 8, 9, 11, 13, 14, 15, 16] [2, 4, 11] = b8U N L (fun p => some (b3B L p)) := by kernel_rfl
def d8s : Sg Tryz.prog 0 71 :=
 (d8r N).cut (c8E N) a0c (a5f N) fun L x hx => (c3L N L).trans ((c3K N ..).trans (a2h _ _ hx))
def b4u (w5 : LD) (w6 w9 w10 w11 w12 w13 w14 w15 : Int) (w16 : LB) (w17 : Bool) (w18 : LD) (w0 w1 w2 w3 w7 : Int) (kr : Int → Int → Int → Int → Int → Option R) (k0 : Ty1 → Option R) (k1 : Unit → Option R) : Option R :=
 bif (decide (w7 < w6)) then
  bif (inB w7 w5.length) then
   bnd (b9D N N w12 w13 w14 w15 w16 w17 w18 ((w5.getD w7.toNat (.i 0)).cell 0).toS ((w5.getD w7.toNat (.i 0)).cell 1).toI ((w5.getD w7.toNat (.i 0)).cell 2).toI ((w5.getD w7.toNat (.i 0)).cell 3).toI ((w5.getD w7.toNat (.i 0)).cell 4).toI ((w5.getD w7.toNat (.i 0)).cell 5).toI ((w5.getD w7.toNat (.i 0)).cell 6).toI ((w5.getD w7.toNat (.i 0)).cell 7).isNil ((w5.getD w7.toNat (.i 0)).cell 7).items) fun y0 =>
   bif y0.isSome then
    bif (!(y0.getD default)) then
     kr w0 w1 w2 w3 (IntKind.wrap .i64 (w7 + 1))
    else
     bnd (IntKind.wrap .i64 (((w5.getD w7.toNat (.i 0)).cell 2).toI.tdiv 86400)) fun y1 =>
     bnd (a54 N w2 w3 y1 (y1 == (IntKind.wrap .i64 (w3 + 1)))) fun y2 =>
     bnd (c8j N w10) fun y3 =>
     bnd (b3y N w1 y3 w10 ((w5.getD w7.toNat (.i 0)).cell 2).toI ((w5.getD w7.toNat (.i 0)).cell 3).toI ((w5.getD w7.toNat (.i 0)).cell 4).toI ((w5.getD w7.toNat (.i 0)).cell 5).toI ((w5.getD w7.toNat (.i 0)).cell 6).toI) fun y4 =>
     bnd (a59 N (IntKind.wrap .i64 (w0 + 1)) y4 y2 w9 (w9 == 1) w10 w11 ((w5.getD w7.toNat (.i 0)).cell 2).toI ((w5.getD w7.toNat (.i 0)).cell 3).toI ((w5.getD w7.toNat (.i 0)).cell 4).toI ((w5.getD w7.toNat (.i 0)).cell 5).toI ((w5.getD w7.toNat (.i 0)).cell 6).toI) fun y5 =>
     bif y5 then
      k0 (((w5.getD w7.toNat (.i 0)).cell 0).toS, ((w5.getD w7.toNat (.i 0)).cell 1).toI, ((w5.getD w7.toNat (.i 0)).cell 2).toI, ((w5.getD w7.toNat (.i 0)).cell 3).toI, ((w5.getD w7.toNat (.i 0)).cell 4).toI, ((w5.getD w7.toNat (.i 0)).cell 5).toI, ((w5.getD w7.toNat (.i 0)).cell 6).toI, ((w5.getD w7.toNat (.i 0)).cell 7).isNil, ((w5.getD w7.toNat (.i 0)).cell 7).items)
     else
      kr (IntKind.wrap .i64 (w0 + 1)) y4 y2 y1 (IntKind.wrap .i64 (w7 + 1))
   else
    none
  else
   none
 else
  k1 ()
def c3M (N : Nat) {R : Type} (w5 : LD) (w6 w9 w10 w11 w12 w13 w14 w15 : Int) (w16 : LB) (w17 : Bool) (w18 : LD) : Nat → Int → Int → Int → Int → Int → (Ty1 → Option R) → (Unit → Option R) → Option R
 | 0, _, _, _, _, _, _, _ => none
 | m + 1, w0, w1, w2, w3, w7, k0, k1 => b4u N w5 w6 w9 w10 w11 w12 w13 w14 w15 w16 w17 w18 w0 w1 w2 w3 w7 (fun w0 w1 w2 w3 w7 => c3M N w5 w6 w9 w10 w11 w12 w13 w14 w15 w16 w17 w18 m w0 w1 w2 w3 w7 k0 k1) k0 k1
def c8F (w5 : LD) (w6 w9 w10 w11 w12 w13 w14 w15 : Int) (w16 : LB) (w17 : Bool) (w18 : LD) (w0 w1 w2 w3 w7 : Int) : Option (Sum (Ty1) (Unit)) := c3M N (R := (Sum (Ty1) (Unit))) w5 w6 w9 w10 w11 w12 w13 w14 w15 w16 w17 w18 N w0 w1 w2 w3 w7 (fun p => some (.inl p)) (fun p => some (.inr p))
def b8V (L x : List Lf) (kr : List Lf → Option R) (k0 : Ty1 → Option R) (k1 : Unit → Option R) : Option R := b4u N (ll L 5) (li L 6) (li L 9) (li L 10) (li L 11) (li L 12) (li L 13) (li L 14) (li L 15) (ls L 16) (lb L 17) (ll L 18) (li x 0) (li x 1) (li x 2) (li x 3) (li x 4) (fun w0 w1 w2 w3 w7 => kr [.i w0, .i w1, .i w2, .i w3, .i w7]) k0 k1
theorem d1a (L x : List Lf) (kr : List Lf → Option R) (k0 : Ty1 → Option R) (k1 : Unit → Option R) : b8V N L x kr k0 k1 = (b8V N L x (fun y => some (.inl y)) (fun p => some (.inr (.inl p))) (fun p => some (.inr (.inr p)))).bind (a09 kr (a09 k0 k1)) := by
 unfold b8V b4u
 repeat' (first | with_reducible apply a0g | (with_reducible apply a0t; intro _) | rfl)
def c3N (L : List Lf) (m : Nat) (x : List Lf) : Option (Sum (Ty1) (Unit)) := c3M N (R := (Sum (Ty1) (Unit))) (ll L 5) (li L 6) (li L 9) (li L 10) (li L 11) (li L 12) (li L 13) (li L 14) (li L 15) (ls L 16) (lb L 17) (ll L 18) m (li x 0) (li x 1) (li x 2) (li x 3) (li x 4) (fun p => some (.inl p)) (fun p => some (.inr p))
def b0b : Sh := { tmps := [(2, .c (.p 2 0)), (4, .c (.p 4 0)), (6, .c (.i .i64)), (7, .c (.i .i64)), (8, .c (.i .i64)), (9, .c (.i .i64)), (14, .c (.sl 40)), (15, .c (.i .i64)), (16, .c (.i .i64))], mem := [(2, .box (.s :: rI 7 ([.s, .sl 24]))), (4, .box (.s :: rI 6 ([.sl 9])))] }
def c6p (L : List Lf) (p : Ty1) : Ex × St := let p1 := p.2; let p2 := p1.2; let p3 := p2.2; let p4 := p3.2; let p5 := p4.2; let p6 := p5.2; let p7 := p6.2; let p8 := p7.2; (.ret, ⟨[(4, .c (.p 4 0)), (5, .c (.b true))], [(4, .box [.s p.1, .i .i64 p1.1, .i .i64 p2.1, .i .i64 p3.1, .i .i64 p4.1, .i .i64 p5.1, .i .i64 p6.1, .sl 9 p7.1 p8])]⟩)
def e7q (L : List Lf) : List (Bool × (Ex × St)) := bnd (c3N N L N (pk b0b [0, 1, 2, 3, 7] L)) fun q => [((a0T q), c6p L (a0H q)), ((a0l q).isSome, ((.exit 0), mg (a0k b0b L) [4] [] [4] []))]
theorem d3b (m : Nat) (kn : St → Option (Ex × St)) (L x : List Lf) : lpB Tryz.prog (b9E N) (d8s N).h 0 71 9 b0b [0, 1, 2, 3, 7] [4, 5] [4] (m + 100) kn L x = b8V N L x (fun y => kn (a0k b0b (mx b0b [0, 1, 2, 3, 7] L y))) (fun p => some (c6p L p)) (fun _ => some ((.exit 0), mg (a0k b0b L) [4] [] [4] [])) := by kernel_rfl
theorem e2q (L : List Lf) (m : Nat) (x : List Lf) : c3N N L (m + 1) x = b8V N L x (c3N N L m) (fun p => some (.inl p)) (fun p => some (.inr p)) := by kernel_rfl
def d8t : Sg Tryz.prog 0 71 :=
 (d8s N).lp (e7q N) N a0c (a5f N) (fun m kn L x => (d3b N m kn L x).trans (d1a N L x _ _ _)) (fun L m x => (e2q N L m x).trans (d1a N L x (c3N N L m) (fun p => some (.inl p)) (fun p => some (.inr p)))) fun L x hx => (a34 a08) x hx
def d8u (v1 v2 v3 v4 v5 v6 v7 : Int) (v8 : LB) (v9 : Bool) (v10 v12 : LD) (k0 : Ty0 → Option R) : Option R :=
 bnd (c8F N v12 (v12.length : Int) v1 v2 v3 v4 v5 v6 v7 v8 v9 v10 0 0 0 (-2) 0) fun y0 =>
 bif (a0T y0) then
  k0 ((a0H y0).1, (a0H y0).2.1, (a0H y0).2.2.1, (a0H y0).2.2.2.1, (a0H y0).2.2.2.2.1, (a0H y0).2.2.2.2.2.1, (a0H y0).2.2.2.2.2.2.1, (a0H y0).2.2.2.2.2.2.2.1, (a0H y0).2.2.2.2.2.2.2.2, true)
 else
  bif (a0l y0).isSome then
   k0 (([] : List UInt8), 0, 0, 0, 0, 0, 0, true, [], false)
  else
   none
def d3c (v1 v2 v3 v4 v5 v6 v7 : Int) (v8 : LB) (v9 : Bool) (v10 v12 : LD) : Option (Ty0) := d8u N v1 v2 v3 v4 v5 v6 v7 v8 v9 v10 v12 (fun p => some p)
theorem e2r (v1 v2 v3 v4 v5 v6 v7 : Int) (v8 : LB) (v9 : Bool) (v10 v12 : LD) (k0 : Ty0 → Option R) : d8u N v1 v2 v3 v4 v5 v6 v7 v8 v9 v10 v12 k0 = (d3c N v1 v2 v3 v4 v5 v6 v7 v8 v9 v10 v12).bind k0 := by
 unfold d3c d8u
 repeat' (first | with_reducible apply a0g | (with_reducible apply a0t; intro _) | rfl)
def f1F (L : List Lf) (k0 : Ty0 → Option R) : Option R := d8u N (li L 1) (li L 2) (li L 3) (li L 4) (li L 5) (li L 6) (li L 7) (ls L 8) (lb L 9) (ll L 10) (ll L 12) k0
def d8v : Sh := { tmps := [(0, .g (.s :: rI 7 ([.s, .sl 24]))), (1, .c (.sl 40))], mem := [] }
def d8w (L : List Lf) (p : Ty0) : Res := let p1 := p.2; let p2 := p1.2; let p3 := p2.2; let p4 := p3.2; let p5 := p4.2; let p6 := p5.2; let p7 := p6.2; let p8 := p7.2; let p9 := p8.2; ([.g [.s p.1, .i .i64 p1.1, .i .i64 p2.1, .i .i64 p3.1, .i .i64 p4.1, .i .i64 p5.1, .i .i64 p6.1, .sl 9 p7.1 p8.1], .c (.b p9)], [])
def f1G (L : List Lf) : List (Bool × Res) := bnd (f1F N L (fun p => some p)) fun q => [(q.isSome, d8w L (q.getD default))]
theorem e7r (L : List Lf) : bd Tryz.prog (b9E N) (d8t N).h 71 d8v L = f1F N L (fun p => some (d8w L p)) := by kernel_rfl
theorem f1H : a0L Tryz.prog 71 d8v (f1G N) :=
 (d8t N).fn a0c (a5f N) fun L x hx => ((e7r N L).trans ((e2r N ..).trans (a08 x hx)))
def e7s : a0d := ext 71 (a2l d8v (f1G N)) (b9E N)
theorem d1b : a0a Tryz.prog (e7s N) := a0L.to (f1H N) (a5f N)
def f1I : List (Nat × List Nat) := [(0, [0, 1]), (1, [2, 3]), (2, [2, 3]), (3, [2, 3])]
def f1J : a0C := []
def d8x (N : Nat) : Sg Tryz.prog 0 72 := .start f1J f1I
def d8y (N : Nat) (v0 v1 : LB) (v2 : Int) (v3 v4 : LB) (v5 : Int) (k0 : Bool → R) : R :=
 bif (v2 != v5) then
  k0 (decide (v2 < v5))
 else
  bnd (bif (Op.bytesLess v1 v4) then true else (bif (v1 == v4) then (Op.bytesLess v0 v3) else false)) fun y0 =>
  k0 y0
def d8z (v0 v1 : LB) (v2 : Int) (v3 v4 : LB) (v5 : Int) : Bool := d8y N v0 v1 v2 v3 v4 v5 (fun p => p)
theorem e7t (v0 v1 : LB) (v2 : Int) (v3 v4 : LB) (v5 : Int) (k0 : Bool → R) : d8y N v0 v1 v2 v3 v4 v5 k0 = k0 (d8z N v0 v1 v2 v3 v4 v5) := by
 unfold d8z d8y
 repeat' (first | rfl | apply a0n | (apply a0A; intro _))
def f1K (L : List Lf) (k0 : Bool → R) : R := d8y N (ls L 0) (ls L 1) (li L 2) (ls L 3) (ls L 4) (li L 5) k0
def d8A : Sh := { tmps := [(0, .g ([.s, .s, .i .i64])), (1, .g ([.s, .s, .i .i64]))], mem := [] }
def f1L (L : List Lf) : List (Bool × Res) := bnd (f1K N L (fun p => p)) fun q => [(true, ([.c (.b q)], []))]
theorem e7u (L : List Lf) : bd Tryz.prog (e7s N) (d8x N).h 72 d8A L = f1K N L (fun p => some ([.c (.b p)], [])) := by kernel_rfl
theorem f1M : a0L Tryz.prog 72 d8A (f1L N) :=
 (d8x N).fn a0c (d1b N) fun L x hx => ((e7u N L).trans ((e7t N ..).trans (a2h _ _ hx)))
def d3d : a0d := ext 72 (a2l d8A (f1L N)) (e7s N)
theorem b3C : a0a Tryz.prog (d3d N) := a0L.to (f1M N) (d1b N)
def f1N : List (Nat × List Nat) := [(0, [1, 0]), (1, [1, 0]), (2, [0, 5]), (3, [0, 5, 6]), (4, [17, 16, 15, 5, 6]), (5, [15, 17, 5, 16, 6]), (6, [8, 5, 17, 16, 15, 6]), (7, [10, 17, 16, 15, 5, 6, 8, 9]), (8, [8, 9, 6, 17, 16, 15, 5]), (9, [6, 11, 17, 16, 15, 5]), (10, [12, 11, 6, 17, 16, 15, 5]), (11, [12, 11, 6, 17, 16, 15, 5]), (12, [6, 12, 11, 17, 16, 15, 5, 60000006]), (13, [17, 16, 15, 5, 6]), (14, [6])]
def f1O : a0C := [(12, [5, 6, 15, 16, 17], [6], [6]), (30, [5, 6, 11, 12, 15, 16, 17], [6, 11], [6]), (31, [5, 6, 11, 12, 15, 16, 17], [6, 11], [])]
def d8B (N : Nat) : Sg Tryz.prog 0 38 := .start f1O f1N
def b3D (w2 : Int) (w8 : LD) (w9 w10 : LB) (w11 : Int) (k0 : Bool → Option R) : Option R :=
 bif (decide (w2 > 0)) then
  bif (inB (IntKind.wrap .i64 (w2 - 1)) w8.length) then
   bif (decide ((IntKind.wrap .i64 (w2 - 1)).toNat < w8.length)) then
    bnd ((w8.getD (IntKind.wrap .i64 (w2 - 1)).toNat (.i 0)).cell 0).toS fun y0 =>
    bnd ((w8.getD (IntKind.wrap .i64 (w2 - 1)).toNat (.i 0)).cell 1).toS fun y1 =>
    bnd ((w8.getD (IntKind.wrap .i64 (w2 - 1)).toNat (.i 0)).cell 2).toI fun y2 =>
    bnd (d8z N w9 w10 w11 y0 y1 y2) fun y3 =>
    k0 y3
   else
    none
  else
   none
 else
  k0 false
def b67 (w2 : Int) (w8 : LD) (w9 w10 : LB) (w11 : Int) : Option (Bool) := b3D N w2 w8 w9 w10 w11 (fun p => some p)
theorem c8G (w2 : Int) (w8 : LD) (w9 w10 : LB) (w11 : Int) (k0 : Bool → Option R) : b3D N w2 w8 w9 w10 w11 k0 = (b67 N w2 w8 w9 w10 w11).bind k0 := by
 unfold b67 b3D
 repeat' (first | with_reducible apply a0g | (with_reducible apply a0t; intro _) | rfl)
def d1c (L : List Lf) (k0 : Bool → Option R) : Option R := b3D N (li L 2) (ll L 8) (ls L 9) (ls L 10) (li L 11) k0
def c6q : Sh := { tmps := [(5, .c (.sl 40)), (6, .c (.o 6)), (11, .c (.p 11 0)), (12, .c (.i .i64)), (15, .c (.sl 52)), (16, .c (.i .i64)), (17, .c (.i .i64))], mem := [(6, .row 47 true), (11, .box ([.s, .s, .i .i64]))] }
def c05 (L : List Lf) (p : Bool) : Ex × St := (.normal, mg (a0k c6q L) [5, 6, 11, 12, 15, 16, 17, 48] [(48, .c (.b p))] [6, 11] [])
def e2s (L : List Lf) : List (Bool × (Ex × St)) := bnd (d1c N L (fun p => some p)) fun q => [(q.isSome, c05 L (q.getD default))]
theorem d3e (L : List Lf) : pc Tryz.prog (d3d N) (d8B N).h 0 100 38 31 c6q L [5, 6, 11, 12, 15, 16, 17, 48] [6, 11] = d1c N L (fun p => some (c05 L p)) := by kernel_rfl
def d8C : Sg Tryz.prog 0 38 :=
 (d8B N).cut (e2s N) a0c (b3C N) fun L x hx => (d3e N L).trans ((c8G N ..).trans (a08 x hx))
def b3E (w8 : LD) (w9 w10 : LB) (w11 : Int) (w2 : Int) (kr : Int → Option R) (k0 : Int → Option R) : Option R :=
 bnd (b67 N w2 w8 w9 w10 w11) fun y0 =>
 bif y0.isSome then
  bif (y0.getD default) then
   kr (IntKind.wrap .i64 (w2 - 1))
  else
   k0 w2
 else
  none
def b68 (N : Nat) {R : Type} (w8 : LD) (w9 w10 : LB) (w11 : Int) : Nat → Int → (Int → Option R) → Option R
 | 0, _, _ => none
 | m + 1, w2, k0 => b3E N w8 w9 w10 w11 w2 (fun w2 => b68 N w8 w9 w10 w11 m w2 k0) k0
def c3O (w8 : LD) (w9 w10 : LB) (w11 : Int) (w2 : Int) : Option (Int) := b68 N (R := (Int)) w8 w9 w10 w11 N w2 (fun p => some p)
def b3F (L x : List Lf) (kr : List Lf → Option R) (k0 : Int → Option R) : Option R := b3E N (ll L 8) (ls L 9) (ls L 10) (li L 11) (li x 0) (fun w2 => kr [.i w2]) k0
theorem c6r (L x : List Lf) (kr : List Lf → Option R) (k0 : Int → Option R) : b3F N L x kr k0 = (b3F N L x (fun y => some (.inl y)) (fun p => some (.inr p))).bind (a09 kr k0) := by
 unfold b3F b3E
 repeat' (first | with_reducible apply a0g | (with_reducible apply a0t; intro _) | rfl)
def b69 (L : List Lf) (m : Nat) (x : List Lf) : Option (Int) := b68 N (R := (Int)) (ll L 8) (ls L 9) (ls L 10) (li L 11) m (li x 0) (fun p => some p)
def a9g : Sh := { tmps := [(5, .c (.sl 40)), (6, .c (.o 6)), (11, .c (.p 11 0)), (12, .c (.i .i64)), (15, .c (.sl 52)), (16, .c (.i .i64)), (17, .c (.i .i64))], mem := [(6, .row 47 true), (11, .box ([.s, .s, .i .i64]))] }
def c06 (L : List Lf) (p : Int) : Ex × St := ((.exit 2), mg (a0k a9g L) [5, 6, 11, 12, 15, 16, 17] [(12, .c (.i .i64 p))] [6, 11] [])
def e2t (L : List Lf) : List (Bool × (Ex × St)) := bnd (b69 N L N (pk a9g [2] L)) fun q => [(q.isSome, c06 L (q.getD default))]
theorem c8H (m : Nat) (kn : St → Option (Ex × St)) (L x : List Lf) : lpB Tryz.prog (d3d N) (d8C N).h 0 38 30 a9g [2] [4, 5, 6, 11, 12, 15, 16, 17] [6, 11] (m + 100) kn L x = b3F N L x (fun y => kn (a0k a9g (mx a9g [2] L y))) (fun p => some (c06 L p)) := by kernel_rfl
theorem d8D (L : List Lf) (m : Nat) (x : List Lf) : b69 N L (m + 1) x = b3F N L x (b69 N L m) some := by kernel_rfl
def d8E : Sg Tryz.prog 0 38 :=
 (d8C N).lp (e2t N) N a0c (b3C N) (fun m kn L x => (c8H N m kn L x).trans (c6r N L x _ _)) (fun L m x => (d8D N L m x).trans (c6r N L x (b69 N L m) some)) fun L x hx => a08 x hx
def b0c (w1 w3 : LD) (w4 : Int) (w5 : Int) (w6 : Bool) (w7 : LD) (kr : Int → Bool → LD → Option R) (k0 : Bool × LD → Option R) : Option R :=
 bif (decide (w5 < w4)) then
  bif (inB w5 w3.length) then
   bnd (d3c N ((w3.getD w5.toNat (.i 0)).cell 1).toI ((w3.getD w5.toNat (.i 0)).cell 2).toI ((w3.getD w5.toNat (.i 0)).cell 3).toI ((w3.getD w5.toNat (.i 0)).cell 4).toI ((w3.getD w5.toNat (.i 0)).cell 5).toI ((w3.getD w5.toNat (.i 0)).cell 6).toI ((w3.getD w5.toNat (.i 0)).cell 7).toI ((w3.getD w5.toNat (.i 0)).cell 8).toS ((w3.getD w5.toNat (.i 0)).cell 9).isNil ((w3.getD w5.toNat (.i 0)).cell 9).items w1) fun y0 =>
   bif y0.isSome then
    bif (!(y0.getD default).2.2.2.2.2.2.2.2.2) then
     kr (IntKind.wrap .i64 (w5 + 1)) w6 w7
    else
     bnd (c3O N w7 ((w3.getD w5.toNat (.i 0)).cell 0).toS (y0.getD default).1 (y0.getD default).2.2.1 (w7.length : Int)) fun y1 =>
     bif y1.isSome then
      bif ((decide (0 ≤ (y1.getD default))) && (decide ((y1.getD default) ≤ (w7.length : Int)))) then
       bif (decide ((0 + ((w7.take (y1.getD default).toNat).drop 0).length) * 40 ≤ b5p) && decide ((0 + ((w7.take (y1.getD default).toNat).drop 0).length) ≤ a0Q)) then
        bnd (((w7.take (y1.getD default).toNat).drop 0).isEmpty && false) fun y2 =>
        bif (decide ((((w7.take (y1.getD default).toNat).drop 0).length + 1) * 40 ≤ b5p) && decide ((((w7.take (y1.getD default).toNat).drop 0).length + 1) ≤ a0Q)) then
         bnd ((((w7.take (y1.getD default).toNat).drop 0) ++ [(.a [(.s ((w3.getD w5.toNat (.i 0)).cell 0).toS), (.s (y0.getD default).1), (.i (y0.getD default).2.2.1)])]) : List D) fun y3 =>
         bif (((decide (0 ≤ (y1.getD default))) && (decide ((y1.getD default) ≤ (w7.length : Int)))) && (decide ((w7.length : Int) ≤ (w7.length : Int)))) then
          bnd (((w7.take (w7.length : Int).toNat).drop (y1.getD default).toNat) : List D) fun y4 =>
          bif (decide ((y3.length + y4.length) * 40 ≤ b5p) && decide ((y3.length + y4.length) ≤ a0Q)) then
           kr (IntKind.wrap .i64 (w5 + 1)) (y4.isEmpty && false) (y3 ++ y4)
          else
           none
         else
          none
        else
         none
       else
        none
      else
       none
     else
      none
   else
    none
  else
   none
 else
  k0 (w6, w7)
def b7a (N : Nat) {R : Type} (w1 w3 : LD) (w4 : Int) : Nat → Int → Bool → LD → (Bool × LD → Option R) → Option R
 | 0, _, _, _, _ => none
 | m + 1, w5, w6, w7, k0 => b0c N w1 w3 w4 w5 w6 w7 (fun w5 w6 w7 => b7a N w1 w3 w4 m w5 w6 w7 k0) k0
def d1d (w1 w3 : LD) (w4 : Int) (w5 : Int) (w6 : Bool) (w7 : LD) : Option (Bool × LD) := b7a N (R := (Bool × LD)) w1 w3 w4 N w5 w6 w7 (fun p => some p)
def b3G (L x : List Lf) (kr : List Lf → Option R) (k0 : Bool × LD → Option R) : Option R := b0c N (ll L 1) (ll L 3) (li L 4) (li x 0) (lb x 1) (ll x 2) (fun w5 w6 w7 => kr [.i w5, .b w6, .l w7]) k0
theorem c6s (L x : List Lf) (kr : List Lf → Option R) (k0 : Bool × LD → Option R) : b3G N L x kr k0 = (b3G N L x (fun y => some (.inl y)) (fun p => some (.inr p))).bind (a09 kr k0) := by
 unfold b3G b0c
 repeat' (first | with_reducible apply a0g | (with_reducible apply a0t; intro _) | rfl)
def b7b (L : List Lf) (m : Nat) (x : List Lf) : Option (Bool × LD) := b7a N (R := (Bool × LD)) (ll L 1) (ll L 3) (li L 4) m (li x 0) (lb x 1) (ll x 2) (fun p => some p)
def b3H : Sh := { tmps := [(5, .c (.sl 40)), (6, .c (.o 6)), (15, .c (.sl 52)), (16, .c (.i .i64)), (17, .c (.i .i64))], mem := [(6, .row 47 true)] }
def e2u (L : List Lf) : List (Bool × (Ex × St)) := bnd (b7b N L N (pk b3H [5, 6, 7] L)) fun q => [(q.isSome, ((.exit 0), ⟨[(6, .c (.o 6))], [(6, .row 47 true (q.getD default).1 (q.getD default).2)]⟩))]
theorem c8I (m : Nat) (kn : St → Option (Ex × St)) (L x : List Lf) : lpB Tryz.prog (d3d N) (d8E N).h 0 38 12 b3H [5, 6, 7] [4, 6] [6] (m + 100) kn L x = b3G N L x (fun y => kn (a0k b3H (mx b3H [5, 6, 7] L y))) (fun p => some ((.exit 0), ⟨[(6, .c (.o 6))], [(6, .row 47 true p.1 p.2)]⟩)) := by kernel_rfl
theorem d8F (L : List Lf) (m : Nat) (x : List Lf) : b7b N L (m + 1) x = b3G N L x (b7b N L m) some := by kernel_rfl
def d8G : Sg Tryz.prog 0 38 :=
 (d8E N).lp (e2u N) N a0c (b3C N) (fun m kn L x => (c8I N m kn L x).trans (c6s N L x _ _)) (fun L m x => (d8F N L m x).trans (c6s N L x (b7b N L m) some)) fun L x hx => a08 x hx
def d3f (v1 : LD) (v2 : Bool) (v3 : LD) (k0 : Bool × LD → Option R) : Option R :=
 bnd (c3D N N v2 v3) fun y0 =>
 bif y0.isSome then
  bnd (d1d N (y0.getD default).2 v1 (v1.length : Int) 0 true []) fun y1 =>
  bif y1.isSome then
   k0 (y1.getD default)
  else
   none
 else
  none
def d8H (v1 : LD) (v2 : Bool) (v3 : LD) : Option (Bool × LD) := d3f N v1 v2 v3 (fun p => some p)
theorem e2v (v1 : LD) (v2 : Bool) (v3 : LD) (k0 : Bool × LD → Option R) : d3f N v1 v2 v3 k0 = (d8H N v1 v2 v3).bind k0 := by
 unfold d8H d3f
 repeat' (first | with_reducible apply a0g | (with_reducible apply a0t; intro _) | rfl)
def d8I : Sh := { tmps := [(0, .c (.sl 52)), (1, .c (.sl 40))], mem := [] }
def f1P (L : List Lf) : List (Bool × Res) := bnd (d3f N (ll L 1) (lb L 2) (ll L 3) (fun p => some p)) fun q => [(q.isSome, ([.c (.sl 47 (q.getD default).1 (q.getD default).2)], []))]
theorem e7v (L : List Lf) : bd Tryz.prog (d3d N) (d8G N).h 38 d8I L = d3f N (ll L 1) (lb L 2) (ll L 3) (fun p => some ([.c (.sl 47 p.1 p.2)], [])) := by kernel_rfl
theorem f1Q : a0L Tryz.prog 38 d8I (f1P N) :=
 (d8G N).fn a0c (b3C N) fun L x hx => ((e7v N L).trans ((e2v N ..).trans (a08 x hx)))
def e7w : a0d := ext 38 (a2l d8I (f1P N)) (d3d N)
theorem d1e : a0a Tryz.prog (e7w N) := a0L.to (f1Q N) (b3C N)
def f1R : List (Nat × List Nat) := [(0, [0, 1]), (1, [0, 1]), (2, [6, 1, 0]), (3, [6]), (4, [1, 0]), (5, [7, 0, 1]), (6, [7]), (7, [0, 1])]
def f1S : a0C := []
def d8J (N : Nat) : Sg Tryz.prog 0 16 := .start f1S f1R
def d3g (v1 : LD) (v2 : Bool) (v3 : LD) (k0 : Bool × LD × Int → Option R) : Option R :=
 bnd (d7L N v1) fun y0 =>
 bif y0.isSome then
  bif ((y0.getD default) != 0) then
   k0 (true, [], (y0.getD default))
  else
   bnd (d7Y N v3) fun y1 =>
   bif y1.isSome then
    bif ((y1.getD default) != 0) then
     k0 (true, [], (y1.getD default))
    else
     bnd (d8H N v1 v2 v3) fun y2 =>
     bif y2.isSome then
      k0 ((y2.getD default).1, (y2.getD default).2, 0)
     else
      none
   else
    none
 else
  none
def d8K (v1 : LD) (v2 : Bool) (v3 : LD) : Option (Bool × LD × Int) := d3g N v1 v2 v3 (fun p => some p)
theorem e2w (v1 : LD) (v2 : Bool) (v3 : LD) (k0 : Bool × LD × Int → Option R) : d3g N v1 v2 v3 k0 = (d8K N v1 v2 v3).bind k0 := by
 unfold d8K d3g
 repeat' (first | with_reducible apply a0g | (with_reducible apply a0t; intro _) | rfl)
def d8L : Sh := { tmps := [(0, .c (.sl 52)), (1, .c (.sl 40))], mem := [] }
def f1T (L : List Lf) : List (Bool × Res) := bnd (d3g N (ll L 1) (lb L 2) (ll L 3) (fun p => some p)) fun q => [(q.isSome, ([.c (.sl 47 (q.getD default).1 (q.getD default).2.1), .c (.i .i64 (q.getD default).2.2)], []))]
theorem e7x (L : List Lf) : bd Tryz.prog (e7w N) (d8J N).h 16 d8L L = d3g N (ll L 1) (lb L 2) (ll L 3) (fun p => some ([.c (.sl 47 p.1 p.2.1), .c (.i .i64 p.2.2)], [])) := by kernel_rfl
theorem f1U : a0L Tryz.prog 16 d8L (f1T N) :=
 (d8J N).fn a0c (d1e N) fun L x hx => ((e7x N L).trans ((e2w N ..).trans (a08 x hx)))
def e2x : a0d := ext 16 (a2l d8L (f1T N)) (e7w N)
theorem c3P : a0a Tryz.prog (e2x N) := a0L.to (f1U N) (d1e N)
def f1V : List (Nat × List Nat) := [(0, [0, 1]), (1, [0, 1]), (2, []), (3, [0, 1]), (4, [13, 12, 0, 1]), (5, [13, 0, 1, 12]), (6, [0, 5, 1, 13, 12]), (7, []), (8, [13, 12, 0, 1]), (9, [])]
def f1W : a0C := [(12, [0, 1, 12, 13], [], [])]
def d8M (N : Nat) : Sg Tryz.prog 0 21 := .start f1W f1V
def b0d (N : Nat) (w1 w3 : LD) (w4 : Int) (w5 : Int) (kr : Int → Option R) (k0 : Unit → Option R) (k1 : Unit → Option R) : Option R :=
 bif (decide (w5 < w4)) then
  bif (inB w5 w1.length) then
   bif (inB w5 w3.length) then
    bnd (!((((w1.getD w5.toNat (.i 0)).cell 0).toS == ((w3.getD w5.toNat (.i 0)).cell 0).toS) && ((((w1.getD w5.toNat (.i 0)).cell 1).toS == ((w3.getD w5.toNat (.i 0)).cell 1).toS) && ((((w1.getD w5.toNat (.i 0)).cell 2).toI == ((w3.getD w5.toNat (.i 0)).cell 2).toI) && true)))) fun y0 =>
    bif y0 then
     k0 ()
    else
     kr (IntKind.wrap .i64 (w5 + 1))
   else
    none
  else
   none
 else
  k1 ()
def b7c (N : Nat) {R : Type} (w1 w3 : LD) (w4 : Int) : Nat → Int → (Unit → Option R) → (Unit → Option R) → Option R
 | 0, _, _, _ => none
 | m + 1, w5, k0, k1 => b0d N w1 w3 w4 w5 (fun w5 => b7c N w1 w3 w4 m w5 k0 k1) k0 k1
def c3Q (w1 w3 : LD) (w4 : Int) (w5 : Int) : Option (Sum (Unit) (Unit)) := b7c N (R := (Sum (Unit) (Unit))) w1 w3 w4 N w5 (fun p => some (.inl p)) (fun p => some (.inr p))
def b3I (L x : List Lf) (kr : List Lf → Option R) (k0 : Unit → Option R) (k1 : Unit → Option R) : Option R := b0d N (ll L 1) (ll L 3) (li L 4) (li x 0) (fun w5 => kr [.i w5]) k0 k1
theorem c6t (L x : List Lf) (kr : List Lf → Option R) (k0 : Unit → Option R) (k1 : Unit → Option R) : b3I N L x kr k0 k1 = (b3I N L x (fun y => some (.inl y)) (fun p => some (.inr (.inl p))) (fun p => some (.inr (.inr p)))).bind (a09 kr (a09 k0 k1)) := by
 unfold b3I b0d
 repeat' (first | with_reducible apply a0g | (with_reducible apply a0t; intro _) | rfl)
def b7d (L : List Lf) (m : Nat) (x : List Lf) : Option (Sum (Unit) (Unit)) := b7c N (R := (Sum (Unit) (Unit))) (ll L 1) (ll L 3) (li L 4) m (li x 0) (fun p => some (.inl p)) (fun p => some (.inr p))
def b3J : Sh := { tmps := [(0, .c (.sl 47)), (1, .c (.sl 47)), (12, .c (.i .i64)), (13, .c (.i .i64))], mem := [] }
def e2y (L : List Lf) : List (Bool × (Ex × St)) := bnd (b7d N L N (pk b3J [5] L)) fun q => [((a0T q), (.ret, ⟨[(4, .c (.b false))], []⟩)), ((a0l q).isSome, ((.exit 0), ⟨[], []⟩))]
theorem c8J (m : Nat) (kn : St → Option (Ex × St)) (L x : List Lf) : lpB Tryz.prog (e2x N) (d8M N).h 0 21 12 b3J [5] [4] [] (m + 100) kn L x = b3I N L x (fun y => kn (a0k b3J (mx b3J [5] L y))) (fun _ => some (.ret, ⟨[(4, .c (.b false))], []⟩)) (fun _ => some ((.exit 0), ⟨[], []⟩)) := by kernel_rfl
theorem d8N (L : List Lf) (m : Nat) (x : List Lf) : b7d N L (m + 1) x = b3I N L x (b7d N L m) (fun p => some (.inl p)) (fun p => some (.inr p)) := by kernel_rfl
def d8O : Sg Tryz.prog 0 21 :=
 (d8M N).lp (e2y N) N a0c (c3P N) (fun m kn L x => (c8J N m kn L x).trans (c6t N L x _ _ _)) (fun L m x => (d8N N L m x).trans (c6t N L x (b7d N L m) (fun p => some (.inl p)) (fun p => some (.inr p)))) fun L x hx => (a34 a08) x hx
def d3h (v1 v3 : LD) (k0 : Bool → Option R) : Option R :=
 bif ((v1.length : Int) != (v3.length : Int)) then
  k0 false
 else
  bnd (c3Q N v1 v3 (v1.length : Int) 0) fun y0 =>
  bif (a0T y0) then
   k0 false
  else
   bif (a0l y0).isSome then
    k0 true
   else
    none
def d8P (v1 v3 : LD) : Option (Bool) := d3h N v1 v3 (fun p => some p)
theorem e2z (v1 v3 : LD) (k0 : Bool → Option R) : d3h N v1 v3 k0 = (d8P N v1 v3).bind k0 := by
 unfold d8P d3h
 repeat' (first | with_reducible apply a0g | (with_reducible apply a0t; intro _) | rfl)
def d8Q : Sh := { tmps := [(0, .c (.sl 47)), (1, .c (.sl 47))], mem := [] }
def f1X (L : List Lf) : List (Bool × Res) := bnd (d3h N (ll L 1) (ll L 3) (fun p => some p)) fun q => [(q.isSome, ([.c (.b (q.getD default))], []))]
theorem e7y (L : List Lf) : bd Tryz.prog (e2x N) (d8O N).h 21 d8Q L = d3h N (ll L 1) (ll L 3) (fun p => some ([.c (.b p)], [])) := by kernel_rfl
theorem f1Y : a0L Tryz.prog 21 d8Q (f1X N) :=
 (d8O N).fn a0c (c3P N) fun L x hx => ((e7y N L).trans ((e2z N ..).trans (a08 x hx)))
def f1Z : a0d := ext 21 (a2l d8Q (f1X N)) (e2x N)
theorem e2A : a0a Tryz.prog (f1Z N) := a0L.to (f1Y N) (c3P N)
def e3U : Sh := e3V
def f10 (N : Nat) (L : List Lf) : List (Bool × Res) := f11 L
theorem f12 : a0L Tryz.prog 12 e3U (f10 N) := e7z
def d8R : a0d := ext 12 (a2l e3U (f10 N)) (f1Z N)
theorem b7e : a0a Tryz.prog (d8R N) := a0L.to (f12 N) (e2A N)
def f3s : List (Nat × List Nat) := [(0, [0, 1]), (1, [0, 1]), (2, [0, 1, 5, 6]), (3, [0, 5, 7, 6, 8]), (4, [25, 24, 23, 5, 7, 6, 8]), (5, [23, 25, 24, 5, 7, 6, 8]), (6, [10, 25, 24, 23, 5, 7, 6, 8]), (7, []), (8, [25, 24, 23, 5, 7, 6, 8]), (9, [5, 7, 6, 8])]
def f3t : a0C := [(12, [5, 6, 7, 8, 23, 24, 25], [], []), (28, [5, 6, 7, 8], [], [])]
def e3W (N : Nat) : Sg Tryz.prog 0 6 := .start f3t f3s
def b4v (w7 : LD) (w8 : Int) (w9 : Int) (kr : Int → Option R) (k0 : Unit → Option R) (k1 : Unit → Option R) : Option R :=
 bif (decide (w9 < w8)) then
  bif (inB w9 w7.length) then
   bnd (d2r N ((w7.getD w9.toNat (.i 0)).cell 0).toS ((w7.getD w9.toNat (.i 0)).cell 1).toI ((w7.getD w9.toNat (.i 0)).cell 2).toI ((w7.getD w9.toNat (.i 0)).cell 3).toI ((w7.getD w9.toNat (.i 0)).cell 4).toI ((w7.getD w9.toNat (.i 0)).cell 5).toI ((w7.getD w9.toNat (.i 0)).cell 6).toI ((w7.getD w9.toNat (.i 0)).cell 7).toI ((w7.getD w9.toNat (.i 0)).cell 8).toS ((w7.getD w9.toNat (.i 0)).cell 9).isNil ((w7.getD w9.toNat (.i 0)).cell 9).items) fun y0 =>
   bif y0.isSome then
    bnd (d2Y N ((w7.getD w9.toNat (.i 0)).cell 0).toS ((w7.getD w9.toNat (.i 0)).cell 1).toI ((w7.getD w9.toNat (.i 0)).cell 2).toI ((w7.getD w9.toNat (.i 0)).cell 3).toI ((w7.getD w9.toNat (.i 0)).cell 4).toI ((w7.getD w9.toNat (.i 0)).cell 5).toI ((w7.getD w9.toNat (.i 0)).cell 6).toI ((w7.getD w9.toNat (.i 0)).cell 7).toI ((w7.getD w9.toNat (.i 0)).cell 8).toS ((w7.getD w9.toNat (.i 0)).cell 9).isNil ((w7.getD w9.toNat (.i 0)).cell 9).items) fun y1 =>
    bif y1.isSome then
     bif ((y0.getD default) != (y1.getD default)) then
      k0 ()
     else
      kr (IntKind.wrap .i64 (w9 + 1))
    else
     none
   else
    none
  else
   none
 else
  k1 ()
def c3R (N : Nat) {R : Type} (w7 : LD) (w8 : Int) : Nat → Int → (Unit → Option R) → (Unit → Option R) → Option R
 | 0, _, _, _ => none
 | m + 1, w9, k0, k1 => b4v N w7 w8 w9 (fun w9 => c3R N w7 w8 m w9 k0 k1) k0 k1
def c8K (w7 : LD) (w8 : Int) (w9 : Int) : Option (Sum (Unit) (Unit)) := c3R N (R := (Sum (Unit) (Unit))) w7 w8 N w9 (fun p => some (.inl p)) (fun p => some (.inr p))
def b8W (L x : List Lf) (kr : List Lf → Option R) (k0 : Unit → Option R) (k1 : Unit → Option R) : Option R := b4v N (ll L 7) (li L 8) (li x 0) (fun w9 => kr [.i w9]) k0 k1
theorem d1f (L x : List Lf) (kr : List Lf → Option R) (k0 : Unit → Option R) (k1 : Unit → Option R) : b8W N L x kr k0 k1 = (b8W N L x (fun y => some (.inl y)) (fun p => some (.inr (.inl p))) (fun p => some (.inr (.inr p)))).bind (a09 kr (a09 k0 k1)) := by
 unfold b8W b4v
 repeat' (first | with_reducible apply a0g | (with_reducible apply a0t; intro _) | rfl)
def c3S (L : List Lf) (m : Nat) (x : List Lf) : Option (Sum (Unit) (Unit)) := c3R N (R := (Sum (Unit) (Unit))) (ll L 7) (li L 8) m (li x 0) (fun p => some (.inl p)) (fun p => some (.inr p))
def b0e : Sh := { tmps := [(5, .c (.sl 47)), (6, .c (.i .i64)), (7, .c (.sl 47)), (8, .c (.i .i64)), (23, .c (.sl 52)), (24, .c (.i .i64)), (25, .c (.i .i64))], mem := [] }
def e7A (L : List Lf) : List (Bool × (Ex × St)) := bnd (c3S N L N (pk b0e [9] L)) fun q => [((a0T q), (.ret, ⟨[(4, .c (.b false))], []⟩)), ((a0l q).isSome, ((.exit 0), mg (a0k b0e L) [5, 6, 7, 8] [] [] []))]
theorem d3i (m : Nat) (kn : St → Option (Ex × St)) (L x : List Lf) : lpB Tryz.prog (d8R N) (e3W N).h 0 6 12 b0e [9] [4, 5, 6, 7, 8] [] (m + 100) kn L x = b8W N L x (fun y => kn (a0k b0e (mx b0e [9] L y))) (fun _ => some (.ret, ⟨[(4, .c (.b false))], []⟩)) (fun _ => some ((.exit 0), mg (a0k b0e L) [5, 6, 7, 8] [] [] [])) := by kernel_rfl
theorem e2B (L : List Lf) (m : Nat) (x : List Lf) : c3S N L (m + 1) x = b8W N L x (c3S N L m) (fun p => some (.inl p)) (fun p => some (.inr p)) := by kernel_rfl
def e3X : Sg Tryz.prog 0 6 :=
 (e3W N).lp (e7A N) N a0c (b7e N) (fun m kn L x => (d3i N m kn L x).trans (d1f N L x _ _ _)) (fun L m x => (e2B N L m x).trans (d1f N L x (c3S N L m) (fun p => some (.inl p)) (fun p => some (.inr p)))) fun L x hx => (a34 a08) x hx
def b8X (w1 : LD) (w2 : Int) (w4 : LD) (w5 : Int) (k0 : Bool → Option R) : Option R :=
 bnd (d8P N w1 w4) fun y0 =>
 bif y0.isSome then
  bif (bif (y0.getD default) then (w2 == w5) else false) then
   k0 true
  else
   k0 false
 else
  none
def c3T (w1 : LD) (w2 : Int) (w4 : LD) (w5 : Int) : Option (Bool) := b8X N w1 w2 w4 w5 (fun p => some p)
theorem d3j (w1 : LD) (w2 : Int) (w4 : LD) (w5 : Int) (k0 : Bool → Option R) : b8X N w1 w2 w4 w5 k0 = (c3T N w1 w2 w4 w5).bind k0 := by
 unfold c3T b8X
 repeat' (first | with_reducible apply a0g | (with_reducible apply a0t; intro _) | rfl)
def d8S (L : List Lf) (k0 : Bool → Option R) : Option R := b8X N (ll L 1) (li L 2) (ll L 4) (li L 5) k0
def e2C : Sh := { tmps := [(5, .c (.sl 47)), (6, .c (.i .i64)), (7, .c (.sl 47)), (8, .c (.i .i64))], mem := [] }
def e7B (L : List Lf) : List (Bool × (Ex × St)) := bnd (d8S N L (fun p => some p)) fun q => [(q.isSome, (.normal, ⟨[(4, .c (.b (q.getD default)))], []⟩))]
theorem d8T (L : List Lf) : pc Tryz.prog (d8R N) (e3X N).h 0 100 6 28 e2C L [4] [] = d8S N L (fun p => some (.normal, ⟨[(4, .c (.b p))], []⟩)) := by kernel_rfl
def e3Y : Sg Tryz.prog 0 6 :=
 (e3X N).cut (e7B N) a0c (b7e N) fun L x hx => (d8T N L).trans ((d3j N ..).trans (a08 x hx))
def e79 (v1 : LD) (v2 : Bool) (v3 : LD) (k0 : Bool → Option R) : Option R :=
 bnd (d64 N v1 v3) fun y0 =>
 bif y0.isSome then
  bnd (d8K N v1 v2 v3) fun y1 =>
  bif y1.isSome then
   bnd (c8K N v1 (v1.length : Int) 0) fun y2 =>
   bif (a0T y2) then
    k0 false
   else
    bif (a0l y2).isSome then
     bnd (c3T N (y0.getD default).2.1 (y0.getD default).2.2 (y1.getD default).2.1 (y1.getD default).2.2) fun y3 =>
     bif y3.isSome then
      k0 (y3.getD default)
     else
      none
    else
     none
  else
   none
 else
  none
def f13 (v1 : LD) (v2 : Bool) (v3 : LD) : Option (Bool) := e79 N v1 v2 v3 (fun p => some p)
theorem e7C (v1 : LD) (v2 : Bool) (v3 : LD) (k0 : Bool → Option R) : e79 N v1 v2 v3 k0 = (f13 N v1 v2 v3).bind k0 := by
 unfold f13 e79
 repeat' (first | with_reducible apply a0g | (with_reducible apply a0t; intro _) | rfl)
def e7D : Sh := { tmps := [(0, .c (.sl 52)), (1, .c (.sl 40))], mem := [] }
def f2Q (L : List Lf) : List (Bool × Res) := bnd (e79 N (ll L 1) (lb L 2) (ll L 3) (fun p => some p)) fun q => [(q.isSome, ([.c (.b (q.getD default))], []))]
theorem f16 (L : List Lf) : bd Tryz.prog (d8R N) (e3Y N).h 6 e7D L = e79 N (ll L 1) (lb L 2) (ll L 3) (fun p => some ([.c (.b p)], [])) := by kernel_rfl
theorem f17 : a0L Tryz.prog 6 e7D (f2Q N) :=
 (e3Y N).fn a0c (b7e N) fun L x hx => ((f16 N L).trans ((e7C N ..).trans (a08 x hx)))
def f4f : a0d := ext 6 (a2l e7D (f2Q N)) (d8R N)
theorem f3u : a0a Tryz.prog (f4f N) := a0L.to (f17 N) (b7e N)
end
end Go.Proofs.YtfkkcdapcgimlaaGreatDoor
