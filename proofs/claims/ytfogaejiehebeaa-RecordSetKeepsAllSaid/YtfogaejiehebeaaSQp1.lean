/- Functions of the program as plain Lean definitions, each with the proof that the program computes it. No condition. Printed by a program of the prover, part 1. -/
import Derived.Test.YtfogaejiehebeaaHk2
import Derived.Test.YtfogaejiehebeaaChecked
import Derived.KernelRfl
set_option linter.all false
set_option maxRecDepth 100000
namespace Go.Proofs.Ytfogaejiehebeaa
open Go Go.AM
noncomputable section
variable (N : Nat) {R : Type}
def e8D : Sh := e2N
def f2p (L : List Lf) : List (Bool × Res) := f2m N L
theorem f11 : a0t Try.prog 7 e8D (f2p N) := e8e N
def e8E : a0e := ext 7 (a1b e8D (f2p N)) (f2l N)
theorem b7d : a0c Try.prog (e8E N) := a0t.to (f11 N) (e2M N)
def e8F : List (Nat × List Nat) := [(0, [1, 2, 0]), (1, [1, 2, 0]), (2, [1, 2, 7, 0]), (3, [13, 12, 2, 1, 7, 0]), (4, [13, 2, 1, 7, 0, 12]), (5, [8, 2, 1, 7, 0, 13, 12]), (6, [2, 1, 8, 7, 0, 13, 12, 9]), (7, [1, 8, 7, 0, 13, 12, 2]), (8, [7, 9, 0, 8, 13, 12, 2, 1]), (9, [13, 12, 2, 1, 7, 0]), (10, [7])]
def e8G : a0r := [(9, [0, 1, 2, 7, 12, 13], [11], []), (23, [0, 1, 2, 7, 8, 9, 12, 13, 17], [11], [])]
def d3h (N : Nat) : Sg Try.prog 0 47 := .start e8G e8F
def b02 (N : Nat) (w1 w3 w4 : Int) (w7 : Bool) (k0 : Int → R) : R :=
 bif w7 then
  k0 (IntKind.wrap .i64 ((IntKind.wrap .i64 (w1 - 1)) - w3))
 else
  k0 w4
def b7e (w1 w3 w4 : Int) (w7 : Bool) : Int := b02 N w1 w3 w4 w7 (fun p => p)
theorem c69 (w1 w3 w4 : Int) (w7 : Bool) (k0 : Int → R) : b02 N w1 w3 w4 w7 k0 = k0 (b7e N w1 w3 w4 w7) := by
 unfold b7e b02
 repeat' (first | rfl | apply a0M | (apply a1u; intro _))
def c4n (L : List Lf) (k0 : Int → R) : R := b02 N (li L 1) (li L 3) (li L 4) (lb L 7) k0
def b94 : Sh := { tmps := [(0, .c (.i .i64)), (1, .c (.i .i64)), (2, .c (.b)), (7, .c (.o 11)), (8, .c (.i .i64)), (9, .c (.i .i64)), (12, .c (.i .i64)), (13, .c (.i .i64)), (17, .c (.b))], mem := [(11, .row 5 true)] }
def b47 (L : List Lf) (p : Int) : Ex × St := (.normal, mg (a0x b94 L) [0, 1, 2, 7, 8, 9, 12, 13] [(9, .c (.i .i64 p))] [11] [])
def d8x (L : List Lf) : List (Bool × (Ex × St)) := bnd (c4n N L (fun p => p)) fun q => [(true, b47 L q)]
theorem c7a (L : List Lf) : pc Try.prog (e8E N) (d3h N).h 0 100 47 23 b94 L [0, 1, 2, 7, 8, 9, 12, 13] [11] = c4n N L (fun p => some (b47 L p)) := by kernel_rfl
def d3i : Sg Try.prog 0 47 :=
 (d3h N).cut (d8x N) a0b (b7d N) fun L x hx => (c7a N L).trans ((c69 N ..).trans (a4q _ _ hx))
def c2n (w0 w1 : Int) (w2 : Bool) (w3 : Int) (w4 : Int) (w6 : LD) (kr : Int → LD → Option R) (k0 : LD → Option R) : Option R :=
 bif (decide (w4 < w3)) then
  bnd (b7e N w1 w4 w4 w2) fun y0 =>
  bif (decide (0 ≤ (IntKind.wrap .i64 (8 * w4)))) then
   bnd (IntKind.wrap .u8 (w0.fdiv (2 ^ (min (IntKind.wrap .i64 (8 * w4)).toNat 64)))) fun y1 =>
   bif (inB y0 w6.length) then
    bif (decide (y0.toNat < w6.length)) then
     kr (IntKind.wrap .i64 (w4 + 1)) (w6.set y0.toNat (.i y1))
    else
     none
   else
    none
  else
   none
 else
  k0 w6
def c2o (N : Nat) {R : Type} (w0 w1 : Int) (w2 : Bool) (w3 : Int) : Nat → Int → LD → (LD → Option R) → Option R
 | 0, _, _, _ => none
 | m + 1, w4, w6, k0 => c2n N w0 w1 w2 w3 w4 w6 (fun w4 w6 => c2o N w0 w1 w2 w3 m w4 w6 k0) k0
def e3c (w0 w1 : Int) (w2 : Bool) (w3 : Int) (w4 : Int) (w6 : LD) : Option (LD) := c2o N (R := (LD)) w0 w1 w2 w3 N w4 w6 (fun p => some p)
def b3u (L x : List Lf) (kr : List Lf → Option R) (k0 : LD → Option R) : Option R := c2n N (li L 0) (li L 1) (lb L 2) (li L 3) (li x 0) (ll x 1) (fun w4 w6 => kr [.i w4, .l w6]) k0
theorem c4o (L x : List Lf) (kr : List Lf → Option R) (k0 : LD → Option R) : b3u N L x kr k0 = (b3u N L x (fun y => some (.inl y)) (fun p => some (.inr p))).bind (a1a kr k0) := by
 unfold b3u c2n
 repeat' (first | with_reducible apply a0d | (with_reducible apply a0l; intro _) | rfl)
def b7f (L : List Lf) (m : Nat) (x : List Lf) : Option (LD) := c2o N (R := (LD)) (li L 0) (li L 1) (lb L 2) (li L 3) m (li x 0) (ll x 1) (fun p => some p)
def b03 : Sh := { tmps := [(0, .c (.i .i64)), (1, .c (.i .i64)), (2, .c (.b)), (7, .c (.o 11)), (12, .c (.i .i64)), (13, .c (.i .i64))], mem := [(11, .row 5 true)] }
def b95 (L : List Lf) (p : LD) : Ex × St := ((.exit 0), ⟨[(7, .c (.o 11))], [(11, .row 5 true (lb L 5) p)]⟩)
def e3d (L : List Lf) : List (Bool × (Ex × St)) := bnd (b7f N L N (pk b03 [4, 6] L)) fun q => [(q.isSome, b95 L (q.getD default))]
theorem c7b (m : Nat) (kn : St → Option (Ex × St)) (L x : List Lf) : lpB Try.prog (e8E N) (d3i N).h 0 47 9 b03 [4, 6] [6, 7] [11] (m + 100) kn L x = b3u N L x (fun y => kn (a0x b03 (mx b03 [4, 6] L y))) (fun p => some (b95 L p)) := by kernel_rfl
theorem d8y (L : List Lf) (m : Nat) (x : List Lf) : b7f N L (m + 1) x = b3u N L x (b7f N L m) some := by kernel_rfl
def d3j : Sg Try.prog 0 47 :=
 (d3i N).lp (e3d N) N a0b (b7d N) (fun m kn L x => (c7b N m kn L x).trans (c4o N L x _ _)) (fun L m x => (d8y N L m x).trans (c4o N L x (b7f N L m) some)) fun L x hx => a0D x hx
def d3k (v0 v1 : Int) (v2 : Bool) (k0 : LD → Option R) : Option R :=
 bif (((decide (0 ≤ v1)) && (decide (v1 ≤ v1))) && (decide (v1.toNat * 1 ≤ a1j) && decide (v1.toNat ≤ a0i))) then
  bnd (e3c N v0 v1 v2 v1 0 (List.replicate v1.toNat ((.i 0) : D))) fun y0 =>
  bif y0.isSome then
   k0 (y0.getD default)
  else
   none
 else
  none
def b9U (v0 v1 : Int) (v2 : Bool) : Option (LD) := d3k N v0 v1 v2 (fun p => some p)
theorem d8z (v0 v1 : Int) (v2 : Bool) (k0 : LD → Option R) : d3k N v0 v1 v2 k0 = (b9U N v0 v1 v2).bind k0 := by
 unfold b9U d3k
 repeat' (first | with_reducible apply a0d | (with_reducible apply a0l; intro _) | rfl)
def d3l : Sh := { tmps := [(0, .c (.i .i64)), (1, .c (.i .i64)), (2, .c (.b))], mem := [] }
def e8H (L : List Lf) : List (Bool × Res) := bnd (d3k N (li L 0) (li L 1) (lb L 2) (fun p => some p)) fun q => [(q.isSome, ([.c (.sl 5 false (q.getD default))], []))]
theorem e3e (L : List Lf) : bd Try.prog (e8E N) (d3j N).h 47 d3l L = d3k N (li L 0) (li L 1) (lb L 2) (fun p => some ([.c (.sl 5 false p)], [])) := by kernel_rfl
theorem e8I : a0t Try.prog 47 d3l (e8H N) :=
 (d3j N).fn a0b (b7d N) fun L x hx => ((e3e N L).trans ((d8z N ..).trans (a0D x hx)))
def d3m : a0e := ext 47 (a1b d3l (e8H N)) (e8E N)
theorem b04 : a0c Try.prog (d3m N) := a0t.to (e8I N) (b7d N)
def e8J : List (Nat × List Nat) := [(0, [0, 1, 2]), (1, [4, 3, 2]), (2, [4, 3, 2]), (3, []), (4, [3, 2]), (5, [3]), (6, [3, 2]), (7, [3, 4, 2]), (8, [38, 4, 3, 2]), (14, [38, 4, 3, 2]), (15, [4, 3]), (16, []), (17, [4]), (9, [4, 3]), (10, []), (11, [4, 3]), (12, []), (13, [4, 3]), (18, [4, 3, 2]), (19, []), (20, [3, 4, 2]), (21, [3, 4, 9, 2, 8]), (22, [3, 4, 9, 2]), (23, [4, 8, 9, 3, 2]), (24, []), (25, [4, 3, 2])]
def e8K : a0r := [(28, [3, 4], [3, 4], []), (68, [2, 3, 4, 8, 9, 94], [3, 4], [])]
def d3n (N : Nat) : Sg Try.prog 0 25 := .start e8K e8J
def a5H (w5 : Int) (w6 : LB) (k0 : Bool → R) : R :=
 bif (bif (w5 != 0) then true else (w6 == ([] : List UInt8))) then
  k0 true
 else
  bnd (c1T N w6) fun y0 =>
  k0 y0
def b00 (w5 : Int) (w6 : LB) : Bool := a5H N w5 w6 (fun p => p)
theorem c7c (w5 : Int) (w6 : LB) (k0 : Bool → R) : a5H N w5 w6 k0 = k0 (b00 N w5 w6) := by
 unfold b00 a5H
 repeat' (first | rfl | apply a0M | (apply a1u; intro _))
def b96 : Sh := { tmps := [(3, .c (.p 3 0)), (4, .c (.p 4 0))], mem := [(3, .box ([.i .i64, .i .i64, .i .i64])), (4, .box ([.i .i64, .i .i64, .i .i64, .s, .b]))] }
def b48 (L : List Lf) (p : Bool) : Ex × St := (.normal, mg (a0x b96 L) [3, 4, 53] [(53, .c (.b p))] [3, 4] [])
def d8A (L : List Lf) : List (Bool × (Ex × St)) := bnd (a5H N (li L 5) (ls L 6) (fun p => p)) fun q => [(true, b48 L q)]
theorem c7d (L : List Lf) : pc Try.prog (d3m N) (d3n N).h 0 100 25 28 b96 L [3, 4, 53] [3, 4] = a5H N (li L 5) (ls L 6) (fun p => some (b48 L p)) := by kernel_rfl
def d3o : Sg Try.prog 0 25 :=
 (d3n N).cut (d8A N) a0b (b04 N) fun L x hx => (c7d N L).trans ((c7c N ..).trans (a4q _ _ hx))
def a7Y (N : Nat) (w1 : Int) (w3 : Bool) (w5 : Int) (k0 : Int → Option R) : Option R :=
 bif w3 then
  bif (decide (0 ≤ (IntKind.wrap .i64 ((IntKind.wrap .i64 (8 * w5)) - 1)))) then
   bnd (IntKind.wrap .i64 (1 * 2 ^ (min (IntKind.wrap .i64 ((IntKind.wrap .i64 (8 * w5)) - 1)).toNat 64))) fun y0 =>
   k0 (IntKind.wrap .i64 (0 - y0))
  else
   none
 else
  k0 w1
def b0Z (w1 : Int) (w3 : Bool) (w5 : Int) : Option (Int) := a7Y N w1 w3 w5 (fun p => some p)
theorem c2p (w1 : Int) (w3 : Bool) (w5 : Int) (k0 : Int → Option R) : a7Y N w1 w3 w5 k0 = (b0Z N w1 w3 w5).bind k0 := by
 unfold b0Z a7Y
 repeat' (first | with_reducible apply a0d | (with_reducible apply a0l; intro _) | rfl)
def b97 : Sh := { tmps := [(2, .c (.b)), (3, .c (.p 3 0)), (4, .c (.p 4 0)), (8, .c (.i .i64)), (9, .c (.i .i64)), (94, .c (.b))], mem := [(3, .box ([.i .i64, .i .i64, .i .i64])), (4, .box ([.i .i64, .i .i64, .i .i64, .s, .b]))] }
def b49 (L : List Lf) (p : Int) : Ex × St := (.normal, mg (a0x b97 L) [2, 3, 4, 8, 9] [(8, .c (.i .i64 p))] [3, 4] [])
def d8B (L : List Lf) : List (Bool × (Ex × St)) := bnd (a7Y N (li L 1) (lb L 3) (li L 5) (fun p => some p)) fun q => [(q.isSome, b49 L (q.getD default))]
theorem c7e (L : List Lf) : pc Try.prog (d3m N) (d3o N).h 0 100 25 68 b97 L [2, 3, 4, 8, 9] [3, 4] = a7Y N (li L 1) (lb L 3) (li L 5) (fun p => some (b49 L p)) := by kernel_rfl
def d3p : Sg Try.prog 0 25 :=
 (d3o N).cut (d8B N) a0b (b04 N) fun L x hx => (c7e N L).trans ((c2p N ..).trans (a0D x hx))
def d2X (v1 v2 v5 : Int) (v6 : LB) (v7 v8 : Bool) (k0 : Bool × LD × Int → Option R) : Option R :=
 bif v7 then
  bnd (bif (bif (v5 != 0) then true else (!(v6 == ([] : List UInt8)))) then true else (v2 == 3)) fun y0 =>
  bif y0 then
   k0 (true, [], 2)
  else
   bif (v2 == 2) then
    bif (((decide (0 ≤ v1)) && (decide (v1 ≤ v1))) && (decide (v1.toNat * 1 ≤ a1j) && decide (v1.toNat ≤ a0i))) then
     k0 (false, (List.replicate v1.toNat ((.i 0) : D)), 0)
    else
     none
   else
    bnd (c17 N v1 v2) fun y1 =>
    bif y1.isSome then
     bnd (b9U N (y1.getD default) v1 v8) fun y2 =>
     bif y2.isSome then
      k0 (false, (y2.getD default), 0)
     else
      none
    else
     none
 else
  bif (v2 == 2) then
   bnd (b00 N v5 v6) fun y3 =>
   bif y3 then
    k0 (true, [], 2)
   else
    bif (decide ((v6.length : Int) > v1)) then
     k0 (true, [], 3)
    else
     bif (Nat.ble v6.length a0i) then
      bif ((decide (0 ≤ (IntKind.wrap .i64 (v1 - (v6.length : Int))))) && (decide (((a0E v6).length + (IntKind.wrap .i64 (v1 - (v6.length : Int))).toNat) * 1 ≤ a1j) && decide (((a0E v6).length + (IntKind.wrap .i64 (v1 - (v6.length : Int))).toNat) ≤ a0i))) then
       bnd (((a0E v6) ++ (List.replicate (IntKind.wrap .i64 (v1 - (v6.length : Int))).toNat ((.i 0) : D))) : List D) fun y4 =>
       k0 (false, y4, 0)
      else
       none
     else
      none
  else
   bif (v2 == 3) then
    bif (bif (v5 != 0) then true else ((v6.length : Int) != v1)) then
     k0 (true, [], 2)
    else
     bif (Nat.ble v6.length a0i) then
      k0 (false, (a0E v6), 0)
     else
      none
   else
    bif (!(v6 == ([] : List UInt8))) then
     k0 (true, [], 2)
    else
     bnd (c17 N v1 v2) fun y1 =>
     bif y1.isSome then
      bnd (b0Z N 0 (v2 == 1) v1) fun y5 =>
      bif y5.isSome then
       bnd (a8Z N v5 (y5.getD default) (IntKind.wrap .i64 ((y1.getD default) - 1))) fun y6 =>
       bif y6 then
        k0 (true, [], 9)
       else
        bnd (b9U N v5 v1 v8) fun y7 =>
        bif y7.isSome then
         k0 (false, (y7.getD default), 0)
        else
         none
      else
       none
     else
      none
def d2W (v1 v2 v5 : Int) (v6 : LB) (v7 v8 : Bool) : Option (Bool × LD × Int) := d2X N v1 v2 v5 v6 v7 v8 (fun p => some p)
theorem d8C (v1 v2 v5 : Int) (v6 : LB) (v7 v8 : Bool) (k0 : Bool × LD × Int → Option R) : d2X N v1 v2 v5 v6 v7 v8 k0 = (d2W N v1 v2 v5 v6 v7 v8).bind k0 := by
 unfold d2W d2X
 repeat' (first | with_reducible apply a0d | (with_reducible apply a0l; intro _) | rfl)
def e8L (L : List Lf) (k0 : Bool × LD × Int → Option R) : Option R := d2X N (li L 1) (li L 2) (li L 5) (ls L 6) (lb L 7) (lb L 8) k0
def d3q : Sh := { tmps := [(0, .g ([.i .i64, .i .i64, .i .i64])), (1, .g ([.i .i64, .i .i64, .i .i64, .s, .b])), (2, .c (.b))], mem := [] }
def e8M (L : List Lf) : List (Bool × Res) := bnd (e8L N L (fun p => some p)) fun q => [(q.isSome, ([.c (.sl 5 (q.getD default).1 (q.getD default).2.1), .c (.i .i64 (q.getD default).2.2)], []))]
theorem e3f (L : List Lf) : bd Try.prog (d3m N) (d3p N).h 25 d3q L = e8L N L (fun p => some ([.c (.sl 5 p.1 p.2.1), .c (.i .i64 p.2.2)], [])) := by kernel_rfl
theorem e8N : a0t Try.prog 25 d3q (e8M N) :=
 (d3p N).fn a0b (b04 N) fun L x hx => ((e3f N L).trans ((d8C N ..).trans (a0D x hx)))
def e3g : a0e := ext 25 (a1b d3q (e8M N)) (d3m N)
theorem c4p : a0c Try.prog (e3g N) := a0t.to (e8N N) (b04 N)
def e8O : List (Nat × List Nat) := [(0, [0, 2, 1]), (1, [3, 1, 5, 6]), (2, [7, 1, 5, 6]), (3, [7, 6])]
def e8P : a0r := []
def d3r (N : Nat) : Sg Try.prog 0 26 := .start e8P e8O
def d22 (N : Nat) (v1 : LD) (v2 v3 v4 v5 : Int) (v6 : Bool) (v7 : LD) (v8 : Bool) (v9 : LD) (k0 : Bool × LD → Option R) : Option R :=
 bif (decide ((0 + v1.length) * 72 ≤ a1j) && decide ((0 + v1.length) ≤ a0i)) then
  bif (inB v2 v1.length) then
   bif (decide (v2.toNat < v1.length)) then
    bnd ((v1.set v2.toNat (.a [(.i v3), (.i v4), (.i v5), (.l v6 v7), (.l v8 v9)])) : List D) fun y0 =>
    k0 ((v1.isEmpty && false), y0)
   else
    none
  else
   none
 else
  none
def d21 (v1 : LD) (v2 v3 v4 v5 : Int) (v6 : Bool) (v7 : LD) (v8 : Bool) (v9 : LD) : Option (Bool × LD) := d22 N v1 v2 v3 v4 v5 v6 v7 v8 v9 (fun p => some p)
theorem d8D (v1 : LD) (v2 v3 v4 v5 : Int) (v6 : Bool) (v7 : LD) (v8 : Bool) (v9 : LD) (k0 : Bool × LD → Option R) : d22 N v1 v2 v3 v4 v5 v6 v7 v8 v9 k0 = (d21 N v1 v2 v3 v4 v5 v6 v7 v8 v9).bind k0 := by
 unfold d21 d22
 repeat' (first | with_reducible apply a0d | (with_reducible apply a0l; intro _) | rfl)
def e8Q (L : List Lf) (k0 : Bool × LD → Option R) : Option R := d22 N (ll L 1) (li L 2) (li L 3) (li L 4) (li L 5) (lb L 6) (ll L 7) (lb L 8) (ll L 9) k0
def d3s : Sh := { tmps := [(0, .g ([.sl 41])), (1, .c (.i .i64)), (2, .g ([.i .i64, .i .i64, .i .i64, .sl 44, .sl 5]))], mem := [] }
def e8R (L : List Lf) : List (Bool × Res) := bnd (e8Q N L (fun p => some p)) fun q => [(q.isSome, ([.g [.sl 41 (q.getD default).1 (q.getD default).2]], []))]
theorem e3h (L : List Lf) : bd Try.prog (e3g N) (d3r N).h 26 d3s L = e8Q N L (fun p => some ([.g [.sl 41 p.1 p.2]], [])) := by kernel_rfl
theorem e8S : a0t Try.prog 26 d3s (e8R N) :=
 (d3r N).fn a0b (c4p N) fun L x hx => ((e3h N L).trans ((d8D N ..).trans (a0D x hx)))
def d8E : a0e := ext 26 (a1b d3s (e8R N)) (e3g N)
theorem b7g : a0c Try.prog (d8E N) := a0t.to (e8S N) (c4p N)
def f12 : List (Nat × List Nat) := [(0, [0, 2, 1]), (1, [3, 1, 6, 5]), (2, [8, 6, 3, 1, 5]), (3, [8, 6]), (4, [3, 1, 5, 6]), (5, [3, 1, 9, 5, 6]), (6, [9, 10, 5, 6, 3, 1]), (7, [9, 10, 5, 11, 6, 3, 1]), (8, [44, 43, 42, 5, 11, 6, 9, 10, 3, 1]), (9, [42, 44, 5, 11, 43, 6, 9, 10, 3, 1]), (10, [13, 5, 11, 44, 43, 42, 6, 9, 10, 3, 1]), (11, [11, 13, 44, 43, 42, 5, 6, 9, 10, 3, 1]), (12, [13, 5, 6, 9, 10, 11, 3, 1]), (13, [6]), (14, [13, 5, 9, 6, 10, 11, 3, 1]), (15, [15, 6, 10, 11, 14, 13, 3, 1]), (16, [15, 6]), (17, [10, 11, 14, 13, 3, 1, 6]), (18, [3, 1, 10, 6]), (19, [16, 6]), (20, [17, 6, 16]), (21, [17, 6]), (22, [16, 6]), (23, [44, 43, 42, 5, 11, 6, 9, 10, 3, 1]), (24, [6])]
def f13 : a0r := [(24, [1, 3, 5, 6, 9, 10, 11, 42, 43, 44], [3, 5, 6, 9, 10], [])]
def e0q (N : Nat) : Sg Try.prog 0 8 := .start f13 f12
def b69 (w0 : Int) (w3 : LD) (w4 : Int) (w7 : LD) (w8 w9 w10 : Int) (w11 : LB) (w12 w15 : Bool) (w19 w20 w21 : Int) (w22 : Bool) (w23 w25 : LD) (w1 w5 : Int) (kr : Int → Int → Option R) (k0 : Int × Bool × LD → Option R) (k1 : Unit → Option R) : Option R :=
 bif (decide (w5 < w4)) then
  bif (inB w5 w3.length) then
   bif (((w3.getD w5.toNat (.i 0)).cell 0).toI != w8) then
    bnd (IntKind.wrap .i64 (w1 + ((w3.getD w5.toNat (.i 0)).cell 1).toI)) fun y0 =>
    kr y0 (IntKind.wrap .i64 (w5 + 1))
   else
    bif (((w3.getD w5.toNat (.i 0)).cell 2).toI != w9) then
     k0 (7, true, [])
    else
     bnd (d2W N ((w3.getD w5.toNat (.i 0)).cell 1).toI ((w3.getD w5.toNat (.i 0)).cell 2).toI w10 w11 w12 w15) fun y1 =>
     bif y1.isSome then
      bif ((y1.getD default).2.2 != 0) then
       k0 ((y1.getD default).2.2, true, [])
      else
       bif ((decide (0 ≤ w1)) && (decide (w1 ≤ (w25.length : Int)))) then
        bif (decide ((0 + ((w25.take w1.toNat).drop 0).length) * 1 ≤ a1j) && decide ((0 + ((w25.take w1.toNat).drop 0).length) ≤ a0i)) then
         bif (decide ((((w25.take w1.toNat).drop 0).length + (y1.getD default).2.1.length) * 1 ≤ a1j) && decide ((((w25.take w1.toNat).drop 0).length + (y1.getD default).2.1.length) ≤ a0i)) then
          bnd ((y1.getD default).2.1.isEmpty && (((w25.take w1.toNat).drop 0).isEmpty && false)) fun y2 =>
          bnd ((((w25.take w1.toNat).drop 0) ++ (y1.getD default).2.1) : List D) fun y3 =>
          bnd (IntKind.wrap .i64 (w1 + ((w3.getD w5.toNat (.i 0)).cell 1).toI)) fun y0 =>
          bif (((decide (0 ≤ y0)) && (decide (y0 ≤ (w25.length : Int)))) && (decide ((w25.length : Int) ≤ (w25.length : Int)))) then
           bif (decide ((y3.length + ((w25.take (w25.length : Int).toNat).drop y0.toNat).length) * 1 ≤ a1j) && decide ((y3.length + ((w25.take (w25.length : Int).toNat).drop y0.toNat).length) ≤ a0i)) then
            bnd (((w25.take (w25.length : Int).toNat).drop y0.toNat).isEmpty && y2) fun y4 =>
            bnd ((y3 ++ ((w25.take (w25.length : Int).toNat).drop y0.toNat)) : List D) fun y5 =>
            bnd (d21 N w7 w0 w19 w20 w21 w22 w23 y4 y5) fun y6 =>
            bif y6.isSome then
             bnd (b9O N (y6.getD default).2) fun y7 =>
             bif y7.isSome then
              bif ((y7.getD default) != 0) then
               k0 ((y7.getD default), true, [])
              else
               k0 (0, (y6.getD default).1, (y6.getD default).2)
             else
              none
            else
             none
           else
            none
          else
           none
         else
          none
        else
         none
       else
        none
     else
      none
  else
   none
 else
  k1 ()
def b3j (N : Nat) {R : Type} (w0 : Int) (w3 : LD) (w4 : Int) (w7 : LD) (w8 w9 w10 : Int) (w11 : LB) (w12 w15 : Bool) (w19 w20 w21 : Int) (w22 : Bool) (w23 w25 : LD) : Nat → Int → Int → (Int × Bool × LD → Option R) → (Unit → Option R) → Option R
 | 0, _, _, _, _ => none
 | m + 1, w1, w5, k0, k1 => b69 N w0 w3 w4 w7 w8 w9 w10 w11 w12 w15 w19 w20 w21 w22 w23 w25 w1 w5 (fun w1 w5 => b3j N w0 w3 w4 w7 w8 w9 w10 w11 w12 w15 w19 w20 w21 w22 w23 w25 m w1 w5 k0 k1) k0 k1
def d23 (w0 : Int) (w3 : LD) (w4 : Int) (w7 : LD) (w8 w9 w10 : Int) (w11 : LB) (w12 w15 : Bool) (w19 w20 w21 : Int) (w22 : Bool) (w23 w25 : LD) (w1 w5 : Int) : Option (Sum (Int × Bool × LD) (Unit)) := b3j N (R := (Sum (Int × Bool × LD) (Unit))) w0 w3 w4 w7 w8 w9 w10 w11 w12 w15 w19 w20 w21 w22 w23 w25 N w1 w5 (fun p => some (.inl p)) (fun p => some (.inr p))
def b3v (L x : List Lf) (kr : List Lf → Option R) (k0 : Int × Bool × LD → Option R) (k1 : Unit → Option R) : Option R := b69 N (li L 0) (ll L 3) (li L 4) (ll L 7) (li L 8) (li L 9) (li L 10) (ls L 11) (lb L 12) (lb L 15) (li L 19) (li L 20) (li L 21) (lb L 22) (ll L 23) (ll L 25) (li x 0) (li x 1) (fun w1 w5 => kr [.i w1, .i w5]) k0 k1
theorem c4q (L x : List Lf) (kr : List Lf → Option R) (k0 : Int × Bool × LD → Option R) (k1 : Unit → Option R) : b3v N L x kr k0 k1 = (b3v N L x (fun y => some (.inl y)) (fun p => some (.inr (.inl p))) (fun p => some (.inr (.inr p)))).bind (a1a kr (a1a k0 k1)) := by
 unfold b3v b69
 repeat' (first | with_reducible apply a0d | (with_reducible apply a0l; intro _) | rfl)
def b7h (L : List Lf) (m : Nat) (x : List Lf) : Option (Sum (Int × Bool × LD) (Unit)) := b3j N (R := (Sum (Int × Bool × LD) (Unit))) (li L 0) (ll L 3) (li L 4) (ll L 7) (li L 8) (li L 9) (li L 10) (ls L 11) (lb L 12) (lb L 15) (li L 19) (li L 20) (li L 21) (lb L 22) (ll L 23) (ll L 25) m (li x 0) (li x 1) (fun p => some (.inl p)) (fun p => some (.inr p))
def a5I : Sh := { tmps := [(1, .c (.i .i64)), (3, .c (.p 3 0)), (5, .c (.p 5 0)), (6, .c (.p 6 0)), (9, .c (.p 9 0)), (10, .c (.p 10 0)), (11, .c (.i .i64)), (42, .c (.sl 61)), (43, .c (.i .i64)), (44, .c (.i .i64))], mem := [(3, .box ([.sl 41])), (5, .box ([.i .i64, .i .i64, .i .i64, .s, .b])), (6, .box ([.sl 41])), (9, .box ([.b, .i .i64, .sl 61])), (10, .box ([.i .i64, .i .i64, .i .i64, .sl 44, .sl 5]))] }
def b98 (L : List Lf) (p : Int × Bool × LD) : Ex × St := (.ret, ⟨[(6, .c (.p 6 0)), (7, .c (.i .i64 p.1))], [(6, .box [.sl 41 p.2.1 p.2.2])]⟩)
def e3i (L : List Lf) : List (Bool × (Ex × St)) := bnd (b7h N L N (pk a5I [1, 5] L)) fun q => [((a07 q), b98 L (a3p q)), ((a0I q).isSome, ((.exit 0), mg (a0x a5I L) [6] [] [6] []))]
theorem c7f (m : Nat) (kn : St → Option (Ex × St)) (L x : List Lf) : lpB Try.prog (d8E N) (e0q N).h 0 8 24 a5I [1, 5] [6, 7] [6] (m + 100) kn L x = b3v N L x (fun y => kn (a0x a5I (mx a5I [1, 5] L y))) (fun p => some (b98 L p)) (fun _ => some ((.exit 0), mg (a0x a5I L) [6] [] [6] [])) := by kernel_rfl
theorem d8F (L : List Lf) (m : Nat) (x : List Lf) : b7h N L (m + 1) x = b3v N L x (b7h N L m) (fun p => some (.inl p)) (fun p => some (.inr p)) := by kernel_rfl
def e0r : Sg Try.prog 0 8 :=
 (e0q N).lp (e3i N) N a0b (b7g N) (fun m kn L x => (c7f N m kn L x).trans (c4q N L x _ _ _)) (fun L m x => (d8F N L m x).trans (c4q N L x (b7h N L m) (fun p => some (.inl p)) (fun p => some (.inr p)))) fun L x hx => (a3w a0D) x hx
def e8u (v1 : LD) (v2 v3 v4 v5 : Int) (v6 : LB) (v7 : Bool) (k0 : Bool × LD × Int → Option R) : Option R :=
 bnd (c6P N v1 v2) fun y0 =>
 bif y0.isSome then
  bif ((y0.getD default) != 0) then
   k0 (true, [], (y0.getD default))
  else
   bnd (c16 N v1) fun y1 =>
   bif y1.isSome then
    bif (inB v2 (y1.getD default).2.1.length) then
     bif (inB 0 ((y1.getD default).2.1.getD v2.toNat (.i 0)).items.length) then
      bnd ((((y1.getD default).2.1.getD v2.toNat (.i 0)).items.getD 0 (.i 0)) : D) fun y2 =>
      bif (inB v2 v1.length) then
       bnd (b9J N (y2.cell 2).items (((v1.getD v2.toNat (.i 0)).cell 0).toI == 3)) fun y3 =>
       bif y3.isSome then
        bnd (d23 N v2 (y3.getD default).2 ((y3.getD default).2.length : Int) v1 v3 v4 v5 v6 v7 (y2.cell 0).toB ((v1.getD v2.toNat (.i 0)).cell 0).toI ((v1.getD v2.toNat (.i 0)).cell 1).toI ((v1.getD v2.toNat (.i 0)).cell 2).toI ((v1.getD v2.toNat (.i 0)).cell 3).isNil ((v1.getD v2.toNat (.i 0)).cell 3).items ((v1.getD v2.toNat (.i 0)).cell 4).items 0 0) fun y4 =>
        bif (a07 y4) then
         k0 ((a3p y4).2.1, (a3p y4).2.2, (a3p y4).1)
        else
         bif (a0I y4).isSome then
          k0 (true, [], 4)
         else
          none
       else
        none
      else
       none
     else
      none
    else
     none
   else
    none
 else
  none
def e8t (v1 : LD) (v2 v3 v4 v5 : Int) (v6 : LB) (v7 : Bool) : Option (Bool × LD × Int) := e8u N v1 v2 v3 v4 v5 v6 v7 (fun p => some p)
theorem e3j (v1 : LD) (v2 v3 v4 v5 : Int) (v6 : LB) (v7 : Bool) (k0 : Bool × LD × Int → Option R) : e8u N v1 v2 v3 v4 v5 v6 v7 k0 = (e8t N v1 v2 v3 v4 v5 v6 v7).bind k0 := by
 unfold e8t e8u
 repeat' (first | with_reducible apply a0d | (with_reducible apply a0l; intro _) | rfl)
def f2q (L : List Lf) (k0 : Bool × LD × Int → Option R) : Option R := e8u N (ll L 1) (li L 2) (li L 3) (li L 4) (li L 5) (ls L 6) (lb L 7) k0
def e3k : Sh := { tmps := [(0, .g ([.sl 41])), (1, .c (.i .i64)), (2, .g ([.i .i64, .i .i64, .i .i64, .s, .b]))], mem := [] }
def f2r (L : List Lf) : List (Bool × Res) := bnd (f2q N L (fun p => some p)) fun q => [(q.isSome, ([.g [.sl 41 (q.getD default).1 (q.getD default).2.1], .c (.i .i64 (q.getD default).2.2)], []))]
theorem e8T (L : List Lf) : bd Try.prog (d8E N) (e0r N).h 8 e3k L = f2q N L (fun p => some ([.g [.sl 41 p.1 p.2.1], .c (.i .i64 p.2.2)], [])) := by kernel_rfl
theorem f14 : a0t Try.prog 8 e3k (f2r N) :=
 (e0r N).fn a0b (b7g N) fun L x hx => ((e8T N L).trans ((e3j N ..).trans (a0D x hx)))
def f00 : a0e := ext 8 (a1b e3k (f2r N)) (d8E N)
theorem c2q : a0c Try.prog (f00 N) := a0t.to (f14 N) (b7g N)
def f15 : List (Nat × List Nat) := [(0, [0, 1]), (1, [0, 1]), (2, []), (3, [0, 1]), (4, [13, 12, 0, 1]), (5, [13, 0, 1, 12]), (6, [0, 5, 1, 13, 12]), (7, []), (8, [13, 12, 0, 1]), (9, [])]
def f16 : a0r := [(12, [0, 1, 12, 13], [], [])]
def e0s (N : Nat) : Sg Try.prog 0 9 := .start f16 f15
def c2r (N : Nat) (w1 w3 : LD) (w4 : Int) (w5 : Int) (kr : Int → Option R) (k0 : Unit → Option R) (k1 : Unit → Option R) : Option R :=
 bif (decide (w5 < w4)) then
  bif (inB w5 w1.length) then
   bif (inB w5 w3.length) then
    bnd (!((((w1.getD w5.toNat (.i 0)).cell 0).toI == ((w3.getD w5.toNat (.i 0)).cell 0).toI) && ((((w1.getD w5.toNat (.i 0)).cell 1).toI == ((w3.getD w5.toNat (.i 0)).cell 1).toI) && ((((w1.getD w5.toNat (.i 0)).cell 2).toI == ((w3.getD w5.toNat (.i 0)).cell 2).toI) && ((((w1.getD w5.toNat (.i 0)).cell 3).toS == ((w3.getD w5.toNat (.i 0)).cell 3).toS) && ((((w1.getD w5.toNat (.i 0)).cell 4).toB == ((w3.getD w5.toNat (.i 0)).cell 4).toB) && true)))))) fun y0 =>
    bif y0 then
     k0 ()
    else
     kr (IntKind.wrap .i64 (w5 + 1))
   else
    none
  else
   none
 else
  k1 ()
def c2s (N : Nat) {R : Type} (w1 w3 : LD) (w4 : Int) : Nat → Int → (Unit → Option R) → (Unit → Option R) → Option R
 | 0, _, _, _ => none
 | m + 1, w5, k0, k1 => c2r N w1 w3 w4 w5 (fun w5 => c2s N w1 w3 w4 m w5 k0 k1) k0 k1
def e3l (w1 w3 : LD) (w4 : Int) (w5 : Int) : Option (Sum (Unit) (Unit)) := c2s N (R := (Sum (Unit) (Unit))) w1 w3 w4 N w5 (fun p => some (.inl p)) (fun p => some (.inr p))
def b3w (L x : List Lf) (kr : List Lf → Option R) (k0 : Unit → Option R) (k1 : Unit → Option R) : Option R := c2r N (ll L 1) (ll L 3) (li L 4) (li x 0) (fun w5 => kr [.i w5]) k0 k1
theorem c4r (L x : List Lf) (kr : List Lf → Option R) (k0 : Unit → Option R) (k1 : Unit → Option R) : b3w N L x kr k0 k1 = (b3w N L x (fun y => some (.inl y)) (fun p => some (.inr (.inl p))) (fun p => some (.inr (.inr p)))).bind (a1a kr (a1a k0 k1)) := by
 unfold b3w c2r
 repeat' (first | with_reducible apply a0d | (with_reducible apply a0l; intro _) | rfl)
def b7i (L : List Lf) (m : Nat) (x : List Lf) : Option (Sum (Unit) (Unit)) := c2s N (R := (Sum (Unit) (Unit))) (ll L 1) (ll L 3) (li L 4) m (li x 0) (fun p => some (.inl p)) (fun p => some (.inr p))
def b05 : Sh := { tmps := [(0, .c (.sl 26)), (1, .c (.sl 26)), (12, .c (.i .i64)), (13, .c (.i .i64))], mem := [] }
def e3m (L : List Lf) : List (Bool × (Ex × St)) := bnd (b7i N L N (pk b05 [5] L)) fun q => [((a07 q), (.ret, ⟨[(4, .c (.b false))], []⟩)), ((a0I q).isSome, ((.exit 0), ⟨[], []⟩))]
theorem c7g (m : Nat) (kn : St → Option (Ex × St)) (L x : List Lf) : lpB Try.prog (f00 N) (e0s N).h 0 9 12 b05 [5] [4] [] (m + 100) kn L x = b3w N L x (fun y => kn (a0x b05 (mx b05 [5] L y))) (fun _ => some (.ret, ⟨[(4, .c (.b false))], []⟩)) (fun _ => some ((.exit 0), ⟨[], []⟩)) := by kernel_rfl
theorem d8G (L : List Lf) (m : Nat) (x : List Lf) : b7i N L (m + 1) x = b3w N L x (b7i N L m) (fun p => some (.inl p)) (fun p => some (.inr p)) := by kernel_rfl
def e0t : Sg Try.prog 0 9 :=
 (e0s N).lp (e3m N) N a0b (c2q N) (fun m kn L x => (c7g N m kn L x).trans (c4r N L x _ _ _)) (fun L m x => (d8G N L m x).trans (c4r N L x (b7i N L m) (fun p => some (.inl p)) (fun p => some (.inr p)))) fun L x hx => (a3w a0D) x hx
def e8U (v1 v3 : LD) (k0 : Bool → Option R) : Option R :=
 bif ((v1.length : Int) != (v3.length : Int)) then
  k0 false
 else
  bnd (e3l N v1 v3 (v1.length : Int) 0) fun y0 =>
  bif (a07 y0) then
   k0 false
  else
   bif (a0I y0).isSome then
    k0 true
   else
    none
def f2s (v1 v3 : LD) : Option (Bool) := e8U N v1 v3 (fun p => some p)
theorem e3n (v1 v3 : LD) (k0 : Bool → Option R) : e8U N v1 v3 k0 = (f2s N v1 v3).bind k0 := by
 unfold f2s e8U
 repeat' (first | with_reducible apply a0d | (with_reducible apply a0l; intro _) | rfl)
def e3o : Sh := { tmps := [(0, .c (.sl 26)), (1, .c (.sl 26))], mem := [] }
def f2t (L : List Lf) : List (Bool × Res) := bnd (e8U N (ll L 1) (ll L 3) (fun p => some p)) fun q => [(q.isSome, ([.c (.b (q.getD default))], []))]
theorem e8V (L : List Lf) : bd Try.prog (f00 N) (e0t N).h 9 e3o L = e8U N (ll L 1) (ll L 3) (fun p => some ([.c (.b p)], [])) := by kernel_rfl
theorem f17 : a0t Try.prog 9 e3o (f2t N) :=
 (e0t N).fn a0b (c2q N) fun L x hx => ((e8V N L).trans ((e3n N ..).trans (a0D x hx)))
def f01 : a0e := ext 9 (a1b e3o (f2t N)) (f00 N)
theorem c2t : a0c Try.prog (f01 N) := a0t.to (f17 N) (c2q N)
def e8W : List (Nat × List Nat) := [(0, [0, 1]), (1, [0, 1]), (2, []), (3, [0, 1]), (4, [13, 12, 0, 1]), (5, [13, 0, 1, 12]), (6, [0, 5, 1, 13, 12]), (7, []), (8, [13, 12, 0, 1]), (9, [])]
def e8X : a0r := [(12, [0, 1, 12, 13], [], [])]
def d3t (N : Nat) : Sg Try.prog 0 60 := .start e8X e8W
def a5D (N : Nat) (w1 w3 : LD) (w4 : Int) (w5 : Int) (kr : Int → Option R) (k0 : Unit → Option R) (k1 : Unit → Option R) : Option R :=
 bif (decide (w5 < w4)) then
  bif (inB w5 w1.length) then
   bif (inB w5 w3.length) then
    bnd (!((((w1.getD w5.toNat (.i 0)).cell 0).toI == ((w3.getD w5.toNat (.i 0)).cell 0).toI) && ((((w1.getD w5.toNat (.i 0)).cell 1).toI == ((w3.getD w5.toNat (.i 0)).cell 1).toI) && ((((w1.getD w5.toNat (.i 0)).cell 2).toI == ((w3.getD w5.toNat (.i 0)).cell 2).toI) && true)))) fun y0 =>
    bif y0 then
     k0 ()
    else
     kr (IntKind.wrap .i64 (w5 + 1))
   else
    none
  else
   none
 else
  k1 ()
def b0V (N : Nat) {R : Type} (w1 w3 : LD) (w4 : Int) : Nat → Int → (Unit → Option R) → (Unit → Option R) → Option R
 | 0, _, _, _ => none
 | m + 1, w5, k0, k1 => a5D N w1 w3 w4 w5 (fun w5 => b0V N w1 w3 w4 m w5 k0 k1) k0 k1
def c4a (w1 w3 : LD) (w4 : Int) (w5 : Int) : Option (Sum (Unit) (Unit)) := b0V N (R := (Sum (Unit) (Unit))) w1 w3 w4 N w5 (fun p => some (.inl p)) (fun p => some (.inr p))
def a7Z (L x : List Lf) (kr : List Lf → Option R) (k0 : Unit → Option R) (k1 : Unit → Option R) : Option R := a5D N (ll L 1) (ll L 3) (li L 4) (li x 0) (fun w5 => kr [.i w5]) k0 k1
theorem b99 (L x : List Lf) (kr : List Lf → Option R) (k0 : Unit → Option R) (k1 : Unit → Option R) : a7Z N L x kr k0 k1 = (a7Z N L x (fun y => some (.inl y)) (fun p => some (.inr (.inl p))) (fun p => some (.inr (.inr p)))).bind (a1a kr (a1a k0 k1)) := by
 unfold a7Z a5D
 repeat' (first | with_reducible apply a0d | (with_reducible apply a0l; intro _) | rfl)
def b06 (L : List Lf) (m : Nat) (x : List Lf) : Option (Sum (Unit) (Unit)) := b0V N (R := (Sum (Unit) (Unit))) (ll L 1) (ll L 3) (li L 4) m (li x 0) (fun p => some (.inl p)) (fun p => some (.inr p))
def a70 : Sh := { tmps := [(0, .c (.sl 61)), (1, .c (.sl 61)), (12, .c (.i .i64)), (13, .c (.i .i64))], mem := [] }
def d8H (L : List Lf) : List (Bool × (Ex × St)) := bnd (b06 N L N (pk a70 [5] L)) fun q => [((a07 q), (.ret, ⟨[(4, .c (.b false))], []⟩)), ((a0I q).isSome, ((.exit 0), ⟨[], []⟩))]
theorem c2u (m : Nat) (kn : St → Option (Ex × St)) (L x : List Lf) : lpB Try.prog (f01 N) (d3t N).h 0 60 12 a70 [5] [4] [] (m + 100) kn L x = a7Z N L x (fun y => kn (a0x a70 (mx a70 [5] L y))) (fun _ => some (.ret, ⟨[(4, .c (.b false))], []⟩)) (fun _ => some ((.exit 0), ⟨[], []⟩)) := by kernel_rfl
theorem d3u (L : List Lf) (m : Nat) (x : List Lf) : b06 N L (m + 1) x = a7Z N L x (b06 N L m) (fun p => some (.inl p)) (fun p => some (.inr p)) := by kernel_rfl
def d3v : Sg Try.prog 0 60 :=
 (d3t N).lp (d8H N) N a0b (c2t N) (fun m kn L x => (c2u N m kn L x).trans (b99 N L x _ _ _)) (fun L m x => (d3u N L m x).trans (b99 N L x (b06 N L m) (fun p => some (.inl p)) (fun p => some (.inr p)))) fun L x hx => (a3w a0D) x hx
def c6X (v1 v3 : LD) (k0 : Bool → Option R) : Option R :=
 bif ((v1.length : Int) != (v3.length : Int)) then
  k0 false
 else
  bnd (c4a N v1 v3 (v1.length : Int) 0) fun y0 =>
  bif (a07 y0) then
   k0 false
  else
   bif (a0I y0).isSome then
    k0 true
   else
    none
def d2E (v1 v3 : LD) : Option (Bool) := c6X N v1 v3 (fun p => some p)
theorem d8I (v1 v3 : LD) (k0 : Bool → Option R) : c6X N v1 v3 k0 = (d2E N v1 v3).bind k0 := by
 unfold d2E c6X
 repeat' (first | with_reducible apply a0d | (with_reducible apply a0l; intro _) | rfl)
def d3w : Sh := { tmps := [(0, .c (.sl 61)), (1, .c (.sl 61))], mem := [] }
def e8Y (L : List Lf) : List (Bool × Res) := bnd (c6X N (ll L 1) (ll L 3) (fun p => some p)) fun q => [(q.isSome, ([.c (.b (q.getD default))], []))]
theorem e3p (L : List Lf) : bd Try.prog (f01 N) (d3v N).h 60 d3w L = c6X N (ll L 1) (ll L 3) (fun p => some ([.c (.b p)], [])) := by kernel_rfl
theorem e8Z : a0t Try.prog 60 d3w (e8Y N) :=
 (d3v N).fn a0b (c2t N) fun L x hx => ((e3p N L).trans ((d8I N ..).trans (a0D x hx)))
def d8J : a0e := ext 60 (a1b d3w (e8Y N)) (f01 N)
theorem b7j : a0c Try.prog (d8J N) := a0t.to (e8Z N) (c2t N)
def e83 : List (Nat × List Nat) := [(0, [0, 1]), (1, [2, 3])]
def e84 : a0r := [(4, [2, 3], [2, 3], [])]
def d3x (N : Nat) : Sg Try.prog 0 33 := .start e84 e83
def b3d (w0 : Bool) (w1 : Int) (w3 : LD) (w4 : Bool) (w5 : Int) (w7 : LD) (k0 : Bool → Option R) : Option R :=
 bif (bif (w0 == w4) then (w1 == w5) else false) then
  bnd (d2E N w3 w7) fun y0 =>
  bif y0.isSome then
   k0 (y0.getD default)
  else
   none
 else
  k0 false
def b6Y (w0 : Bool) (w1 : Int) (w3 : LD) (w4 : Bool) (w5 : Int) (w7 : LD) : Option (Bool) := b3d N w0 w1 w3 w4 w5 w7 (fun p => some p)
theorem c7h (w0 : Bool) (w1 : Int) (w3 : LD) (w4 : Bool) (w5 : Int) (w7 : LD) (k0 : Bool → Option R) : b3d N w0 w1 w3 w4 w5 w7 k0 = (b6Y N w0 w1 w3 w4 w5 w7).bind k0 := by
 unfold b6Y b3d
 repeat' (first | with_reducible apply a0d | (with_reducible apply a0l; intro _) | rfl)
def d3y (L : List Lf) (k0 : Bool → Option R) : Option R := b3d N (lb L 0) (li L 1) (ll L 3) (lb L 4) (li L 5) (ll L 7) k0
def d8K : Sh := { tmps := [(2, .c (.p 2 0)), (3, .c (.p 3 0))], mem := [(2, .box ([.b, .i .i64, .sl 61])), (3, .box ([.b, .i .i64, .sl 61]))] }
def e3q (L : List Lf) : List (Bool × (Ex × St)) := bnd (d3y N L (fun p => some p)) fun q => [(q.isSome, (.normal, ⟨[(4, .c (.b (q.getD default)))], []⟩))]
theorem d3z (L : List Lf) : pc Try.prog (d8J N) (d3x N).h 0 100 33 4 d8K L [4] [] = d3y N L (fun p => some (.normal, ⟨[(4, .c (.b p))], []⟩)) := by kernel_rfl
def d3A : Sg Try.prog 0 33 :=
 (d3x N).cut (e3q N) a0b (b7j N) fun L x hx => (d3z N L).trans ((c7h N ..).trans (a0D x hx))
def d2I (v0 : Bool) (v1 : Int) (v3 : LD) (v4 : Bool) (v5 : Int) (v7 : LD) (k0 : Bool → Option R) : Option R :=
 bnd (b6Y N v0 v1 v3 v4 v5 v7) fun y0 =>
 bif y0.isSome then
  k0 (y0.getD default)
 else
  none
def d2H (v0 : Bool) (v1 : Int) (v3 : LD) (v4 : Bool) (v5 : Int) (v7 : LD) : Option (Bool) := d2I N v0 v1 v3 v4 v5 v7 (fun p => some p)
theorem d8L (v0 : Bool) (v1 : Int) (v3 : LD) (v4 : Bool) (v5 : Int) (v7 : LD) (k0 : Bool → Option R) : d2I N v0 v1 v3 v4 v5 v7 k0 = (d2H N v0 v1 v3 v4 v5 v7).bind k0 := by
 unfold d2H d2I
 repeat' (first | with_reducible apply a0d | (with_reducible apply a0l; intro _) | rfl)
def e85 (L : List Lf) (k0 : Bool → Option R) : Option R := d2I N (lb L 0) (li L 1) (ll L 3) (lb L 4) (li L 5) (ll L 7) k0
def d3B : Sh := { tmps := [(0, .g ([.b, .i .i64, .sl 61])), (1, .g ([.b, .i .i64, .sl 61]))], mem := [] }
def e86 (L : List Lf) : List (Bool × Res) := bnd (e85 N L (fun p => some p)) fun q => [(q.isSome, ([.c (.b (q.getD default))], []))]
theorem e3r (L : List Lf) : bd Try.prog (d8J N) (d3A N).h 33 d3B L = e85 N L (fun p => some ([.c (.b p)], [])) := by kernel_rfl
theorem e87 : a0t Try.prog 33 d3B (e86 N) :=
 (d3A N).fn a0b (b7j N) fun L x hx => ((e3r N L).trans ((d8L N ..).trans (a0D x hx)))
def d8M : a0e := ext 33 (a1b d3B (e86 N)) (d8J N)
theorem b7k : a0c Try.prog (d8M N) := a0t.to (e87 N) (b7j N)
def e88 : List (Nat × List Nat) := [(0, [0, 1, 2]), (1, [0, 1, 2]), (2, []), (3, [0, 1, 2]), (4, [17, 16, 15, 1, 2]), (5, [17, 15, 1, 2, 16]), (6, [1, 7, 2, 8, 17, 16, 15]), (7, [2, 8, 9, 17, 16, 15, 1]), (8, []), (9, [17, 16, 15, 1, 2]), (10, [])]
def e89 : a0r := [(12, [1, 2, 15, 16, 17], [], [])]
def d3C (N : Nat) : Sg Try.prog 0 32 := .start e89 e88
def a5F (w1 w3 : LD) (w4 : Int) (w5 : Int) (kr : Int → Option R) (k0 : Unit → Option R) (k1 : Unit → Option R) : Option R :=
 bif (decide (w5 < w4)) then
  bif (inB w5 w3.length) then
   bif (inB w5 w1.length) then
    bnd (d2H N ((w3.getD w5.toNat (.i 0)).cell 0).toB ((w3.getD w5.toNat (.i 0)).cell 1).toI ((w3.getD w5.toNat (.i 0)).cell 2).items ((w1.getD w5.toNat (.i 0)).cell 0).toB ((w1.getD w5.toNat (.i 0)).cell 1).toI ((w1.getD w5.toNat (.i 0)).cell 2).items) fun y0 =>
    bif y0.isSome then
     bif (!(y0.getD default)) then
      k0 ()
     else
      kr (IntKind.wrap .i64 (w5 + 1))
    else
     none
   else
    none
  else
   none
 else
  k1 ()
def b0Y (N : Nat) {R : Type} (w1 w3 : LD) (w4 : Int) : Nat → Int → (Unit → Option R) → (Unit → Option R) → Option R
 | 0, _, _, _ => none
 | m + 1, w5, k0, k1 => a5F N w1 w3 w4 w5 (fun w5 => b0Y N w1 w3 w4 m w5 k0 k1) k0 k1
def c4c (w1 w3 : LD) (w4 : Int) (w5 : Int) : Option (Sum (Unit) (Unit)) := b0Y N (R := (Sum (Unit) (Unit))) w1 w3 w4 N w5 (fun p => some (.inl p)) (fun p => some (.inr p))
def a71 (L x : List Lf) (kr : List Lf → Option R) (k0 : Unit → Option R) (k1 : Unit → Option R) : Option R := a5F N (ll L 1) (ll L 3) (li L 4) (li x 0) (fun w5 => kr [.i w5]) k0 k1
theorem c0a (L x : List Lf) (kr : List Lf → Option R) (k0 : Unit → Option R) (k1 : Unit → Option R) : a71 N L x kr k0 k1 = (a71 N L x (fun y => some (.inl y)) (fun p => some (.inr (.inl p))) (fun p => some (.inr (.inr p)))).bind (a1a kr (a1a k0 k1)) := by
 unfold a71 a5F
 repeat' (first | with_reducible apply a0d | (with_reducible apply a0l; intro _) | rfl)
def b07 (L : List Lf) (m : Nat) (x : List Lf) : Option (Sum (Unit) (Unit)) := b0Y N (R := (Sum (Unit) (Unit))) (ll L 1) (ll L 3) (li L 4) m (li x 0) (fun p => some (.inl p)) (fun p => some (.inr p))
def a72 : Sh := { tmps := [(1, .c (.sl 44)), (2, .c (.f 33 [])), (15, .c (.sl 44)), (16, .c (.i .i64)), (17, .c (.i .i64))], mem := [] }
def d8N (L : List Lf) : List (Bool × (Ex × St)) := bnd (b07 N L N (pk a72 [5] L)) fun q => [((a07 q), (.ret, ⟨[(6, .c (.b false))], []⟩)), ((a0I q).isSome, ((.exit 0), ⟨[], []⟩))]
theorem c2v (m : Nat) (kn : St → Option (Ex × St)) (L x : List Lf) : lpB Try.prog (d8M N) (d3C N).h 0 32 12 a72 [5] [6] [] (m + 100) kn L x = a71 N L x (fun y => kn (a0x a72 (mx a72 [5] L y))) (fun _ => some (.ret, ⟨[(6, .c (.b false))], []⟩)) (fun _ => some ((.exit 0), ⟨[], []⟩)) := by kernel_rfl
theorem d3D (L : List Lf) (m : Nat) (x : List Lf) : b07 N L (m + 1) x = a71 N L x (b07 N L m) (fun p => some (.inl p)) (fun p => some (.inr p)) := by kernel_rfl
def d3E : Sg Try.prog 0 32 :=
 (d3C N).lp (d8N N) N a0b (b7k N) (fun m kn L x => (c2v N m kn L x).trans (c0a N L x _ _ _)) (fun L m x => (d3D N L m x).trans (c0a N L x (b07 N L m) (fun p => some (.inl p)) (fun p => some (.inr p)))) fun L x hx => (a3w a0D) x hx
def c64 (v1 v3 : LD) (k0 : Bool → Option R) : Option R :=
 bif ((v1.length : Int) != (v3.length : Int)) then
  k0 false
 else
  bnd (c4c N v3 v1 (v1.length : Int) 0) fun y0 =>
  bif (a07 y0) then
   k0 false
  else
   bif (a0I y0).isSome then
    k0 true
   else
    none
def d2O (v1 v3 : LD) : Option (Bool) := c64 N v1 v3 (fun p => some p)
theorem d8O (v1 v3 : LD) (k0 : Bool → Option R) : c64 N v1 v3 k0 = (d2O N v1 v3).bind k0 := by
 unfold d2O c64
 repeat' (first | with_reducible apply a0d | (with_reducible apply a0l; intro _) | rfl)
def d3F : Sh := { tmps := [(0, .c (.sl 44)), (1, .c (.sl 44)), (2, .c (.f 33 []))], mem := [] }
def e9a (L : List Lf) : List (Bool × Res) := bnd (c64 N (ll L 1) (ll L 3) (fun p => some p)) fun q => [(q.isSome, ([.c (.b (q.getD default))], []))]
theorem e3s (L : List Lf) : bd Try.prog (d8M N) (d3E N).h 32 d3F L = c64 N (ll L 1) (ll L 3) (fun p => some ([.c (.b p)], [])) := by kernel_rfl
theorem e9b : a0t Try.prog 32 d3F (e9a N) :=
 (d3E N).fn a0b (b7k N) fun L x hx => ((e3s N L).trans ((d8O N ..).trans (a0D x hx)))
def d8P : a0e := ext 32 (a1b d3F (e9a N)) (d8M N)
theorem b7l : a0c Try.prog (d8P N) := a0t.to (e9b N) (b7k N)
def e9c : List (Nat × List Nat) := [(0, [0, 1]), (1, [0, 1]), (2, []), (3, [0, 1]), (4, [13, 12, 0, 1]), (5, [13, 0, 1, 12]), (6, [0, 5, 1, 13, 12]), (7, []), (8, [13, 12, 0, 1]), (9, [])]
def e9d : a0r := [(12, [0, 1, 12, 13], [], [])]
def d3G (N : Nat) : Sg Try.prog 0 34 := .start e9d e9c
def a5E (N : Nat) (w1 w3 : LD) (w4 : Int) (w5 : Int) (kr : Int → Option R) (k0 : Unit → Option R) (k1 : Unit → Option R) : Option R :=
 bif (decide (w5 < w4)) then
  bif (inB w5 w1.length) then
   bif (inB w5 w3.length) then
    bnd ((w1.getD w5.toNat (.i 0)).toI != (w3.getD w5.toNat (.i 0)).toI) fun y0 =>
    bif y0 then
     k0 ()
    else
     kr (IntKind.wrap .i64 (w5 + 1))
   else
    none
  else
   none
 else
  k1 ()
def b0W (N : Nat) {R : Type} (w1 w3 : LD) (w4 : Int) : Nat → Int → (Unit → Option R) → (Unit → Option R) → Option R
 | 0, _, _, _ => none
 | m + 1, w5, k0, k1 => a5E N w1 w3 w4 w5 (fun w5 => b0W N w1 w3 w4 m w5 k0 k1) k0 k1
def c4b (w1 w3 : LD) (w4 : Int) (w5 : Int) : Option (Sum (Unit) (Unit)) := b0W N (R := (Sum (Unit) (Unit))) w1 w3 w4 N w5 (fun p => some (.inl p)) (fun p => some (.inr p))
def a73 (L x : List Lf) (kr : List Lf → Option R) (k0 : Unit → Option R) (k1 : Unit → Option R) : Option R := a5E N (ll L 1) (ll L 3) (li L 4) (li x 0) (fun w5 => kr [.i w5]) k0 k1
theorem c0b (L x : List Lf) (kr : List Lf → Option R) (k0 : Unit → Option R) (k1 : Unit → Option R) : a73 N L x kr k0 k1 = (a73 N L x (fun y => some (.inl y)) (fun p => some (.inr (.inl p))) (fun p => some (.inr (.inr p)))).bind (a1a kr (a1a k0 k1)) := by
 unfold a73 a5E
 repeat' (first | with_reducible apply a0d | (with_reducible apply a0l; intro _) | rfl)
def b08 (L : List Lf) (m : Nat) (x : List Lf) : Option (Sum (Unit) (Unit)) := b0W N (R := (Sum (Unit) (Unit))) (ll L 1) (ll L 3) (li L 4) m (li x 0) (fun p => some (.inl p)) (fun p => some (.inr p))
def a74 : Sh := { tmps := [(0, .c (.sl 5)), (1, .c (.sl 5)), (12, .c (.i .i64)), (13, .c (.i .i64))], mem := [] }
def d8Q (L : List Lf) : List (Bool × (Ex × St)) := bnd (b08 N L N (pk a74 [5] L)) fun q => [((a07 q), (.ret, ⟨[(4, .c (.b false))], []⟩)), ((a0I q).isSome, ((.exit 0), ⟨[], []⟩))]
theorem c2w (m : Nat) (kn : St → Option (Ex × St)) (L x : List Lf) : lpB Try.prog (d8P N) (d3G N).h 0 34 12 a74 [5] [4] [] (m + 100) kn L x = a73 N L x (fun y => kn (a0x a74 (mx a74 [5] L y))) (fun _ => some (.ret, ⟨[(4, .c (.b false))], []⟩)) (fun _ => some ((.exit 0), ⟨[], []⟩)) := by kernel_rfl
theorem d3H (L : List Lf) (m : Nat) (x : List Lf) : b08 N L (m + 1) x = a73 N L x (b08 N L m) (fun p => some (.inl p)) (fun p => some (.inr p)) := by kernel_rfl
def d3I : Sg Try.prog 0 34 :=
 (d3G N).lp (d8Q N) N a0b (b7l N) (fun m kn L x => (c2w N m kn L x).trans (c0b N L x _ _ _)) (fun L m x => (d3H N L m x).trans (c0b N L x (b08 N L m) (fun p => some (.inl p)) (fun p => some (.inr p)))) fun L x hx => (a3w a0D) x hx
def c6Y (v1 v3 : LD) (k0 : Bool → Option R) : Option R :=
 bif ((v1.length : Int) != (v3.length : Int)) then
  k0 false
 else
  bnd (c4b N v1 v3 (v1.length : Int) 0) fun y0 =>
  bif (a07 y0) then
   k0 false
  else
   bif (a0I y0).isSome then
    k0 true
   else
    none
def d2F (v1 v3 : LD) : Option (Bool) := c6Y N v1 v3 (fun p => some p)
theorem d8R (v1 v3 : LD) (k0 : Bool → Option R) : c6Y N v1 v3 k0 = (d2F N v1 v3).bind k0 := by
 unfold d2F c6Y
 repeat' (first | with_reducible apply a0d | (with_reducible apply a0l; intro _) | rfl)
def d3J : Sh := { tmps := [(0, .c (.sl 5)), (1, .c (.sl 5))], mem := [] }
def e9e (L : List Lf) : List (Bool × Res) := bnd (c6Y N (ll L 1) (ll L 3) (fun p => some p)) fun q => [(q.isSome, ([.c (.b (q.getD default))], []))]
theorem e3t (L : List Lf) : bd Try.prog (d8P N) (d3I N).h 34 d3J L = c6Y N (ll L 1) (ll L 3) (fun p => some ([.c (.b p)], [])) := by kernel_rfl
theorem e9f : a0t Try.prog 34 d3J (e9e N) :=
 (d3I N).fn a0b (b7l N) fun L x hx => ((e3t N L).trans ((d8R N ..).trans (a0D x hx)))
def d8S : a0e := ext 34 (a1b d3J (e9e N)) (d8P N)
theorem b7m : a0c Try.prog (d8S N) := a0t.to (e9f N) (b7l N)
def e9g : List (Nat × List Nat) := [(0, [0, 1]), (1, [2, 3])]
def e9h : a0r := [(4, [2, 3], [2, 3], [])]
def d3K (N : Nat) : Sg Try.prog 0 12 := .start e9h e9g
def b3e (w0 w1 w2 : Int) (w4 w6 : LD) (w7 w8 w9 : Int) (w11 w13 : LD) (k0 : Bool → Option R) : Option R :=
 bnd (bif (bif (w0 == w7) then (w1 == w8) else false) then (w2 == w9) else false) fun y0 =>
 bif y0 then
  bnd (d2O N w4 w11) fun y1 =>
  bif y1.isSome then
   bif (y1.getD default) then
    bnd (d2F N w6 w13) fun y2 =>
    bif y2.isSome then
     k0 (y2.getD default)
    else
     none
   else
    k0 false
  else
   none
 else
  k0 false
def b62 (w0 w1 w2 : Int) (w4 w6 : LD) (w7 w8 w9 : Int) (w11 w13 : LD) : Option (Bool) := b3e N w0 w1 w2 w4 w6 w7 w8 w9 w11 w13 (fun p => some p)
theorem c7i (w0 w1 w2 : Int) (w4 w6 : LD) (w7 w8 w9 : Int) (w11 w13 : LD) (k0 : Bool → Option R) : b3e N w0 w1 w2 w4 w6 w7 w8 w9 w11 w13 k0 = (b62 N w0 w1 w2 w4 w6 w7 w8 w9 w11 w13).bind k0 := by
 unfold b62 b3e
 repeat' (first | with_reducible apply a0d | (with_reducible apply a0l; intro _) | rfl)
def d3L (L : List Lf) (k0 : Bool → Option R) : Option R := b3e N (li L 0) (li L 1) (li L 2) (ll L 4) (ll L 6) (li L 7) (li L 8) (li L 9) (ll L 11) (ll L 13) k0
def d8T : Sh := { tmps := [(2, .c (.p 2 0)), (3, .c (.p 3 0))], mem := [(2, .box ([.i .i64, .i .i64, .i .i64, .sl 44, .sl 5])), (3, .box ([.i .i64, .i .i64, .i .i64, .sl 44, .sl 5]))] }
def e3u (L : List Lf) : List (Bool × (Ex × St)) := bnd (d3L N L (fun p => some p)) fun q => [(q.isSome, (.normal, ⟨[(4, .c (.b (q.getD default)))], []⟩))]
theorem d3M (L : List Lf) : pc Try.prog (d8S N) (d3K N).h 0 100 12 4 d8T L [4] [] = d3L N L (fun p => some (.normal, ⟨[(4, .c (.b p))], []⟩)) := by kernel_rfl
def d3N : Sg Try.prog 0 12 :=
 (d3K N).cut (e3u N) a0b (b7m N) fun L x hx => (d3M N L).trans ((c7i N ..).trans (a0D x hx))
def d2P (v0 v1 v2 : Int) (v4 v6 : LD) (v7 v8 v9 : Int) (v11 v13 : LD) (k0 : Bool → Option R) : Option R :=
 bnd (b62 N v0 v1 v2 v4 v6 v7 v8 v9 v11 v13) fun y0 =>
 bif y0.isSome then
  k0 (y0.getD default)
 else
  none
def c2k (v0 v1 v2 : Int) (v4 v6 : LD) (v7 v8 v9 : Int) (v11 v13 : LD) : Option (Bool) := d2P N v0 v1 v2 v4 v6 v7 v8 v9 v11 v13 (fun p => some p)
theorem d8U (v0 v1 v2 : Int) (v4 v6 : LD) (v7 v8 v9 : Int) (v11 v13 : LD) (k0 : Bool → Option R) : d2P N v0 v1 v2 v4 v6 v7 v8 v9 v11 v13 k0 = (c2k N v0 v1 v2 v4 v6 v7 v8 v9 v11 v13).bind k0 := by
 unfold c2k d2P
 repeat' (first | with_reducible apply a0d | (with_reducible apply a0l; intro _) | rfl)
def e9i (L : List Lf) (k0 : Bool → Option R) : Option R := d2P N (li L 0) (li L 1) (li L 2) (ll L 4) (ll L 6) (li L 7) (li L 8) (li L 9) (ll L 11) (ll L 13) k0
def d3O : Sh := { tmps := [(0, .g ([.i .i64, .i .i64, .i .i64, .sl 44, .sl 5])), (1, .g ([.i .i64, .i .i64, .i .i64, .sl 44, .sl 5]))], mem := [] }
def e9j (L : List Lf) : List (Bool × Res) := bnd (e9i N L (fun p => some p)) fun q => [(q.isSome, ([.c (.b (q.getD default))], []))]
theorem e3v (L : List Lf) : bd Try.prog (d8S N) (d3N N).h 12 d3O L = e9i N L (fun p => some ([.c (.b p)], [])) := by kernel_rfl
theorem e9k : a0t Try.prog 12 d3O (e9j N) :=
 (d3N N).fn a0b (b7m N) fun L x hx => ((e3v N L).trans ((d8U N ..).trans (a0D x hx)))
def d8V : a0e := ext 12 (a1b d3O (e9j N)) (d8S N)
theorem b7n : a0c Try.prog (d8V N) := a0t.to (e9k N) (b7m N)
def e9l : List (Nat × List Nat) := [(0, [0, 1, 2]), (1, [0, 1, 2]), (2, []), (3, [0, 1, 2]), (4, [17, 16, 15, 1, 2]), (5, [17, 15, 1, 2, 16]), (6, [1, 7, 2, 8, 17, 16, 15]), (7, [2, 8, 9, 17, 16, 15, 1]), (8, []), (9, [17, 16, 15, 1, 2]), (10, [])]
def e9m : a0r := [(12, [1, 2, 15, 16, 17], [], [])]
def d3P (N : Nat) : Sg Try.prog 0 28 := .start e9m e9l
def b7o (w1 w3 : LD) (w4 : Int) (w5 : Int) (kr : Int → Option R) (k0 : Unit → Option R) (k1 : Unit → Option R) : Option R :=
 bif (decide (w5 < w4)) then
  bif (inB w5 w3.length) then
   bif (inB w5 w1.length) then
    bnd (c2k N ((w3.getD w5.toNat (.i 0)).cell 0).toI ((w3.getD w5.toNat (.i 0)).cell 1).toI ((w3.getD w5.toNat (.i 0)).cell 2).toI ((w3.getD w5.toNat (.i 0)).cell 3).items ((w3.getD w5.toNat (.i 0)).cell 4).items ((w1.getD w5.toNat (.i 0)).cell 0).toI ((w1.getD w5.toNat (.i 0)).cell 1).toI ((w1.getD w5.toNat (.i 0)).cell 2).toI ((w1.getD w5.toNat (.i 0)).cell 3).items ((w1.getD w5.toNat (.i 0)).cell 4).items) fun y0 =>
    bif y0.isSome then
     bif (!(y0.getD default)) then
      k0 ()
     else
      kr (IntKind.wrap .i64 (w5 + 1))
    else
     none
   else
    none
  else
   none
 else
  k1 ()
def b7p (N : Nat) {R : Type} (w1 w3 : LD) (w4 : Int) : Nat → Int → (Unit → Option R) → (Unit → Option R) → Option R
 | 0, _, _, _ => none
 | m + 1, w5, k0, k1 => b7o N w1 w3 w4 w5 (fun w5 => b7p N w1 w3 w4 m w5 k0 k1) k0 k1
def d8W (w1 w3 : LD) (w4 : Int) (w5 : Int) : Option (Sum (Unit) (Unit)) := b7p N (R := (Sum (Unit) (Unit))) w1 w3 w4 N w5 (fun p => some (.inl p)) (fun p => some (.inr p))
def a75 (L x : List Lf) (kr : List Lf → Option R) (k0 : Unit → Option R) (k1 : Unit → Option R) : Option R := b7o N (ll L 1) (ll L 3) (li L 4) (li x 0) (fun w5 => kr [.i w5]) k0 k1
theorem c0c (L x : List Lf) (kr : List Lf → Option R) (k0 : Unit → Option R) (k1 : Unit → Option R) : a75 N L x kr k0 k1 = (a75 N L x (fun y => some (.inl y)) (fun p => some (.inr (.inl p))) (fun p => some (.inr (.inr p)))).bind (a1a kr (a1a k0 k1)) := by
 unfold a75 b7o
 repeat' (first | with_reducible apply a0d | (with_reducible apply a0l; intro _) | rfl)
def b09 (L : List Lf) (m : Nat) (x : List Lf) : Option (Sum (Unit) (Unit)) := b7p N (R := (Sum (Unit) (Unit))) (ll L 1) (ll L 3) (li L 4) m (li x 0) (fun p => some (.inl p)) (fun p => some (.inr p))
def a76 : Sh := { tmps := [(1, .c (.sl 41)), (2, .c (.f 12 [])), (15, .c (.sl 41)), (16, .c (.i .i64)), (17, .c (.i .i64))], mem := [] }
def d8X (L : List Lf) : List (Bool × (Ex × St)) := bnd (b09 N L N (pk a76 [5] L)) fun q => [((a07 q), (.ret, ⟨[(6, .c (.b false))], []⟩)), ((a0I q).isSome, ((.exit 0), ⟨[], []⟩))]
theorem c2x (m : Nat) (kn : St → Option (Ex × St)) (L x : List Lf) : lpB Try.prog (d8V N) (d3P N).h 0 28 12 a76 [5] [6] [] (m + 100) kn L x = a75 N L x (fun y => kn (a0x a76 (mx a76 [5] L y))) (fun _ => some (.ret, ⟨[(6, .c (.b false))], []⟩)) (fun _ => some ((.exit 0), ⟨[], []⟩)) := by kernel_rfl
theorem d3Q (L : List Lf) (m : Nat) (x : List Lf) : b09 N L (m + 1) x = a75 N L x (b09 N L m) (fun p => some (.inl p)) (fun p => some (.inr p)) := by kernel_rfl
def d3R : Sg Try.prog 0 28 :=
 (d3P N).lp (d8X N) N a0b (b7n N) (fun m kn L x => (c2x N m kn L x).trans (c0c N L x _ _ _)) (fun L m x => (d3Q N L m x).trans (c0c N L x (b09 N L m) (fun p => some (.inl p)) (fun p => some (.inr p)))) fun L x hx => (a3w a0D) x hx
def d3S (v1 v3 : LD) (k0 : Bool → Option R) : Option R :=
 bif ((v1.length : Int) != (v3.length : Int)) then
  k0 false
 else
  bnd (d8W N v3 v1 (v1.length : Int) 0) fun y0 =>
  bif (a07 y0) then
   k0 false
  else
   bif (a0I y0).isSome then
    k0 true
   else
    none
def e3w (v1 v3 : LD) : Option (Bool) := d3S N v1 v3 (fun p => some p)
theorem d8Y (v1 v3 : LD) (k0 : Bool → Option R) : d3S N v1 v3 k0 = (e3w N v1 v3).bind k0 := by
 unfold e3w d3S
 repeat' (first | with_reducible apply a0d | (with_reducible apply a0l; intro _) | rfl)
def d3T : Sh := { tmps := [(0, .c (.sl 41)), (1, .c (.sl 41)), (2, .c (.f 12 []))], mem := [] }
def e9n (L : List Lf) : List (Bool × Res) := bnd (d3S N (ll L 1) (ll L 3) (fun p => some p)) fun q => [(q.isSome, ([.c (.b (q.getD default))], []))]
theorem e3x (L : List Lf) : bd Try.prog (d8V N) (d3R N).h 28 d3T L = d3S N (ll L 1) (ll L 3) (fun p => some ([.c (.b p)], [])) := by kernel_rfl
theorem e9o : a0t Try.prog 28 d3T (e9n N) :=
 (d3R N).fn a0b (b7n N) fun L x hx => ((e3x N L).trans ((d8Y N ..).trans (a0D x hx)))
def e3y : a0e := ext 28 (a1b d3T (e9n N)) (d8V N)
theorem c4s : a0c Try.prog (e3y N) := a0t.to (e9o N) (b7n N)
def e9p : List (Nat × List Nat) := [(0, [0, 1]), (1, [2, 3])]
def e9q : a0r := []
def d3U (N : Nat) : Sg Try.prog 0 10 := .start e9q e9p
def d3V (v1 v3 : LD) (k0 : Bool → Option R) : Option R :=
 bnd (e3w N v1 v3) fun y0 =>
 bif y0.isSome then
  k0 (y0.getD default)
 else
  none
def e9r (v1 v3 : LD) : Option (Bool) := d3V N v1 v3 (fun p => some p)
theorem d8Z (v1 v3 : LD) (k0 : Bool → Option R) : d3V N v1 v3 k0 = (e9r N v1 v3).bind k0 := by
 unfold e9r d3V
 repeat' (first | with_reducible apply a0d | (with_reducible apply a0l; intro _) | rfl)
def d3W : Sh := { tmps := [(0, .g ([.sl 41])), (1, .g ([.sl 41]))], mem := [] }
def e9s (L : List Lf) : List (Bool × Res) := bnd (d3V N (ll L 1) (ll L 3) (fun p => some p)) fun q => [(q.isSome, ([.c (.b (q.getD default))], []))]
theorem e3z (L : List Lf) : bd Try.prog (e3y N) (d3U N).h 10 d3W L = d3V N (ll L 1) (ll L 3) (fun p => some ([.c (.b p)], [])) := by kernel_rfl
theorem e9t : a0t Try.prog 10 d3W (e9s N) :=
 (d3U N).fn a0b (c4s N) fun L x hx => ((e3z N L).trans ((d8Z N ..).trans (a0D x hx)))
def e3A : a0e := ext 10 (a1b d3W (e9s N)) (e3y N)
theorem c4t : a0c Try.prog (e3A N) := a0t.to (e9t N) (c4s N)
def e9u : List (Nat × List Nat) := [(0, [0]), (1, [0])]
def e9v : a0r := []
def d3X (N : Nat) : Sg Try.prog 0 81 := .start e9v e9u
def d3Y (N : Nat) (v0 : Int) (k0 : Bool → R) : R :=
 k0 (bif (decide (v0 ≥ 48)) then (decide (v0 ≤ 57)) else false)
def e3B (v0 : Int) : Bool := d3Y N v0 (fun p => p)
theorem e3C (v0 : Int) (k0 : Bool → R) : d3Y N v0 k0 = k0 (e3B N v0) := by
 unfold e3B d3Y
 repeat' (first | rfl | apply a0M | (apply a1u; intro _))
def d3Z : Sh := { tmps := [(0, .c (.i .u8))], mem := [] }
def e9w (L : List Lf) : List (Bool × Res) := bnd (d3Y N (li L 0) (fun p => p)) fun q => [(true, ([.c (.b q)], []))]
theorem e3D (L : List Lf) : bd Try.prog (e3A N) (d3X N).h 81 d3Z L = d3Y N (li L 0) (fun p => some ([.c (.b p)], [])) := by kernel_rfl
theorem e9x : a0t Try.prog 81 d3Z (e9w N) :=
 (d3X N).fn a0b (c4t N) fun L x hx => ((e3D N L).trans ((e3C N ..).trans (a4q _ _ hx)))
def d30 : a0e := ext 81 (a1b d3Z (e9w N)) (e3A N)
theorem b1a : a0c Try.prog (d30 N) := a0t.to (e9x N) (c4t N)
def e9y : List (Nat × List Nat) := [(0, [0]), (1, [0]), (2, [8, 7, 0]), (3, [8, 0, 7]), (4, [0, 3, 8, 7]), (5, [4, 8, 7, 0]), (6, [5, 4, 8, 7, 0]), (7, []), (8, [8, 7, 0]), (9, [0])]
def e9z : a0r := [(6, [0, 7, 8], [], []), (19, [0, 4, 5, 7, 8], [], [])]
def d31 (N : Nat) : Sg Try.prog 0 74 := .start e9z e9y
def a77 (w1 : Int) (w2 : Bool) (k0 : Bool → R) : R :=
 bif (!w2) then
  bnd (e3B N w1) fun y0 =>
  bnd (bif (bif (!y0) then (w1 != 45) else false) then (w1 != 95) else false) fun y1 =>
  k0 (bif y1 then (w1 != 46) else false)
 else
  k0 false
def b7q (w1 : Int) (w2 : Bool) : Bool := a77 N w1 w2 (fun p => p)
theorem c7j (w1 : Int) (w2 : Bool) (k0 : Bool → R) : a77 N w1 w2 k0 = k0 (b7q N w1 w2) := by
 unfold b7q a77
 repeat' (first | rfl | apply a0M | (apply a1u; intro _))
def c0d : Sh := { tmps := [(0, .c (.s)), (4, .c (.i .u8)), (5, .c (.b)), (7, .c (.i .i64)), (8, .c (.i .i64))], mem := [] }
def b5a (L : List Lf) (p : Bool) : Ex × St := (.normal, mg (a0x c0d L) [0, 7, 8, 46] [(46, .c (.b p))] [] [])
def d80 (L : List Lf) : List (Bool × (Ex × St)) := bnd (a77 N (li L 1) (lb L 2) (fun p => p)) fun q => [(true, b5a L q)]
theorem c7k (L : List Lf) : pc Try.prog (d30 N) (d31 N).h 0 100 74 19 c0d L [0, 7, 8, 46] [] = a77 N (li L 1) (lb L 2) (fun p => some (b5a L p)) := by kernel_rfl
def d32 : Sg Try.prog 0 74 :=
 (d31 N).cut (d80 N) a0b (b1a N) fun L x hx => (c7k N L).trans ((c7j N ..).trans (a4q _ _ hx))
def c2y (w0 : LB) (w1 : Int) (w2 : Int) (kr : Int → Option R) (k0 : Unit → Option R) (k1 : Unit → Option R) : Option R :=
 bif (decide (w2 < w1)) then
  bif (inB w2 w0.length) then
   bnd (bif (decide (((w0.getD w2.toNat 0).toNat : Int) ≥ 97)) then (decide (((w0.getD w2.toNat 0).toNat : Int) ≤ 122)) else false) fun y0 =>
   bnd (bif y0 then true else (bif (decide (((w0.getD w2.toNat 0).toNat : Int) ≥ 65)) then (decide (((w0.getD w2.toNat 0).toNat : Int) ≤ 90)) else false)) fun y1 =>
   bnd (b7q N ((w0.getD w2.toNat 0).toNat : Int) y1) fun y2 =>
   bif y2 then
    k0 ()
   else
    kr (IntKind.wrap .i64 (w2 + 1))
  else
   none
 else
  k1 ()
def c2z (N : Nat) {R : Type} (w0 : LB) (w1 : Int) : Nat → Int → (Unit → Option R) → (Unit → Option R) → Option R
 | 0, _, _, _ => none
 | m + 1, w2, k0, k1 => c2y N w0 w1 w2 (fun w2 => c2z N w0 w1 m w2 k0 k1) k0 k1
def e3E (w0 : LB) (w1 : Int) (w2 : Int) : Option (Sum (Unit) (Unit)) := c2z N (R := (Sum (Unit) (Unit))) w0 w1 N w2 (fun p => some (.inl p)) (fun p => some (.inr p))
def b3x (L x : List Lf) (kr : List Lf → Option R) (k0 : Unit → Option R) (k1 : Unit → Option R) : Option R := c2y N (ls L 0) (li L 1) (li x 0) (fun w2 => kr [.i w2]) k0 k1
theorem c4u (L x : List Lf) (kr : List Lf → Option R) (k0 : Unit → Option R) (k1 : Unit → Option R) : b3x N L x kr k0 k1 = (b3x N L x (fun y => some (.inl y)) (fun p => some (.inr (.inl p))) (fun p => some (.inr (.inr p)))).bind (a1a kr (a1a k0 k1)) := by
 unfold b3x c2y
 repeat' (first | with_reducible apply a0d | (with_reducible apply a0l; intro _) | rfl)
def b7r (L : List Lf) (m : Nat) (x : List Lf) : Option (Sum (Unit) (Unit)) := c2z N (R := (Sum (Unit) (Unit))) (ls L 0) (li L 1) m (li x 0) (fun p => some (.inl p)) (fun p => some (.inr p))
def b1b : Sh := { tmps := [(0, .c (.s)), (7, .c (.i .i64)), (8, .c (.i .i64))], mem := [] }
def e3F (L : List Lf) : List (Bool × (Ex × St)) := bnd (b7r N L N (pk b1b [2] L)) fun q => [((a07 q), (.ret, ⟨[(2, .c (.b false))], []⟩)), ((a0I q).isSome, ((.exit 0), ⟨[(0, .c (.s (ls L 0)))], []⟩))]
theorem c7l (m : Nat) (kn : St → Option (Ex × St)) (L x : List Lf) : lpB Try.prog (d30 N) (d32 N).h 0 74 6 b1b [2] [0, 2] [] (m + 100) kn L x = b3x N L x (fun y => kn (a0x b1b (mx b1b [2] L y))) (fun _ => some (.ret, ⟨[(2, .c (.b false))], []⟩)) (fun _ => some ((.exit 0), ⟨[(0, .c (.s (ls L 0)))], []⟩)) := by kernel_rfl
theorem d81 (L : List Lf) (m : Nat) (x : List Lf) : b7r N L (m + 1) x = b3x N L x (b7r N L m) (fun p => some (.inl p)) (fun p => some (.inr p)) := by kernel_rfl
def d33 : Sg Try.prog 0 74 :=
 (d32 N).lp (e3F N) N a0b (b1a N) (fun m kn L x => (c7l N m kn L x).trans (c4u N L x _ _ _)) (fun L m x => (d81 N L m x).trans (c4u N L x (b7r N L m) (fun p => some (.inl p)) (fun p => some (.inr p)))) fun L x hx => (a3w a0D) x hx
def d34 (v0 : LB) (k0 : Bool → Option R) : Option R :=
 bnd (e3E N v0 (v0.length : Int) 0) fun y0 =>
 bif (a07 y0) then
  k0 false
 else
  bif (a0I y0).isSome then
   bnd (bif (decide ((v0.length : Int) ≥ 1)) then (decide ((v0.length : Int) ≤ 60)) else false) fun y1 =>
   k0 y1
  else
   none
def d82 (v0 : LB) : Option (Bool) := d34 N v0 (fun p => some p)
theorem d83 (v0 : LB) (k0 : Bool → Option R) : d34 N v0 k0 = (d82 N v0).bind k0 := by
 unfold d82 d34
 repeat' (first | with_reducible apply a0d | (with_reducible apply a0l; intro _) | rfl)
def d35 : Sh := { tmps := [(0, .c (.s))], mem := [] }
def e9A (L : List Lf) : List (Bool × Res) := bnd (d34 N (ls L 0) (fun p => some p)) fun q => [(q.isSome, ([.c (.b (q.getD default))], []))]
theorem e3G (L : List Lf) : bd Try.prog (d30 N) (d33 N).h 74 d35 L = d34 N (ls L 0) (fun p => some ([.c (.b p)], [])) := by kernel_rfl
theorem e9B : a0t Try.prog 74 d35 (e9A N) :=
 (d33 N).fn a0b (b1a N) fun L x hx => ((e3G N L).trans ((d83 N ..).trans (a0D x hx)))
def d36 : a0e := ext 74 (a1b d35 (e9A N)) (d30 N)
theorem b1c : a0c Try.prog (d36 N) := a0t.to (e9B N) (b1a N)
def e9C : List (Nat × List Nat) := [(0, [0]), (1, [1]), (2, [3, 1])]
def e9D : a0r := [(4, [1], [1], []), (7, [1, 3], [1], [])]
def d37 (N : Nat) : Sg Try.prog 0 75 := .start e9D e9C
def b3y (w1 w2 w3 : Int) (k0 : Bool → R) : R :=
 bnd (a2N N w1 (-100000000) 100000000) fun y0 =>
 bif y0 then
  bnd (a2N N w2 (-100000000) 100000000) fun y1 =>
  bif y1 then
   bnd (a2N N w3 (-100000) 100000) fun y2 =>
   k0 y2
  else
   k0 false
 else
  k0 false
def c2A (w1 w2 w3 : Int) : Bool := b3y N w1 w2 w3 (fun p => p)
theorem d38 (w1 w2 w3 : Int) (k0 : Bool → R) : b3y N w1 w2 w3 k0 = k0 (c2A N w1 w2 w3) := by
 unfold c2A b3y
 repeat' (first | rfl | apply a0M | (apply a1u; intro _))
def c4v : Sh := { tmps := [(1, .c (.p 1 0))], mem := [(1, .box (rI 7 ([])))] }
def c0e (L : List Lf) (p : Bool) : Ex × St := (.normal, mg (a0x c4v L) [1, 3] [(3, .c (.b p))] [1] [])
def e3H (L : List Lf) : List (Bool × (Ex × St)) := bnd (b3y N (li L 1) (li L 2) (li L 3) (fun p => p)) fun q => [(true, c0e L q)]
theorem d39 (L : List Lf) : pc Try.prog (d36 N) (d37 N).h 0 100 75 4 c4v L [1, 3] [1] = b3y N (li L 1) (li L 2) (li L 3) (fun p => some (c0e L p)) := by kernel_rfl
def d4a : Sg Try.prog 0 75 :=
 (d37 N).cut (e3H N) a0b (b1c N) fun L x hx => (d39 N L).trans ((d38 N ..).trans (a4q _ _ hx))
def b7s (w0 : Bool) (w5 w6 w7 : Int) (k0 : Bool → R) : R :=
 bif w0 then
  bnd (a2N N w5 (-1) 300) fun y0 =>
  bif y0 then
   bnd (a2N N w6 (-1) 3000) fun y1 =>
   bif y1 then
    bnd (a2N N w7 (-1) 300) fun y2 =>
    k0 y2
   else
    k0 false
  else
   k0 false
 else
  k0 false
def c2B (w0 : Bool) (w5 w6 w7 : Int) : Bool := b7s N w0 w5 w6 w7 (fun p => p)
theorem d4b (w0 : Bool) (w5 w6 w7 : Int) (k0 : Bool → R) : b7s N w0 w5 w6 w7 k0 = k0 (c2B N w0 w5 w6 w7) := by
 unfold c2B b7s
 repeat' (first | rfl | apply a0M | (apply a1u; intro _))
def d4c (L : List Lf) (k0 : Bool → R) : R := b7s N (lb L 0) (li L 5) (li L 6) (li L 7) k0
def d84 : Sh := { tmps := [(1, .c (.p 1 0)), (3, .c (.b))], mem := [(1, .box (rI 7 ([])))] }
def e3I (L : List Lf) : List (Bool × (Ex × St)) := bnd (d4c N L (fun p => p)) fun q => [(true, (.normal, ⟨[(2, .c (.b q))], []⟩))]
theorem d4d (L : List Lf) : pc Try.prog (d36 N) (d4a N).h 0 100 75 7 d84 L [2] [] = d4c N L (fun p => some (.normal, ⟨[(2, .c (.b p))], []⟩)) := by kernel_rfl
def d4e : Sg Try.prog 0 75 :=
 (d4a N).cut (e3I N) a0b (b1c N) fun L x hx => (d4d N L).trans ((d4b N ..).trans (a4q _ _ hx))
def d85 (v1 v2 v3 v4 v5 v6 : Int) (k0 : Bool → R) : R :=
 bnd (c2A N v1 v2 v3) fun y0 =>
 bnd (c2B N y0 v4 v5 v6) fun y1 =>
 k0 y1
def e3J (v1 v2 v3 v4 v5 v6 : Int) : Bool := d85 N v1 v2 v3 v4 v5 v6 (fun p => p)
theorem e3K (v1 v2 v3 v4 v5 v6 : Int) (k0 : Bool → R) : d85 N v1 v2 v3 v4 v5 v6 k0 = k0 (e3J N v1 v2 v3 v4 v5 v6) := by
 unfold e3J d85
 repeat' (first | rfl | apply a0M | (apply a1u; intro _))
def e9E (L : List Lf) (k0 : Bool → R) : R := d85 N (li L 1) (li L 2) (li L 3) (li L 4) (li L 5) (li L 6) k0
def d4f : Sh := { tmps := [(0, .g (rI 7 ([])))], mem := [] }
def e9F (L : List Lf) : List (Bool × Res) := bnd (e9E N L (fun p => p)) fun q => [(true, ([.c (.b q)], []))]
theorem e3L (L : List Lf) : bd Try.prog (d36 N) (d4e N).h 75 d4f L = e9E N L (fun p => some ([.c (.b p)], [])) := by kernel_rfl
theorem e9G : a0t Try.prog 75 d4f (e9F N) :=
 (d4e N).fn a0b (b1c N) fun L x hx => ((e3L N L).trans ((e3K N ..).trans (a4q _ _ hx)))
def e3M : a0e := ext 75 (a1b d4f (e9F N)) (d36 N)
theorem c4w : a0c Try.prog (e3M N) := a0t.to (e9G N) (b1c N)
def e9H : List (Nat × List Nat) := [(0, [0]), (1, [1]), (2, [3, 1]), (3, [1, 3]), (4, [])]
def e9I : a0r := []
def d4g (N : Nat) : Sg Try.prog 0 52 := .start e9I e9H
def d4h (N : Nat) (v4 : LD) (k0 : Int → Option R) : Option R :=
 bif (decide ((v4.length : Int) > 0)) then
  bif (inB (IntKind.wrap .i64 ((v4.length : Int) - 1)) v4.length) then
   bnd ((v4.getD (IntKind.wrap .i64 ((v4.length : Int) - 1)).toNat (.i 0)) : D) fun y0 =>
   k0 (y0.cell 0).toI
  else
   none
 else
  k0 0
def d86 (v4 : LD) : Option (Int) := d4h N v4 (fun p => some p)
theorem d87 (v4 : LD) (k0 : Int → Option R) : d4h N v4 k0 = (d86 N v4).bind k0 := by
 unfold d86 d4h
 repeat' (first | with_reducible apply a0d | (with_reducible apply a0l; intro _) | rfl)
def d4i : Sh := { tmps := [(0, .g (.s :: [.i .i64, .i .i64, .sl 74, .sl 118, .sl 9]))], mem := [] }
def e9J (L : List Lf) : List (Bool × Res) := bnd (d4h N (ll L 4) (fun p => some p)) fun q => [(q.isSome, ([.c (.i .i64 (q.getD default))], []))]
theorem e3N (L : List Lf) : bd Try.prog (e3M N) (d4g N).h 52 d4i L = d4h N (ll L 4) (fun p => some ([.c (.i .i64 p)], [])) := by kernel_rfl
theorem e9K : a0t Try.prog 52 d4i (e9J N) :=
 (d4g N).fn a0b (c4w N) fun L x hx => ((e3N N L).trans ((d87 N ..).trans (a0D x hx)))
def d88 : a0e := ext 52 (a1b d4i (e9J N)) (e3M N)
theorem b7t : a0c Try.prog (d88 N) := a0t.to (e9K N) (c4w N)
def e9L : List (Nat × List Nat) := [(0, [0]), (1, [0]), (2, [6, 5, 0]), (3, [6, 0, 5]), (4, [0, 3, 6, 5]), (5, []), (6, [6, 5, 0]), (7, [0])]
def e9M : a0r := [(6, [0, 5, 6], [], [])]
def d4j (N : Nat) : Sg Try.prog 0 76 := .start e9M e9L
def c2C (w0 : LB) (w1 : Int) (w2 : Int) (kr : Int → Option R) (k0 : Unit → Option R) (k1 : Unit → Option R) : Option R :=
 bif (decide (w2 < w1)) then
  bif (inB w2 w0.length) then
   bnd (a2N N (IntKind.wrap .i64 ((w0.getD w2.toNat 0).toNat : Int)) 32 126) fun y0 =>
   bif (!y0) then
    k0 ()
   else
    kr (IntKind.wrap .i64 (w2 + 1))
  else
   none
 else
  k1 ()
def c2D (N : Nat) {R : Type} (w0 : LB) (w1 : Int) : Nat → Int → (Unit → Option R) → (Unit → Option R) → Option R
 | 0, _, _, _ => none
 | m + 1, w2, k0, k1 => c2C N w0 w1 w2 (fun w2 => c2D N w0 w1 m w2 k0 k1) k0 k1
def e3O (w0 : LB) (w1 : Int) (w2 : Int) : Option (Sum (Unit) (Unit)) := c2D N (R := (Sum (Unit) (Unit))) w0 w1 N w2 (fun p => some (.inl p)) (fun p => some (.inr p))
def b3z (L x : List Lf) (kr : List Lf → Option R) (k0 : Unit → Option R) (k1 : Unit → Option R) : Option R := c2C N (ls L 0) (li L 1) (li x 0) (fun w2 => kr [.i w2]) k0 k1
theorem c4x (L x : List Lf) (kr : List Lf → Option R) (k0 : Unit → Option R) (k1 : Unit → Option R) : b3z N L x kr k0 k1 = (b3z N L x (fun y => some (.inl y)) (fun p => some (.inr (.inl p))) (fun p => some (.inr (.inr p)))).bind (a1a kr (a1a k0 k1)) := by
 unfold b3z c2C
 repeat' (first | with_reducible apply a0d | (with_reducible apply a0l; intro _) | rfl)
def b7u (L : List Lf) (m : Nat) (x : List Lf) : Option (Sum (Unit) (Unit)) := c2D N (R := (Sum (Unit) (Unit))) (ls L 0) (li L 1) m (li x 0) (fun p => some (.inl p)) (fun p => some (.inr p))
def b1d : Sh := { tmps := [(0, .c (.s)), (5, .c (.i .i64)), (6, .c (.i .i64))], mem := [] }
def e3P (L : List Lf) : List (Bool × (Ex × St)) := bnd (b7u N L N (pk b1d [2] L)) fun q => [((a07 q), (.ret, ⟨[(2, .c (.b false))], []⟩)), ((a0I q).isSome, ((.exit 0), ⟨[(0, .c (.s (ls L 0)))], []⟩))]
theorem c7m (m : Nat) (kn : St → Option (Ex × St)) (L x : List Lf) : lpB Try.prog (d88 N) (d4j N).h 0 76 6 b1d [2] [0, 2] [] (m + 100) kn L x = b3z N L x (fun y => kn (a0x b1d (mx b1d [2] L y))) (fun _ => some (.ret, ⟨[(2, .c (.b false))], []⟩)) (fun _ => some ((.exit 0), ⟨[(0, .c (.s (ls L 0)))], []⟩)) := by kernel_rfl
theorem d89 (L : List Lf) (m : Nat) (x : List Lf) : b7u N L (m + 1) x = b3z N L x (b7u N L m) (fun p => some (.inl p)) (fun p => some (.inr p)) := by kernel_rfl
def d4k : Sg Try.prog 0 76 :=
 (d4j N).lp (e3P N) N a0b (b7t N) (fun m kn L x => (c7m N m kn L x).trans (c4x N L x _ _ _)) (fun L m x => (d89 N L m x).trans (c4x N L x (b7u N L m) (fun p => some (.inl p)) (fun p => some (.inr p)))) fun L x hx => (a3w a0D) x hx
def d4l (v0 : LB) (k0 : Bool → Option R) : Option R :=
 bnd (e3O N v0 (v0.length : Int) 0) fun y0 =>
 bif (a07 y0) then
  k0 false
 else
  bif (a0I y0).isSome then
   k0 (decide ((v0.length : Int) ≤ 60))
  else
   none
def e3Q (v0 : LB) : Option (Bool) := d4l N v0 (fun p => some p)
theorem d9a (v0 : LB) (k0 : Bool → Option R) : d4l N v0 k0 = (e3Q N v0).bind k0 := by
 unfold e3Q d4l
 repeat' (first | with_reducible apply a0d | (with_reducible apply a0l; intro _) | rfl)
def d4m : Sh := { tmps := [(0, .c (.s))], mem := [] }
def e9N (L : List Lf) : List (Bool × Res) := bnd (d4l N (ls L 0) (fun p => some p)) fun q => [(q.isSome, ([.c (.b (q.getD default))], []))]
theorem e3R (L : List Lf) : bd Try.prog (d88 N) (d4k N).h 76 d4m L = d4l N (ls L 0) (fun p => some ([.c (.b p)], [])) := by kernel_rfl
theorem e9O : a0t Try.prog 76 d4m (e9N N) :=
 (d4k N).fn a0b (b7t N) fun L x hx => ((e3R N L).trans ((d9a N ..).trans (a0D x hx)))
def b34 : a0e := ext 76 (a1b d4m (e9N N)) (d88 N)
theorem a2O : a0c Try.prog (b34 N) := a0t.to (e9O N) (b7t N)
def e9P : List (Nat × List Nat) := [(0, [0]), (1, [1]), (3, [1]), (5, [1]), (7, [1]), (8, []), (6, []), (4, []), (2, []), (9, [1]), (10, [45, 44, 43, 1]), (11, [45, 43, 1, 44]), (12, [3, 4, 1, 45, 44, 43]), (13, [3, 4, 1, 45, 44, 43]), (15, [4, 1, 45, 44, 43]), (16, []), (14, []), (17, [45, 44, 43, 1]), (18, [1]), (19, [1, 5]), (20, [95, 94, 93, 5, 1]), (21, [95, 93, 5, 1, 94]), (22, [7, 5, 6, 1, 95, 94, 93]), (24, [6, 7, 1, 95, 94, 93, 5]), (26, [7, 95, 94, 93, 5, 1]), (27, []), (25, []), (23, []), (28, [95, 94, 93, 5, 1]), (29, [1]), (30, [141, 140, 139, 1]), (31, [141, 139, 1, 140]), (32, [9, 8, 1, 141, 140, 139]), (34, [8, 9, 1, 141, 140, 139]), (35, []), (33, []), (36, [141, 140, 139, 1]), (37, [])]
def e9Q : a0r := [(30, [1, 43, 44, 45], [1], []), (40, [1, 3, 4, 43, 44, 45], [1, 4], []), (39002, [1, 3, 4, 43, 44, 45, 50], [1, 4], []), (46, [1, 4, 43, 44, 45], [1, 4], []), (60, [1, 5, 93, 94, 95], [1], []), (73, [1, 5, 6, 7, 93, 94, 95], [1, 7], []), (90, [1, 139, 140, 141], [1], [])]
def d4n (N : Nat) : Sg Try.prog 0 51 := .start e9Q e9P
def a78 (N : Nat) (w0 : Int) (w9 : LD) (w14 : Int) (k0 : Bool → Option R) : Option R :=
 bif (decide (w0 > 0)) then
  bif (inB (IntKind.wrap .i64 (w0 - 1)) w9.length) then
   bnd ((w9.getD (IntKind.wrap .i64 (w0 - 1)).toNat (.i 0)).cell 0).toI fun y0 =>
   k0 (decide (w14 ≤ y0))
  else
   none
 else
  k0 false
def b7v (w0 : Int) (w9 : LD) (w14 : Int) : Option (Bool) := a78 N w0 w9 w14 (fun p => some p)
theorem c2E (w0 : Int) (w9 : LD) (w14 : Int) (k0 : Bool → Option R) : a78 N w0 w9 w14 k0 = (b7v N w0 w9 w14).bind k0 := by
 unfold b7v a78
 repeat' (first | with_reducible apply a0d | (with_reducible apply a0l; intro _) | rfl)
def c0f : Sh := { tmps := [(1, .c (.p 1 0)), (3, .c (.i .i64)), (4, .c (.p 4 0)), (43, .c (.sl 74)), (44, .c (.i .i64)), (45, .c (.i .i64))], mem := [(1, .box (.s :: [.i .i64, .i .i64, .sl 74, .sl 118, .sl 9])), (4, .box (rI 7 ([])))] }
def b5b (L : List Lf) (p : Bool) : Ex × St := (.normal, mg (a0x c0f L) [1, 4, 43, 44, 45, 50] [(50, .c (.b p))] [1, 4] [])
def d9b (L : List Lf) : List (Bool × (Ex × St)) := bnd (a78 N (li L 0) (ll L 9) (li L 14) (fun p => some p)) fun q => [(q.isSome, b5b L (q.getD default))]
theorem c7n (L : List Lf) : pc Try.prog (b34 N) (d4n N).h 0 100 51 40 c0f L [1, 4, 43, 44, 45, 50] [1, 4] = a78 N (li L 0) (ll L 9) (li L 14) (fun p => some (b5b L p)) := by kernel_rfl
def d4o : Sg Try.prog 0 51 :=
 (d4n N).cut (d9b N) a0b (a2O N) fun L x hx => (c7n N L).trans ((c2E N ..).trans (a0D x hx))
def a4h (w0 : Int) (w5 : Bool) (w10 : LD) (w15 : Int) (k0 : Bool → Option R) : Option R :=
 bif w5 then
  k0 true
 else
  bnd (b7v N w0 w10 w15) fun y0 =>
  bif y0.isSome then
   k0 (y0.getD default)
  else
   none
def a6r (w0 : Int) (w5 : Bool) (w10 : LD) (w15 : Int) : Option (Bool) := a4h N w0 w5 w10 w15 (fun p => some p)
theorem b35 (w0 : Int) (w5 : Bool) (w10 : LD) (w15 : Int) (k0 : Bool → Option R) : a4h N w0 w5 w10 w15 k0 = (a6r N w0 w5 w10 w15).bind k0 := by
 unfold a6r a4h
 repeat' (first | with_reducible apply a0d | (with_reducible apply a0l; intro _) | rfl)
def b3A (L : List Lf) (k0 : Bool → Option R) : Option R := a4h N (li L 0) (lb L 5) (ll L 10) (li L 15) k0
def a9H : Sh := { tmps := [(1, .c (.p 1 0)), (3, .c (.i .i64)), (4, .c (.p 4 0)), (43, .c (.sl 74)), (44, .c (.i .i64)), (45, .c (.i .i64)), (50, .c (.b))], mem := [(1, .box (.s :: [.i .i64, .i .i64, .sl 74, .sl 118, .sl 9])), (4, .box (rI 7 ([])))] }
def a79 (L : List Lf) (p : Bool) : Ex × St := (.normal, mg (a0x a9H L) [1, 4, 43, 44, 45, 50] [(50, .c (.b p))] [1, 4] [])
def c2F (L : List Lf) : List (Bool × (Ex × St)) := bnd (b3A N L (fun p => some p)) fun q => [(q.isSome, a79 L (q.getD default))]
theorem b7w (L : List Lf) : pc Try.prog (b34 N) (d4o N).h 0 100 51 39002 a9H L [1, 4, 43, 44, 45, 50] [1, 4] = b3A N L (fun p => some (a79 L p)) := by kernel_rfl
def d4p : Sg Try.prog 0 51 :=
 (d4o N).cut (c2F N) a0b (a2O N) fun L x hx => (b7w N L).trans ((b35 N ..).trans (a0D x hx))
def b1e (w6 w13 w14 w15 w16 w17 w18 w19 : Int) (k0 : Bool → R) : R :=
 bnd (bif (decide (w13 > 1000000)) then true else (decide ((IntKind.wrap .i64 (w6 + w13)) > 86399999999))) fun y0 =>
 bif y0 then
  k0 true
 else
  bnd (e3J N w14 w15 w16 w17 w18 w19) fun y1 =>
  k0 (!y1)
def b7x (w6 w13 w14 w15 w16 w17 w18 w19 : Int) : Bool := b1e N w6 w13 w14 w15 w16 w17 w18 w19 (fun p => p)
theorem c7o (w6 w13 w14 w15 w16 w17 w18 w19 : Int) (k0 : Bool → R) : b1e N w6 w13 w14 w15 w16 w17 w18 w19 k0 = k0 (b7x N w6 w13 w14 w15 w16 w17 w18 w19) := by
 unfold b7x b1e
 repeat' (first | rfl | apply a0M | (apply a1u; intro _))
def c4y (L : List Lf) (k0 : Bool → R) : R := b1e N (li L 6) (li L 13) (li L 14) (li L 15) (li L 16) (li L 17) (li L 18) (li L 19) k0
def c0g : Sh := { tmps := [(1, .c (.p 1 0)), (4, .c (.p 4 0)), (43, .c (.sl 74)), (44, .c (.i .i64)), (45, .c (.i .i64))], mem := [(1, .box (.s :: [.i .i64, .i .i64, .sl 74, .sl 118, .sl 9])), (4, .box (rI 7 ([])))] }
def b5c (L : List Lf) (p : Bool) : Ex × St := (.normal, mg (a0x c0g L) [1, 43, 44, 45, 72] [(72, .c (.b p))] [1] [])
def d9c (L : List Lf) : List (Bool × (Ex × St)) := bnd (c4y N L (fun p => p)) fun q => [(true, b5c L q)]
theorem c7p (L : List Lf) : pc Try.prog (b34 N) (d4p N).h 0 100 51 46 c0g L [1, 43, 44, 45, 72] [1] = c4y N L (fun p => some (b5c L p)) := by kernel_rfl
def d4q : Sg Try.prog 0 51 :=
 (d4p N).cut (d9c N) a0b (a2O N) fun L x hx => (c7p N L).trans ((c7o N ..).trans (a4q _ _ hx))
def b7y (w1 : LD) (w2 w6 : Int) (w8 : LD) (w3 : Int) (kr : Int → Option R) (k0 : Int → Option R) (k1 : Unit → Option R) : Option R :=
 bif (decide (w3 < w2)) then
  bif (inB w3 w1.length) then
   bnd (bif (w3 == 0) then (((w1.getD w3.toNat (.i 0)).cell 0).toI != 0) else false) fun y0 =>
   bnd (a6r N w3 y0 w8 ((w1.getD w3.toNat (.i 0)).cell 0).toI) fun y1 =>
   bif y1.isSome then
    bif (y1.getD default) then
     k0 10
    else
     bnd (b7x N w6 ((w1.getD w3.toNat (.i 0)).cell 0).toI ((w1.getD w3.toNat (.i 0)).cell 1).toI ((w1.getD w3.toNat (.i 0)).cell 2).toI ((w1.getD w3.toNat (.i 0)).cell 3).toI ((w1.getD w3.toNat (.i 0)).cell 4).toI ((w1.getD w3.toNat (.i 0)).cell 5).toI ((w1.getD w3.toNat (.i 0)).cell 6).toI) fun y2 =>
     bif y2 then
      k0 9
     else
      kr (IntKind.wrap .i64 (w3 + 1))
   else
    none
  else
   none
 else
  k1 ()
def b7z (N : Nat) {R : Type} (w1 : LD) (w2 w6 : Int) (w8 : LD) : Nat → Int → (Int → Option R) → (Unit → Option R) → Option R
 | 0, _, _, _ => none
 | m + 1, w3, k0, k1 => b7y N w1 w2 w6 w8 w3 (fun w3 => b7z N w1 w2 w6 w8 m w3 k0 k1) k0 k1
def d9d (w1 : LD) (w2 w6 : Int) (w8 : LD) (w3 : Int) : Option (Sum (Int) (Unit)) := b7z N (R := (Sum (Int) (Unit))) w1 w2 w6 w8 N w3 (fun p => some (.inl p)) (fun p => some (.inr p))
def a8a (L x : List Lf) (kr : List Lf → Option R) (k0 : Int → Option R) (k1 : Unit → Option R) : Option R := b7y N (ll L 1) (li L 2) (li L 6) (ll L 8) (li x 0) (fun w3 => kr [.i w3]) k0 k1
theorem c0h (L x : List Lf) (kr : List Lf → Option R) (k0 : Int → Option R) (k1 : Unit → Option R) : a8a N L x kr k0 k1 = (a8a N L x (fun y => some (.inl y)) (fun p => some (.inr (.inl p))) (fun p => some (.inr (.inr p)))).bind (a1a kr (a1a k0 k1)) := by
 unfold a8a b7y
 repeat' (first | with_reducible apply a0d | (with_reducible apply a0l; intro _) | rfl)
def b1f (L : List Lf) (m : Nat) (x : List Lf) : Option (Sum (Int) (Unit)) := b7z N (R := (Sum (Int) (Unit))) (ll L 1) (li L 2) (li L 6) (ll L 8) m (li x 0) (fun p => some (.inl p)) (fun p => some (.inr p))
def a3e : Sh := { tmps := [(1, .c (.p 1 0)), (43, .c (.sl 74)), (44, .c (.i .i64)), (45, .c (.i .i64))], mem := [(1, .box (.s :: [.i .i64, .i .i64, .sl 74, .sl 118, .sl 9]))] }
def b5d (L : List Lf) (p : Int) : Ex × St := (.ret, mg (a0x a3e L) [2] [(2, .c (.i .i64 p))] [1] [])
def d9e (L : List Lf) : List (Bool × (Ex × St)) := bnd (b1f N L N (pk a3e [3] L)) fun q => [((a07 q), b5d L (a3p q)), ((a0I q).isSome, ((.exit 1), mg (a0x a3e L) [1] [] [1] []))]
theorem c2G (m : Nat) (kn : St → Option (Ex × St)) (L x : List Lf) : lpB Try.prog (b34 N) (d4q N).h 0 51 30 a3e [3] [1, 2] [1] (m + 100) kn L x = a8a N L x (fun y => kn (a0x a3e (mx a3e [3] L y))) (fun p => some (b5d L p)) (fun _ => some ((.exit 1), mg (a0x a3e L) [1] [] [1] [])) := by kernel_rfl
theorem d4r (L : List Lf) (m : Nat) (x : List Lf) : b1f N L (m + 1) x = a8a N L x (b1f N L m) (fun p => some (.inl p)) (fun p => some (.inr p)) := by kernel_rfl
def d4s : Sg Try.prog 0 51 :=
 (d4q N).lp (d9e N) N a0b (a2O N) (fun m kn L x => (c2G N m kn L x).trans (c0h N L x _ _ _)) (fun L m x => (d4r N L m x).trans (c0h N L x (b1f N L m) (fun p => some (.inl p)) (fun p => some (.inr p)))) fun L x hx => (a3w a0D) x hx
def a8b (N : Nat) (w1 : Int) (w12 : LD) (w15 : Int) (k0 : Bool → Option R) : Option R :=
 bif (decide (w1 > 0)) then
  bif (inB (IntKind.wrap .i64 (w1 - 1)) w12.length) then
   bnd ((w12.getD (IntKind.wrap .i64 (w1 - 1)).toNat (.i 0)).cell 1).toI fun y0 =>
   k0 (decide (w15 < y0))
  else
   none
 else
  k0 false
def b7A (w1 : Int) (w12 : LD) (w15 : Int) : Option (Bool) := a8b N w1 w12 w15 (fun p => some p)
theorem c2H (w1 : Int) (w12 : LD) (w15 : Int) (k0 : Bool → Option R) : a8b N w1 w12 w15 k0 = (b7A N w1 w12 w15).bind k0 := by
 unfold b7A a8b
 repeat' (first | with_reducible apply a0d | (with_reducible apply a0l; intro _) | rfl)
def c0i : Sh := { tmps := [(1, .c (.p 1 0)), (5, .c (.i .i64)), (6, .c (.i .i64)), (7, .c (.p 7 0)), (93, .c (.sl 118)), (94, .c (.i .i64)), (95, .c (.i .i64))], mem := [(1, .box (.s :: [.i .i64, .i .i64, .sl 74, .sl 118, .sl 9])), (7, .box ([.i .i64, .i .i64, .s]))] }
def b5e (L : List Lf) (p : Bool) : Ex × St := (.normal, mg (a0x c0i L) [1, 5, 7, 93, 94, 95, 117] [(117, .c (.b p))] [1, 7] [])
def d9f (L : List Lf) : List (Bool × (Ex × St)) := bnd (a8b N (li L 1) (ll L 12) (li L 15) (fun p => some p)) fun q => [(q.isSome, b5e L (q.getD default))]
theorem c7q (L : List Lf) : pc Try.prog (b34 N) (d4s N).h 0 100 51 73 c0i L [1, 5, 7, 93, 94, 95, 117] [1, 7] = a8b N (li L 1) (ll L 12) (li L 15) (fun p => some (b5e L p)) := by kernel_rfl
def d4t : Sg Try.prog 0 51 :=
 (d4s N).cut (d9f N) a0b (a2O N) fun L x hx => (c7q N L).trans ((c2H N ..).trans (a0D x hx))
def b7B (w0 : Int) (w2 : LD) (w3 : Int) (w11 : LD) (w4 : Int) (kr : Int → Option R) (k0 : Int → Option R) (k1 : Unit → Option R) : Option R :=
 bif (decide (w4 < w3)) then
  bif (inB w4 w2.length) then
   bnd (bif (decide (((w2.getD w4.toNat (.i 0)).cell 0).toI < 0)) then true else (decide (((w2.getD w4.toNat (.i 0)).cell 0).toI ≥ ((w2.getD w4.toNat (.i 0)).cell 1).toI))) fun y0 =>
   bnd (bif y0 then true else (decide (((w2.getD w4.toNat (.i 0)).cell 1).toI > w0))) fun y1 =>
   bif y1 then
    k0 9
   else
    bnd (b7A N w4 w11 ((w2.getD w4.toNat (.i 0)).cell 0).toI) fun y2 =>
    bif y2.isSome then
     bif (y2.getD default) then
      k0 10
     else
      bnd (e3Q N ((w2.getD w4.toNat (.i 0)).cell 2).toS) fun y3 =>
      bif y3.isSome then
       bif (!(y3.getD default)) then
        k0 8
       else
        kr (IntKind.wrap .i64 (w4 + 1))
      else
       none
    else
     none
  else
   none
 else
  k1 ()
def b7C (N : Nat) {R : Type} (w0 : Int) (w2 : LD) (w3 : Int) (w11 : LD) : Nat → Int → (Int → Option R) → (Unit → Option R) → Option R
 | 0, _, _, _ => none
 | m + 1, w4, k0, k1 => b7B N w0 w2 w3 w11 w4 (fun w4 => b7C N w0 w2 w3 w11 m w4 k0 k1) k0 k1
def d9g (w0 : Int) (w2 : LD) (w3 : Int) (w11 : LD) (w4 : Int) : Option (Sum (Int) (Unit)) := b7C N (R := (Sum (Int) (Unit))) w0 w2 w3 w11 N w4 (fun p => some (.inl p)) (fun p => some (.inr p))
def a8c (L x : List Lf) (kr : List Lf → Option R) (k0 : Int → Option R) (k1 : Unit → Option R) : Option R := b7B N (li L 0) (ll L 2) (li L 3) (ll L 11) (li x 0) (fun w4 => kr [.i w4]) k0 k1
theorem c0j (L x : List Lf) (kr : List Lf → Option R) (k0 : Int → Option R) (k1 : Unit → Option R) : a8c N L x kr k0 k1 = (a8c N L x (fun y => some (.inl y)) (fun p => some (.inr (.inl p))) (fun p => some (.inr (.inr p)))).bind (a1a kr (a1a k0 k1)) := by
 unfold a8c b7B
 repeat' (first | with_reducible apply a0d | (with_reducible apply a0l; intro _) | rfl)
def b1g (L : List Lf) (m : Nat) (x : List Lf) : Option (Sum (Int) (Unit)) := b7C N (R := (Sum (Int) (Unit))) (li L 0) (ll L 2) (li L 3) (ll L 11) m (li x 0) (fun p => some (.inl p)) (fun p => some (.inr p))
def a3f : Sh := { tmps := [(1, .c (.p 1 0)), (5, .c (.i .i64)), (93, .c (.sl 118)), (94, .c (.i .i64)), (95, .c (.i .i64))], mem := [(1, .box (.s :: [.i .i64, .i .i64, .sl 74, .sl 118, .sl 9]))] }
def b5f (L : List Lf) (p : Int) : Ex × St := (.ret, mg (a0x a3f L) [2] [(2, .c (.i .i64 p))] [1] [])
def d9h (L : List Lf) : List (Bool × (Ex × St)) := bnd (b1g N L N (pk a3f [4] L)) fun q => [((a07 q), b5f L (a3p q)), ((a0I q).isSome, ((.exit 4), mg (a0x a3f L) [1] [] [1] []))]
theorem c2I (m : Nat) (kn : St → Option (Ex × St)) (L x : List Lf) : lpB Try.prog (b34 N) (d4t N).h 0 51 60 a3f [4] [1, 2] [1] (m + 100) kn L x = a8c N L x (fun y => kn (a0x a3f (mx a3f [4] L y))) (fun p => some (b5f L p)) (fun _ => some ((.exit 4), mg (a0x a3f L) [1] [] [1] [])) := by kernel_rfl
theorem d4u (L : List Lf) (m : Nat) (x : List Lf) : b1g N L (m + 1) x = a8c N L x (b1g N L m) (fun p => some (.inl p)) (fun p => some (.inr p)) := by kernel_rfl
def d4v : Sg Try.prog 0 51 :=
 (d4t N).lp (d9h N) N a0b (a2O N) (fun m kn L x => (c2I N m kn L x).trans (c0j N L x _ _ _)) (fun L m x => (d4u N L m x).trans (c0j N L x (b1g N L m) (fun p => some (.inl p)) (fun p => some (.inr p)))) fun L x hx => (a3w a0D) x hx
def b7D (w1 : LD) (w2 : Int) (w12 : LD) (w3 : Int) (kr : Int → Option R) (k0 : Int → Option R) (k1 : Unit → Option R) : Option R :=
 bif (decide (w3 < w2)) then
  bif (inB w3 w1.length) then
   bnd (d82 N (w1.getD w3.toNat (.i 0)).toS) fun y0 =>
   bif y0.isSome then
    bif (!(y0.getD default)) then
     k0 8
    else
     bif (bif (inB (IntKind.wrap .i64 (w3 - 1)) w12.length) then true else (!((decide (w3 > 0)) == true))) then
      bnd (bif (decide (w3 > 0)) then ((Op.bytesLess (w1.getD w3.toNat (.i 0)).toS (w12.getD (IntKind.wrap .i64 (w3 - 1)).toNat (.i 0)).toS) || ((w1.getD w3.toNat (.i 0)).toS == (w12.getD (IntKind.wrap .i64 (w3 - 1)).toNat (.i 0)).toS)) else false) fun y1 =>
      bif y1 then
       k0 10
      else
       kr (IntKind.wrap .i64 (w3 + 1))
     else
      none
   else
    none
  else
   none
 else
  k1 ()
def b7E (N : Nat) {R : Type} (w1 : LD) (w2 : Int) (w12 : LD) : Nat → Int → (Int → Option R) → (Unit → Option R) → Option R
 | 0, _, _, _ => none
 | m + 1, w3, k0, k1 => b7D N w1 w2 w12 w3 (fun w3 => b7E N w1 w2 w12 m w3 k0 k1) k0 k1
def d9i (w1 : LD) (w2 : Int) (w12 : LD) (w3 : Int) : Option (Sum (Int) (Unit)) := b7E N (R := (Sum (Int) (Unit))) w1 w2 w12 N w3 (fun p => some (.inl p)) (fun p => some (.inr p))
def a8d (L x : List Lf) (kr : List Lf → Option R) (k0 : Int → Option R) (k1 : Unit → Option R) : Option R := b7D N (ll L 1) (li L 2) (ll L 12) (li x 0) (fun w3 => kr [.i w3]) k0 k1
theorem c0k (L x : List Lf) (kr : List Lf → Option R) (k0 : Int → Option R) (k1 : Unit → Option R) : a8d N L x kr k0 k1 = (a8d N L x (fun y => some (.inl y)) (fun p => some (.inr (.inl p))) (fun p => some (.inr (.inr p)))).bind (a1a kr (a1a k0 k1)) := by
 unfold a8d b7D
 repeat' (first | with_reducible apply a0d | (with_reducible apply a0l; intro _) | rfl)
def b1h (L : List Lf) (m : Nat) (x : List Lf) : Option (Sum (Int) (Unit)) := b7E N (R := (Sum (Int) (Unit))) (ll L 1) (li L 2) (ll L 12) m (li x 0) (fun p => some (.inl p)) (fun p => some (.inr p))
def a8e : Sh := { tmps := [(1, .c (.p 1 0)), (139, .c (.sl 9)), (140, .c (.i .i64)), (141, .c (.i .i64))], mem := [(1, .box (.s :: [.i .i64, .i .i64, .sl 74, .sl 118, .sl 9]))] }
def d9j (L : List Lf) : List (Bool × (Ex × St)) := bnd (b1h N L N (pk a8e [3] L)) fun q => [((a07 q), (.ret, ⟨[(2, .c (.i .i64 (a3p q)))], []⟩)), ((a0I q).isSome, ((.exit 7), ⟨[], []⟩))]
theorem c2J (m : Nat) (kn : St → Option (Ex × St)) (L x : List Lf) : lpB Try.prog (b34 N) (d4v N).h 0 51 90 a8e [3] [2] [] (m + 100) kn L x = a8d N L x (fun y => kn (a0x a8e (mx a8e [3] L y))) (fun p => some (.ret, ⟨[(2, .c (.i .i64 p))], []⟩)) (fun _ => some ((.exit 7), ⟨[], []⟩)) := by kernel_rfl
theorem d4w (L : List Lf) (m : Nat) (x : List Lf) : b1h N L (m + 1) x = a8d N L x (b1h N L m) (fun p => some (.inl p)) (fun p => some (.inr p)) := by kernel_rfl
def d4x : Sg Try.prog 0 51 :=
 (d4v N).lp (d9j N) N a0b (a2O N) (fun m kn L x => (c2J N m kn L x).trans (c0k N L x _ _ _)) (fun L m x => (d4w N L m x).trans (c0k N L x (b1h N L m) (fun p => some (.inl p)) (fun p => some (.inr p)))) fun L x hx => (a3w a0D) x hx
def d9k (v0 : LB) (v1 v2 : Int) (v4 v6 v8 : LD) (k0 : Int → Option R) : Option R :=
 bnd (d82 N v0) fun y0 =>
 bif y0.isSome then
  bif (!(y0.getD default)) then
   k0 8
  else
   bnd (a2N N v1 1 5) fun y1 =>
   bif (!y1) then
    k0 7
   else
    bnd (a2N N v2 0 86399999999) fun y2 =>
    bif (!y2) then
     k0 9
    else
     bnd (bif (decide ((v4.length : Int) > 20000)) then true else (decide ((v6.length : Int) > 200))) fun y3 =>
     bnd (bif y3 then true else (decide ((v8.length : Int) > 20))) fun y4 =>
     bif y4 then
      k0 3
     else
      bnd (d9d N v4 (v4.length : Int) v2 v4 0) fun y5 =>
      bif (a07 y5) then
       k0 (a3p y5)
      else
       bif (a0I y5).isSome then
        bnd (d86 N v4) fun y6 =>
        bif y6.isSome then
         bnd (d9g N (y6.getD default) v6 (v6.length : Int) v6 0) fun y7 =>
         bif (a07 y7) then
          k0 (a3p y7)
         else
          bif (a0I y7).isSome then
           bnd (d9i N v8 (v8.length : Int) v8 0) fun y8 =>
           bif (a07 y8) then
            k0 (a3p y8)
           else
            bif (a0I y8).isSome then
             k0 0
            else
             none
          else
           none
        else
         none
       else
        none
 else
  none
def e3S (v0 : LB) (v1 v2 : Int) (v4 v6 v8 : LD) : Option (Int) := d9k N v0 v1 v2 v4 v6 v8 (fun p => some p)
theorem d9l (v0 : LB) (v1 v2 : Int) (v4 v6 v8 : LD) (k0 : Int → Option R) : d9k N v0 v1 v2 v4 v6 v8 k0 = (e3S N v0 v1 v2 v4 v6 v8).bind k0 := by
 unfold e3S d9k
 repeat' (first | with_reducible apply a0d | (with_reducible apply a0l; intro _) | rfl)
def e9R (L : List Lf) (k0 : Int → Option R) : Option R := d9k N (ls L 0) (li L 1) (li L 2) (ll L 4) (ll L 6) (ll L 8) k0
def d4y : Sh := { tmps := [(0, .g (.s :: [.i .i64, .i .i64, .sl 74, .sl 118, .sl 9]))], mem := [] }
def e9S (L : List Lf) : List (Bool × Res) := bnd (e9R N L (fun p => some p)) fun q => [(q.isSome, ([.c (.i .i64 (q.getD default))], []))]
theorem e3T (L : List Lf) : bd Try.prog (b34 N) (d4x N).h 51 d4y L = e9R N L (fun p => some ([.c (.i .i64 p)], [])) := by kernel_rfl
theorem e9T : a0t Try.prog 51 d4y (e9S N) :=
 (d4x N).fn a0b (a2O N) fun L x hx => ((e3T N L).trans ((d9l N ..).trans (a0D x hx)))
def e3U : a0e := ext 51 (a1b d4y (e9S N)) (b34 N)
theorem c4z : a0c Try.prog (e3U N) := a0t.to (e9T N) (a2O N)
def e9U : List (Nat × List Nat) := [(0, [0]), (1, [0, 2])]
def e9V : a0r := []
def d4z (N : Nat) : Sg Try.prog 0 53 := .start e9V e9U
def d9m (N : Nat) (k0 : Unit → R) : R :=
 k0 ()
def e9W : Unit := d9m N (fun p => p)
theorem e3V (k0 : Unit → R) : d9m N k0 = k0 (e9W N) := by
 unfold e9W d9m
 repeat' (first | rfl | apply a0M | (apply a1u; intro _))
def d4A : Sh := { tmps := [(0, .c (.i .i64))], mem := [] }
def e9X (N : Nat) (L : List Lf) : List (Bool × Res) := [(true, ([.g [.i .i64 (li L 0), .i .i64 60, .i .i64 2]], []))]
theorem e3W (L : List Lf) : bd Try.prog (e3U N) (d4z N).h 53 d4A L = d9m N (fun _ => some ([.g [.i .i64 (li L 0), .i .i64 60, .i .i64 2]], [])) := by kernel_rfl
theorem e9Y : a0t Try.prog 53 d4A (e9X N) :=
 (d4z N).fn a0b (c4z N) fun L x hx => ((e3W N L).trans ((e3V N ..).trans (a4q _ _ hx)))
def e3X : a0e := ext 53 (a1b d4A (e9X N)) (e3U N)
theorem c4A : a0c Try.prog (e3X N) := a0t.to (e9Y N) (c4z N)
def e9Z : List (Nat × List Nat) := [(0, [0, 1, 2, 3])]
def e90 : a0r := []
def d4B (N : Nat) : Sg Try.prog 1 54 := .start e90 e9Z
def d9n (N : Nat) (v0 v1 : Int) (v2 : Bool) (v3 : LD) (v6 : Bool) (k0 : LD → R) : R :=
 k0 [(.a [(.i 1), (.i v0), (.i 0), (.l false [(.a [(.b v6), (.i v1), (.l v2 v3)])]), (.l true [])])]
def e3Y (v0 v1 : Int) (v2 : Bool) (v3 : LD) (v6 : Bool) : LD := d9n N v0 v1 v2 v3 v6 (fun p => p)
theorem e3Z (v0 v1 : Int) (v2 : Bool) (v3 : LD) (v6 : Bool) (k0 : LD → R) : d9n N v0 v1 v2 v3 v6 k0 = k0 (e3Y N v0 v1 v2 v3 v6) := by
 unfold e3Y d9n
 repeat' (first | rfl | apply a0M | (apply a1u; intro _))
def e91 (L : List Lf) (k0 : LD → R) : R := d9n N (li L 0) (li L 1) (lb L 2) (ll L 3) (lb L 6) k0
def d4C : Sh := { tmps := [(0, .c (.p 0 0)), (1, .c (.i .i64)), (2, .c (.i .i64)), (3, .c (.sl 61))], mem := [(0, .box ([.nsl 41, .b]))] }
def d4D (L : List Lf) (p : LD) : Res := ([], [(0, .box [.o 26, .b (lb L 6)]), (26, .row 41 true false p)])
def e92 (L : List Lf) : List (Bool × Res) := bnd (e91 N L (fun p => p)) fun q => [(true, d4D L q)]
theorem e30 (L : List Lf) : bd Try.prog (e3X N) (d4B N).h 54 d4C L = e91 N L (fun p => some (d4D L p)) := by kernel_rfl
theorem e93 : a0t Try.prog 54 d4C (e92 N) :=
 (d4B N).fn a0b (c4A N) fun L x hx => ((e30 N L).trans ((e3Z N ..).trans (a4q _ _ hx)))
def d9o : a0e := ext 54 (a1b d4C (e92 N)) (e3X N)
theorem b7F : a0c Try.prog (d9o N) := a0t.to (e93 N) (c4A N)
def e94 : List (Nat × List Nat) := [(0, [1, 3, 2, 0]), (1, [1, 3, 2, 0]), (2, [2, 0]), (3, [1, 2, 0])]
def e95 : a0r := [(8, [0, 1, 2, 14], [0, 1], [])]
def d4E (N : Nat) : Sg Try.prog 2 56 := .start e95 e94
def b3B (w0 w1 : Int) (w2 : Bool) (k0 : Int → Option R) : Option R :=
 bif w2 then
  bnd (a7b N w1 false) fun y0 =>
  bif y0.isSome then
   k0 (y0.getD default)
  else
   none
 else
  k0 w0
def c2K (w0 w1 : Int) (w2 : Bool) : Option (Int) := b3B N w0 w1 w2 (fun p => some p)
theorem c7r (w0 w1 : Int) (w2 : Bool) (k0 : Int → Option R) : b3B N w0 w1 w2 k0 = (c2K N w0 w1 w2).bind k0 := by
 unfold c2K b3B
 repeat' (first | with_reducible apply a0d | (with_reducible apply a0l; intro _) | rfl)
def c4B : Sh := { tmps := [(0, .c (.p 0 0)), (1, .c (.i .i64)), (2, .c (.i .i64)), (14, .c (.b))], mem := [(0, .box ([.o 1, .b])), (1, .row 41 true)] }
def c0l (L : List Lf) (p : Int) : Ex × St := (.normal, mg (a0x c4B L) [0, 1, 2] [(1, .c (.i .i64 p))] [0, 1] [])
def e31 (L : List Lf) : List (Bool × (Ex × St)) := bnd (b3B N (li L 0) (li L 1) (lb L 2) (fun p => some p)) fun q => [(q.isSome, c0l L (q.getD default))]
theorem d4F (L : List Lf) : pc Try.prog (d9o N) (d4E N).h 2 100 56 8 c4B L [0, 1, 2] [0, 1] = b3B N (li L 0) (li L 1) (lb L 2) (fun p => some (c0l L p)) := by kernel_rfl
def d4G : Sg Try.prog 2 56 :=
 (d4E N).cut (e31 N) a0b (b7F N) fun L x hx => (d4F N L).trans ((c7r N ..).trans (a0D x hx))
def d9p (v0 v1 : Int) (v2 v3 : Bool) (k0 : LD → Option R) : Option R :=
 bnd (c2K N v0 v1 (bif (decide (v0 < 0)) then (!v2) else false)) fun y0 =>
 bif y0.isSome then
  bnd (b6u N (y0.getD default) v1 v3) fun y1 =>
  bif y1.isSome then
   k0 (y1.getD default)
  else
   none
 else
  none
def a84 (v0 v1 : Int) (v2 v3 : Bool) : Option (LD) := d9p N v0 v1 v2 v3 (fun p => some p)
theorem d9q (v0 v1 : Int) (v2 v3 : Bool) (k0 : LD → Option R) : d9p N v0 v1 v2 v3 k0 = (a84 N v0 v1 v2 v3).bind k0 := by
 unfold a84 d9p
 repeat' (first | with_reducible apply a0d | (with_reducible apply a0l; intro _) | rfl)
def e96 (L : List Lf) (k0 : LD → Option R) : Option R := d9p N (li L 0) (li L 1) (lb L 2) (lb L 3) k0
def c0m : Sh := { tmps := [(0, .c (.p 0 0)), (1, .c (.i .i64)), (2, .c (.i .i64)), (3, .c (.b))], mem := [(0, .box ([.o 1, .b])), (1, .row 41 true)] }
def e97 (L : List Lf) : List (Bool × Res) := bnd (e96 N L (fun p => some p)) fun q => [(q.isSome, ([.c (.sl 5 false (q.getD default))], mgA (a0x c0m L).mem [] [0, 1]))]
theorem e32 (L : List Lf) : bd Try.prog (d9o N) (d4G N).h 56 c0m L = e96 N L (fun p => some ([.c (.sl 5 false p)], mgA (a0x c0m L).mem [] [0, 1])) := by kernel_rfl
theorem e98 : a0t Try.prog 56 c0m (e97 N) :=
 (d4G N).fn a0b (b7F N) fun L x hx => ((e32 N L).trans ((d9q N ..).trans (a0D x hx)))
def e33 : a0e := ext 56 (a1b c0m (e97 N)) (d9o N)
theorem c4C : a0c Try.prog (e33 N) := a0t.to (e98 N) (b7F N)
def e99 : List (Nat × List Nat) := [(0, [0]), (1, [0]), (2, [3, 0]), (3, [3])]
def f0a : a0r := []
def d4H (N : Nat) : Sg Try.prog 0 57 := .start f0a e99
def d4I (N : Nat) (v0 : LB) (k0 : LD → R) : R :=
 bnd (((a0E v0).take 60 ++ [(.i 0), (.i 0), (.i 0), (.i 0), (.i 0), (.i 0), (.i 0), (.i 0), (.i 0), (.i 0), (.i 0), (.i 0), (.i 0), (.i 0), (.i 0), (.i 0), (.i 0), (.i 0), (.i 0), (.i 0), (.i 0), (.i 0), (.i 0), (.i 0), (.i 0), (.i 0), (.i 0), (.i 0), (.i 0), (.i 0), (.i 0), (.i 0), (.i 0), (.i 0), (.i 0), (.i 0), (.i 0), (.i 0), (.i 0), (.i 0), (.i 0), (.i 0), (.i 0), (.i 0), (.i 0), (.i 0), (.i 0), (.i 0), (.i 0), (.i 0), (.i 0), (.i 0), (.i 0), (.i 0), (.i 0), (.i 0), (.i 0), (.i 0), (.i 0), (.i 0)].drop (a0E v0).length) : List D) fun y0 =>
 k0 y0
def d4J (v0 : LB) : LD := d4I N v0 (fun p => p)
theorem e34 (v0 : LB) (k0 : LD → R) : d4I N v0 k0 = k0 (d4J N v0) := by
 unfold d4J d4I
 repeat' (first | rfl | apply a0M | (apply a1u; intro _))
def d4K : Sh := { tmps := [(0, .c (.s))], mem := [] }
def f0b (L : List Lf) : List (Bool × Res) := bnd (d4I N (ls L 0) (fun p => p)) fun q => [(true, ([.c (.sl 5 false q)], []))]
theorem e35 (L : List Lf) : bd Try.prog (e33 N) (d4H N).h 57 d4K L = d4I N (ls L 0) (fun p => some ([.c (.sl 5 false p)], [])) := by kernel_rfl
theorem f0c : a0t Try.prog 57 d4K (f0b N) :=
 (d4H N).fn a0b (c4C N) fun L x hx => ((e35 N L).trans ((e34 N ..).trans (a4q _ _ hx)))
def d9r : a0e := ext 57 (a1b d4K (f0b N)) (e33 N)
theorem b7G : a0c Try.prog (d9r N) := a0t.to (f0c N) (c4C N)
def f0d : List (Nat × List Nat) := [(0, [1, 2, 0]), (1, [2, 6, 0]), (2, [13, 12, 11, 6, 0]), (3, [11, 13, 6, 12, 0]), (4, [6, 8, 13, 12, 11, 0]), (5, [13, 12, 11, 6, 0]), (6, [0, 6])]
def f0e : a0r := [(6, [0, 6, 11, 12, 13], [0, 1, 8, 50008006], [50008004])]
def d4L (N : Nat) : Sg Try.prog 2 55 := .start f0e f0d
def c2L (N : Nat) (w1 : LD) (w2 : Int) (w3 : Int) (w12 : Bool) (w13 : LD) (kr : Int → Bool → LD → Option R) (k0 : Bool × LD → Option R) : Option R :=
 bif (decide (w3 < w2)) then
  bif (inB w3 w1.length) then
   bif (decide ((w13.length + (w1.getD w3.toNat (.i 0)).items.length) * 1 ≤ a1j) && decide ((w13.length + (w1.getD w3.toNat (.i 0)).items.length) ≤ a0i)) then
    kr (IntKind.wrap .i64 (w3 + 1)) ((w1.getD w3.toNat (.i 0)).items.isEmpty && w12) (w13 ++ (w1.getD w3.toNat (.i 0)).items)
   else
    none
  else
   none
 else
  k0 (w12, w13)
def c2M (N : Nat) {R : Type} (w1 : LD) (w2 : Int) : Nat → Int → Bool → LD → (Bool × LD → Option R) → Option R
 | 0, _, _, _, _ => none
 | m + 1, w3, w12, w13, k0 => c2L N w1 w2 w3 w12 w13 (fun w3 w12 w13 => c2M N w1 w2 m w3 w12 w13 k0) k0
def e36 (w1 : LD) (w2 : Int) (w3 : Int) (w12 : Bool) (w13 : LD) : Option (Bool × LD) := c2M N (R := (Bool × LD)) w1 w2 N w3 w12 w13 (fun p => some p)
def b3C (L x : List Lf) (kr : List Lf → Option R) (k0 : Bool × LD → Option R) : Option R := c2L N (ll L 1) (li L 2) (li x 0) (lb x 1) (ll x 2) (fun w3 w12 w13 => kr [.i w3, .b w12, .l w13]) k0
theorem c4D (L x : List Lf) (kr : List Lf → Option R) (k0 : Bool × LD → Option R) : b3C N L x kr k0 = (b3C N L x (fun y => some (.inl y)) (fun p => some (.inr p))).bind (a1a kr k0) := by
 unfold b3C c2L
 repeat' (first | with_reducible apply a0d | (with_reducible apply a0l; intro _) | rfl)
def b7H (L : List Lf) (m : Nat) (x : List Lf) : Option (Bool × LD) := c2M N (R := (Bool × LD)) (ll L 1) (li L 2) m (li x 0) (lb x 1) (ll x 2) (fun p => some p)
def a8f : Sh := { tmps := [(0, .c (.p 0 0)), (6, .c (.p 8 0)), (11, .c (.sl 39)), (12, .c (.i .i64)), (13, .c (.i .i64))], mem := [(0, .box ([.o 1, .b])), (1, .row 41 true), (8, .box ([.i .i64, .i .i64, .i .i64, .sl 44, .o 50008006])), (50008006, .row 5 true)] }
def c0n (L : List Lf) (p : Bool × LD) : Ex × St := ((.exit 0), mg (a0x a8f L) [0, 6] [] [0, 1, 8, 50008006] [(50008006, .row 5 true p.1 p.2)])
def e37 (L : List Lf) : List (Bool × (Ex × St)) := bnd (b7H N L N (pk a8f [3, 12, 13] L)) fun q => [(q.isSome, c0n L (q.getD default))]
theorem c7s (m : Nat) (kn : St → Option (Ex × St)) (L x : List Lf) : lpB Try.prog (d9r N) (d4L N).h 2 55 6 a8f [3, 12, 13] [0, 6] [0, 1, 8, 50008006] (m + 100) kn L x = b3C N L x (fun y => kn (a0x a8f (mx a8f [3, 12, 13] L y))) (fun p => some (c0n L p)) := by kernel_rfl
theorem d9s (L : List Lf) (m : Nat) (x : List Lf) : b7H N L (m + 1) x = b3C N L x (b7H N L m) some := by kernel_rfl
def d4M : Sg Try.prog 2 55 :=
 (d4L N).lp (e37 N) N a0b (b7G N) (fun m kn L x => (c7s N m kn L x).trans (c4D N L x _ _)) (fun L m x => (d9s N L m x).trans (c4D N L x (b7H N L m) some)) fun L x hx => a0D x hx
def d4N (v0 : Int) (v2 v5 : LD) (k0 : LD → Option R) : Option R :=
 bnd (e36 N v2 (v2.length : Int) 0 true []) fun y0 =>
 bif y0.isSome then
  bif (decide ((v5.length + 1) * 72 ≤ a1j) && decide ((v5.length + 1) ≤ a0i)) then
   bnd ((v5 ++ [(.a [(.i 2), (.i v0), (.i 0), (.l true []), (.l (y0.getD default).1 (y0.getD default).2)])]) : List D) fun y1 =>
   k0 y1
  else
   none
 else
  none
def c2N (v0 : Int) (v2 v5 : LD) : Option (LD) := d4N N v0 v2 v5 (fun p => some p)
theorem d9t (v0 : Int) (v2 v5 : LD) (k0 : LD → Option R) : d4N N v0 v2 v5 k0 = (c2N N v0 v2 v5).bind k0 := by
 unfold c2N d4N
 repeat' (first | with_reducible apply a0d | (with_reducible apply a0l; intro _) | rfl)
def d4O : Sh := { tmps := [(0, .c (.p 0 0)), (1, .c (.i .i64)), (2, .c (.sl 39))], mem := [(0, .box ([.o 1, .b])), (1, .row 41 true)] }
def d4P (L : List Lf) (p : LD) : Res := ([], [(0, .box [.o 33, .b (lb L 3)]), (33, .row 41 true false p)])
def f0f (L : List Lf) : List (Bool × Res) := bnd (d4N N (li L 0) (ll L 2) (ll L 5) (fun p => some p)) fun q => [(q.isSome, d4P L (q.getD default))]
theorem e39 (L : List Lf) : bd Try.prog (d9r N) (d4M N).h 55 d4O L = d4N N (li L 0) (ll L 2) (ll L 5) (fun p => some (d4P L p)) := by kernel_rfl
theorem f0g : a0t Try.prog 55 d4O (f0f N) :=
 (d4M N).fn a0b (b7G N) fun L x hx => ((e39 N L).trans ((d9t N ..).trans (a0D x hx)))
def e4a : a0e := ext 55 (a1b d4O (f0f N)) (d9r N)
theorem c4E : a0c Try.prog (e4a N) := a0t.to (f0g N) (b7G N)
def f0h : List (Nat × List Nat) := [(0, [0, 1, 2, 3])]
def f0i : a0r := []
def d4Q (N : Nat) : Sg Try.prog 2 54 := .start f0i f0h
def d9u (N : Nat) (v0 v1 : Int) (v2 : Bool) (v3 : LD) (v4 : Bool) (v6 : LD) (k0 : LD → Option R) : Option R :=
 bif (decide ((v6.length + 1) * 72 ≤ a1j) && decide ((v6.length + 1) ≤ a0i)) then
  bnd ((v6 ++ [(.a [(.i 1), (.i v0), (.i 0), (.l false [(.a [(.b v4), (.i v1), (.l v2 v3)])]), (.l true [])])]) : List D) fun y0 =>
  k0 y0
 else
  none
def d4R (v0 v1 : Int) (v2 : Bool) (v3 : LD) (v4 : Bool) (v6 : LD) : Option (LD) := d9u N v0 v1 v2 v3 v4 v6 (fun p => some p)
theorem d9v (v0 v1 : Int) (v2 : Bool) (v3 : LD) (v4 : Bool) (v6 : LD) (k0 : LD → Option R) : d9u N v0 v1 v2 v3 v4 v6 k0 = (d4R N v0 v1 v2 v3 v4 v6).bind k0 := by
 unfold d4R d9u
 repeat' (first | with_reducible apply a0d | (with_reducible apply a0l; intro _) | rfl)
def f0j (L : List Lf) (k0 : LD → Option R) : Option R := d9u N (li L 0) (li L 1) (lb L 2) (ll L 3) (lb L 4) (ll L 6) k0
def d4S : Sh := { tmps := [(0, .c (.p 0 0)), (1, .c (.i .i64)), (2, .c (.i .i64)), (3, .c (.sl 61))], mem := [(0, .box ([.o 1, .b])), (1, .row 41 true)] }
def d4T (L : List Lf) (p : LD) : Res := ([], [(0, .box [.o 27, .b (lb L 4)]), (27, .row 41 true false p)])
def f0k (L : List Lf) : List (Bool × Res) := bnd (f0j N L (fun p => some p)) fun q => [(q.isSome, d4T L (q.getD default))]
theorem e4b (L : List Lf) : bd Try.prog (e4a N) (d4Q N).h 54 d4S L = f0j N L (fun p => some (d4T L p)) := by kernel_rfl
theorem f0l : a0t Try.prog 54 d4S (f0k N) :=
 (d4Q N).fn a0b (c4E N) fun L x hx => ((e4b N L).trans ((d9v N ..).trans (a0D x hx)))
def c7t : a0e := ext 54 (a1b d4S (f0k N)) (e4a N)
theorem a8g : a0c Try.prog (c7t N) := a0t.to (f0l N) (c4E N)
def f0m : List (Nat × List Nat) := [(0, [1, 2, 0]), (1, [4, 5, 0]), (2, [5, 0, 4]), (3, [6, 0, 4]), (4, [20, 6, 0, 4]), (5, [20, 6, 0, 4]), (6, [6, 7, 20, 0, 4]), (7, [20, 6, 0, 4]), (8, [6, 0, 4]), (9, [29, 6, 0, 4]), (10, [29, 6, 0, 4]), (11, [6, 8, 29, 0, 4]), (12, [29, 6, 0, 4]), (13, [0, 6, 4]), (14, [4, 0]), (15, [45, 44, 43, 4, 0]), (16, [45, 43, 4, 0, 44]), (17, [4, 10, 0, 9, 45, 44, 43]), (18, [0, 11, 10, 9, 4, 45, 44, 43]), (19, [9, 10, 4, 0, 12, 11, 45, 44, 43]), (23, [0, 12, 45, 44, 43, 4]), (20, [0, 12, 11, 45, 44, 43, 4]), (21, [0, 11, 45, 44, 43, 4]), (22, [13, 11, 45, 44, 43, 4, 0]), (24, [45, 44, 43, 4, 0])]
def f0n : a0r := [(45, [0, 4, 43, 44, 45], [0, 6, 50000002, 42000000029], [50000000]), (58, [0, 4, 9, 10, 11, 12, 43, 44, 45], [0, 6, 12, 84, 50000002], []), (69062, [0, 4, 11, 12, 43, 44, 45, 97], [0, 6, 84, 50000002], [])]
def d4U (N : Nat) : Sg Try.prog 2 58 := .start f0n f0m
def a8h (N : Nat) (w0 : Int) (w11 : LD) (w16 : Int) (k0 : Bool → Option R) : Option R :=
 bif (decide (w0 > 0)) then
  bif (inB (IntKind.wrap .i64 (w0 - 1)) w11.length) then
   bnd ((w11.getD (IntKind.wrap .i64 (w0 - 1)).toNat (.i 0)).cell 0).toI fun y0 =>
   k0 (decide ((IntKind.wrap .i64 (w16 - y0)) < 32))
  else
   none
 else
  k0 false
def b7I (w0 : Int) (w11 : LD) (w16 : Int) : Option (Bool) := a8h N w0 w11 w16 (fun p => some p)
theorem c2O (w0 : Int) (w11 : LD) (w16 : Int) (k0 : Bool → Option R) : a8h N w0 w11 w16 k0 = (b7I N w0 w11 w16).bind k0 := by
 unfold b7I a8h
 repeat' (first | with_reducible apply a0d | (with_reducible apply a0l; intro _) | rfl)
def c0o : Sh := { tmps := [(0, .c (.p 0 0)), (4, .c (.p 6 0)), (9, .c (.i .i64)), (10, .c (.p 12 0)), (11, .c (.i .i64)), (12, .c (.o 84)), (43, .c (.sl 74)), (44, .c (.i .i64)), (45, .c (.i .i64))], mem := [(0, .box ([.o 50000002, .b])), (6, .box (.s :: [.i .i64, .i .i64, .sl 74, .sl 118, .sl 9])), (12, .box (rI 7 ([]))), (84, .row 39 true), (50000002, .row 41 true)] }
def b5g (L : List Lf) (p : Bool) : Ex × St := (.normal, mg (a0x c0o L) [0, 4, 11, 12, 43, 44, 45, 97] [(97, .c (.b p))] [0, 6, 84, 50000002] [])
def d9w (L : List Lf) : List (Bool × (Ex × St)) := bnd (a8h N (li L 0) (ll L 11) (li L 16) (fun p => some p)) fun q => [(q.isSome, b5g L (q.getD default))]
theorem c7u (L : List Lf) : pc Try.prog (c7t N) (d4U N).h 2 100 58 58 c0o L [0, 4, 11, 12, 43, 44, 45, 97] [0, 6, 84, 50000002] = a8h N (li L 0) (ll L 11) (li L 16) (fun p => some (b5g L p)) := by kernel_rfl
def d4V : Sg Try.prog 2 58 :=
 (d4U N).cut (d9w N) a0b (a8g N) fun L x hx => (c7u N L).trans ((c2O N ..).trans (a0D x hx))
def a4i (w0 : Int) (w5 : Bool) (w17 w19 : LD) (k0 : LD → Option R) (k1 : LD → Option R) : Option R :=
 bif w5 then
  bif ((decide (1 ≤ (w17.length : Int))) && (decide ((w17.length : Int) ≤ (w17.length : Int)))) then
   bnd (c2N N 1 ((w17.take (w17.length : Int).toNat).drop 1) w19) fun y0 =>
   bif y0.isSome then
    bnd (IntKind.wrap .i64 (((y0.getD default).length : Int) - 1)) fun y1 =>
    bif (inB y1 (y0.getD default).length) then
     bif (decide (y1.toNat < (y0.getD default).length)) then
      bnd (((y0.getD default).set y1.toNat (.a [(.i 3), (.i (((y0.getD default).getD y1.toNat (.i 0)).cell 1).toI), (.i (((y0.getD default).getD y1.toNat (.i 0)).cell 2).toI), (.l (((y0.getD default).getD y1.toNat (.i 0)).cell 3).isNil (((y0.getD default).getD y1.toNat (.i 0)).cell 3).items), (.l (((y0.getD default).getD y1.toNat (.i 0)).cell 4).isNil (((y0.getD default).getD y1.toNat (.i 0)).cell 4).items)])) : List D) fun y2 =>
      bif (decide (y1.toNat < y2.length)) then
       bnd ((y2.set y1.toNat (.a [(.i ((y2.getD y1.toNat (.i 0)).cell 0).toI), (.i ((y2.getD y1.toNat (.i 0)).cell 1).toI), (.i (w0.tmod 32)), (.l ((y2.getD y1.toNat (.i 0)).cell 3).isNil ((y2.getD y1.toNat (.i 0)).cell 3).items), (.l ((y2.getD y1.toNat (.i 0)).cell 4).isNil ((y2.getD y1.toNat (.i 0)).cell 4).items)])) : List D) fun y3 =>
       k0 y3
      else
       none
     else
      none
    else
     none
   else
    none
  else
   none
 else
  bnd (c2N N 1 w17 w19) fun y4 =>
  bif y4.isSome then
   k1 (y4.getD default)
  else
   none
def a6s (w0 : Int) (w5 : Bool) (w17 w19 : LD) : Option (Sum (LD) (LD)) := a4i N w0 w5 w17 w19 (fun p => some (.inl p)) (fun p => some (.inr p))
theorem b36 (w0 : Int) (w5 : Bool) (w17 w19 : LD) (k0 : LD → Option R) (k1 : LD → Option R) : a4i N w0 w5 w17 w19 k0 k1 = (a6s N w0 w5 w17 w19).bind (a1a k0 k1) := by
 unfold a6s a4i
 repeat' (first | with_reducible apply a0d | (with_reducible apply a0l; intro _) | rfl)
def b3D (L : List Lf) (k0 : LD → Option R) (k1 : LD → Option R) : Option R := a4i N (li L 0) (lb L 5) (ll L 17) (ll L 19) k0 k1
def a41 : Sh := { tmps := [(0, .c (.p 0 0)), (4, .c (.p 6 0)), (11, .c (.i .i64)), (12, .c (.o 84)), (43, .c (.sl 74)), (44, .c (.i .i64)), (45, .c (.i .i64)), (97, .c (.b))], mem := [(0, .box ([.o 50000002, .b])), (6, .box (.s :: [.i .i64, .i .i64, .sl 74, .sl 118, .sl 9])), (84, .row 39 true), (50000002, .row 41 true)] }
def a8i (L : List Lf) (p : LD) : Ex × St := (.normal, mg (a0x a41 L) [0, 4, 43, 44, 45] [] [0, 6, 102000000035] [(0, .box [.o 102000000035, .b (lb L 6)]), (102000000035, .row 41 true false p)])
def a8j (L : List Lf) (p : LD) : Ex × St := (.normal, mg (a0x a41 L) [0, 4, 43, 44, 45] [] [0, 6, 126000000035] [(0, .box [.o 126000000035, .b (lb L 6)]), (126000000035, .row 41 true false p)])
def c2P (L : List Lf) : List (Bool × (Ex × St)) := bnd (b3D N L (fun p => some (.inl p)) (fun p => some (.inr p))) fun q => [((a07 q), a8i L (a3p q)), ((a0I q).isSome, a8j L ((a0I q).getD default))]
theorem b7J (L : List Lf) : pc Try.prog (c7t N) (d4V N).h 2 100 58 69062 a41 L [0, 4, 43, 44, 45] [0, 6, 102000000035, 126000000035] = b3D N L (fun p => some (a8i L p)) (fun p => some (a8j L p)) := by kernel_rfl
def d4W : Sg Try.prog 2 58 :=
 (d4V N).cut (c2P N) a0b (a8g N) fun L x hx => (b7J N L).trans ((b36 N ..).trans ((a3w a0D) x hx))
def b7K (w1 : LD) (w2 : Int) (w4 : Bool) (w7 : Int) (w9 : LD) (w3 : Int) (w14 : Bool) (w15 : LD) (kr : Int → Bool → LD → Option R) (k0 : Bool × LD → Option R) : Option R :=
 bif (decide (w3 < w2)) then
  bif (inB w3 w1.length) then
   bnd (IntKind.wrap .i64 (w7 + ((w1.getD w3.toNat (.i 0)).cell 0).toI)) fun y0 =>
   bnd (a84 N y0 4 false w4) fun y1 =>
   bif y1.isSome then
    bnd (a84 N ((w1.getD w3.toNat (.i 0)).cell 1).toI 4 true w4) fun y2 =>
    bif y2.isSome then
     bnd (a84 N ((w1.getD w3.toNat (.i 0)).cell 2).toI 4 true w4) fun y3 =>
     bif y3.isSome then
      bnd (a84 N ((w1.getD w3.toNat (.i 0)).cell 3).toI 4 true w4) fun y4 =>
      bif y4.isSome then
       bnd (a84 N ((w1.getD w3.toNat (.i 0)).cell 4).toI 2 false w4) fun y5 =>
       bif y5.isSome then
        bnd (a84 N ((w1.getD w3.toNat (.i 0)).cell 5).toI 2 false w4) fun y6 =>
        bif y6.isSome then
         bnd (a84 N ((w1.getD w3.toNat (.i 0)).cell 6).toI 2 false w4) fun y7 =>
         bif y7.isSome then
          bnd (b7I N w3 w9 ((w1.getD w3.toNat (.i 0)).cell 0).toI) fun y8 =>
          bif y8.isSome then
           bnd (a6s N y0 (y8.getD default) [(.l false (y1.getD default)), (.l false (y2.getD default)), (.l false (y3.getD default)), (.l false (y4.getD default)), (.l false (y5.getD default)), (.l false (y6.getD default)), (.l false (y7.getD default))] w15) fun y9 =>
           bif (a07 y9) then
            kr (IntKind.wrap .i64 (w3 + 1)) false (a3p y9)
           else
            bif (a0I y9).isSome then
             kr (IntKind.wrap .i64 (w3 + 1)) false ((a0I y9).getD default)
            else
             none
          else
           none
         else
          none
        else
         none
       else
        none
      else
       none
     else
      none
    else
     none
   else
    none
  else
   none
 else
  k0 (w14, w15)
def b7L (N : Nat) {R : Type} (w1 : LD) (w2 : Int) (w4 : Bool) (w7 : Int) (w9 : LD) : Nat → Int → Bool → LD → (Bool × LD → Option R) → Option R
 | 0, _, _, _, _ => none
 | m + 1, w3, w14, w15, k0 => b7K N w1 w2 w4 w7 w9 w3 w14 w15 (fun w3 w14 w15 => b7L N w1 w2 w4 w7 w9 m w3 w14 w15 k0) k0
def d9x (w1 : LD) (w2 : Int) (w4 : Bool) (w7 : Int) (w9 : LD) (w3 : Int) (w14 : Bool) (w15 : LD) : Option (Bool × LD) := b7L N (R := (Bool × LD)) w1 w2 w4 w7 w9 N w3 w14 w15 (fun p => some p)
def a8k (L x : List Lf) (kr : List Lf → Option R) (k0 : Bool × LD → Option R) : Option R := b7K N (ll L 1) (li L 2) (lb L 4) (li L 7) (ll L 9) (li x 0) (lb x 1) (ll x 2) (fun w3 w14 w15 => kr [.i w3, .b w14, .l w15]) k0
theorem c0p (L x : List Lf) (kr : List Lf → Option R) (k0 : Bool × LD → Option R) : a8k N L x kr k0 = (a8k N L x (fun y => some (.inl y)) (fun p => some (.inr p))).bind (a1a kr k0) := by
 unfold a8k b7K
 repeat' (first | with_reducible apply a0d | (with_reducible apply a0l; intro _) | rfl)
def b1i (L : List Lf) (m : Nat) (x : List Lf) : Option (Bool × LD) := b7L N (R := (Bool × LD)) (ll L 1) (li L 2) (lb L 4) (li L 7) (ll L 9) m (li x 0) (lb x 1) (ll x 2) (fun p => some p)
def a42 : Sh := { tmps := [(0, .c (.p 0 0)), (4, .c (.p 6 0)), (43, .c (.sl 74)), (44, .c (.i .i64)), (45, .c (.i .i64))], mem := [(0, .box ([.o 50000002, .b])), (6, .box (.s :: [.i .i64, .i .i64, .sl 74, .sl 118, .sl 9])), (50000002, .row 41 true)] }
def b5h (L : List Lf) (p : Bool × LD) : Ex × St := ((.exit 4), mg (a0x a42 L) [] [] [0, 50000002] [(50000002, .row 41 true p.1 p.2)])
def d9y (L : List Lf) : List (Bool × (Ex × St)) := bnd (b1i N L N (pk a42 [3, 14, 15] L)) fun q => [(q.isSome, b5h L (q.getD default))]
theorem c2Q (m : Nat) (kn : St → Option (Ex × St)) (L x : List Lf) : lpB Try.prog (c7t N) (d4W N).h 2 58 45 a42 [3, 14, 15] [] [0, 50000002] (m + 100) kn L x = a8k N L x (fun y => kn (a0x a42 (mx a42 [3, 14, 15] L y))) (fun p => some (b5h L p)) := by kernel_rfl
theorem d4X (L : List Lf) (m : Nat) (x : List Lf) : b1i N L (m + 1) x = a8k N L x (b1i N L m) some := by kernel_rfl
def d4Y : Sg Try.prog 2 58 :=
 (d4W N).lp (d9y N) N a0b (a8g N) (fun m kn L x => (c2Q N m kn L x).trans (c0p N L x _ _)) (fun L m x => (d4X N L m x).trans (c0p N L x (b1i N L m) some)) fun L x hx => a0D x hx
def d9z (v2 : Int) (v4 : LD) (v9 v10 v11 : Int) (v12 : Bool) (v14 : LD) (k0 : Unit → Option R) (k1 : Bool × LD → Option R) : Option R :=
 bif ((v4.length : Int) == 0) then
  k0 ()
 else
  bnd ([(.a [(.i v9), (.i v10), (.i v11)]), (.a [(.i 0), (.i 4), (.i 1)])] : List D) fun y0 =>
  bif (decide ((y0.length + 1) * 24 ≤ a1j) && decide ((y0.length + 1) ≤ a0i)) then
   bif (decide ((((y0 ++ [(.a [(.i 1), (.i 4), (.i 1)])]) : List D).length + 1) * 24 ≤ a1j) && decide ((((y0 ++ [(.a [(.i 1), (.i 4), (.i 1)])]) : List D).length + 1) ≤ a0i)) then
    bnd (((y0 ++ [(.a [(.i 1), (.i 4), (.i 1)])]) ++ [(.a [(.i 2), (.i 4), (.i 1)])]) : List D) fun y1 =>
    bif (decide ((y1.length + 1) * 24 ≤ a1j) && decide ((y1.length + 1) ≤ a0i)) then
     bif (decide ((((y1 ++ [(.a [(.i 3), (.i 2), (.i 0)])]) : List D).length + 1) * 24 ≤ a1j) && decide ((((y1 ++ [(.a [(.i 3), (.i 2), (.i 0)])]) : List D).length + 1) ≤ a0i)) then
      bnd (((y1 ++ [(.a [(.i 3), (.i 2), (.i 0)])]) ++ [(.a [(.i 4), (.i 2), (.i 0)])]) : List D) fun y2 =>
      bif (decide ((y2.length + 1) * 24 ≤ a1j) && decide ((y2.length + 1) ≤ a0i)) then
       bnd (d4R N 1 20 false (y2 ++ [(.a [(.i 5), (.i 2), (.i 0)])]) v12 v14) fun y3 =>
       bif y3.isSome then
        bnd (d9x N v4 (v4.length : Int) v12 v2 v4 0 false (y3.getD default)) fun y4 =>
        bif y4.isSome then
         k1 (y4.getD default)
        else
         none
       else
        none
      else
       none
     else
      none
    else
     none
   else
    none
  else
   none
def e4c (v2 : Int) (v4 : LD) (v9 v10 v11 : Int) (v12 : Bool) (v14 : LD) : Option (Sum (Unit) (Bool × LD)) := d9z N v2 v4 v9 v10 v11 v12 v14 (fun p => some (.inl p)) (fun p => some (.inr p))
theorem d9A (v2 : Int) (v4 : LD) (v9 v10 v11 : Int) (v12 : Bool) (v14 : LD) (k0 : Unit → Option R) (k1 : Bool × LD → Option R) : d9z N v2 v4 v9 v10 v11 v12 v14 k0 k1 = (e4c N v2 v4 v9 v10 v11 v12 v14).bind (a1a k0 k1) := by
 unfold e4c d9z
 repeat' (first | with_reducible apply a0d | (with_reducible apply a0l; intro _) | rfl)
def f0o (L : List Lf) (k0 : Unit → Option R) (k1 : Bool × LD → Option R) : Option R := d9z N (li L 2) (ll L 4) (li L 9) (li L 10) (li L 11) (lb L 12) (ll L 14) k0 k1
def c0q : Sh := { tmps := [(0, .c (.p 0 0)), (1, .g (.s :: [.i .i64, .i .i64, .sl 74, .sl 118, .sl 9])), (2, .g ([.i .i64, .i .i64, .i .i64]))], mem := [(0, .box ([.o 1, .b])), (1, .row 41 true)] }
def d4Z (L : List Lf) (p : Bool × LD) : Res := ([], [(0, .box [.o 50000002, .b (lb L 12)]), (50000002, .row 41 true p.1 p.2)])
def f0p (L : List Lf) : List (Bool × Res) := bnd (f0o N L (fun p => some (.inl p)) (fun p => some (.inr p))) fun q => [((a07 q), ([], mgA (a0x c0q L).mem [] [0, 1])), ((a0I q).isSome, d4Z L ((a0I q).getD default))]
theorem e4d (L : List Lf) : bd Try.prog (c7t N) (d4Y N).h 58 c0q L = f0o N L (fun _ => some ([], mgA (a0x c0q L).mem [] [0, 1])) (fun p => some (d4Z L p)) := by kernel_rfl
theorem f0q : a0t Try.prog 58 c0q (f0p N) :=
 (d4Y N).fn a0b (a8g N) fun L x hx => ((e4d N L).trans ((d9A N ..).trans ((a3w a0D) x hx)))
def c0r : a0e := ext 58 (a1b c0q (f0p N)) (c7t N)
theorem a4j : a0c Try.prog (c0r N) := a0t.to (f0q N) (a8g N)
def f0r : List (Nat × List Nat) := [(0, [0, 1]), (1, [2, 4, 1]), (2, [6, 4, 2, 1]), (3, [6, 4]), (4, [2, 4, 1]), (5, [4]), (6, [1, 2, 4]), (7, [7, 2, 4]), (8, [7, 8, 2, 4]), (9, [7, 8, 9, 2, 4]), (10, [7, 2, 9, 8, 4]), (11, [2, 7, 9, 8, 4]), (12, [7, 9, 2, 8, 4]), (13, [2, 7, 8, 9, 4]), (14, [64, 63, 62, 7, 2, 8, 9, 4]), (15, [62, 64, 7, 63, 2, 8, 9, 4]), (16, [7, 11, 64, 63, 62, 2, 8, 9, 4]), (17, [64, 63, 62, 7, 2, 8, 9, 4]), (18, [2, 7, 8, 9, 4]), (19, [7, 8, 9, 2, 4]), (20, [2, 7, 8, 4]), (21, [88, 87, 86, 7, 2, 8, 4]), (22, [86, 88, 7, 2, 87, 8, 4]), (23, [7, 2, 13, 88, 87, 86, 8, 4]), (24, [88, 87, 86, 7, 2, 8, 4]), (25, [7, 2, 8, 4]), (26, [7, 4])]
def f0s : a0r := [(38, [2, 4, 7, 8, 9, 55], [2, 4, 8, 29, 52000000033], []), (42, [2, 4, 7, 8, 9, 62, 63, 64], [2, 4, 8, 29, 50029000, 61000000027], [50029000]), (59, [2, 4, 7, 8, 9, 77], [2, 4, 8, 29, 50029000], []), (63, [2, 4, 7, 8, 86, 87, 88], [2, 4, 8, 29, 50029000, 85000000027], [50029000]), (76, [2, 4, 7, 8], [2, 4, 8, 29, 50029000], [])]
def d40 (N : Nat) : Sg Try.prog 0 29 := .start f0s f0r
def a8l (w0 w15 : Bool) (w17 : LD) (k0 : LD → Option R) (k1 : Unit → Option R) : Option R :=
 bif w0 then
  bnd (d4R N 3 30 false [(.a [(.i 1), (.i 60), (.i 2)])] w15 w17) fun y0 =>
  bif y0.isSome then
   k0 (y0.getD default)
  else
   none
 else
  k1 ()
def b7M (w0 w15 : Bool) (w17 : LD) : Option (Sum (LD) (Unit)) := a8l N w0 w15 w17 (fun p => some (.inl p)) (fun p => some (.inr p))
theorem c2R (w0 w15 : Bool) (w17 : LD) (k0 : LD → Option R) (k1 : Unit → Option R) : a8l N w0 w15 w17 k0 k1 = (b7M N w0 w15 w17).bind (a1a k0 k1) := by
 unfold b7M a8l
 repeat' (first | with_reducible apply a0d | (with_reducible apply a0l; intro _) | rfl)
def b3E : Sh := { tmps := [(2, .c (.p 2 0)), (4, .c (.p 4 0)), (7, .c (.p 29 0)), (8, .c (.p 8 0)), (9, .c (.f 53 [])), (55, .c (.b))], mem := [(2, .box (.s :: [.i .i64, .i .i64, .sl 74, .sl 118, .sl 9])), (4, .box ([.sl 41])), (8, .box ([.i .i64, .i .i64, .i .i64])), (29, .box ([.o 52000000033, .b])), (52000000033, .row 41 true)] }
def b5i (L : List Lf) (p : LD) : Ex × St := (.normal, mg (a0x b3E L) [2, 4, 7, 8, 9] [] [2, 4, 8, 29, 61000000027] [(29, .box [.o 61000000027, .b (lb L 15)]), (61000000027, .row 41 true false p)])
def b5j (L : List Lf) (_ : Unit) : Ex × St := (.normal, mg (a0x b3E L) [2, 4, 7, 8, 9] [] [2, 4, 8, 29, 52000000033] [])
def d9B (L : List Lf) : List (Bool × (Ex × St)) := bnd (a8l N (lb L 0) (lb L 15) (ll L 17) (fun p => some (.inl p)) (fun p => some (.inr p))) fun q => [((a07 q), b5i L (a3p q)), ((a0I q).isSome, b5j L ())]
theorem c7v (L : List Lf) : pc Try.prog (c0r N) (d40 N).h 0 100 29 38 b3E L [2, 4, 7, 8, 9] [2, 4, 8, 29, 52000000033, 61000000027] = a8l N (lb L 0) (lb L 15) (ll L 17) (fun p => some (b5i L p)) (fun _ => some (b5j L ())) := by kernel_rfl
def d41 : Sg Try.prog 0 29 :=
 (d40 N).cut (d9B N) a0b (a4j N) fun L x hx => (c7v N L).trans ((c2R N ..).trans ((a3w a0D) x hx))
def b7N (w1 : LD) (w2 : Int) (w3 : Int) (w19 : Bool) (w20 : LD) (kr : Int → Bool → LD → Option R) (k0 : Bool × LD → Option R) : Option R :=
 bif (decide (w3 < w2)) then
  bif (inB w3 w1.length) then
   bnd (d4J N (w1.getD w3.toNat (.i 0)).toS) fun y0 =>
   bnd (c2N N 3 [(.l false y0)] w20) fun y1 =>
   bif y1.isSome then
    kr (IntKind.wrap .i64 (w3 + 1)) false (y1.getD default)
   else
    none
  else
   none
 else
  k0 (w19, w20)
def b7O (N : Nat) {R : Type} (w1 : LD) (w2 : Int) : Nat → Int → Bool → LD → (Bool × LD → Option R) → Option R
 | 0, _, _, _, _ => none
 | m + 1, w3, w19, w20, k0 => b7N N w1 w2 w3 w19 w20 (fun w3 w19 w20 => b7O N w1 w2 m w3 w19 w20 k0) k0
def c4F (w1 : LD) (w2 : Int) (w3 : Int) (w19 : Bool) (w20 : LD) : Option (Bool × LD) := b7O N (R := (Bool × LD)) w1 w2 N w3 w19 w20 (fun p => some p)
def a8m (L x : List Lf) (kr : List Lf → Option R) (k0 : Bool × LD → Option R) : Option R := b7N N (ll L 1) (li L 2) (li x 0) (lb x 1) (ll x 2) (fun w3 w19 w20 => kr [.i w3, .b w19, .l w20]) k0
theorem c0s (L x : List Lf) (kr : List Lf → Option R) (k0 : Bool × LD → Option R) : a8m N L x kr k0 = (a8m N L x (fun y => some (.inl y)) (fun p => some (.inr p))).bind (a1a kr k0) := by
 unfold a8m b7N
 repeat' (first | with_reducible apply a0d | (with_reducible apply a0l; intro _) | rfl)
def b1j (L : List Lf) (m : Nat) (x : List Lf) : Option (Bool × LD) := b7O N (R := (Bool × LD)) (ll L 1) (li L 2) m (li x 0) (lb x 1) (ll x 2) (fun p => some p)
def a43 : Sh := { tmps := [(2, .c (.p 2 0)), (4, .c (.p 4 0)), (7, .c (.p 29 0)), (8, .c (.p 8 0)), (9, .c (.f 53 [])), (62, .c (.sl 9)), (63, .c (.i .i64)), (64, .c (.i .i64))], mem := [(2, .box (.s :: [.i .i64, .i .i64, .sl 74, .sl 118, .sl 9])), (4, .box ([.sl 41])), (8, .box ([.i .i64, .i .i64, .i .i64])), (29, .box ([.o 50029000, .b])), (50029000, .row 41 true)] }
def b5k (L : List Lf) (p : Bool × LD) : Ex × St := ((.exit 0), mg (a0x a43 L) [2, 4, 7, 8, 9] [] [2, 4, 8, 29, 50029000] [(50029000, .row 41 true p.1 p.2)])
def d9C (L : List Lf) : List (Bool × (Ex × St)) := bnd (b1j N L N (pk a43 [3, 19, 20] L)) fun q => [(q.isSome, b5k L (q.getD default))]
theorem c2S (m : Nat) (kn : St → Option (Ex × St)) (L x : List Lf) : lpB Try.prog (c0r N) (d41 N).h 0 29 42 a43 [3, 19, 20] [2, 4, 5, 7, 8, 9] [2, 4, 8, 29, 50029000] (m + 100) kn L x = a8m N L x (fun y => kn (a0x a43 (mx a43 [3, 19, 20] L y))) (fun p => some (b5k L p)) := by kernel_rfl
theorem d42 (L : List Lf) (m : Nat) (x : List Lf) : b1j N L (m + 1) x = a8m N L x (b1j N L m) some := by kernel_rfl
def d43 : Sg Try.prog 0 29 :=
 (d41 N).lp (d9C N) N a0b (a4j N) (fun m kn L x => (c2S N m kn L x).trans (c0s N L x _ _)) (fun L m x => (d42 N L m x).trans (c0s N L x (b1j N L m) some)) fun L x hx => a0D x hx
def b1k (w0 : Bool) (w12 w13 w14 : Int) (w15 : Bool) (w17 : LD) (k0 : LD → Option R) (k1 : Unit → Option R) : Option R :=
 bif w0 then
  bnd (d4R N 2 19 false [(.a [(.i w12), (.i w13), (.i w14)]), (.a [(.i 1), (.i 4), (.i 0)]), (.a [(.i 2), (.i 60), (.i 2)])] w15 w17) fun y0 =>
  bif y0.isSome then
   k0 (y0.getD default)
  else
   none
 else
  k1 ()
def b1l (w0 : Bool) (w12 w13 w14 : Int) (w15 : Bool) (w17 : LD) : Option (Sum (LD) (Unit)) := b1k N w0 w12 w13 w14 w15 w17 (fun p => some (.inl p)) (fun p => some (.inr p))
theorem c2T (w0 : Bool) (w12 w13 w14 : Int) (w15 : Bool) (w17 : LD) (k0 : LD → Option R) (k1 : Unit → Option R) : b1k N w0 w12 w13 w14 w15 w17 k0 k1 = (b1l N w0 w12 w13 w14 w15 w17).bind (a1a k0 k1) := by
 unfold b1l b1k
 repeat' (first | with_reducible apply a0d | (with_reducible apply a0l; intro _) | rfl)
def c4G (L : List Lf) (k0 : LD → Option R) (k1 : Unit → Option R) : Option R := b1k N (lb L 0) (li L 12) (li L 13) (li L 14) (lb L 15) (ll L 17) k0 k1
def b3F : Sh := { tmps := [(2, .c (.p 2 0)), (4, .c (.p 4 0)), (7, .c (.p 29 0)), (8, .c (.p 8 0)), (9, .c (.f 53 [])), (77, .c (.b))], mem := [(2, .box (.s :: [.i .i64, .i .i64, .sl 74, .sl 118, .sl 9])), (4, .box ([.sl 41])), (8, .box ([.i .i64, .i .i64, .i .i64])), (29, .box ([.o 50029000, .b])), (50029000, .row 41 true)] }
def b5l (L : List Lf) (p : LD) : Ex × St := (.normal, mg (a0x b3F L) [2, 4, 7, 8] [] [2, 4, 8, 29, 85000000027] [(29, .box [.o 85000000027, .b (lb L 15)]), (85000000027, .row 41 true false p)])
def b5m (L : List Lf) (_ : Unit) : Ex × St := (.normal, mg (a0x b3F L) [2, 4, 7, 8] [] [2, 4, 8, 29, 50029000] [])
def d9D (L : List Lf) : List (Bool × (Ex × St)) := bnd (c4G N L (fun p => some (.inl p)) (fun p => some (.inr p))) fun q => [((a07 q), b5l L (a3p q)), ((a0I q).isSome, b5m L ())]
theorem c7w (L : List Lf) : pc Try.prog (c0r N) (d43 N).h 0 100 29 59 b3F L [2, 4, 7, 8] [2, 4, 8, 29, 50029000, 85000000027] = c4G N L (fun p => some (b5l L p)) (fun _ => some (b5m L ())) := by kernel_rfl
def d44 : Sg Try.prog 0 29 :=
 (d43 N).cut (d9D N) a0b (a4j N) fun L x hx => (c7w N L).trans ((c2T N ..).trans ((a3w a0D) x hx))
def b7P (w1 : LD) (w2 w6 : Int) (w18 : Bool) (w3 : Int) (w19 : Bool) (w20 : LD) (kr : Int → Bool → LD → Option R) (k0 : Bool × LD → Option R) : Option R :=
 bif (decide (w3 < w2)) then
  bif (inB w3 w1.length) then
   bnd (IntKind.wrap .i64 (w6 + ((w1.getD w3.toNat (.i 0)).cell 0).toI)) fun y0 =>
   bnd (a84 N y0 4 false w18) fun y1 =>
   bif y1.isSome then
    bnd (IntKind.wrap .i64 (w6 + ((w1.getD w3.toNat (.i 0)).cell 1).toI)) fun y2 =>
    bnd (a84 N y2 4 false w18) fun y3 =>
    bif y3.isSome then
     bnd (d4J N ((w1.getD w3.toNat (.i 0)).cell 2).toS) fun y4 =>
     bnd (c2N N 2 [(.l false (y1.getD default)), (.l false (y3.getD default)), (.l false y4)] w20) fun y5 =>
     bif y5.isSome then
      kr (IntKind.wrap .i64 (w3 + 1)) false (y5.getD default)
     else
      none
    else
     none
   else
    none
  else
   none
 else
  k0 (w19, w20)
def b7Q (N : Nat) {R : Type} (w1 : LD) (w2 w6 : Int) (w18 : Bool) : Nat → Int → Bool → LD → (Bool × LD → Option R) → Option R
 | 0, _, _, _, _ => none
 | m + 1, w3, w19, w20, k0 => b7P N w1 w2 w6 w18 w3 w19 w20 (fun w3 w19 w20 => b7Q N w1 w2 w6 w18 m w3 w19 w20 k0) k0
def b1m (w1 : LD) (w2 w6 : Int) (w18 : Bool) (w3 : Int) (w19 : Bool) (w20 : LD) : Option (Bool × LD) := b7Q N (R := (Bool × LD)) w1 w2 w6 w18 N w3 w19 w20 (fun p => some p)
def a8n (L x : List Lf) (kr : List Lf → Option R) (k0 : Bool × LD → Option R) : Option R := b7P N (ll L 1) (li L 2) (li L 6) (lb L 18) (li x 0) (lb x 1) (ll x 2) (fun w3 w19 w20 => kr [.i w3, .b w19, .l w20]) k0
theorem c0t (L x : List Lf) (kr : List Lf → Option R) (k0 : Bool × LD → Option R) : a8n N L x kr k0 = (a8n N L x (fun y => some (.inl y)) (fun p => some (.inr p))).bind (a1a kr k0) := by
 unfold a8n b7P
 repeat' (first | with_reducible apply a0d | (with_reducible apply a0l; intro _) | rfl)
def b1n (L : List Lf) (m : Nat) (x : List Lf) : Option (Bool × LD) := b7Q N (R := (Bool × LD)) (ll L 1) (li L 2) (li L 6) (lb L 18) m (li x 0) (lb x 1) (ll x 2) (fun p => some p)
def a44 : Sh := { tmps := [(2, .c (.p 2 0)), (4, .c (.p 4 0)), (7, .c (.p 29 0)), (8, .c (.p 8 0)), (86, .c (.sl 118)), (87, .c (.i .i64)), (88, .c (.i .i64))], mem := [(2, .box (.s :: [.i .i64, .i .i64, .sl 74, .sl 118, .sl 9])), (4, .box ([.sl 41])), (8, .box ([.i .i64, .i .i64, .i .i64])), (29, .box ([.o 50029000, .b])), (50029000, .row 41 true)] }
def b5n (L : List Lf) (p : Bool × LD) : Ex × St := ((.exit 2), mg (a0x a44 L) [2, 4, 7, 8] [] [2, 4, 8, 29, 50029000] [(50029000, .row 41 true p.1 p.2)])
def d9E (L : List Lf) : List (Bool × (Ex × St)) := bnd (b1n N L N (pk a44 [3, 19, 20] L)) fun q => [(q.isSome, b5n L (q.getD default))]
theorem c2U (m : Nat) (kn : St → Option (Ex × St)) (L x : List Lf) : lpB Try.prog (c0r N) (d44 N).h 0 29 63 a44 [3, 19, 20] [2, 4, 5, 7, 8] [2, 4, 8, 29, 50029000] (m + 100) kn L x = a8n N L x (fun y => kn (a0x a44 (mx a44 [3, 19, 20] L y))) (fun p => some (b5n L p)) := by kernel_rfl
theorem d45 (L : List Lf) (m : Nat) (x : List Lf) : b1n N L (m + 1) x = a8n N L x (b1n N L m) some := by kernel_rfl
def d46 : Sg Try.prog 0 29 :=
 (d44 N).lp (d9E N) N a0b (a4j N) (fun m kn L x => (c2U N m kn L x).trans (c0t N L x _ _)) (fun L m x => (d45 N L m x).trans (c0t N L x (b1n N L m) some)) fun L x hx => a0D x hx
def b1o (w2 : Int) (w4 : LD) (w11 w12 w13 : Int) (w14 : Bool) (w16 : LD) (k0 : Unit → Option R) (k1 : Bool × LD → Option R) : Option R :=
 bnd (e4c N w2 w4 w11 w12 w13 w14 w16) fun y0 =>
 bif (a07 y0) then
  k0 ()
 else
  bif (a0I y0).isSome then
   k1 ((a0I y0).getD default)
  else
   none
def a5J (w2 : Int) (w4 : LD) (w11 w12 w13 : Int) (w14 : Bool) (w16 : LD) : Option (Sum (Unit) (Bool × LD)) := b1o N w2 w4 w11 w12 w13 w14 w16 (fun p => some (.inl p)) (fun p => some (.inr p))
theorem c2V (w2 : Int) (w4 : LD) (w11 w12 w13 : Int) (w14 : Bool) (w16 : LD) (k0 : Unit → Option R) (k1 : Bool × LD → Option R) : b1o N w2 w4 w11 w12 w13 w14 w16 k0 k1 = (a5J N w2 w4 w11 w12 w13 w14 w16).bind (a1a k0 k1) := by
 unfold a5J b1o
 repeat' (first | with_reducible apply a0d | (with_reducible apply a0l; intro _) | rfl)
def c4H (L : List Lf) (k0 : Unit → Option R) (k1 : Bool × LD → Option R) : Option R := b1o N (li L 2) (ll L 4) (li L 11) (li L 12) (li L 13) (lb L 14) (ll L 16) k0 k1
def b3G : Sh := { tmps := [(2, .c (.p 2 0)), (4, .c (.p 4 0)), (7, .c (.p 29 0)), (8, .c (.p 8 0))], mem := [(2, .box (.s :: [.i .i64, .i .i64, .sl 74, .sl 118, .sl 9])), (4, .box ([.sl 41])), (8, .box ([.i .i64, .i .i64, .i .i64])), (29, .box ([.o 50029000, .b])), (50029000, .row 41 true)] }
def b5o (L : List Lf) (_ : Unit) : Ex × St := (.normal, mg (a0x b3G L) [4, 7] [] [4, 29, 50029000] [])
def b5p (L : List Lf) (p : Bool × LD) : Ex × St := (.normal, mg (a0x b3G L) [4, 7] [] [4, 29, 117050000002] [(29, .box [.o 117050000002, .b (lb L 14)]), (117050000002, .row 41 true p.1 p.2)])
def d9F (L : List Lf) : List (Bool × (Ex × St)) := bnd (c4H N L (fun p => some (.inl p)) (fun p => some (.inr p))) fun q => [((a07 q), b5o L ()), ((a0I q).isSome, b5p L ((a0I q).getD default))]
theorem c7x (L : List Lf) : pc Try.prog (c0r N) (d46 N).h 0 100 29 76 b3G L [4, 7] [4, 29, 50029000, 117050000002] = c4H N L (fun _ => some (b5o L ())) (fun p => some (b5p L p)) := by kernel_rfl
def d47 : Sg Try.prog 0 29 :=
 (d46 N).cut (d9F N) a0b (a4j N) fun L x hx => (c7x N L).trans ((c2V N ..).trans ((a3w a0D) x hx))
def d9G (v0 : LB) (v1 v2 : Int) (v4 v6 v8 : LD) (v9 : Bool) (k0 : Bool × LD × Int → Option R) : Option R :=
 bnd (e3S N v0 v1 v2 v4 v6 v8) fun y0 =>
 bif y0.isSome then
  bif ((y0.getD default) != 0) then
   k0 (true, [], (y0.getD default))
  else
   bnd (d86 N v4) fun y1 =>
   bif y1.isSome then
    bnd (decide ((IntKind.wrap .i64 (v2 + (y1.getD default))) > 4294967294)) fun y2 =>
    bif y2 then
     k0 (true, [], 9)
    else
     bnd (e3Y N 0 0 false [(.a [(.i 253), (.i 4), (.i 0)]), (.a [(.i 1), (.i 60), (.i 2)]), (.a [(.i 2), (.i 1), (.i 0)])] v9) fun y3 =>
     bnd (a84 N v2 4 false v9) fun y4 =>
     bif y4.isSome then
      bnd (d4J N v0) fun y5 =>
      bnd (a84 N v1 1 false v9) fun y6 =>
      bif y6.isSome then
       bnd (c2N N 0 [(.l false (y4.getD default)), (.l false y5), (.l false (y6.getD default))] y3) fun y7 =>
       bif y7.isSome then
        bnd (b7M N (decide ((v8.length : Int) > 0)) v9 (y7.getD default)) fun y8 =>
        bif (a07 y8) then
         bnd (c4F N v8 (v8.length : Int) 0 false (a3p y8)) fun y9 =>
         bif y9.isSome then
          bnd (b1l N (decide ((v6.length : Int) > 0)) 253 4 0 v9 (y9.getD default).2) fun y10 =>
          bif (a07 y10) then
           bnd (b1m N v6 (v6.length : Int) v2 v9 0 false (a3p y10)) fun y11 =>
           bif y11.isSome then
            bnd (a5J N v2 v4 253 4 0 v9 (y11.getD default).2) fun y12 =>
            bif (a07 y12) then
             k0 ((y11.getD default).1, (y11.getD default).2, 0)
            else
             bif (a0I y12).isSome then
              k0 (((a0I y12).getD default).1, ((a0I y12).getD default).2, 0)
             else
              none
           else
            none
          else
           bif (a0I y10).isSome then
            bnd (b1m N v6 (v6.length : Int) v2 v9 0 (y9.getD default).1 (y9.getD default).2) fun y13 =>
            bif y13.isSome then
             bnd (a5J N v2 v4 253 4 0 v9 (y13.getD default).2) fun y14 =>
             bif (a07 y14) then
              k0 ((y13.getD default).1, (y13.getD default).2, 0)
             else
              bif (a0I y14).isSome then
               k0 (((a0I y14).getD default).1, ((a0I y14).getD default).2, 0)
              else
               none
            else
             none
           else
            none
         else
          none
        else
         bif (a0I y8).isSome then
          bnd (c4F N v8 (v8.length : Int) 0 false (y7.getD default)) fun y15 =>
          bif y15.isSome then
           bnd (b1l N (decide ((v6.length : Int) > 0)) 253 4 0 v9 (y15.getD default).2) fun y16 =>
           bif (a07 y16) then
            bnd (b1m N v6 (v6.length : Int) v2 v9 0 false (a3p y16)) fun y17 =>
            bif y17.isSome then
             bnd (a5J N v2 v4 253 4 0 v9 (y17.getD default).2) fun y18 =>
             bif (a07 y18) then
              k0 ((y17.getD default).1, (y17.getD default).2, 0)
             else
              bif (a0I y18).isSome then
               k0 (((a0I y18).getD default).1, ((a0I y18).getD default).2, 0)
              else
               none
            else
             none
           else
            bif (a0I y16).isSome then
             bnd (b1m N v6 (v6.length : Int) v2 v9 0 (y15.getD default).1 (y15.getD default).2) fun y19 =>
             bif y19.isSome then
              bnd (a5J N v2 v4 253 4 0 v9 (y19.getD default).2) fun y20 =>
              bif (a07 y20) then
               k0 ((y19.getD default).1, (y19.getD default).2, 0)
              else
               bif (a0I y20).isSome then
                k0 (((a0I y20).getD default).1, ((a0I y20).getD default).2, 0)
               else
                none
             else
              none
            else
             none
          else
           none
         else
          none
       else
        none
      else
       none
     else
      none
   else
    none
 else
  none
def e4e (v0 : LB) (v1 v2 : Int) (v4 v6 v8 : LD) (v9 : Bool) : Option (Bool × LD × Int) := d9G N v0 v1 v2 v4 v6 v8 v9 (fun p => some p)
theorem d9H (v0 : LB) (v1 v2 : Int) (v4 v6 v8 : LD) (v9 : Bool) (k0 : Bool × LD × Int → Option R) : d9G N v0 v1 v2 v4 v6 v8 v9 k0 = (e4e N v0 v1 v2 v4 v6 v8 v9).bind k0 := by
 unfold e4e d9G
 repeat' (first | with_reducible apply a0d | (with_reducible apply a0l; intro _) | rfl)
def f0t (L : List Lf) (k0 : Bool × LD × Int → Option R) : Option R := d9G N (ls L 0) (li L 1) (li L 2) (ll L 4) (ll L 6) (ll L 8) (lb L 9) k0
def d48 : Sh := { tmps := [(0, .g (.s :: [.i .i64, .i .i64, .sl 74, .sl 118, .sl 9])), (1, .c (.b))], mem := [] }
def f0u (L : List Lf) : List (Bool × Res) := bnd (f0t N L (fun p => some p)) fun q => [(q.isSome, ([.g [.sl 41 (q.getD default).1 (q.getD default).2.1], .c (.i .i64 (q.getD default).2.2)], []))]
theorem e4f (L : List Lf) : bd Try.prog (c0r N) (d47 N).h 29 d48 L = f0t N L (fun p => some ([.g [.sl 41 p.1 p.2.1], .c (.i .i64 p.2.2)], [])) := by kernel_rfl
theorem f0v : a0t Try.prog 29 d48 (f0u N) :=
 (d47 N).fn a0b (a4j N) fun L x hx => ((e4f N L).trans ((d9H N ..).trans (a0D x hx)))
def d9I : a0e := ext 29 (a1b d48 (f0u N)) (c0r N)
theorem b7R : a0c Try.prog (d9I N) := a0t.to (f0v N) (a4j N)
def f0w : List (Nat × List Nat) := [(0, [0]), (1, [1]), (2, [1, 3]), (3, [1, 3, 4]), (4, [11, 10, 9, 3, 4]), (5, [9, 11, 3, 4, 10]), (6, [3, 4, 6, 11, 10, 9]), (7, [11, 10, 9, 3, 4]), (8, [3])]
def f0x : a0r := [(12, [3, 4, 9, 10, 11], [3, 8000000002], [3])]
def d49 (N : Nat) : Sg Try.prog 0 59 := .start f0x f0w
def b7S (w1 : LD) (w2 : Int) (w3 : Int) (w4 : Bool) (w5 : LD) (w6 : D) (kr : Int → Bool → LD → D → Option R) (k0 : Bool × LD → Option R) : Option R :=
 bif (decide (w3 < w2)) then
  bif (inB w3 w1.length) then
   bnd (c1F N ((w1.getD w3.toNat (.i 0)).cell 0).toI ((w1.getD w3.toNat (.i 0)).cell 1).toI ((w1.getD w3.toNat (.i 0)).cell 2).toI ((w1.getD w3.toNat (.i 0)).cell 3).items ((w1.getD w3.toNat (.i 0)).cell 4).items w6) fun y0 =>
   bif y0.isSome then
    bif (decide ((w5.length + 1) * 8 ≤ a1j) && decide ((w5.length + 1) ≤ a0i)) then
     kr (IntKind.wrap .i64 (w3 + 1)) false (w5 ++ [(.i (y0.getD default).1)]) (y0.getD default).2
    else
     none
   else
    none
  else
   none
 else
  k0 (w4, w5)
def b7T (N : Nat) {R : Type} (w1 : LD) (w2 : Int) : Nat → Int → Bool → LD → D → (Bool × LD → Option R) → Option R
 | 0, _, _, _, _, _ => none
 | m + 1, w3, w4, w5, w6, k0 => b7S N w1 w2 w3 w4 w5 w6 (fun w3 w4 w5 w6 => b7T N w1 w2 m w3 w4 w5 w6 k0) k0
def d9J (w1 : LD) (w2 : Int) (w3 : Int) (w4 : Bool) (w5 : LD) (w6 : D) : Option (Bool × LD) := b7T N (R := (Bool × LD)) w1 w2 N w3 w4 w5 w6 (fun p => some p)
def a8o (L x : List Lf) (kr : List Lf → Option R) (k0 : Bool × LD → Option R) : Option R := b7S N (ll L 1) (li L 2) (li x 0) (lb x 1) (ll x 2) (ld x 3) (fun w3 w4 w5 w6 => kr [.i w3, .b w4, .l w5, .d w6]) k0
theorem c0u (L x : List Lf) (kr : List Lf → Option R) (k0 : Bool × LD → Option R) : a8o N L x kr k0 = (a8o N L x (fun y => some (.inl y)) (fun p => some (.inr p))).bind (a1a kr k0) := by
 unfold a8o b7S
 repeat' (first | with_reducible apply a0d | (with_reducible apply a0l; intro _) | rfl)
def b1p (L : List Lf) (m : Nat) (x : List Lf) : Option (Bool × LD) := b7T N (R := (Bool × LD)) (ll L 1) (li L 2) m (li x 0) (lb x 1) (ll x 2) (ld x 3) (fun p => some p)
def a8p : Sh := { tmps := [(3, .c (.o 3)), (4, .c (.p 8000000002 0)), (9, .c (.sl 41)), (10, .c (.i .i64)), (11, .c (.i .i64))], mem := [(3, .row 3 true), (8000000002, .dat 93)] }
def d9K (L : List Lf) : List (Bool × (Ex × St)) := bnd (b1p N L N (pk a8p [3, 4, 5, 6] L)) fun q => [(q.isSome, ((.exit 0), ⟨[(3, .c (.o 3))], [(3, .row 3 true (q.getD default).1 (q.getD default).2)]⟩))]
theorem c2W (m : Nat) (kn : St → Option (Ex × St)) (L x : List Lf) : lpB Try.prog (d9I N) (d49 N).h 0 59 12 a8p [3, 4, 5, 6] [2, 3] [3] (m + 100) kn L x = a8o N L x (fun y => kn (a0x a8p (mx a8p [3, 4, 5, 6] L y))) (fun p => some ((.exit 0), ⟨[(3, .c (.o 3))], [(3, .row 3 true p.1 p.2)]⟩)) := by kernel_rfl
theorem d5a (L : List Lf) (m : Nat) (x : List Lf) : b1p N L (m + 1) x = a8o N L x (b1p N L m) some := by kernel_rfl
def d5b : Sg Try.prog 0 59 :=
 (d49 N).lp (d9K N) N a0b (b7R N) (fun m kn L x => (c2W N m kn L x).trans (c0u N L x _ _)) (fun L m x => (d5a N L m x).trans (c0u N L x (b1p N L m) some)) fun L x hx => a0D x hx
def d5c (v1 : LD) (k0 : Bool × LD → Option R) : Option R :=
 bnd (a9T N) fun y0 =>
 bnd (d9J N v1 (v1.length : Int) 0 true [] y0) fun y1 =>
 bif y1.isSome then
  k0 (y1.getD default)
 else
  none
def e4g (v1 : LD) : Option (Bool × LD) := d5c N v1 (fun p => some p)
theorem d9L (v1 : LD) (k0 : Bool × LD → Option R) : d5c N v1 k0 = (e4g N v1).bind k0 := by
 unfold e4g d5c
 repeat' (first | with_reducible apply a0d | (with_reducible apply a0l; intro _) | rfl)
def d5d : Sh := { tmps := [(0, .g ([.sl 41]))], mem := [] }
def f0y (L : List Lf) : List (Bool × Res) := bnd (d5c N (ll L 1) (fun p => some p)) fun q => [(q.isSome, ([.c (.sl 3 (q.getD default).1 (q.getD default).2)], []))]
theorem e4h (L : List Lf) : bd Try.prog (d9I N) (d5b N).h 59 d5d L = d5c N (ll L 1) (fun p => some ([.c (.sl 3 p.1 p.2)], [])) := by kernel_rfl
theorem f0z : a0t Try.prog 59 d5d (f0y N) :=
 (d5b N).fn a0b (b7R N) fun L x hx => ((e4h N L).trans ((d9L N ..).trans (a0D x hx)))
def e4i : a0e := ext 59 (a1b d5d (f0y N)) (d9I N)
theorem c4I : a0c Try.prog (e4i N) := a0t.to (f0z N) (b7R N)
def f0A : List (Nat × List Nat) := [(0, [0]), (1, [1]), (2, [4, 1]), (3, [4]), (4, [1])]
def f0B : a0r := []
def d5e (N : Nat) : Sg Try.prog 0 30 := .start f0B f0A
def d5f (v1 : LD) (k0 : Bool × LD × Int → Option R) : Option R :=
 bnd (b6k N v1) fun y0 =>
 bif y0.isSome then
  bif ((y0.getD default) != 0) then
   k0 (true, [], (y0.getD default))
  else
   bnd (e4g N v1) fun y1 =>
   bif y1.isSome then
    k0 ((y1.getD default).1, (y1.getD default).2, 0)
   else
    none
 else
  none
def e4j (v1 : LD) : Option (Bool × LD × Int) := d5f N v1 (fun p => some p)
theorem d9M (v1 : LD) (k0 : Bool × LD × Int → Option R) : d5f N v1 k0 = (e4j N v1).bind k0 := by
 unfold e4j d5f
 repeat' (first | with_reducible apply a0d | (with_reducible apply a0l; intro _) | rfl)
def d5g : Sh := { tmps := [(0, .g ([.sl 41]))], mem := [] }
def f0C (L : List Lf) : List (Bool × Res) := bnd (d5f N (ll L 1) (fun p => some p)) fun q => [(q.isSome, ([.c (.sl 3 (q.getD default).1 (q.getD default).2.1), .c (.i .i64 (q.getD default).2.2)], []))]
theorem e4k (L : List Lf) : bd Try.prog (e4i N) (d5e N).h 30 d5g L = d5f N (ll L 1) (fun p => some ([.c (.sl 3 p.1 p.2.1), .c (.i .i64 p.2.2)], [])) := by kernel_rfl
theorem f0D : a0t Try.prog 30 d5g (f0C N) :=
 (d5e N).fn a0b (c4I N) fun L x hx => ((e4k N L).trans ((d9M N ..).trans (a0D x hx)))
def d9N : a0e := ext 30 (a1b d5g (f0C N)) (e4i N)
theorem b7U : a0c Try.prog (d9N N) := a0t.to (f0D N) (c4I N)
def f0E : List (Nat × List Nat) := [(0, [0, 1]), (1, [0, 1]), (2, []), (3, [0, 1]), (4, [13, 12, 0, 1]), (5, [13, 0, 1, 12]), (6, [0, 5, 1, 13, 12]), (7, []), (8, [13, 12, 0, 1]), (9, [])]
def f0F : a0r := [(12, [0, 1, 12, 13], [], [])]
def d5h (N : Nat) : Sg Try.prog 0 31 := .start f0F f0E
def b7V (N : Nat) (w1 w3 : LD) (w4 : Int) (w5 : Int) (kr : Int → Option R) (k0 : Unit → Option R) (k1 : Unit → Option R) : Option R :=
 bif (decide (w5 < w4)) then
  bif (inB w5 w1.length) then
   bif (inB w5 w3.length) then
    bnd ((w1.getD w5.toNat (.i 0)).toI != (w3.getD w5.toNat (.i 0)).toI) fun y0 =>
    bif y0 then
     k0 ()
    else
     kr (IntKind.wrap .i64 (w5 + 1))
   else
    none
  else
   none
 else
  k1 ()
def b7W (N : Nat) {R : Type} (w1 w3 : LD) (w4 : Int) : Nat → Int → (Unit → Option R) → (Unit → Option R) → Option R
 | 0, _, _, _ => none
 | m + 1, w5, k0, k1 => b7V N w1 w3 w4 w5 (fun w5 => b7W N w1 w3 w4 m w5 k0 k1) k0 k1
def d9O (w1 w3 : LD) (w4 : Int) (w5 : Int) : Option (Sum (Unit) (Unit)) := b7W N (R := (Sum (Unit) (Unit))) w1 w3 w4 N w5 (fun p => some (.inl p)) (fun p => some (.inr p))
def a8q (L x : List Lf) (kr : List Lf → Option R) (k0 : Unit → Option R) (k1 : Unit → Option R) : Option R := b7V N (ll L 1) (ll L 3) (li L 4) (li x 0) (fun w5 => kr [.i w5]) k0 k1
theorem c0v (L x : List Lf) (kr : List Lf → Option R) (k0 : Unit → Option R) (k1 : Unit → Option R) : a8q N L x kr k0 k1 = (a8q N L x (fun y => some (.inl y)) (fun p => some (.inr (.inl p))) (fun p => some (.inr (.inr p)))).bind (a1a kr (a1a k0 k1)) := by
 unfold a8q b7V
 repeat' (first | with_reducible apply a0d | (with_reducible apply a0l; intro _) | rfl)
def b1q (L : List Lf) (m : Nat) (x : List Lf) : Option (Sum (Unit) (Unit)) := b7W N (R := (Sum (Unit) (Unit))) (ll L 1) (ll L 3) (li L 4) m (li x 0) (fun p => some (.inl p)) (fun p => some (.inr p))
def a8r : Sh := { tmps := [(0, .c (.sl 3)), (1, .c (.sl 3)), (12, .c (.i .i64)), (13, .c (.i .i64))], mem := [] }
def d9P (L : List Lf) : List (Bool × (Ex × St)) := bnd (b1q N L N (pk a8r [5] L)) fun q => [((a07 q), (.ret, ⟨[(4, .c (.b false))], []⟩)), ((a0I q).isSome, ((.exit 0), ⟨[], []⟩))]
theorem c2X (m : Nat) (kn : St → Option (Ex × St)) (L x : List Lf) : lpB Try.prog (d9N N) (d5h N).h 0 31 12 a8r [5] [4] [] (m + 100) kn L x = a8q N L x (fun y => kn (a0x a8r (mx a8r [5] L y))) (fun _ => some (.ret, ⟨[(4, .c (.b false))], []⟩)) (fun _ => some ((.exit 0), ⟨[], []⟩)) := by kernel_rfl
theorem d5i (L : List Lf) (m : Nat) (x : List Lf) : b1q N L (m + 1) x = a8q N L x (b1q N L m) (fun p => some (.inl p)) (fun p => some (.inr p)) := by kernel_rfl
def d5j : Sg Try.prog 0 31 :=
 (d5h N).lp (d9P N) N a0b (b7U N) (fun m kn L x => (c2X N m kn L x).trans (c0v N L x _ _ _)) (fun L m x => (d5i N L m x).trans (c0v N L x (b1q N L m) (fun p => some (.inl p)) (fun p => some (.inr p)))) fun L x hx => (a3w a0D) x hx
def d5k (v1 v3 : LD) (k0 : Bool → Option R) : Option R :=
 bif ((v1.length : Int) != (v3.length : Int)) then
  k0 false
 else
  bnd (d9O N v1 v3 (v1.length : Int) 0) fun y0 =>
  bif (a07 y0) then
   k0 false
  else
   bif (a0I y0).isSome then
    k0 true
   else
    none
def e4l (v1 v3 : LD) : Option (Bool) := d5k N v1 v3 (fun p => some p)
theorem d9Q (v1 v3 : LD) (k0 : Bool → Option R) : d5k N v1 v3 k0 = (e4l N v1 v3).bind k0 := by
 unfold e4l d5k
 repeat' (first | with_reducible apply a0d | (with_reducible apply a0l; intro _) | rfl)
def d5l : Sh := { tmps := [(0, .c (.sl 3)), (1, .c (.sl 3))], mem := [] }
def f0G (L : List Lf) : List (Bool × Res) := bnd (d5k N (ll L 1) (ll L 3) (fun p => some p)) fun q => [(q.isSome, ([.c (.b (q.getD default))], []))]
theorem e4m (L : List Lf) : bd Try.prog (d9N N) (d5j N).h 31 d5l L = d5k N (ll L 1) (ll L 3) (fun p => some ([.c (.b p)], [])) := by kernel_rfl
theorem f0H : a0t Try.prog 31 d5l (f0G N) :=
 (d5j N).fn a0b (b7U N) fun L x hx => ((e4m N L).trans ((d9Q N ..).trans (a0D x hx)))
def d9R : a0e := ext 31 (a1b d5l (f0G N)) (d9N N)
theorem b7X : a0c Try.prog (d9R N) := a0t.to (f0H N) (b7U N)
def f0I : List (Nat × List Nat) := [(0, []), (1, []), (2, [1]), (3, [2, 3]), (4, [3, 5, 4])]
def f0J : a0r := [(13, [3, 4, 5], [], [])]
def d5m (N : Nat) : Sg Try.prog 0 11 := .start f0J f0I
def a8s (w0 : Int) (w2 : LD) (w3 : Int) (k0 : Bool → Option R) : Option R :=
 bif (bif (w0 == 0) then (w3 == 0) else false) then
  bnd (e4l N w2 [(.i (-1)), (.i 100), (.i (-1)), (.i 100), (.i 105)]) fun y0 =>
  bif y0.isSome then
   k0 (y0.getD default)
  else
   none
 else
  k0 false
def b7Y (w0 : Int) (w2 : LD) (w3 : Int) : Option (Bool) := a8s N w0 w2 w3 (fun p => some p)
theorem c2Y (w0 : Int) (w2 : LD) (w3 : Int) (k0 : Bool → Option R) : a8s N w0 w2 w3 k0 = (b7Y N w0 w2 w3).bind k0 := by
 unfold b7Y a8s
 repeat' (first | with_reducible apply a0d | (with_reducible apply a0l; intro _) | rfl)
def d5n : Sh := { tmps := [(3, .c (.i .i64)), (4, .c (.sl 3)), (5, .c (.i .i64))], mem := [] }
def d9S (L : List Lf) : List (Bool × (Ex × St)) := bnd (a8s N (li L 0) (ll L 2) (li L 3) (fun p => some p)) fun q => [(q.isSome, (.normal, ⟨[(0, .c (.b (q.getD default)))], []⟩))]
theorem c7y (L : List Lf) : pc Try.prog (d9R N) (d5m N).h 0 100 11 13 d5n L [0] [] = a8s N (li L 0) (ll L 2) (li L 3) (fun p => some (.normal, ⟨[(0, .c (.b p))], []⟩)) := by kernel_rfl
def d5o : Sg Try.prog 0 11 :=
 (d5m N).cut (d9S N) a0b (b7X N) fun L x hx => (c7y N L).trans ((c2Y N ..).trans (a0D x hx))
def d5p (k0 : Bool → Option R) : Option R :=
 bnd (e4e N ([109] : List UInt8) 1 100 [(.a [(.i 0), (.i 0), (.i 0), (.i 0), (.i (-1)), (.i (-1)), (.i (-1))]), (.a [(.i 5), (.i 4), (.i 0), (.i 0), (.i 120), (.i (-1)), (.i (-1))])] [] [] false) fun y0 =>
 bif y0.isSome then
  bnd (e4j N (y0.getD default).2.1) fun y1 =>
  bif y1.isSome then
   bnd (b7Y N (y0.getD default).2.2 (y1.getD default).2.1 (y1.getD default).2.2) fun y2 =>
   bif y2.isSome then
    k0 (y2.getD default)
   else
    none
  else
   none
 else
  none
def d25 : Option (Bool) := d5p N (fun p => some p)
theorem d9T (k0 : Bool → Option R) : d5p N k0 = (d25 N).bind k0 := by
 unfold d25 d5p
 repeat' (first | with_reducible apply a0d | (with_reducible apply a0l; intro _) | rfl)
def d5q : Sh := { tmps := [], mem := [] }
def f0K (L : List Lf) : List (Bool × Res) := bnd (d5p N (fun p => some p)) fun q => [(q.isSome, ([.c (.b (q.getD default))], []))]
theorem e4n (L : List Lf) : bd Try.prog (d9R N) (d5o N).h 11 d5q L = d5p N (fun p => some ([.c (.b p)], [])) := by kernel_rfl
theorem f0L : a0t Try.prog 11 d5q (f0K N) :=
 (d5o N).fn a0b (b7X N) fun L x hx => ((e4n N L).trans ((d9T N ..).trans (a0D x hx)))
def c0w : a0e := ext 11 (a1b d5q (f0K N)) (d9R N)
theorem a4k : a0c Try.prog (c0w N) := a0t.to (f0L N) (b7X N)
def f18 : List (Nat × List Nat) := [(0, [0, 2, 1]), (1, [3, 1, 5]), (2, [8, 3, 1, 5, 7]), (3, [3, 1, 5, 8]), (4, [8, 10]), (5, [7, 3, 1, 5]), (6, []), (7, [3, 1, 7, 5]), (8, [48, 47, 1, 3, 7, 5]), (9, [48, 1, 3, 7, 47, 5]), (10, [11, 1, 3, 7, 48, 47, 5]), (11, []), (12, [48, 47, 1, 3, 7, 5]), (13, [3, 1, 7, 5]), (14, [7, 1, 8, 12, 5]), (15, [8, 14, 12, 13, 5]), (16, []), (17, [12, 5, 13]), (18, [96, 95, 12, 5, 13]), (19, [96, 12, 5, 13, 95]), (20, [12, 15, 5, 13, 96, 95]), (21, []), (22, [96, 95, 12, 5, 13]), (23, [])]
def f19 : a0r := [(13, [8, 10], [], []), (24, [1, 3, 5, 7, 47, 48], [3, 5, 7], []), (31, [1, 3, 5, 7, 11, 47, 48], [3, 5, 7], []), (54, [5, 12, 13, 95, 96], [5], []), (61, [5, 12, 13, 15, 95, 96], [5], [])]
def e0u (N : Nat) : Sg Try.prog 0 4 := .start f19 f18
def a83 (w0 w1 : Int) (k0 : Bool → Option R) : Option R :=
 bif (w0 == w1) then
  bnd (d25 N) fun y0 =>
  bif y0.isSome then
   k0 (y0.getD default)
  else
   none
 else
  k0 false
def b3t (w0 w1 : Int) : Option (Bool) := a83 N w0 w1 (fun p => some p)
theorem c7z (w0 w1 : Int) (k0 : Bool → Option R) : a83 N w0 w1 k0 = (b3t N w0 w1).bind k0 := by
 unfold b3t a83
 repeat' (first | with_reducible apply a0d | (with_reducible apply a0l; intro _) | rfl)
def d9U : Sh := { tmps := [(8, .c (.i .i64)), (10, .c (.i .i64))], mem := [] }
def e4o (L : List Lf) : List (Bool × (Ex × St)) := bnd (a83 N (li L 0) (li L 1) (fun p => some p)) fun q => [(q.isSome, (.normal, ⟨[(6, .c (.b (q.getD default)))], []⟩))]
theorem d5r (L : List Lf) : pc Try.prog (c0w N) (e0u N).h 0 100 4 13 d9U L [6] [] = a83 N (li L 0) (li L 1) (fun p => some (.normal, ⟨[(6, .c (.b p))], []⟩)) := by kernel_rfl
def e0v : Sg Try.prog 0 4 :=
 (e0u N).cut (e4o N) a0b (a4k N) fun L x hx => (d5r N L).trans ((c7z N ..).trans (a0D x hx))
def b3p (w0 w1 : Int) (w5 w12 : LD) (k0 : Bool → Option R) : Option R :=
 bif (w1 != w0) then
  bif (inB w1 w5.length) then
   bif (inB w1 w12.length) then
    bnd (c2k N ((w5.getD w1.toNat (.i 0)).cell 0).toI ((w5.getD w1.toNat (.i 0)).cell 1).toI ((w5.getD w1.toNat (.i 0)).cell 2).toI ((w5.getD w1.toNat (.i 0)).cell 3).items ((w5.getD w1.toNat (.i 0)).cell 4).items ((w12.getD w1.toNat (.i 0)).cell 0).toI ((w12.getD w1.toNat (.i 0)).cell 1).toI ((w12.getD w1.toNat (.i 0)).cell 2).toI ((w12.getD w1.toNat (.i 0)).cell 3).items ((w12.getD w1.toNat (.i 0)).cell 4).items) fun y0 =>
    bif y0.isSome then
     k0 (!(y0.getD default))
    else
     none
   else
    none
  else
   none
 else
  k0 false
def b3o (w0 w1 : Int) (w5 w12 : LD) : Option (Bool) := b3p N w0 w1 w5 w12 (fun p => some p)
theorem c7A (w0 w1 : Int) (w5 w12 : LD) (k0 : Bool → Option R) : b3p N w0 w1 w5 w12 k0 = (b3o N w0 w1 w5 w12).bind k0 := by
 unfold b3o b3p
 repeat' (first | with_reducible apply a0d | (with_reducible apply a0l; intro _) | rfl)
def d5s (L : List Lf) (k0 : Bool → Option R) : Option R := b3p N (li L 0) (li L 1) (ll L 5) (ll L 12) k0
def c4J : Sh := { tmps := [(1, .c (.i .i64)), (3, .c (.p 3 0)), (5, .c (.p 5 0)), (7, .c (.p 7 0)), (11, .c (.i .i64)), (47, .c (.i .i64)), (48, .c (.i .i64))], mem := [(3, .box ([.sl 41])), (5, .box ([.i .i64, .i .i64, .i .i64, .s, .b])), (7, .box ([.sl 41]))] }
def c0x (L : List Lf) (p : Bool) : Ex × St := (.normal, mg (a0x c4J L) [1, 3, 5, 7, 47, 48, 67] [(67, .c (.b p))] [3, 5, 7] [])
def e4p (L : List Lf) : List (Bool × (Ex × St)) := bnd (d5s N L (fun p => some p)) fun q => [(q.isSome, c0x L (q.getD default))]
theorem d5t (L : List Lf) : pc Try.prog (c0w N) (e0v N).h 0 100 4 31 c4J L [1, 3, 5, 7, 47, 48, 67] [3, 5, 7] = d5s N L (fun p => some (c0x L p)) := by kernel_rfl
def e0w : Sg Try.prog 0 4 :=
 (e0v N).cut (e4p N) a0b (a4k N) fun L x hx => (d5t N L).trans ((c7A N ..).trans (a0D x hx))
def b7b (w0 w1 : Int) (w4 w11 : LD) (w2 : Int) (kr : Int → Option R) (k0 : Unit → Option R) (k1 : Unit → Option R) : Option R :=
 bif (decide (w2 < w1)) then
  bnd (b3o N w0 w2 w4 w11) fun y0 =>
  bif y0.isSome then
   bif (y0.getD default) then
    k0 ()
   else
    kr (IntKind.wrap .i64 (w2 + 1))
  else
   none
 else
  k1 ()
def b3n (N : Nat) {R : Type} (w0 w1 : Int) (w4 w11 : LD) : Nat → Int → (Unit → Option R) → (Unit → Option R) → Option R
 | 0, _, _, _ => none
 | m + 1, w2, k0, k1 => b7b N w0 w1 w4 w11 w2 (fun w2 => b3n N w0 w1 w4 w11 m w2 k0 k1) k0 k1
def d3f (w0 w1 : Int) (w4 w11 : LD) (w2 : Int) : Option (Sum (Unit) (Unit)) := b3n N (R := (Sum (Unit) (Unit))) w0 w1 w4 w11 N w2 (fun p => some (.inl p)) (fun p => some (.inr p))
def b3H (L x : List Lf) (kr : List Lf → Option R) (k0 : Unit → Option R) (k1 : Unit → Option R) : Option R := b7b N (li L 0) (li L 1) (ll L 4) (ll L 11) (li x 0) (fun w2 => kr [.i w2]) k0 k1
theorem c4K (L x : List Lf) (kr : List Lf → Option R) (k0 : Unit → Option R) (k1 : Unit → Option R) : b3H N L x kr k0 k1 = (b3H N L x (fun y => some (.inl y)) (fun p => some (.inr (.inl p))) (fun p => some (.inr (.inr p)))).bind (a1a kr (a1a k0 k1)) := by
 unfold b3H b7b
 repeat' (first | with_reducible apply a0d | (with_reducible apply a0l; intro _) | rfl)
def b7Z (L : List Lf) (m : Nat) (x : List Lf) : Option (Sum (Unit) (Unit)) := b3n N (R := (Sum (Unit) (Unit))) (li L 0) (li L 1) (ll L 4) (ll L 11) m (li x 0) (fun p => some (.inl p)) (fun p => some (.inr p))
def a5K : Sh := { tmps := [(1, .c (.i .i64)), (3, .c (.p 3 0)), (5, .c (.p 5 0)), (7, .c (.p 7 0)), (47, .c (.i .i64)), (48, .c (.i .i64))], mem := [(3, .box ([.sl 41])), (5, .box ([.i .i64, .i .i64, .i .i64, .s, .b])), (7, .box ([.sl 41]))] }
def c0y (L : List Lf) (_ : Unit) : Ex × St := (.ret, mg (a0x a5K L) [6] [(6, .c (.b false))] [3, 5, 7] [])
def c0z (L : List Lf) (_ : Unit) : Ex × St := ((.exit 0), mg (a0x a5K L) [1, 3, 5, 7] [] [3, 5, 7] [])
def e4q (L : List Lf) : List (Bool × (Ex × St)) := bnd (b7Z N L N (pk a5K [2] L)) fun q => [((a07 q), c0y L ()), ((a0I q).isSome, c0z L ())]
theorem c7B (m : Nat) (kn : St → Option (Ex × St)) (L x : List Lf) : lpB Try.prog (c0w N) (e0w N).h 0 4 24 a5K [2] [1, 3, 5, 6, 7] [3, 5, 7] (m + 100) kn L x = b3H N L x (fun y => kn (a0x a5K (mx a5K [2] L y))) (fun _ => some (c0y L ())) (fun _ => some (c0z L ())) := by kernel_rfl
theorem d9V (L : List Lf) (m : Nat) (x : List Lf) : b7Z N L (m + 1) x = b3H N L x (b7Z N L m) (fun p => some (.inl p)) (fun p => some (.inr p)) := by kernel_rfl
def e0x : Sg Try.prog 0 4 :=
 (e0w N).lp (e4q N) N a0b (a4k N) (fun m kn L x => (c7B N m kn L x).trans (c4K N L x _ _ _)) (fun L m x => (d9V N L m x).trans (c4K N L x (b7Z N L m) (fun p => some (.inl p)) (fun p => some (.inr p)))) fun L x hx => (a3w a0D) x hx
def b3s (N : Nat) (w1 w3 : LD) (w4 w7 w8 w9 : Int) (w10 : LB) (w11 : Bool) (k0 : Bool → Option R) : Option R :=
 bif (inB w4 w1.length) then
  bif (((w1.getD w4.toNat (.i 0)).cell 0).toI == w7) then
   bif (inB w4 w3.length) then
    bnd (!((((w3.getD w4.toNat (.i 0)).cell 0).toI == w7) && ((((w3.getD w4.toNat (.i 0)).cell 1).toI == w8) && ((((w3.getD w4.toNat (.i 0)).cell 2).toI == w9) && ((((w3.getD w4.toNat (.i 0)).cell 3).toS == w10) && ((((w3.getD w4.toNat (.i 0)).cell 4).toB == w11) && true)))))) fun y0 =>
    bif y0 then
     k0 true
    else
     bif (inB w4 w1.length) then
      bif (((w1.getD w4.toNat (.i 0)).cell 0).toI != w7) then
       bif (inB w4 w1.length) then
        bif (inB w4 w3.length) then
         bnd (!((((w1.getD w4.toNat (.i 0)).cell 0).toI == ((w3.getD w4.toNat (.i 0)).cell 0).toI) && ((((w1.getD w4.toNat (.i 0)).cell 1).toI == ((w3.getD w4.toNat (.i 0)).cell 1).toI) && ((((w1.getD w4.toNat (.i 0)).cell 2).toI == ((w3.getD w4.toNat (.i 0)).cell 2).toI) && ((((w1.getD w4.toNat (.i 0)).cell 3).toS == ((w3.getD w4.toNat (.i 0)).cell 3).toS) && ((((w1.getD w4.toNat (.i 0)).cell 4).toB == ((w3.getD w4.toNat (.i 0)).cell 4).toB) && true)))))) fun y1 =>
         k0 y1
        else
         none
       else
        none
      else
       k0 false
     else
      none
   else
    none
  else
   bif (inB w4 w1.length) then
    bif (((w1.getD w4.toNat (.i 0)).cell 0).toI != w7) then
     bif (inB w4 w1.length) then
      bif (inB w4 w3.length) then
       bnd (!((((w1.getD w4.toNat (.i 0)).cell 0).toI == ((w3.getD w4.toNat (.i 0)).cell 0).toI) && ((((w1.getD w4.toNat (.i 0)).cell 1).toI == ((w3.getD w4.toNat (.i 0)).cell 1).toI) && ((((w1.getD w4.toNat (.i 0)).cell 2).toI == ((w3.getD w4.toNat (.i 0)).cell 2).toI) && ((((w1.getD w4.toNat (.i 0)).cell 3).toS == ((w3.getD w4.toNat (.i 0)).cell 3).toS) && ((((w1.getD w4.toNat (.i 0)).cell 4).toB == ((w3.getD w4.toNat (.i 0)).cell 4).toB) && true)))))) fun y1 =>
       k0 y1
      else
       none
     else
      none
    else
     k0 false
   else
    none
 else
  none
def b3r (w1 w3 : LD) (w4 w7 w8 w9 : Int) (w10 : LB) (w11 : Bool) : Option (Bool) := b3s N w1 w3 w4 w7 w8 w9 w10 w11 (fun p => some p)
theorem c7C (w1 w3 : LD) (w4 w7 w8 w9 : Int) (w10 : LB) (w11 : Bool) (k0 : Bool → Option R) : b3s N w1 w3 w4 w7 w8 w9 w10 w11 k0 = (b3r N w1 w3 w4 w7 w8 w9 w10 w11).bind k0 := by
 unfold b3r b3s
 repeat' (first | with_reducible apply a0d | (with_reducible apply a0l; intro _) | rfl)
def d5u (L : List Lf) (k0 : Bool → Option R) : Option R := b3s N (ll L 1) (ll L 3) (li L 4) (li L 7) (li L 8) (li L 9) (ls L 10) (lb L 11) k0
def c4L : Sh := { tmps := [(5, .c (.p 5 0)), (12, .c (.sl 26)), (13, .c (.sl 26)), (15, .c (.i .i64)), (95, .c (.i .i64)), (96, .c (.i .i64))], mem := [(5, .box ([.i .i64, .i .i64, .i .i64, .s, .b]))] }
def c0A (L : List Lf) (p : Bool) : Ex × St := (.normal, mg (a0x c4L L) [5, 12, 13, 95, 96, 135] [(135, .c (.b p))] [5] [])
def e4r (L : List Lf) : List (Bool × (Ex × St)) := bnd (d5u N L (fun p => some p)) fun q => [(q.isSome, c0A L (q.getD default))]
theorem d5v (L : List Lf) : pc Try.prog (c0w N) (e0x N).h 0 100 4 61 c4L L [5, 12, 13, 95, 96, 135] [5] = d5u N L (fun p => some (c0A L p)) := by kernel_rfl
def e0y : Sg Try.prog 0 4 :=
 (e0x N).cut (e4r N) a0b (a4k N) fun L x hx => (d5v N L).trans ((c7C N ..).trans (a0D x hx))
def b7c (w1 w3 : LD) (w4 w6 w7 w8 : Int) (w9 : LB) (w10 : Bool) (w5 : Int) (kr : Int → Option R) (k0 : Unit → Option R) (k1 : Unit → Option R) : Option R :=
 bif (decide (w5 < w4)) then
  bnd (b3r N w1 w3 w5 w6 w7 w8 w9 w10) fun y0 =>
  bif y0.isSome then
   bif (y0.getD default) then
    k0 ()
   else
    kr (IntKind.wrap .i64 (w5 + 1))
  else
   none
 else
  k1 ()
def b3q (N : Nat) {R : Type} (w1 w3 : LD) (w4 w6 w7 w8 : Int) (w9 : LB) (w10 : Bool) : Nat → Int → (Unit → Option R) → (Unit → Option R) → Option R
 | 0, _, _, _ => none
 | m + 1, w5, k0, k1 => b7c N w1 w3 w4 w6 w7 w8 w9 w10 w5 (fun w5 => b3q N w1 w3 w4 w6 w7 w8 w9 w10 m w5 k0 k1) k0 k1
def d3g (w1 w3 : LD) (w4 w6 w7 w8 : Int) (w9 : LB) (w10 : Bool) (w5 : Int) : Option (Sum (Unit) (Unit)) := b3q N (R := (Sum (Unit) (Unit))) w1 w3 w4 w6 w7 w8 w9 w10 N w5 (fun p => some (.inl p)) (fun p => some (.inr p))
def b3I (L x : List Lf) (kr : List Lf → Option R) (k0 : Unit → Option R) (k1 : Unit → Option R) : Option R := b7c N (ll L 1) (ll L 3) (li L 4) (li L 6) (li L 7) (li L 8) (ls L 9) (lb L 10) (li x 0) (fun w5 => kr [.i w5]) k0 k1
theorem c4M (L x : List Lf) (kr : List Lf → Option R) (k0 : Unit → Option R) (k1 : Unit → Option R) : b3I N L x kr k0 k1 = (b3I N L x (fun y => some (.inl y)) (fun p => some (.inr (.inl p))) (fun p => some (.inr (.inr p)))).bind (a1a kr (a1a k0 k1)) := by
 unfold b3I b7c
 repeat' (first | with_reducible apply a0d | (with_reducible apply a0l; intro _) | rfl)
def b70 (L : List Lf) (m : Nat) (x : List Lf) : Option (Sum (Unit) (Unit)) := b3q N (R := (Sum (Unit) (Unit))) (ll L 1) (ll L 3) (li L 4) (li L 6) (li L 7) (li L 8) (ls L 9) (lb L 10) m (li x 0) (fun p => some (.inl p)) (fun p => some (.inr p))
def b1r : Sh := { tmps := [(5, .c (.p 5 0)), (12, .c (.sl 26)), (13, .c (.sl 26)), (95, .c (.i .i64)), (96, .c (.i .i64))], mem := [(5, .box ([.i .i64, .i .i64, .i .i64, .s, .b]))] }
def e4s (L : List Lf) : List (Bool × (Ex × St)) := bnd (b70 N L N (pk b1r [5] L)) fun q => [((a07 q), (.ret, ⟨[(6, .c (.b false))], []⟩)), ((a0I q).isSome, ((.exit 2), ⟨[], []⟩))]
theorem c7D (m : Nat) (kn : St → Option (Ex × St)) (L x : List Lf) : lpB Try.prog (c0w N) (e0y N).h 0 4 54 b1r [5] [6] [] (m + 100) kn L x = b3I N L x (fun y => kn (a0x b1r (mx b1r [5] L y))) (fun _ => some (.ret, ⟨[(6, .c (.b false))], []⟩)) (fun _ => some ((.exit 2), ⟨[], []⟩)) := by kernel_rfl
theorem d9W (L : List Lf) (m : Nat) (x : List Lf) : b70 N L (m + 1) x = b3I N L x (b70 N L m) (fun p => some (.inl p)) (fun p => some (.inr p)) := by kernel_rfl
def e0z : Sg Try.prog 0 4 :=
 (e0y N).lp (e4s N) N a0b (a4k N) (fun m kn L x => (c7D N m kn L x).trans (c4M N L x _ _ _)) (fun L m x => (d9W N L m x).trans (c4M N L x (b70 N L m) (fun p => some (.inl p)) (fun p => some (.inr p)))) fun L x hx => (a3w a0D) x hx
def e8B (v1 : LD) (v2 v3 v4 v5 : Int) (v6 : LB) (v7 : Bool) (k0 : Bool → Option R) : Option R :=
 bif (d2w N v1 v2 v3 v4 v5 v6 v7).isSome then
  bif (((d2w N v1 v2 v3 v4 v5 v6 v7).getD default).2.2 != 0) then
   bnd (e8t N v1 v2 v3 v4 v5 v6 v7) fun y0 =>
   bif y0.isSome then
    bnd (b3t N ((d2w N v1 v2 v3 v4 v5 v6 v7).getD default).2.2 (y0.getD default).2.2) fun y1 =>
    bif y1.isSome then
     k0 (y1.getD default)
    else
     none
   else
    none
  else
   bnd (((d2w N v1 v2 v3 v4 v5 v6 v7).getD default).2.1.length : Int) fun y2 =>
   bif (y2 != (v1.length : Int)) then
    k0 false
   else
    bnd (d3f N v2 (v1.length : Int) v1 ((d2w N v1 v2 v3 v4 v5 v6 v7).getD default).2.1 0) fun y3 =>
    bif (a07 y3) then
     k0 false
    else
     bif (a0I y3).isSome then
      bnd (e4B N v1 v2) fun y4 =>
      bif y4.isSome then
       bnd (e4B N ((d2w N v1 v2 v3 v4 v5 v6 v7).getD default).2.1 v2) fun y5 =>
       bif y5.isSome then
        bnd (bif ((y4.getD default).2.2 != 0) then true else ((y5.getD default).2.2 != 0)) fun y6 =>
        bnd (bif y6 then true else (((y4.getD default).2.1.length : Int) != ((y5.getD default).2.1.length : Int))) fun y7 =>
        bif y7 then
         k0 false
        else
         bnd (d3g N (y4.getD default).2.1 (y5.getD default).2.1 ((y4.getD default).2.1.length : Int) v3 v4 v5 v6 v7 0) fun y8 =>
         bif (a07 y8) then
          k0 false
         else
          bif (a0I y8).isSome then
           bnd (d25 N) fun y9 =>
           bif y9.isSome then
            k0 (y9.getD default)
           else
            none
          else
           none
       else
        none
      else
       none
     else
      none
 else
  none
def e8A (v1 : LD) (v2 v3 v4 v5 : Int) (v6 : LB) (v7 : Bool) : Option (Bool) := e8B N v1 v2 v3 v4 v5 v6 v7 (fun p => some p)
theorem e4t (v1 : LD) (v2 v3 v4 v5 : Int) (v6 : LB) (v7 : Bool) (k0 : Bool → Option R) : e8B N v1 v2 v3 v4 v5 v6 v7 k0 = (e8A N v1 v2 v3 v4 v5 v6 v7).bind k0 := by
 unfold e8A e8B
 repeat' (first | with_reducible apply a0d | (with_reducible apply a0l; intro _) | rfl)
def f2u (L : List Lf) (k0 : Bool → Option R) : Option R := e8B N (ll L 1) (li L 2) (li L 3) (li L 4) (li L 5) (ls L 6) (lb L 7) k0
def e4u : Sh := { tmps := [(0, .g ([.sl 41])), (1, .c (.i .i64)), (2, .g ([.i .i64, .i .i64, .i .i64, .s, .b]))], mem := [] }
def f0Z (L : List Lf) : List (Bool × Res) := bnd (f2u N L (fun p => some p)) fun q => [(q.isSome, ([.c (.b (q.getD default))], []))]
theorem f0M (L : List Lf) : bd Try.prog (c0w N) (e0z N).h 4 e4u L = f2u N L (fun p => some ([.c (.b p)], [])) := by kernel_rfl
theorem e8C : a0t Try.prog 4 e4u (f0Z N) :=
 (e0z N).fn a0b (a4k N) fun L x hx => ((f0M N L).trans ((e4t N ..).trans (a0D x hx)))
def f2X : a0e := ext 4 (a1b e4u (f0Z N)) (c0w N)
theorem f2a : a0c Try.prog (f2X N) := a0t.to (e8C N) (a4k N)
end
end Go.Proofs.Ytfogaejiehebeaa
