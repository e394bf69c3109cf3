/- Functions of the program as plain Lean definitions, each with the proof that the program computes it. No condition. Printed by a program of the prover, part 2. -/
import Derived.Test.YtohplnjpncjhoaaGreatDoorVRp1
import Derived.KernelRfl
set_option linter.all false
set_option maxRecDepth 100000
namespace Go.Proofs.YtohplnjpncjhoaaGreatDoor
open Go Go.AM
noncomputable section
variable (N : Nat) {R : Type}
def K78x0x44w0 (L : List Lf) (p : LD) : Ex × St := (.normal, mg (ofSh sh78x0x44 L) [] [] [0, 1, 68000000033, 2, 4] [(68000000033, .row 51 true false p), (2, .box [.o 68000000033])])
def K78x0x44w1 (L : List Lf) (_ : Unit) : Ex × St := (.normal, mg (ofSh sh78x0x44 L) [] [] [0, 1, 2, 4, 50002005] [])
def A78x0x44 (L : List Lf) : List (Bool × (Ex × St)) := bnd (J78x0x44 N L (fun p => some (.inl p)) (fun p => some (.inr p))) fun q => [((inlB q), K78x0x44w0 L (inlV q)), ((inrQ q).isSome, K78x0x44w1 L ())]
theorem raw78x0x44 (L : List Lf) : pc Tryz.prog (T81x0 N) (h78x0s5 N).h 5 100 78 44 sh78x0x44 L [] [0, 1, 68000000033, 2, 4, 50002005] = J78x0x44 N L (fun p => some (K78x0x44w0 L p)) (fun _ => some (K78x0x44w1 L ())) := by kernel_rfl
def h78x0s6 : Sg Tryz.prog 5 78 (YCtx ((y42x0z600000022 N))) :=
 (h78x0s5 N).cut (A78x0x44 N) progOk (T81x0_ok N) fun L x hx => (raw78x0x44 N L).trans ((bind78x0x44 N ..).trans ((altS alt1) x hx))
def F78x0 (v1 : LD) (v2 : LB) (v3 v4 : Int) (v6 v8 : LD) (v9 : Bool) (v10 : LD) (v11 : Bool) (v12 : LD) (k0 : LD → Option R) (k1 : Bool × LD → Option R) : Option R :=
 bnd (G79x0 N v1 v3 v4 v6 v10) fun y0 =>
 bif y0.isSome then
  bnd (G80x0 N v1) fun y1 =>
  bif y1.isSome then
   bnd (G78x0x12 N (y0.getD default).1 v6 (v6.length : Int) v2 v3 v4 v8 v9 v10 (y1.getD default).2.1 (y1.getD default).2.2.1 (y1.getD default).2.2.2.1 (y1.getD default).2.2.2.2.1 (y1.getD default).2.2.2.2.2.2.1 (y1.getD default).2.2.2.2.2.2.2.1 (y1.getD default).2.2.2.2.2.2.2.2 0 true [] v11 v12) fun y2 =>
   bif y2.isSome then
    bnd (G78x0x44 N (decide (((y2.getD default).2.2.2.length : Int) > 0)) v2 v3 v4 v8 v9 v10 (y1.getD default).2.1 (y1.getD default).2.2.1 (y1.getD default).2.2.2.1 (y1.getD default).2.2.2.2.1 (y1.getD default).2.2.2.2.2.2.1 (y1.getD default).2.2.2.2.2.2.2.1 (y1.getD default).2.2.2.2.2.2.2.2 (y2.getD default).2.2.2 (y2.getD default).2.1) fun y3 =>
    bif (inlB y3) then
     k0 (inlV y3)
    else
     bif (inrQ y3).isSome then
      k1 ((y2.getD default).1, (y2.getD default).2.1)
     else
      none
   else
    none
  else
   none
 else
  none
def G78x0 (v1 : LD) (v2 : LB) (v3 v4 : Int) (v6 v8 : LD) (v9 : Bool) (v10 : LD) (v11 : Bool) (v12 : LD) : Option (Sum (LD) (Bool × LD)) := F78x0 N v1 v2 v3 v4 v6 v8 v9 v10 v11 v12 (fun p => some (.inl p)) (fun p => some (.inr p))
theorem bind78x0 (v1 : LD) (v2 : LB) (v3 v4 : Int) (v6 v8 : LD) (v9 : Bool) (v10 : LD) (v11 : Bool) (v12 : LD) (k0 : LD → Option R) (k1 : Bool × LD → Option R) : F78x0 N v1 v2 v3 v4 v6 v8 v9 v10 v11 v12 k0 k1 = (G78x0 N v1 v2 v3 v4 v6 v8 v9 v10 v11 v12).bind (sumE k0 k1) := by
 unfold G78x0 F78x0
 repeat' (first | with_reducible apply cond_b | (with_reducible apply bnd_b; intro _) | rfl)
def J78x0 (L : List Lf) (k0 : LD → Option R) (k1 : Bool × LD → Option R) : Option R := F78x0 N (ll L 1) (ls L 2) (li L 3) (li L 4) (ll L 6) (ll L 8) (lb L 9) (ll L 10) (lb L 11) (ll L 12) k0 k1
def sh78x0 : Sh := { tmps := [(0, .c (.y 4)), (1, .c (.p 0 0)), (2, .c (.p 1 0)), (8, .c (.p 2 0))], mem := [(0, .box ([.sl 40])), (1, .box (.s :: [.i .i64, .i .i64, .sl 47, .sl 110, .sl 9])), (2, .box ([.o 3])), (3, .row 51 true), (4, .row 3 true)] }
def K78x0w0 (L : List Lf) (p : LD) : Res := ([], mgA (ofSh sh78x0 L).mem [(68000000033, .row 51 true false p), (2, .box [.o 68000000033])] [0, 1, 68000000033, 2, 4])
def K78x0w1 (L : List Lf) (p : Bool × LD) : Res := ([], mgA (ofSh sh78x0 L).mem [(2, .box [.o 50002005]), (50002005, .row 51 true p.1 p.2)] [0, 1, 2, 4, 50002005])
def A78x0 (L : List Lf) : List (Bool × Res) := bnd (J78x0 N L (fun p => some (.inl p)) (fun p => some (.inr p))) fun q => [((inlB q), K78x0w0 L (inlV q)), ((inrQ q).isSome, K78x0w1 L ((inrQ q).getD default))]
theorem raw78x0 (L : List Lf) : bdY Tryz.prog (T81x0 N) ((h78x0s6 N)).h 78 3 sh78x0 L = J78x0 N L (fun p => some (K78x0w0 L p)) (fun p => some (K78x0w1 L p)) := by kernel_rfl
theorem ok78x0 : FnOkY (y42x0z600000022o N) Tryz.prog 78 3 sh78x0 (A78x0 N) :=
 Sg.fnY (fun L => (y42x0z600000022 N)) (fun L => (h78x0s6 N)) (fun L => by kernel_rfl) progOk (T81x0_ok N) fun L x hx => ((raw78x0 N L).trans ((bind78x0 N ..).trans ((altS alt1) x hx)))
def rg42x0 : List (Nat × List Nat) := [(0, [0, 1, 2]), (1, [3, 1, 2]), (2, [2, 7]), (3, [2, 7, 8]), (4, [17, 16, 15, 7, 8]), (5, [15, 17, 7, 16, 8]), (6, [7, 10, 17, 16, 15, 8]), (9, [17, 16, 15, 7, 8]), (10, [8])]
def hd42x0 : Hints := [(12, [7, 8, 15, 16, 17], [8, 50008000], [50008000]), (600000022, [7, 8, 15, 16, 17, 23], [8, 50008000, 24000000002, 24000000003], [])]
def h42x0s0 (N : Nat) : Sg Tryz.prog 0 42 := .start hd42x0 rg42x0
def F42x0x600000022 (w6 : Bool) (w7 w9 : LD) (w10 : LB) (w11 w12 : Int) (w14 w16 : LD) (w17 : Bool) (w18 : LD) (k0 : LD → Option R) (k1 : Bool × LD → Option R) : Option R :=
 bnd (G78x0 N w9 w10 w11 w12 w14 w16 w17 w18 w6 w7) fun y0 =>
 bif (inlB y0) then
  k0 (inlV y0)
 else
  bif (inrQ y0).isSome then
   k1 ((inrQ y0).getD default)
  else
   none
def G42x0x600000022 (w6 : Bool) (w7 w9 : LD) (w10 : LB) (w11 w12 : Int) (w14 w16 : LD) (w17 : Bool) (w18 : LD) : Option (Sum (LD) (Bool × LD)) := F42x0x600000022 N w6 w7 w9 w10 w11 w12 w14 w16 w17 w18 (fun p => some (.inl p)) (fun p => some (.inr p))
theorem bind42x0x600000022 (w6 : Bool) (w7 w9 : LD) (w10 : LB) (w11 w12 : Int) (w14 w16 : LD) (w17 : Bool) (w18 : LD) (k0 : LD → Option R) (k1 : Bool × LD → Option R) : F42x0x600000022 N w6 w7 w9 w10 w11 w12 w14 w16 w17 w18 k0 k1 = (G42x0x600000022 N w6 w7 w9 w10 w11 w12 w14 w16 w17 w18).bind (sumE k0 k1) := by
 unfold G42x0x600000022 F42x0x600000022
 repeat' (first | with_reducible apply cond_b | (with_reducible apply bnd_b; intro _) | rfl)
def J42x0x600000022 (L : List Lf) (k0 : LD → Option R) (k1 : Bool × LD → Option R) : Option R := F42x0x600000022 N (lb L 6) (ll L 7) (ll L 9) (ls L 10) (li L 11) (li L 12) (ll L 14) (ll L 16) (lb L 17) (ll L 18) k0 k1
def sh42x0x600000022 : Sh := { tmps := [(7, .c (.sl 40)), (8, .c (.p 8 0)), (15, .c (.sl 51)), (16, .c (.i .i64)), (17, .c (.i .i64)), (23, .c (.f 78 [(24000000002, 0), (24000000003, 0)]))], mem := [(8, .box ([.o 50008000])), (50008000, .row 51 true), (24000000002, .box ([.sl 40])), (24000000003, .box (.s :: [.i .i64, .i .i64, .sl 47, .sl 110, .sl 9]))] }
def K42x0x600000022w0 (L : List Lf) (p : LD) : Ex × St := (.normal, mg (ofSh sh42x0x600000022 L) [17, 16, 15, 7, 8] [] [1000068000000033, 8] [(1000068000000033, .row 51 true false p), (8, .box [.o 1000068000000033])])
def K42x0x600000022w1 (L : List Lf) (p : Bool × LD) : Ex × St := (.normal, mg (ofSh sh42x0x600000022 L) [17, 16, 15, 7, 8] [] [8, 1000000050002005] [(8, .box [.o 1000000050002005]), (1000000050002005, .row 51 true p.1 p.2)])
def A42x0x600000022 (L : List Lf) : List (Bool × (Ex × St)) := bnd (J42x0x600000022 N L (fun p => some (.inl p)) (fun p => some (.inr p))) fun q => [((inlB q), K42x0x600000022w0 L (inlV q)), ((inrQ q).isSome, K42x0x600000022w1 L ((inrQ q).getD default))]
theorem raw42x0x600000022 (L : List Lf) : pcR Tryz.prog (y42x0z600000022o N) [8] (spY 3 sh78x0 (A78x0 N)) 78 3 0 42 600000022 sh42x0x600000022 L [17, 16, 15, 7, 8] [1000068000000033, 8, 1000000050002005] = J42x0x600000022 N L (fun p => some (K42x0x600000022w0 L p)) (fun p => some (K42x0x600000022w1 L p)) := by kernel_rfl
def h42x0s1 : Sg Tryz.prog 0 42 :=
 (h42x0s0 N).rf (g := .tmp 23) (A42x0x600000022 N) (ok78x0 N) (fun L x hx => (raw42x0x600000022 N L).trans ((bind42x0x600000022 N ..).trans ((altS alt1) x hx))) (by kernel_rfl)
def S42x0x12 (w1 w3 : LD) (w4 : Int) (w5 : Int) (w6 : Bool) (w7 : LD) (kr : Int → Bool → LD → Option R) (k0 : Bool × LD → Option R) : Option R :=
 bif (decide (w5 < w4)) then
  bif (inB w5 w3.length) then
   bnd (G42x0x600000022 N w6 w7 w1 ((w3.getD w5.toNat (.i 0)).cell 0).toS ((w3.getD w5.toNat (.i 0)).cell 1).toI ((w3.getD w5.toNat (.i 0)).cell 2).toI ((w3.getD w5.toNat (.i 0)).cell 3).items ((w3.getD w5.toNat (.i 0)).cell 4).items ((w3.getD w5.toNat (.i 0)).cell 5).isNil ((w3.getD w5.toNat (.i 0)).cell 5).items) fun y0 =>
   bif (inlB y0) then
    kr (IntKind.wrap .i64 (w5 + 1)) false (inlV y0)
   else
    bif (inrQ y0).isSome then
     kr (IntKind.wrap .i64 (w5 + 1)) ((inrQ y0).getD default).1 ((inrQ y0).getD default).2
    else
     none
  else
   none
 else
  k0 (w6, w7)
def L42x0x12 (N : Nat) {R : Type} (w1 w3 : LD) (w4 : Int) : Nat → Int → Bool → LD → (Bool × LD → Option R) → Option R
 | 0, _, _, _, _ => none
 | m + 1, w5, w6, w7, k0 => S42x0x12 N w1 w3 w4 w5 w6 w7 (fun w5 w6 w7 => L42x0x12 N w1 w3 w4 m w5 w6 w7 k0) k0
def G42x0x12 (w1 w3 : LD) (w4 : Int) (w5 : Int) (w6 : Bool) (w7 : LD) : Option (Bool × LD) := L42x0x12 N (R := (Bool × LD)) w1 w3 w4 N w5 w6 w7 (fun p => some p)
def J42x0x12 (L x : List Lf) (kr : List Lf → Option R) (k0 : Bool × LD → Option R) : Option R := S42x0x12 N (ll L 1) (ll L 3) (li L 4) (li x 0) (lb x 1) (ll x 2) (fun w5 w6 w7 => kr [.i w5, .b w6, .l w7]) k0
theorem sb42x0x12 (L x : List Lf) (kr : List Lf → Option R) (k0 : Bool × LD → Option R) : J42x0x12 N L x kr k0 = (J42x0x12 N L x (fun y => some (.inl y)) (fun p => some (.inr p))).bind (sumE kr k0) := by
 unfold J42x0x12 S42x0x12
 repeat' (first | with_reducible apply cond_b | (with_reducible apply bnd_b; intro _) | rfl)
def Q42x0x12 (L : List Lf) (m : Nat) (x : List Lf) : Option (Bool × LD) := L42x0x12 N (R := (Bool × LD)) (ll L 1) (ll L 3) (li L 4) m (li x 0) (lb x 1) (ll x 2) (fun p => some p)
def sh42x0x12 : Sh := { tmps := [(7, .c (.sl 40)), (8, .c (.p 8 0)), (15, .c (.sl 51)), (16, .c (.i .i64)), (17, .c (.i .i64))], mem := [(8, .box ([.o 50008000])), (50008000, .row 51 true)] }
def K42x0x12w0 (L : List Lf) (p : Bool × LD) : Ex × St := ((.exit 0), mg (ofSh sh42x0x12 L) [8] [] [50008000, 8] [(50008000, .row 51 true p.1 p.2)])
def A42x0x12 (L : List Lf) : List (Bool × (Ex × St)) := bnd (Q42x0x12 N L N (pk sh42x0x12 [5, 6, 7] L)) fun q => [(q.isSome, K42x0x12w0 L (q.getD default))]
theorem step42x0x12 (m : Nat) (kn : St → Option (Ex × St)) (L x : List Lf) : lpB Tryz.prog (T81x0 N) (h42x0s1 N).h 0 42 12 sh42x0x12 [5, 6, 7] [6, 8] [50008000, 8] (m + 100) kn L x = J42x0x12 N L x (fun y => kn (ofSh sh42x0x12 (mx sh42x0x12 [5, 6, 7] L y))) (fun p => some (K42x0x12w0 L p)) := by kernel_rfl
theorem ql42x0x12 (L : List Lf) (m : Nat) (x : List Lf) : Q42x0x12 N L (m + 1) x = J42x0x12 N L x (Q42x0x12 N L m) some := by kernel_rfl
def h42x0s2 : Sg Tryz.prog 0 42 :=
 (h42x0s1 N).lp (A42x0x12 N) N progOk (T81x0_ok N) (fun m kn L x => (step42x0x12 N m kn L x).trans (sb42x0x12 N L x _ _)) (fun L m x => (ql42x0x12 N L m x).trans (sb42x0x12 N L x (Q42x0x12 N L m) some)) fun L x hx => alt1 x hx
def F42x0 (v1 : LD) (v2 : Int) (v4 : LD) (k0 : Bool × LD → Option R) : Option R :=
 bnd (G59x0 N v1 v2) fun y0 =>
 bif y0.isSome then
  bnd (G42x0x12 N (y0.getD default).2 v4 (v4.length : Int) 0 true []) fun y1 =>
  bif y1.isSome then
   k0 (y1.getD default)
  else
   none
 else
  none
def G42x0 (v1 : LD) (v2 : Int) (v4 : LD) : Option (Bool × LD) := F42x0 N v1 v2 v4 (fun p => some p)
theorem bind42x0 (v1 : LD) (v2 : Int) (v4 : LD) (k0 : Bool × LD → Option R) : F42x0 N v1 v2 v4 k0 = (G42x0 N v1 v2 v4).bind k0 := by
 unfold G42x0 F42x0
 repeat' (first | with_reducible apply cond_b | (with_reducible apply bnd_b; intro _) | rfl)
def sh42x0 : Sh := { tmps := [(0, .g ([.sl 40])), (1, .c (.i .i64)), (2, .c (.sl 51))], mem := [] }
def A42x0 (L : List Lf) : List (Bool × Res) := bnd (F42x0 N (ll L 1) (li L 2) (ll L 4) (fun p => some p)) fun q => [(q.isSome, ([.c (.sl 51 (q.getD default).1 (q.getD default).2)], []))]
theorem raw42x0 (L : List Lf) : bd Tryz.prog (T81x0 N) (h42x0s2 N).h 42 sh42x0 L = F42x0 N (ll L 1) (li L 2) (ll L 4) (fun p => some ([.c (.sl 51 p.1 p.2)], [])) := by kernel_rfl
theorem ok42x0 : FnOk Tryz.prog 42 sh42x0 (A42x0 N) :=
 (h42x0s2 N).fn progOk (T81x0_ok N) fun L x hx => ((raw42x0 N L).trans ((bind42x0 N ..).trans (alt1 x hx)))
def T42x0 : Oracle := ext 42 (spSh sh42x0 (A42x0 N)) (T81x0 N)
theorem T42x0_ok : OracleOk Tryz.prog (T42x0 N) := FnOk.to (ok42x0 N) (T81x0_ok N)
def rg21x0 : List (Nat × List Nat) := [(0, [0, 2, 1]), (1, [3, 1, 5]), (2, [8, 3, 1, 5]), (3, [8]), (4, [3, 1, 5])]
def hd21x0 : Hints := []
def h21x0s0 (N : Nat) : Sg Tryz.prog 0 21 := .start hd21x0 rg21x0
def F21x0 (v1 : LD) (v2 : Int) (v3 : LB) (v4 v5 : Int) (v6 : Bool) (v7 : LD) (v8 : Bool) (v9 : LD) (v10 : Bool) (v11 : LD) (k0 : Bool × LD × Int → Option R) : Option R :=
 bnd (G41x0 N v1 v2 [(.a [(.s v3), (.i v4), (.i v5), (.l v6 v7), (.l v8 v9), (.l v10 v11)])]) fun y0 =>
 bif y0.isSome then
  bif ((y0.getD default) != 0) then
   k0 (true, [], (y0.getD default))
  else
   bnd (G42x0 N v1 v2 [(.a [(.s v3), (.i v4), (.i v5), (.l v6 v7), (.l v8 v9), (.l v10 v11)])]) fun y1 =>
   bif y1.isSome then
    k0 ((y1.getD default).1, (y1.getD default).2, 0)
   else
    none
 else
  none
def G21x0 (v1 : LD) (v2 : Int) (v3 : LB) (v4 v5 : Int) (v6 : Bool) (v7 : LD) (v8 : Bool) (v9 : LD) (v10 : Bool) (v11 : LD) : Option (Bool × LD × Int) := F21x0 N v1 v2 v3 v4 v5 v6 v7 v8 v9 v10 v11 (fun p => some p)
theorem bind21x0 (v1 : LD) (v2 : Int) (v3 : LB) (v4 v5 : Int) (v6 : Bool) (v7 : LD) (v8 : Bool) (v9 : LD) (v10 : Bool) (v11 : LD) (k0 : Bool × LD × Int → Option R) : F21x0 N v1 v2 v3 v4 v5 v6 v7 v8 v9 v10 v11 k0 = (G21x0 N v1 v2 v3 v4 v5 v6 v7 v8 v9 v10 v11).bind k0 := by
 unfold G21x0 F21x0
 repeat' (first | with_reducible apply cond_b | (with_reducible apply bnd_b; intro _) | rfl)
def J21x0 (L : List Lf) (k0 : Bool × LD × Int → Option R) : Option R := F21x0 N (ll L 1) (li L 2) (ls L 3) (li L 4) (li L 5) (lb L 6) (ll L 7) (lb L 8) (ll L 9) (lb L 10) (ll L 11) k0
def sh21x0 : Sh := { tmps := [(0, .g ([.sl 40])), (1, .c (.i .i64)), (2, .g (.s :: [.i .i64, .i .i64, .sl 47, .sl 110, .sl 9]))], mem := [] }
def A21x0 (L : List Lf) : List (Bool × Res) := bnd (J21x0 N L (fun p => some p)) fun q => [(q.isSome, ([.c (.sl 51 (q.getD default).1 (q.getD default).2.1), .c (.i .i64 (q.getD default).2.2)], []))]
theorem raw21x0 (L : List Lf) : bd Tryz.prog (T42x0 N) (h21x0s0 N).h 21 sh21x0 L = J21x0 N L (fun p => some ([.c (.sl 51 p.1 p.2.1), .c (.i .i64 p.2.2)], [])) := by kernel_rfl
theorem ok21x0 : FnOk Tryz.prog 21 sh21x0 (A21x0 N) :=
 (h21x0s0 N).fn progOk (T42x0_ok N) fun L x hx => ((raw21x0 N L).trans ((bind21x0 N ..).trans (alt1 x hx)))
def T21x0 : Oracle := ext 21 (spSh sh21x0 (A21x0 N)) (T42x0 N)
theorem T21x0_ok : OracleOk Tryz.prog (T21x0 N) := FnOk.to (ok21x0 N) (T42x0_ok N)
def rg8x0 : List (Nat × List Nat) := [(0, []), (1, []), (2, [1]), (3, [1, 2]), (4, [4, 3])]
def hd8x0 : Hints := []
def h8x0s0 (N : Nat) : Sg Tryz.prog 0 8 := .start hd8x0 rg8x0
def F8x0 (k0 : Bool → Option R) : Option R :=
 bnd (G21x0 N [(.a [(.i 2), (.i 1), (.i 0), (.i 0), (.i 10), (.i 0), (.i 0), (.i 0), (.s ([] : List UInt8))])] 2 ([109] : List UInt8) 1 0 false [(.a [(.i 0), (.i 0), (.i 0), (.i 0), (.i (-1)), (.i (-1)), (.i (-1))]), (.a [(.i 10), (.i 100), (.i 0), (.i 0), (.i (-1)), (.i (-1)), (.i (-1))])] true [] true []) fun y0 =>
 bif y0.isSome then
  bnd (bif ((y0.getD default).2.2 == 0) then (((y0.getD default).2.1.length : Int) == 1) else false) fun y1 =>
  bif (bif (inB 0 (y0.getD default).2.1.length) then true else (!(y1 == true))) then
   bnd (bif y1 then ((((y0.getD default).2.1.getD 0 (.i 0)).cell 2).toI == 10) else false) fun y2 =>
   bif (bif (inB 0 (y0.getD default).2.1.length) then true else (!(y2 == true))) then
    bnd (bif y2 then (((((y0.getD default).2.1.getD 0 (.i 0)).cell 3).items.length : Int) == 1) else false) fun y3 =>
    bif (bif (inB 0 (y0.getD default).2.1.length) then true else (!(y3 == true))) then
     bif (bif (inB 0 (((y0.getD default).2.1.getD 0 (.i 0)).cell 3).items.length) then true else (!(y3 == true))) then
      bnd (bif y3 then ((((((y0.getD default).2.1.getD 0 (.i 0)).cell 3).items.getD 0 (.i 0)).cell 1).toI == 100) else false) fun y4 =>
      k0 y4
     else
      none
    else
     none
   else
    none
  else
   none
 else
  none
def G8x0 : Option (Bool) := F8x0 N (fun p => some p)
theorem bind8x0 (k0 : Bool → Option R) : F8x0 N k0 = (G8x0 N).bind k0 := by
 unfold G8x0 F8x0
 repeat' (first | with_reducible apply cond_b | (with_reducible apply bnd_b; intro _) | rfl)
def sh8x0 : Sh := { tmps := [], mem := [] }
def A8x0 (L : List Lf) : List (Bool × Res) := bnd (F8x0 N (fun p => some p)) fun q => [(q.isSome, ([.c (.b (q.getD default))], []))]
theorem raw8x0 (L : List Lf) : bd Tryz.prog (T21x0 N) (h8x0s0 N).h 8 sh8x0 L = F8x0 N (fun p => some ([.c (.b p)], [])) := by kernel_rfl
theorem ok8x0 : FnOk Tryz.prog 8 sh8x0 (A8x0 N) :=
 (h8x0s0 N).fn progOk (T21x0_ok N) fun L x hx => ((raw8x0 N L).trans ((bind8x0 N ..).trans (alt1 x hx)))
def T8x0 : Oracle := ext 8 (spSh sh8x0 (A8x0 N)) (T21x0 N)
theorem T8x0_ok : OracleOk Tryz.prog (T8x0 N) := FnOk.to (ok8x0 N) (T21x0_ok N)
def rg97x0 : List (Nat × List Nat) := [(0, [0, 1]), (1, [0, 1])]
def hd97x0 : Hints := []
def h97x0s0 (N : Nat) : Sg Tryz.prog 0 97 := .start hd97x0 rg97x0
def F97x0 (N : Nat) (v0 : LB) (k0 : Bool → Option R) : Option R :=
 bif (bif (decide (1 ≤ (v0.length : Int))) then true else (!((decide ((v0.length : Int) ≥ 1)) == true))) then
  bnd (bif (decide ((v0.length : Int) ≥ 1)) then (((v0.take 1).drop 0) == ([45] : List UInt8)) else false) fun y0 =>
  k0 y0
 else
  none
def G97x0 (v0 : LB) : Option (Bool) := F97x0 N v0 (fun p => some p)
theorem bind97x0 (v0 : LB) (k0 : Bool → Option R) : F97x0 N v0 k0 = (G97x0 N v0).bind k0 := by
 unfold G97x0 F97x0
 repeat' (first | with_reducible apply cond_b | (with_reducible apply bnd_b; intro _) | rfl)
def sh97x0 : Sh := { tmps := [(0, .c (.s)), (1, .c (.ks [45]))], mem := [] }
def A97x0 (L : List Lf) : List (Bool × Res) := bnd (F97x0 N (ls L 0) (fun p => some p)) fun q => [(q.isSome, ([.c (.b (q.getD default))], []))]
theorem raw97x0 (L : List Lf) : bd Tryz.prog (T8x0 N) (h97x0s0 N).h 97 sh97x0 L = F97x0 N (ls L 0) (fun p => some ([.c (.b p)], [])) := by kernel_rfl
theorem ok97x0 : FnOk Tryz.prog 97 sh97x0 (A97x0 N) :=
 (h97x0s0 N).fn progOk (T8x0_ok N) fun L x hx => ((raw97x0 N L).trans ((bind97x0 N ..).trans (alt1 x hx)))
def T97x0 : Oracle := ext 97 (spSh sh97x0 (A97x0 N)) (T8x0 N)
theorem T97x0_ok : OracleOk Tryz.prog (T97x0 N) := FnOk.to (ok97x0 N) (T8x0_ok N)
def rg70x0 : List (Nat × List Nat) := [(0, [0, 1]), (1, [0, 1]), (2, [0, 1]), (3, [0])]
def hd70x0 : Hints := []
def h70x0s0 (N : Nat) : Sg Tryz.prog 0 70 := .start hd70x0 rg70x0
def F70x0 (v0 : LB) (k0 : LB → Option R) : Option R :=
 bnd (G97x0 N v0) fun y0 =>
 bif y0.isSome then
  bif (y0.getD default) then
   bif ((decide (1 ≤ (v0.length : Int))) && (decide ((v0.length : Int) ≤ (v0.length : Int)))) then
    k0 ((v0.take (v0.length : Int).toNat).drop 1)
   else
    none
  else
   k0 v0
 else
  none
def G70x0 (v0 : LB) : Option (LB) := F70x0 N v0 (fun p => some p)
theorem bind70x0 (v0 : LB) (k0 : LB → Option R) : F70x0 N v0 k0 = (G70x0 N v0).bind k0 := by
 unfold G70x0 F70x0
 repeat' (first | with_reducible apply cond_b | (with_reducible apply bnd_b; intro _) | rfl)
def sh70x0 : Sh := { tmps := [(0, .c (.s)), (1, .c (.ks [45]))], mem := [] }
def A70x0 (L : List Lf) : List (Bool × Res) := bnd (F70x0 N (ls L 0) (fun p => some p)) fun q => [(q.isSome, ([.c (.s (q.getD default))], []))]
theorem raw70x0 (L : List Lf) : bd Tryz.prog (T97x0 N) (h70x0s0 N).h 70 sh70x0 L = F70x0 N (ls L 0) (fun p => some ([.c (.s p)], [])) := by kernel_rfl
theorem ok70x0 : FnOk Tryz.prog 70 sh70x0 (A70x0 N) :=
 (h70x0s0 N).fn progOk (T97x0_ok N) fun L x hx => ((raw70x0 N L).trans ((bind70x0 N ..).trans (alt1 x hx)))
def T70x0 : Oracle := ext 70 (spSh sh70x0 (A70x0 N)) (T97x0 N)
theorem T70x0_ok : OracleOk Tryz.prog (T70x0 N) := FnOk.to (ok70x0 N) (T97x0_ok N)
def rg51x0 : List (Nat × List Nat) := [(0, [0, 1]), (1, [0, 1])]
def hd51x0 : Hints := []
def h51x0s0 (N : Nat) : Sg Tryz.prog 0 51 := .start hd51x0 rg51x0
def F51x0 (v0 : LB) (k0 : LB → Option R) : Option R :=
 bnd (G70x0 N v0) fun y0 =>
 bif y0.isSome then
  k0 (y0.getD default)
 else
  none
def G51x0 (v0 : LB) : Option (LB) := F51x0 N v0 (fun p => some p)
theorem bind51x0 (v0 : LB) (k0 : LB → Option R) : F51x0 N v0 k0 = (G51x0 N v0).bind k0 := by
 unfold G51x0 F51x0
 repeat' (first | with_reducible apply cond_b | (with_reducible apply bnd_b; intro _) | rfl)
def sh51x0 : Sh := { tmps := [(0, .c (.s)), (1, .c (.ks [45]))], mem := [] }
def A51x0 (L : List Lf) : List (Bool × Res) := bnd (F51x0 N (ls L 0) (fun p => some p)) fun q => [(q.isSome, ([.c (.s (q.getD default))], []))]
theorem raw51x0 (L : List Lf) : bd Tryz.prog (T70x0 N) (h51x0s0 N).h 51 sh51x0 L = F51x0 N (ls L 0) (fun p => some ([.c (.s p)], [])) := by kernel_rfl
theorem ok51x0 : FnOk Tryz.prog 51 sh51x0 (A51x0 N) :=
 (h51x0s0 N).fn progOk (T70x0_ok N) fun L x hx => ((raw51x0 N L).trans ((bind51x0 N ..).trans (alt1 x hx)))
def T51x0 : Oracle := ext 51 (spSh sh51x0 (A51x0 N)) (T70x0 N)
theorem T51x0_ok : OracleOk Tryz.prog (T51x0 N) := FnOk.to (ok51x0 N) (T70x0_ok N)
def rg35x0 : List (Nat × List Nat) := [(0, [0]), (1, [0]), (2, [4, 5, 0])]
def hd35x0 : Hints := [(7, [0, 4, 5], [], [])]
def h35x0s0 (N : Nat) : Sg Tryz.prog 0 35 := .start hd35x0 rg35x0
def F35x0x7 (w0 : LB) (w1 : Int) (w2 : Bool) (k0 : Bool → Option R) : Option R :=
 bif w2 then
  bnd (G51x0 N w0) fun y0 =>
  bif y0.isSome then
   bif (decide (((y0.getD default).length : Int) ≤ 9)) then
    bif (i64B w1) then
     k0 ((Lib.itoa w1) == w0)
    else
     none
   else
    k0 false
  else
   none
 else
  k0 false
def G35x0x7 (w0 : LB) (w1 : Int) (w2 : Bool) : Option (Bool) := F35x0x7 N w0 w1 w2 (fun p => some p)
theorem bind35x0x7 (w0 : LB) (w1 : Int) (w2 : Bool) (k0 : Bool → Option R) : F35x0x7 N w0 w1 w2 k0 = (G35x0x7 N w0 w1 w2).bind k0 := by
 unfold G35x0x7 F35x0x7
 repeat' (first | with_reducible apply cond_b | (with_reducible apply bnd_b; intro _) | rfl)
def sh35x0x7 : Sh := { tmps := [(0, .c (.s)), (4, .c (.i .i64)), (5, .c (.ifc))], mem := [] }
def K35x0x7w0 (L : List Lf) (p : Bool) : Ex × St := (.normal, ⟨[(2, .c (.i .i64 (li L 1))), (3, .c (.b p))], []⟩)
def A35x0x7 (L : List Lf) : List (Bool × (Ex × St)) := bnd (F35x0x7 N (ls L 0) (li L 1) (lb L 2) (fun p => some p)) fun q => [(q.isSome, K35x0x7w0 L (q.getD default))]
theorem raw35x0x7 (L : List Lf) : pc Tryz.prog (T51x0 N) (h35x0s0 N).h 0 100 35 7 sh35x0x7 L [2, 3] [] = F35x0x7 N (ls L 0) (li L 1) (lb L 2) (fun p => some (K35x0x7w0 L p)) := by kernel_rfl
def h35x0s1 : Sg Tryz.prog 0 35 :=
 (h35x0s0 N).cut (A35x0x7 N) progOk (T51x0_ok N) fun L x hx => (raw35x0x7 N L).trans ((bind35x0x7 N ..).trans (alt1 x hx))
def F35x0 (v0 : LB) (k0 : Int × Bool → Option R) : Option R :=
 bif (Nat.ble v0.length 281474976710656) then
  bnd (G35x0x7 N v0 (atoiV v0) (atoiOk v0)) fun y0 =>
  bif y0.isSome then
   k0 ((atoiV v0), (y0.getD default))
  else
   none
 else
  none
def G35x0 (v0 : LB) : Option (Int × Bool) := F35x0 N v0 (fun p => some p)
theorem bind35x0 (v0 : LB) (k0 : Int × Bool → Option R) : F35x0 N v0 k0 = (G35x0 N v0).bind k0 := by
 unfold G35x0 F35x0
 repeat' (first | with_reducible apply cond_b | (with_reducible apply bnd_b; intro _) | rfl)
def sh35x0 : Sh := { tmps := [(0, .c (.s))], mem := [] }
def A35x0 (L : List Lf) : List (Bool × Res) := bnd (F35x0 N (ls L 0) (fun p => some p)) fun q => [(q.isSome, ([.c (.i .i64 (q.getD default).1), .c (.b (q.getD default).2)], []))]
theorem raw35x0 (L : List Lf) : bd Tryz.prog (T51x0 N) (h35x0s1 N).h 35 sh35x0 L = F35x0 N (ls L 0) (fun p => some ([.c (.i .i64 p.1), .c (.b p.2)], [])) := by kernel_rfl
theorem ok35x0 : FnOk Tryz.prog 35 sh35x0 (A35x0 N) :=
 (h35x0s1 N).fn progOk (T51x0_ok N) fun L x hx => ((raw35x0 N L).trans ((bind35x0 N ..).trans (alt1 x hx)))
def T35x0 : Oracle := ext 35 (spSh sh35x0 (A35x0 N)) (T51x0 N)
theorem T35x0_ok : OracleOk Tryz.prog (T35x0 N) := FnOk.to (ok35x0 N) (T51x0_ok N)
def rg14x0 : List (Nat × List Nat) := [(0, [0]), (1, [0, 2]), (2, [2]), (3, [0, 2]), (4, [0, 2]), (5, [4, 2, 0]), (6, [4, 2, 0]), (7, [2, 0]), (8, [0, 2]), (9, [2, 0]), (10, [2]), (11, [0, 2]), (12, [2, 0]), (13, [0, 2]), (14, [2]), (15, [2, 0]), (16, [0, 5, 2]), (17, [2]), (18, [5, 0, 2]), (19, [83, 82, 81, 0, 2]), (20, [83, 81, 0, 2, 82]), (21, [0, 6, 2, 7, 83, 82, 81]), (22, [9, 2, 7, 8, 83, 82, 81, 0]), (23, [2]), (24, [7, 8, 83, 82, 81, 0, 2]), (25, [83, 82, 81, 0, 2]), (26, [2])]
def hd14x0 : Hints := [(46, [0, 2], [2], [])]
def h14x0s0 (N : Nat) : Sg Tryz.prog 0 14 := .start hd14x0 rg14x0
def F14x0x46 (w3 : Int) (k0 : Unit → Option R) (k1 : Unit → Option R) (k2 : Unit → Option R) (k3 : Unit → Option R) : Option R :=
 bnd (G25x0 N w3) fun y0 =>
 bif (inlB y0) then
  k0 ()
 else
  bif (inlB (inrQ y0)) then
   k1 ()
  else
   bif (inlB (inrQ (inrQ y0))) then
    k2 ()
   else
    bif (inrQ (inrQ (inrQ y0))).isSome then
     k3 ()
    else
     none
def G14x0x46 (w3 : Int) : Option (Sum (Unit) (Sum (Unit) (Sum (Unit) (Unit)))) := F14x0x46 N w3 (fun p => some (.inl p)) (fun p => some (.inr (.inl p))) (fun p => some (.inr (.inr (.inl p)))) (fun p => some (.inr (.inr (.inr p))))
theorem bind14x0x46 (w3 : Int) (k0 : Unit → Option R) (k1 : Unit → Option R) (k2 : Unit → Option R) (k3 : Unit → Option R) : F14x0x46 N w3 k0 k1 k2 k3 = (G14x0x46 N w3).bind (sumE k0 (sumE k1 (sumE k2 k3))) := by
 unfold G14x0x46 F14x0x46
 repeat' (first | with_reducible apply cond_b | (with_reducible apply bnd_b; intro _) | rfl)
def sh14x0x46 : Sh := { tmps := [(0, .c (.sl 9)), (2, .c (.p 2 0))], mem := [(2, .box (rI 8 ([.s])))] }
def K14x0x46w0 (L : List Lf) (_ : Unit) : Ex × St := (.normal, mg (ofSh sh14x0x46 L) [0, 5, 2] [(5, .c (.bs 70000000019 3))] [70000000019, 2] [(70000000019, .box [.p 2 2, .p 2 3, .p 2 4])])
def K14x0x46w1 (L : List Lf) (_ : Unit) : Ex × St := (.normal, mg (ofSh sh14x0x46 L) [0, 5, 2] [(5, .c (.bs 70000000030 2))] [2, 70000000030] [(70000000030, .box [.p 2 5, .p 2 6])])
def K14x0x46w2 (L : List Lf) (_ : Unit) : Ex × St := (.normal, mg (ofSh sh14x0x46 L) [0, 5, 2] [(5, .c (.bs 70000000037 1))] [2, 70000000037] [(70000000037, .box [.p 2 7])])
def K14x0x46w3 (L : List Lf) (_ : Unit) : Ex × St := (.normal, mg (ofSh sh14x0x46 L) [0, 5, 2] [(5, .c (.sl 63 true []))] [2] [])
def A14x0x46 (L : List Lf) : List (Bool × (Ex × St)) := bnd (F14x0x46 N (li L 3) (fun p => some (.inl p)) (fun p => some (.inr (.inl p))) (fun p => some (.inr (.inr (.inl p)))) (fun p => some (.inr (.inr (.inr p))))) fun q => [((inlB q), K14x0x46w0 L ()), ((inlB (inrQ q)), K14x0x46w1 L ()), ((inlB (inrQ (inrQ q))), K14x0x46w2 L ()), ((inrQ (inrQ (inrQ q))).isSome, K14x0x46w3 L ())]
theorem raw14x0x46 (L : List Lf) : pc Tryz.prog (T35x0 N) (h14x0s0 N).h 0 100 14 46 sh14x0x46 L [0, 5, 2] [70000000019, 2, 70000000030, 70000000037] = F14x0x46 N (li L 3) (fun _ => some (K14x0x46w0 L ())) (fun _ => some (K14x0x46w1 L ())) (fun _ => some (K14x0x46w2 L ())) (fun _ => some (K14x0x46w3 L ())) := by kernel_rfl
def h14x0s1 : Sg Tryz.prog 0 14 :=
 (h14x0s0 N).cut (A14x0x46 N) progOk (T35x0_ok N) fun L x hx => (raw14x0x46 N L).trans ((bind14x0x46 N ..).trans ((altS (altS (altS alt1))) x hx))
def F14x0 (v1 : LD) (k0 : Ty1 → Option R) : Option R :=
 bif (decide ((v1.length : Int) < 2)) then
  k0 (0, 0, 0, 0, 0, 0, 0, 0, ([] : List UInt8), false)
 else
  bnd (V22x0 N) fun y0 =>
  bif (inB 0 v1.length) then
   bnd (G34x0 N y0 (v1.getD 0 (.i 0)).toS) fun y1 =>
   bif y1.isSome then
    bnd (V24x0 N) fun y2 =>
    bif (inB 1 v1.length) then
     bnd (G34x0 N y2 (v1.getD 1 (.i 0)).toS) fun y3 =>
     bif y3.isSome then
      bif (decide ((y3.getD default) > 0)) then
       bnd (bif (decide ((y1.getD default) > 0)) then ((v1.length : Int) == 2) else false) fun y4 =>
       k0 ((y1.getD default), 3, 0, 0, 0, 0, 0, (y3.getD default), ([] : List UInt8), y4)
      else
       bnd (V23x0 N) fun y5 =>
       bif (inB 1 v1.length) then
        bnd (G34x0 N y5 (v1.getD 1 (.i 0)).toS) fun y6 =>
        bif y6.isSome then
         bnd (bif (decide ((y1.getD default) < 1)) then true else (decide ((y6.getD default) < 1))) fun y7 =>
         bif y7 then
          k0 ((y1.getD default), (y6.getD default), 0, 0, 0, 0, 0, 0, ([] : List UInt8), false)
         else
          bif ((decide (2 ≤ (v1.length : Int))) && (decide ((v1.length : Int) ≤ (v1.length : Int)))) then
           bnd (bif ((y6.getD default) == 4) then ((((v1.take (v1.length : Int).toNat).drop 2).length : Int) == 1) else false) fun y8 =>
           bif y8 then
            bif (inB 0 ((v1.take (v1.length : Int).toNat).drop 2).length) then
             bnd (((v1.take (v1.length : Int).toNat).drop 2).getD 0 (.i 0)).toS fun y9 =>
             k0 ((y1.getD default), (y6.getD default), 0, 0, 0, 0, 0, 0, y9, true)
            else
             none
           else
            bnd (G14x0x46 N (y6.getD default)) fun y10 =>
            bif (inlB y10) then
             bnd ((((v1.take (v1.length : Int).toNat).drop 2).length : Int) != 3) fun y11 =>
             bnd (bif y11 then true else ((y6.getD default) == 4)) fun y12 =>
             bif y12 then
              k0 ((y1.getD default), (y6.getD default), 0, 0, 0, 0, 0, 0, ([] : List UInt8), false)
             else
              bif (inB 0 ((v1.take (v1.length : Int).toNat).drop 2).length) then
               bnd (((v1.take (v1.length : Int).toNat).drop 2).getD 0 (.i 0)).toS fun y9 =>
               bnd (G35x0 N y9) fun y13 =>
               bif y13.isSome then
                bif (!(y13.getD default).2) then
                 k0 ((y1.getD default), (y6.getD default), 0, 0, 0, 0, 0, 0, ([] : List UInt8), false)
                else
                 bif (inB 1 ((v1.take (v1.length : Int).toNat).drop 2).length) then
                  bnd (((v1.take (v1.length : Int).toNat).drop 2).getD 1 (.i 0)).toS fun y14 =>
                  bnd (G35x0 N y14) fun y15 =>
                  bif y15.isSome then
                   bif (!(y15.getD default).2) then
                    k0 ((y1.getD default), (y6.getD default), (y13.getD default).1, 0, 0, 0, 0, 0, ([] : List UInt8), false)
                   else
                    bif (inB 2 ((v1.take (v1.length : Int).toNat).drop 2).length) then
                     bnd (((v1.take (v1.length : Int).toNat).drop 2).getD 2 (.i 0)).toS fun y16 =>
                     bnd (G35x0 N y16) fun y17 =>
                     bif y17.isSome then
                      bif (!(y17.getD default).2) then
                       k0 ((y1.getD default), (y6.getD default), (y13.getD default).1, (y15.getD default).1, 0, 0, 0, 0, ([] : List UInt8), false)
                      else
                       k0 ((y1.getD default), (y6.getD default), (y13.getD default).1, (y15.getD default).1, (y17.getD default).1, 0, 0, 0, ([] : List UInt8), true)
                     else
                      none
                    else
                     none
                  else
                   none
                 else
                  none
               else
                none
              else
               none
            else
             bif (inlB (inrQ y10)) then
              bnd ((((v1.take (v1.length : Int).toNat).drop 2).length : Int) != 2) fun y18 =>
              bnd (bif y18 then true else ((y6.getD default) == 4)) fun y19 =>
              bif y19 then
               k0 ((y1.getD default), (y6.getD default), 0, 0, 0, 0, 0, 0, ([] : List UInt8), false)
              else
               bif (inB 0 ((v1.take (v1.length : Int).toNat).drop 2).length) then
                bnd (((v1.take (v1.length : Int).toNat).drop 2).getD 0 (.i 0)).toS fun y9 =>
                bnd (G35x0 N y9) fun y13 =>
                bif y13.isSome then
                 bif (!(y13.getD default).2) then
                  k0 ((y1.getD default), (y6.getD default), 0, 0, 0, 0, 0, 0, ([] : List UInt8), false)
                 else
                  bif (inB 1 ((v1.take (v1.length : Int).toNat).drop 2).length) then
                   bnd (((v1.take (v1.length : Int).toNat).drop 2).getD 1 (.i 0)).toS fun y14 =>
                   bnd (G35x0 N y14) fun y15 =>
                   bif y15.isSome then
                    bif (!(y15.getD default).2) then
                     k0 ((y1.getD default), (y6.getD default), 0, 0, 0, (y13.getD default).1, 0, 0, ([] : List UInt8), false)
                    else
                     k0 ((y1.getD default), (y6.getD default), 0, 0, 0, (y13.getD default).1, (y15.getD default).1, 0, ([] : List UInt8), true)
                   else
                    none
                  else
                   none
                else
                 none
               else
                none
             else
              bif (inlB (inrQ (inrQ y10))) then
               bnd ((((v1.take (v1.length : Int).toNat).drop 2).length : Int) != 1) fun y20 =>
               bnd (bif y20 then true else ((y6.getD default) == 4)) fun y21 =>
               bif y21 then
                k0 ((y1.getD default), (y6.getD default), 0, 0, 0, 0, 0, 0, ([] : List UInt8), false)
               else
                bif (inB 0 ((v1.take (v1.length : Int).toNat).drop 2).length) then
                 bnd (((v1.take (v1.length : Int).toNat).drop 2).getD 0 (.i 0)).toS fun y9 =>
                 bnd (G35x0 N y9) fun y13 =>
                 bif y13.isSome then
                  bif (!(y13.getD default).2) then
                   k0 ((y1.getD default), (y6.getD default), 0, 0, 0, 0, 0, 0, ([] : List UInt8), false)
                  else
                   k0 ((y1.getD default), (y6.getD default), 0, 0, 0, 0, 0, (y13.getD default).1, ([] : List UInt8), true)
                 else
                  none
                else
                 none
              else
               bif (inrQ (inrQ (inrQ y10))).isSome then
                bnd ((((v1.take (v1.length : Int).toNat).drop 2).length : Int) != 0) fun y22 =>
                bnd (bif y22 then true else ((y6.getD default) == 4)) fun y23 =>
                bif y23 then
                 k0 ((y1.getD default), (y6.getD default), 0, 0, 0, 0, 0, 0, ([] : List UInt8), false)
                else
                 k0 ((y1.getD default), (y6.getD default), 0, 0, 0, 0, 0, 0, ([] : List UInt8), true)
               else
                none
          else
           none
        else
         none
       else
        none
     else
      none
    else
     none
   else
    none
  else
   none
def G14x0 (v1 : LD) : Option (Ty1) := F14x0 N v1 (fun p => some p)
theorem bind14x0 (v1 : LD) (k0 : Ty1 → Option R) : F14x0 N v1 k0 = (G14x0 N v1).bind k0 := by
 unfold G14x0 F14x0
 repeat' (first | with_reducible apply cond_b | (with_reducible apply bnd_b; intro _) | rfl)
def sh14x0 : Sh := { tmps := [(0, .c (.sl 9))], mem := [] }
def K14x0w0 (L : List Lf) (p : Ty1) : Res := let p1 := p.2; let p2 := p1.2; let p3 := p2.2; let p4 := p3.2; let p5 := p4.2; let p6 := p5.2; let p7 := p6.2; let p8 := p7.2; let p9 := p8.2; ([.g [.i .i64 p.1, .i .i64 p1.1, .i .i64 p2.1, .i .i64 p3.1, .i .i64 p4.1, .i .i64 p5.1, .i .i64 p6.1, .i .i64 p7.1, .s p8.1], .c (.b p9)], [])
def A14x0 (L : List Lf) : List (Bool × Res) := bnd (F14x0 N (ll L 1) (fun p => some p)) fun q => [(q.isSome, K14x0w0 L (q.getD default))]
theorem raw14x0 (L : List Lf) : bd Tryz.prog (T35x0 N) (h14x0s1 N).h 14 sh14x0 L = F14x0 N (ll L 1) (fun p => some (K14x0w0 L p)) := by kernel_rfl
theorem ok14x0 : FnOk Tryz.prog 14 sh14x0 (A14x0 N) :=
 (h14x0s1 N).fn progOk (T35x0_ok N) fun L x hx => ((raw14x0 N L).trans ((bind14x0 N ..).trans (alt1 x hx)))
def T14x0 : Oracle := ext 14 (spSh sh14x0 (A14x0 N)) (T35x0 N)
theorem T14x0_ok : OracleOk Tryz.prog (T14x0 N) := FnOk.to (ok14x0 N) (T35x0_ok N)
def rg5x0 : List (Nat × List Nat) := [(0, [0]), (1, [0, 2]), (2, [2]), (3, [0, 2]), (4, [0, 2, 5]), (5, [19, 18, 17, 2, 5]), (6, [19, 17, 18, 2, 5]), (7, [7, 19, 18, 17, 2, 5, 6]), (8, [8, 19, 18, 17, 2, 5, 6]), (9, [8, 6, 2, 5, 19, 18, 17]), (10, [10, 6, 2, 5, 9, 19, 18, 17]), (11, [6, 2]), (12, [5, 9, 19, 18, 17, 2]), (13, [19, 18, 17, 2, 5]), (14, [5, 2]), (15, [11, 2, 5]), (16, [11, 2]), (17, [5, 2])]
def hd5x0 : Hints := [(15, [2, 5, 17, 18, 19], [2, 5, 50005000, 18000000000], [50005000])]
def h5x0s0 (N : Nat) : Sg Tryz.prog 0 5 := .start hd5x0 rg5x0
def S5x0x15 (w0 : Int) (w7 : LD) (w1 : Int) (w4 : Bool) (w5 : LD) (kr : Int → Bool → LD → Option R) (k0 : Int × Bool × LD → Option R) (k1 : Bool × LD → Option R) : Option R :=
 bif (decide (w1 < w0)) then
  bif (inB w1 w7.length) then
   bif (decide (w1.toNat < w7.length)) then
    bif ((Nat.blt (w7.getD w1.toNat (.i 0)).toS.length 4294967281) && (!([32] : List UInt8).isEmpty)) then
     bnd ((noEmpty (strsD (splitD (w7.getD w1.toNat (.i 0)).toS ([32] : List UInt8)))).length : Int) fun y0 =>
     bif (y0 == 0) then
      kr (IntKind.wrap .i64 (w1 + 1)) w4 w5
     else
      bnd (G14x0 N (noEmpty (strsD (splitD (w7.getD w1.toNat (.i 0)).toS ([32] : List UInt8))))) fun y1 =>
      bif y1.isSome then
       bif (!(y1.getD default).2.2.2.2.2.2.2.2.2) then
        k0 (w1, w4, w5)
       else
        bif (decide ((w5.length + 1) * 80 ≤ room) && decide ((w5.length + 1) ≤ strMax)) then
         bnd ((w5 ++ [(.a [(.i (y1.getD default).1), (.i (y1.getD default).2.1), (.i (y1.getD default).2.2.1), (.i (y1.getD default).2.2.2.1), (.i (y1.getD default).2.2.2.2.1), (.i (y1.getD default).2.2.2.2.2.1), (.i (y1.getD default).2.2.2.2.2.2.1), (.i (y1.getD default).2.2.2.2.2.2.2.1), (.s (y1.getD default).2.2.2.2.2.2.2.2.1)])]) : List D) fun y2 =>
         kr (IntKind.wrap .i64 (w1 + 1)) false y2
        else
         none
      else
       none
    else
     none
   else
    none
  else
   none
 else
  k1 (w4, w5)
def L5x0x15 (N : Nat) {R : Type} (w0 : Int) (w7 : LD) : Nat → Int → Bool → LD → (Int × Bool × LD → Option R) → (Bool × LD → Option R) → Option R
 | 0, _, _, _, _, _ => none
 | m + 1, w1, w4, w5, k0, k1 => S5x0x15 N w0 w7 w1 w4 w5 (fun w1 w4 w5 => L5x0x15 N w0 w7 m w1 w4 w5 k0 k1) k0 k1
def G5x0x15 (w0 : Int) (w7 : LD) (w1 : Int) (w4 : Bool) (w5 : LD) : Option (Sum (Int × Bool × LD) (Bool × LD)) := L5x0x15 N (R := (Sum (Int × Bool × LD) (Bool × LD))) w0 w7 N w1 w4 w5 (fun p => some (.inl p)) (fun p => some (.inr p))
def J5x0x15 (L x : List Lf) (kr : List Lf → Option R) (k0 : Int × Bool × LD → Option R) (k1 : Bool × LD → Option R) : Option R := S5x0x15 N (li L 0) (ll L 7) (li x 0) (lb x 1) (ll x 2) (fun w1 w4 w5 => kr [.i w1, .b w4, .l w5]) k0 k1
theorem sb5x0x15 (L x : List Lf) (kr : List Lf → Option R) (k0 : Int × Bool × LD → Option R) (k1 : Bool × LD → Option R) : J5x0x15 N L x kr k0 k1 = (J5x0x15 N L x (fun y => some (.inl y)) (fun p => some (.inr (.inl p))) (fun p => some (.inr (.inr p)))).bind (sumE kr (sumE k0 k1)) := by
 unfold J5x0x15 S5x0x15
 repeat' (first | with_reducible apply cond_b | (with_reducible apply bnd_b; intro _) | rfl)
def Q5x0x15 (L : List Lf) (m : Nat) (x : List Lf) : Option (Sum (Int × Bool × LD) (Bool × LD)) := L5x0x15 N (R := (Sum (Int × Bool × LD) (Bool × LD))) (li L 0) (ll L 7) m (li x 0) (lb x 1) (ll x 2) (fun p => some (.inl p)) (fun p => some (.inr p))
def sh5x0x15 : Sh := { tmps := [(2, .c (.p 2 0)), (5, .c (.p 5 0)), (17, .c (.o 18000000000)), (18, .c (.i .i64)), (19, .c (.i .i64))], mem := [(2, .box ([.sl 40])), (5, .box ([.o 50005000])), (50005000, .row 40 true), (18000000000, .row 9 true)] }
def K5x0x15w0 (L : List Lf) (p : Int × Bool × LD) : Ex × St := (.ret, ⟨[(2, .c (.p 2 0)), (3, .c (.i .i64 p.1)), (4, .c (.i .i64 6))], [(2, .box [.sl 40 true []]), (50005000, .row 40 true p.2.1 p.2.2), (5, .box [.o 50005000])]⟩)
def K5x0x15w1 (L : List Lf) (p : Bool × LD) : Ex × St := ((.exit 0), mg (ofSh sh5x0x15 L) [2, 5] [] [2, 50005000, 5] [(50005000, .row 40 true p.1 p.2)])
def A5x0x15 (L : List Lf) : List (Bool × (Ex × St)) := bnd (Q5x0x15 N L N (pk sh5x0x15 [1, 4, 5] L)) fun q => [((inlB q), K5x0x15w0 L (inlV q)), ((inrQ q).isSome, K5x0x15w1 L ((inrQ q).getD default))]
theorem step5x0x15 (m : Nat) (kn : St → Option (Ex × St)) (L x : List Lf) : lpB Tryz.prog (T14x0 N) (h5x0s0 N).h 0 5 15 sh5x0x15 [1, 4, 5] [2, 3, 4, 5] [2, 50005000, 5] (m + 100) kn L x = J5x0x15 N L x (fun y => kn (ofSh sh5x0x15 (mx sh5x0x15 [1, 4, 5] L y))) (fun p => some (K5x0x15w0 L p)) (fun p => some (K5x0x15w1 L p)) := by kernel_rfl
theorem ql5x0x15 (L : List Lf) (m : Nat) (x : List Lf) : Q5x0x15 N L (m + 1) x = J5x0x15 N L x (Q5x0x15 N L m) (fun p => some (.inl p)) (fun p => some (.inr p)) := by kernel_rfl
def h5x0s1 : Sg Tryz.prog 0 5 :=
 (h5x0s0 N).lp (A5x0x15 N) N progOk (T14x0_ok N) (fun m kn L x => (step5x0x15 N m kn L x).trans (sb5x0x15 N L x _ _ _)) (fun L m x => (ql5x0x15 N L m x).trans (sb5x0x15 N L x (Q5x0x15 N L m) (fun p => some (.inl p)) (fun p => some (.inr p)))) fun L x hx => (altS alt1) x hx
def F5x0 (v0 : LB) (k0 : Bool × LD × Int × Int → Option R) : Option R :=
 bif (decide ((v0.length : Int) > 100000)) then
  k0 (true, [], 0, 3)
 else
  bif ((Nat.blt v0.length 4294967281) && (!([10] : List UInt8).isEmpty)) then
   bnd (G5x0x15 N ((strsD (splitD v0 ([10] : List UInt8))).length : Int) (strsD (splitD v0 ([10] : List UInt8))) 0 true []) fun y0 =>
   bif (inlB y0) then
    k0 (true, [], (inlV y0).1, 6)
   else
    bif (inrQ y0).isSome then
     bnd (G15x0 N ((inrQ y0).getD default).2) fun y1 =>
     bif y1.isSome then
      bif ((y1.getD default) != 0) then
       k0 (true, [], 0, (y1.getD default))
      else
       k0 (((inrQ y0).getD default).1, ((inrQ y0).getD default).2, 0, 0)
     else
      none
    else
     none
  else
   none
def G5x0 (v0 : LB) : Option (Bool × LD × Int × Int) := F5x0 N v0 (fun p => some p)
theorem bind5x0 (v0 : LB) (k0 : Bool × LD × Int × Int → Option R) : F5x0 N v0 k0 = (G5x0 N v0).bind k0 := by
 unfold G5x0 F5x0
 repeat' (first | with_reducible apply cond_b | (with_reducible apply bnd_b; intro _) | rfl)
def sh5x0 : Sh := { tmps := [(0, .c (.s))], mem := [] }
def K5x0w0 (L : List Lf) (p : Bool × LD × Int × Int) : Res := ([.g [.sl 40 p.1 p.2.1], .c (.i .i64 p.2.2.1), .c (.i .i64 p.2.2.2)], [])
def A5x0 (L : List Lf) : List (Bool × Res) := bnd (F5x0 N (ls L 0) (fun p => some p)) fun q => [(q.isSome, K5x0w0 L (q.getD default))]
theorem raw5x0 (L : List Lf) : bd Tryz.prog (T14x0 N) (h5x0s1 N).h 5 sh5x0 L = F5x0 N (ls L 0) (fun p => some (K5x0w0 L p)) := by kernel_rfl
theorem ok5x0 : FnOk Tryz.prog 5 sh5x0 (A5x0 N) :=
 (h5x0s1 N).fn progOk (T14x0_ok N) fun L x hx => ((raw5x0 N L).trans ((bind5x0 N ..).trans (alt1 x hx)))
def T5x0 : Oracle := ext 5 (spSh sh5x0 (A5x0 N)) (T14x0 N)
theorem T5x0_ok : OracleOk Tryz.prog (T5x0 N) := FnOk.to (ok5x0 N) (T14x0_ok N)
def rg20x0 : List (Nat × List Nat) := [(0, [0, 1]), (1, [0, 1]), (2, []), (3, [0, 1]), (4, [13, 12, 0, 1]), (5, [13, 0, 1, 12]), (6, [0, 5, 1, 13, 12]), (7, []), (8, [13, 12, 0, 1]), (9, [])]
def hd20x0 : Hints := [(12, [0, 1, 12, 13], [], [])]
def h20x0s0 (N : Nat) : Sg Tryz.prog 0 20 := .start hd20x0 rg20x0
def S20x0x12 (N : Nat) (w1 w3 : LD) (w4 : Int) (w5 : Int) (kr : Int → Option R) (k0 : Unit → Option R) (k1 : Unit → Option R) : Option R :=
 bif (decide (w5 < w4)) then
  bif (inB w5 w1.length) then
   bif (inB w5 w3.length) then
    bnd (!((((w1.getD w5.toNat (.i 0)).cell 0).toI == ((w3.getD w5.toNat (.i 0)).cell 0).toI) && ((((w1.getD w5.toNat (.i 0)).cell 1).toI == ((w3.getD w5.toNat (.i 0)).cell 1).toI) && ((((w1.getD w5.toNat (.i 0)).cell 2).toI == ((w3.getD w5.toNat (.i 0)).cell 2).toI) && ((((w1.getD w5.toNat (.i 0)).cell 3).toI == ((w3.getD w5.toNat (.i 0)).cell 3).toI) && ((((w1.getD w5.toNat (.i 0)).cell 4).toI == ((w3.getD w5.toNat (.i 0)).cell 4).toI) && (((((w1.getD w5.toNat (.i 0)).cell 5).toI == ((w3.getD w5.toNat (.i 0)).cell 5).toI) && ((((w1.getD w5.toNat (.i 0)).cell 6).toI == ((w3.getD w5.toNat (.i 0)).cell 6).toI) && true)) && ((((w1.getD w5.toNat (.i 0)).cell 7).toI == ((w3.getD w5.toNat (.i 0)).cell 7).toI) && ((((w1.getD w5.toNat (.i 0)).cell 8).toS == ((w3.getD w5.toNat (.i 0)).cell 8).toS) && true))))))))) fun y0 =>
    bif y0 then
     k0 ()
    else
     kr (IntKind.wrap .i64 (w5 + 1))
   else
    none
  else
   none
 else
  k1 ()
def L20x0x12 (N : Nat) {R : Type} (w1 w3 : LD) (w4 : Int) : Nat → Int → (Unit → Option R) → (Unit → Option R) → Option R
 | 0, _, _, _ => none
 | m + 1, w5, k0, k1 => S20x0x12 N w1 w3 w4 w5 (fun w5 => L20x0x12 N w1 w3 w4 m w5 k0 k1) k0 k1
def G20x0x12 (w1 w3 : LD) (w4 : Int) (w5 : Int) : Option (Sum (Unit) (Unit)) := L20x0x12 N (R := (Sum (Unit) (Unit))) w1 w3 w4 N w5 (fun p => some (.inl p)) (fun p => some (.inr p))
def J20x0x12 (L x : List Lf) (kr : List Lf → Option R) (k0 : Unit → Option R) (k1 : Unit → Option R) : Option R := S20x0x12 N (ll L 1) (ll L 3) (li L 4) (li x 0) (fun w5 => kr [.i w5]) k0 k1
theorem sb20x0x12 (L x : List Lf) (kr : List Lf → Option R) (k0 : Unit → Option R) (k1 : Unit → Option R) : J20x0x12 N L x kr k0 k1 = (J20x0x12 N L x (fun y => some (.inl y)) (fun p => some (.inr (.inl p))) (fun p => some (.inr (.inr p)))).bind (sumE kr (sumE k0 k1)) := by
 unfold J20x0x12 S20x0x12
 repeat' (first | with_reducible apply cond_b | (with_reducible apply bnd_b; intro _) | rfl)
def Q20x0x12 (L : List Lf) (m : Nat) (x : List Lf) : Option (Sum (Unit) (Unit)) := L20x0x12 N (R := (Sum (Unit) (Unit))) (ll L 1) (ll L 3) (li L 4) m (li x 0) (fun p => some (.inl p)) (fun p => some (.inr p))
def sh20x0x12 : Sh := { tmps := [(0, .c (.sl 40)), (1, .c (.sl 40)), (12, .c (.i .i64)), (13, .c (.i .i64))], mem := [] }
def A20x0x12 (L : List Lf) : List (Bool × (Ex × St)) := bnd (Q20x0x12 N L N (pk sh20x0x12 [5] L)) fun q => [((inlB q), (.ret, ⟨[(4, .c (.b false))], []⟩)), ((inrQ q).isSome, ((.exit 0), ⟨[], []⟩))]
theorem step20x0x12 (m : Nat) (kn : St → Option (Ex × St)) (L x : List Lf) : lpB Tryz.prog (T5x0 N) (h20x0s0 N).h 0 20 12 sh20x0x12 [5] [4] [] (m + 100) kn L x = J20x0x12 N L x (fun y => kn (ofSh sh20x0x12 (mx sh20x0x12 [5] L y))) (fun _ => some (.ret, ⟨[(4, .c (.b false))], []⟩)) (fun _ => some ((.exit 0), ⟨[], []⟩)) := by kernel_rfl
theorem ql20x0x12 (L : List Lf) (m : Nat) (x : List Lf) : Q20x0x12 N L (m + 1) x = J20x0x12 N L x (Q20x0x12 N L m) (fun p => some (.inl p)) (fun p => some (.inr p)) := by kernel_rfl
def h20x0s1 : Sg Tryz.prog 0 20 :=
 (h20x0s0 N).lp (A20x0x12 N) N progOk (T5x0_ok N) (fun m kn L x => (step20x0x12 N m kn L x).trans (sb20x0x12 N L x _ _ _)) (fun L m x => (ql20x0x12 N L m x).trans (sb20x0x12 N L x (Q20x0x12 N L m) (fun p => some (.inl p)) (fun p => some (.inr p)))) fun L x hx => (altS alt1) x hx
def F20x0 (v1 v3 : LD) (k0 : Bool → Option R) : Option R :=
 bif ((v1.length : Int) != (v3.length : Int)) then
  k0 false
 else
  bnd (G20x0x12 N v1 v3 (v1.length : Int) 0) fun y0 =>
  bif (inlB y0) then
   k0 false
  else
   bif (inrQ y0).isSome then
    k0 true
   else
    none
def G20x0 (v1 v3 : LD) : Option (Bool) := F20x0 N v1 v3 (fun p => some p)
theorem bind20x0 (v1 v3 : LD) (k0 : Bool → Option R) : F20x0 N v1 v3 k0 = (G20x0 N v1 v3).bind k0 := by
 unfold G20x0 F20x0
 repeat' (first | with_reducible apply cond_b | (with_reducible apply bnd_b; intro _) | rfl)
def sh20x0 : Sh := { tmps := [(0, .c (.sl 40)), (1, .c (.sl 40))], mem := [] }
def A20x0 (L : List Lf) : List (Bool × Res) := bnd (F20x0 N (ll L 1) (ll L 3) (fun p => some p)) fun q => [(q.isSome, ([.c (.b (q.getD default))], []))]
theorem raw20x0 (L : List Lf) : bd Tryz.prog (T5x0 N) (h20x0s1 N).h 20 sh20x0 L = F20x0 N (ll L 1) (ll L 3) (fun p => some ([.c (.b p)], [])) := by kernel_rfl
theorem ok20x0 : FnOk Tryz.prog 20 sh20x0 (A20x0 N) :=
 (h20x0s1 N).fn progOk (T5x0_ok N) fun L x hx => ((raw20x0 N L).trans ((bind20x0 N ..).trans (alt1 x hx)))
def T20x0 : Oracle := ext 20 (spSh sh20x0 (A20x0 N)) (T5x0 N)
theorem T20x0_ok : OracleOk Tryz.prog (T20x0 N) := FnOk.to (ok20x0 N) (T5x0_ok N)
def rg7x0 : List (Nat × List Nat) := [(0, [0, 1]), (1, [2, 3])]
def hd7x0 : Hints := []
def h7x0s0 (N : Nat) : Sg Tryz.prog 0 7 := .start hd7x0 rg7x0
def F7x0 (v1 v3 : LD) (k0 : Bool → Option R) : Option R :=
 bnd (G20x0 N v1 v3) fun y0 =>
 bif y0.isSome then
  k0 (y0.getD default)
 else
  none
def G7x0 (v1 v3 : LD) : Option (Bool) := F7x0 N v1 v3 (fun p => some p)
theorem bind7x0 (v1 v3 : LD) (k0 : Bool → Option R) : F7x0 N v1 v3 k0 = (G7x0 N v1 v3).bind k0 := by
 unfold G7x0 F7x0
 repeat' (first | with_reducible apply cond_b | (with_reducible apply bnd_b; intro _) | rfl)
def sh7x0 : Sh := { tmps := [(0, .g ([.sl 40])), (1, .g ([.sl 40]))], mem := [] }
def A7x0 (L : List Lf) : List (Bool × Res) := bnd (F7x0 N (ll L 1) (ll L 3) (fun p => some p)) fun q => [(q.isSome, ([.c (.b (q.getD default))], []))]
theorem raw7x0 (L : List Lf) : bd Tryz.prog (T20x0 N) (h7x0s0 N).h 7 sh7x0 L = F7x0 N (ll L 1) (ll L 3) (fun p => some ([.c (.b p)], [])) := by kernel_rfl
theorem ok7x0 : FnOk Tryz.prog 7 sh7x0 (A7x0 N) :=
 (h7x0s0 N).fn progOk (T20x0_ok N) fun L x hx => ((raw7x0 N L).trans ((bind7x0 N ..).trans (alt1 x hx)))
def T7x0 : Oracle := ext 7 (spSh sh7x0 (A7x0 N)) (T20x0 N)
theorem T7x0_ok : OracleOk Tryz.prog (T7x0 N) := FnOk.to (ok7x0 N) (T20x0_ok N)
def rg4x0 : List (Nat × List Nat) := [(0, [0]), (1, [1]), (2, [1, 3, 4]), (3, [3, 5, 4, 6, 1]), (4, []), (5, [4, 3, 1]), (6, []), (7, [3, 1]), (8, [1, 7, 8, 9])]
def hd4x0 : Hints := [(25, [1, 7, 8, 9], [1, 7], [])]
def h4x0s0 (N : Nat) : Sg Tryz.prog 0 4 := .start hd4x0 rg4x0
def F4x0x25 (w0 w1 : Int) (w3 w5 : LD) (k0 : Bool → Option R) : Option R :=
 bnd (G7x0 N w3 w5) fun y0 =>
 bif y0.isSome then
  bnd (bif (bif (y0.getD default) then (w0 == 0) else false) then (w1 == 0) else false) fun y1 =>
  bif y1 then
   bnd (G8x0 N) fun y2 =>
   bif y2.isSome then
    k0 (y2.getD default)
   else
    none
  else
   k0 false
 else
  none
def G4x0x25 (w0 w1 : Int) (w3 w5 : LD) : Option (Bool) := F4x0x25 N w0 w1 w3 w5 (fun p => some p)
theorem bind4x0x25 (w0 w1 : Int) (w3 w5 : LD) (k0 : Bool → Option R) : F4x0x25 N w0 w1 w3 w5 k0 = (G4x0x25 N w0 w1 w3 w5).bind k0 := by
 unfold G4x0x25 F4x0x25
 repeat' (first | with_reducible apply cond_b | (with_reducible apply bnd_b; intro _) | rfl)
def J4x0x25 (L : List Lf) (k0 : Bool → Option R) : Option R := F4x0x25 N (li L 0) (li L 1) (ll L 3) (ll L 5) k0
def sh4x0x25 : Sh := { tmps := [(1, .c (.p 1 0)), (7, .c (.p 7 0)), (8, .c (.i .i64)), (9, .c (.i .i64))], mem := [(1, .box ([.sl 40])), (7, .box ([.sl 40]))] }
def A4x0x25 (L : List Lf) : List (Bool × (Ex × St)) := bnd (J4x0x25 N L (fun p => some p)) fun q => [(q.isSome, (.normal, ⟨[(2, .c (.b (q.getD default)))], []⟩))]
theorem raw4x0x25 (L : List Lf) : pc Tryz.prog (T7x0 N) (h4x0s0 N).h 0 100 4 25 sh4x0x25 L [2] [] = J4x0x25 N L (fun p => some (.normal, ⟨[(2, .c (.b p))], []⟩)) := by kernel_rfl
def h4x0s1 : Sg Tryz.prog 0 4 :=
 (h4x0s0 N).cut (A4x0x25 N) progOk (T7x0_ok N) fun L x hx => (raw4x0x25 N L).trans ((bind4x0x25 N ..).trans (alt1 x hx))
def F4x0 (v1 : LD) (k0 : Bool → Option R) : Option R :=
 bnd (G9x0 N v1) fun y0 =>
 bif y0.isSome then
  bnd (G10x0 N v1) fun y1 =>
  bif y1.isSome then
   bnd (bif (!((y0.getD default).1 == (y1.getD default).1)) then true else ((y0.getD default).2 != (y1.getD default).2)) fun y2 =>
   bif y2 then
    k0 false
   else
    bif ((y0.getD default).2 != 0) then
     bnd (G8x0 N) fun y3 =>
     bif y3.isSome then
      k0 (y3.getD default)
     else
      none
    else
     bnd (G5x0 N (y0.getD default).1) fun y4 =>
     bif y4.isSome then
      bnd (G4x0x25 N (y4.getD default).2.2.1 (y4.getD default).2.2.2 v1 (y4.getD default).2.1) fun y5 =>
      bif y5.isSome then
       k0 (y5.getD default)
      else
       none
     else
      none
  else
   none
 else
  none
def G4x0 (v1 : LD) : Option (Bool) := F4x0 N v1 (fun p => some p)
theorem bind4x0 (v1 : LD) (k0 : Bool → Option R) : F4x0 N v1 k0 = (G4x0 N v1).bind k0 := by
 unfold G4x0 F4x0
 repeat' (first | with_reducible apply cond_b | (with_reducible apply bnd_b; intro _) | rfl)
def sh4x0 : Sh := { tmps := [(0, .g ([.sl 40]))], mem := [] }
def A4x0 (L : List Lf) : List (Bool × Res) := bnd (F4x0 N (ll L 1) (fun p => some p)) fun q => [(q.isSome, ([.c (.b (q.getD default))], []))]
theorem raw4x0 (L : List Lf) : bd Tryz.prog (T7x0 N) (h4x0s1 N).h 4 sh4x0 L = F4x0 N (ll L 1) (fun p => some ([.c (.b p)], [])) := by kernel_rfl
theorem ok4x0 : FnOk Tryz.prog 4 sh4x0 (A4x0 N) :=
 (h4x0s1 N).fn progOk (T7x0_ok N) fun L x hx => ((raw4x0 N L).trans ((bind4x0 N ..).trans (alt1 x hx)))
def T4x0 : Oracle := ext 4 (spSh sh4x0 (A4x0 N)) (T7x0 N)
theorem T4x0_ok : OracleOk Tryz.prog (T4x0 N) := FnOk.to (ok4x0 N) (T7x0_ok N)
end
end Go.Proofs.YtohplnjpncjhoaaGreatDoor
