/- Functions of the program as plain Lean definitions, each with the proof that the program computes it. No condition. Printed by a program of the prover, part 2. -/
import Derived.Test.YtefmjfcdgadggaaG10p1
import Derived.KernelRfl
set_option linter.all false
set_option maxRecDepth 100000
namespace Go.Proofs.Ytefmjfcdgadggaa
open Go Go.AM
variable (N : Nat) {R : Type}
noncomputable def J62x0x75059 (L : List Lf) (k0 : Bool → Option R) (k1 : Unit → Option R) : Option R := F62x0x75059 N (ll L 1) (ll L 3) (li L 4) (lb L 5) (li L 8) (ll L 10) (li L 14) (li L 15) (li L 16) (li L 17) (ls L 18) k0 k1
noncomputable def sh62x0x75059 : Sh := { tmps := [(2, .c (.sl 3)), (3, .c (.p 3 0)), (4, .c (.p 4 0)), (7, .c (.sl 3)), (28, .c (.i .i64)), (94, .c (.b))], mem := [(3, .box ([.i .i64, .i .i64, .i .i64, .sl 66, .sl 68])), (4, .box (rI 5 ([.s])))] }
noncomputable def A62x0x75059 (L : List Lf) : List (Bool × (Ex × St)) := bnd (J62x0x75059 N L (fun p => some (.inl p)) (fun p => some (.inr p))) fun q => [((inlB q), (.ret, ⟨[(6, .c (.b (inlV q)))], []⟩)), ((inrQ q).isSome, (.normal, ⟨[], []⟩))]
theorem raw62x0x75059 (L : List Lf) : pc Try.prog (T71x0 N) (h62x0s16 N).h 0 100 62 75059 sh62x0x75059 L [6] [] = J62x0x75059 N L (fun p => some (.ret, ⟨[(6, .c (.b p))], []⟩)) (fun _ => some (.normal, ⟨[], []⟩)) := by kernel_rfl
noncomputable def h62x0s17 : Sg Try.prog 0 62 :=
  (h62x0s16 N).cut (A62x0x75059 N) progOk (T71x0_ok N) fun L x hx => (raw62x0x75059 N L).trans ((bind62x0x75059 N ..).trans ((altS alt1) x hx))
noncomputable def F62x0x54035 (w1 w3 : LD) (w4 : Int) (w5 : Bool) (w6 w8 : Int) (w10 : LD) (w13 w14 w15 w16 w17 : Int) (w18 : LB) (k0 : Bool → Option R) (k1 : Unit → Option R) : Option R :=
  bif w5 then
    bnd (G62x0x36 N w1 (w1.length : Int) w6 w10 w13 w14 w15 0) fun y0 =>
    bif (inlB y0) then
      k0 false
    else
      bif (inrQ y0).isSome then
        k1 ()
      else
        none
  else
    bnd (G62x0x75059 N w1 w3 w4 (w4 == 3) w8 w10 w14 w15 w16 w17 w18) fun y1 =>
    bif (inlB y1) then
      k0 (inlV y1)
    else
      bif (inrQ y1).isSome then
        k1 ()
      else
        none
noncomputable def G62x0x54035 (w1 w3 : LD) (w4 : Int) (w5 : Bool) (w6 w8 : Int) (w10 : LD) (w13 w14 w15 w16 w17 : Int) (w18 : LB) : Option (Sum (Bool) (Unit)) := F62x0x54035 N w1 w3 w4 w5 w6 w8 w10 w13 w14 w15 w16 w17 w18 (fun p => some (.inl p)) (fun p => some (.inr p))
theorem bind62x0x54035 (w1 w3 : LD) (w4 : Int) (w5 : Bool) (w6 w8 : Int) (w10 : LD) (w13 w14 w15 w16 w17 : Int) (w18 : LB) (k0 : Bool → Option R) (k1 : Unit → Option R) : F62x0x54035 N w1 w3 w4 w5 w6 w8 w10 w13 w14 w15 w16 w17 w18 k0 k1 = (G62x0x54035 N w1 w3 w4 w5 w6 w8 w10 w13 w14 w15 w16 w17 w18).bind (sumE k0 k1) := by
  unfold G62x0x54035 F62x0x54035
  repeat' (first | rfl | apply cond_b | (apply bnd_b; intro _))
noncomputable def J62x0x54035 (L : List Lf) (k0 : Bool → Option R) (k1 : Unit → Option R) : Option R := F62x0x54035 N (ll L 1) (ll L 3) (li L 4) (lb L 5) (li L 6) (li L 8) (ll L 10) (li L 13) (li L 14) (li L 15) (li L 16) (li L 17) (ls L 18) k0 k1
noncomputable def sh62x0x54035 : Sh := { tmps := [(2, .c (.sl 3)), (3, .c (.p 3 0)), (4, .c (.p 4 0)), (7, .c (.sl 3)), (28, .c (.i .i64)), (54, .c (.b))], mem := [(3, .box ([.i .i64, .i .i64, .i .i64, .sl 66, .sl 68])), (4, .box (rI 5 ([.s])))] }
noncomputable def A62x0x54035 (L : List Lf) : List (Bool × (Ex × St)) := bnd (J62x0x54035 N L (fun p => some (.inl p)) (fun p => some (.inr p))) fun q => [((inlB q), (.ret, ⟨[(6, .c (.b (inlV q)))], []⟩)), ((inrQ q).isSome, (.normal, ⟨[], []⟩))]
theorem raw62x0x54035 (L : List Lf) : pc Try.prog (T71x0 N) (h62x0s17 N).h 0 100 62 54035 sh62x0x54035 L [6] [] = J62x0x54035 N L (fun p => some (.ret, ⟨[(6, .c (.b p))], []⟩)) (fun _ => some (.normal, ⟨[], []⟩)) := by kernel_rfl
noncomputable def h62x0s18 : Sg Try.prog 0 62 :=
  (h62x0s17 N).cut (A62x0x54035 N) progOk (T71x0_ok N) fun L x hx => (raw62x0x54035 N L).trans ((bind62x0x54035 N ..).trans ((altS alt1) x hx))
noncomputable def F62x0 (v0 v2 : Int) (v4 : LD) (v7 v8 v9 v10 v11 : Int) (v12 : LB) (v14 : LD) (k0 : Bool → Option R) : Option R :=
  bnd (G71x0 N v4 v14) fun y0 =>
  bif y0.isSome then
    bnd (V62x0x30002 N v7 (v7 == 1)) fun y1 =>
    bnd (G62x0x54035 N v14 (y0.getD default).2 v7 y1 v0 v2 v4 v7 v8 v9 v10 v11 v12) fun y2 =>
    bif (inlB y2) then
      k0 (inlV y2)
    else
      bif (inrQ y2).isSome then
        k0 true
      else
        none
  else
    none
noncomputable def G62x0 (v0 v2 : Int) (v4 : LD) (v7 v8 v9 v10 v11 : Int) (v12 : LB) (v14 : LD) : Option (Bool) := F62x0 N v0 v2 v4 v7 v8 v9 v10 v11 v12 v14 (fun p => some p)
theorem bind62x0 (v0 v2 : Int) (v4 : LD) (v7 v8 v9 v10 v11 : Int) (v12 : LB) (v14 : LD) (k0 : Bool → Option R) : F62x0 N v0 v2 v4 v7 v8 v9 v10 v11 v12 v14 k0 = (G62x0 N v0 v2 v4 v7 v8 v9 v10 v11 v12 v14).bind k0 := by
  unfold G62x0 F62x0
  repeat' (first | rfl | apply cond_b | (apply bnd_b; intro _))
noncomputable def J62x0 (L : List Lf) (k0 : Bool → Option R) : Option R := F62x0 N (li L 0) (li L 2) (ll L 4) (li L 7) (li L 8) (li L 9) (li L 10) (li L 11) (ls L 12) (ll L 14) k0
noncomputable def sh62x0 : Sh := { tmps := [(0, .g ([.i .i64, .i .i64, .i .i64, .sl 66, .sl 68])), (1, .g (rI 5 ([.s]))), (2, .c (.sl 3))], mem := [] }
noncomputable def A62x0 (L : List Lf) : List (Bool × Res) := bnd (J62x0 N L (fun p => some p)) fun q => [(q.isSome, ([.c (.b (q.getD default))], []))]
theorem raw62x0 (L : List Lf) : bd Try.prog (T71x0 N) (h62x0s18 N).h 62 sh62x0 L = J62x0 N L (fun p => some ([.c (.b p)], [])) := by kernel_rfl
theorem ok62x0 : FnOk Try.prog 62 sh62x0 (A62x0 N) :=
  (h62x0s18 N).fn progOk (T71x0_ok N) fun L x hx => ((raw62x0 N L).trans ((bind62x0 N ..).trans (alt1 x hx)))
noncomputable def T62x0 : Oracle := ext 62 (spSh sh62x0 (A62x0 N)) (T71x0 N)
theorem T62x0_ok : OracleOk Try.prog (T62x0 N) := FnOk.to (ok62x0 N) (T71x0_ok N)
noncomputable def rg36x0 : List (Nat × List Nat) := [(0, [0, 2, 1]), (1, [3, 2, 1]), (2, [8, 1, 3, 2]), (3, [8]), (4, [1, 3, 2]), (5, []), (6, [3, 1, 2])]
noncomputable def hd36x0 : Hints := []
noncomputable def h36x0s0 (N : Nat) : Sg Try.prog 0 36 := .start hd36x0 rg36x0
noncomputable def F36x0 (v0 v1 v2 : Int) (v4 v6 : LD) (v7 : Int) (v9 : LD) (k0 : Bool × Int → Option R) : Option R :=
  bnd (G58x0 N v0 v1 v2 v4 v6 v9) fun y0 =>
  bif y0.isSome then
    bif ((y0.getD default) != 0) then
      k0 (false, (y0.getD default))
    else
      bnd (V50x0 N v7 0 (IntKind.wrap .i64 ((v6.length : Int) - 1))) fun y1 =>
      bif y1 then
        k0 (false, 4)
      else
        bif (inB v7 v6.length) then
          bnd (G62x0 N v0 v2 v4 ((v6.getD v7.toNat (.i 0)).cell 0).toI ((v6.getD v7.toNat (.i 0)).cell 1).toI ((v6.getD v7.toNat (.i 0)).cell 2).toI ((v6.getD v7.toNat (.i 0)).cell 3).toI ((v6.getD v7.toNat (.i 0)).cell 4).toI ((v6.getD v7.toNat (.i 0)).cell 5).toS v9) fun y2 =>
          bif y2.isSome then
            k0 ((y2.getD default), 0)
          else
            none
        else
          none
  else
    none
noncomputable def G36x0 (v0 v1 v2 : Int) (v4 v6 : LD) (v7 : Int) (v9 : LD) : Option (Bool × Int) := F36x0 N v0 v1 v2 v4 v6 v7 v9 (fun p => some p)
theorem bind36x0 (v0 v1 v2 : Int) (v4 v6 : LD) (v7 : Int) (v9 : LD) (k0 : Bool × Int → Option R) : F36x0 N v0 v1 v2 v4 v6 v7 v9 k0 = (G36x0 N v0 v1 v2 v4 v6 v7 v9).bind k0 := by
  unfold G36x0 F36x0
  repeat' (first | rfl | apply cond_b | (apply bnd_b; intro _))
noncomputable def J36x0 (L : List Lf) (k0 : Bool × Int → Option R) : Option R := F36x0 N (li L 0) (li L 1) (li L 2) (ll L 4) (ll L 6) (li L 7) (ll L 9) k0
noncomputable def sh36x0 : Sh := { tmps := [(0, .g ([.i .i64, .i .i64, .i .i64, .sl 66, .sl 68])), (1, .c (.i .i64)), (2, .c (.sl 3))], mem := [] }
noncomputable def A36x0 (L : List Lf) : List (Bool × Res) := bnd (J36x0 N L (fun p => some p)) fun q => [(q.isSome, ([.c (.b (q.getD default).1), .c (.i .i64 (q.getD default).2)], []))]
theorem raw36x0 (L : List Lf) : bd Try.prog (T62x0 N) (h36x0s0 N).h 36 sh36x0 L = J36x0 N L (fun p => some ([.c (.b p.1), .c (.i .i64 p.2)], [])) := by kernel_rfl
theorem ok36x0 : FnOk Try.prog 36 sh36x0 (A36x0 N) :=
  (h36x0s0 N).fn progOk (T62x0_ok N) fun L x hx => ((raw36x0 N L).trans ((bind36x0 N ..).trans (alt1 x hx)))
noncomputable def T36x0 : Oracle := ext 36 (spSh sh36x0 (A36x0 N)) (T62x0 N)
theorem T36x0_ok : OracleOk Try.prog (T36x0 N) := FnOk.to (ok36x0 N) (T62x0_ok N)
noncomputable def rg37x0 : List (Nat × List Nat) := [(0, [0, 1]), (1, [2, 1]), (2, [6, 2, 1]), (3, [6]), (4, [2, 1]), (5, [2, 1, 7]), (6, [18, 17, 2, 1, 7]), (7, [18, 2, 1, 7, 17]), (8, [2, 8, 1, 7, 18, 17]), (9, [7, 8, 18, 17, 2, 1]), (10, [18, 17, 2, 1, 7]), (11, [7])]
noncomputable def hd37x0 : Hints := [(18, [18, 17, 2, 1, 7], [2, 7], [7]), (29, [7, 8, 18, 17, 2, 1, 25], [7, 2], [])]
noncomputable def h37x0s0 (N : Nat) : Sg Try.prog 0 37 := .start hd37x0 rg37x0
noncomputable def F37x0x29 (N : Nat) (w2 : Int) (w5 : Bool) (w14 : LD) (k0 : LD → Option R) (k1 : Unit → Option R) : Option R :=
  bif w5 then
    bif (decide ((w14.length + 1) * 8 ≤ room) && decide ((w14.length + 1) ≤ strMax)) then
      k0 (w14 ++ [(.i w2)])
    else
      none
  else
    k1 ()
noncomputable def G37x0x29 (w2 : Int) (w5 : Bool) (w14 : LD) : Option (Sum (LD) (Unit)) := F37x0x29 N w2 w5 w14 (fun p => some (.inl p)) (fun p => some (.inr p))
theorem bind37x0x29 (w2 : Int) (w5 : Bool) (w14 : LD) (k0 : LD → Option R) (k1 : Unit → Option R) : F37x0x29 N w2 w5 w14 k0 k1 = (G37x0x29 N w2 w5 w14).bind (sumE k0 k1) := by
  unfold G37x0x29 F37x0x29
  repeat' (first | rfl | apply cond_b | (apply bnd_b; intro _))
noncomputable def sh37x0x29 : Sh := { tmps := [(1, .c (.sl 3)), (2, .c (.p 2 0)), (7, .c (.o 7)), (8, .c (.i .i64)), (17, .c (.i .i64)), (18, .c (.i .i64)), (25, .c (.b))], mem := [(2, .box ([.i .i64, .i .i64, .i .i64, .sl 66, .sl 68])), (7, .row 3 true)] }
noncomputable def K37x0x29w0 (L : List Lf) (p : LD) : Ex × St := (.normal, mg (ofSh sh37x0x29 L) [1, 2, 7, 17, 18] [(7, .c (.o 29))] [2, 29] [(29, .row 3 true false p)])
noncomputable def K37x0x29w1 (L : List Lf) (_ : Unit) : Ex × St := (.normal, mg (ofSh sh37x0x29 L) [1, 2, 7, 17, 18] [] [2, 7] [])
noncomputable def A37x0x29 (L : List Lf) : List (Bool × (Ex × St)) := bnd (F37x0x29 N (li L 2) (lb L 5) (ll L 14) (fun p => some (.inl p)) (fun p => some (.inr p))) fun q => [((inlB q), K37x0x29w0 L (inlV q)), ((inrQ q).isSome, K37x0x29w1 L ())]
theorem raw37x0x29 (L : List Lf) : pc Try.prog (T36x0 N) (h37x0s0 N).h 0 100 37 29 sh37x0x29 L [18, 17, 2, 1, 7] [29, 2, 7] = F37x0x29 N (li L 2) (lb L 5) (ll L 14) (fun p => some (K37x0x29w0 L p)) (fun _ => some (K37x0x29w1 L ())) := by kernel_rfl
noncomputable def h37x0s1 : Sg Try.prog 0 37 :=
  (h37x0s0 N).cut (A37x0x29 N) progOk (T36x0_ok N) fun L x hx => (raw37x0x29 N L).trans ((bind37x0x29 N ..).trans ((altS alt1) x hx))
noncomputable def S37x0x18 (w1 : LD) (w2 w4 w5 w6 : Int) (w8 w10 : LD) (w3 : Int) (w11 : Bool) (w12 : LD) (kr : Int → Bool → LD → Option R) (k0 : Bool × LD → Option R) : Option R :=
  bif (decide (w3 < w2)) then
    bnd (G69x0 N w4 w5 w6 w8 w10 w3 w1) fun y0 =>
    bif y0.isSome then
      bnd (G37x0x29 N w3 (!(y0.getD default)) w12) fun y1 =>
      bif (inlB y1) then
        kr (IntKind.wrap .i64 (w3 + 1)) false (inlV y1)
      else
        bif (inrQ y1).isSome then
          kr (IntKind.wrap .i64 (w3 + 1)) w11 w12
        else
          none
    else
      none
  else
    k0 (w11, w12)
noncomputable def L37x0x18 (N : Nat) {R : Type} (w1 : LD) (w2 w4 w5 w6 : Int) (w8 w10 : LD) : Nat → Int → Bool → LD → (Bool × LD → Option R) → Option R
  | 0, _, _, _, _ => none
  | m + 1, w3, w11, w12, k0 => S37x0x18 N w1 w2 w4 w5 w6 w8 w10 w3 w11 w12 (fun w3 w11 w12 => L37x0x18 N w1 w2 w4 w5 w6 w8 w10 m w3 w11 w12 k0) k0
noncomputable def G37x0x18 (w1 : LD) (w2 w4 w5 w6 : Int) (w8 w10 : LD) (w3 : Int) (w11 : Bool) (w12 : LD) : Option (Bool × LD) := L37x0x18 N (R := (Bool × LD)) w1 w2 w4 w5 w6 w8 w10 N w3 w11 w12 (fun p => some p)
noncomputable def J37x0x18 (L x : List Lf) (kr : List Lf → Option R) (k0 : Bool × LD → Option R) : Option R := S37x0x18 N (ll L 1) (li L 2) (li L 4) (li L 5) (li L 6) (ll L 8) (ll L 10) (li x 0) (lb x 1) (ll x 2) (fun w3 w11 w12 => kr [.i w3, .b w11, .l w12]) k0
theorem sb37x0x18 (L x : List Lf) (kr : List Lf → Option R) (k0 : Bool × LD → Option R) : J37x0x18 N L x kr k0 = (J37x0x18 N L x (fun y => some (.inl y)) (fun p => some (.inr p))).bind (sumE kr k0) := by
  unfold J37x0x18 S37x0x18
  repeat' (first | rfl | apply cond_b | (apply bnd_b; intro _))
noncomputable def Q37x0x18 (L : List Lf) (m : Nat) (x : List Lf) : Option (Bool × LD) := L37x0x18 N (R := (Bool × LD)) (ll L 1) (li L 2) (li L 4) (li L 5) (li L 6) (ll L 8) (ll L 10) m (li x 0) (lb x 1) (ll x 2) (fun p => some p)
noncomputable def sh37x0x18 : Sh := { tmps := [(1, .c (.sl 3)), (2, .c (.p 2 0)), (7, .c (.o 7)), (17, .c (.i .i64)), (18, .c (.i .i64))], mem := [(2, .box ([.i .i64, .i .i64, .i .i64, .sl 66, .sl 68])), (7, .row 3 true)] }
noncomputable def A37x0x18 (L : List Lf) : List (Bool × (Ex × St)) := bnd (Q37x0x18 N L N (pk sh37x0x18 [3, 11, 12] L)) fun q => [(q.isSome, ((.exit 0), ⟨[(7, .c (.o 7))], [(7, .row 3 true (q.getD default).1 (q.getD default).2)]⟩))]
theorem step37x0x18 (m : Nat) (kn : St → Option (Ex × St)) (L x : List Lf) : lpB Try.prog (T36x0 N) (h37x0s1 N).h 0 37 18 sh37x0x18 [3, 11, 12] [4, 5, 7] [7] (m + 100) kn L x = J37x0x18 N L x (fun y => kn (ofSh sh37x0x18 (mx sh37x0x18 [3, 11, 12] L y))) (fun p => some ((.exit 0), ⟨[(7, .c (.o 7))], [(7, .row 3 true p.1 p.2)]⟩)) := by kernel_rfl
noncomputable def h37x0s2 : Sg Try.prog 0 37 :=
  (h37x0s1 N).lp (A37x0x18 N) N progOk (T36x0_ok N) (fun m kn L x => (step37x0x18 N m kn L x).trans (sb37x0x18 N L x _ _)) (fun L m x => sb37x0x18 N L x (Q37x0x18 N L m) some) fun L x hx => alt1 x hx
noncomputable def F37x0 (v0 v1 v2 : Int) (v4 v6 v8 : LD) (k0 : Bool × LD × Int → Option R) : Option R :=
  bnd (G57x0 N v0 v1 v2 v4 v6 v8) fun y0 =>
  bif y0.isSome then
    bif ((y0.getD default) != 0) then
      k0 (true, [], (y0.getD default))
    else
      bnd (G37x0x18 N v8 (v6.length : Int) v0 v1 v2 v4 v6 0 true []) fun y1 =>
      bif y1.isSome then
        k0 ((y1.getD default).1, (y1.getD default).2, 0)
      else
        none
  else
    none
noncomputable def G37x0 (v0 v1 v2 : Int) (v4 v6 v8 : LD) : Option (Bool × LD × Int) := F37x0 N v0 v1 v2 v4 v6 v8 (fun p => some p)
theorem bind37x0 (v0 v1 v2 : Int) (v4 v6 v8 : LD) (k0 : Bool × LD × Int → Option R) : F37x0 N v0 v1 v2 v4 v6 v8 k0 = (G37x0 N v0 v1 v2 v4 v6 v8).bind k0 := by
  unfold G37x0 F37x0
  repeat' (first | rfl | apply cond_b | (apply bnd_b; intro _))
noncomputable def J37x0 (L : List Lf) (k0 : Bool × LD × Int → Option R) : Option R := F37x0 N (li L 0) (li L 1) (li L 2) (ll L 4) (ll L 6) (ll L 8) k0
noncomputable def sh37x0 : Sh := { tmps := [(0, .g ([.i .i64, .i .i64, .i .i64, .sl 66, .sl 68])), (1, .c (.sl 3))], mem := [] }
noncomputable def A37x0 (L : List Lf) : List (Bool × Res) := bnd (J37x0 N L (fun p => some p)) fun q => [(q.isSome, ([.c (.sl 3 (q.getD default).1 (q.getD default).2.1), .c (.i .i64 (q.getD default).2.2)], []))]
theorem raw37x0 (L : List Lf) : bd Try.prog (T36x0 N) (h37x0s2 N).h 37 sh37x0 L = J37x0 N L (fun p => some ([.c (.sl 3 p.1 p.2.1), .c (.i .i64 p.2.2)], [])) := by kernel_rfl
theorem ok37x0 : FnOk Try.prog 37 sh37x0 (A37x0 N) :=
  (h37x0s2 N).fn progOk (T36x0_ok N) fun L x hx => ((raw37x0 N L).trans ((bind37x0 N ..).trans (alt1 x hx)))
noncomputable def T37x0 : Oracle := ext 37 (spSh sh37x0 (A37x0 N)) (T36x0 N)
theorem T37x0_ok : OracleOk Try.prog (T37x0 N) := FnOk.to (ok37x0 N) (T36x0_ok N)
noncomputable def rg28x0 : List (Nat × List Nat) := [(0, [0, 1]), (1, [2, 1]), (2, [6, 2, 1]), (3, [6]), (4, [2, 1]), (5, [2, 1, 7]), (6, [19, 18, 17, 2, 1, 7]), (7, [19, 17, 2, 1, 7, 18]), (8, [2, 9, 1, 7, 8, 19, 18, 17]), (9, [7, 8, 19, 18, 17, 2, 1]), (10, [19, 18, 17, 2, 1, 7]), (11, [7])]
noncomputable def hd28x0 : Hints := [(18, [19, 18, 17, 2, 1, 7], [2, 7], [7]), (29, [7, 8, 19, 18, 17, 2, 1, 28], [7, 2], [])]
noncomputable def h28x0s0 (N : Nat) : Sg Try.prog 0 28 := .start hd28x0 rg28x0
noncomputable def F28x0x29 (N : Nat) (w2 : Int) (w7 : Bool) (w16 : LD) (k0 : LD → Option R) (k1 : Unit → Option R) : Option R :=
  bif w7 then
    bif (decide ((w16.length + 1) * 8 ≤ room) && decide ((w16.length + 1) ≤ strMax)) then
      k0 (w16 ++ [(.i w2)])
    else
      none
  else
    k1 ()
noncomputable def G28x0x29 (w2 : Int) (w7 : Bool) (w16 : LD) : Option (Sum (LD) (Unit)) := F28x0x29 N w2 w7 w16 (fun p => some (.inl p)) (fun p => some (.inr p))
theorem bind28x0x29 (w2 : Int) (w7 : Bool) (w16 : LD) (k0 : LD → Option R) (k1 : Unit → Option R) : F28x0x29 N w2 w7 w16 k0 k1 = (G28x0x29 N w2 w7 w16).bind (sumE k0 k1) := by
  unfold G28x0x29 F28x0x29
  repeat' (first | rfl | apply cond_b | (apply bnd_b; intro _))
noncomputable def sh28x0x29 : Sh := { tmps := [(1, .c (.sl 3)), (2, .c (.p 2 0)), (7, .c (.o 7)), (8, .c (.i .i64)), (17, .c (.sl 68)), (18, .c (.i .i64)), (19, .c (.i .i64)), (28, .c (.b))], mem := [(2, .box ([.i .i64, .i .i64, .i .i64, .sl 66, .sl 68])), (7, .row 3 true)] }
noncomputable def K28x0x29w0 (L : List Lf) (p : LD) : Ex × St := (.normal, mg (ofSh sh28x0x29 L) [1, 2, 7, 17, 18, 19] [(7, .c (.o 32))] [2, 32] [(32, .row 3 true false p)])
noncomputable def K28x0x29w1 (L : List Lf) (_ : Unit) : Ex × St := (.normal, mg (ofSh sh28x0x29 L) [1, 2, 7, 17, 18, 19] [] [2, 7] [])
noncomputable def A28x0x29 (L : List Lf) : List (Bool × (Ex × St)) := bnd (F28x0x29 N (li L 2) (lb L 7) (ll L 16) (fun p => some (.inl p)) (fun p => some (.inr p))) fun q => [((inlB q), K28x0x29w0 L (inlV q)), ((inrQ q).isSome, K28x0x29w1 L ())]
theorem raw28x0x29 (L : List Lf) : pc Try.prog (T37x0 N) (h28x0s0 N).h 0 100 28 29 sh28x0x29 L [19, 18, 17, 2, 1, 7] [32, 2, 7] = F28x0x29 N (li L 2) (lb L 7) (ll L 16) (fun p => some (K28x0x29w0 L p)) (fun _ => some (K28x0x29w1 L ())) := by kernel_rfl
noncomputable def h28x0s1 : Sg Try.prog 0 28 :=
  (h28x0s0 N).cut (A28x0x29 N) progOk (T37x0_ok N) fun L x hx => (raw28x0x29 N L).trans ((bind28x0x29 N ..).trans ((altS alt1) x hx))
noncomputable def S28x0x18 (w1 w3 : LD) (w4 w6 w8 : Int) (w10 : LD) (w5 : Int) (w13 : Bool) (w14 : LD) (kr : Int → Bool → LD → Option R) (k0 : Bool × LD → Option R) : Option R :=
  bif (decide (w5 < w4)) then
    bif (inB w5 w3.length) then
      bnd (G62x0 N w6 w8 w10 ((w3.getD w5.toNat (.i 0)).cell 0).toI ((w3.getD w5.toNat (.i 0)).cell 1).toI ((w3.getD w5.toNat (.i 0)).cell 2).toI ((w3.getD w5.toNat (.i 0)).cell 3).toI ((w3.getD w5.toNat (.i 0)).cell 4).toI ((w3.getD w5.toNat (.i 0)).cell 5).toS w1) fun y0 =>
      bif y0.isSome then
        bnd (G28x0x29 N w5 (!(y0.getD default)) w14) fun y1 =>
        bif (inlB y1) then
          kr (IntKind.wrap .i64 (w5 + 1)) false (inlV y1)
        else
          bif (inrQ y1).isSome then
            kr (IntKind.wrap .i64 (w5 + 1)) w13 w14
          else
            none
      else
        none
    else
      none
  else
    k0 (w13, w14)
noncomputable def L28x0x18 (N : Nat) {R : Type} (w1 w3 : LD) (w4 w6 w8 : Int) (w10 : LD) : Nat → Int → Bool → LD → (Bool × LD → Option R) → Option R
  | 0, _, _, _, _ => none
  | m + 1, w5, w13, w14, k0 => S28x0x18 N w1 w3 w4 w6 w8 w10 w5 w13 w14 (fun w5 w13 w14 => L28x0x18 N w1 w3 w4 w6 w8 w10 m w5 w13 w14 k0) k0
noncomputable def G28x0x18 (w1 w3 : LD) (w4 w6 w8 : Int) (w10 : LD) (w5 : Int) (w13 : Bool) (w14 : LD) : Option (Bool × LD) := L28x0x18 N (R := (Bool × LD)) w1 w3 w4 w6 w8 w10 N w5 w13 w14 (fun p => some p)
noncomputable def J28x0x18 (L x : List Lf) (kr : List Lf → Option R) (k0 : Bool × LD → Option R) : Option R := S28x0x18 N (ll L 1) (ll L 3) (li L 4) (li L 6) (li L 8) (ll L 10) (li x 0) (lb x 1) (ll x 2) (fun w5 w13 w14 => kr [.i w5, .b w13, .l w14]) k0
theorem sb28x0x18 (L x : List Lf) (kr : List Lf → Option R) (k0 : Bool × LD → Option R) : J28x0x18 N L x kr k0 = (J28x0x18 N L x (fun y => some (.inl y)) (fun p => some (.inr p))).bind (sumE kr k0) := by
  unfold J28x0x18 S28x0x18
  repeat' (first | rfl | apply cond_b | (apply bnd_b; intro _))
noncomputable def Q28x0x18 (L : List Lf) (m : Nat) (x : List Lf) : Option (Bool × LD) := L28x0x18 N (R := (Bool × LD)) (ll L 1) (ll L 3) (li L 4) (li L 6) (li L 8) (ll L 10) m (li x 0) (lb x 1) (ll x 2) (fun p => some p)
noncomputable def sh28x0x18 : Sh := { tmps := [(1, .c (.sl 3)), (2, .c (.p 2 0)), (7, .c (.o 7)), (17, .c (.sl 68)), (18, .c (.i .i64)), (19, .c (.i .i64))], mem := [(2, .box ([.i .i64, .i .i64, .i .i64, .sl 66, .sl 68])), (7, .row 3 true)] }
noncomputable def A28x0x18 (L : List Lf) : List (Bool × (Ex × St)) := bnd (Q28x0x18 N L N (pk sh28x0x18 [5, 13, 14] L)) fun q => [(q.isSome, ((.exit 0), ⟨[(7, .c (.o 7))], [(7, .row 3 true (q.getD default).1 (q.getD default).2)]⟩))]
theorem step28x0x18 (m : Nat) (kn : St → Option (Ex × St)) (L x : List Lf) : lpB Try.prog (T37x0 N) (h28x0s1 N).h 0 28 18 sh28x0x18 [5, 13, 14] [4, 5, 7] [7] (m + 100) kn L x = J28x0x18 N L x (fun y => kn (ofSh sh28x0x18 (mx sh28x0x18 [5, 13, 14] L y))) (fun p => some ((.exit 0), ⟨[(7, .c (.o 7))], [(7, .row 3 true p.1 p.2)]⟩)) := by kernel_rfl
noncomputable def h28x0s2 : Sg Try.prog 0 28 :=
  (h28x0s1 N).lp (A28x0x18 N) N progOk (T37x0_ok N) (fun m kn L x => (step28x0x18 N m kn L x).trans (sb28x0x18 N L x _ _)) (fun L m x => sb28x0x18 N L x (Q28x0x18 N L m) some) fun L x hx => alt1 x hx
noncomputable def F28x0 (v0 v1 v2 : Int) (v4 v6 v8 : LD) (k0 : Bool × LD × Int → Option R) : Option R :=
  bnd (G58x0 N v0 v1 v2 v4 v6 v8) fun y0 =>
  bif y0.isSome then
    bif ((y0.getD default) != 0) then
      k0 (true, [], (y0.getD default))
    else
      bnd (G28x0x18 N v8 v6 (v6.length : Int) v0 v2 v4 0 true []) fun y1 =>
      bif y1.isSome then
        k0 ((y1.getD default).1, (y1.getD default).2, 0)
      else
        none
  else
    none
noncomputable def G28x0 (v0 v1 v2 : Int) (v4 v6 v8 : LD) : Option (Bool × LD × Int) := F28x0 N v0 v1 v2 v4 v6 v8 (fun p => some p)
theorem bind28x0 (v0 v1 v2 : Int) (v4 v6 v8 : LD) (k0 : Bool × LD × Int → Option R) : F28x0 N v0 v1 v2 v4 v6 v8 k0 = (G28x0 N v0 v1 v2 v4 v6 v8).bind k0 := by
  unfold G28x0 F28x0
  repeat' (first | rfl | apply cond_b | (apply bnd_b; intro _))
noncomputable def J28x0 (L : List Lf) (k0 : Bool × LD × Int → Option R) : Option R := F28x0 N (li L 0) (li L 1) (li L 2) (ll L 4) (ll L 6) (ll L 8) k0
noncomputable def sh28x0 : Sh := { tmps := [(0, .g ([.i .i64, .i .i64, .i .i64, .sl 66, .sl 68])), (1, .c (.sl 3))], mem := [] }
noncomputable def A28x0 (L : List Lf) : List (Bool × Res) := bnd (J28x0 N L (fun p => some p)) fun q => [(q.isSome, ([.c (.sl 3 (q.getD default).1 (q.getD default).2.1), .c (.i .i64 (q.getD default).2.2)], []))]
theorem raw28x0 (L : List Lf) : bd Try.prog (T37x0 N) (h28x0s2 N).h 28 sh28x0 L = J28x0 N L (fun p => some ([.c (.sl 3 p.1 p.2.1), .c (.i .i64 p.2.2)], [])) := by kernel_rfl
theorem ok28x0 : FnOk Try.prog 28 sh28x0 (A28x0 N) :=
  (h28x0s2 N).fn progOk (T37x0_ok N) fun L x hx => ((raw28x0 N L).trans ((bind28x0 N ..).trans (alt1 x hx)))
noncomputable def T28x0 : Oracle := ext 28 (spSh sh28x0 (A28x0 N)) (T37x0 N)
theorem T28x0_ok : OracleOk Try.prog (T28x0 N) := FnOk.to (ok28x0 N) (T37x0_ok N)
noncomputable def rg15x0 : List (Nat × List Nat) := [(0, [0, 1]), (1, [0, 1]), (2, []), (3, [0, 1]), (4, [13, 12, 0, 1]), (5, [13, 0, 1, 12]), (6, [0, 5, 1, 13, 12]), (7, []), (8, [13, 12, 0, 1]), (9, [])]
noncomputable def hd15x0 : Hints := [(12, [13, 12, 0, 1], [], [])]
noncomputable def h15x0s0 (N : Nat) : Sg Try.prog 0 15 := .start hd15x0 rg15x0
noncomputable def S15x0x12 (N : Nat) (w1 w3 : LD) (w4 : Int) (w5 : Int) (kr : Int → Option R) (k0 : Unit → Option R) (k1 : Unit → Option R) : Option R :=
  bif (decide (w5 < w4)) then
    bif (inB w5 w1.length) then
      bif (inB w5 w3.length) then
        bnd ((w1.getD w5.toNat (.i 0)).toI != (w3.getD w5.toNat (.i 0)).toI) fun y0 =>
        bif y0 then
          k0 ()
        else
          kr (IntKind.wrap .i64 (w5 + 1))
      else
        none
    else
      none
  else
    k1 ()
noncomputable def L15x0x12 (N : Nat) {R : Type} (w1 w3 : LD) (w4 : Int) : Nat → Int → (Unit → Option R) → (Unit → Option R) → Option R
  | 0, _, _, _ => none
  | m + 1, w5, k0, k1 => S15x0x12 N w1 w3 w4 w5 (fun w5 => L15x0x12 N w1 w3 w4 m w5 k0 k1) k0 k1
noncomputable def G15x0x12 (w1 w3 : LD) (w4 : Int) (w5 : Int) : Option (Sum (Unit) (Unit)) := L15x0x12 N (R := (Sum (Unit) (Unit))) w1 w3 w4 N w5 (fun p => some (.inl p)) (fun p => some (.inr p))
noncomputable def J15x0x12 (L x : List Lf) (kr : List Lf → Option R) (k0 : Unit → Option R) (k1 : Unit → Option R) : Option R := S15x0x12 N (ll L 1) (ll L 3) (li L 4) (li x 0) (fun w5 => kr [.i w5]) k0 k1
theorem sb15x0x12 (L x : List Lf) (kr : List Lf → Option R) (k0 : Unit → Option R) (k1 : Unit → Option R) : J15x0x12 N L x kr k0 k1 = (J15x0x12 N L x (fun y => some (.inl y)) (fun p => some (.inr (.inl p))) (fun p => some (.inr (.inr p)))).bind (sumE kr (sumE k0 k1)) := by
  unfold J15x0x12 S15x0x12
  repeat' (first | rfl | apply cond_b | (apply bnd_b; intro _))
noncomputable def Q15x0x12 (L : List Lf) (m : Nat) (x : List Lf) : Option (Sum (Unit) (Unit)) := L15x0x12 N (R := (Sum (Unit) (Unit))) (ll L 1) (ll L 3) (li L 4) m (li x 0) (fun p => some (.inl p)) (fun p => some (.inr p))
noncomputable def sh15x0x12 : Sh := { tmps := [(0, .c (.sl 3)), (1, .c (.sl 3)), (12, .c (.i .i64)), (13, .c (.i .i64))], mem := [] }
noncomputable def A15x0x12 (L : List Lf) : List (Bool × (Ex × St)) := bnd (Q15x0x12 N L N (pk sh15x0x12 [5] L)) fun q => [((inlB q), (.ret, ⟨[(4, .c (.b false))], []⟩)), ((inrQ q).isSome, ((.exit 0), ⟨[], []⟩))]
theorem step15x0x12 (m : Nat) (kn : St → Option (Ex × St)) (L x : List Lf) : lpB Try.prog (T28x0 N) (h15x0s0 N).h 0 15 12 sh15x0x12 [5] [4] [] (m + 100) kn L x = J15x0x12 N L x (fun y => kn (ofSh sh15x0x12 (mx sh15x0x12 [5] L y))) (fun _ => some (.ret, ⟨[(4, .c (.b false))], []⟩)) (fun _ => some ((.exit 0), ⟨[], []⟩)) := by kernel_rfl
noncomputable def h15x0s1 : Sg Try.prog 0 15 :=
  (h15x0s0 N).lp (A15x0x12 N) N progOk (T28x0_ok N) (fun m kn L x => (step15x0x12 N m kn L x).trans (sb15x0x12 N L x _ _ _)) (fun L m x => sb15x0x12 N L x (Q15x0x12 N L m) (fun p => some (.inl p)) (fun p => some (.inr p))) fun L x hx => (altS alt1) x hx
noncomputable def F15x0 (v1 v3 : LD) (k0 : Bool → Option R) : Option R :=
  bif ((v1.length : Int) != (v3.length : Int)) then
    k0 false
  else
    bnd (G15x0x12 N v1 v3 (v1.length : Int) 0) fun y0 =>
    bif (inlB y0) then
      k0 false
    else
      bif (inrQ y0).isSome then
        k0 true
      else
        none
noncomputable def G15x0 (v1 v3 : LD) : Option (Bool) := F15x0 N v1 v3 (fun p => some p)
theorem bind15x0 (v1 v3 : LD) (k0 : Bool → Option R) : F15x0 N v1 v3 k0 = (G15x0 N v1 v3).bind k0 := by
  unfold G15x0 F15x0
  repeat' (first | rfl | apply cond_b | (apply bnd_b; intro _))
noncomputable def sh15x0 : Sh := { tmps := [(0, .c (.sl 3)), (1, .c (.sl 3))], mem := [] }
noncomputable def A15x0 (L : List Lf) : List (Bool × Res) := bnd (F15x0 N (ll L 1) (ll L 3) (fun p => some p)) fun q => [(q.isSome, ([.c (.b (q.getD default))], []))]
theorem raw15x0 (L : List Lf) : bd Try.prog (T28x0 N) (h15x0s1 N).h 15 sh15x0 L = F15x0 N (ll L 1) (ll L 3) (fun p => some ([.c (.b p)], [])) := by kernel_rfl
theorem ok15x0 : FnOk Try.prog 15 sh15x0 (A15x0 N) :=
  (h15x0s1 N).fn progOk (T28x0_ok N) fun L x hx => ((raw15x0 N L).trans ((bind15x0 N ..).trans (alt1 x hx)))
noncomputable def T15x0 : Oracle := ext 15 (spSh sh15x0 (A15x0 N)) (T28x0 N)
theorem T15x0_ok : OracleOk Try.prog (T15x0 N) := FnOk.to (ok15x0 N) (T28x0_ok N)
noncomputable def rg38x0 : List (Nat × List Nat) := [(0, [0, 1]), (1, [2, 1]), (2, [6, 1, 2]), (3, [6]), (4, [1, 2]), (5, [1, 7, 2]), (6, [18, 17, 16, 7, 2]), (7, [16, 18, 7, 2, 17]), (8, [7, 2, 9, 18, 17, 16]), (9, [18, 17, 16, 7, 2]), (10, [7])]
noncomputable def hd38x0 : Hints := [(18, [18, 17, 16, 7, 2], [2], [])]
noncomputable def h38x0s0 (N : Nat) : Sg Try.prog 0 38 := .start hd38x0 rg38x0
noncomputable def S38x0x18 (w2 : LD) (w3 : Int) (w9 : LD) (w0 w4 : Int) (kr : Int → Int → Option R) (k0 : Int → Option R) : Option R :=
  bif (decide (w4 < w3)) then
    bif (inB w4 w2.length) then
      bnd (G70x0 N w9 (w2.getD w4.toNat (.i 0)).toI) fun y0 =>
      bif y0.isSome then
        kr (IntKind.wrap .i64 (w0 + (y0.getD default).2.2.2.1)) (IntKind.wrap .i64 (w4 + 1))
      else
        none
    else
      none
  else
    k0 w0
noncomputable def L38x0x18 (N : Nat) {R : Type} (w2 : LD) (w3 : Int) (w9 : LD) : Nat → Int → Int → (Int → Option R) → Option R
  | 0, _, _, _ => none
  | m + 1, w0, w4, k0 => S38x0x18 N w2 w3 w9 w0 w4 (fun w0 w4 => L38x0x18 N w2 w3 w9 m w0 w4 k0) k0
noncomputable def G38x0x18 (w2 : LD) (w3 : Int) (w9 : LD) (w0 w4 : Int) : Option (Int) := L38x0x18 N (R := (Int)) w2 w3 w9 N w0 w4 (fun p => some p)
noncomputable def J38x0x18 (L x : List Lf) (kr : List Lf → Option R) (k0 : Int → Option R) : Option R := S38x0x18 N (ll L 2) (li L 3) (ll L 9) (li x 0) (li x 1) (fun w0 w4 => kr [.i w0, .i w4]) k0
theorem sb38x0x18 (L x : List Lf) (kr : List Lf → Option R) (k0 : Int → Option R) : J38x0x18 N L x kr k0 = (J38x0x18 N L x (fun y => some (.inl y)) (fun p => some (.inr p))).bind (sumE kr k0) := by
  unfold J38x0x18 S38x0x18
  repeat' (first | rfl | apply cond_b | (apply bnd_b; intro _))
noncomputable def Q38x0x18 (L : List Lf) (m : Nat) (x : List Lf) : Option (Int) := L38x0x18 N (R := (Int)) (ll L 2) (li L 3) (ll L 9) m (li x 0) (li x 1) (fun p => some p)
noncomputable def sh38x0x18 : Sh := { tmps := [(2, .c (.p 2 0)), (7, .c (.i .i64)), (16, .c (.sl 3)), (17, .c (.i .i64)), (18, .c (.i .i64))], mem := [(2, .box ([.i .i64, .i .i64, .i .i64, .sl 66, .sl 68]))] }
noncomputable def A38x0x18 (L : List Lf) : List (Bool × (Ex × St)) := bnd (Q38x0x18 N L N (pk sh38x0x18 [0, 4] L)) fun q => [(q.isSome, ((.exit 0), ⟨[(7, .c (.i .i64 (q.getD default)))], []⟩))]
theorem step38x0x18 (m : Nat) (kn : St → Option (Ex × St)) (L x : List Lf) : lpB Try.prog (T15x0 N) (h38x0s0 N).h 0 38 18 sh38x0x18 [0, 4] [4, 5, 7] [] (m + 100) kn L x = J38x0x18 N L x (fun y => kn (ofSh sh38x0x18 (mx sh38x0x18 [0, 4] L y))) (fun p => some ((.exit 0), ⟨[(7, .c (.i .i64 p))], []⟩)) := by kernel_rfl
noncomputable def h38x0s1 : Sg Try.prog 0 38 :=
  (h38x0s0 N).lp (A38x0x18 N) N progOk (T15x0_ok N) (fun m kn L x => (step38x0x18 N m kn L x).trans (sb38x0x18 N L x _ _)) (fun L m x => sb38x0x18 N L x (Q38x0x18 N L m) some) fun L x hx => alt1 x hx
noncomputable def F38x0 (v0 v1 v2 : Int) (v4 v6 v8 : LD) (k0 : Int × Int → Option R) : Option R :=
  bnd (G57x0 N v0 v1 v2 v4 v6 v8) fun y0 =>
  bif y0.isSome then
    bif ((y0.getD default) != 0) then
      k0 (0, (y0.getD default))
    else
      bnd (G38x0x18 N v8 (v8.length : Int) v4 0 0) fun y1 =>
      bif y1.isSome then
        k0 ((y1.getD default), 0)
      else
        none
  else
    none
noncomputable def G38x0 (v0 v1 v2 : Int) (v4 v6 v8 : LD) : Option (Int × Int) := F38x0 N v0 v1 v2 v4 v6 v8 (fun p => some p)
theorem bind38x0 (v0 v1 v2 : Int) (v4 v6 v8 : LD) (k0 : Int × Int → Option R) : F38x0 N v0 v1 v2 v4 v6 v8 k0 = (G38x0 N v0 v1 v2 v4 v6 v8).bind k0 := by
  unfold G38x0 F38x0
  repeat' (first | rfl | apply cond_b | (apply bnd_b; intro _))
noncomputable def J38x0 (L : List Lf) (k0 : Int × Int → Option R) : Option R := F38x0 N (li L 0) (li L 1) (li L 2) (ll L 4) (ll L 6) (ll L 8) k0
noncomputable def sh38x0 : Sh := { tmps := [(0, .g ([.i .i64, .i .i64, .i .i64, .sl 66, .sl 68])), (1, .c (.sl 3))], mem := [] }
noncomputable def A38x0 (L : List Lf) : List (Bool × Res) := bnd (J38x0 N L (fun p => some p)) fun q => [(q.isSome, ([.c (.i .i64 (q.getD default).1), .c (.i .i64 (q.getD default).2)], []))]
theorem raw38x0 (L : List Lf) : bd Try.prog (T15x0 N) (h38x0s1 N).h 38 sh38x0 L = J38x0 N L (fun p => some ([.c (.i .i64 p.1), .c (.i .i64 p.2)], [])) := by kernel_rfl
theorem ok38x0 : FnOk Try.prog 38 sh38x0 (A38x0 N) :=
  (h38x0s1 N).fn progOk (T15x0_ok N) fun L x hx => ((raw38x0 N L).trans ((bind38x0 N ..).trans (alt1 x hx)))
noncomputable def T38x0 : Oracle := ext 38 (spSh sh38x0 (A38x0 N)) (T15x0 N)
theorem T38x0_ok : OracleOk Try.prog (T38x0 N) := FnOk.to (ok38x0 N) (T15x0_ok N)
noncomputable def rg30x0 : List (Nat × List Nat) := [(0, [0, 1]), (1, [2, 1]), (2, [6, 1, 2]), (3, [6]), (4, [1, 2]), (5, [1, 7, 2]), (6, [18, 17, 16, 7, 2]), (7, [16, 18, 7, 2, 17]), (8, [7, 2, 9, 18, 17, 16]), (9, [18, 17, 16, 7, 2]), (10, [7])]
noncomputable def hd30x0 : Hints := [(18, [18, 17, 16, 7, 2], [2], [])]
noncomputable def h30x0s0 (N : Nat) : Sg Try.prog 0 30 := .start hd30x0 rg30x0
noncomputable def S30x0x18 (w2 : LD) (w3 : Int) (w9 : LD) (w0 w4 : Int) (kr : Int → Int → Option R) (k0 : Int → Option R) : Option R :=
  bif (decide (w4 < w3)) then
    bif (inB w4 w2.length) then
      bnd (G63x0 N w9 (w2.getD w4.toNat (.i 0)).toI) fun y0 =>
      bif y0.isSome then
        kr (IntKind.wrap .i64 (w0 + (y0.getD default).2.2.2.1)) (IntKind.wrap .i64 (w4 + 1))
      else
        none
    else
      none
  else
    k0 w0
noncomputable def L30x0x18 (N : Nat) {R : Type} (w2 : LD) (w3 : Int) (w9 : LD) : Nat → Int → Int → (Int → Option R) → Option R
  | 0, _, _, _ => none
  | m + 1, w0, w4, k0 => S30x0x18 N w2 w3 w9 w0 w4 (fun w0 w4 => L30x0x18 N w2 w3 w9 m w0 w4 k0) k0
noncomputable def G30x0x18 (w2 : LD) (w3 : Int) (w9 : LD) (w0 w4 : Int) : Option (Int) := L30x0x18 N (R := (Int)) w2 w3 w9 N w0 w4 (fun p => some p)
noncomputable def J30x0x18 (L x : List Lf) (kr : List Lf → Option R) (k0 : Int → Option R) : Option R := S30x0x18 N (ll L 2) (li L 3) (ll L 9) (li x 0) (li x 1) (fun w0 w4 => kr [.i w0, .i w4]) k0
theorem sb30x0x18 (L x : List Lf) (kr : List Lf → Option R) (k0 : Int → Option R) : J30x0x18 N L x kr k0 = (J30x0x18 N L x (fun y => some (.inl y)) (fun p => some (.inr p))).bind (sumE kr k0) := by
  unfold J30x0x18 S30x0x18
  repeat' (first | rfl | apply cond_b | (apply bnd_b; intro _))
noncomputable def Q30x0x18 (L : List Lf) (m : Nat) (x : List Lf) : Option (Int) := L30x0x18 N (R := (Int)) (ll L 2) (li L 3) (ll L 9) m (li x 0) (li x 1) (fun p => some p)
noncomputable def sh30x0x18 : Sh := { tmps := [(2, .c (.p 2 0)), (7, .c (.i .i64)), (16, .c (.sl 3)), (17, .c (.i .i64)), (18, .c (.i .i64))], mem := [(2, .box ([.i .i64, .i .i64, .i .i64, .sl 66, .sl 68]))] }
noncomputable def A30x0x18 (L : List Lf) : List (Bool × (Ex × St)) := bnd (Q30x0x18 N L N (pk sh30x0x18 [0, 4] L)) fun q => [(q.isSome, ((.exit 0), ⟨[(7, .c (.i .i64 (q.getD default)))], []⟩))]
theorem step30x0x18 (m : Nat) (kn : St → Option (Ex × St)) (L x : List Lf) : lpB Try.prog (T38x0 N) (h30x0s0 N).h 0 30 18 sh30x0x18 [0, 4] [4, 5, 7] [] (m + 100) kn L x = J30x0x18 N L x (fun y => kn (ofSh sh30x0x18 (mx sh30x0x18 [0, 4] L y))) (fun p => some ((.exit 0), ⟨[(7, .c (.i .i64 p))], []⟩)) := by kernel_rfl
noncomputable def h30x0s1 : Sg Try.prog 0 30 :=
  (h30x0s0 N).lp (A30x0x18 N) N progOk (T38x0_ok N) (fun m kn L x => (step30x0x18 N m kn L x).trans (sb30x0x18 N L x _ _)) (fun L m x => sb30x0x18 N L x (Q30x0x18 N L m) some) fun L x hx => alt1 x hx
noncomputable def F30x0 (v0 v1 v2 : Int) (v4 v6 v8 : LD) (k0 : Int × Int → Option R) : Option R :=
  bnd (G58x0 N v0 v1 v2 v4 v6 v8) fun y0 =>
  bif y0.isSome then
    bif ((y0.getD default) != 0) then
      k0 (0, (y0.getD default))
    else
      bnd (G30x0x18 N v8 (v8.length : Int) v4 0 0) fun y1 =>
      bif y1.isSome then
        k0 ((y1.getD default), 0)
      else
        none
  else
    none
noncomputable def G30x0 (v0 v1 v2 : Int) (v4 v6 v8 : LD) : Option (Int × Int) := F30x0 N v0 v1 v2 v4 v6 v8 (fun p => some p)
theorem bind30x0 (v0 v1 v2 : Int) (v4 v6 v8 : LD) (k0 : Int × Int → Option R) : F30x0 N v0 v1 v2 v4 v6 v8 k0 = (G30x0 N v0 v1 v2 v4 v6 v8).bind k0 := by
  unfold G30x0 F30x0
  repeat' (first | rfl | apply cond_b | (apply bnd_b; intro _))
noncomputable def J30x0 (L : List Lf) (k0 : Int × Int → Option R) : Option R := F30x0 N (li L 0) (li L 1) (li L 2) (ll L 4) (ll L 6) (ll L 8) k0
noncomputable def sh30x0 : Sh := { tmps := [(0, .g ([.i .i64, .i .i64, .i .i64, .sl 66, .sl 68])), (1, .c (.sl 3))], mem := [] }
noncomputable def A30x0 (L : List Lf) : List (Bool × Res) := bnd (J30x0 N L (fun p => some p)) fun q => [(q.isSome, ([.c (.i .i64 (q.getD default).1), .c (.i .i64 (q.getD default).2)], []))]
theorem raw30x0 (L : List Lf) : bd Try.prog (T38x0 N) (h30x0s1 N).h 30 sh30x0 L = J30x0 N L (fun p => some ([.c (.i .i64 p.1), .c (.i .i64 p.2)], [])) := by kernel_rfl
theorem ok30x0 : FnOk Try.prog 30 sh30x0 (A30x0 N) :=
  (h30x0s1 N).fn progOk (T38x0_ok N) fun L x hx => ((raw30x0 N L).trans ((bind30x0 N ..).trans (alt1 x hx)))
noncomputable def T30x0 : Oracle := ext 30 (spSh sh30x0 (A30x0 N)) (T38x0 N)
theorem T30x0_ok : OracleOk Try.prog (T30x0 N) := FnOk.to (ok30x0 N) (T38x0_ok N)
noncomputable def rg39x0 : List (Nat × List Nat) := [(0, [0, 1]), (1, [2, 1]), (2, [6, 1, 2]), (3, [6]), (4, [1, 2]), (5, [1, 7, 2]), (6, [18, 17, 16, 7, 2]), (7, [16, 18, 7, 2, 17]), (8, [7, 2, 9, 18, 17, 16]), (9, [18, 17, 16, 7, 2]), (10, [7])]
noncomputable def hd39x0 : Hints := [(18, [18, 17, 16, 7, 2], [2, 7], [7])]
noncomputable def h39x0s0 (N : Nat) : Sg Try.prog 0 39 := .start hd39x0 rg39x0
noncomputable def S39x0x18 (w1 : LD) (w2 : Int) (w8 : LD) (w3 : Int) (w11 : Bool) (w12 : LD) (kr : Int → Bool → LD → Option R) (k0 : Bool × LD → Option R) : Option R :=
  bif (decide (w3 < w2)) then
    bif (inB w3 w1.length) then
      bnd (G70x0 N w8 (w1.getD w3.toNat (.i 0)).toI) fun y0 =>
      bif y0.isSome then
        bif (decide ((w12.length + 1) * 8 ≤ room) && decide ((w12.length + 1) ≤ strMax)) then
          kr (IntKind.wrap .i64 (w3 + 1)) false (w12 ++ [(.i (y0.getD default).2.1)])
        else
          none
      else
        none
    else
      none
  else
    k0 (w11, w12)
noncomputable def L39x0x18 (N : Nat) {R : Type} (w1 : LD) (w2 : Int) (w8 : LD) : Nat → Int → Bool → LD → (Bool × LD → Option R) → Option R
  | 0, _, _, _, _ => none
  | m + 1, w3, w11, w12, k0 => S39x0x18 N w1 w2 w8 w3 w11 w12 (fun w3 w11 w12 => L39x0x18 N w1 w2 w8 m w3 w11 w12 k0) k0
noncomputable def G39x0x18 (w1 : LD) (w2 : Int) (w8 : LD) (w3 : Int) (w11 : Bool) (w12 : LD) : Option (Bool × LD) := L39x0x18 N (R := (Bool × LD)) w1 w2 w8 N w3 w11 w12 (fun p => some p)
noncomputable def J39x0x18 (L x : List Lf) (kr : List Lf → Option R) (k0 : Bool × LD → Option R) : Option R := S39x0x18 N (ll L 1) (li L 2) (ll L 8) (li x 0) (lb x 1) (ll x 2) (fun w3 w11 w12 => kr [.i w3, .b w11, .l w12]) k0
theorem sb39x0x18 (L x : List Lf) (kr : List Lf → Option R) (k0 : Bool × LD → Option R) : J39x0x18 N L x kr k0 = (J39x0x18 N L x (fun y => some (.inl y)) (fun p => some (.inr p))).bind (sumE kr k0) := by
  unfold J39x0x18 S39x0x18
  repeat' (first | rfl | apply cond_b | (apply bnd_b; intro _))
noncomputable def Q39x0x18 (L : List Lf) (m : Nat) (x : List Lf) : Option (Bool × LD) := L39x0x18 N (R := (Bool × LD)) (ll L 1) (li L 2) (ll L 8) m (li x 0) (lb x 1) (ll x 2) (fun p => some p)
noncomputable def sh39x0x18 : Sh := { tmps := [(2, .c (.p 2 0)), (7, .c (.o 7)), (16, .c (.sl 3)), (17, .c (.i .i64)), (18, .c (.i .i64))], mem := [(2, .box ([.i .i64, .i .i64, .i .i64, .sl 66, .sl 68])), (7, .row 3 true)] }
noncomputable def A39x0x18 (L : List Lf) : List (Bool × (Ex × St)) := bnd (Q39x0x18 N L N (pk sh39x0x18 [3, 11, 12] L)) fun q => [(q.isSome, ((.exit 0), ⟨[(7, .c (.o 7))], [(7, .row 3 true (q.getD default).1 (q.getD default).2)]⟩))]
theorem step39x0x18 (m : Nat) (kn : St → Option (Ex × St)) (L x : List Lf) : lpB Try.prog (T30x0 N) (h39x0s0 N).h 0 39 18 sh39x0x18 [3, 11, 12] [4, 5, 7] [7] (m + 100) kn L x = J39x0x18 N L x (fun y => kn (ofSh sh39x0x18 (mx sh39x0x18 [3, 11, 12] L y))) (fun p => some ((.exit 0), ⟨[(7, .c (.o 7))], [(7, .row 3 true p.1 p.2)]⟩)) := by kernel_rfl
noncomputable def h39x0s1 : Sg Try.prog 0 39 :=
  (h39x0s0 N).lp (A39x0x18 N) N progOk (T30x0_ok N) (fun m kn L x => (step39x0x18 N m kn L x).trans (sb39x0x18 N L x _ _)) (fun L m x => sb39x0x18 N L x (Q39x0x18 N L m) some) fun L x hx => alt1 x hx
noncomputable def F39x0 (v0 v1 v2 : Int) (v4 v6 v8 : LD) (k0 : Bool × LD × Int → Option R) : Option R :=
  bnd (G57x0 N v0 v1 v2 v4 v6 v8) fun y0 =>
  bif y0.isSome then
    bif ((y0.getD default) != 0) then
      k0 (true, [], (y0.getD default))
    else
      bnd (G39x0x18 N v8 (v8.length : Int) v4 0 true []) fun y1 =>
      bif y1.isSome then
        k0 ((y1.getD default).1, (y1.getD default).2, 0)
      else
        none
  else
    none
noncomputable def G39x0 (v0 v1 v2 : Int) (v4 v6 v8 : LD) : Option (Bool × LD × Int) := F39x0 N v0 v1 v2 v4 v6 v8 (fun p => some p)
theorem bind39x0 (v0 v1 v2 : Int) (v4 v6 v8 : LD) (k0 : Bool × LD × Int → Option R) : F39x0 N v0 v1 v2 v4 v6 v8 k0 = (G39x0 N v0 v1 v2 v4 v6 v8).bind k0 := by
  unfold G39x0 F39x0
  repeat' (first | rfl | apply cond_b | (apply bnd_b; intro _))
noncomputable def J39x0 (L : List Lf) (k0 : Bool × LD × Int → Option R) : Option R := F39x0 N (li L 0) (li L 1) (li L 2) (ll L 4) (ll L 6) (ll L 8) k0
noncomputable def sh39x0 : Sh := { tmps := [(0, .g ([.i .i64, .i .i64, .i .i64, .sl 66, .sl 68])), (1, .c (.sl 3))], mem := [] }
noncomputable def A39x0 (L : List Lf) : List (Bool × Res) := bnd (J39x0 N L (fun p => some p)) fun q => [(q.isSome, ([.c (.sl 3 (q.getD default).1 (q.getD default).2.1), .c (.i .i64 (q.getD default).2.2)], []))]
theorem raw39x0 (L : List Lf) : bd Try.prog (T30x0 N) (h39x0s1 N).h 39 sh39x0 L = J39x0 N L (fun p => some ([.c (.sl 3 p.1 p.2.1), .c (.i .i64 p.2.2)], [])) := by kernel_rfl
theorem ok39x0 : FnOk Try.prog 39 sh39x0 (A39x0 N) :=
  (h39x0s1 N).fn progOk (T30x0_ok N) fun L x hx => ((raw39x0 N L).trans ((bind39x0 N ..).trans (alt1 x hx)))
noncomputable def T39x0 : Oracle := ext 39 (spSh sh39x0 (A39x0 N)) (T30x0 N)
theorem T39x0_ok : OracleOk Try.prog (T39x0 N) := FnOk.to (ok39x0 N) (T30x0_ok N)
noncomputable def rg40x0 : List (Nat × List Nat) := [(0, [0, 1]), (1, [2, 1]), (2, [6, 1, 2]), (3, [6]), (4, [1, 2]), (5, [1, 7, 2]), (6, [18, 17, 16, 7, 2]), (7, [16, 18, 7, 2, 17]), (8, [7, 2, 9, 18, 17, 16]), (9, [18, 17, 16, 7, 2]), (10, [7])]
noncomputable def hd40x0 : Hints := [(18, [18, 17, 16, 7, 2], [2, 7], [7])]
noncomputable def h40x0s0 (N : Nat) : Sg Try.prog 0 40 := .start hd40x0 rg40x0
noncomputable def S40x0x18 (w1 : LD) (w2 : Int) (w8 : LD) (w3 : Int) (w11 : Bool) (w12 : LD) (kr : Int → Bool → LD → Option R) (k0 : Bool × LD → Option R) : Option R :=
  bif (decide (w3 < w2)) then
    bif (inB w3 w1.length) then
      bnd (G63x0 N w8 (w1.getD w3.toNat (.i 0)).toI) fun y0 =>
      bif y0.isSome then
        bif (decide ((w12.length + 1) * 8 ≤ room) && decide ((w12.length + 1) ≤ strMax)) then
          kr (IntKind.wrap .i64 (w3 + 1)) false (w12 ++ [(.i (y0.getD default).2.1)])
        else
          none
      else
        none
    else
      none
  else
    k0 (w11, w12)
noncomputable def L40x0x18 (N : Nat) {R : Type} (w1 : LD) (w2 : Int) (w8 : LD) : Nat → Int → Bool → LD → (Bool × LD → Option R) → Option R
  | 0, _, _, _, _ => none
  | m + 1, w3, w11, w12, k0 => S40x0x18 N w1 w2 w8 w3 w11 w12 (fun w3 w11 w12 => L40x0x18 N w1 w2 w8 m w3 w11 w12 k0) k0
noncomputable def G40x0x18 (w1 : LD) (w2 : Int) (w8 : LD) (w3 : Int) (w11 : Bool) (w12 : LD) : Option (Bool × LD) := L40x0x18 N (R := (Bool × LD)) w1 w2 w8 N w3 w11 w12 (fun p => some p)
noncomputable def J40x0x18 (L x : List Lf) (kr : List Lf → Option R) (k0 : Bool × LD → Option R) : Option R := S40x0x18 N (ll L 1) (li L 2) (ll L 8) (li x 0) (lb x 1) (ll x 2) (fun w3 w11 w12 => kr [.i w3, .b w11, .l w12]) k0
theorem sb40x0x18 (L x : List Lf) (kr : List Lf → Option R) (k0 : Bool × LD → Option R) : J40x0x18 N L x kr k0 = (J40x0x18 N L x (fun y => some (.inl y)) (fun p => some (.inr p))).bind (sumE kr k0) := by
  unfold J40x0x18 S40x0x18
  repeat' (first | rfl | apply cond_b | (apply bnd_b; intro _))
noncomputable def Q40x0x18 (L : List Lf) (m : Nat) (x : List Lf) : Option (Bool × LD) := L40x0x18 N (R := (Bool × LD)) (ll L 1) (li L 2) (ll L 8) m (li x 0) (lb x 1) (ll x 2) (fun p => some p)
noncomputable def sh40x0x18 : Sh := { tmps := [(2, .c (.p 2 0)), (7, .c (.o 7)), (16, .c (.sl 3)), (17, .c (.i .i64)), (18, .c (.i .i64))], mem := [(2, .box ([.i .i64, .i .i64, .i .i64, .sl 66, .sl 68])), (7, .row 3 true)] }
noncomputable def A40x0x18 (L : List Lf) : List (Bool × (Ex × St)) := bnd (Q40x0x18 N L N (pk sh40x0x18 [3, 11, 12] L)) fun q => [(q.isSome, ((.exit 0), ⟨[(7, .c (.o 7))], [(7, .row 3 true (q.getD default).1 (q.getD default).2)]⟩))]
theorem step40x0x18 (m : Nat) (kn : St → Option (Ex × St)) (L x : List Lf) : lpB Try.prog (T39x0 N) (h40x0s0 N).h 0 40 18 sh40x0x18 [3, 11, 12] [4, 5, 7] [7] (m + 100) kn L x = J40x0x18 N L x (fun y => kn (ofSh sh40x0x18 (mx sh40x0x18 [3, 11, 12] L y))) (fun p => some ((.exit 0), ⟨[(7, .c (.o 7))], [(7, .row 3 true p.1 p.2)]⟩)) := by kernel_rfl
noncomputable def h40x0s1 : Sg Try.prog 0 40 :=
  (h40x0s0 N).lp (A40x0x18 N) N progOk (T39x0_ok N) (fun m kn L x => (step40x0x18 N m kn L x).trans (sb40x0x18 N L x _ _)) (fun L m x => sb40x0x18 N L x (Q40x0x18 N L m) some) fun L x hx => alt1 x hx
noncomputable def F40x0 (v0 v1 v2 : Int) (v4 v6 v8 : LD) (k0 : Bool × LD × Int → Option R) : Option R :=
  bnd (G58x0 N v0 v1 v2 v4 v6 v8) fun y0 =>
  bif y0.isSome then
    bif ((y0.getD default) != 0) then
      k0 (true, [], (y0.getD default))
    else
      bnd (G40x0x18 N v8 (v8.length : Int) v4 0 true []) fun y1 =>
      bif y1.isSome then
        k0 ((y1.getD default).1, (y1.getD default).2, 0)
      else
        none
  else
    none
noncomputable def G40x0 (v0 v1 v2 : Int) (v4 v6 v8 : LD) : Option (Bool × LD × Int) := F40x0 N v0 v1 v2 v4 v6 v8 (fun p => some p)
theorem bind40x0 (v0 v1 v2 : Int) (v4 v6 v8 : LD) (k0 : Bool × LD × Int → Option R) : F40x0 N v0 v1 v2 v4 v6 v8 k0 = (G40x0 N v0 v1 v2 v4 v6 v8).bind k0 := by
  unfold G40x0 F40x0
  repeat' (first | rfl | apply cond_b | (apply bnd_b; intro _))
noncomputable def J40x0 (L : List Lf) (k0 : Bool × LD × Int → Option R) : Option R := F40x0 N (li L 0) (li L 1) (li L 2) (ll L 4) (ll L 6) (ll L 8) k0
noncomputable def sh40x0 : Sh := { tmps := [(0, .g ([.i .i64, .i .i64, .i .i64, .sl 66, .sl 68])), (1, .c (.sl 3))], mem := [] }
noncomputable def A40x0 (L : List Lf) : List (Bool × Res) := bnd (J40x0 N L (fun p => some p)) fun q => [(q.isSome, ([.c (.sl 3 (q.getD default).1 (q.getD default).2.1), .c (.i .i64 (q.getD default).2.2)], []))]
theorem raw40x0 (L : List Lf) : bd Try.prog (T39x0 N) (h40x0s1 N).h 40 sh40x0 L = J40x0 N L (fun p => some ([.c (.sl 3 p.1 p.2.1), .c (.i .i64 p.2.2)], [])) := by kernel_rfl
theorem ok40x0 : FnOk Try.prog 40 sh40x0 (A40x0 N) :=
  (h40x0s1 N).fn progOk (T39x0_ok N) fun L x hx => ((raw40x0 N L).trans ((bind40x0 N ..).trans (alt1 x hx)))
noncomputable def T40x0 : Oracle := ext 40 (spSh sh40x0 (A40x0 N)) (T39x0 N)
theorem T40x0_ok : OracleOk Try.prog (T40x0 N) := FnOk.to (ok40x0 N) (T39x0_ok N)
noncomputable def rg41x0 : List (Nat × List Nat) := [(0, [0, 1]), (1, [2, 1]), (2, [7, 6]), (3, [7]), (4, [6]), (5, [6, 8]), (6, [22, 21, 20, 8]), (7, [22, 20, 8, 21]), (8, [9, 8, 10, 22, 21, 20]), (9, [8, 10, 22, 21, 20]), (10, [8, 10, 22, 21, 20]), (11, [22, 21, 20, 8]), (12, [8])]
noncomputable def hd41x0 : Hints := [(18, [22, 21, 20, 8], [8], [8]), (29, [8, 10, 22, 21, 20, 29], [8], [])]
noncomputable def h41x0s0 (N : Nat) : Sg Try.prog 0 41 := .start hd41x0 rg41x0
noncomputable def F41x0x29 (N : Nat) (w5 : Bool) (w7 : LD) (k0 : LD → Option R) (k1 : Unit → Option R) : Option R :=
  bif w5 then
    bif (decide ((w7.length + 1) * 8 ≤ room) && decide ((w7.length + 1) ≤ strMax)) then
      k0 (w7 ++ [(.i 0)])
    else
      none
  else
    k1 ()
noncomputable def G41x0x29 (w5 : Bool) (w7 : LD) : Option (Sum (LD) (Unit)) := F41x0x29 N w5 w7 (fun p => some (.inl p)) (fun p => some (.inr p))
theorem bind41x0x29 (w5 : Bool) (w7 : LD) (k0 : LD → Option R) (k1 : Unit → Option R) : F41x0x29 N w5 w7 k0 k1 = (G41x0x29 N w5 w7).bind (sumE k0 k1) := by
  unfold G41x0x29 F41x0x29
  repeat' (first | rfl | apply cond_b | (apply bnd_b; intro _))
noncomputable def sh41x0x29 : Sh := { tmps := [(8, .c (.o 8)), (10, .c (.i .i64)), (20, .c (.sl 3)), (21, .c (.i .i64)), (22, .c (.i .i64)), (29, .c (.b))], mem := [(8, .row 3 true)] }
noncomputable def K41x0x29w0 (L : List Lf) (p : LD) : Ex × St := (.normal, mg (ofSh sh41x0x29 L) [8, 10, 20, 21, 22] [(8, .c (.o 32))] [32] [(32, .row 3 true false p)])
noncomputable def K41x0x29w1 (L : List Lf) (_ : Unit) : Ex × St := (.normal, mg (ofSh sh41x0x29 L) [8, 10, 20, 21, 22] [] [8] [])
noncomputable def A41x0x29 (L : List Lf) : List (Bool × (Ex × St)) := bnd (F41x0x29 N (lb L 5) (ll L 7) (fun p => some (.inl p)) (fun p => some (.inr p))) fun q => [((inlB q), K41x0x29w0 L (inlV q)), ((inrQ q).isSome, K41x0x29w1 L ())]
theorem raw41x0x29 (L : List Lf) : pc Try.prog (T40x0 N) (h41x0s0 N).h 0 100 41 29 sh41x0x29 L [8, 10, 22, 21, 20] [32, 8] = F41x0x29 N (lb L 5) (ll L 7) (fun p => some (K41x0x29w0 L p)) (fun _ => some (K41x0x29w1 L ())) := by kernel_rfl
noncomputable def h41x0s1 : Sg Try.prog 0 41 :=
  (h41x0s0 N).cut (A41x0x29 N) progOk (T40x0_ok N) fun L x hx => (raw41x0x29 N L).trans ((bind41x0x29 N ..).trans ((altS alt1) x hx))
noncomputable def S41x0x18 (w1 : LD) (w2 : Int) (w3 : Int) (w4 : Bool) (w5 : LD) (kr : Int → Bool → LD → Option R) (k0 : Bool × LD → Option R) : Option R :=
  bif (decide (w3 < w2)) then
    bif (inB w3 w1.length) then
      bnd (G41x0x29 N ((w3.tmod 7) == 0) w5) fun y0 =>
      bif (inlB y0) then
        bif (inB (IntKind.wrap .i64 (((inlV y0).length : Int) - 1)) (inlV y0).length) then
          bnd (IntKind.wrap .i64 (((inlV y0).length : Int) - 1)).toNat fun y1 =>
          bif (decide (y1 < (inlV y0).length)) then
            bnd (IntKind.wrap .i64 (((inlV y0).getD y1 (.i 0)).toI + (w1.getD w3.toNat (.i 0)).toI)) fun y2 =>
            bif (inB (IntKind.wrap .i64 (((inlV y0).length : Int) - 1)) (inlV y0).length) then
              bnd (IntKind.wrap .i64 (((inlV y0).length : Int) - 1)).toNat fun y1 =>
              bif (decide (y1 < (inlV y0).length)) then
                kr (IntKind.wrap .i64 (w3 + 1)) false ((inlV y0).set y1 (.i y2))
              else
                none
            else
              none
          else
            none
        else
          none
      else
        bif (inrQ y0).isSome then
          bif (inB (IntKind.wrap .i64 ((w5.length : Int) - 1)) w5.length) then
            bif (decide ((IntKind.wrap .i64 ((w5.length : Int) - 1)).toNat < w5.length)) then
              bnd (w5.getD (IntKind.wrap .i64 ((w5.length : Int) - 1)).toNat (.i 0)).toI fun y3 =>
              bif (inB (IntKind.wrap .i64 ((w5.length : Int) - 1)) w5.length) then
                bif (decide ((IntKind.wrap .i64 ((w5.length : Int) - 1)).toNat < w5.length)) then
                  bnd ((w5.set (IntKind.wrap .i64 ((w5.length : Int) - 1)).toNat (.i (IntKind.wrap .i64 (y3 + (w1.getD w3.toNat (.i 0)).toI)))) : List D) fun y4 =>
                  kr (IntKind.wrap .i64 (w3 + 1)) w4 y4
                else
                  none
              else
                none
            else
              none
          else
            none
        else
          none
    else
      none
  else
    k0 (w4, w5)
noncomputable def L41x0x18 (N : Nat) {R : Type} (w1 : LD) (w2 : Int) : Nat → Int → Bool → LD → (Bool × LD → Option R) → Option R
  | 0, _, _, _, _ => none
  | m + 1, w3, w4, w5, k0 => S41x0x18 N w1 w2 w3 w4 w5 (fun w3 w4 w5 => L41x0x18 N w1 w2 m w3 w4 w5 k0) k0
noncomputable def G41x0x18 (w1 : LD) (w2 : Int) (w3 : Int) (w4 : Bool) (w5 : LD) : Option (Bool × LD) := L41x0x18 N (R := (Bool × LD)) w1 w2 N w3 w4 w5 (fun p => some p)
noncomputable def J41x0x18 (L x : List Lf) (kr : List Lf → Option R) (k0 : Bool × LD → Option R) : Option R := S41x0x18 N (ll L 1) (li L 2) (li x 0) (lb x 1) (ll x 2) (fun w3 w4 w5 => kr [.i w3, .b w4, .l w5]) k0
theorem sb41x0x18 (L x : List Lf) (kr : List Lf → Option R) (k0 : Bool × LD → Option R) : J41x0x18 N L x kr k0 = (J41x0x18 N L x (fun y => some (.inl y)) (fun p => some (.inr p))).bind (sumE kr k0) := by
  unfold J41x0x18 S41x0x18
  repeat' (first | rfl | apply cond_b | (apply bnd_b; intro _))
noncomputable def Q41x0x18 (L : List Lf) (m : Nat) (x : List Lf) : Option (Bool × LD) := L41x0x18 N (R := (Bool × LD)) (ll L 1) (li L 2) m (li x 0) (lb x 1) (ll x 2) (fun p => some p)
noncomputable def sh41x0x18 : Sh := { tmps := [(8, .c (.o 8)), (20, .c (.sl 3)), (21, .c (.i .i64)), (22, .c (.i .i64))], mem := [(8, .row 3 true)] }
noncomputable def A41x0x18 (L : List Lf) : List (Bool × (Ex × St)) := bnd (Q41x0x18 N L N (pk sh41x0x18 [3, 4, 5] L)) fun q => [(q.isSome, ((.exit 0), ⟨[(8, .c (.o 8))], [(8, .row 3 true (q.getD default).1 (q.getD default).2)]⟩))]
theorem step41x0x18 (m : Nat) (kn : St → Option (Ex × St)) (L x : List Lf) : lpB Try.prog (T40x0 N) (h41x0s1 N).h 0 41 18 sh41x0x18 [3, 4, 5] [4, 5, 8] [8] (m + 100) kn L x = J41x0x18 N L x (fun y => kn (ofSh sh41x0x18 (mx sh41x0x18 [3, 4, 5] L y))) (fun p => some ((.exit 0), ⟨[(8, .c (.o 8))], [(8, .row 3 true p.1 p.2)]⟩)) := by kernel_rfl
noncomputable def h41x0s2 : Sg Try.prog 0 41 :=
  (h41x0s1 N).lp (A41x0x18 N) N progOk (T40x0_ok N) (fun m kn L x => (step41x0x18 N m kn L x).trans (sb41x0x18 N L x _ _)) (fun L m x => sb41x0x18 N L x (Q41x0x18 N L m) some) fun L x hx => alt1 x hx
noncomputable def F41x0 (v0 v1 v2 : Int) (v4 v6 v8 : LD) (k0 : Bool × LD × Int → Option R) : Option R :=
  bnd (G39x0 N v0 v1 v2 v4 v6 v8) fun y0 =>
  bif y0.isSome then
    bif ((y0.getD default).2.2 != 0) then
      k0 (true, [], (y0.getD default).2.2)
    else
      bnd (G41x0x18 N (y0.getD default).2.1 ((y0.getD default).2.1.length : Int) 0 true []) fun y1 =>
      bif y1.isSome then
        k0 ((y1.getD default).1, (y1.getD default).2, 0)
      else
        none
  else
    none
noncomputable def G41x0 (v0 v1 v2 : Int) (v4 v6 v8 : LD) : Option (Bool × LD × Int) := F41x0 N v0 v1 v2 v4 v6 v8 (fun p => some p)
theorem bind41x0 (v0 v1 v2 : Int) (v4 v6 v8 : LD) (k0 : Bool × LD × Int → Option R) : F41x0 N v0 v1 v2 v4 v6 v8 k0 = (G41x0 N v0 v1 v2 v4 v6 v8).bind k0 := by
  unfold G41x0 F41x0
  repeat' (first | rfl | apply cond_b | (apply bnd_b; intro _))
noncomputable def J41x0 (L : List Lf) (k0 : Bool × LD × Int → Option R) : Option R := F41x0 N (li L 0) (li L 1) (li L 2) (ll L 4) (ll L 6) (ll L 8) k0
noncomputable def sh41x0 : Sh := { tmps := [(0, .g ([.i .i64, .i .i64, .i .i64, .sl 66, .sl 68])), (1, .c (.sl 3))], mem := [] }
noncomputable def A41x0 (L : List Lf) : List (Bool × Res) := bnd (J41x0 N L (fun p => some p)) fun q => [(q.isSome, ([.c (.sl 3 (q.getD default).1 (q.getD default).2.1), .c (.i .i64 (q.getD default).2.2)], []))]
theorem raw41x0 (L : List Lf) : bd Try.prog (T40x0 N) (h41x0s2 N).h 41 sh41x0 L = J41x0 N L (fun p => some ([.c (.sl 3 p.1 p.2.1), .c (.i .i64 p.2.2)], [])) := by kernel_rfl
theorem ok41x0 : FnOk Try.prog 41 sh41x0 (A41x0 N) :=
  (h41x0s2 N).fn progOk (T40x0_ok N) fun L x hx => ((raw41x0 N L).trans ((bind41x0 N ..).trans (alt1 x hx)))
noncomputable def T41x0 : Oracle := ext 41 (spSh sh41x0 (A41x0 N)) (T40x0 N)
theorem T41x0_ok : OracleOk Try.prog (T41x0 N) := FnOk.to (ok41x0 N) (T40x0_ok N)
noncomputable def rg42x0 : List (Nat × List Nat) := [(0, [0, 1]), (1, [2, 1]), (2, [6, 2, 1]), (3, [6]), (4, [2, 1])]
noncomputable def hd42x0 : Hints := []
noncomputable def h42x0s0 (N : Nat) : Sg Try.prog 0 42 := .start hd42x0 rg42x0
noncomputable def F42x0 (v0 v1 v2 : Int) (v4 v6 v8 : LD) (k0 : Bool × LD × Int → Option R) : Option R :=
  bnd (G58x0 N v0 v1 v2 v4 v6 v8) fun y0 =>
  bif y0.isSome then
    bif ((y0.getD default) != 0) then
      k0 (true, [], (y0.getD default))
    else
      bnd (G71x0 N v4 v8) fun y1 =>
      bif y1.isSome then
        k0 ((y1.getD default).1, (y1.getD default).2, 0)
      else
        none
  else
    none
noncomputable def G42x0 (v0 v1 v2 : Int) (v4 v6 v8 : LD) : Option (Bool × LD × Int) := F42x0 N v0 v1 v2 v4 v6 v8 (fun p => some p)
theorem bind42x0 (v0 v1 v2 : Int) (v4 v6 v8 : LD) (k0 : Bool × LD × Int → Option R) : F42x0 N v0 v1 v2 v4 v6 v8 k0 = (G42x0 N v0 v1 v2 v4 v6 v8).bind k0 := by
  unfold G42x0 F42x0
  repeat' (first | rfl | apply cond_b | (apply bnd_b; intro _))
noncomputable def J42x0 (L : List Lf) (k0 : Bool × LD × Int → Option R) : Option R := F42x0 N (li L 0) (li L 1) (li L 2) (ll L 4) (ll L 6) (ll L 8) k0
noncomputable def sh42x0 : Sh := { tmps := [(0, .g ([.i .i64, .i .i64, .i .i64, .sl 66, .sl 68])), (1, .c (.sl 3))], mem := [] }
noncomputable def A42x0 (L : List Lf) : List (Bool × Res) := bnd (J42x0 N L (fun p => some p)) fun q => [(q.isSome, ([.c (.sl 3 (q.getD default).1 (q.getD default).2.1), .c (.i .i64 (q.getD default).2.2)], []))]
theorem raw42x0 (L : List Lf) : bd Try.prog (T41x0 N) (h42x0s0 N).h 42 sh42x0 L = J42x0 N L (fun p => some ([.c (.sl 3 p.1 p.2.1), .c (.i .i64 p.2.2)], [])) := by kernel_rfl
theorem ok42x0 : FnOk Try.prog 42 sh42x0 (A42x0 N) :=
  (h42x0s0 N).fn progOk (T41x0_ok N) fun L x hx => ((raw42x0 N L).trans ((bind42x0 N ..).trans (alt1 x hx)))
noncomputable def T42x0 : Oracle := ext 42 (spSh sh42x0 (A42x0 N)) (T41x0 N)
theorem T42x0_ok : OracleOk Try.prog (T42x0 N) := FnOk.to (ok42x0 N) (T41x0_ok N)
noncomputable def rg89x0 : List (Nat × List Nat) := [(0, [1, 0]), (1, [1, 0]), (2, [0, 1]), (3, [0])]
noncomputable def hd89x0 : Hints := []
noncomputable def h89x0s0 (N : Nat) : Sg Try.prog 2 89 := .start hd89x0 rg89x0
noncomputable def F89x0 (N : Nat) (v0 : Int) (v5 v21 : LD) (k0 : Int × Int → Option R) : Option R :=
  bif (decide (v0 < (v21.length : Int))) then
    bif (inB v0 v21.length) then
      bif (inB v0 v21.length) then
        k0 ((v21.getD v0.toNat (.i 0)).toI, (v21.getD v0.toNat (.i 0)).toI)
      else
        none
    else
      none
  else
    k0 ((-1), (IntKind.wrap .i64 ((v5.length : Int) - 1)))
noncomputable def G89x0 (v0 : Int) (v5 v21 : LD) : Option (Int × Int) := F89x0 N v0 v5 v21 (fun p => some p)
theorem bind89x0 (v0 : Int) (v5 v21 : LD) (k0 : Int × Int → Option R) : F89x0 N v0 v5 v21 k0 = (G89x0 N v0 v5 v21).bind k0 := by
  unfold G89x0 F89x0
  repeat' (first | rfl | apply cond_b | (apply bnd_b; intro _))
noncomputable def sh89x0 : Sh := { tmps := [(0, .c (.p 0 0)), (1, .c (.i .i64))], mem := [(0, .box (.i .i64 :: .i .i64 :: .i .i64 :: .sl 66 :: .sl 68 :: rB 12 ([.sl 3, .sl 3, .m 1]))), (1, .map 106 59)] }
noncomputable def K89x0w0 (L : List Lf) (p : Int × Int) : Res := ([.c (.i .i64 p.1), .c (.i .i64 p.2)], mgA (ofSh sh89x0 L).mem [] [0, 1])
noncomputable def A89x0 (L : List Lf) : List (Bool × Res) := bnd (F89x0 N (li L 0) (ll L 5) (ll L 21) (fun p => some p)) fun q => [(q.isSome, K89x0w0 L (q.getD default))]
theorem raw89x0 (L : List Lf) : bd Try.prog (T42x0 N) (h89x0s0 N).h 89 sh89x0 L = F89x0 N (li L 0) (ll L 5) (ll L 21) (fun p => some (K89x0w0 L p)) := by kernel_rfl
theorem ok89x0 : FnOk Try.prog 89 sh89x0 (A89x0 N) :=
  (h89x0s0 N).fn progOk (T42x0_ok N) fun L x hx => ((raw89x0 N L).trans ((bind89x0 N ..).trans (alt1 x hx)))
noncomputable def T89x0 : Oracle := ext 89 (spSh sh89x0 (A89x0 N)) (T42x0 N)
theorem T89x0_ok : OracleOk Try.prog (T89x0 N) := FnOk.to (ok89x0 N) (T42x0_ok N)
abbrev Rc78x1 : Type := Int → Int → Int → Int → Int → Int → Int → Int → Int → Int → Int → Int → Int → Int → Int → Int → Int → Int → Int → Int → Int → Int → Int → Bool → LD → Bool → LD → Bool → Bool → Bool → Bool → Bool → Bool → Bool → Bool → Bool → Bool → Bool → Bool → Bool → LD → Bool → LD → (List (D × D)) → Option (Ty9)
noncomputable def sh78x1 : Sh := { tmps := [(0, .c (.p 0 0)), (1, .g (rI 20 ([])))], mem := [(0, .box (.i .i64 :: .i .i64 :: .i .i64 :: .sl 66 :: .sl 68 :: rB 12 ([.sl 3, .sl 3, .m 1]))), (1, .map 106 59)] }
noncomputable def B78x1 (N : Nat) (rc : Rc78x1) (L : List Lf) : List (Bool × Res) := bnd (rc (li L 0) (li L 1) (li L 2) (li L 3) (li L 4) (li L 5) (li L 6) (li L 7) (li L 8) (li L 9) (li L 10) (li L 11) (li L 12) (li L 13) (li L 14) (li L 15) (li L 16) (li L 17) (li L 18) (li L 19) (li L 20) (li L 21) (li L 22) (lb L 23) (ll L 24) (lb L 25) (ll L 26) (lb L 27) (lb L 28) (lb L 29) (lb L 30) (lb L 31) (lb L 32) (lb L 33) (lb L 34) (lb L 35) (lb L 36) (lb L 37) (lb L 38) (lb L 39) (ll L 40) (lb L 41) (ll L 42) (lm L 43)) fun q => [(q.isSome, ([.g [.i .i64 (q.getD default).1, .i .i64 (q.getD default).2.1, .i .i64 (q.getD default).2.2.1]], [(0, .box [.i .i64 (li L 20), .i .i64 (li L 21), .i .i64 (li L 22), .sl 66 (lb L 23) (ll L 24), .sl 68 (lb L 25) (ll L 26), .b (lb L 27), .b (lb L 28), .b (lb L 29), .b (lb L 30), .b (lb L 31), .b (lb L 32), .b (lb L 33), .b (lb L 34), .b (lb L 35), .b (lb L 36), .b (lb L 37), .b (lb L 38), .sl 3 (lb L 39) (ll L 40), .sl 3 (lb L 41) (ll L 42), .m 1]), (1, .map 106 59 (q.getD default).2.2.2)]))]
noncomputable def O78x1 (rc : Rc78x1) : Oracle := ext 78 (spSh sh78x1 ((B78x1 N) rc)) (T89x0 N)
noncomputable def rg90x1 : List (Nat × List Nat) := [(0, [1, 0, 2]), (1, [0, 4, 2, 6]), (2, [8, 6, 0, 7, 2, 4]), (3, [6]), (4, [0, 7, 6, 2, 4]), (5, [9, 6, 0, 2, 4]), (6, [9, 6]), (7, [9, 0, 2, 4, 6]), (8, [4, 0, 2, 9, 6]), (9, [9, 6]), (10, [9, 6])]
noncomputable def hd90x1 : Hints := [(25, [4, 0, 2, 9, 6], [11, 8, 6, 1, 0], []), (29, [9, 6, 70], [11, 8, 0, 1], [])]
noncomputable def h90x1s0 (rc : Rc78x1) (hR : OracleOk Try.prog ((O78x1 N) rc)) : Sg Try.prog 2 90 := .start hd90x1 rg90x1
noncomputable def F90x1x25 (N : Nat) (rc : Rc78x1) (w0 : Int) (w21 w23 : LD) (w25 : Int) (k0 : Bool → Option R) : Option R :=
  bif (decide (w25 ≥ (w21.length : Int))) then
    bif (decide (w25 < (w23.length : Int))) then
      bif (inB w25 w23.length) then
        k0 ((w23.getD w25.toNat (.i 0)).toI != w0)
      else
        none
    else
      k0 false
  else
    k0 false
noncomputable def G90x1x25 (rc : Rc78x1) (w0 : Int) (w21 w23 : LD) (w25 : Int) : Option (Bool) := F90x1x25 N rc w0 w21 w23 w25 (fun p => some p)
theorem bind90x1x25 (rc : Rc78x1) (w0 : Int) (w21 w23 : LD) (w25 : Int) (k0 : Bool → Option R) : F90x1x25 N rc w0 w21 w23 w25 k0 = (G90x1x25 N rc w0 w21 w23 w25).bind k0 := by
  unfold G90x1x25 F90x1x25
  repeat' (first | rfl | apply cond_b | (apply bnd_b; intro _))
noncomputable def J90x1x25 (rc : Rc78x1) (L : List Lf) (k0 : Bool → Option R) : Option R := F90x1x25 N rc (li L 0) (ll L 21) (ll L 23) (li L 25) k0
noncomputable def sh90x1x25 : Sh := { tmps := [(0, .c (.p 0 0)), (2, .c (.i .i64)), (4, .c (.p 6 0)), (6, .c (.p 8 0)), (9, .c (.p 11 0))], mem := [(0, .box (.i .i64 :: .i .i64 :: .i .i64 :: .sl 66 :: .sl 68 :: rB 12 ([.sl 3, .sl 3, .m 1]))), (1, .map 106 59), (6, .box (rI 20 ([]))), (8, .box ([.i .i64, .i .i64, .i .i64])), (11, .box ([.i .i64, .i .i64, .i .i64]))] }
noncomputable def K90x1x25w0 (L : List Lf) (p : Bool) : Ex × St := (.normal, mg (ofSh sh90x1x25 L) [6, 9, 70] [(70, .c (.b p))] [0, 1, 8, 11] [])
noncomputable def A90x1x25 (rc : Rc78x1) (L : List Lf) : List (Bool × (Ex × St)) := bnd (J90x1x25 N rc L (fun p => some p)) fun q => [(q.isSome, K90x1x25w0 L (q.getD default))]
theorem raw90x1x25 (rc : Rc78x1) (hR : OracleOk Try.prog ((O78x1 N) rc)) (L : List Lf) : pc Try.prog ((O78x1 N) rc) ((h90x1s0 N) rc hR).h 2 100 90 25 sh90x1x25 L [9, 6, 70] [11, 8, 0, 1] = J90x1x25 N rc L (fun p => some (K90x1x25w0 L p)) := by kernel_rfl
noncomputable def h90x1s1 (rc : Rc78x1) (hR : OracleOk Try.prog ((O78x1 N) rc)) : Sg Try.prog 2 90 :=
  ((h90x1s0 N) rc hR).cut ((A90x1x25 N) rc) progOk hR fun L x hx => (raw90x1x25 N rc hR L).trans ((bind90x1x25 N rc ..).trans (alt1 x hx))
noncomputable def F90x1x29 (N : Nat) (rc : Rc78x1) (w0 : Bool) (w29 : Int) (k0 : Int → R) : R :=
  bif w0 then
    k0 (IntKind.wrap .i64 (w29 + 1))
  else
    k0 w29
noncomputable def V90x1x29 (rc : Rc78x1) (w0 : Bool) (w29 : Int) : Int := F90x1x29 N rc w0 w29 (fun p => p)
theorem tot90x1x29 (rc : Rc78x1) (w0 : Bool) (w29 : Int) (k0 : Int → R) : F90x1x29 N rc w0 w29 k0 = k0 (V90x1x29 N rc w0 w29) := by
  unfold V90x1x29 F90x1x29
  repeat' (first | rfl | apply cond_k | (apply bnd_k; intro _))
noncomputable def sh90x1x29 : Sh := { tmps := [(6, .c (.p 8 0)), (9, .c (.p 11 0)), (70, .c (.b))], mem := [(0, .box (.i .i64 :: .i .i64 :: .i .i64 :: .sl 66 :: .sl 68 :: rB 12 ([.sl 3, .sl 3, .m 1]))), (1, .map 106 59), (8, .box ([.i .i64, .i .i64, .i .i64])), (11, .box ([.i .i64, .i .i64, .i .i64]))] }
noncomputable def K90x1x29w0 (L : List Lf) (p : Int) : Ex × St := (.normal, mg (ofSh sh90x1x29 L) [6, 9] [] [0, 1, 8, 11] [(11, .box [.i .i64 (li L 28), .i .i64 p, .i .i64 (li L 30)])])
noncomputable def A90x1x29 (rc : Rc78x1) (L : List Lf) : List (Bool × (Ex × St)) := bnd (F90x1x29 N rc (lb L 0) (li L 29) (fun p => p)) fun q => [(true, K90x1x29w0 L q)]
theorem raw90x1x29 (rc : Rc78x1) (hR : OracleOk Try.prog ((O78x1 N) rc)) (L : List Lf) : pc Try.prog ((O78x1 N) rc) ((h90x1s1 N) rc hR).h 2 100 90 29 sh90x1x29 L [9, 6] [11, 8, 0, 1] = F90x1x29 N rc (lb L 0) (li L 29) (fun p => some (K90x1x29w0 L p)) := by kernel_rfl
noncomputable def h90x1s2 (rc : Rc78x1) (hR : OracleOk Try.prog ((O78x1 N) rc)) : Sg Try.prog 2 90 :=
  ((h90x1s1 N) rc hR).cut ((A90x1x29 N) rc) progOk hR fun L x hx => (raw90x1x29 N rc hR L).trans ((tot90x1x29 N rc ..).trans (alt0 _ _ hx))
noncomputable def F90x1 (rc : Rc78x1) (v0 v1 v2 v3 v4 v5 v6 v7 v8 v9 v10 v11 v12 v13 v14 v15 v16 v17 v18 v19 v20 v21 v22 v23 : Int) (v24 : Bool) (v25 : LD) (v26 : Bool) (v27 : LD) (v28 v29 v30 v31 v32 v33 v34 v35 v36 v37 v38 v39 v40 : Bool) (v41 : LD) (v42 : Bool) (v43 : LD) (v44 : (List (D × D))) (k0 : Ty9 → Option R) : Option R :=
  bnd (G88x0 N v0 v1 v2 v3 v4 v5 v6 v7 v8 v9 v10 v11 v12 v13 v14 v15 v16 v17 v18 v19 v20 v21 v22 v25 v27 v28 v29 v30 v31 v32 v33 v34 v35 v36 v37 v38 v39) fun y0 =>
  bif y0.isSome then
    bnd (y0.getD default).2.2.2.2.2.2.2.2.2.2.2.2.2.2.2.2.2.2.1 fun y1 =>
    bnd (y0.getD default).2.2.2.2.2.2.2.2.2.2.2.2.2.2.2.2.2.2.2.1 fun y2 =>
    bnd (y0.getD default).2.2.2.2.2.2.2.2.2.2.2.2.2.2.2.2.2.2.2.2 fun y3 =>
    bif (!y3) then
      k0 (0, 0, 0, v44)
    else
      bnd (rc (y0.getD default).1 (y0.getD default).2.1 (y0.getD default).2.2.1 (y0.getD default).2.2.2.1 (y0.getD default).2.2.2.2.1 (y0.getD default).2.2.2.2.2.1 (y0.getD default).2.2.2.2.2.2.1 (y0.getD default).2.2.2.2.2.2.2.1 (y0.getD default).2.2.2.2.2.2.2.2.1 (y0.getD default).2.2.2.2.2.2.2.2.2.1 (y0.getD default).2.2.2.2.2.2.2.2.2.2.1 (y0.getD default).2.2.2.2.2.2.2.2.2.2.2.1 (y0.getD default).2.2.2.2.2.2.2.2.2.2.2.2.1 (y0.getD default).2.2.2.2.2.2.2.2.2.2.2.2.2.1 (y0.getD default).2.2.2.2.2.2.2.2.2.2.2.2.2.2.1 (y0.getD default).2.2.2.2.2.2.2.2.2.2.2.2.2.2.2.1 (y0.getD default).2.2.2.2.2.2.2.2.2.2.2.2.2.2.2.2.1 (y0.getD default).2.2.2.2.2.2.2.2.2.2.2.2.2.2.2.2.2.1 y1 y2 v21 v22 v23 v24 v25 v26 v27 v28 v29 v30 v31 v32 v33 v34 v35 v36 v37 v38 v39 v40 v41 v42 v43 v44) fun y4 =>
      bif y4.isSome then
        bif ((y4.getD default).1 == 0) then
          k0 (y4.getD default)
        else
          bnd (G70x0 N v25 v20) fun y5 =>
          bif y5.isSome then
            bnd (IntKind.wrap .i64 ((y4.getD default).2.2.1 + (y5.getD default).2.2.2.1)) fun y6 =>
            bnd (G90x1x25 N rc v20 v41 v43 v0) fun y7 =>
            bif y7.isSome then
              bnd (V90x1x29 N rc (y7.getD default) (y4.getD default).2.1) fun y8 =>
              k0 ((y4.getD default).1, y8, y6, (y4.getD default).2.2.2)
            else
              none
          else
            none
      else
        none
  else
    none
noncomputable def G90x1 (rc : Rc78x1) (v0 v1 v2 v3 v4 v5 v6 v7 v8 v9 v10 v11 v12 v13 v14 v15 v16 v17 v18 v19 v20 v21 v22 v23 : Int) (v24 : Bool) (v25 : LD) (v26 : Bool) (v27 : LD) (v28 v29 v30 v31 v32 v33 v34 v35 v36 v37 v38 v39 v40 : Bool) (v41 : LD) (v42 : Bool) (v43 : LD) (v44 : (List (D × D))) : Option (Ty9) := F90x1 N rc v0 v1 v2 v3 v4 v5 v6 v7 v8 v9 v10 v11 v12 v13 v14 v15 v16 v17 v18 v19 v20 v21 v22 v23 v24 v25 v26 v27 v28 v29 v30 v31 v32 v33 v34 v35 v36 v37 v38 v39 v40 v41 v42 v43 v44 (fun p => some p)
theorem bind90x1 (rc : Rc78x1) (v0 v1 v2 v3 v4 v5 v6 v7 v8 v9 v10 v11 v12 v13 v14 v15 v16 v17 v18 v19 v20 v21 v22 v23 : Int) (v24 : Bool) (v25 : LD) (v26 : Bool) (v27 : LD) (v28 v29 v30 v31 v32 v33 v34 v35 v36 v37 v38 v39 v40 : Bool) (v41 : LD) (v42 : Bool) (v43 : LD) (v44 : (List (D × D))) (k0 : Ty9 → Option R) : F90x1 N rc v0 v1 v2 v3 v4 v5 v6 v7 v8 v9 v10 v11 v12 v13 v14 v15 v16 v17 v18 v19 v20 v21 v22 v23 v24 v25 v26 v27 v28 v29 v30 v31 v32 v33 v34 v35 v36 v37 v38 v39 v40 v41 v42 v43 v44 k0 = (G90x1 N rc v0 v1 v2 v3 v4 v5 v6 v7 v8 v9 v10 v11 v12 v13 v14 v15 v16 v17 v18 v19 v20 v21 v22 v23 v24 v25 v26 v27 v28 v29 v30 v31 v32 v33 v34 v35 v36 v37 v38 v39 v40 v41 v42 v43 v44).bind k0 := by
  unfold G90x1 F90x1
  repeat' (first | rfl | apply cond_b | (apply bnd_b; intro _))
noncomputable def J90x1 (rc : Rc78x1) (L : List Lf) (k0 : Ty9 → Option R) : Option R := F90x1 N rc (li L 0) (li L 1) (li L 2) (li L 3) (li L 4) (li L 5) (li L 6) (li L 7) (li L 8) (li L 9) (li L 10) (li L 11) (li L 12) (li L 13) (li L 14) (li L 15) (li L 16) (li L 17) (li L 18) (li L 19) (li L 20) (li L 21) (li L 22) (li L 23) (lb L 24) (ll L 25) (lb L 26) (ll L 27) (lb L 28) (lb L 29) (lb L 30) (lb L 31) (lb L 32) (lb L 33) (lb L 34) (lb L 35) (lb L 36) (lb L 37) (lb L 38) (lb L 39) (lb L 40) (ll L 41) (lb L 42) (ll L 43) (lm L 44) k0
noncomputable def sh90x1 : Sh := { tmps := [(0, .c (.p 0 0)), (1, .g (rI 20 ([]))), (2, .c (.i .i64))], mem := [(0, .box (.i .i64 :: .i .i64 :: .i .i64 :: .sl 66 :: .sl 68 :: rB 12 ([.sl 3, .sl 3, .m 1]))), (1, .map 106 59)] }
noncomputable def K90x1w0 (L : List Lf) (p : Ty9) : Res := ([.g [.i .i64 p.1, .i .i64 p.2.1, .i .i64 p.2.2.1]], mgA (ofSh sh90x1 L).mem [(1, .map 106 59 p.2.2.2)] [0, 1])
noncomputable def A90x1 (rc : Rc78x1) (L : List Lf) : List (Bool × Res) := bnd (J90x1 N rc L (fun p => some p)) fun q => [(q.isSome, K90x1w0 L (q.getD default))]
theorem raw90x1 (rc : Rc78x1) (hR : OracleOk Try.prog ((O78x1 N) rc)) (L : List Lf) : bd Try.prog ((O78x1 N) rc) ((h90x1s2 N) rc hR).h 90 sh90x1 L = J90x1 N rc L (fun p => some (K90x1w0 L p)) := by kernel_rfl
theorem ok90x1 (rc : Rc78x1) (hR : OracleOk Try.prog ((O78x1 N) rc)) : FnOk Try.prog 90 sh90x1 ((A90x1 N) rc) :=
  ((h90x1s2 N) rc hR).fn progOk hR fun L x hx => ((raw90x1 N rc hR L).trans ((bind90x1 N rc ..).trans (alt1 x hx)))
noncomputable def T90x1 (rc : Rc78x1) : Oracle := ext 90 (spSh sh90x1 ((A90x1 N) rc)) ((O78x1 N) rc)
theorem T90x1_ok (rc : Rc78x1) (hR : OracleOk Try.prog ((O78x1 N) rc)) : OracleOk Try.prog ((T90x1 N) rc) := FnOk.to ((ok90x1 N) rc hR) hR
noncomputable def rg91x0 : List (Nat × List Nat) := [(0, [0, 1]), (1, [2, 3])]
noncomputable def hd91x0 : Hints := []
noncomputable def h91x0s0 (rc : Rc78x1) (hR : OracleOk Try.prog ((O78x1 N) rc)) : Sg Try.prog 0 91 := .start hd91x0 rg91x0
noncomputable def F91x0 (N : Nat) (rc : Rc78x1) (v0 v1 v2 v3 v4 v5 : Int) (k0 : Bool → R) : R :=
  bnd (bif (decide (v0 > 0)) then (bif (bif (v3 == 0) then true else (decide (v1 < v4))) then true else (bif (v1 == v4) then (decide (v2 > v5)) else false)) else false) fun y0 =>
  k0 y0
noncomputable def V91x0 (rc : Rc78x1) (v0 v1 v2 v3 v4 v5 : Int) : Bool := F91x0 N rc v0 v1 v2 v3 v4 v5 (fun p => p)
theorem tot91x0 (rc : Rc78x1) (v0 v1 v2 v3 v4 v5 : Int) (k0 : Bool → R) : F91x0 N rc v0 v1 v2 v3 v4 v5 k0 = k0 (V91x0 N rc v0 v1 v2 v3 v4 v5) := by
  unfold V91x0 F91x0
  repeat' (first | rfl | apply cond_k | (apply bnd_k; intro _))
noncomputable def J91x0 (rc : Rc78x1) (L : List Lf) (k0 : Bool → R) : R := F91x0 N rc (li L 0) (li L 1) (li L 2) (li L 3) (li L 4) (li L 5) k0
noncomputable def sh91x0 : Sh := { tmps := [(0, .g ([.i .i64, .i .i64, .i .i64])), (1, .g ([.i .i64, .i .i64, .i .i64]))], mem := [] }
noncomputable def A91x0 (rc : Rc78x1) (L : List Lf) : List (Bool × Res) := bnd (J91x0 N rc L (fun p => p)) fun q => [(true, ([.c (.b q)], []))]
theorem raw91x0 (rc : Rc78x1) (hR : OracleOk Try.prog ((O78x1 N) rc)) (L : List Lf) : bd Try.prog ((T90x1 N) rc) ((h91x0s0 N) rc hR).h 91 sh91x0 L = J91x0 N rc L (fun p => some ([.c (.b p)], [])) := by kernel_rfl
theorem ok91x0 (rc : Rc78x1) (hR : OracleOk Try.prog ((O78x1 N) rc)) : FnOk Try.prog 91 sh91x0 ((A91x0 N) rc) :=
  ((h91x0s0 N) rc hR).fn progOk ((T90x1_ok N) rc hR) fun L x hx => ((raw91x0 N rc hR L).trans ((tot91x0 N rc ..).trans (alt0 _ _ hx)))
noncomputable def T91x0 (rc : Rc78x1) : Oracle := ext 91 (spSh sh91x0 ((A91x0 N) rc)) ((T90x1 N) rc)
theorem T91x0_ok (rc : Rc78x1) (hR : OracleOk Try.prog ((O78x1 N) rc)) : OracleOk Try.prog ((T91x0 N) rc) := FnOk.to ((ok91x0 N) rc hR) ((T90x1_ok N) rc hR)
noncomputable def rg78x1 : List (Nat × List Nat) := [(0, [1, 0]), (1, [3, 0, 4]), (2, [4]), (3, [0, 3, 4]), (4, [6, 5, 4, 0, 3]), (5, [5, 4]), (6, [0, 3, 4]), (7, [0, 3, 7, 4]), (8, [0, 3, 8, 7, 4]), (9, [9, 10, 0, 3, 8, 7, 4]), (10, [11, 10, 0, 3, 8, 7, 4]), (12, [0, 3, 11, 8, 7, 10, 4]), (13, [8, 12, 7, 11, 10, 0, 3, 4]), (14, [12, 7, 11, 10, 0, 3, 8, 4]), (15, [12, 7, 11, 10, 0, 3, 8, 4]), (11, [11, 10, 0, 3, 8, 7, 4]), (16, [8, 7, 0, 3, 4]), (17, [0, 3, 7, 4]), (18, [7, 4])]
noncomputable def hd78x1 : Hints := [(30, [11, 10, 0, 3, 8, 7, 4], [9, 6, 5, 1, 0], []), (47, [12, 7, 11, 10, 0, 3, 8, 4, 57], [14, 9, 6, 5, 1, 0], [])]
noncomputable def h78x1s0 (rc : Rc78x1) (hR : OracleOk Try.prog ((O78x1 N) rc)) : Sg Try.prog 2 78 := .start hd78x1 rg78x1
noncomputable def F78x1x47 (N : Nat) (rc : Rc78x1) (w3 : Bool) (w51 w52 w53 w54 w55 w56 : Int) (k0 : Int × Int × Int → R) : R :=
  bif w3 then
    k0 (w54, w55, w56)
  else
    k0 (w51, w52, w53)
noncomputable def V78x1x47 (rc : Rc78x1) (w3 : Bool) (w51 w52 w53 w54 w55 w56 : Int) : Int × Int × Int := F78x1x47 N rc w3 w51 w52 w53 w54 w55 w56 (fun p => p)
theorem tot78x1x47 (rc : Rc78x1) (w3 : Bool) (w51 w52 w53 w54 w55 w56 : Int) (k0 : Int × Int × Int → R) : F78x1x47 N rc w3 w51 w52 w53 w54 w55 w56 k0 = k0 (V78x1x47 N rc w3 w51 w52 w53 w54 w55 w56) := by
  unfold V78x1x47 F78x1x47
  repeat' (first | rfl | apply cond_k | (apply bnd_k; intro _))
noncomputable def J78x1x47 (rc : Rc78x1) (L : List Lf) (k0 : Int × Int × Int → R) : R := F78x1x47 N rc (lb L 3) (li L 51) (li L 52) (li L 53) (li L 54) (li L 55) (li L 56) k0
noncomputable def sh78x1x47 : Sh := { tmps := [(0, .c (.p 0 0)), (3, .c (.p 5 0)), (4, .c (.p 6 0)), (7, .c (.p 9 0)), (8, .c (.i .i64)), (10, .c (.i .i64)), (11, .c (.i .i64)), (12, .c (.p 14 0)), (57, .c (.b))], mem := [(0, .box (.i .i64 :: .i .i64 :: .i .i64 :: .sl 66 :: .sl 68 :: rB 12 ([.sl 3, .sl 3, .m 1]))), (1, .map 106 59), (5, .box (rI 20 ([]))), (6, .box ([.i .i64, .i .i64, .i .i64])), (9, .box ([.i .i64, .i .i64, .i .i64])), (14, .box ([.i .i64, .i .i64, .i .i64]))] }
noncomputable def K78x1x47w0 (L : List Lf) (p : Int × Int × Int) : Ex × St := (.normal, mg (ofSh sh78x1x47 L) [0, 3, 4, 7, 8, 10, 11] [] [0, 1, 5, 6, 9] [(9, .box [.i .i64 p.1, .i .i64 p.2.1, .i .i64 p.2.2])])
noncomputable def A78x1x47 (rc : Rc78x1) (L : List Lf) : List (Bool × (Ex × St)) := bnd (J78x1x47 N rc L (fun p => p)) fun q => [(true, K78x1x47w0 L q)]
theorem raw78x1x47 (rc : Rc78x1) (hR : OracleOk Try.prog ((O78x1 N) rc)) (L : List Lf) : pc Try.prog ((T91x0 N) rc) ((h78x1s0 N) rc hR).h 2 100 78 47 sh78x1x47 L [11, 10, 0, 3, 8, 7, 4] [9, 6, 5, 1, 0] = J78x1x47 N rc L (fun p => some (K78x1x47w0 L p)) := by kernel_rfl
noncomputable def h78x1s1 (rc : Rc78x1) (hR : OracleOk Try.prog ((O78x1 N) rc)) : Sg Try.prog 2 78 :=
  ((h78x1s0 N) rc hR).cut ((A78x1x47 N) rc) progOk ((T91x0_ok N) rc hR) fun L x hx => (raw78x1x47 N rc hR L).trans ((tot78x1x47 N rc ..).trans (alt0 _ _ hx))
noncomputable def S78x1x30 (rc : Rc78x1) (w1 w3 w4 w5 : Int) (w6 : Bool) (w7 : LD) (w8 : Bool) (w9 : LD) (w10 w11 w12 w13 w14 w15 w16 w17 w18 w19 w20 w21 w22 : Bool) (w23 : LD) (w24 : Bool) (w25 : LD) (w27 w28 w29 w30 w31 w32 w33 w34 w35 w36 w37 w38 w39 w40 w41 w42 w43 w44 w45 w46 : Int) (w0 w2 : Int) (w26 : (List (D × D))) (w50 w51 w52 : Int) (kr : Int → Int → (List (D × D)) → Int → Int → Int → Option R) (k0 : Ty6 → Option R) : Option R :=
  bif (decide (w2 ≤ w1)) then
    bnd (G90x1 N rc w27 w28 w29 w30 w31 w32 w33 w34 w35 w36 w37 w38 w39 w40 w41 w42 w43 w44 w45 w46 w2 w3 w4 w5 w6 w7 w8 w9 w10 w11 w12 w13 w14 w15 w16 w17 w18 w19 w20 w21 w22 w23 w24 w25 w26) fun y0 =>
    bif y0.isSome then
      bnd (V91x0 N rc (y0.getD default).1 (y0.getD default).2.1 (y0.getD default).2.2.1 w50 w51 w52) fun y1 =>
      bnd (V78x1x47 N rc y1 w50 w51 w52 (y0.getD default).1 (y0.getD default).2.1 (y0.getD default).2.2.1) fun y2 =>
      kr (IntKind.wrap .i64 (w0 + (y0.getD default).1)) (IntKind.wrap .i64 (w2 + 1)) (y0.getD default).2.2.2 y2.1 y2.2.1 y2.2.2
    else
      none
  else
    k0 (w0, w26, w50, w51, w52)
noncomputable def L78x1x30 (N : Nat) (rc : Rc78x1) {R : Type} (w1 w3 w4 w5 : Int) (w6 : Bool) (w7 : LD) (w8 : Bool) (w9 : LD) (w10 w11 w12 w13 w14 w15 w16 w17 w18 w19 w20 w21 w22 : Bool) (w23 : LD) (w24 : Bool) (w25 : LD) (w27 w28 w29 w30 w31 w32 w33 w34 w35 w36 w37 w38 w39 w40 w41 w42 w43 w44 w45 w46 : Int) : Nat → Int → Int → (List (D × D)) → Int → Int → Int → (Ty6 → Option R) → Option R
  | 0, _, _, _, _, _, _, _ => none
  | m + 1, w0, w2, w26, w50, w51, w52, k0 => S78x1x30 N rc w1 w3 w4 w5 w6 w7 w8 w9 w10 w11 w12 w13 w14 w15 w16 w17 w18 w19 w20 w21 w22 w23 w24 w25 w27 w28 w29 w30 w31 w32 w33 w34 w35 w36 w37 w38 w39 w40 w41 w42 w43 w44 w45 w46 w0 w2 w26 w50 w51 w52 (fun w0 w2 w26 w50 w51 w52 => L78x1x30 N rc w1 w3 w4 w5 w6 w7 w8 w9 w10 w11 w12 w13 w14 w15 w16 w17 w18 w19 w20 w21 w22 w23 w24 w25 w27 w28 w29 w30 w31 w32 w33 w34 w35 w36 w37 w38 w39 w40 w41 w42 w43 w44 w45 w46 m w0 w2 w26 w50 w51 w52 k0) k0
noncomputable def G78x1x30 (rc : Rc78x1) (w1 w3 w4 w5 : Int) (w6 : Bool) (w7 : LD) (w8 : Bool) (w9 : LD) (w10 w11 w12 w13 w14 w15 w16 w17 w18 w19 w20 w21 w22 : Bool) (w23 : LD) (w24 : Bool) (w25 : LD) (w27 w28 w29 w30 w31 w32 w33 w34 w35 w36 w37 w38 w39 w40 w41 w42 w43 w44 w45 w46 : Int) (w0 w2 : Int) (w26 : (List (D × D))) (w50 w51 w52 : Int) : Option (Ty6) := L78x1x30 N rc (R := (Ty6)) w1 w3 w4 w5 w6 w7 w8 w9 w10 w11 w12 w13 w14 w15 w16 w17 w18 w19 w20 w21 w22 w23 w24 w25 w27 w28 w29 w30 w31 w32 w33 w34 w35 w36 w37 w38 w39 w40 w41 w42 w43 w44 w45 w46 N w0 w2 w26 w50 w51 w52 (fun p => some p)
noncomputable def J78x1x30 (rc : Rc78x1) (L x : List Lf) (kr : List Lf → Option R) (k0 : Ty6 → Option R) : Option R := S78x1x30 N rc (li L 1) (li L 3) (li L 4) (li L 5) (lb L 6) (ll L 7) (lb L 8) (ll L 9) (lb L 10) (lb L 11) (lb L 12) (lb L 13) (lb L 14) (lb L 15) (lb L 16) (lb L 17) (lb L 18) (lb L 19) (lb L 20) (lb L 21) (lb L 22) (ll L 23) (lb L 24) (ll L 25) (li L 27) (li L 28) (li L 29) (li L 30) (li L 31) (li L 32) (li L 33) (li L 34) (li L 35) (li L 36) (li L 37) (li L 38) (li L 39) (li L 40) (li L 41) (li L 42) (li L 43) (li L 44) (li L 45) (li L 46) (li x 0) (li x 1) (lm x 2) (li x 3) (li x 4) (li x 5) (fun w0 w2 w26 w50 w51 w52 => kr [.i w0, .i w2, .m w26, .i w50, .i w51, .i w52]) k0
theorem sb78x1x30 (rc : Rc78x1) (L x : List Lf) (kr : List Lf → Option R) (k0 : Ty6 → Option R) : J78x1x30 N rc L x kr k0 = (J78x1x30 N rc L x (fun y => some (.inl y)) (fun p => some (.inr p))).bind (sumE kr k0) := by
  unfold J78x1x30 S78x1x30
  repeat' (first | rfl | apply cond_b | (apply bnd_b; intro _))
noncomputable def Q78x1x30 (rc : Rc78x1) (L : List Lf) (m : Nat) (x : List Lf) : Option (Ty6) := L78x1x30 N rc (R := (Ty6)) (li L 1) (li L 3) (li L 4) (li L 5) (lb L 6) (ll L 7) (lb L 8) (ll L 9) (lb L 10) (lb L 11) (lb L 12) (lb L 13) (lb L 14) (lb L 15) (lb L 16) (lb L 17) (lb L 18) (lb L 19) (lb L 20) (lb L 21) (lb L 22) (ll L 23) (lb L 24) (ll L 25) (li L 27) (li L 28) (li L 29) (li L 30) (li L 31) (li L 32) (li L 33) (li L 34) (li L 35) (li L 36) (li L 37) (li L 38) (li L 39) (li L 40) (li L 41) (li L 42) (li L 43) (li L 44) (li L 45) (li L 46) m (li x 0) (li x 1) (lm x 2) (li x 3) (li x 4) (li x 5) (fun p => some p)
noncomputable def sh78x1x30 : Sh := { tmps := [(0, .c (.p 0 0)), (3, .c (.p 5 0)), (4, .c (.p 6 0)), (7, .c (.p 9 0)), (8, .c (.i .i64)), (10, .c (.i .i64)), (11, .c (.i .i64))], mem := [(0, .box (.i .i64 :: .i .i64 :: .i .i64 :: .sl 66 :: .sl 68 :: rB 12 ([.sl 3, .sl 3, .m 1]))), (1, .map 106 59), (5, .box (rI 20 ([]))), (6, .box ([.i .i64, .i .i64, .i .i64])), (9, .box ([.i .i64, .i .i64, .i .i64]))] }
noncomputable def K78x1x30w0 (L : List Lf) (p : Ty6) : Ex × St := ((.exit 0), mg (ofSh sh78x1x30 L) [0, 3, 4, 7, 8] [(8, .c (.i .i64 p.1))] [0, 1, 5, 6, 9] [(1, .map 106 59 p.2.1), (9, .box [.i .i64 p.2.2.1, .i .i64 p.2.2.2.1, .i .i64 p.2.2.2.2])])
noncomputable def A78x1x30 (rc : Rc78x1) (L : List Lf) : List (Bool × (Ex × St)) := bnd (Q78x1x30 N rc L N (pk sh78x1x30 [0, 2, 26, 50, 51, 52] L)) fun q => [(q.isSome, K78x1x30w0 L (q.getD default))]
theorem step78x1x30 (rc : Rc78x1) (hR : OracleOk Try.prog ((O78x1 N) rc)) (m : Nat) (kn : St → Option (Ex × St)) (L x : List Lf) : lpB Try.prog ((T91x0 N) rc) ((h78x1s1 N) rc hR).h 2 78 30 sh78x1x30 [0, 2, 26, 50, 51, 52] [4, 8, 7, 0, 3] [9, 6, 5, 1, 0] (m + 100) kn L x = J78x1x30 N rc L x (fun y => kn (ofSh sh78x1x30 (mx sh78x1x30 [0, 2, 26, 50, 51, 52] L y))) (fun p => some (K78x1x30w0 L p)) := by kernel_rfl
noncomputable def h78x1s2 (rc : Rc78x1) (hR : OracleOk Try.prog ((O78x1 N) rc)) : Sg Try.prog 2 78 :=
  ((h78x1s1 N) rc hR).lp ((A78x1x30 N) rc) N progOk ((T91x0_ok N) rc hR) (fun m kn L x => (step78x1x30 N rc hR m kn L x).trans (sb78x1x30 N rc L x _ _)) (fun L m x => sb78x1x30 N rc L x (Q78x1x30 N rc L m) some) fun L x hx => alt1 x hx
noncomputable def F78x1 (rc : Rc78x1) (v0 v1 v2 v3 v4 v5 v6 v7 v8 v9 v10 v11 v12 v13 v14 v15 v16 v17 v18 v19 v20 v21 v22 : Int) (v23 : Bool) (v24 : LD) (v25 : Bool) (v26 : LD) (v27 v28 v29 v30 v31 v32 v33 v34 v35 v36 v37 v38 v39 : Bool) (v40 : LD) (v41 : Bool) (v42 : LD) (v43 : (List (D × D))) (k0 : Ty9 → Option R) : Option R :=
  bif (v0 == v21) then
    k0 (1, 0, 0, v43)
  else
    bnd (((findB Try.prog 106 (.a [(.i v0), (.i v1), (.i v2), (.i v3), (.i v4), (.i v5), (.i v6), (.i v7), (.i v8), (.i v9), (.i v10), (.i v11), (.i v12), (.i v13), (.i v14), (.i v15), (.i v16), (.i v17), (.i v18), (.i v19)]) v43).getD (.a [(.i 0), (.i 0), (.i 0)])).cell 0).toI fun y0 =>
    bnd (((findB Try.prog 106 (.a [(.i v0), (.i v1), (.i v2), (.i v3), (.i v4), (.i v5), (.i v6), (.i v7), (.i v8), (.i v9), (.i v10), (.i v11), (.i v12), (.i v13), (.i v14), (.i v15), (.i v16), (.i v17), (.i v18), (.i v19)]) v43).getD (.a [(.i 0), (.i 0), (.i 0)])).cell 1).toI fun y1 =>
    bnd (((findB Try.prog 106 (.a [(.i v0), (.i v1), (.i v2), (.i v3), (.i v4), (.i v5), (.i v6), (.i v7), (.i v8), (.i v9), (.i v10), (.i v11), (.i v12), (.i v13), (.i v14), (.i v15), (.i v16), (.i v17), (.i v18), (.i v19)]) v43).getD (.a [(.i 0), (.i 0), (.i 0)])).cell 2).toI fun y2 =>
    bnd (findB Try.prog 106 (.a [(.i v0), (.i v1), (.i v2), (.i v3), (.i v4), (.i v5), (.i v6), (.i v7), (.i v8), (.i v9), (.i v10), (.i v11), (.i v12), (.i v13), (.i v14), (.i v15), (.i v16), (.i v17), (.i v18), (.i v19)]) v43).isSome fun y3 =>
    bif y3 then
      k0 (y0, y1, y2, v43)
    else
      bnd (G89x0 N v0 v24 v40) fun y4 =>
      bif y4.isSome then
        bnd (G78x1x30 N rc (y4.getD default).2 v20 v21 v22 v23 v24 v25 v26 v27 v28 v29 v30 v31 v32 v33 v34 v35 v36 v37 v38 v39 v40 v41 v42 v0 v1 v2 v3 v4 v5 v6 v7 v8 v9 v10 v11 v12 v13 v14 v15 v16 v17 v18 v19 0 (y4.getD default).1 v43 0 0 0) fun y5 =>
        bif y5.isSome then
          bnd (putB Try.prog 106 (.a [(.i v0), (.i v1), (.i v2), (.i v3), (.i v4), (.i v5), (.i v6), (.i v7), (.i v8), (.i v9), (.i v10), (.i v11), (.i v12), (.i v13), (.i v14), (.i v15), (.i v16), (.i v17), (.i v18), (.i v19)]) (.a [(.i (y5.getD default).1), (.i (y5.getD default).2.2.2.1), (.i (y5.getD default).2.2.2.2)]) (y5.getD default).2.1) fun y6 =>
          k0 ((y5.getD default).1, (y5.getD default).2.2.2.1, (y5.getD default).2.2.2.2, y6)
        else
          none
      else
        none
noncomputable def G78x1 (rc : Rc78x1) (v0 v1 v2 v3 v4 v5 v6 v7 v8 v9 v10 v11 v12 v13 v14 v15 v16 v17 v18 v19 v20 v21 v22 : Int) (v23 : Bool) (v24 : LD) (v25 : Bool) (v26 : LD) (v27 v28 v29 v30 v31 v32 v33 v34 v35 v36 v37 v38 v39 : Bool) (v40 : LD) (v41 : Bool) (v42 : LD) (v43 : (List (D × D))) : Option (Ty9) := F78x1 N rc v0 v1 v2 v3 v4 v5 v6 v7 v8 v9 v10 v11 v12 v13 v14 v15 v16 v17 v18 v19 v20 v21 v22 v23 v24 v25 v26 v27 v28 v29 v30 v31 v32 v33 v34 v35 v36 v37 v38 v39 v40 v41 v42 v43 (fun p => some p)
theorem bind78x1 (rc : Rc78x1) (v0 v1 v2 v3 v4 v5 v6 v7 v8 v9 v10 v11 v12 v13 v14 v15 v16 v17 v18 v19 v20 v21 v22 : Int) (v23 : Bool) (v24 : LD) (v25 : Bool) (v26 : LD) (v27 v28 v29 v30 v31 v32 v33 v34 v35 v36 v37 v38 v39 : Bool) (v40 : LD) (v41 : Bool) (v42 : LD) (v43 : (List (D × D))) (k0 : Ty9 → Option R) : F78x1 N rc v0 v1 v2 v3 v4 v5 v6 v7 v8 v9 v10 v11 v12 v13 v14 v15 v16 v17 v18 v19 v20 v21 v22 v23 v24 v25 v26 v27 v28 v29 v30 v31 v32 v33 v34 v35 v36 v37 v38 v39 v40 v41 v42 v43 k0 = (G78x1 N rc v0 v1 v2 v3 v4 v5 v6 v7 v8 v9 v10 v11 v12 v13 v14 v15 v16 v17 v18 v19 v20 v21 v22 v23 v24 v25 v26 v27 v28 v29 v30 v31 v32 v33 v34 v35 v36 v37 v38 v39 v40 v41 v42 v43).bind k0 := by
  unfold G78x1 F78x1
  repeat' (first | rfl | apply cond_b | (apply bnd_b; intro _))
noncomputable def J78x1 (rc : Rc78x1) (L : List Lf) (k0 : Ty9 → Option R) : Option R := F78x1 N rc (li L 0) (li L 1) (li L 2) (li L 3) (li L 4) (li L 5) (li L 6) (li L 7) (li L 8) (li L 9) (li L 10) (li L 11) (li L 12) (li L 13) (li L 14) (li L 15) (li L 16) (li L 17) (li L 18) (li L 19) (li L 20) (li L 21) (li L 22) (lb L 23) (ll L 24) (lb L 25) (ll L 26) (lb L 27) (lb L 28) (lb L 29) (lb L 30) (lb L 31) (lb L 32) (lb L 33) (lb L 34) (lb L 35) (lb L 36) (lb L 37) (lb L 38) (lb L 39) (ll L 40) (lb L 41) (ll L 42) (lm L 43) k0
noncomputable def K78x1w0 (L : List Lf) (p : Ty9) : Res := ([.g [.i .i64 p.1, .i .i64 p.2.1, .i .i64 p.2.2.1]], mgA (ofSh sh78x1 L).mem [(1, .map 106 59 p.2.2.2)] [0, 1])
theorem raw78x1 (rc : Rc78x1) (hR : OracleOk Try.prog ((O78x1 N) rc)) (L : List Lf) : bd Try.prog ((T91x0 N) rc) ((h78x1s2 N) rc hR).h 78 sh78x1 L = J78x1 N rc L (fun p => some (K78x1w0 L p)) := by kernel_rfl
theorem fin78x1 (rc : Rc78x1) (hR : OracleOk Try.prog ((O78x1 N) rc)) (L : List Lf) (x : Res) (hx : altK ((B78x1 N) (fun v0 v1 v2 v3 v4 v5 v6 v7 v8 v9 v10 v11 v12 v13 v14 v15 v16 v17 v18 v19 v20 v21 v22 v23 v24 v25 v26 v27 v28 v29 v30 v31 v32 v33 v34 v35 v36 v37 v38 v39 v40 v41 v42 v43 => G78x1 N rc v0 v1 v2 v3 v4 v5 v6 v7 v8 v9 v10 v11 v12 v13 v14 v15 v16 v17 v18 v19 v20 v21 v22 v23 v24 v25 v26 v27 v28 v29 v30 v31 v32 v33 v34 v35 v36 v37 v38 v39 v40 v41 v42 v43) L) some = some x) : CallOk Try.prog 78 (valsOf (ofSh sh78x1 L).tmps) (ofSh sh78x1 L).mem x :=
  callOk_of (n := 200) progOk ((T91x0_ok N) rc hR) ((h78x1s2 N) rc hR).ok rfl ((raw78x1 N rc hR L).trans ((bind78x1 N rc ..).trans (alt1 x hx)))
noncomputable def R78x1 (N : Nat) : Nat → Rc78x1
  | 0 => fun _ _ _ _ _ _ _ _ _ _ _ _ _ _ _ _ _ _ _ _ _ _ _ _ _ _ _ _ _ _ _ _ _ _ _ _ _ _ _ _ _ _ _ _ => none
  | m + 1 => fun v0 v1 v2 v3 v4 v5 v6 v7 v8 v9 v10 v11 v12 v13 v14 v15 v16 v17 v18 v19 v20 v21 v22 v23 v24 v25 v26 v27 v28 v29 v30 v31 v32 v33 v34 v35 v36 v37 v38 v39 v40 v41 v42 v43 => G78x1 N (R78x1 N m) v0 v1 v2 v3 v4 v5 v6 v7 v8 v9 v10 v11 v12 v13 v14 v15 v16 v17 v18 v19 v20 v21 v22 v23 v24 v25 v26 v27 v28 v29 v30 v31 v32 v33 v34 v35 v36 v37 v38 v39 v40 v41 v42 v43
theorem Rok78x1 (N : Nat) : ∀ m, OracleOk Try.prog ((O78x1 N) (R78x1 N m))
  | 0 => ext_ok (T89x0_ok N) (enters_of (by kernel_rfl)) (spSh_law fun L x hx => by
    have h : (none : Option Res) = some x := hx
    cases h)
  | m + 1 => ext_ok (T89x0_ok N) (enters_of (by kernel_rfl)) (spSh_law fun L x hx => fin78x1 N (R78x1 N m) (Rok78x1 N m) L x hx)
noncomputable def T78x1 : Oracle := (O78x1 N) (R78x1 N N)
theorem T78x1_ok : OracleOk Try.prog (T78x1 N) := Rok78x1 N N
noncomputable def rg47x0 : List (Nat × List Nat) := [(0, [0, 1, 2]), (1, [3, 1, 2, 7]), (2, [8, 7])]
noncomputable def hd47x0 : Hints := []
noncomputable def h47x0s0 (N : Nat) : Sg Try.prog 0 47 := .start hd47x0 rg47x0
noncomputable def F47x0 (v0 v1 v2 : Int) (v3 : Bool) (v4 : LD) (v5 : Bool) (v6 : LD) (v7 v8 v9 v10 v11 v12 v13 v14 v15 v16 v17 v18 v19 : Bool) (v20 : LD) (v21 : Bool) (v22 : LD) (k0 : Ty9 → Option R) : Option R :=
  bnd (R78x1 N N 0 0 v2 0 0 0 0 0 0 0 0 0 0 0 0 0 0 0 0 0 v0 v1 v2 v3 v4 v5 v6 v7 v8 v9 v10 v11 v12 v13 v14 v15 v16 v17 v18 v19 v20 v21 v22 []) fun y0 =>
  bif y0.isSome then
    k0 (y0.getD default)
  else
    none
noncomputable def G47x0 (v0 v1 v2 : Int) (v3 : Bool) (v4 : LD) (v5 : Bool) (v6 : LD) (v7 v8 v9 v10 v11 v12 v13 v14 v15 v16 v17 v18 v19 : Bool) (v20 : LD) (v21 : Bool) (v22 : LD) : Option (Ty9) := F47x0 N v0 v1 v2 v3 v4 v5 v6 v7 v8 v9 v10 v11 v12 v13 v14 v15 v16 v17 v18 v19 v20 v21 v22 (fun p => some p)
theorem bind47x0 (v0 v1 v2 : Int) (v3 : Bool) (v4 : LD) (v5 : Bool) (v6 : LD) (v7 v8 v9 v10 v11 v12 v13 v14 v15 v16 v17 v18 v19 : Bool) (v20 : LD) (v21 : Bool) (v22 : LD) (k0 : Ty9 → Option R) : F47x0 N v0 v1 v2 v3 v4 v5 v6 v7 v8 v9 v10 v11 v12 v13 v14 v15 v16 v17 v18 v19 v20 v21 v22 k0 = (G47x0 N v0 v1 v2 v3 v4 v5 v6 v7 v8 v9 v10 v11 v12 v13 v14 v15 v16 v17 v18 v19 v20 v21 v22).bind k0 := by
  unfold G47x0 F47x0
  repeat' (first | rfl | apply cond_b | (apply bnd_b; intro _))
noncomputable def J47x0 (L : List Lf) (k0 : Ty9 → Option R) : Option R := F47x0 N (li L 0) (li L 1) (li L 2) (lb L 3) (ll L 4) (lb L 5) (ll L 6) (lb L 7) (lb L 8) (lb L 9) (lb L 10) (lb L 11) (lb L 12) (lb L 13) (lb L 14) (lb L 15) (lb L 16) (lb L 17) (lb L 18) (lb L 19) (ll L 20) (lb L 21) (ll L 22) k0
noncomputable def sh47x0 : Sh := { tmps := [(0, .g (.i .i64 :: .i .i64 :: .i .i64 :: .sl 66 :: .sl 68 :: rB 12 ([]))), (1, .c (.sl 3)), (2, .c (.sl 3))], mem := [] }
noncomputable def K47x0w0 (L : List Lf) (p : Ty9) : Res := ([.c (.p 14 0), .g [.i .i64 p.1, .i .i64 p.2.1, .i .i64 p.2.2.1]], [(12, .map 106 59 p.2.2.2), (14, .box (.i .i64 (li L 0) :: .i .i64 (li L 1) :: .i .i64 (li L 2) :: .sl 66 (lb L 3) (ll L 4) :: .sl 68 (lb L 5) (ll L 6) :: rM L 7 12 ([.sl 3 (lb L 19) (ll L 20), .sl 3 (lb L 21) (ll L 22), .m 12])))])
noncomputable def A47x0 (L : List Lf) : List (Bool × Res) := bnd (J47x0 N L (fun p => some p)) fun q => [(q.isSome, K47x0w0 L (q.getD default))]
theorem raw47x0 (L : List Lf) : bd Try.prog (T78x1 N) (h47x0s0 N).h 47 sh47x0 L = J47x0 N L (fun p => some (K47x0w0 L p)) := by kernel_rfl
theorem ok47x0 : FnOk Try.prog 47 sh47x0 (A47x0 N) :=
  (h47x0s0 N).fn progOk (T78x1_ok N) fun L x hx => ((raw47x0 N L).trans ((bind47x0 N ..).trans (alt1 x hx)))
noncomputable def T47x0 : Oracle := ext 47 (spSh sh47x0 (A47x0 N)) (T78x1 N)
theorem T47x0_ok : OracleOk Try.prog (T47x0 N) := FnOk.to (ok47x0 N) (T78x1_ok N)
noncomputable def rg90x2 : List (Nat × List Nat) := [(0, [1, 0, 2]), (1, [0, 4, 2, 6]), (2, [8, 6, 0, 7, 2, 4]), (3, [6]), (4, [0, 7, 6, 2, 4]), (5, [9, 6, 0, 2, 4]), (6, [9, 6]), (7, [9, 0, 2, 4, 6]), (8, [4, 0, 2, 9, 6]), (9, [9, 6]), (10, [9, 6])]
noncomputable def hd90x2 : Hints := [(25, [4, 0, 2, 9, 6], [11, 8, 6, 1, 0], []), (29, [9, 6, 70], [11, 8, 0, 1], [])]
noncomputable def h90x2s0 (N : Nat) : Sg Try.prog 2 90 := .start hd90x2 rg90x2
noncomputable def F90x2x25 (N : Nat) (w0 : Int) (w21 w23 : LD) (w25 : Int) (k0 : Bool → Option R) : Option R :=
  bif (decide (w25 ≥ (w21.length : Int))) then
    bif (decide (w25 < (w23.length : Int))) then
      bif (inB w25 w23.length) then
        k0 ((w23.getD w25.toNat (.i 0)).toI != w0)
      else
        none
    else
      k0 false
  else
    k0 false
noncomputable def G90x2x25 (w0 : Int) (w21 w23 : LD) (w25 : Int) : Option (Bool) := F90x2x25 N w0 w21 w23 w25 (fun p => some p)
theorem bind90x2x25 (w0 : Int) (w21 w23 : LD) (w25 : Int) (k0 : Bool → Option R) : F90x2x25 N w0 w21 w23 w25 k0 = (G90x2x25 N w0 w21 w23 w25).bind k0 := by
  unfold G90x2x25 F90x2x25
  repeat' (first | rfl | apply cond_b | (apply bnd_b; intro _))
noncomputable def J90x2x25 (L : List Lf) (k0 : Bool → Option R) : Option R := F90x2x25 N (li L 0) (ll L 21) (ll L 23) (li L 25) k0
noncomputable def sh90x2x25 : Sh := { tmps := [(0, .c (.p 0 0)), (2, .c (.i .i64)), (4, .c (.p 6 0)), (6, .c (.p 8 0)), (9, .c (.p 11 0))], mem := [(0, .box (.i .i64 :: .i .i64 :: .i .i64 :: .sl 66 :: .sl 68 :: rB 12 ([.sl 3, .sl 3, .m 1]))), (1, .map 106 59), (6, .box (rI 20 ([]))), (8, .box ([.i .i64, .i .i64, .i .i64])), (11, .box ([.i .i64, .i .i64, .i .i64]))] }
noncomputable def K90x2x25w0 (L : List Lf) (p : Bool) : Ex × St := (.normal, mg (ofSh sh90x2x25 L) [6, 9, 70] [(70, .c (.b p))] [0, 1, 8, 11] [])
noncomputable def A90x2x25 (L : List Lf) : List (Bool × (Ex × St)) := bnd (J90x2x25 N L (fun p => some p)) fun q => [(q.isSome, K90x2x25w0 L (q.getD default))]
theorem raw90x2x25 (L : List Lf) : pc Try.prog (T47x0 N) (h90x2s0 N).h 2 100 90 25 sh90x2x25 L [9, 6, 70] [11, 8, 0, 1] = J90x2x25 N L (fun p => some (K90x2x25w0 L p)) := by kernel_rfl
noncomputable def h90x2s1 : Sg Try.prog 2 90 :=
  (h90x2s0 N).cut (A90x2x25 N) progOk (T47x0_ok N) fun L x hx => (raw90x2x25 N L).trans ((bind90x2x25 N ..).trans (alt1 x hx))
noncomputable def F90x2x29 (N : Nat) (w0 : Bool) (w29 : Int) (k0 : Int → R) : R :=
  bif w0 then
    k0 (IntKind.wrap .i64 (w29 + 1))
  else
    k0 w29
noncomputable def V90x2x29 (w0 : Bool) (w29 : Int) : Int := F90x2x29 N w0 w29 (fun p => p)
theorem tot90x2x29 (w0 : Bool) (w29 : Int) (k0 : Int → R) : F90x2x29 N w0 w29 k0 = k0 (V90x2x29 N w0 w29) := by
  unfold V90x2x29 F90x2x29
  repeat' (first | rfl | apply cond_k | (apply bnd_k; intro _))
noncomputable def sh90x2x29 : Sh := { tmps := [(6, .c (.p 8 0)), (9, .c (.p 11 0)), (70, .c (.b))], mem := [(0, .box (.i .i64 :: .i .i64 :: .i .i64 :: .sl 66 :: .sl 68 :: rB 12 ([.sl 3, .sl 3, .m 1]))), (1, .map 106 59), (8, .box ([.i .i64, .i .i64, .i .i64])), (11, .box ([.i .i64, .i .i64, .i .i64]))] }
noncomputable def K90x2x29w0 (L : List Lf) (p : Int) : Ex × St := (.normal, mg (ofSh sh90x2x29 L) [6, 9] [] [0, 1, 8, 11] [(11, .box [.i .i64 (li L 28), .i .i64 p, .i .i64 (li L 30)])])
noncomputable def A90x2x29 (L : List Lf) : List (Bool × (Ex × St)) := bnd (F90x2x29 N (lb L 0) (li L 29) (fun p => p)) fun q => [(true, K90x2x29w0 L q)]
theorem raw90x2x29 (L : List Lf) : pc Try.prog (T47x0 N) (h90x2s1 N).h 2 100 90 29 sh90x2x29 L [9, 6] [11, 8, 0, 1] = F90x2x29 N (lb L 0) (li L 29) (fun p => some (K90x2x29w0 L p)) := by kernel_rfl
noncomputable def h90x2s2 : Sg Try.prog 2 90 :=
  (h90x2s1 N).cut (A90x2x29 N) progOk (T47x0_ok N) fun L x hx => (raw90x2x29 N L).trans ((tot90x2x29 N ..).trans (alt0 _ _ hx))
noncomputable def F90x2 (v0 v1 v2 v3 v4 v5 v6 v7 v8 v9 v10 v11 v12 v13 v14 v15 v16 v17 v18 v19 v20 v21 v22 v23 : Int) (v24 : Bool) (v25 : LD) (v26 : Bool) (v27 : LD) (v28 v29 v30 v31 v32 v33 v34 v35 v36 v37 v38 v39 v40 : Bool) (v41 : LD) (v42 : Bool) (v43 : LD) (v44 : (List (D × D))) (k0 : Ty9 → Option R) : Option R :=
  bnd (G88x0 N v0 v1 v2 v3 v4 v5 v6 v7 v8 v9 v10 v11 v12 v13 v14 v15 v16 v17 v18 v19 v20 v21 v22 v25 v27 v28 v29 v30 v31 v32 v33 v34 v35 v36 v37 v38 v39) fun y0 =>
  bif y0.isSome then
    bnd (y0.getD default).2.2.2.2.2.2.2.2.2.2.2.2.2.2.2.2.2.2.1 fun y1 =>
    bnd (y0.getD default).2.2.2.2.2.2.2.2.2.2.2.2.2.2.2.2.2.2.2.1 fun y2 =>
    bnd (y0.getD default).2.2.2.2.2.2.2.2.2.2.2.2.2.2.2.2.2.2.2.2 fun y3 =>
    bif (!y3) then
      k0 (0, 0, 0, v44)
    else
      bnd (R78x1 N N (y0.getD default).1 (y0.getD default).2.1 (y0.getD default).2.2.1 (y0.getD default).2.2.2.1 (y0.getD default).2.2.2.2.1 (y0.getD default).2.2.2.2.2.1 (y0.getD default).2.2.2.2.2.2.1 (y0.getD default).2.2.2.2.2.2.2.1 (y0.getD default).2.2.2.2.2.2.2.2.1 (y0.getD default).2.2.2.2.2.2.2.2.2.1 (y0.getD default).2.2.2.2.2.2.2.2.2.2.1 (y0.getD default).2.2.2.2.2.2.2.2.2.2.2.1 (y0.getD default).2.2.2.2.2.2.2.2.2.2.2.2.1 (y0.getD default).2.2.2.2.2.2.2.2.2.2.2.2.2.1 (y0.getD default).2.2.2.2.2.2.2.2.2.2.2.2.2.2.1 (y0.getD default).2.2.2.2.2.2.2.2.2.2.2.2.2.2.2.1 (y0.getD default).2.2.2.2.2.2.2.2.2.2.2.2.2.2.2.2.1 (y0.getD default).2.2.2.2.2.2.2.2.2.2.2.2.2.2.2.2.2.1 y1 y2 v21 v22 v23 v24 v25 v26 v27 v28 v29 v30 v31 v32 v33 v34 v35 v36 v37 v38 v39 v40 v41 v42 v43 v44) fun y4 =>
      bif y4.isSome then
        bif ((y4.getD default).1 == 0) then
          k0 (y4.getD default)
        else
          bnd (G70x0 N v25 v20) fun y5 =>
          bif y5.isSome then
            bnd (IntKind.wrap .i64 ((y4.getD default).2.2.1 + (y5.getD default).2.2.2.1)) fun y6 =>
            bnd (G90x2x25 N v20 v41 v43 v0) fun y7 =>
            bif y7.isSome then
              bnd (V90x2x29 N (y7.getD default) (y4.getD default).2.1) fun y8 =>
              k0 ((y4.getD default).1, y8, y6, (y4.getD default).2.2.2)
            else
              none
          else
            none
      else
        none
  else
    none
noncomputable def G90x2 (v0 v1 v2 v3 v4 v5 v6 v7 v8 v9 v10 v11 v12 v13 v14 v15 v16 v17 v18 v19 v20 v21 v22 v23 : Int) (v24 : Bool) (v25 : LD) (v26 : Bool) (v27 : LD) (v28 v29 v30 v31 v32 v33 v34 v35 v36 v37 v38 v39 v40 : Bool) (v41 : LD) (v42 : Bool) (v43 : LD) (v44 : (List (D × D))) : Option (Ty9) := F90x2 N v0 v1 v2 v3 v4 v5 v6 v7 v8 v9 v10 v11 v12 v13 v14 v15 v16 v17 v18 v19 v20 v21 v22 v23 v24 v25 v26 v27 v28 v29 v30 v31 v32 v33 v34 v35 v36 v37 v38 v39 v40 v41 v42 v43 v44 (fun p => some p)
theorem bind90x2 (v0 v1 v2 v3 v4 v5 v6 v7 v8 v9 v10 v11 v12 v13 v14 v15 v16 v17 v18 v19 v20 v21 v22 v23 : Int) (v24 : Bool) (v25 : LD) (v26 : Bool) (v27 : LD) (v28 v29 v30 v31 v32 v33 v34 v35 v36 v37 v38 v39 v40 : Bool) (v41 : LD) (v42 : Bool) (v43 : LD) (v44 : (List (D × D))) (k0 : Ty9 → Option R) : F90x2 N v0 v1 v2 v3 v4 v5 v6 v7 v8 v9 v10 v11 v12 v13 v14 v15 v16 v17 v18 v19 v20 v21 v22 v23 v24 v25 v26 v27 v28 v29 v30 v31 v32 v33 v34 v35 v36 v37 v38 v39 v40 v41 v42 v43 v44 k0 = (G90x2 N v0 v1 v2 v3 v4 v5 v6 v7 v8 v9 v10 v11 v12 v13 v14 v15 v16 v17 v18 v19 v20 v21 v22 v23 v24 v25 v26 v27 v28 v29 v30 v31 v32 v33 v34 v35 v36 v37 v38 v39 v40 v41 v42 v43 v44).bind k0 := by
  unfold G90x2 F90x2
  repeat' (first | rfl | apply cond_b | (apply bnd_b; intro _))
noncomputable def J90x2 (L : List Lf) (k0 : Ty9 → Option R) : Option R := F90x2 N (li L 0) (li L 1) (li L 2) (li L 3) (li L 4) (li L 5) (li L 6) (li L 7) (li L 8) (li L 9) (li L 10) (li L 11) (li L 12) (li L 13) (li L 14) (li L 15) (li L 16) (li L 17) (li L 18) (li L 19) (li L 20) (li L 21) (li L 22) (li L 23) (lb L 24) (ll L 25) (lb L 26) (ll L 27) (lb L 28) (lb L 29) (lb L 30) (lb L 31) (lb L 32) (lb L 33) (lb L 34) (lb L 35) (lb L 36) (lb L 37) (lb L 38) (lb L 39) (lb L 40) (ll L 41) (lb L 42) (ll L 43) (lm L 44) k0
noncomputable def sh90x2 : Sh := { tmps := [(0, .c (.p 0 0)), (1, .g (rI 20 ([]))), (2, .c (.i .i64))], mem := [(0, .box (.i .i64 :: .i .i64 :: .i .i64 :: .sl 66 :: .sl 68 :: rB 12 ([.sl 3, .sl 3, .m 1]))), (1, .map 106 59)] }
noncomputable def K90x2w0 (L : List Lf) (p : Ty9) : Res := ([.g [.i .i64 p.1, .i .i64 p.2.1, .i .i64 p.2.2.1]], mgA (ofSh sh90x2 L).mem [(1, .map 106 59 p.2.2.2)] [0, 1])
noncomputable def A90x2 (L : List Lf) : List (Bool × Res) := bnd (J90x2 N L (fun p => some p)) fun q => [(q.isSome, K90x2w0 L (q.getD default))]
theorem raw90x2 (L : List Lf) : bd Try.prog (T47x0 N) (h90x2s2 N).h 90 sh90x2 L = J90x2 N L (fun p => some (K90x2w0 L p)) := by kernel_rfl
theorem ok90x2 : FnOk Try.prog 90 sh90x2 (A90x2 N) :=
  (h90x2s2 N).fn progOk (T47x0_ok N) fun L x hx => ((raw90x2 N L).trans ((bind90x2 N ..).trans (alt1 x hx)))
noncomputable def T90x2 : Oracle := ext 90 (spSh sh90x2 (A90x2 N)) (T47x0 N)
theorem T90x2_ok : OracleOk Try.prog (T90x2 N) := FnOk.to (ok90x2 N) (T47x0_ok N)
noncomputable def rg91x1 : List (Nat × List Nat) := [(0, [0, 1]), (1, [2, 3])]
noncomputable def hd91x1 : Hints := []
noncomputable def h91x1s0 (N : Nat) : Sg Try.prog 0 91 := .start hd91x1 rg91x1
noncomputable def F91x1 (N : Nat) (v0 v1 v2 v3 v4 v5 : Int) (k0 : Bool → R) : R :=
  bnd (bif (decide (v0 > 0)) then (bif (bif (v3 == 0) then true else (decide (v1 < v4))) then true else (bif (v1 == v4) then (decide (v2 > v5)) else false)) else false) fun y0 =>
  k0 y0
noncomputable def V91x1 (v0 v1 v2 v3 v4 v5 : Int) : Bool := F91x1 N v0 v1 v2 v3 v4 v5 (fun p => p)
theorem tot91x1 (v0 v1 v2 v3 v4 v5 : Int) (k0 : Bool → R) : F91x1 N v0 v1 v2 v3 v4 v5 k0 = k0 (V91x1 N v0 v1 v2 v3 v4 v5) := by
  unfold V91x1 F91x1
  repeat' (first | rfl | apply cond_k | (apply bnd_k; intro _))
noncomputable def J91x1 (L : List Lf) (k0 : Bool → R) : R := F91x1 N (li L 0) (li L 1) (li L 2) (li L 3) (li L 4) (li L 5) k0
noncomputable def sh91x1 : Sh := { tmps := [(0, .g ([.i .i64, .i .i64, .i .i64])), (1, .g ([.i .i64, .i .i64, .i .i64]))], mem := [] }
noncomputable def A91x1 (L : List Lf) : List (Bool × Res) := bnd (J91x1 N L (fun p => p)) fun q => [(true, ([.c (.b q)], []))]
theorem raw91x1 (L : List Lf) : bd Try.prog (T90x2 N) (h91x1s0 N).h 91 sh91x1 L = J91x1 N L (fun p => some ([.c (.b p)], [])) := by kernel_rfl
theorem ok91x1 : FnOk Try.prog 91 sh91x1 (A91x1 N) :=
  (h91x1s0 N).fn progOk (T90x2_ok N) fun L x hx => ((raw91x1 N L).trans ((tot91x1 N ..).trans (alt0 _ _ hx)))
noncomputable def T91x1 : Oracle := ext 91 (spSh sh91x1 (A91x1 N)) (T90x2 N)
theorem T91x1_ok : OracleOk Try.prog (T91x1 N) := FnOk.to (ok91x1 N) (T90x2_ok N)
noncomputable def rg72x0 : List (Nat × List Nat) := [(0, [0]), (1, [0]), (2, [0, 3]), (3, [4, 0, 3]), (4, [0, 4, 3]), (5, [0, 4, 5, 3]), (6, [6, 7, 0, 4, 5, 3]), (7, [8, 7, 0, 4, 5, 3]), (9, [0, 4, 8, 5, 3, 7]), (10, [9, 5, 3, 8, 0, 4, 7]), (8, [8, 7, 0, 4, 5, 3]), (11, [3, 8, 0, 4]), (12, [0, 4, 8, 3]), (13, [4, 0, 3]), (14, [65, 0, 3]), (15, [3])]
noncomputable def hd72x0 : Hints := [(9, [4, 0, 3], [6, 1, 0, 5], [3]), (21, [8, 7, 0, 4, 5, 3], [7, 6, 5, 1, 0], [3]), (31, [9, 5, 3, 8, 0, 4, 7], [11, 7, 6, 5, 1, 0], [])]
noncomputable def h72x0s0 (N : Nat) : Sg Try.prog 2 72 := .start hd72x0 rg72x0
noncomputable def F72x0x31 (w48 w49 w50 w51 w52 w53 : Int) (k0 : Bool → R) : R :=
  bif (decide (w51 > 0)) then
    bnd (V91x1 N w48 w49 w50 w51 w52 w53) fun y0 =>
    k0 (!y0)
  else
    k0 false
noncomputable def V72x0x31 (w48 w49 w50 w51 w52 w53 : Int) : Bool := F72x0x31 N w48 w49 w50 w51 w52 w53 (fun p => p)
theorem tot72x0x31 (w48 w49 w50 w51 w52 w53 : Int) (k0 : Bool → R) : F72x0x31 N w48 w49 w50 w51 w52 w53 k0 = k0 (V72x0x31 N w48 w49 w50 w51 w52 w53) := by
  unfold V72x0x31 F72x0x31
  repeat' (first | rfl | apply cond_k | (apply bnd_k; intro _))
noncomputable def J72x0x31 (L : List Lf) (k0 : Bool → R) : R := F72x0x31 N (li L 48) (li L 49) (li L 50) (li L 51) (li L 52) (li L 53) k0
noncomputable def sh72x0x31 : Sh := { tmps := [(0, .c (.p 0 0)), (3, .c (.o 5)), (4, .c (.p 6 0)), (5, .c (.p 7 0)), (7, .c (.i .i64)), (8, .c (.i .i64)), (9, .c (.p 11 0))], mem := [(0, .box (.i .i64 :: .i .i64 :: .i .i64 :: .sl 66 :: .sl 68 :: rB 12 ([.sl 3, .sl 3, .m 1]))), (1, .map 106 59), (5, .row 3 true), (6, .box (rI 20 ([]))), (7, .box ([.i .i64, .i .i64, .i .i64])), (11, .box ([.i .i64, .i .i64, .i .i64]))] }
noncomputable def K72x0x31w0 (L : List Lf) (p : Bool) : Ex × St := (.normal, mg (ofSh sh72x0x31 L) [0, 3, 4, 5, 7, 8, 51] [(51, .c (.b p))] [0, 1, 5, 6, 7] [])
noncomputable def A72x0x31 (L : List Lf) : List (Bool × (Ex × St)) := bnd (J72x0x31 N L (fun p => p)) fun q => [(true, K72x0x31w0 L q)]
theorem raw72x0x31 (L : List Lf) : pc Try.prog (T91x1 N) (h72x0s0 N).h 2 100 72 31 sh72x0x31 L [3, 8, 0, 4, 7, 5, 51] [7, 6, 5, 1, 0] = J72x0x31 N L (fun p => some (K72x0x31w0 L p)) := by kernel_rfl
noncomputable def h72x0s1 : Sg Try.prog 2 72 :=
  (h72x0s0 N).cut (A72x0x31 N) progOk (T91x1_ok N) fun L x hx => (raw72x0x31 N L).trans ((tot72x0x31 N ..).trans (alt0 _ _ hx))
noncomputable def S72x0x21 (w0 w2 w3 w4 : Int) (w5 : Bool) (w6 : LD) (w7 : Bool) (w8 : LD) (w9 w10 w11 w12 w13 w14 w15 w16 w17 w18 w19 w20 w21 : Bool) (w22 : LD) (w23 : Bool) (w24 : LD) (w28 w29 w30 w31 w32 w33 w34 w35 w36 w37 w38 w39 w40 w41 w42 w43 w44 w45 w46 w47 w48 w49 w50 : Int) (w1 : Int) (w25 : (List (D × D))) (kr : Int → (List (D × D)) → Option R) (k0 : Int × (List (D × D)) → Option R) : Option R :=
  bif (decide (w1 < w0)) then
    bnd (G90x2 N w28 w29 w30 w31 w32 w33 w34 w35 w36 w37 w38 w39 w40 w41 w42 w43 w44 w45 w46 w47 w1 w2 w3 w4 w5 w6 w7 w8 w9 w10 w11 w12 w13 w14 w15 w16 w17 w18 w19 w20 w21 w22 w23 w24 w25) fun y0 =>
    bif y0.isSome then
      bnd (V72x0x31 N w48 w49 w50 (y0.getD default).1 (y0.getD default).2.1 (y0.getD default).2.2.1) fun y1 =>
      bif y1 then
        k0 (w1, (y0.getD default).2.2.2)
      else
        kr (IntKind.wrap .i64 (w1 + 1)) (y0.getD default).2.2.2
    else
      none
  else
    k0 (w1, w25)
noncomputable def L72x0x21 (N : Nat) {R : Type} (w0 w2 w3 w4 : Int) (w5 : Bool) (w6 : LD) (w7 : Bool) (w8 : LD) (w9 w10 w11 w12 w13 w14 w15 w16 w17 w18 w19 w20 w21 : Bool) (w22 : LD) (w23 : Bool) (w24 : LD) (w28 w29 w30 w31 w32 w33 w34 w35 w36 w37 w38 w39 w40 w41 w42 w43 w44 w45 w46 w47 w48 w49 w50 : Int) : Nat → Int → (List (D × D)) → (Int × (List (D × D)) → Option R) → Option R
  | 0, _, _, _ => none
  | m + 1, w1, w25, k0 => S72x0x21 N w0 w2 w3 w4 w5 w6 w7 w8 w9 w10 w11 w12 w13 w14 w15 w16 w17 w18 w19 w20 w21 w22 w23 w24 w28 w29 w30 w31 w32 w33 w34 w35 w36 w37 w38 w39 w40 w41 w42 w43 w44 w45 w46 w47 w48 w49 w50 w1 w25 (fun w1 w25 => L72x0x21 N w0 w2 w3 w4 w5 w6 w7 w8 w9 w10 w11 w12 w13 w14 w15 w16 w17 w18 w19 w20 w21 w22 w23 w24 w28 w29 w30 w31 w32 w33 w34 w35 w36 w37 w38 w39 w40 w41 w42 w43 w44 w45 w46 w47 w48 w49 w50 m w1 w25 k0) k0
noncomputable def G72x0x21 (w0 w2 w3 w4 : Int) (w5 : Bool) (w6 : LD) (w7 : Bool) (w8 : LD) (w9 w10 w11 w12 w13 w14 w15 w16 w17 w18 w19 w20 w21 : Bool) (w22 : LD) (w23 : Bool) (w24 : LD) (w28 w29 w30 w31 w32 w33 w34 w35 w36 w37 w38 w39 w40 w41 w42 w43 w44 w45 w46 w47 w48 w49 w50 : Int) (w1 : Int) (w25 : (List (D × D))) : Option (Int × (List (D × D))) := L72x0x21 N (R := (Int × (List (D × D)))) w0 w2 w3 w4 w5 w6 w7 w8 w9 w10 w11 w12 w13 w14 w15 w16 w17 w18 w19 w20 w21 w22 w23 w24 w28 w29 w30 w31 w32 w33 w34 w35 w36 w37 w38 w39 w40 w41 w42 w43 w44 w45 w46 w47 w48 w49 w50 N w1 w25 (fun p => some p)
noncomputable def J72x0x21 (L x : List Lf) (kr : List Lf → Option R) (k0 : Int × (List (D × D)) → Option R) : Option R := S72x0x21 N (li L 0) (li L 2) (li L 3) (li L 4) (lb L 5) (ll L 6) (lb L 7) (ll L 8) (lb L 9) (lb L 10) (lb L 11) (lb L 12) (lb L 13) (lb L 14) (lb L 15) (lb L 16) (lb L 17) (lb L 18) (lb L 19) (lb L 20) (lb L 21) (ll L 22) (lb L 23) (ll L 24) (li L 28) (li L 29) (li L 30) (li L 31) (li L 32) (li L 33) (li L 34) (li L 35) (li L 36) (li L 37) (li L 38) (li L 39) (li L 40) (li L 41) (li L 42) (li L 43) (li L 44) (li L 45) (li L 46) (li L 47) (li L 48) (li L 49) (li L 50) (li x 0) (lm x 1) (fun w1 w25 => kr [.i w1, .m w25]) k0
theorem sb72x0x21 (L x : List Lf) (kr : List Lf → Option R) (k0 : Int × (List (D × D)) → Option R) : J72x0x21 N L x kr k0 = (J72x0x21 N L x (fun y => some (.inl y)) (fun p => some (.inr p))).bind (sumE kr k0) := by
  unfold J72x0x21 S72x0x21
  repeat' (first | rfl | apply cond_b | (apply bnd_b; intro _))
noncomputable def Q72x0x21 (L : List Lf) (m : Nat) (x : List Lf) : Option (Int × (List (D × D))) := L72x0x21 N (R := (Int × (List (D × D)))) (li L 0) (li L 2) (li L 3) (li L 4) (lb L 5) (ll L 6) (lb L 7) (ll L 8) (lb L 9) (lb L 10) (lb L 11) (lb L 12) (lb L 13) (lb L 14) (lb L 15) (lb L 16) (lb L 17) (lb L 18) (lb L 19) (lb L 20) (lb L 21) (ll L 22) (lb L 23) (ll L 24) (li L 28) (li L 29) (li L 30) (li L 31) (li L 32) (li L 33) (li L 34) (li L 35) (li L 36) (li L 37) (li L 38) (li L 39) (li L 40) (li L 41) (li L 42) (li L 43) (li L 44) (li L 45) (li L 46) (li L 47) (li L 48) (li L 49) (li L 50) m (li x 0) (lm x 1) (fun p => some p)
noncomputable def sh72x0x21 : Sh := { tmps := [(0, .c (.p 0 0)), (3, .c (.o 5)), (4, .c (.p 6 0)), (5, .c (.p 7 0)), (7, .c (.i .i64)), (8, .c (.i .i64))], mem := [(0, .box (.i .i64 :: .i .i64 :: .i .i64 :: .sl 66 :: .sl 68 :: rB 12 ([.sl 3, .sl 3, .m 1]))), (1, .map 106 59), (5, .row 3 true), (6, .box (rI 20 ([]))), (7, .box ([.i .i64, .i .i64, .i .i64]))] }
noncomputable def K72x0x21w0 (L : List Lf) (p : Int × (List (D × D))) : Ex × St := ((.exit 2), mg (ofSh sh72x0x21 L) [0, 3, 4, 8] [(8, .c (.i .i64 p.1))] [0, 1, 5, 6] [(1, .map 106 59 p.2)])
noncomputable def A72x0x21 (L : List Lf) : List (Bool × (Ex × St)) := bnd (Q72x0x21 N L N (pk sh72x0x21 [1, 25] L)) fun q => [(q.isSome, K72x0x21w0 L (q.getD default))]
theorem step72x0x21 (m : Nat) (kn : St → Option (Ex × St)) (L x : List Lf) : lpB Try.prog (T91x1 N) (h72x0s1 N).h 2 72 21 sh72x0x21 [1, 25] [2, 3, 8, 0, 4] [6, 5, 1, 0] (m + 100) kn L x = J72x0x21 N L x (fun y => kn (ofSh sh72x0x21 (mx sh72x0x21 [1, 25] L y))) (fun p => some (K72x0x21w0 L p)) := by kernel_rfl
noncomputable def h72x0s2 : Sg Try.prog 2 72 :=
  (h72x0s1 N).lp (A72x0x21 N) N progOk (T91x1_ok N) (fun m kn L x => (step72x0x21 N m kn L x).trans (sb72x0x21 N L x _ _)) (fun L m x => sb72x0x21 N L x (Q72x0x21 N L m) some) fun L x hx => alt1 x hx
noncomputable def S72x0x9 (w0 w1 w2 : Int) (w3 : Bool) (w4 : LD) (w5 : Bool) (w6 : LD) (w7 w8 w9 w10 w11 w12 w13 w14 w15 w16 w17 w18 w19 : Bool) (w20 : LD) (w21 : Bool) (w22 : LD) (w23 : (List (D × D))) (w24 : Bool) (w25 : LD) (w26 w27 w28 w29 w30 w31 w32 w33 w34 w35 w36 w37 w38 w39 w40 w41 w42 w43 w44 w45 : Int) (kr : (List (D × D)) → Bool → LD → Int → Int → Int → Int → Int → Int → Int → Int → Int → Int → Int → Int → Int → Int → Int → Int → Int → Int → Int → Int → Option R) (k0 : Ty10 → Option R) : Option R :=
  bif (decide (w26 < w1)) then
    bnd (R78x1 N N w26 w27 w28 w29 w30 w31 w32 w33 w34 w35 w36 w37 w38 w39 w40 w41 w42 w43 w44 w45 w0 w1 w2 w3 w4 w5 w6 w7 w8 w9 w10 w11 w12 w13 w14 w15 w16 w17 w18 w19 w20 w21 w22 w23) fun y0 =>
    bif y0.isSome then
      bnd (G89x0 N w26 w4 w20) fun y1 =>
      bif y1.isSome then
        bnd (G72x0x21 N (y1.getD default).2 w0 w1 w2 w3 w4 w5 w6 w7 w8 w9 w10 w11 w12 w13 w14 w15 w16 w17 w18 w19 w20 w21 w22 w26 w27 w28 w29 w30 w31 w32 w33 w34 w35 w36 w37 w38 w39 w40 w41 w42 w43 w44 w45 (y0.getD default).1 (y0.getD default).2.1 (y0.getD default).2.2.1 (y1.getD default).1 (y0.getD default).2.2.2) fun y2 =>
        bif y2.isSome then
          bif (decide ((w25.length + 1) * 8 ≤ room) && decide ((w25.length + 1) ≤ strMax)) then
            bnd (G88x0 N w26 w27 w28 w29 w30 w31 w32 w33 w34 w35 w36 w37 w38 w39 w40 w41 w42 w43 w44 w45 (y2.getD default).1 w0 w1 w4 w6 w7 w8 w9 w10 w11 w12 w13 w14 w15 w16 w17 w18) fun y3 =>
            bif y3.isSome then
              bnd (y3.getD default).2.2.2.2.2.2.2.2.2.2.2.2.2.2.2.2.2.2.1 fun y4 =>
              bnd (y3.getD default).2.2.2.2.2.2.2.2.2.2.2.2.2.2.2.2.2.2.2.1 fun y5 =>
              bnd (y3.getD default).2.2.2.2.2.2.2.2.2.2.2.2.2.2.2.2.2.2.2.2 fun y6 =>
              kr (y2.getD default).2 false (w25 ++ [(.i (y2.getD default).1)]) (y3.getD default).1 (y3.getD default).2.1 (y3.getD default).2.2.1 (y3.getD default).2.2.2.1 (y3.getD default).2.2.2.2.1 (y3.getD default).2.2.2.2.2.1 (y3.getD default).2.2.2.2.2.2.1 (y3.getD default).2.2.2.2.2.2.2.1 (y3.getD default).2.2.2.2.2.2.2.2.1 (y3.getD default).2.2.2.2.2.2.2.2.2.1 (y3.getD default).2.2.2.2.2.2.2.2.2.2.1 (y3.getD default).2.2.2.2.2.2.2.2.2.2.2.1 (y3.getD default).2.2.2.2.2.2.2.2.2.2.2.2.1 (y3.getD default).2.2.2.2.2.2.2.2.2.2.2.2.2.1 (y3.getD default).2.2.2.2.2.2.2.2.2.2.2.2.2.2.1 (y3.getD default).2.2.2.2.2.2.2.2.2.2.2.2.2.2.2.1 (y3.getD default).2.2.2.2.2.2.2.2.2.2.2.2.2.2.2.2.1 (y3.getD default).2.2.2.2.2.2.2.2.2.2.2.2.2.2.2.2.2.1 y4 y5
            else
              none
          else
            none
        else
          none
      else
        none
    else
      none
  else
    k0 (w23, w24, w25)
noncomputable def L72x0x9 (N : Nat) {R : Type} (w0 w1 w2 : Int) (w3 : Bool) (w4 : LD) (w5 : Bool) (w6 : LD) (w7 w8 w9 w10 w11 w12 w13 w14 w15 w16 w17 w18 w19 : Bool) (w20 : LD) (w21 : Bool) (w22 : LD) : Nat → (List (D × D)) → Bool → LD → Int → Int → Int → Int → Int → Int → Int → Int → Int → Int → Int → Int → Int → Int → Int → Int → Int → Int → Int → Int → (Ty10 → Option R) → Option R
  | 0, _, _, _, _, _, _, _, _, _, _, _, _, _, _, _, _, _, _, _, _, _, _, _, _ => none
  | m + 1, w23, w24, w25, w26, w27, w28, w29, w30, w31, w32, w33, w34, w35, w36, w37, w38, w39, w40, w41, w42, w43, w44, w45, k0 => S72x0x9 N w0 w1 w2 w3 w4 w5 w6 w7 w8 w9 w10 w11 w12 w13 w14 w15 w16 w17 w18 w19 w20 w21 w22 w23 w24 w25 w26 w27 w28 w29 w30 w31 w32 w33 w34 w35 w36 w37 w38 w39 w40 w41 w42 w43 w44 w45 (fun w23 w24 w25 w26 w27 w28 w29 w30 w31 w32 w33 w34 w35 w36 w37 w38 w39 w40 w41 w42 w43 w44 w45 => L72x0x9 N w0 w1 w2 w3 w4 w5 w6 w7 w8 w9 w10 w11 w12 w13 w14 w15 w16 w17 w18 w19 w20 w21 w22 m w23 w24 w25 w26 w27 w28 w29 w30 w31 w32 w33 w34 w35 w36 w37 w38 w39 w40 w41 w42 w43 w44 w45 k0) k0
noncomputable def G72x0x9 (w0 w1 w2 : Int) (w3 : Bool) (w4 : LD) (w5 : Bool) (w6 : LD) (w7 w8 w9 w10 w11 w12 w13 w14 w15 w16 w17 w18 w19 : Bool) (w20 : LD) (w21 : Bool) (w22 : LD) (w23 : (List (D × D))) (w24 : Bool) (w25 : LD) (w26 w27 w28 w29 w30 w31 w32 w33 w34 w35 w36 w37 w38 w39 w40 w41 w42 w43 w44 w45 : Int) : Option (Ty10) := L72x0x9 N (R := (Ty10)) w0 w1 w2 w3 w4 w5 w6 w7 w8 w9 w10 w11 w12 w13 w14 w15 w16 w17 w18 w19 w20 w21 w22 N w23 w24 w25 w26 w27 w28 w29 w30 w31 w32 w33 w34 w35 w36 w37 w38 w39 w40 w41 w42 w43 w44 w45 (fun p => some p)
noncomputable def J72x0x9 (L x : List Lf) (kr : List Lf → Option R) (k0 : Ty10 → Option R) : Option R := S72x0x9 N (li L 0) (li L 1) (li L 2) (lb L 3) (ll L 4) (lb L 5) (ll L 6) (lb L 7) (lb L 8) (lb L 9) (lb L 10) (lb L 11) (lb L 12) (lb L 13) (lb L 14) (lb L 15) (lb L 16) (lb L 17) (lb L 18) (lb L 19) (ll L 20) (lb L 21) (ll L 22) (lm x 0) (lb x 1) (ll x 2) (li x 3) (li x 4) (li x 5) (li x 6) (li x 7) (li x 8) (li x 9) (li x 10) (li x 11) (li x 12) (li x 13) (li x 14) (li x 15) (li x 16) (li x 17) (li x 18) (li x 19) (li x 20) (li x 21) (li x 22) (fun w23 w24 w25 w26 w27 w28 w29 w30 w31 w32 w33 w34 w35 w36 w37 w38 w39 w40 w41 w42 w43 w44 w45 => kr [.m w23, .b w24, .l w25, .i w26, .i w27, .i w28, .i w29, .i w30, .i w31, .i w32, .i w33, .i w34, .i w35, .i w36, .i w37, .i w38, .i w39, .i w40, .i w41, .i w42, .i w43, .i w44, .i w45]) k0
theorem sb72x0x9 (L x : List Lf) (kr : List Lf → Option R) (k0 : Ty10 → Option R) : J72x0x9 N L x kr k0 = (J72x0x9 N L x (fun y => some (.inl y)) (fun p => some (.inr p))).bind (sumE kr k0) := by
  unfold J72x0x9 S72x0x9
  repeat' (first | rfl | apply cond_b | (apply bnd_b; intro _))
noncomputable def Q72x0x9 (L : List Lf) (m : Nat) (x : List Lf) : Option (Ty10) := L72x0x9 N (R := (Ty10)) (li L 0) (li L 1) (li L 2) (lb L 3) (ll L 4) (lb L 5) (ll L 6) (lb L 7) (lb L 8) (lb L 9) (lb L 10) (lb L 11) (lb L 12) (lb L 13) (lb L 14) (lb L 15) (lb L 16) (lb L 17) (lb L 18) (lb L 19) (ll L 20) (lb L 21) (ll L 22) m (lm x 0) (lb x 1) (ll x 2) (li x 3) (li x 4) (li x 5) (li x 6) (li x 7) (li x 8) (li x 9) (li x 10) (li x 11) (li x 12) (li x 13) (li x 14) (li x 15) (li x 16) (li x 17) (li x 18) (li x 19) (li x 20) (li x 21) (li x 22) (fun p => some p)
noncomputable def sh72x0x9 : Sh := { tmps := [(0, .c (.p 0 0)), (3, .c (.o 5)), (4, .c (.p 6 0))], mem := [(0, .box (.i .i64 :: .i .i64 :: .i .i64 :: .sl 66 :: .sl 68 :: rB 12 ([.sl 3, .sl 3, .m 1]))), (1, .map 106 59), (5, .row 3 true), (6, .box (rI 20 ([])))] }
noncomputable def K72x0x9w0 (L : List Lf) (p : Ty10) : Ex × St := ((.exit 0), mg (ofSh sh72x0x9 L) [3] [] [0, 1, 5] [(1, .map 106 59 p.1), (5, .row 3 true p.2.1 p.2.2)])
noncomputable def A72x0x9 (L : List Lf) : List (Bool × (Ex × St)) := bnd (Q72x0x9 N L N (pk sh72x0x9 [23, 24, 25, 26, 27, 28, 29, 30, 31, 32, 33, 34, 35, 36, 37, 38, 39, 40, 41, 42, 43, 44, 45] L)) fun q => [(q.isSome, K72x0x9w0 L (q.getD default))]
theorem step72x0x9 (m : Nat) (kn : St → Option (Ex × St)) (L x : List Lf) : lpB Try.prog (T91x1 N) (h72x0s2 N).h 2 72 9 sh72x0x9 [23, 24, 25, 26, 27, 28, 29, 30, 31, 32, 33, 34, 35, 36, 37, 38, 39, 40, 41, 42, 43, 44, 45] [2, 3] [5, 0, 1] (m + 100) kn L x = J72x0x9 N L x (fun y => kn (ofSh sh72x0x9 (mx sh72x0x9 [23, 24, 25, 26, 27, 28, 29, 30, 31, 32, 33, 34, 35, 36, 37, 38, 39, 40, 41, 42, 43, 44, 45] L y))) (fun p => some (K72x0x9w0 L p)) := by kernel_rfl
noncomputable def h72x0s3 : Sg Try.prog 2 72 :=
  (h72x0s2 N).lp (A72x0x9 N) N progOk (T91x1_ok N) (fun m kn L x => (step72x0x9 N m kn L x).trans (sb72x0x9 N L x _ _)) (fun L m x => sb72x0x9 N L x (Q72x0x9 N L m) some) fun L x hx => alt1 x hx
noncomputable def F72x0 (v0 v1 v2 : Int) (v3 : Bool) (v4 : LD) (v5 : Bool) (v6 : LD) (v7 v8 v9 v10 v11 v12 v13 v14 v15 v16 v17 v18 v19 : Bool) (v20 : LD) (v21 : Bool) (v22 : LD) (v23 : (List (D × D))) (k0 : Bool × LD × (List (D × D)) → Option R) : Option R :=
  bnd (G72x0x9 N v0 v1 v2 v3 v4 v5 v6 v7 v8 v9 v10 v11 v12 v13 v14 v15 v16 v17 v18 v19 v20 v21 v22 v23 true [] 0 0 v2 0 0 0 0 0 0 0 0 0 0 0 0 0 0 0 0 0) fun y0 =>
  bif y0.isSome then
    k0 ((y0.getD default).2.1, (y0.getD default).2.2, (y0.getD default).1)
  else
    none
noncomputable def G72x0 (v0 v1 v2 : Int) (v3 : Bool) (v4 : LD) (v5 : Bool) (v6 : LD) (v7 v8 v9 v10 v11 v12 v13 v14 v15 v16 v17 v18 v19 : Bool) (v20 : LD) (v21 : Bool) (v22 : LD) (v23 : (List (D × D))) : Option (Bool × LD × (List (D × D))) := F72x0 N v0 v1 v2 v3 v4 v5 v6 v7 v8 v9 v10 v11 v12 v13 v14 v15 v16 v17 v18 v19 v20 v21 v22 v23 (fun p => some p)
theorem bind72x0 (v0 v1 v2 : Int) (v3 : Bool) (v4 : LD) (v5 : Bool) (v6 : LD) (v7 v8 v9 v10 v11 v12 v13 v14 v15 v16 v17 v18 v19 : Bool) (v20 : LD) (v21 : Bool) (v22 : LD) (v23 : (List (D × D))) (k0 : Bool × LD × (List (D × D)) → Option R) : F72x0 N v0 v1 v2 v3 v4 v5 v6 v7 v8 v9 v10 v11 v12 v13 v14 v15 v16 v17 v18 v19 v20 v21 v22 v23 k0 = (G72x0 N v0 v1 v2 v3 v4 v5 v6 v7 v8 v9 v10 v11 v12 v13 v14 v15 v16 v17 v18 v19 v20 v21 v22 v23).bind k0 := by
  unfold G72x0 F72x0
  repeat' (first | rfl | apply cond_b | (apply bnd_b; intro _))
noncomputable def J72x0 (L : List Lf) (k0 : Bool × LD × (List (D × D)) → Option R) : Option R := F72x0 N (li L 0) (li L 1) (li L 2) (lb L 3) (ll L 4) (lb L 5) (ll L 6) (lb L 7) (lb L 8) (lb L 9) (lb L 10) (lb L 11) (lb L 12) (lb L 13) (lb L 14) (lb L 15) (lb L 16) (lb L 17) (lb L 18) (lb L 19) (ll L 20) (lb L 21) (ll L 22) (lm L 23) k0
noncomputable def sh72x0 : Sh := { tmps := [(0, .c (.p 0 0))], mem := [(0, .box (.i .i64 :: .i .i64 :: .i .i64 :: .sl 66 :: .sl 68 :: rB 12 ([.sl 3, .sl 3, .m 1]))), (1, .map 106 59)] }
noncomputable def K72x0w0 (L : List Lf) (p : Bool × LD × (List (D × D))) : Res := ([.c (.sl 3 p.1 p.2.1)], mgA (ofSh sh72x0 L).mem [(1, .map 106 59 p.2.2)] [0, 1])
noncomputable def A72x0 (L : List Lf) : List (Bool × Res) := bnd (J72x0 N L (fun p => some p)) fun q => [(q.isSome, K72x0w0 L (q.getD default))]
theorem raw72x0 (L : List Lf) : bd Try.prog (T91x1 N) (h72x0s3 N).h 72 sh72x0 L = J72x0 N L (fun p => some (K72x0w0 L p)) := by kernel_rfl
theorem ok72x0 : FnOk Try.prog 72 sh72x0 (A72x0 N) :=
  (h72x0s3 N).fn progOk (T91x1_ok N) fun L x hx => ((raw72x0 N L).trans ((bind72x0 N ..).trans (alt1 x hx)))
noncomputable def T72x0 : Oracle := ext 72 (spSh sh72x0 (A72x0 N)) (T91x1 N)
theorem T72x0_ok : OracleOk Try.prog (T72x0 N) := FnOk.to (ok72x0 N) (T91x1_ok N)
noncomputable def rg43x0 : List (Nat × List Nat) := [(0, [0, 1, 2]), (1, [3, 1, 2]), (2, [9, 3, 1, 2]), (3, [9]), (4, [3, 1, 2]), (5, [11, 10]), (6, []), (7, [10])]
noncomputable def hd43x0 : Hints := []
noncomputable def h43x0s0 (N : Nat) : Sg Try.prog 0 43 := .start hd43x0 rg43x0
noncomputable def F43x0 (v0 v1 v2 : Int) (v3 : Bool) (v4 : LD) (v5 : Bool) (v6 : LD) (v7 : Bool) (v8 : LD) (v9 : Bool) (v10 : LD) (k0 : Ty11 → Option R) : Option R :=
  bnd (G46x0 N v0 v1 v2 v4 v6 v8) fun y0 =>
  bif y0.isSome then
    bif ((y0.getD default) != 0) then
      k0 (true, [], false, (y0.getD default))
    else
      bnd (G47x0 N v0 v1 v2 v3 v4 v5 v6 false false false false false false false false false false false false v7 v8 v9 v10) fun y1 =>
      bif y1.isSome then
        bif ((y1.getD default).1 == 0) then
          k0 (true, [], false, 0)
        else
          bnd (G72x0 N v0 v1 v2 v3 v4 v5 v6 false false false false false false false false false false false false v7 v8 v9 v10 (y1.getD default).2.2.2) fun y2 =>
          bif y2.isSome then
            k0 ((y2.getD default).1, (y2.getD default).2.1, true, 0)
          else
            none
      else
        none
  else
    none
noncomputable def G43x0 (v0 v1 v2 : Int) (v3 : Bool) (v4 : LD) (v5 : Bool) (v6 : LD) (v7 : Bool) (v8 : LD) (v9 : Bool) (v10 : LD) : Option (Ty11) := F43x0 N v0 v1 v2 v3 v4 v5 v6 v7 v8 v9 v10 (fun p => some p)
theorem bind43x0 (v0 v1 v2 : Int) (v3 : Bool) (v4 : LD) (v5 : Bool) (v6 : LD) (v7 : Bool) (v8 : LD) (v9 : Bool) (v10 : LD) (k0 : Ty11 → Option R) : F43x0 N v0 v1 v2 v3 v4 v5 v6 v7 v8 v9 v10 k0 = (G43x0 N v0 v1 v2 v3 v4 v5 v6 v7 v8 v9 v10).bind k0 := by
  unfold G43x0 F43x0
  repeat' (first | rfl | apply cond_b | (apply bnd_b; intro _))
noncomputable def J43x0 (L : List Lf) (k0 : Ty11 → Option R) : Option R := F43x0 N (li L 0) (li L 1) (li L 2) (lb L 3) (ll L 4) (lb L 5) (ll L 6) (lb L 7) (ll L 8) (lb L 9) (ll L 10) k0
noncomputable def sh43x0 : Sh := { tmps := [(0, .g ([.i .i64, .i .i64, .i .i64, .sl 66, .sl 68])), (1, .c (.sl 3)), (2, .c (.sl 3))], mem := [] }
noncomputable def K43x0w0 (L : List Lf) (p : Ty11) : Res := ([.c (.sl 3 p.1 p.2.1), .c (.b p.2.2.1), .c (.i .i64 p.2.2.2)], [])
noncomputable def A43x0 (L : List Lf) : List (Bool × Res) := bnd (J43x0 N L (fun p => some p)) fun q => [(q.isSome, K43x0w0 L (q.getD default))]
theorem raw43x0 (L : List Lf) : bd Try.prog (T72x0 N) (h43x0s0 N).h 43 sh43x0 L = J43x0 N L (fun p => some (K43x0w0 L p)) := by kernel_rfl
theorem ok43x0 : FnOk Try.prog 43 sh43x0 (A43x0 N) :=
  (h43x0s0 N).fn progOk (T72x0_ok N) fun L x hx => ((raw43x0 N L).trans ((bind43x0 N ..).trans (alt1 x hx)))
noncomputable def T43x0 : Oracle := ext 43 (spSh sh43x0 (A43x0 N)) (T72x0 N)
theorem T43x0_ok : OracleOk Try.prog (T43x0 N) := FnOk.to (ok43x0 N) (T72x0_ok N)
noncomputable def rg11x0 : List (Nat × List Nat) := [(0, [0, 1]), (1, [2, 1])]
noncomputable def hd11x0 : Hints := []
noncomputable def h11x0s0 (N : Nat) : Sg Try.prog 0 11 := .start hd11x0 rg11x0
noncomputable def F11x0 (v0 v1 v2 : Int) (v3 : Bool) (v4 : LD) (v5 : Bool) (v6 : LD) (v7 : Bool) (v8 : LD) (k0 : Ty11 → Option R) : Option R :=
  bnd (G43x0 N v0 v1 v2 v3 v4 v5 v6 v7 v8 true []) fun y0 =>
  bif y0.isSome then
    k0 (y0.getD default)
  else
    none
noncomputable def G11x0 (v0 v1 v2 : Int) (v3 : Bool) (v4 : LD) (v5 : Bool) (v6 : LD) (v7 : Bool) (v8 : LD) : Option (Ty11) := F11x0 N v0 v1 v2 v3 v4 v5 v6 v7 v8 (fun p => some p)
theorem bind11x0 (v0 v1 v2 : Int) (v3 : Bool) (v4 : LD) (v5 : Bool) (v6 : LD) (v7 : Bool) (v8 : LD) (k0 : Ty11 → Option R) : F11x0 N v0 v1 v2 v3 v4 v5 v6 v7 v8 k0 = (G11x0 N v0 v1 v2 v3 v4 v5 v6 v7 v8).bind k0 := by
  unfold G11x0 F11x0
  repeat' (first | rfl | apply cond_b | (apply bnd_b; intro _))
noncomputable def J11x0 (L : List Lf) (k0 : Ty11 → Option R) : Option R := F11x0 N (li L 0) (li L 1) (li L 2) (lb L 3) (ll L 4) (lb L 5) (ll L 6) (lb L 7) (ll L 8) k0
noncomputable def sh11x0 : Sh := { tmps := [(0, .g ([.i .i64, .i .i64, .i .i64, .sl 66, .sl 68])), (1, .c (.sl 3))], mem := [] }
noncomputable def K11x0w0 (L : List Lf) (p : Ty11) : Res := ([.c (.sl 3 p.1 p.2.1), .c (.b p.2.2.1), .c (.i .i64 p.2.2.2)], [])
noncomputable def A11x0 (L : List Lf) : List (Bool × Res) := bnd (J11x0 N L (fun p => some p)) fun q => [(q.isSome, K11x0w0 L (q.getD default))]
theorem raw11x0 (L : List Lf) : bd Try.prog (T43x0 N) (h11x0s0 N).h 11 sh11x0 L = J11x0 N L (fun p => some (K11x0w0 L p)) := by kernel_rfl
theorem ok11x0 : FnOk Try.prog 11 sh11x0 (A11x0 N) :=
  (h11x0s0 N).fn progOk (T43x0_ok N) fun L x hx => ((raw11x0 N L).trans ((bind11x0 N ..).trans (alt1 x hx)))
noncomputable def T11x0 : Oracle := ext 11 (spSh sh11x0 (A11x0 N)) (T43x0 N)
theorem T11x0_ok : OracleOk Try.prog (T11x0 N) := FnOk.to (ok11x0 N) (T43x0_ok N)
noncomputable def rg16x0 : List (Nat × List Nat) := [(0, []), (1, []), (2, [1]), (3, [4, 3, 2])]
noncomputable def hd16x0 : Hints := [(10, [4, 3, 2], [], [])]
noncomputable def h16x0s0 (N : Nat) : Sg Try.prog 0 16 := .start hd16x0 rg16x0
noncomputable def F16x0x10 (w1 : LD) (w2 : Bool) (w3 : Int) (k0 : Bool → Option R) : Option R :=
  bif (bif (w3 == 0) then w2 else false) then
    bnd (G15x0 N w1 [(.i 0), (.i (-1)), (.i 0)]) fun y0 =>
    bif y0.isSome then
      k0 (y0.getD default)
    else
      none
  else
    k0 false
noncomputable def G16x0x10 (w1 : LD) (w2 : Bool) (w3 : Int) : Option (Bool) := F16x0x10 N w1 w2 w3 (fun p => some p)
theorem bind16x0x10 (w1 : LD) (w2 : Bool) (w3 : Int) (k0 : Bool → Option R) : F16x0x10 N w1 w2 w3 k0 = (G16x0x10 N w1 w2 w3).bind k0 := by
  unfold G16x0x10 F16x0x10
  repeat' (first | rfl | apply cond_b | (apply bnd_b; intro _))
noncomputable def sh16x0x10 : Sh := { tmps := [(2, .c (.sl 3)), (3, .c (.b)), (4, .c (.i .i64))], mem := [] }
noncomputable def A16x0x10 (L : List Lf) : List (Bool × (Ex × St)) := bnd (F16x0x10 N (ll L 1) (lb L 2) (li L 3) (fun p => some p)) fun q => [(q.isSome, (.normal, ⟨[(0, .c (.b (q.getD default)))], []⟩))]
theorem raw16x0x10 (L : List Lf) : pc Try.prog (T11x0 N) (h16x0s0 N).h 0 100 16 10 sh16x0x10 L [0] [] = F16x0x10 N (ll L 1) (lb L 2) (li L 3) (fun p => some (.normal, ⟨[(0, .c (.b p))], []⟩)) := by kernel_rfl
noncomputable def h16x0s1 : Sg Try.prog 0 16 :=
  (h16x0s0 N).cut (A16x0x10 N) progOk (T11x0_ok N) fun L x hx => (raw16x0x10 N L).trans ((bind16x0x10 N ..).trans (alt1 x hx))
noncomputable def F16x0 (k0 : Bool → Option R) : Option R :=
  bnd (G11x0 N 0 3 0 false [(.a [(.s ([102, 97, 115, 116] : List UInt8)), (.i 0), (.i 0), (.i 5), (.b true)])] false [(.a [(.i 5), (.i 0), (.i 2), (.i 0), (.i 0), (.s ([] : List UInt8))])] true []) fun y0 =>
  bif y0.isSome then
    bnd (G16x0x10 N (y0.getD default).2.1 (y0.getD default).2.2.1 (y0.getD default).2.2.2) fun y1 =>
    bif y1.isSome then
      k0 (y1.getD default)
    else
      none
  else
    none
noncomputable def G16x0 : Option (Bool) := F16x0 N (fun p => some p)
theorem bind16x0 (k0 : Bool → Option R) : F16x0 N k0 = (G16x0 N).bind k0 := by
  unfold G16x0 F16x0
  repeat' (first | rfl | apply cond_b | (apply bnd_b; intro _))
noncomputable def sh16x0 : Sh := { tmps := [], mem := [] }
noncomputable def A16x0 (L : List Lf) : List (Bool × Res) := bnd (F16x0 N (fun p => some p)) fun q => [(q.isSome, ([.c (.b (q.getD default))], []))]
theorem raw16x0 (L : List Lf) : bd Try.prog (T11x0 N) (h16x0s1 N).h 16 sh16x0 L = F16x0 N (fun p => some ([.c (.b p)], [])) := by kernel_rfl
theorem ok16x0 : FnOk Try.prog 16 sh16x0 (A16x0 N) :=
  (h16x0s1 N).fn progOk (T11x0_ok N) fun L x hx => ((raw16x0 N L).trans ((bind16x0 N ..).trans (alt1 x hx)))
noncomputable def T16x0 : Oracle := ext 16 (spSh sh16x0 (A16x0 N)) (T11x0 N)
theorem T16x0_ok : OracleOk Try.prog (T16x0 N) := FnOk.to (ok16x0 N) (T11x0_ok N)
noncomputable def rg10x0 : List (Nat × List Nat) := [(0, [0, 1, 2]), (1, [3, 1, 2]), (2, [3, 1, 2, 7, 8]), (3, [3, 2, 7, 9, 8, 10]), (4, [3, 2, 7, 9, 8, 10, 11, 12]), (5, [7, 9, 8, 10, 11, 13, 12, 14, 3, 2]), (6, []), (7, [3, 2]), (8, [3, 2, 15, 8]), (9, [3, 2, 15, 16, 8, 10]), (10, [3, 2, 15, 16, 8, 10, 17, 12]), (11, [3, 2, 15, 16, 8, 10, 17, 18, 12, 14]), (12, [3, 2, 15, 16, 8, 10, 17, 18, 12, 14, 19, 20]), (13, [15, 16, 8, 10, 17, 18, 12, 14, 19, 21, 20, 22])]
noncomputable def hd10x0 : Hints := [(16, [7, 9, 8, 10, 11, 13, 12, 14, 3, 2], [3], []), (40, [15, 16, 8, 10, 17, 18, 12, 14, 19, 21, 20, 22], [], [])]
noncomputable def h10x0s0 (N : Nat) : Sg Try.prog 0 10 := .start hd10x0 rg10x0
noncomputable def F10x0x16 (w2 : Bool) (w3 : Int) (w4 : Bool) (w5 : Int) (w7 : LD) (w8 : Int) (w10 : LD) (w11 : Int) (k0 : Bool → Option R) : Option R :=
  bif (bif (!(w2 == w4)) then true else (w3 != w5)) then
    k0 true
  else
    bnd (G15x0 N w7 w10) fun y0 =>
    bif y0.isSome then
      k0 (bif (!(y0.getD default)) then true else (w8 != w11))
    else
      none
noncomputable def G10x0x16 (w2 : Bool) (w3 : Int) (w4 : Bool) (w5 : Int) (w7 : LD) (w8 : Int) (w10 : LD) (w11 : Int) : Option (Bool) := F10x0x16 N w2 w3 w4 w5 w7 w8 w10 w11 (fun p => some p)
theorem bind10x0x16 (w2 : Bool) (w3 : Int) (w4 : Bool) (w5 : Int) (w7 : LD) (w8 : Int) (w10 : LD) (w11 : Int) (k0 : Bool → Option R) : F10x0x16 N w2 w3 w4 w5 w7 w8 w10 w11 k0 = (G10x0x16 N w2 w3 w4 w5 w7 w8 w10 w11).bind k0 := by
  unfold G10x0x16 F10x0x16
  repeat' (first | rfl | apply cond_b | (apply bnd_b; intro _))
noncomputable def J10x0x16 (L : List Lf) (k0 : Bool → Option R) : Option R := F10x0x16 N (lb L 2) (li L 3) (lb L 4) (li L 5) (ll L 7) (li L 8) (ll L 10) (li L 11) k0
noncomputable def sh10x0x16 : Sh := { tmps := [(2, .c (.sl 3)), (3, .c (.p 3 0)), (7, .c (.b)), (8, .c (.i .i64)), (9, .c (.b)), (10, .c (.i .i64)), (11, .c (.sl 3)), (12, .c (.i .i64)), (13, .c (.sl 3)), (14, .c (.i .i64))], mem := [(3, .box ([.i .i64, .i .i64, .i .i64, .sl 66, .sl 68]))] }
noncomputable def K10x0x16w0 (L : List Lf) (p : Bool) : Ex × St := (.normal, mg (ofSh sh10x0x16 L) [2, 3, 67] [(67, .c (.b p))] [3] [])
noncomputable def A10x0x16 (L : List Lf) : List (Bool × (Ex × St)) := bnd (J10x0x16 N L (fun p => some p)) fun q => [(q.isSome, K10x0x16w0 L (q.getD default))]
theorem raw10x0x16 (L : List Lf) : pc Try.prog (T16x0 N) (h10x0s0 N).h 0 100 10 16 sh10x0x16 L [3, 2, 67] [3] = J10x0x16 N L (fun p => some (K10x0x16w0 L p)) := by kernel_rfl
noncomputable def h10x0s1 : Sg Try.prog 0 10 :=
  (h10x0s0 N).cut (A10x0x16 N) progOk (T16x0_ok N) fun L x hx => (raw10x0x16 N L).trans ((bind10x0x16 N ..).trans (alt1 x hx))
noncomputable def F10x0x40 (w0 w1 w2 w3 w4 w5 : Int) (w7 w9 w11 : LD) (w12 : Int) (w14 : LD) (w15 : Int) (k0 : Bool → Option R) : Option R :=
  bif (bif (w4 == w5) then (w0 == w1) else false) then
    bnd (G15x0 N w7 w9) fun y0 =>
    bif y0.isSome then
      bif (bif (y0.getD default) then (w2 == w3) else false) then
        bnd (G15x0 N w11 w14) fun y1 =>
        bif y1.isSome then
          bif (bif (y1.getD default) then (w12 == w15) else false) then
            bnd (G16x0 N) fun y2 =>
            bif y2.isSome then
              k0 (y2.getD default)
            else
              none
          else
            k0 false
        else
          none
      else
        k0 false
    else
      none
  else
    k0 false
noncomputable def G10x0x40 (w0 w1 w2 w3 w4 w5 : Int) (w7 w9 w11 : LD) (w12 : Int) (w14 : LD) (w15 : Int) : Option (Bool) := F10x0x40 N w0 w1 w2 w3 w4 w5 w7 w9 w11 w12 w14 w15 (fun p => some p)
theorem bind10x0x40 (w0 w1 w2 w3 w4 w5 : Int) (w7 w9 w11 : LD) (w12 : Int) (w14 : LD) (w15 : Int) (k0 : Bool → Option R) : F10x0x40 N w0 w1 w2 w3 w4 w5 w7 w9 w11 w12 w14 w15 k0 = (G10x0x40 N w0 w1 w2 w3 w4 w5 w7 w9 w11 w12 w14 w15).bind k0 := by
  unfold G10x0x40 F10x0x40
  repeat' (first | rfl | apply cond_b | (apply bnd_b; intro _))
noncomputable def J10x0x40 (L : List Lf) (k0 : Bool → Option R) : Option R := F10x0x40 N (li L 0) (li L 1) (li L 2) (li L 3) (li L 4) (li L 5) (ll L 7) (ll L 9) (ll L 11) (li L 12) (ll L 14) (li L 15) k0
noncomputable def sh10x0x40 : Sh := { tmps := [(8, .c (.i .i64)), (10, .c (.i .i64)), (12, .c (.i .i64)), (14, .c (.i .i64)), (15, .c (.i .i64)), (16, .c (.i .i64)), (17, .c (.sl 3)), (18, .c (.sl 3)), (19, .c (.sl 3)), (20, .c (.i .i64)), (21, .c (.sl 3)), (22, .c (.i .i64))], mem := [] }
noncomputable def A10x0x40 (L : List Lf) : List (Bool × (Ex × St)) := bnd (J10x0x40 N L (fun p => some p)) fun q => [(q.isSome, (.normal, ⟨[(6, .c (.b (q.getD default)))], []⟩))]
theorem raw10x0x40 (L : List Lf) : pc Try.prog (T16x0 N) (h10x0s1 N).h 0 100 10 40 sh10x0x40 L [6] [] = J10x0x40 N L (fun p => some (.normal, ⟨[(6, .c (.b p))], []⟩)) := by kernel_rfl
noncomputable def h10x0s2 : Sg Try.prog 0 10 :=
  (h10x0s1 N).cut (A10x0x40 N) progOk (T16x0_ok N) fun L x hx => (raw10x0x40 N L).trans ((bind10x0x40 N ..).trans (alt1 x hx))
noncomputable def F10x0 (v0 v1 v2 : Int) (v4 v6 : LD) (v7 : Int) (v9 : LD) (k0 : Bool → Option R) : Option R :=
  bnd (G35x0 N v0 v1 v2 v4 v6 v7 v9) fun y0 =>
  bif y0.isSome then
    bnd (G36x0 N v0 v1 v2 v4 v6 v7 v9) fun y1 =>
    bif y1.isSome then
      bnd (G37x0 N v0 v1 v2 v4 v6 v9) fun y2 =>
      bif y2.isSome then
        bnd (G28x0 N v0 v1 v2 v4 v6 v9) fun y3 =>
        bif y3.isSome then
          bnd (G10x0x16 N (y0.getD default).1 (y0.getD default).2 (y1.getD default).1 (y1.getD default).2 (y2.getD default).2.1 (y2.getD default).2.2 (y3.getD default).2.1 (y3.getD default).2.2) fun y4 =>
          bif y4.isSome then
            bif (y4.getD default) then
              k0 false
            else
              bnd (G38x0 N v0 v1 v2 v4 v6 v9) fun y5 =>
              bif y5.isSome then
                bnd (G30x0 N v0 v1 v2 v4 v6 v9) fun y6 =>
                bif y6.isSome then
                  bnd (G39x0 N v0 v1 v2 v4 v6 v9) fun y7 =>
                  bif y7.isSome then
                    bnd (G40x0 N v0 v1 v2 v4 v6 v9) fun y8 =>
                    bif y8.isSome then
                      bnd (G41x0 N v0 v1 v2 v4 v6 v9) fun y9 =>
                      bif y9.isSome then
                        bnd (G42x0 N v0 v1 v2 v4 v6 v9) fun y10 =>
                        bif y10.isSome then
                          bnd (G10x0x40 N (y5.getD default).2 (y6.getD default).2 (y7.getD default).2.2 (y8.getD default).2.2 (y5.getD default).1 (y6.getD default).1 (y7.getD default).2.1 (y8.getD default).2.1 (y9.getD default).2.1 (y9.getD default).2.2 (y10.getD default).2.1 (y10.getD default).2.2) fun y11 =>
                          bif y11.isSome then
                            k0 (y11.getD default)
                          else
                            none
                        else
                          none
                      else
                        none
                    else
                      none
                  else
                    none
                else
                  none
              else
                none
          else
            none
        else
          none
      else
        none
    else
      none
  else
    none
noncomputable def G10x0 (v0 v1 v2 : Int) (v4 v6 : LD) (v7 : Int) (v9 : LD) : Option (Bool) := F10x0 N v0 v1 v2 v4 v6 v7 v9 (fun p => some p)
theorem bind10x0 (v0 v1 v2 : Int) (v4 v6 : LD) (v7 : Int) (v9 : LD) (k0 : Bool → Option R) : F10x0 N v0 v1 v2 v4 v6 v7 v9 k0 = (G10x0 N v0 v1 v2 v4 v6 v7 v9).bind k0 := by
  unfold G10x0 F10x0
  repeat' (first | rfl | apply cond_b | (apply bnd_b; intro _))
noncomputable def J10x0 (L : List Lf) (k0 : Bool → Option R) : Option R := F10x0 N (li L 0) (li L 1) (li L 2) (ll L 4) (ll L 6) (li L 7) (ll L 9) k0
noncomputable def sh10x0 : Sh := { tmps := [(0, .g ([.i .i64, .i .i64, .i .i64, .sl 66, .sl 68])), (1, .c (.i .i64)), (2, .c (.sl 3))], mem := [] }
noncomputable def A10x0 (L : List Lf) : List (Bool × Res) := bnd (J10x0 N L (fun p => some p)) fun q => [(q.isSome, ([.c (.b (q.getD default))], []))]
theorem raw10x0 (L : List Lf) : bd Try.prog (T16x0 N) (h10x0s2 N).h 10 sh10x0 L = J10x0 N L (fun p => some ([.c (.b p)], [])) := by kernel_rfl
theorem ok10x0 : FnOk Try.prog 10 sh10x0 (A10x0 N) :=
  (h10x0s2 N).fn progOk (T16x0_ok N) fun L x hx => ((raw10x0 N L).trans ((bind10x0 N ..).trans (alt1 x hx)))
noncomputable def T10x0 : Oracle := ext 10 (spSh sh10x0 (A10x0 N)) (T16x0 N)
theorem T10x0_ok : OracleOk Try.prog (T10x0 N) := FnOk.to (ok10x0 N) (T16x0_ok N)
end Go.Proofs.Ytefmjfcdgadggaa
