/- A part of a proof of a law: lemmas. Conditions: those of each lemma. -/
import Derived.Test.YtfogaejiehebeaaHk1
set_option linter.all false
set_option maxRecDepth 100000
set_option linter.unusedVariables false
set_option linter.unusedSimpArgs false
set_option maxRecDepth 100000
namespace Go.Proofs.Ytfogaejiehebeaa
open Go Go.AM
abbrev LD : Type := List D
abbrev LB : Type := List UInt8
abbrev Ty0 : Type := Bool × Bool × Int × Bool × LD × Int × Int × Int
abbrev Ty1 : Type := LB × LB × Bool
abbrev Ty2 : Type := Bool × LD × Bool × LD
abbrev Ty3 : Type := Int × LB × Bool
variable (N : Nat) {R : Type}
noncomputable def rg36x0 : List (Nat × List Nat) := [(0, []), (1, [])]
noncomputable def hd36x0 : Hints := []
noncomputable def h36x0s0 (N : Nat) : Sg Try.prog 0 36 := .start hd36x0 rg36x0
noncomputable def F36x0 (N : Nat) (k0 : D → R) : R :=
 k0 (.a [(.b false), (.b false), (.i 0), (.l true []), (.i 0), (.i 0), (.b false), (.b false), (.i 0), (.l true []), (.i 0), (.i 0), (.b false), (.b false), (.i 0), (.l true []), (.i 0), (.i 0), (.b false), (.b false), (.i 0), (.l true []), (.i 0), (.i 0), (.b false), (.b false), (.i 0), (.l true []), (.i 0), (.i 0), (.b false), (.b false), (.i 0), (.l true []), (.i 0), (.i 0), (.b false), (.b false), (.i 0), (.l true []), (.i 0), (.i 0), (.b false), (.b false), (.i 0), (.l true []), (.i 0), (.i 0), (.b false), (.b false), (.i 0), (.l true []), (.i 0), (.i 0), (.b false), (.b false), (.i 0), (.l true []), (.i 0), (.i 0), (.b false), (.b false), (.i 0), (.l true []), (.i 0), (.i 0), (.b false), (.b false), (.i 0), (.l true []), (.i 0), (.i 0), (.b false), (.b false), (.i 0), (.l true []), (.i 0), (.i 0), (.b false), (.b false), (.i 0), (.l true []), (.i 0), (.i 0), (.b false), (.b false), (.i 0), (.l true []), (.i 0), (.i 0), (.b false), (.b false), (.i 0), (.l true []), (.i 0), (.i 0), (.i (-1))])
noncomputable def V36x0 : D := F36x0 N (fun p => p)
theorem tot36x0 (k0 : D → R) : F36x0 N k0 = k0 (V36x0 N) := by
 unfold V36x0 F36x0
 repeat' (first | rfl | apply cond_k | (apply bnd_k; intro _))
noncomputable def sh36x0 : Sh := { tmps := [], mem := [] }
noncomputable def A36x0 (L : List Lf) : List (Bool × Res) := bnd (F36x0 N (fun p => p)) fun q => [(true, ([.c (.p 2 0)], [(2, .dat 93 q)]))]
theorem raw36x0 (L : List Lf) : bd Try.prog noOracle (h36x0s0 N).h 36 sh36x0 L = F36x0 N (fun p => some ([.c (.p 2 0)], [(2, .dat 93 p)])) := by kernel_rfl
theorem ok36x0 : FnOk Try.prog 36 sh36x0 (A36x0 N) :=
 (h36x0s0 N).fn progOk noOracle_ok fun L x hx => ((raw36x0 N L).trans ((tot36x0 N ..).trans (alt0 _ _ hx)))
noncomputable def T36x0 : Oracle := ext 36 (spSh sh36x0 (A36x0 N)) noOracle
theorem T36x0_ok : OracleOk Try.prog (T36x0 N) := FnOk.to (ok36x0 N) noOracle_ok
noncomputable def rg35x0 : List (Nat × List Nat) := [(0, [0, 1, 2]), (1, [0, 1, 2])]
noncomputable def hd35x0 : Hints := []
noncomputable def h35x0s0 (N : Nat) : Sg Try.prog 0 35 := .start hd35x0 rg35x0
noncomputable def F35x0 (N : Nat) (v0 v1 v2 : Int) (k0 : Bool → R) : R :=
 k0 (bif (decide (v0 ≥ v1)) then (decide (v0 ≤ v2)) else false)
noncomputable def V35x0 (v0 v1 v2 : Int) : Bool := F35x0 N v0 v1 v2 (fun p => p)
theorem tot35x0 (v0 v1 v2 : Int) (k0 : Bool → R) : F35x0 N v0 v1 v2 k0 = k0 (V35x0 N v0 v1 v2) := by
 unfold V35x0 F35x0
 repeat' (first | rfl | apply cond_k | (apply bnd_k; intro _))
noncomputable def sh35x0 : Sh := { tmps := [(0, .c (.i .i64)), (1, .c (.i .i64)), (2, .c (.i .i64))], mem := [] }
noncomputable def A35x0 (L : List Lf) : List (Bool × Res) := bnd (F35x0 N (li L 0) (li L 1) (li L 2) (fun p => p)) fun q => [(true, ([.c (.b q)], []))]
theorem raw35x0 (L : List Lf) : bd Try.prog (T36x0 N) (h35x0s0 N).h 35 sh35x0 L = F35x0 N (li L 0) (li L 1) (li L 2) (fun p => some ([.c (.b p)], [])) := by kernel_rfl
theorem ok35x0 : FnOk Try.prog 35 sh35x0 (A35x0 N) :=
 (h35x0s0 N).fn progOk (T36x0_ok N) fun L x hx => ((raw35x0 N L).trans ((tot35x0 N ..).trans (alt0 _ _ hx)))
noncomputable def T35x0 : Oracle := ext 35 (spSh sh35x0 (A35x0 N)) (T36x0 N)
theorem T35x0_ok : OracleOk Try.prog (T35x0 N) := FnOk.to (ok35x0 N) (T36x0_ok N)
noncomputable def rg80x0 : List (Nat × List Nat) := [(0, [0, 1]), (1, [2, 1])]
noncomputable def hd80x0 : Hints := []
noncomputable def h80x0s0 (N : Nat) : Sg Try.prog 1 80 := .start hd80x0 rg80x0
noncomputable def F80x0 (N : Nat) (v0 v3 : Int) (k0 : Bool → R) : R :=
 k0 (v0 == v3)
noncomputable def V80x0 (v0 v3 : Int) : Bool := F80x0 N v0 v3 (fun p => p)
theorem tot80x0 (v0 v3 : Int) (k0 : Bool → R) : F80x0 N v0 v3 k0 = k0 (V80x0 N v0 v3) := by
 unfold V80x0 F80x0
 repeat' (first | rfl | apply cond_k | (apply bnd_k; intro _))
noncomputable def sh80x0 : Sh := { tmps := [(0, .g ([.i .i64, .i .i64, .i .i64])), (1, .c (.p 0 0))], mem := [(0, .box ([.i .i64, .i .i64, .i .i64]))] }
noncomputable def A80x0 (L : List Lf) : List (Bool × Res) := bnd (F80x0 N (li L 0) (li L 3) (fun p => p)) fun q => [(true, ([.c (.b q)], mgA (ofSh sh80x0 L).mem [] [0]))]
theorem raw80x0 (L : List Lf) : bd Try.prog (T35x0 N) (h80x0s0 N).h 80 sh80x0 L = F80x0 N (li L 0) (li L 3) (fun p => some ([.c (.b p)], mgA (ofSh sh80x0 L).mem [] [0])) := by kernel_rfl
theorem ok80x0 : FnOk Try.prog 80 sh80x0 (A80x0 N) :=
 (h80x0s0 N).fn progOk (T35x0_ok N) fun L x hx => ((raw80x0 N L).trans ((tot80x0 N ..).trans (alt0 _ _ hx)))
noncomputable def T80x0 : Oracle := ext 80 (spSh sh80x0 (A80x0 N)) (T35x0 N)
theorem T80x0_ok : OracleOk Try.prog (T80x0 N) := FnOk.to (ok80x0 N) (T35x0_ok N)
noncomputable def rg86x0 : List (Nat × List Nat) := [(0, [0, 1]), (1, [0, 1]), (2, [8, 7, 1, 0]), (3, [8, 1, 0, 7]), (4, [1, 0, 5, 8, 7]), (5, [5]), (6, [8, 7, 1, 0]), (7, [])]
noncomputable def hd86x0 : Hints := [(6, [0, 1, 7, 8], [0], [])]
noncomputable def h86x0s0 (N : Nat) : Sg Try.prog 1 86 := .start hd86x0 rg86x0
noncomputable def S86x0x6 (w1 : LD) (w2 w4 : Int) (w3 : Int) (kr : Int → Option R) (k0 : Int → Option R) (k1 : Unit → Option R) : Option R :=
 bif (decide (w3 < w2)) then
  bif (inB w3 w1.length) then
   bnd (V80x0 N ((w1.getD w3.toNat (.i 0)).cell 0).toI w4) fun y0 =>
   bif y0 then
    k0 w3
   else
    kr (IntKind.wrap .i64 (w3 + 1))
  else
   none
 else
  k1 ()
noncomputable def L86x0x6 (N : Nat) {R : Type} (w1 : LD) (w2 w4 : Int) : Nat → Int → (Int → Option R) → (Unit → Option R) → Option R
 | 0, _, _, _ => none
 | m + 1, w3, k0, k1 => S86x0x6 N w1 w2 w4 w3 (fun w3 => L86x0x6 N w1 w2 w4 m w3 k0 k1) k0 k1
noncomputable def G86x0x6 (w1 : LD) (w2 w4 : Int) (w3 : Int) : Option (Sum (Int) (Unit)) := L86x0x6 N (R := (Sum (Int) (Unit))) w1 w2 w4 N w3 (fun p => some (.inl p)) (fun p => some (.inr p))
noncomputable def J86x0x6 (L x : List Lf) (kr : List Lf → Option R) (k0 : Int → Option R) (k1 : Unit → Option R) : Option R := S86x0x6 N (ll L 1) (li L 2) (li L 4) (li x 0) (fun w3 => kr [.i w3]) k0 k1
theorem sb86x0x6 (L x : List Lf) (kr : List Lf → Option R) (k0 : Int → Option R) (k1 : Unit → Option R) : J86x0x6 N L x kr k0 k1 = (J86x0x6 N L x (fun y => some (.inl y)) (fun p => some (.inr (.inl p))) (fun p => some (.inr (.inr p)))).bind (sumE kr (sumE k0 k1)) := by
 unfold J86x0x6 S86x0x6
 repeat' (first | with_reducible apply cond_b | (with_reducible apply bnd_b; intro _) | rfl)
noncomputable def Q86x0x6 (L : List Lf) (m : Nat) (x : List Lf) : Option (Sum (Int) (Unit)) := L86x0x6 N (R := (Sum (Int) (Unit))) (ll L 1) (li L 2) (li L 4) m (li x 0) (fun p => some (.inl p)) (fun p => some (.inr p))
noncomputable def sh86x0x6 : Sh := { tmps := [(0, .c (.sl 61)), (1, .c (.f 80 [(0, 0)])), (7, .c (.i .i64)), (8, .c (.i .i64))], mem := [(0, .box ([.i .i64, .i .i64, .i .i64]))] }
noncomputable def K86x0x6w0 (L : List Lf) (p : Int) : Ex × St := (.ret, mg (ofSh sh86x0x6 L) [4] [(4, .c (.i .i64 p))] [0] [])
noncomputable def A86x0x6 (L : List Lf) : List (Bool × (Ex × St)) := bnd (Q86x0x6 N L N (pk sh86x0x6 [3] L)) fun q => [((inlB q), K86x0x6w0 L (inlV q)), ((inrQ q).isSome, ((.exit 0), mg (ofSh sh86x0x6 L) [] [] [0] []))]
theorem step86x0x6 (m : Nat) (kn : St → Option (Ex × St)) (L x : List Lf) : lpB Try.prog (T80x0 N) (h86x0s0 N).h 1 86 6 sh86x0x6 [3] [4] [0] (m + 100) kn L x = J86x0x6 N L x (fun y => kn (ofSh sh86x0x6 (mx sh86x0x6 [3] L y))) (fun p => some (K86x0x6w0 L p)) (fun _ => some ((.exit 0), mg (ofSh sh86x0x6 L) [] [] [0] [])) := by kernel_rfl
theorem ql86x0x6 (L : List Lf) (m : Nat) (x : List Lf) : Q86x0x6 N L (m + 1) x = J86x0x6 N L x (Q86x0x6 N L m) (fun p => some (.inl p)) (fun p => some (.inr p)) := by kernel_rfl
noncomputable def h86x0s1 : Sg Try.prog 1 86 :=
 (h86x0s0 N).lp (A86x0x6 N) N progOk (T80x0_ok N) (fun m kn L x => (step86x0x6 N m kn L x).trans (sb86x0x6 N L x _ _ _)) (fun L m x => (ql86x0x6 N L m x).trans (sb86x0x6 N L x (Q86x0x6 N L m) (fun p => some (.inl p)) (fun p => some (.inr p)))) fun L x hx => (altS alt1) x hx
noncomputable def F86x0 (v1 : LD) (v2 : Int) (k0 : Int → Option R) : Option R :=
 bnd (G86x0x6 N v1 (v1.length : Int) v2 0) fun y0 =>
 bif (inlB y0) then
  k0 (inlV y0)
 else
  bif (inrQ y0).isSome then
   k0 (-1)
  else
   none
noncomputable def G86x0 (v1 : LD) (v2 : Int) : Option (Int) := F86x0 N v1 v2 (fun p => some p)
theorem bind86x0 (v1 : LD) (v2 : Int) (k0 : Int → Option R) : F86x0 N v1 v2 k0 = (G86x0 N v1 v2).bind k0 := by
 unfold G86x0 F86x0
 repeat' (first | with_reducible apply cond_b | (with_reducible apply bnd_b; intro _) | rfl)
noncomputable def sh86x0 : Sh := { tmps := [(0, .c (.sl 61)), (1, .c (.f 80 [(0, 0)]))], mem := [(0, .box ([.i .i64, .i .i64, .i .i64]))] }
noncomputable def A86x0 (L : List Lf) : List (Bool × Res) := bnd (F86x0 N (ll L 1) (li L 2) (fun p => some p)) fun q => [(q.isSome, ([.c (.i .i64 (q.getD default))], mgA (ofSh sh86x0 L).mem [] [0]))]
theorem raw86x0 (L : List Lf) : bd Try.prog (T80x0 N) (h86x0s1 N).h 86 sh86x0 L = F86x0 N (ll L 1) (li L 2) (fun p => some ([.c (.i .i64 p)], mgA (ofSh sh86x0 L).mem [] [0])) := by kernel_rfl
theorem ok86x0 : FnOk Try.prog 86 sh86x0 (A86x0 N) :=
 (h86x0s1 N).fn progOk (T80x0_ok N) fun L x hx => ((raw86x0 N L).trans ((bind86x0 N ..).trans (alt1 x hx)))
noncomputable def T86x0 : Oracle := ext 86 (spSh sh86x0 (A86x0 N)) (T80x0 N)
theorem T86x0_ok : OracleOk Try.prog (T86x0 N) := FnOk.to (ok86x0 N) (T80x0_ok N)
noncomputable def rg79x0 : List (Nat × List Nat) := [(0, [0, 1]), (1, [0, 1])]
noncomputable def hd79x0 : Hints := []
noncomputable def h79x0s0 (N : Nat) : Sg Try.prog 1 79 := .start hd79x0 rg79x0
noncomputable def F79x0 (v1 : LD) (v2 : Int) (k0 : Bool → Option R) : Option R :=
 bnd (G86x0 N v1 v2) fun y0 =>
 bif y0.isSome then
  k0 (decide ((y0.getD default) ≥ 0))
 else
  none
noncomputable def G79x0 (v1 : LD) (v2 : Int) : Option (Bool) := F79x0 N v1 v2 (fun p => some p)
theorem bind79x0 (v1 : LD) (v2 : Int) (k0 : Bool → Option R) : F79x0 N v1 v2 k0 = (G79x0 N v1 v2).bind k0 := by
 unfold G79x0 F79x0
 repeat' (first | with_reducible apply cond_b | (with_reducible apply bnd_b; intro _) | rfl)
noncomputable def sh79x0 : Sh := { tmps := [(0, .c (.sl 61)), (1, .c (.f 80 [(0, 0)]))], mem := [(0, .box ([.i .i64, .i .i64, .i .i64]))] }
noncomputable def A79x0 (L : List Lf) : List (Bool × Res) := bnd (F79x0 N (ll L 1) (li L 2) (fun p => some p)) fun q => [(q.isSome, ([.c (.b (q.getD default))], mgA (ofSh sh79x0 L).mem [] [0]))]
theorem raw79x0 (L : List Lf) : bd Try.prog (T86x0 N) (h79x0s0 N).h 79 sh79x0 L = F79x0 N (ll L 1) (li L 2) (fun p => some ([.c (.b p)], mgA (ofSh sh79x0 L).mem [] [0])) := by kernel_rfl
theorem ok79x0 : FnOk Try.prog 79 sh79x0 (A79x0 N) :=
 (h79x0s0 N).fn progOk (T86x0_ok N) fun L x hx => ((raw79x0 N L).trans ((bind79x0 N ..).trans (alt1 x hx)))
noncomputable def T79x0 : Oracle := ext 79 (spSh sh79x0 (A79x0 N)) (T86x0 N)
theorem T79x0_ok : OracleOk Try.prog (T79x0 N) := FnOk.to (ok79x0 N) (T86x0_ok N)
noncomputable def rg71x0 : List (Nat × List Nat) := [(0, [0]), (1, [1]), (3, [1]), (4, []), (2, []), (5, [1]), (6, [19, 18, 17, 1]), (7, [19, 17, 1, 18]), (8, [4, 1, 3, 19, 18, 17]), (9, [4, 5, 1, 3, 19, 18, 17]), (11, [4, 5, 1, 3, 19, 18, 17]), (13, [5, 4, 1, 3, 19, 18, 17]), (15, [1, 3, 4, 19, 18, 17]), (16, []), (14, []), (12, []), (10, []), (17, [19, 18, 17, 1]), (18, [])]
noncomputable def hd71x0 : Hints := [(18, [1, 17, 18, 19], [1], []), (28, [1, 3, 4, 5, 17, 18, 19], [1, 4], [])]
noncomputable def h71x0s0 (N : Nat) : Sg Try.prog 0 71 := .start hd71x0 rg71x0
noncomputable def F71x0x28 (w10 w11 : Int) (k0 : Bool → R) : R :=
 bnd (V35x0 N w10 0 255) fun y0 =>
 bif (!y0) then
  k0 true
 else
  bnd (V35x0 N w11 1 255) fun y1 =>
  k0 (!y1)
noncomputable def V71x0x28 (w10 w11 : Int) : Bool := F71x0x28 N w10 w11 (fun p => p)
theorem tot71x0x28 (w10 w11 : Int) (k0 : Bool → R) : F71x0x28 N w10 w11 k0 = k0 (V71x0x28 N w10 w11) := by
 unfold V71x0x28 F71x0x28
 repeat' (first | rfl | apply cond_k | (apply bnd_k; intro _))
noncomputable def sh71x0x28 : Sh := { tmps := [(1, .c (.p 1 0)), (3, .c (.i .i64)), (4, .c (.p 4 0)), (5, .c (.b)), (17, .c (.sl 61)), (18, .c (.i .i64)), (19, .c (.i .i64))], mem := [(1, .box ([.b, .i .i64, .sl 61])), (4, .box ([.i .i64, .i .i64, .i .i64]))] }
noncomputable def K71x0x28w0 (L : List Lf) (p : Bool) : Ex × St := (.normal, mg (ofSh sh71x0x28 L) [1, 3, 4, 5, 17, 18, 19, 32] [(32, .c (.b p))] [1, 4] [])
noncomputable def A71x0x28 (L : List Lf) : List (Bool × (Ex × St)) := bnd (F71x0x28 N (li L 10) (li L 11) (fun p => p)) fun q => [(true, K71x0x28w0 L q)]
theorem raw71x0x28 (L : List Lf) : pc Try.prog (T79x0 N) (h71x0s0 N).h 0 100 71 28 sh71x0x28 L [1, 3, 4, 5, 17, 18, 19, 32] [1, 4] = F71x0x28 N (li L 10) (li L 11) (fun p => some (K71x0x28w0 L p)) := by kernel_rfl
noncomputable def h71x0s1 : Sg Try.prog 0 71 :=
 (h71x0s0 N).cut (A71x0x28 N) progOk (T79x0_ok N) fun L x hx => (raw71x0x28 N L).trans ((tot71x0x28 N ..).trans (alt0 _ _ hx))
noncomputable def S71x0x18 (w1 : LD) (w2 : Int) (w7 : LD) (w3 : Int) (kr : Int → Option R) (k0 : Int → Option R) (k1 : Unit → Option R) : Option R :=
 bif (decide (w3 < w2)) then
  bif (inB w3 w1.length) then
   bnd (bif (((w1.getD w3.toNat (.i 0)).cell 2).toI == 0) then true else (((w1.getD w3.toNat (.i 0)).cell 2).toI == 1)) fun y0 =>
   bnd (V71x0x28 N ((w1.getD w3.toNat (.i 0)).cell 0).toI ((w1.getD w3.toNat (.i 0)).cell 1).toI) fun y1 =>
   bif y1 then
    k0 9
   else
    bnd (V35x0 N ((w1.getD w3.toNat (.i 0)).cell 2).toI 0 3) fun y2 =>
    bif (!y2) then
     k0 7
    else
     bnd (bif y0 then (((w1.getD w3.toNat (.i 0)).cell 1).toI != 1) else false) fun y3 =>
     bnd (bif y3 then (((w1.getD w3.toNat (.i 0)).cell 1).toI != 2) else false) fun y4 =>
     bnd (bif y4 then (((w1.getD w3.toNat (.i 0)).cell 1).toI != 4) else false) fun y5 =>
     bif y5 then
      k0 2
     else
      bif ((decide (0 ≤ w3)) && (decide (w3 ≤ (w7.length : Int)))) then
       bnd (G79x0 N ((w7.take w3.toNat).drop 0) ((w1.getD w3.toNat (.i 0)).cell 0).toI) fun y6 =>
       bif y6.isSome then
        bif (y6.getD default) then
         k0 5
        else
         kr (IntKind.wrap .i64 (w3 + 1))
       else
        none
      else
       none
  else
   none
 else
  k1 ()
noncomputable def L71x0x18 (N : Nat) {R : Type} (w1 : LD) (w2 : Int) (w7 : LD) : Nat → Int → (Int → Option R) → (Unit → Option R) → Option R
 | 0, _, _, _ => none
 | m + 1, w3, k0, k1 => S71x0x18 N w1 w2 w7 w3 (fun w3 => L71x0x18 N w1 w2 w7 m w3 k0 k1) k0 k1
noncomputable def G71x0x18 (w1 : LD) (w2 : Int) (w7 : LD) (w3 : Int) : Option (Sum (Int) (Unit)) := L71x0x18 N (R := (Sum (Int) (Unit))) w1 w2 w7 N w3 (fun p => some (.inl p)) (fun p => some (.inr p))
noncomputable def J71x0x18 (L x : List Lf) (kr : List Lf → Option R) (k0 : Int → Option R) (k1 : Unit → Option R) : Option R := S71x0x18 N (ll L 1) (li L 2) (ll L 7) (li x 0) (fun w3 => kr [.i w3]) k0 k1
theorem sb71x0x18 (L x : List Lf) (kr : List Lf → Option R) (k0 : Int → Option R) (k1 : Unit → Option R) : J71x0x18 N L x kr k0 k1 = (J71x0x18 N L x (fun y => some (.inl y)) (fun p => some (.inr (.inl p))) (fun p => some (.inr (.inr p)))).bind (sumE kr (sumE k0 k1)) := by
 unfold J71x0x18 S71x0x18
 repeat' (first | with_reducible apply cond_b | (with_reducible apply bnd_b; intro _) | rfl)
noncomputable def Q71x0x18 (L : List Lf) (m : Nat) (x : List Lf) : Option (Sum (Int) (Unit)) := L71x0x18 N (R := (Sum (Int) (Unit))) (ll L 1) (li L 2) (ll L 7) m (li x 0) (fun p => some (.inl p)) (fun p => some (.inr p))
noncomputable def sh71x0x18 : Sh := { tmps := [(1, .c (.p 1 0)), (17, .c (.sl 61)), (18, .c (.i .i64)), (19, .c (.i .i64))], mem := [(1, .box ([.b, .i .i64, .sl 61]))] }
noncomputable def A71x0x18 (L : List Lf) : List (Bool × (Ex × St)) := bnd (Q71x0x18 N L N (pk sh71x0x18 [3] L)) fun q => [((inlB q), (.ret, ⟨[(2, .c (.i .i64 (inlV q)))], []⟩)), ((inrQ q).isSome, ((.exit 1), ⟨[], []⟩))]
theorem step71x0x18 (m : Nat) (kn : St → Option (Ex × St)) (L x : List Lf) : lpB Try.prog (T79x0 N) (h71x0s1 N).h 0 71 18 sh71x0x18 [3] [2] [] (m + 100) kn L x = J71x0x18 N L x (fun y => kn (ofSh sh71x0x18 (mx sh71x0x18 [3] L y))) (fun p => some (.ret, ⟨[(2, .c (.i .i64 p))], []⟩)) (fun _ => some ((.exit 1), ⟨[], []⟩)) := by kernel_rfl
theorem ql71x0x18 (L : List Lf) (m : Nat) (x : List Lf) : Q71x0x18 N L (m + 1) x = J71x0x18 N L x (Q71x0x18 N L m) (fun p => some (.inl p)) (fun p => some (.inr p)) := by kernel_rfl
noncomputable def h71x0s2 : Sg Try.prog 0 71 :=
 (h71x0s1 N).lp (A71x0x18 N) N progOk (T79x0_ok N) (fun m kn L x => (step71x0x18 N m kn L x).trans (sb71x0x18 N L x _ _ _)) (fun L m x => (ql71x0x18 N L m x).trans (sb71x0x18 N L x (Q71x0x18 N L m) (fun p => some (.inl p)) (fun p => some (.inr p)))) fun L x hx => (altS alt1) x hx
noncomputable def F71x0 (v1 : Int) (v3 : LD) (k0 : Int → Option R) : Option R :=
 bnd (V35x0 N v1 0 65535) fun y0 =>
 bif (!y0) then
  k0 9
 else
  bif (decide ((v3.length : Int) > 30)) then
   k0 3
  else
   bnd (G71x0x18 N v3 (v3.length : Int) v3 0) fun y1 =>
   bif (inlB y1) then
    k0 (inlV y1)
   else
    bif (inrQ y1).isSome then
     k0 0
    else
     none
noncomputable def G71x0 (v1 : Int) (v3 : LD) : Option (Int) := F71x0 N v1 v3 (fun p => some p)
theorem bind71x0 (v1 : Int) (v3 : LD) (k0 : Int → Option R) : F71x0 N v1 v3 k0 = (G71x0 N v1 v3).bind k0 := by
 unfold G71x0 F71x0
 repeat' (first | with_reducible apply cond_b | (with_reducible apply bnd_b; intro _) | rfl)
noncomputable def sh71x0 : Sh := { tmps := [(0, .g ([.b, .i .i64, .sl 61]))], mem := [] }
noncomputable def A71x0 (L : List Lf) : List (Bool × Res) := bnd (F71x0 N (li L 1) (ll L 3) (fun p => some p)) fun q => [(q.isSome, ([.c (.i .i64 (q.getD default))], []))]
theorem raw71x0 (L : List Lf) : bd Try.prog (T79x0 N) (h71x0s2 N).h 71 sh71x0 L = F71x0 N (li L 1) (ll L 3) (fun p => some ([.c (.i .i64 p)], [])) := by kernel_rfl
theorem ok71x0 : FnOk Try.prog 71 sh71x0 (A71x0 N) :=
 (h71x0s2 N).fn progOk (T79x0_ok N) fun L x hx => ((raw71x0 N L).trans ((bind71x0 N ..).trans (alt1 x hx)))
noncomputable def T71x0 : Oracle := ext 71 (spSh sh71x0 (A71x0 N)) (T79x0 N)
theorem T71x0_ok : OracleOk Try.prog (T71x0 N) := FnOk.to (ok71x0 N) (T79x0_ok N)
noncomputable def rg45x0 : List (Nat × List Nat) := [(0, [1, 0]), (1, [3, 0]), (2, [6, 5, 3, 0]), (3, [6, 5, 3, 0, 9, 7, 8]), (4, [5, 3, 0, 6, 9]), (5, [5, 3, 7, 8, 0, 6, 9]), (6, [3, 7, 8, 5, 0, 6]), (7, [3, 7, 8, 9, 5, 0, 6]), (9, [3, 7, 8, 9, 5, 0, 6]), (11, [3, 9, 5, 0, 6]), (13, [5, 3, 0, 6]), (14, [3]), (12, []), (10, []), (8, []), (15, [0, 3, 6]), (16, [10, 6, 0, 3]), (17, []), (18, [10, 6, 3]), (19, [6, 11, 3]), (20, [11, 3]), (21, [3, 11]), (22, []), (23, [])]
noncomputable def hd45x0 : Hints := [(14, [0, 3, 5, 6, 7, 8, 9, 18], [0, 4], []), (20, [0, 3, 5, 6, 7, 8, 9, 19], [0, 4], []), (28, [0, 3, 5, 6, 7, 8, 9], [0, 4], []), (62, [3, 11, 87], [0, 4], [])]
noncomputable def h45x0s0 (N : Nat) : Sg Try.prog 1 45 := .start hd45x0 rg45x0
noncomputable def F45x0x14 (N : Nat) (w2 w3 : Int) (w5 : Bool) (k0 : Int × Int → R) : R :=
 bif w5 then
  k0 (3, 31)
 else
  k0 (w2, w3)
noncomputable def V45x0x14 (w2 w3 : Int) (w5 : Bool) : Int × Int := F45x0x14 N w2 w3 w5 (fun p => p)
theorem tot45x0x14 (w2 w3 : Int) (w5 : Bool) (k0 : Int × Int → R) : F45x0x14 N w2 w3 w5 k0 = k0 (V45x0x14 N w2 w3 w5) := by
 unfold V45x0x14 F45x0x14
 repeat' (first | rfl | apply cond_k | (apply bnd_k; intro _))
noncomputable def sh45x0x14 : Sh := { tmps := [(0, .c (.p 0 0)), (3, .c (.p 4 0)), (5, .c (.b)), (6, .c (.b)), (7, .c (.i .i64)), (8, .c (.i .i64)), (9, .c (.i .i64)), (18, .c (.b))], mem := [(0, .dat 93), (4, .box ([.i .i64, .i .i64, .i .i64, .sl 44, .sl 5]))] }
noncomputable def K45x0x14w0 (L : List Lf) (p : Int × Int) : Ex × St := (.normal, mg (ofSh sh45x0x14 L) [0, 3, 5, 6, 7, 8, 9] [(7, .c (.i .i64 p.1)), (8, .c (.i .i64 p.2))] [0, 4] [])
noncomputable def A45x0x14 (L : List Lf) : List (Bool × (Ex × St)) := bnd (F45x0x14 N (li L 2) (li L 3) (lb L 5) (fun p => p)) fun q => [(true, K45x0x14w0 L q)]
theorem raw45x0x14 (L : List Lf) : pc Try.prog (T71x0 N) (h45x0s0 N).h 1 100 45 14 sh45x0x14 L [0, 3, 5, 6, 7, 8, 9] [0, 4] = F45x0x14 N (li L 2) (li L 3) (lb L 5) (fun p => some (K45x0x14w0 L p)) := by kernel_rfl
noncomputable def h45x0s1 : Sg Try.prog 1 45 :=
 (h45x0s0 N).cut (A45x0x14 N) progOk (T71x0_ok N) fun L x hx => (raw45x0x14 N L).trans ((tot45x0x14 N ..).trans (alt0 _ _ hx))
noncomputable def F45x0x20 (N : Nat) (w4 : Int) (w5 : Bool) (k0 : Int → R) : R :=
 bif w5 then
  k0 1
 else
  k0 w4
noncomputable def V45x0x20 (w4 : Int) (w5 : Bool) : Int := F45x0x20 N w4 w5 (fun p => p)
theorem tot45x0x20 (w4 : Int) (w5 : Bool) (k0 : Int → R) : F45x0x20 N w4 w5 k0 = k0 (V45x0x20 N w4 w5) := by
 unfold V45x0x20 F45x0x20
 repeat' (first | rfl | apply cond_k | (apply bnd_k; intro _))
noncomputable def sh45x0x20 : Sh := { tmps := [(0, .c (.p 0 0)), (3, .c (.p 4 0)), (5, .c (.b)), (6, .c (.b)), (7, .c (.i .i64)), (8, .c (.i .i64)), (9, .c (.i .i64)), (19, .c (.b))], mem := [(0, .dat 93), (4, .box ([.i .i64, .i .i64, .i .i64, .sl 44, .sl 5]))] }
noncomputable def K45x0x20w0 (L : List Lf) (p : Int) : Ex × St := (.normal, mg (ofSh sh45x0x20 L) [0, 3, 5, 6, 7, 8, 9] [(9, .c (.i .i64 p))] [0, 4] [])
noncomputable def A45x0x20 (L : List Lf) : List (Bool × (Ex × St)) := bnd (F45x0x20 N (li L 4) (lb L 5) (fun p => p)) fun q => [(true, K45x0x20w0 L q)]
theorem raw45x0x20 (L : List Lf) : pc Try.prog (T71x0 N) (h45x0s1 N).h 1 100 45 20 sh45x0x20 L [0, 3, 5, 6, 7, 8, 9] [0, 4] = F45x0x20 N (li L 4) (lb L 5) (fun p => some (K45x0x20w0 L p)) := by kernel_rfl
noncomputable def h45x0s2 : Sg Try.prog 1 45 :=
 (h45x0s1 N).cut (A45x0x20 N) progOk (T71x0_ok N) fun L x hx => (raw45x0x20 N L).trans ((tot45x0x20 N ..).trans (alt0 _ _ hx))
noncomputable def F45x0x28 (w2 w3 w7 w8 : Int) (k0 : Bool → R) : R :=
 bnd (V35x0 N w7 0 w2) fun y0 =>
 bif (!y0) then
  k0 true
 else
  bnd (V35x0 N w8 0 w3) fun y1 =>
  k0 (!y1)
noncomputable def V45x0x28 (w2 w3 w7 w8 : Int) : Bool := F45x0x28 N w2 w3 w7 w8 (fun p => p)
theorem tot45x0x28 (w2 w3 w7 w8 : Int) (k0 : Bool → R) : F45x0x28 N w2 w3 w7 w8 k0 = k0 (V45x0x28 N w2 w3 w7 w8) := by
 unfold V45x0x28 F45x0x28
 repeat' (first | rfl | apply cond_k | (apply bnd_k; intro _))
noncomputable def J45x0x28 (L : List Lf) (k0 : Bool → R) : R := F45x0x28 N (li L 2) (li L 3) (li L 7) (li L 8) k0
noncomputable def sh45x0x28 : Sh := { tmps := [(0, .c (.p 0 0)), (3, .c (.p 4 0)), (5, .c (.b)), (6, .c (.b)), (7, .c (.i .i64)), (8, .c (.i .i64)), (9, .c (.i .i64))], mem := [(0, .dat 93), (4, .box ([.i .i64, .i .i64, .i .i64, .sl 44, .sl 5]))] }
noncomputable def K45x0x28w0 (L : List Lf) (p : Bool) : Ex × St := (.normal, mg (ofSh sh45x0x28 L) [0, 3, 5, 6, 9, 25] [(25, .c (.b p))] [0, 4] [])
noncomputable def A45x0x28 (L : List Lf) : List (Bool × (Ex × St)) := bnd (J45x0x28 N L (fun p => p)) fun q => [(true, K45x0x28w0 L q)]
theorem raw45x0x28 (L : List Lf) : pc Try.prog (T71x0 N) (h45x0s2 N).h 1 100 45 28 sh45x0x28 L [0, 3, 5, 6, 9, 25] [0, 4] = J45x0x28 N L (fun p => some (K45x0x28w0 L p)) := by kernel_rfl
noncomputable def h45x0s3 : Sg Try.prog 1 45 :=
 (h45x0s2 N).cut (A45x0x28 N) progOk (T71x0_ok N) fun L x hx => (raw45x0x28 N L).trans ((tot45x0x28 N ..).trans (alt0 _ _ hx))
noncomputable def F45x0x62 (N : Nat) (w0 : Int) (w1 : Bool) (k0 : Int → R) : R :=
 bif w1 then
  k0 (IntKind.wrap .i64 (w0 - 4))
 else
  k0 w0
noncomputable def V45x0x62 (w0 : Int) (w1 : Bool) : Int := F45x0x62 N w0 w1 (fun p => p)
theorem tot45x0x62 (w0 : Int) (w1 : Bool) (k0 : Int → R) : F45x0x62 N w0 w1 k0 = k0 (V45x0x62 N w0 w1) := by
 unfold V45x0x62 F45x0x62
 repeat' (first | rfl | apply cond_k | (apply bnd_k; intro _))
noncomputable def sh45x0x62 : Sh := { tmps := [(3, .c (.p 4 0)), (11, .c (.i .i64)), (87, .c (.b))], mem := [(0, .dat 93), (4, .box ([.i .i64, .i .i64, .i .i64, .sl 44, .sl 5]))] }
noncomputable def K45x0x62w0 (L : List Lf) (p : Int) : Ex × St := (.normal, mg (ofSh sh45x0x62 L) [3, 11] [(11, .c (.i .i64 p))] [0, 4] [])
noncomputable def A45x0x62 (L : List Lf) : List (Bool × (Ex × St)) := bnd (F45x0x62 N (li L 0) (lb L 1) (fun p => p)) fun q => [(true, K45x0x62w0 L q)]
theorem raw45x0x62 (L : List Lf) : pc Try.prog (T71x0 N) (h45x0s3 N).h 1 100 45 62 sh45x0x62 L [3, 11] [0, 4] = F45x0x62 N (li L 0) (lb L 1) (fun p => some (K45x0x62w0 L p)) := by kernel_rfl
noncomputable def h45x0s4 : Sg Try.prog 1 45 :=
 (h45x0s3 N).cut (A45x0x62 N) progOk (T71x0_ok N) fun L x hx => (raw45x0x62 N L).trans ((tot45x0x62 N ..).trans (alt0 _ _ hx))
noncomputable def F45x0 (v0 v1 v2 : Int) (v4 v6 : LD) (v7 : D) (k0 : Int → Option R) : Option R :=
 bnd (V45x0x14 N 15 0 (v0 == 3)) fun y0 =>
 bnd (V45x0x20 N 0 (v0 == 1)) fun y1 =>
 bnd (V35x0 N v0 1 3) fun y2 =>
 bif (!y2) then
  k0 7
 else
  bnd (V45x0x28 N y0.1 y0.2 v1 v2) fun y3 =>
  bif y3 then
   k0 9
  else
   bnd (bif ((v4.length : Int) != y1) then true else (bif (v0 == 1) then (decide ((v6.length : Int) > 0)) else false)) fun y4 =>
   bif y4 then
    k0 2
   else
    bif (v0 == 1) then
     bif (inB 0 v4.length) then
      bnd (G71x0 N ((v4.getD 0 (.i 0)).cell 1).toI ((v4.getD 0 (.i 0)).cell 2).items) fun y5 =>
      bif y5.isSome then
       k0 (y5.getD default)
      else
       none
     else
      none
    else
     bif (inB v1 16) then
      bnd (bif (!(v7.cell (0 + (v1.toNat * 6))).toB) then true else (bif (v0 == 3) then (bif (decide ((v7.cell (5 + (v1.toNat * 6))).toI < 0)) then true else (decide ((v7.cell 96).toI < 0))) else false)) fun y6 =>
      bif y6 then
       k0 11
      else
       bnd (V45x0x62 N (v7.cell (4 + (v1.toNat * 6))).toI (v0 == 3)) fun y7 =>
       bif ((v6.length : Int) != y7) then
        k0 2
       else
        k0 0
     else
      none
noncomputable def G45x0 (v0 v1 v2 : Int) (v4 v6 : LD) (v7 : D) : Option (Int) := F45x0 N v0 v1 v2 v4 v6 v7 (fun p => some p)
theorem bind45x0 (v0 v1 v2 : Int) (v4 v6 : LD) (v7 : D) (k0 : Int → Option R) : F45x0 N v0 v1 v2 v4 v6 v7 k0 = (G45x0 N v0 v1 v2 v4 v6 v7).bind k0 := by
 unfold G45x0 F45x0
 repeat' (first | with_reducible apply cond_b | (with_reducible apply bnd_b; intro _) | rfl)
noncomputable def J45x0 (L : List Lf) (k0 : Int → Option R) : Option R := F45x0 N (li L 0) (li L 1) (li L 2) (ll L 4) (ll L 6) (ld L 7) k0
noncomputable def sh45x0 : Sh := { tmps := [(0, .c (.p 0 0)), (1, .g ([.i .i64, .i .i64, .i .i64, .sl 44, .sl 5]))], mem := [(0, .dat 93)] }
noncomputable def A45x0 (L : List Lf) : List (Bool × Res) := bnd (J45x0 N L (fun p => some p)) fun q => [(q.isSome, ([.c (.i .i64 (q.getD default))], [(0, .dat 93 (ld L 7))]))]
theorem raw45x0 (L : List Lf) : bd Try.prog (T71x0 N) (h45x0s4 N).h 45 sh45x0 L = J45x0 N L (fun p => some ([.c (.i .i64 p)], [(0, .dat 93 (ld L 7))])) := by kernel_rfl
theorem ok45x0 : FnOk Try.prog 45 sh45x0 (A45x0 N) :=
 (h45x0s4 N).fn progOk (T71x0_ok N) fun L x hx => ((raw45x0 N L).trans ((bind45x0 N ..).trans (alt1 x hx)))
noncomputable def T45x0 : Oracle := ext 45 (spSh sh45x0 (A45x0 N)) (T71x0 N)
theorem T45x0_ok : OracleOk Try.prog (T45x0 N) := FnOk.to (ok45x0 N) (T71x0_ok N)
noncomputable def rg61x0 : List (Nat × List Nat) := [(0, [0]), (1, [1, 2]), (2, [1, 3, 2]), (3, [11, 10, 9, 3, 2]), (4, [9, 11, 3, 10, 2]), (5, [5, 3, 11, 10, 9, 2]), (6, [3, 5, 11, 10, 9, 2]), (7, [3, 5, 11, 10, 9, 2]), (8, [11, 10, 9, 3, 2]), (9, [3, 2])]
noncomputable def hd61x0 : Hints := [(9, [2, 3, 9, 10, 11], [2, 3], []), (20, [2, 3, 5, 9, 10, 11, 32], [2, 3, 5], [])]
noncomputable def h61x0s0 (N : Nat) : Sg Try.prog 0 61 := .start hd61x0 rg61x0
noncomputable def F61x0x20 (N : Nat) (w4 : Bool) (w17 w18 : Int) (k0 : Int → R) : R :=
 bif w4 then
  k0 w17
 else
  k0 w18
noncomputable def V61x0x20 (w4 : Bool) (w17 w18 : Int) : Int := F61x0x20 N w4 w17 w18 (fun p => p)
theorem tot61x0x20 (w4 : Bool) (w17 w18 : Int) (k0 : Int → R) : F61x0x20 N w4 w17 w18 k0 = k0 (V61x0x20 N w4 w17 w18) := by
 unfold V61x0x20 F61x0x20
 repeat' (first | rfl | apply cond_k | (apply bnd_k; intro _))
noncomputable def sh61x0x20 : Sh := { tmps := [(2, .c (.p 2 0)), (3, .c (.p 3 0)), (5, .c (.p 5 0)), (9, .c (.sl 61)), (10, .c (.i .i64)), (11, .c (.i .i64)), (32, .c (.b))], mem := [(2, .box (.b :: [.b, .i .i64, .sl 61, .i .i64, .i .i64])), (3, .box (.b :: [.b, .i .i64, .sl 61, .i .i64, .i .i64])), (5, .box ([.i .i64, .i .i64, .i .i64]))] }
noncomputable def K61x0x20w0 (L : List Lf) (p : Int) : Ex × St := (.normal, mg (ofSh sh61x0x20 L) [2, 3, 5, 9, 10, 11] [] [2, 3, 5] [(3, .box [.b (lb L 12), .b (lb L 13), .i .i64 (li L 14), .sl 61 (lb L 15) (ll L 16), .i .i64 (li L 17), .i .i64 p])])
noncomputable def A61x0x20 (L : List Lf) : List (Bool × (Ex × St)) := bnd (F61x0x20 N (lb L 4) (li L 17) (li L 18) (fun p => p)) fun q => [(true, K61x0x20w0 L q)]
theorem raw61x0x20 (L : List Lf) : pc Try.prog (T45x0 N) (h61x0s0 N).h 0 100 61 20 sh61x0x20 L [2, 3, 5, 9, 10, 11] [2, 3, 5] = F61x0x20 N (lb L 4) (li L 17) (li L 18) (fun p => some (K61x0x20w0 L p)) := by kernel_rfl
noncomputable def h61x0s1 : Sg Try.prog 0 61 :=
 (h61x0s0 N).cut (A61x0x20 N) progOk (T45x0_ok N) fun L x hx => (raw61x0x20 N L).trans ((tot61x0x20 N ..).trans (alt0 _ _ hx))
noncomputable def S61x0x9 (w1 : LD) (w2 : Int) (w3 w16 w17 : Int) (kr : Int → Int → Int → Option R) (k0 : Int × Int → Option R) : Option R :=
 bif (decide (w3 < w2)) then
  bif (inB w3 w1.length) then
   bnd (bif (((w1.getD w3.toNat (.i 0)).cell 0).toI == 253) then (((w1.getD w3.toNat (.i 0)).cell 2).toI == 0) else false) fun y0 =>
   bnd (bif y0 then (((w1.getD w3.toNat (.i 0)).cell 1).toI == 4) else false) fun y1 =>
   bnd (V61x0x20 N (bif y1 then (decide (w17 < 0)) else false) w16 w17) fun y2 =>
   bnd (IntKind.wrap .i64 (w16 + ((w1.getD w3.toNat (.i 0)).cell 1).toI)) fun y3 =>
   kr (IntKind.wrap .i64 (w3 + 1)) y3 y2
  else
   none
 else
  k0 (w16, w17)
noncomputable def L61x0x9 (N : Nat) {R : Type} (w1 : LD) (w2 : Int) : Nat → Int → Int → Int → (Int × Int → Option R) → Option R
 | 0, _, _, _, _ => none
 | m + 1, w3, w16, w17, k0 => S61x0x9 N w1 w2 w3 w16 w17 (fun w3 w16 w17 => L61x0x9 N w1 w2 m w3 w16 w17 k0) k0
noncomputable def G61x0x9 (w1 : LD) (w2 : Int) (w3 w16 w17 : Int) : Option (Int × Int) := L61x0x9 N (R := (Int × Int)) w1 w2 N w3 w16 w17 (fun p => some p)
noncomputable def J61x0x9 (L x : List Lf) (kr : List Lf → Option R) (k0 : Int × Int → Option R) : Option R := S61x0x9 N (ll L 1) (li L 2) (li x 0) (li x 1) (li x 2) (fun w3 w16 w17 => kr [.i w3, .i w16, .i w17]) k0
theorem sb61x0x9 (L x : List Lf) (kr : List Lf → Option R) (k0 : Int × Int → Option R) : J61x0x9 N L x kr k0 = (J61x0x9 N L x (fun y => some (.inl y)) (fun p => some (.inr p))).bind (sumE kr k0) := by
 unfold J61x0x9 S61x0x9
 repeat' (first | with_reducible apply cond_b | (with_reducible apply bnd_b; intro _) | rfl)
noncomputable def Q61x0x9 (L : List Lf) (m : Nat) (x : List Lf) : Option (Int × Int) := L61x0x9 N (R := (Int × Int)) (ll L 1) (li L 2) m (li x 0) (li x 1) (li x 2) (fun p => some p)
noncomputable def sh61x0x9 : Sh := { tmps := [(2, .c (.p 2 0)), (3, .c (.p 3 0)), (9, .c (.sl 61)), (10, .c (.i .i64)), (11, .c (.i .i64))], mem := [(2, .box (.b :: [.b, .i .i64, .sl 61, .i .i64, .i .i64])), (3, .box (.b :: [.b, .i .i64, .sl 61, .i .i64, .i .i64]))] }
noncomputable def K61x0x9w0 (L : List Lf) (p : Int × Int) : Ex × St := ((.exit 0), mg (ofSh sh61x0x9 L) [2, 3] [] [2, 3] [(3, .box [.b (lb L 11), .b (lb L 12), .i .i64 (li L 13), .sl 61 (lb L 14) (ll L 15), .i .i64 p.1, .i .i64 p.2])])
noncomputable def A61x0x9 (L : List Lf) : List (Bool × (Ex × St)) := bnd (Q61x0x9 N L N (pk sh61x0x9 [3, 16, 17] L)) fun q => [(q.isSome, K61x0x9w0 L (q.getD default))]
theorem step61x0x9 (m : Nat) (kn : St → Option (Ex × St)) (L x : List Lf) : lpB Try.prog (T45x0 N) (h61x0s1 N).h 0 61 9 sh61x0x9 [3, 16, 17] [2, 3] [2, 3] (m + 100) kn L x = J61x0x9 N L x (fun y => kn (ofSh sh61x0x9 (mx sh61x0x9 [3, 16, 17] L y))) (fun p => some (K61x0x9w0 L p)) := by kernel_rfl
theorem ql61x0x9 (L : List Lf) (m : Nat) (x : List Lf) : Q61x0x9 N L (m + 1) x = J61x0x9 N L x (Q61x0x9 N L m) some := by kernel_rfl
noncomputable def h61x0s2 : Sg Try.prog 0 61 :=
 (h61x0s1 N).lp (A61x0x9 N) N progOk (T45x0_ok N) (fun m kn L x => (step61x0x9 N m kn L x).trans (sb61x0x9 N L x _ _)) (fun L m x => (ql61x0x9 N L m x).trans (sb61x0x9 N L x (Q61x0x9 N L m) some)) fun L x hx => alt1 x hx
noncomputable def F61x0 (v3 : LD) (k0 : Int × Int → Option R) : Option R :=
 bnd (G61x0x9 N v3 (v3.length : Int) 0 0 (-1)) fun y0 =>
 bif y0.isSome then
  k0 (y0.getD default)
 else
  none
noncomputable def G61x0 (v3 : LD) : Option (Int × Int) := F61x0 N v3 (fun p => some p)
theorem bind61x0 (v3 : LD) (k0 : Int × Int → Option R) : F61x0 N v3 k0 = (G61x0 N v3).bind k0 := by
 unfold G61x0 F61x0
 repeat' (first | with_reducible apply cond_b | (with_reducible apply bnd_b; intro _) | rfl)
noncomputable def sh61x0 : Sh := { tmps := [(0, .g ([.b, .i .i64, .sl 61]))], mem := [] }
noncomputable def K61x0w0 (L : List Lf) (p : Int × Int) : Res := ([.g [.b true, .b (lb L 0), .i .i64 (li L 1), .sl 61 (lb L 2) (ll L 3), .i .i64 p.1, .i .i64 p.2]], [])
noncomputable def A61x0 (L : List Lf) : List (Bool × Res) := bnd (F61x0 N (ll L 3) (fun p => some p)) fun q => [(q.isSome, K61x0w0 L (q.getD default))]
theorem raw61x0 (L : List Lf) : bd Try.prog (T45x0 N) (h61x0s2 N).h 61 sh61x0 L = F61x0 N (ll L 3) (fun p => some (K61x0w0 L p)) := by kernel_rfl
theorem ok61x0 : FnOk Try.prog 61 sh61x0 (A61x0 N) :=
 (h61x0s2 N).fn progOk (T45x0_ok N) fun L x hx => ((raw61x0 N L).trans ((bind61x0 N ..).trans (alt1 x hx)))
noncomputable def T61x0 : Oracle := ext 61 (spSh sh61x0 (A61x0 N)) (T45x0 N)
theorem T61x0_ok : OracleOk Try.prog (T61x0 N) := FnOk.to (ok61x0 N) (T45x0_ok N)
noncomputable def rg62x0 : List (Nat × List Nat) := [(0, [0, 1]), (1, [0, 1]), (2, [0, 1, 5]), (3, [10, 9, 0, 1, 5]), (4, [10, 0, 1, 5, 9]), (5, [0, 6, 1, 5, 10, 9]), (6, [1, 6, 5, 0, 10, 9, 7]), (7, [6, 5, 0, 10, 9, 1]), (8, [5, 0, 7, 10, 9, 1]), (9, [10, 9, 0, 1, 5]), (10, [5])]
noncomputable def hd62x0 : Hints := [(9, [0, 1, 5, 9, 10], [], []), (23, [0, 1, 5, 6, 7, 9, 10, 18], [], [])]
noncomputable def h62x0s0 (N : Nat) : Sg Try.prog 0 62 := .start hd62x0 rg62x0
noncomputable def F62x0x23 (N : Nat) (w4 w5 : Int) (w8 : Bool) (k0 : Int → R) : R :=
 bif w8 then
  k0 w4
 else
  k0 w5
noncomputable def V62x0x23 (w4 w5 : Int) (w8 : Bool) : Int := F62x0x23 N w4 w5 w8 (fun p => p)
theorem tot62x0x23 (w4 w5 : Int) (w8 : Bool) (k0 : Int → R) : F62x0x23 N w4 w5 w8 k0 = k0 (V62x0x23 N w4 w5 w8) := by
 unfold V62x0x23 F62x0x23
 repeat' (first | rfl | apply cond_k | (apply bnd_k; intro _))
noncomputable def sh62x0x23 : Sh := { tmps := [(0, .c (.sl 5)), (1, .c (.b)), (5, .c (.i .i64)), (6, .c (.i .i64)), (7, .c (.i .i64)), (9, .c (.i .i64)), (10, .c (.i .i64)), (18, .c (.b))], mem := [] }
noncomputable def K62x0x23w0 (L : List Lf) (p : Int) : Ex × St := (.normal, mg (ofSh sh62x0x23 L) [0, 1, 5, 7, 9, 10] [(7, .c (.i .i64 p))] [] [])
noncomputable def A62x0x23 (L : List Lf) : List (Bool × (Ex × St)) := bnd (F62x0x23 N (li L 4) (li L 5) (lb L 8) (fun p => p)) fun q => [(true, K62x0x23w0 L q)]
theorem raw62x0x23 (L : List Lf) : pc Try.prog (T61x0 N) (h62x0s0 N).h 0 100 62 23 sh62x0x23 L [0, 1, 5, 7, 9, 10] [] = F62x0x23 N (li L 4) (li L 5) (lb L 8) (fun p => some (K62x0x23w0 L p)) := by kernel_rfl
noncomputable def h62x0s1 : Sg Try.prog 0 62 :=
 (h62x0s0 N).cut (A62x0x23 N) progOk (T61x0_ok N) fun L x hx => (raw62x0x23 N L).trans ((tot62x0x23 N ..).trans (alt0 _ _ hx))
noncomputable def S62x0x9 (w1 : LD) (w2 : Bool) (w4 : Int) (w3 w5 : Int) (kr : Int → Int → Option R) (k0 : Int → Option R) : Option R :=
 bif (decide (w5 < w4)) then
  bnd (IntKind.wrap .i64 ((IntKind.wrap .i64 ((w1.length : Int) - 1)) - w5)) fun y0 =>
  bnd (V62x0x23 N w5 y0 w2) fun y1 =>
  bif (inB y1 w1.length) then
   bnd ((bitsV .or .i64 (IntKind.wrap .i64 (w3 * 2 ^ 8)) (IntKind.wrap .i64 (w1.getD y1.toNat (.i 0)).toI)).getD 0) fun y2 =>
   kr y2 (IntKind.wrap .i64 (w5 + 1))
  else
   none
 else
  k0 w3
noncomputable def L62x0x9 (N : Nat) {R : Type} (w1 : LD) (w2 : Bool) (w4 : Int) : Nat → Int → Int → (Int → Option R) → Option R
 | 0, _, _, _ => none
 | m + 1, w3, w5, k0 => S62x0x9 N w1 w2 w4 w3 w5 (fun w3 w5 => L62x0x9 N w1 w2 w4 m w3 w5 k0) k0
noncomputable def G62x0x9 (w1 : LD) (w2 : Bool) (w4 : Int) (w3 w5 : Int) : Option (Int) := L62x0x9 N (R := (Int)) w1 w2 w4 N w3 w5 (fun p => some p)
noncomputable def J62x0x9 (L x : List Lf) (kr : List Lf → Option R) (k0 : Int → Option R) : Option R := S62x0x9 N (ll L 1) (lb L 2) (li L 4) (li x 0) (li x 1) (fun w3 w5 => kr [.i w3, .i w5]) k0
theorem sb62x0x9 (L x : List Lf) (kr : List Lf → Option R) (k0 : Int → Option R) : J62x0x9 N L x kr k0 = (J62x0x9 N L x (fun y => some (.inl y)) (fun p => some (.inr p))).bind (sumE kr k0) := by
 unfold J62x0x9 S62x0x9
 repeat' (first | with_reducible apply cond_b | (with_reducible apply bnd_b; intro _) | rfl)
noncomputable def Q62x0x9 (L : List Lf) (m : Nat) (x : List Lf) : Option (Int) := L62x0x9 N (R := (Int)) (ll L 1) (lb L 2) (li L 4) m (li x 0) (li x 1) (fun p => some p)
noncomputable def sh62x0x9 : Sh := { tmps := [(0, .c (.sl 5)), (1, .c (.b)), (5, .c (.i .i64)), (9, .c (.i .i64)), (10, .c (.i .i64))], mem := [] }
noncomputable def A62x0x9 (L : List Lf) : List (Bool × (Ex × St)) := bnd (Q62x0x9 N L N (pk sh62x0x9 [3, 5] L)) fun q => [(q.isSome, ((.exit 0), ⟨[(5, .c (.i .i64 (q.getD default)))], []⟩))]
theorem step62x0x9 (m : Nat) (kn : St → Option (Ex × St)) (L x : List Lf) : lpB Try.prog (T61x0 N) (h62x0s1 N).h 0 62 9 sh62x0x9 [3, 5] [4, 5] [] (m + 100) kn L x = J62x0x9 N L x (fun y => kn (ofSh sh62x0x9 (mx sh62x0x9 [3, 5] L y))) (fun p => some ((.exit 0), ⟨[(5, .c (.i .i64 p))], []⟩)) := by kernel_rfl
theorem ql62x0x9 (L : List Lf) (m : Nat) (x : List Lf) : Q62x0x9 N L (m + 1) x = J62x0x9 N L x (Q62x0x9 N L m) some := by kernel_rfl
noncomputable def h62x0s2 : Sg Try.prog 0 62 :=
 (h62x0s1 N).lp (A62x0x9 N) N progOk (T61x0_ok N) (fun m kn L x => (step62x0x9 N m kn L x).trans (sb62x0x9 N L x _ _)) (fun L m x => (ql62x0x9 N L m x).trans (sb62x0x9 N L x (Q62x0x9 N L m) some)) fun L x hx => alt1 x hx
noncomputable def F62x0 (v1 : LD) (v2 : Bool) (k0 : Int → Option R) : Option R :=
 bnd (G62x0x9 N v1 v2 (v1.length : Int) 0 0) fun y0 =>
 bif y0.isSome then
  k0 (y0.getD default)
 else
  none
noncomputable def G62x0 (v1 : LD) (v2 : Bool) : Option (Int) := F62x0 N v1 v2 (fun p => some p)
theorem bind62x0 (v1 : LD) (v2 : Bool) (k0 : Int → Option R) : F62x0 N v1 v2 k0 = (G62x0 N v1 v2).bind k0 := by
 unfold G62x0 F62x0
 repeat' (first | with_reducible apply cond_b | (with_reducible apply bnd_b; intro _) | rfl)
noncomputable def sh62x0 : Sh := { tmps := [(0, .c (.sl 5)), (1, .c (.b))], mem := [] }
noncomputable def A62x0 (L : List Lf) : List (Bool × Res) := bnd (F62x0 N (ll L 1) (lb L 2) (fun p => some p)) fun q => [(q.isSome, ([.c (.i .i64 (q.getD default))], []))]
theorem raw62x0 (L : List Lf) : bd Try.prog (T61x0 N) (h62x0s2 N).h 62 sh62x0 L = F62x0 N (ll L 1) (lb L 2) (fun p => some ([.c (.i .i64 p)], [])) := by kernel_rfl
theorem ok62x0 : FnOk Try.prog 62 sh62x0 (A62x0 N) :=
 (h62x0s2 N).fn progOk (T61x0_ok N) fun L x hx => ((raw62x0 N L).trans ((bind62x0 N ..).trans (alt1 x hx)))
noncomputable def T62x0 : Oracle := ext 62 (spSh sh62x0 (A62x0 N)) (T61x0 N)
theorem T62x0_ok : OracleOk Try.prog (T62x0 N) := FnOk.to (ok62x0 N) (T61x0_ok N)
noncomputable def rg41x0 : List (Nat × List Nat) := [(0, [1, 0]), (1, [1, 0]), (2, [0]), (3, [0])]
noncomputable def hd41x0 : Hints := []
noncomputable def h41x0s0 (N : Nat) : Sg Try.prog 0 41 := .start hd41x0 rg41x0
noncomputable def F41x0 (N : Nat) (v0 : Int) (v1 : Bool) (k0 : Int → Option R) : Option R :=
 bif v1 then
  bif (decide (0 ≤ (IntKind.wrap .i64 ((IntKind.wrap .i64 (8 * v0)) - 1)))) then
   bnd (IntKind.wrap .i64 (1 * 2 ^ (min (IntKind.wrap .i64 ((IntKind.wrap .i64 (8 * v0)) - 1)).toNat 64))) fun y0 =>
   k0 (IntKind.wrap .i64 (y0 - 1))
  else
   none
 else
  bif (decide (0 ≤ (IntKind.wrap .i64 (8 * v0)))) then
   bnd (IntKind.wrap .i64 (1 * 2 ^ (min (IntKind.wrap .i64 (8 * v0)).toNat 64))) fun y1 =>
   k0 (IntKind.wrap .i64 (y1 - 1))
  else
   none
noncomputable def G41x0 (v0 : Int) (v1 : Bool) : Option (Int) := F41x0 N v0 v1 (fun p => some p)
theorem bind41x0 (v0 : Int) (v1 : Bool) (k0 : Int → Option R) : F41x0 N v0 v1 k0 = (G41x0 N v0 v1).bind k0 := by
 unfold G41x0 F41x0
 repeat' (first | with_reducible apply cond_b | (with_reducible apply bnd_b; intro _) | rfl)
noncomputable def sh41x0 : Sh := { tmps := [(0, .c (.i .i64)), (1, .c (.b))], mem := [] }
noncomputable def A41x0 (L : List Lf) : List (Bool × Res) := bnd (F41x0 N (li L 0) (lb L 1) (fun p => some p)) fun q => [(q.isSome, ([.c (.i .i64 (q.getD default))], []))]
theorem raw41x0 (L : List Lf) : bd Try.prog (T62x0 N) (h41x0s0 N).h 41 sh41x0 L = F41x0 N (li L 0) (lb L 1) (fun p => some ([.c (.i .i64 p)], [])) := by kernel_rfl
theorem ok41x0 : FnOk Try.prog 41 sh41x0 (A41x0 N) :=
 (h41x0s0 N).fn progOk (T62x0_ok N) fun L x hx => ((raw41x0 N L).trans ((bind41x0 N ..).trans (alt1 x hx)))
noncomputable def T41x0 : Oracle := ext 41 (spSh sh41x0 (A41x0 N)) (T62x0 N)
theorem T41x0_ok : OracleOk Try.prog (T41x0 N) := FnOk.to (ok41x0 N) (T62x0_ok N)
noncomputable def rg37x0 : List (Nat × List Nat) := [(0, [1, 0]), (1, [0, 3]), (2, [0, 3, 5]), (3, [3, 0, 5, 6]), (5, [3, 0, 6, 5]), (7, [6, 3, 0, 5]), (8, [3, 6, 0, 5]), (9, [7, 0, 5]), (10, [7, 0]), (6, [0, 3]), (4, [0, 3, 5]), (11, [5, 0]), (12, [0, 5]), (13, [5])]
noncomputable def hd37x0 : Hints := [(32, [0, 5, 7, 67], [0], []), (26, [0, 3, 5, 6, 49], [0, 4, 7], []), (21020, [0, 3, 5, 6, 30], [0, 4, 7], []), (15014, [0, 3, 5, 6, 15], [0, 4, 7], []), (38, [0, 5, 70], [0], [])]
noncomputable def h37x0s0 (N : Nat) : Sg Try.prog 1 37 := .start hd37x0 rg37x0
noncomputable def F37x0x32 (N : Nat) (w0 w1 : Int) (w2 : Bool) (k0 : Int → R) : R :=
 bif w2 then
  k0 w1
 else
  k0 w0
noncomputable def V37x0x32 (w0 w1 : Int) (w2 : Bool) : Int := F37x0x32 N w0 w1 w2 (fun p => p)
theorem tot37x0x32 (w0 w1 : Int) (w2 : Bool) (k0 : Int → R) : F37x0x32 N w0 w1 w2 k0 = k0 (V37x0x32 N w0 w1 w2) := by
 unfold V37x0x32 F37x0x32
 repeat' (first | rfl | apply cond_k | (apply bnd_k; intro _))
noncomputable def sh37x0x32 : Sh := { tmps := [(0, .c (.p 0 0)), (5, .c (.i .i64)), (7, .c (.i .i64)), (67, .c (.b))], mem := [(0, .dat 93)] }
noncomputable def K37x0x32w0 (L : List Lf) (p : Int) : Ex × St := (.normal, mg (ofSh sh37x0x32 L) [0, 5] [(5, .c (.i .i64 p))] [0] [])
noncomputable def A37x0x32 (L : List Lf) : List (Bool × (Ex × St)) := bnd (F37x0x32 N (li L 0) (li L 1) (lb L 2) (fun p => p)) fun q => [(true, K37x0x32w0 L q)]
theorem raw37x0x32 (L : List Lf) : pc Try.prog (T41x0 N) (h37x0s0 N).h 1 100 37 32 sh37x0x32 L [0, 5] [0] = F37x0x32 N (li L 0) (li L 1) (lb L 2) (fun p => some (K37x0x32w0 L p)) := by kernel_rfl
noncomputable def h37x0s1 : Sg Try.prog 1 37 :=
 (h37x0s0 N).cut (A37x0x32 N) progOk (T41x0_ok N) fun L x hx => (raw37x0x32 N L).trans ((tot37x0x32 N ..).trans (alt0 _ _ hx))
noncomputable def F37x0x26 (w0 : Int) (w1 : Bool) (w9 : LD) (w11 : Bool) (w16 : Int) (k0 : Int → Option R) : Option R :=
 bif w1 then
  bif (((decide (0 ≤ w16)) && (decide (w16 ≤ (IntKind.wrap .i64 (w16 + 4))))) && (decide ((IntKind.wrap .i64 (w16 + 4)) ≤ (w9.length : Int)))) then
   bnd (((w9.take (IntKind.wrap .i64 (w16 + 4)).toNat).drop w16.toNat) : List D) fun y0 =>
   bnd (G62x0 N y0 w11) fun y1 =>
   bif y1.isSome then
    bnd (G41x0 N 4 false) fun y2 =>
    bif y2.isSome then
     bnd (V37x0x32 N w0 (y1.getD default) ((y1.getD default) != (y2.getD default))) fun y3 =>
     k0 y3
    else
     none
   else
    none
  else
   none
 else
  k0 w0
noncomputable def G37x0x26 (w0 : Int) (w1 : Bool) (w9 : LD) (w11 : Bool) (w16 : Int) : Option (Int) := F37x0x26 N w0 w1 w9 w11 w16 (fun p => some p)
theorem bind37x0x26 (w0 : Int) (w1 : Bool) (w9 : LD) (w11 : Bool) (w16 : Int) (k0 : Int → Option R) : F37x0x26 N w0 w1 w9 w11 w16 k0 = (G37x0x26 N w0 w1 w9 w11 w16).bind k0 := by
 unfold G37x0x26 F37x0x26
 repeat' (first | with_reducible apply cond_b | (with_reducible apply bnd_b; intro _) | rfl)
noncomputable def J37x0x26 (L : List Lf) (k0 : Int → Option R) : Option R := F37x0x26 N (li L 0) (lb L 1) (ll L 9) (lb L 11) (li L 16) k0
noncomputable def sh37x0x26 : Sh := { tmps := [(0, .c (.p 0 0)), (3, .c (.p 4 0)), (5, .c (.i .i64)), (6, .c (.p 7 0)), (49, .c (.b))], mem := [(0, .dat 93), (4, .box ([.i .i64, .i .i64, .i .i64, .sl 44, .sl 5])), (7, .box (.b :: [.b, .i .i64, .sl 61, .i .i64, .i .i64]))] }
noncomputable def K37x0x26w0 (L : List Lf) (p : Int) : Ex × St := (.normal, mg (ofSh sh37x0x26 L) [0, 5] [(5, .c (.i .i64 p))] [0] [])
noncomputable def A37x0x26 (L : List Lf) : List (Bool × (Ex × St)) := bnd (J37x0x26 N L (fun p => some p)) fun q => [(q.isSome, K37x0x26w0 L (q.getD default))]
theorem raw37x0x26 (L : List Lf) : pc Try.prog (T41x0 N) (h37x0s1 N).h 1 100 37 26 sh37x0x26 L [0, 5] [0] = J37x0x26 N L (fun p => some (K37x0x26w0 L p)) := by kernel_rfl
noncomputable def h37x0s2 : Sg Try.prog 1 37 :=
 (h37x0s1 N).cut (A37x0x26 N) progOk (T41x0_ok N) fun L x hx => (raw37x0x26 N L).trans ((bind37x0x26 N ..).trans (alt1 x hx))
noncomputable def F37x0x21020 (w0 : Int) (w1 : Bool) (w2 : D) (w5 : Int) (w9 : LD) (w11 : Bool) (w16 : Int) (k0 : Int → Option R) : Option R :=
 bif w1 then
  bnd (IntKind.wrap .i64 ((IntKind.wrap .i64 (w5 - ((w2.cell 96).toI.tmod 32))) + 32)) fun y0 =>
  k0 (IntKind.wrap .i64 ((w2.cell 96).toI + (y0.tmod 32)))
 else
  bnd (G37x0x26 N w0 (decide (w16 ≥ 0)) w9 w11 w16) fun y1 =>
  bif y1.isSome then
   k0 (y1.getD default)
  else
   none
noncomputable def G37x0x21020 (w0 : Int) (w1 : Bool) (w2 : D) (w5 : Int) (w9 : LD) (w11 : Bool) (w16 : Int) : Option (Int) := F37x0x21020 N w0 w1 w2 w5 w9 w11 w16 (fun p => some p)
theorem bind37x0x21020 (w0 : Int) (w1 : Bool) (w2 : D) (w5 : Int) (w9 : LD) (w11 : Bool) (w16 : Int) (k0 : Int → Option R) : F37x0x21020 N w0 w1 w2 w5 w9 w11 w16 k0 = (G37x0x21020 N w0 w1 w2 w5 w9 w11 w16).bind k0 := by
 unfold G37x0x21020 F37x0x21020
 repeat' (first | with_reducible apply cond_b | (with_reducible apply bnd_b; intro _) | rfl)
noncomputable def J37x0x21020 (L : List Lf) (k0 : Int → Option R) : Option R := F37x0x21020 N (li L 0) (lb L 1) (ld L 2) (li L 5) (ll L 9) (lb L 11) (li L 16) k0
noncomputable def sh37x0x21020 : Sh := { tmps := [(0, .c (.p 0 0)), (3, .c (.p 4 0)), (5, .c (.i .i64)), (6, .c (.p 7 0)), (30, .c (.b))], mem := [(0, .dat 93), (4, .box ([.i .i64, .i .i64, .i .i64, .sl 44, .sl 5])), (7, .box (.b :: [.b, .i .i64, .sl 61, .i .i64, .i .i64]))] }
noncomputable def K37x0x21020w0 (L : List Lf) (p : Int) : Ex × St := (.normal, mg (ofSh sh37x0x21020 L) [0, 5] [(5, .c (.i .i64 p))] [0] [])
noncomputable def A37x0x21020 (L : List Lf) : List (Bool × (Ex × St)) := bnd (J37x0x21020 N L (fun p => some p)) fun q => [(q.isSome, K37x0x21020w0 L (q.getD default))]
theorem raw37x0x21020 (L : List Lf) : pc Try.prog (T41x0 N) (h37x0s2 N).h 1 100 37 21020 sh37x0x21020 L [0, 5] [0] = J37x0x21020 N L (fun p => some (K37x0x21020w0 L p)) := by kernel_rfl
noncomputable def h37x0s3 : Sg Try.prog 1 37 :=
 (h37x0s2 N).cut (A37x0x21020 N) progOk (T41x0_ok N) fun L x hx => (raw37x0x21020 N L).trans ((bind37x0x21020 N ..).trans (alt1 x hx))
noncomputable def F37x0x15014 (w0 : Int) (w1 : Bool) (w2 : D) (w3 w4 w5 : Int) (w7 w9 : LD) (w11 : Bool) (w16 : Int) (k0 : Int × D → Option R) : Option R :=
 bif w1 then
  bif (inB 0 w7.length) then
   bnd (G61x0 N ((w7.getD 0 (.i 0)).cell 2).items) fun y0 =>
   bif y0.isSome then
    bif (inB w4 16) then
     bnd (((((((w2.put (0 + (w4.toNat * 6)) (.b true)).put (1 + (w4.toNat * 6)) (.b ((w7.getD 0 (.i 0)).cell 0).toB)).put (2 + (w4.toNat * 6)) (.i ((w7.getD 0 (.i 0)).cell 1).toI)).put (3 + (w4.toNat * 6)) (.l ((w7.getD 0 (.i 0)).cell 2).isNil ((w7.getD 0 (.i 0)).cell 2).items)).put (4 + (w4.toNat * 6)) (.i (y0.getD default).1)).put (5 + (w4.toNat * 6)) (.i (y0.getD default).2)) : D) fun y1 =>
     k0 (w0, y1)
    else
     none
   else
    none
  else
   none
 else
  bnd (G37x0x21020 N w0 (w3 == 3) w2 w5 w9 w11 w16) fun y2 =>
  bif y2.isSome then
   k0 ((y2.getD default), w2)
  else
   none
noncomputable def G37x0x15014 (w0 : Int) (w1 : Bool) (w2 : D) (w3 w4 w5 : Int) (w7 w9 : LD) (w11 : Bool) (w16 : Int) : Option (Int × D) := F37x0x15014 N w0 w1 w2 w3 w4 w5 w7 w9 w11 w16 (fun p => some p)
theorem bind37x0x15014 (w0 : Int) (w1 : Bool) (w2 : D) (w3 w4 w5 : Int) (w7 w9 : LD) (w11 : Bool) (w16 : Int) (k0 : Int × D → Option R) : F37x0x15014 N w0 w1 w2 w3 w4 w5 w7 w9 w11 w16 k0 = (G37x0x15014 N w0 w1 w2 w3 w4 w5 w7 w9 w11 w16).bind k0 := by
 unfold G37x0x15014 F37x0x15014
 repeat' (first | with_reducible apply cond_b | (with_reducible apply bnd_b; intro _) | rfl)
noncomputable def J37x0x15014 (L : List Lf) (k0 : Int × D → Option R) : Option R := F37x0x15014 N (li L 0) (lb L 1) (ld L 2) (li L 3) (li L 4) (li L 5) (ll L 7) (ll L 9) (lb L 11) (li L 16) k0
noncomputable def sh37x0x15014 : Sh := { tmps := [(0, .c (.p 0 0)), (3, .c (.p 4 0)), (5, .c (.i .i64)), (6, .c (.p 7 0)), (15, .c (.b))], mem := [(0, .dat 93), (4, .box ([.i .i64, .i .i64, .i .i64, .sl 44, .sl 5])), (7, .box (.b :: [.b, .i .i64, .sl 61, .i .i64, .i .i64]))] }
noncomputable def K37x0x15014w0 (L : List Lf) (p : Int × D) : Ex × St := (.normal, ⟨[(0, .c (.p 0 0)), (5, .c (.i .i64 p.1))], [(0, .dat 93 p.2)]⟩)
noncomputable def A37x0x15014 (L : List Lf) : List (Bool × (Ex × St)) := bnd (J37x0x15014 N L (fun p => some p)) fun q => [(q.isSome, K37x0x15014w0 L (q.getD default))]
theorem raw37x0x15014 (L : List Lf) : pc Try.prog (T41x0 N) (h37x0s3 N).h 1 100 37 15014 sh37x0x15014 L [0, 5] [0] = J37x0x15014 N L (fun p => some (K37x0x15014w0 L p)) := by kernel_rfl
noncomputable def h37x0s4 : Sg Try.prog 1 37 :=
 (h37x0s3 N).cut (A37x0x15014 N) progOk (T41x0_ok N) fun L x hx => (raw37x0x15014 N L).trans ((bind37x0x15014 N ..).trans (alt1 x hx))
noncomputable def F37x0x38 (N : Nat) (w0 : Int) (w1 : Bool) (w2 : D) (k0 : D → R) : R :=
 bif w1 then
  k0 (w2.put 96 (.i w0))
 else
  k0 w2
noncomputable def V37x0x38 (w0 : Int) (w1 : Bool) (w2 : D) : D := F37x0x38 N w0 w1 w2 (fun p => p)
theorem tot37x0x38 (w0 : Int) (w1 : Bool) (w2 : D) (k0 : D → R) : F37x0x38 N w0 w1 w2 k0 = k0 (V37x0x38 N w0 w1 w2) := by
 unfold V37x0x38 F37x0x38
 repeat' (first | rfl | apply cond_k | (apply bnd_k; intro _))
noncomputable def sh37x0x38 : Sh := { tmps := [(0, .c (.p 0 0)), (5, .c (.i .i64)), (70, .c (.b))], mem := [(0, .dat 93)] }
noncomputable def A37x0x38 (L : List Lf) : List (Bool × (Ex × St)) := bnd (F37x0x38 N (li L 0) (lb L 1) (ld L 2) (fun p => p)) fun q => [(true, (.normal, ⟨[(5, .c (.i .i64 (li L 0)))], [(0, .dat 93 q)]⟩))]
theorem raw37x0x38 (L : List Lf) : pc Try.prog (T41x0 N) (h37x0s4 N).h 1 100 37 38 sh37x0x38 L [5] [0] = F37x0x38 N (li L 0) (lb L 1) (ld L 2) (fun p => some (.normal, ⟨[(5, .c (.i .i64 (li L 0)))], [(0, .dat 93 p)]⟩)) := by kernel_rfl
noncomputable def h37x0s5 : Sg Try.prog 1 37 :=
 (h37x0s4 N).cut (A37x0x38 N) progOk (T41x0_ok N) fun L x hx => (raw37x0x38 N L).trans ((tot37x0x38 N ..).trans (alt0 _ _ hx))
noncomputable def F37x0 (v0 v1 v2 : Int) (v4 v6 : LD) (v7 : D) (k0 : Int × D → Option R) : Option R :=
 bif (inB v1 16) then
  bnd (G37x0x15014 N (-1) (v0 == 1) v7 v0 v1 v2 v4 v6 (v7.cell (1 + (v1.toNat * 6))).toB (v7.cell (5 + (v1.toNat * 6))).toI) fun y0 =>
  bif y0.isSome then
   bnd (V37x0x38 N (y0.getD default).1 (decide ((y0.getD default).1 ≥ 0)) (y0.getD default).2) fun y1 =>
   k0 ((y0.getD default).1, y1)
  else
   none
 else
  none
noncomputable def G37x0 (v0 v1 v2 : Int) (v4 v6 : LD) (v7 : D) : Option (Int × D) := F37x0 N v0 v1 v2 v4 v6 v7 (fun p => some p)
theorem bind37x0 (v0 v1 v2 : Int) (v4 v6 : LD) (v7 : D) (k0 : Int × D → Option R) : F37x0 N v0 v1 v2 v4 v6 v7 k0 = (G37x0 N v0 v1 v2 v4 v6 v7).bind k0 := by
 unfold G37x0 F37x0
 repeat' (first | with_reducible apply cond_b | (with_reducible apply bnd_b; intro _) | rfl)
noncomputable def J37x0 (L : List Lf) (k0 : Int × D → Option R) : Option R := F37x0 N (li L 0) (li L 1) (li L 2) (ll L 4) (ll L 6) (ld L 7) k0
noncomputable def sh37x0 : Sh := { tmps := [(0, .c (.p 0 0)), (1, .g ([.i .i64, .i .i64, .i .i64, .sl 44, .sl 5]))], mem := [(0, .dat 93)] }
noncomputable def A37x0 (L : List Lf) : List (Bool × Res) := bnd (J37x0 N L (fun p => some p)) fun q => [(q.isSome, ([.c (.i .i64 (q.getD default).1)], [(0, .dat 93 (q.getD default).2)]))]
theorem raw37x0 (L : List Lf) : bd Try.prog (T41x0 N) (h37x0s5 N).h 37 sh37x0 L = J37x0 N L (fun p => some ([.c (.i .i64 p.1)], [(0, .dat 93 p.2)])) := by kernel_rfl
theorem ok37x0 : FnOk Try.prog 37 sh37x0 (A37x0 N) :=
 (h37x0s5 N).fn progOk (T41x0_ok N) fun L x hx => ((raw37x0 N L).trans ((bind37x0 N ..).trans (alt1 x hx)))
noncomputable def T37x0 : Oracle := ext 37 (spSh sh37x0 (A37x0 N)) (T41x0 N)
theorem T37x0_ok : OracleOk Try.prog (T37x0 N) := FnOk.to (ok37x0 N) (T41x0_ok N)
noncomputable def rg23x0 : List (Nat × List Nat) := [(0, [0]), (1, [1]), (2, []), (3, [1]), (4, [1, 3]), (5, [15, 14, 13, 3]), (6, [13, 15, 3, 14]), (7, [3, 5, 15, 14, 13]), (8, [6, 3, 5, 15, 14, 13]), (9, [6]), (10, [3, 5, 15, 14, 13]), (11, [15, 14, 13, 3]), (12, [])]
noncomputable def hd23x0 : Hints := [(15, [3, 13, 14, 15], [12000000002], [])]
noncomputable def h23x0s0 (N : Nat) : Sg Try.prog 0 23 := .start hd23x0 rg23x0
noncomputable def S23x0x15 (w1 : LD) (w2 : Int) (w3 : Int) (w4 : D) (kr : Int → D → Option R) (k0 : Int → Option R) (k1 : Unit → Option R) : Option R :=
 bif (decide (w3 < w2)) then
  bif (inB w3 w1.length) then
   bnd (G45x0 N ((w1.getD w3.toNat (.i 0)).cell 0).toI ((w1.getD w3.toNat (.i 0)).cell 1).toI ((w1.getD w3.toNat (.i 0)).cell 2).toI ((w1.getD w3.toNat (.i 0)).cell 3).items ((w1.getD w3.toNat (.i 0)).cell 4).items w4) fun y0 =>
   bif y0.isSome then
    bif ((y0.getD default) != 0) then
     k0 (y0.getD default)
    else
     bnd (G37x0 N ((w1.getD w3.toNat (.i 0)).cell 0).toI ((w1.getD w3.toNat (.i 0)).cell 1).toI ((w1.getD w3.toNat (.i 0)).cell 2).toI ((w1.getD w3.toNat (.i 0)).cell 3).items ((w1.getD w3.toNat (.i 0)).cell 4).items w4) fun y1 =>
     bif y1.isSome then
      kr (IntKind.wrap .i64 (w3 + 1)) (y1.getD default).2
     else
      none
   else
    none
  else
   none
 else
  k1 ()
noncomputable def L23x0x15 (N : Nat) {R : Type} (w1 : LD) (w2 : Int) : Nat → Int → D → (Int → Option R) → (Unit → Option R) → Option R
 | 0, _, _, _, _ => none
 | m + 1, w3, w4, k0, k1 => S23x0x15 N w1 w2 w3 w4 (fun w3 w4 => L23x0x15 N w1 w2 m w3 w4 k0 k1) k0 k1
noncomputable def G23x0x15 (w1 : LD) (w2 : Int) (w3 : Int) (w4 : D) : Option (Sum (Int) (Unit)) := L23x0x15 N (R := (Sum (Int) (Unit))) w1 w2 N w3 w4 (fun p => some (.inl p)) (fun p => some (.inr p))
noncomputable def J23x0x15 (L x : List Lf) (kr : List Lf → Option R) (k0 : Int → Option R) (k1 : Unit → Option R) : Option R := S23x0x15 N (ll L 1) (li L 2) (li x 0) (ld x 1) (fun w3 w4 => kr [.i w3, .d w4]) k0 k1
theorem sb23x0x15 (L x : List Lf) (kr : List Lf → Option R) (k0 : Int → Option R) (k1 : Unit → Option R) : J23x0x15 N L x kr k0 k1 = (J23x0x15 N L x (fun y => some (.inl y)) (fun p => some (.inr (.inl p))) (fun p => some (.inr (.inr p)))).bind (sumE kr (sumE k0 k1)) := by
 unfold J23x0x15 S23x0x15
 repeat' (first | with_reducible apply cond_b | (with_reducible apply bnd_b; intro _) | rfl)
noncomputable def Q23x0x15 (L : List Lf) (m : Nat) (x : List Lf) : Option (Sum (Int) (Unit)) := L23x0x15 N (R := (Sum (Int) (Unit))) (ll L 1) (li L 2) m (li x 0) (ld x 1) (fun p => some (.inl p)) (fun p => some (.inr p))
noncomputable def sh23x0x15 : Sh := { tmps := [(3, .c (.p 12000000002 0)), (13, .c (.sl 41)), (14, .c (.i .i64)), (15, .c (.i .i64))], mem := [(12000000002, .dat 93)] }
noncomputable def A23x0x15 (L : List Lf) : List (Bool × (Ex × St)) := bnd (Q23x0x15 N L N (pk sh23x0x15 [3, 4] L)) fun q => [((inlB q), (.ret, ⟨[(2, .c (.i .i64 (inlV q)))], []⟩)), ((inrQ q).isSome, ((.exit 0), ⟨[], []⟩))]
theorem step23x0x15 (m : Nat) (kn : St → Option (Ex × St)) (L x : List Lf) : lpB Try.prog (T37x0 N) (h23x0s0 N).h 0 23 15 sh23x0x15 [3, 4] [2] [] (m + 100) kn L x = J23x0x15 N L x (fun y => kn (ofSh sh23x0x15 (mx sh23x0x15 [3, 4] L y))) (fun p => some (.ret, ⟨[(2, .c (.i .i64 p))], []⟩)) (fun _ => some ((.exit 0), ⟨[], []⟩)) := by kernel_rfl
theorem ql23x0x15 (L : List Lf) (m : Nat) (x : List Lf) : Q23x0x15 N L (m + 1) x = J23x0x15 N L x (Q23x0x15 N L m) (fun p => some (.inl p)) (fun p => some (.inr p)) := by kernel_rfl
noncomputable def h23x0s1 : Sg Try.prog 0 23 :=
 (h23x0s0 N).lp (A23x0x15 N) N progOk (T37x0_ok N) (fun m kn L x => (step23x0x15 N m kn L x).trans (sb23x0x15 N L x _ _ _)) (fun L m x => (ql23x0x15 N L m x).trans (sb23x0x15 N L x (Q23x0x15 N L m) (fun p => some (.inl p)) (fun p => some (.inr p)))) fun L x hx => (altS alt1) x hx
noncomputable def F23x0 (v1 : LD) (k0 : Int → Option R) : Option R :=
 bif (decide ((v1.length : Int) > 50000)) then
  k0 3
 else
  bnd (V36x0 N) fun y0 =>
  bnd (G23x0x15 N v1 (v1.length : Int) 0 y0) fun y1 =>
  bif (inlB y1) then
   k0 (inlV y1)
  else
   bif (inrQ y1).isSome then
    k0 0
   else
    none
noncomputable def G23x0 (v1 : LD) : Option (Int) := F23x0 N v1 (fun p => some p)
theorem bind23x0 (v1 : LD) (k0 : Int → Option R) : F23x0 N v1 k0 = (G23x0 N v1).bind k0 := by
 unfold G23x0 F23x0
 repeat' (first | with_reducible apply cond_b | (with_reducible apply bnd_b; intro _) | rfl)
noncomputable def sh23x0 : Sh := { tmps := [(0, .g ([.sl 41]))], mem := [] }
noncomputable def A23x0 (L : List Lf) : List (Bool × Res) := bnd (F23x0 N (ll L 1) (fun p => some p)) fun q => [(q.isSome, ([.c (.i .i64 (q.getD default))], []))]
theorem raw23x0 (L : List Lf) : bd Try.prog (T37x0 N) (h23x0s1 N).h 23 sh23x0 L = F23x0 N (ll L 1) (fun p => some ([.c (.i .i64 p)], [])) := by kernel_rfl
theorem ok23x0 : FnOk Try.prog 23 sh23x0 (A23x0 N) :=
 (h23x0s1 N).fn progOk (T37x0_ok N) fun L x hx => ((raw23x0 N L).trans ((bind23x0 N ..).trans (alt1 x hx)))
noncomputable def T23x0 : Oracle := ext 23 (spSh sh23x0 (A23x0 N)) (T37x0 N)
theorem T23x0_ok : OracleOk Try.prog (T23x0 N) := FnOk.to (ok23x0 N) (T37x0_ok N)
noncomputable def rg13x0 : List (Nat × List Nat) := [(0, [0, 1]), (1, [2, 4, 1]), (2, [6, 4, 1, 2]), (3, [6, 4]), (4, [1, 2, 4]), (5, [4]), (6, [2, 1, 4]), (7, [2, 1, 7, 4]), (8, [30, 29, 28, 7, 2, 1, 4]), (9, [28, 30, 7, 29, 2, 1, 4]), (10, [7, 9, 30, 29, 28, 2, 1, 4]), (11, [30, 29, 28, 7, 2, 1, 4]), (12, [2, 1, 4, 7]), (13, [4]), (14, [7, 2, 1, 4])]
noncomputable def hd13x0 : Hints := [(24, [1, 2, 4, 7, 28, 29, 30], [2, 4, 25000000002], [])]
noncomputable def h13x0s0 (N : Nat) : Sg Try.prog 0 13 := .start hd13x0 rg13x0
noncomputable def S13x0x24 (w2 : LD) (w3 : Int) (w4 : Int) (w14 : D) (kr : Int → D → Option R) (k0 : D → Option R) : Option R :=
 bif (decide (w4 < w3)) then
  bif (inB w4 w2.length) then
   bnd (G37x0 N ((w2.getD w4.toNat (.i 0)).cell 0).toI ((w2.getD w4.toNat (.i 0)).cell 1).toI ((w2.getD w4.toNat (.i 0)).cell 2).toI ((w2.getD w4.toNat (.i 0)).cell 3).items ((w2.getD w4.toNat (.i 0)).cell 4).items w14) fun y0 =>
   bif y0.isSome then
    kr (IntKind.wrap .i64 (w4 + 1)) (y0.getD default).2
   else
    none
  else
   none
 else
  k0 w14
noncomputable def L13x0x24 (N : Nat) {R : Type} (w2 : LD) (w3 : Int) : Nat → Int → D → (D → Option R) → Option R
 | 0, _, _, _ => none
 | m + 1, w4, w14, k0 => S13x0x24 N w2 w3 w4 w14 (fun w4 w14 => L13x0x24 N w2 w3 m w4 w14 k0) k0
noncomputable def G13x0x24 (w2 : LD) (w3 : Int) (w4 : Int) (w14 : D) : Option (D) := L13x0x24 N (R := (D)) w2 w3 N w4 w14 (fun p => some p)
noncomputable def J13x0x24 (L x : List Lf) (kr : List Lf → Option R) (k0 : D → Option R) : Option R := S13x0x24 N (ll L 2) (li L 3) (li x 0) (ld x 1) (fun w4 w14 => kr [.i w4, .d w14]) k0
theorem sb13x0x24 (L x : List Lf) (kr : List Lf → Option R) (k0 : D → Option R) : J13x0x24 N L x kr k0 = (J13x0x24 N L x (fun y => some (.inl y)) (fun p => some (.inr p))).bind (sumE kr k0) := by
 unfold J13x0x24 S13x0x24
 repeat' (first | with_reducible apply cond_b | (with_reducible apply bnd_b; intro _) | rfl)
noncomputable def Q13x0x24 (L : List Lf) (m : Nat) (x : List Lf) : Option (D) := L13x0x24 N (R := (D)) (ll L 2) (li L 3) m (li x 0) (ld x 1) (fun p => some p)
noncomputable def sh13x0x24 : Sh := { tmps := [(1, .c (.i .i64)), (2, .c (.p 2 0)), (4, .c (.p 4 0)), (7, .c (.p 25000000002 0)), (28, .c (.sl 41)), (29, .c (.i .i64)), (30, .c (.i .i64))], mem := [(2, .box ([.sl 41])), (4, .box (.b :: [.b, .i .i64, .sl 61, .i .i64, .i .i64])), (25000000002, .dat 93)] }
noncomputable def K13x0x24w0 (L : List Lf) (p : D) : Ex × St := ((.exit 0), mg (ofSh sh13x0x24 L) [1, 2, 4, 7] [] [2, 4, 25000000002] [(25000000002, .dat 93 p)])
noncomputable def A13x0x24 (L : List Lf) : List (Bool × (Ex × St)) := bnd (Q13x0x24 N L N (pk sh13x0x24 [4, 14] L)) fun q => [(q.isSome, K13x0x24w0 L (q.getD default))]
theorem step13x0x24 (m : Nat) (kn : St → Option (Ex × St)) (L x : List Lf) : lpB Try.prog (T23x0 N) (h13x0s0 N).h 0 13 24 sh13x0x24 [4, 14] [1, 2, 4, 5, 7] [2, 4, 25000000002] (m + 100) kn L x = J13x0x24 N L x (fun y => kn (ofSh sh13x0x24 (mx sh13x0x24 [4, 14] L y))) (fun p => some (K13x0x24w0 L p)) := by kernel_rfl
theorem ql13x0x24 (L : List Lf) (m : Nat) (x : List Lf) : Q13x0x24 N L (m + 1) x = J13x0x24 N L x (Q13x0x24 N L m) some := by kernel_rfl
noncomputable def h13x0s1 : Sg Try.prog 0 13 :=
 (h13x0s0 N).lp (A13x0x24 N) N progOk (T23x0_ok N) (fun m kn L x => (step13x0x24 N m kn L x).trans (sb13x0x24 N L x _ _)) (fun L m x => (ql13x0x24 N L m x).trans (sb13x0x24 N L x (Q13x0x24 N L m) some)) fun L x hx => alt1 x hx
noncomputable def F13x0 (v1 : LD) (v2 : Int) (k0 : Ty0 → Option R) : Option R :=
 bnd (G23x0 N v1) fun y0 =>
 bif y0.isSome then
  bif ((y0.getD default) != 0) then
   k0 (false, false, 0, true, [], 0, 0, (y0.getD default))
  else
   bnd (V35x0 N v2 0 (IntKind.wrap .i64 ((v1.length : Int) - 1))) fun y1 =>
   bif (!y1) then
    k0 (false, false, 0, true, [], 0, 0, 4)
   else
    bnd (V36x0 N) fun y2 =>
    bif ((decide (0 ≤ v2)) && (decide (v2 ≤ (v1.length : Int)))) then
     bnd (G13x0x24 N ((v1.take v2.toNat).drop 0) (((v1.take v2.toNat).drop 0).length : Int) 0 y2) fun y3 =>
     bif y3.isSome then
      bif (inB v2 v1.length) then
       bif (((v1.getD v2.toNat (.i 0)).cell 0).toI == 1) then
        k0 (false, false, 0, true, [], 0, 0, 7)
       else
        bif (inB v2 v1.length) then
         bif (inB ((v1.getD v2.toNat (.i 0)).cell 1).toI 16) then
          bnd ((y3.getD default).cell (0 + (((v1.getD v2.toNat (.i 0)).cell 1).toI.toNat * 6))).toB fun y4 =>
          bnd ((y3.getD default).cell (1 + (((v1.getD v2.toNat (.i 0)).cell 1).toI.toNat * 6))).toB fun y5 =>
          bnd ((y3.getD default).cell (2 + (((v1.getD v2.toNat (.i 0)).cell 1).toI.toNat * 6))).toI fun y6 =>
          bnd ((y3.getD default).cell (3 + (((v1.getD v2.toNat (.i 0)).cell 1).toI.toNat * 6))).isNil fun y7 =>
          bnd (((y3.getD default).cell (3 + (((v1.getD v2.toNat (.i 0)).cell 1).toI.toNat * 6))).items : List D) fun y8 =>
          bnd ((y3.getD default).cell (4 + (((v1.getD v2.toNat (.i 0)).cell 1).toI.toNat * 6))).toI fun y9 =>
          bnd ((y3.getD default).cell (5 + (((v1.getD v2.toNat (.i 0)).cell 1).toI.toNat * 6))).toI fun y10 =>
          k0 (y4, y5, y6, y7, y8, y9, y10, 0)
         else
          none
        else
         none
      else
       none
     else
      none
    else
     none
 else
  none
noncomputable def G13x0 (v1 : LD) (v2 : Int) : Option (Ty0) := F13x0 N v1 v2 (fun p => some p)
theorem bind13x0 (v1 : LD) (v2 : Int) (k0 : Ty0 → Option R) : F13x0 N v1 v2 k0 = (G13x0 N v1 v2).bind k0 := by
 unfold G13x0 F13x0
 repeat' (first | with_reducible apply cond_b | (with_reducible apply bnd_b; intro _) | rfl)
noncomputable def sh13x0 : Sh := { tmps := [(0, .g ([.sl 41])), (1, .c (.i .i64))], mem := [] }
noncomputable def K13x0w0 (L : List Lf) (p : Ty0) : Res := let p1 := p.2; let p2 := p1.2; let p3 := p2.2; let p4 := p3.2; let p5 := p4.2; let p6 := p5.2; let p7 := p6.2; ([.g [.b p.1, .b p1.1, .i .i64 p2.1, .sl 61 p3.1 p4.1, .i .i64 p5.1, .i .i64 p6.1], .c (.i .i64 p7)], [])
noncomputable def A13x0 (L : List Lf) : List (Bool × Res) := bnd (F13x0 N (ll L 1) (li L 2) (fun p => some p)) fun q => [(q.isSome, K13x0w0 L (q.getD default))]
theorem raw13x0 (L : List Lf) : bd Try.prog (T23x0 N) (h13x0s1 N).h 13 sh13x0 L = F13x0 N (ll L 1) (li L 2) (fun p => some (K13x0w0 L p)) := by kernel_rfl
theorem ok13x0 : FnOk Try.prog 13 sh13x0 (A13x0 N) :=
 (h13x0s1 N).fn progOk (T23x0_ok N) fun L x hx => ((raw13x0 N L).trans ((bind13x0 N ..).trans (alt1 x hx)))
noncomputable def T13x0 : Oracle := ext 13 (spSh sh13x0 (A13x0 N)) (T23x0 N)
theorem T13x0_ok : OracleOk Try.prog (T13x0 N) := FnOk.to (ok13x0 N) (T23x0_ok N)
noncomputable def rg18x0 : List (Nat × List Nat) := [(0, [0, 1]), (1, [2, 1]), (2, [2, 1, 5]), (3, [2, 7, 1, 5, 6]), (4, [15, 14, 13, 7, 2, 1, 5, 6]), (5, [13, 15, 7, 2, 1, 14, 5, 6]), (6, [7, 2, 9, 1, 15, 14, 13, 5, 6]), (7, [7, 9, 1, 10, 15, 14, 13, 2, 5, 6]), (8, [1, 10, 15, 14, 13, 7, 2, 5, 6, 9]), (9, [5, 9, 6, 15, 14, 13, 7, 2, 1]), (10, [6, 9, 15, 14, 13, 7, 2, 1, 5]), (11, [15, 14, 13, 7, 2, 1, 5, 6]), (12, [5])]
noncomputable def hd18x0 : Hints := [(12, [1, 2, 5, 6, 7, 13, 14, 15], [2, 5], [5])]
noncomputable def h18x0s0 (N : Nat) : Sg Try.prog 0 18 := .start hd18x0 rg18x0
noncomputable def S18x0x12 (N : Nat) (w0 : Bool) (w4 : LD) (w5 w13 : Int) (w1 w2 w6 : Int) (w14 : Bool) (w15 : LD) (kr : Int → Int → Int → Bool → LD → Option R) (k0 : Bool × LD → Option R) : Option R :=
 bif (decide (w6 < w5)) then
  bif (inB w6 w4.length) then
   bnd (IntKind.wrap .i64 (w2 + ((w4.getD w6.toNat (.i 0)).cell 1).toI)) fun y0 =>
   bif (bif w0 then (w2 == w13) else false) then
    kr w1 y0 (IntKind.wrap .i64 (w6 + 1)) w14 w15
   else
    bif (decide ((w15.length + 1) * 32 ≤ room) && decide ((w15.length + 1) ≤ strMax)) then
     bnd ((w15 ++ [(.a [(.i ((w4.getD w6.toNat (.i 0)).cell 0).toI), (.i ((w4.getD w6.toNat (.i 0)).cell 1).toI), (.i ((w4.getD w6.toNat (.i 0)).cell 2).toI), (.i w1)])]) : List D) fun y1 =>
     bnd (IntKind.wrap .i64 (w1 + ((w4.getD w6.toNat (.i 0)).cell 1).toI)) fun y2 =>
     kr y2 y0 (IntKind.wrap .i64 (w6 + 1)) false y1
    else
     none
  else
   none
 else
  k0 (w14, w15)
noncomputable def L18x0x12 (N : Nat) {R : Type} (w0 : Bool) (w4 : LD) (w5 w13 : Int) : Nat → Int → Int → Int → Bool → LD → (Bool × LD → Option R) → Option R
 | 0, _, _, _, _, _, _ => none
 | m + 1, w1, w2, w6, w14, w15, k0 => S18x0x12 N w0 w4 w5 w13 w1 w2 w6 w14 w15 (fun w1 w2 w6 w14 w15 => L18x0x12 N w0 w4 w5 w13 m w1 w2 w6 w14 w15 k0) k0
noncomputable def G18x0x12 (w0 : Bool) (w4 : LD) (w5 w13 : Int) (w1 w2 w6 : Int) (w14 : Bool) (w15 : LD) : Option (Bool × LD) := L18x0x12 N (R := (Bool × LD)) w0 w4 w5 w13 N w1 w2 w6 w14 w15 (fun p => some p)
noncomputable def J18x0x12 (L x : List Lf) (kr : List Lf → Option R) (k0 : Bool × LD → Option R) : Option R := S18x0x12 N (lb L 0) (ll L 4) (li L 5) (li L 13) (li x 0) (li x 1) (li x 2) (lb x 3) (ll x 4) (fun w1 w2 w6 w14 w15 => kr [.i w1, .i w2, .i w6, .b w14, .l w15]) k0
theorem sb18x0x12 (L x : List Lf) (kr : List Lf → Option R) (k0 : Bool × LD → Option R) : J18x0x12 N L x kr k0 = (J18x0x12 N L x (fun y => some (.inl y)) (fun p => some (.inr p))).bind (sumE kr k0) := by
 unfold J18x0x12 S18x0x12
 repeat' (first | with_reducible apply cond_b | (with_reducible apply bnd_b; intro _) | rfl)
noncomputable def Q18x0x12 (L : List Lf) (m : Nat) (x : List Lf) : Option (Bool × LD) := L18x0x12 N (R := (Bool × LD)) (lb L 0) (ll L 4) (li L 5) (li L 13) m (li x 0) (li x 1) (li x 2) (lb x 3) (ll x 4) (fun p => some p)
noncomputable def sh18x0x12 : Sh := { tmps := [(1, .c (.b)), (2, .c (.p 2 0)), (5, .c (.o 5)), (6, .c (.i .i64)), (7, .c (.i .i64)), (13, .c (.sl 61)), (14, .c (.i .i64)), (15, .c (.i .i64))], mem := [(2, .box (.b :: [.b, .i .i64, .sl 61, .i .i64, .i .i64])), (5, .row 63 true)] }
noncomputable def A18x0x12 (L : List Lf) : List (Bool × (Ex × St)) := bnd (Q18x0x12 N L N (pk sh18x0x12 [1, 2, 6, 14, 15] L)) fun q => [(q.isSome, ((.exit 0), ⟨[(5, .c (.o 5))], [(5, .row 63 true (q.getD default).1 (q.getD default).2)]⟩))]
theorem step18x0x12 (m : Nat) (kn : St → Option (Ex × St)) (L x : List Lf) : lpB Try.prog (T13x0 N) (h18x0s0 N).h 0 18 12 sh18x0x12 [1, 2, 6, 14, 15] [4, 5] [5] (m + 100) kn L x = J18x0x12 N L x (fun y => kn (ofSh sh18x0x12 (mx sh18x0x12 [1, 2, 6, 14, 15] L y))) (fun p => some ((.exit 0), ⟨[(5, .c (.o 5))], [(5, .row 63 true p.1 p.2)]⟩)) := by kernel_rfl
theorem ql18x0x12 (L : List Lf) (m : Nat) (x : List Lf) : Q18x0x12 N L (m + 1) x = J18x0x12 N L x (Q18x0x12 N L m) some := by kernel_rfl
noncomputable def h18x0s1 : Sg Try.prog 0 18 :=
 (h18x0s0 N).lp (A18x0x12 N) N progOk (T13x0_ok N) (fun m kn L x => (step18x0x12 N m kn L x).trans (sb18x0x12 N L x _ _)) (fun L m x => (ql18x0x12 N L m x).trans (sb18x0x12 N L x (Q18x0x12 N L m) some)) fun L x hx => alt1 x hx
noncomputable def F18x0 (v4 : LD) (v6 : Int) (v7 : Bool) (k0 : Bool × LD → Option R) : Option R :=
 bnd (G18x0x12 N v7 v4 (v4.length : Int) v6 0 0 0 true []) fun y0 =>
 bif y0.isSome then
  k0 (y0.getD default)
 else
  none
noncomputable def G18x0 (v4 : LD) (v6 : Int) (v7 : Bool) : Option (Bool × LD) := F18x0 N v4 v6 v7 (fun p => some p)
theorem bind18x0 (v4 : LD) (v6 : Int) (v7 : Bool) (k0 : Bool × LD → Option R) : F18x0 N v4 v6 v7 k0 = (G18x0 N v4 v6 v7).bind k0 := by
 unfold G18x0 F18x0
 repeat' (first | with_reducible apply cond_b | (with_reducible apply bnd_b; intro _) | rfl)
noncomputable def sh18x0 : Sh := { tmps := [(0, .g (.b :: [.b, .i .i64, .sl 61, .i .i64, .i .i64])), (1, .c (.b))], mem := [] }
noncomputable def A18x0 (L : List Lf) : List (Bool × Res) := bnd (F18x0 N (ll L 4) (li L 6) (lb L 7) (fun p => some p)) fun q => [(q.isSome, ([.c (.sl 63 (q.getD default).1 (q.getD default).2)], []))]
theorem raw18x0 (L : List Lf) : bd Try.prog (T13x0 N) (h18x0s1 N).h 18 sh18x0 L = F18x0 N (ll L 4) (li L 6) (lb L 7) (fun p => some ([.c (.sl 63 p.1 p.2)], [])) := by kernel_rfl
theorem ok18x0 : FnOk Try.prog 18 sh18x0 (A18x0 N) :=
 (h18x0s1 N).fn progOk (T13x0_ok N) fun L x hx => ((raw18x0 N L).trans ((bind18x0 N ..).trans (alt1 x hx)))
noncomputable def T18x0 : Oracle := ext 18 (spSh sh18x0 (A18x0 N)) (T13x0 N)
theorem T18x0_ok : OracleOk Try.prog (T18x0 N) := FnOk.to (ok18x0 N) (T13x0_ok N)
noncomputable def rg20x0 : List (Nat × List Nat) := [(0, [0, 1]), (1, [2, 1])]
noncomputable def hd20x0 : Hints := []
noncomputable def h20x0s0 (N : Nat) : Sg Try.prog 1 20 := .start hd20x0 rg20x0
noncomputable def F20x0 (N : Nat) (v0 v4 : Int) (k0 : Bool → R) : R :=
 k0 (v0 == v4)
noncomputable def V20x0 (v0 v4 : Int) : Bool := F20x0 N v0 v4 (fun p => p)
theorem tot20x0 (v0 v4 : Int) (k0 : Bool → R) : F20x0 N v0 v4 k0 = k0 (V20x0 N v0 v4) := by
 unfold V20x0 F20x0
 repeat' (first | rfl | apply cond_k | (apply bnd_k; intro _))
noncomputable def sh20x0 : Sh := { tmps := [(0, .g ([.i .i64, .i .i64, .i .i64, .i .i64])), (1, .c (.p 0 0))], mem := [(0, .box ([.i .i64, .i .i64, .i .i64, .s, .b]))] }
noncomputable def A20x0 (L : List Lf) : List (Bool × Res) := bnd (F20x0 N (li L 0) (li L 4) (fun p => p)) fun q => [(true, ([.c (.b q)], mgA (ofSh sh20x0 L).mem [] [0]))]
theorem raw20x0 (L : List Lf) : bd Try.prog (T18x0 N) (h20x0s0 N).h 20 sh20x0 L = F20x0 N (li L 0) (li L 4) (fun p => some ([.c (.b p)], mgA (ofSh sh20x0 L).mem [] [0])) := by kernel_rfl
theorem ok20x0 : FnOk Try.prog 20 sh20x0 (A20x0 N) :=
 (h20x0s0 N).fn progOk (T18x0_ok N) fun L x hx => ((raw20x0 N L).trans ((tot20x0 N ..).trans (alt0 _ _ hx)))
noncomputable def T20x0 : Oracle := ext 20 (spSh sh20x0 (A20x0 N)) (T18x0 N)
theorem T20x0_ok : OracleOk Try.prog (T20x0 N) := FnOk.to (ok20x0 N) (T18x0_ok N)
noncomputable def rg19x0 : List (Nat × List Nat) := [(0, [0, 1]), (1, [0, 1]), (2, [8, 7, 1, 0]), (3, [8, 1, 0, 7]), (4, [1, 0, 5, 8, 7]), (5, [5]), (6, [8, 7, 1, 0]), (7, [])]
noncomputable def hd19x0 : Hints := [(6, [0, 1, 7, 8], [0], [])]
noncomputable def h19x0s0 (N : Nat) : Sg Try.prog 1 19 := .start hd19x0 rg19x0
noncomputable def S19x0x6 (w1 : LD) (w2 w4 : Int) (w3 : Int) (kr : Int → Option R) (k0 : Int → Option R) (k1 : Unit → Option R) : Option R :=
 bif (decide (w3 < w2)) then
  bif (inB w3 w1.length) then
   bnd (V20x0 N ((w1.getD w3.toNat (.i 0)).cell 0).toI w4) fun y0 =>
   bif y0 then
    k0 w3
   else
    kr (IntKind.wrap .i64 (w3 + 1))
  else
   none
 else
  k1 ()
noncomputable def L19x0x6 (N : Nat) {R : Type} (w1 : LD) (w2 w4 : Int) : Nat → Int → (Int → Option R) → (Unit → Option R) → Option R
 | 0, _, _, _ => none
 | m + 1, w3, k0, k1 => S19x0x6 N w1 w2 w4 w3 (fun w3 => L19x0x6 N w1 w2 w4 m w3 k0 k1) k0 k1
noncomputable def G19x0x6 (w1 : LD) (w2 w4 : Int) (w3 : Int) : Option (Sum (Int) (Unit)) := L19x0x6 N (R := (Sum (Int) (Unit))) w1 w2 w4 N w3 (fun p => some (.inl p)) (fun p => some (.inr p))
noncomputable def J19x0x6 (L x : List Lf) (kr : List Lf → Option R) (k0 : Int → Option R) (k1 : Unit → Option R) : Option R := S19x0x6 N (ll L 1) (li L 2) (li L 4) (li x 0) (fun w3 => kr [.i w3]) k0 k1
theorem sb19x0x6 (L x : List Lf) (kr : List Lf → Option R) (k0 : Int → Option R) (k1 : Unit → Option R) : J19x0x6 N L x kr k0 k1 = (J19x0x6 N L x (fun y => some (.inl y)) (fun p => some (.inr (.inl p))) (fun p => some (.inr (.inr p)))).bind (sumE kr (sumE k0 k1)) := by
 unfold J19x0x6 S19x0x6
 repeat' (first | with_reducible apply cond_b | (with_reducible apply bnd_b; intro _) | rfl)
noncomputable def Q19x0x6 (L : List Lf) (m : Nat) (x : List Lf) : Option (Sum (Int) (Unit)) := L19x0x6 N (R := (Sum (Int) (Unit))) (ll L 1) (li L 2) (li L 4) m (li x 0) (fun p => some (.inl p)) (fun p => some (.inr p))
noncomputable def sh19x0x6 : Sh := { tmps := [(0, .c (.sl 63)), (1, .c (.f 20 [(0, 0)])), (7, .c (.i .i64)), (8, .c (.i .i64))], mem := [(0, .box ([.i .i64, .i .i64, .i .i64, .s, .b]))] }
noncomputable def K19x0x6w0 (L : List Lf) (p : Int) : Ex × St := (.ret, mg (ofSh sh19x0x6 L) [4] [(4, .c (.i .i64 p))] [0] [])
noncomputable def A19x0x6 (L : List Lf) : List (Bool × (Ex × St)) := bnd (Q19x0x6 N L N (pk sh19x0x6 [3] L)) fun q => [((inlB q), K19x0x6w0 L (inlV q)), ((inrQ q).isSome, ((.exit 0), mg (ofSh sh19x0x6 L) [] [] [0] []))]
theorem step19x0x6 (m : Nat) (kn : St → Option (Ex × St)) (L x : List Lf) : lpB Try.prog (T20x0 N) (h19x0s0 N).h 1 19 6 sh19x0x6 [3] [4] [0] (m + 100) kn L x = J19x0x6 N L x (fun y => kn (ofSh sh19x0x6 (mx sh19x0x6 [3] L y))) (fun p => some (K19x0x6w0 L p)) (fun _ => some ((.exit 0), mg (ofSh sh19x0x6 L) [] [] [0] [])) := by kernel_rfl
theorem ql19x0x6 (L : List Lf) (m : Nat) (x : List Lf) : Q19x0x6 N L (m + 1) x = J19x0x6 N L x (Q19x0x6 N L m) (fun p => some (.inl p)) (fun p => some (.inr p)) := by kernel_rfl
noncomputable def h19x0s1 : Sg Try.prog 1 19 :=
 (h19x0s0 N).lp (A19x0x6 N) N progOk (T20x0_ok N) (fun m kn L x => (step19x0x6 N m kn L x).trans (sb19x0x6 N L x _ _ _)) (fun L m x => (ql19x0x6 N L m x).trans (sb19x0x6 N L x (Q19x0x6 N L m) (fun p => some (.inl p)) (fun p => some (.inr p)))) fun L x hx => (altS alt1) x hx
noncomputable def F19x0 (v1 : LD) (v2 : Int) (k0 : Int → Option R) : Option R :=
 bnd (G19x0x6 N v1 (v1.length : Int) v2 0) fun y0 =>
 bif (inlB y0) then
  k0 (inlV y0)
 else
  bif (inrQ y0).isSome then
   k0 (-1)
  else
   none
noncomputable def G19x0 (v1 : LD) (v2 : Int) : Option (Int) := F19x0 N v1 v2 (fun p => some p)
theorem bind19x0 (v1 : LD) (v2 : Int) (k0 : Int → Option R) : F19x0 N v1 v2 k0 = (G19x0 N v1 v2).bind k0 := by
 unfold G19x0 F19x0
 repeat' (first | with_reducible apply cond_b | (with_reducible apply bnd_b; intro _) | rfl)
noncomputable def sh19x0 : Sh := { tmps := [(0, .c (.sl 63)), (1, .c (.f 20 [(0, 0)]))], mem := [(0, .box ([.i .i64, .i .i64, .i .i64, .s, .b]))] }
noncomputable def A19x0 (L : List Lf) : List (Bool × Res) := bnd (F19x0 N (ll L 1) (li L 2) (fun p => some p)) fun q => [(q.isSome, ([.c (.i .i64 (q.getD default))], mgA (ofSh sh19x0 L).mem [] [0]))]
theorem raw19x0 (L : List Lf) : bd Try.prog (T20x0 N) (h19x0s1 N).h 19 sh19x0 L = F19x0 N (ll L 1) (li L 2) (fun p => some ([.c (.i .i64 p)], mgA (ofSh sh19x0 L).mem [] [0])) := by kernel_rfl
theorem ok19x0 : FnOk Try.prog 19 sh19x0 (A19x0 N) :=
 (h19x0s1 N).fn progOk (T20x0_ok N) fun L x hx => ((raw19x0 N L).trans ((bind19x0 N ..).trans (alt1 x hx)))
noncomputable def T19x0 : Oracle := ext 19 (spSh sh19x0 (A19x0 N)) (T20x0 N)
theorem T19x0_ok : OracleOk Try.prog (T19x0 N) := FnOk.to (ok19x0 N) (T20x0_ok N)
noncomputable def rg66x0 : List (Nat × List Nat) := [(0, [0]), (1, [2, 3, 0]), (3, [0, 2, 3]), (2, [2, 3, 0])]
noncomputable def hd66x0 : Hints := [(3, [0, 2, 3], [0], [])]
noncomputable def h66x0s0 (N : Nat) : Sg Try.prog 1 66 := .start hd66x0 rg66x0
noncomputable def S66x0x3 (N : Nat) (w0 w1 : Int) (w3 : LD) (kr : Int → Int → LD → Option R) (k0 : LD → Option R) : Option R :=
 bif (decide (w0 < w1)) then
  bif (inB w1 w3.length) then
   bif (decide (w1.toNat < w3.length)) then
    bif (inB w0 w3.length) then
     bif (decide (w0.toNat < w3.length)) then
      bif (inB w0 w3.length) then
       bif (decide (w0.toNat < w3.length)) then
        bif (inB w1 (w3.set w0.toNat (.i (w3.getD w1.toNat (.i 0)).toI)).length) then
         bif (decide (w1.toNat < (w3.set w0.toNat (.i (w3.getD w1.toNat (.i 0)).toI)).length)) then
          bnd (((w3.set w0.toNat (.i (w3.getD w1.toNat (.i 0)).toI)).set w1.toNat (.i (w3.getD w0.toNat (.i 0)).toI)) : List D) fun y0 =>
          kr (IntKind.wrap .i64 (w0 + 1)) (IntKind.wrap .i64 (w1 - 1)) y0
         else
          none
        else
         none
       else
        none
      else
       none
     else
      none
    else
     none
   else
    none
  else
   none
 else
  k0 w3
noncomputable def L66x0x3 (N : Nat) {R : Type} : Nat → Int → Int → LD → (LD → Option R) → Option R
 | 0, _, _, _, _ => none
 | m + 1, w0, w1, w3, k0 => S66x0x3 N w0 w1 w3 (fun w0 w1 w3 => L66x0x3 N m w0 w1 w3 k0) k0
noncomputable def G66x0x3 (w0 w1 : Int) (w3 : LD) : Option (LD) := L66x0x3 N (R := (LD)) N w0 w1 w3 (fun p => some p)
noncomputable def J66x0x3 (L x : List Lf) (kr : List Lf → Option R) (k0 : LD → Option R) : Option R := S66x0x3 N (li x 0) (li x 1) (ll x 2) (fun w0 w1 w3 => kr [.i w0, .i w1, .l w3]) k0
theorem sb66x0x3 (L x : List Lf) (kr : List Lf → Option R) (k0 : LD → Option R) : J66x0x3 N L x kr k0 = (J66x0x3 N L x (fun y => some (.inl y)) (fun p => some (.inr p))).bind (sumE kr k0) := by
 unfold J66x0x3 S66x0x3
 repeat' (first | with_reducible apply cond_b | (with_reducible apply bnd_b; intro _) | rfl)
noncomputable def Q66x0x3 (L : List Lf) (m : Nat) (x : List Lf) : Option (LD) := L66x0x3 N (R := (LD)) m (li x 0) (li x 1) (ll x 2) (fun p => some p)
noncomputable def sh66x0x3 : Sh := { tmps := [(0, .c (.o 0)), (2, .c (.i .i64)), (3, .c (.i .i64))], mem := [(0, .row 5 true)] }
noncomputable def A66x0x3 (L : List Lf) : List (Bool × (Ex × St)) := bnd (Q66x0x3 N L N (pk sh66x0x3 [0, 1, 3] L)) fun q => [(q.isSome, ((.exit 0), ⟨[], [(0, .row 5 true (lb L 2) (q.getD default))]⟩))]
theorem step66x0x3 (m : Nat) (kn : St → Option (Ex × St)) (L x : List Lf) : lpB Try.prog (T19x0 N) (h66x0s0 N).h 1 66 3 sh66x0x3 [0, 1, 3] [] [0] (m + 100) kn L x = J66x0x3 N L x (fun y => kn (ofSh sh66x0x3 (mx sh66x0x3 [0, 1, 3] L y))) (fun p => some ((.exit 0), ⟨[], [(0, .row 5 true (lb L 2) p)]⟩)) := by kernel_rfl
theorem ql66x0x3 (L : List Lf) (m : Nat) (x : List Lf) : Q66x0x3 N L (m + 1) x = J66x0x3 N L x (Q66x0x3 N L m) some := by kernel_rfl
noncomputable def h66x0s1 : Sg Try.prog 1 66 :=
 (h66x0s0 N).lp (A66x0x3 N) N progOk (T19x0_ok N) (fun m kn L x => (step66x0x3 N m kn L x).trans (sb66x0x3 N L x _ _)) (fun L m x => (ql66x0x3 N L m x).trans (sb66x0x3 N L x (Q66x0x3 N L m) some)) fun L x hx => alt1 x hx
noncomputable def F66x0 (v1 : LD) (k0 : LD → Option R) : Option R :=
 bnd (G66x0x3 N 0 (IntKind.wrap .i64 ((v1.length : Int) - 1)) v1) fun y0 =>
 bif y0.isSome then
  k0 (y0.getD default)
 else
  none
noncomputable def G66x0 (v1 : LD) : Option (LD) := F66x0 N v1 (fun p => some p)
theorem bind66x0 (v1 : LD) (k0 : LD → Option R) : F66x0 N v1 k0 = (G66x0 N v1).bind k0 := by
 unfold G66x0 F66x0
 repeat' (first | with_reducible apply cond_b | (with_reducible apply bnd_b; intro _) | rfl)
noncomputable def sh66x0 : Sh := { tmps := [(0, .c (.o 0))], mem := [(0, .row 5 true)] }
noncomputable def A66x0 (L : List Lf) : List (Bool × Res) := bnd (F66x0 N (ll L 1) (fun p => some p)) fun q => [(q.isSome, ([], [(0, .row 5 true (lb L 0) (q.getD default))]))]
theorem raw66x0 (L : List Lf) : bd Try.prog (T19x0 N) (h66x0s1 N).h 66 sh66x0 L = F66x0 N (ll L 1) (fun p => some ([], [(0, .row 5 true (lb L 0) p)])) := by kernel_rfl
theorem ok66x0 : FnOk Try.prog 66 sh66x0 (A66x0 N) :=
 (h66x0s1 N).fn progOk (T19x0_ok N) fun L x hx => ((raw66x0 N L).trans ((bind66x0 N ..).trans (alt1 x hx)))
noncomputable def T66x0 : Oracle := ext 66 (spSh sh66x0 (A66x0 N)) (T19x0 N)
theorem T66x0_ok : OracleOk Try.prog (T66x0 N) := FnOk.to (ok66x0 N) (T19x0_ok N)
noncomputable def rg42x0 : List (Nat × List Nat) := [(0, [1, 0, 2]), (1, [1, 0, 2]), (2, [7, 0, 2]), (3, [13, 12, 7, 0, 2]), (4, [13, 7, 0, 12, 2]), (5, [7, 8, 0, 13, 12, 2]), (6, [13, 12, 7, 0, 2]), (7, [2, 7]), (8, [7]), (9, [7])]
noncomputable def hd42x0 : Hints := [(9, [0, 2, 7, 12, 13], [10], []), (26, [7, 25], [10], [])]
noncomputable def h42x0s0 (N : Nat) : Sg Try.prog 0 42 := .start hd42x0 rg42x0
noncomputable def S42x0x9 (N : Nat) (w0 w2 : Int) (w3 : Int) (w5 : LD) (kr : Int → LD → Option R) (k0 : LD → Option R) : Option R :=
 bif (decide (w3 < w2)) then
  bif (decide (0 ≤ (IntKind.wrap .i64 (8 * w3)))) then
   bnd (IntKind.wrap .u8 (w0.fdiv (2 ^ (min (IntKind.wrap .i64 (8 * w3)).toNat 64)))) fun y0 =>
   bif (inB w3 w5.length) then
    bif (decide (w3.toNat < w5.length)) then
     kr (IntKind.wrap .i64 (w3 + 1)) (w5.set w3.toNat (.i y0))
    else
     none
   else
    none
  else
   none
 else
  k0 w5
noncomputable def L42x0x9 (N : Nat) {R : Type} (w0 w2 : Int) : Nat → Int → LD → (LD → Option R) → Option R
 | 0, _, _, _ => none
 | m + 1, w3, w5, k0 => S42x0x9 N w0 w2 w3 w5 (fun w3 w5 => L42x0x9 N w0 w2 m w3 w5 k0) k0
noncomputable def G42x0x9 (w0 w2 : Int) (w3 : Int) (w5 : LD) : Option (LD) := L42x0x9 N (R := (LD)) w0 w2 N w3 w5 (fun p => some p)
noncomputable def J42x0x9 (L x : List Lf) (kr : List Lf → Option R) (k0 : LD → Option R) : Option R := S42x0x9 N (li L 0) (li L 2) (li x 0) (ll x 1) (fun w3 w5 => kr [.i w3, .l w5]) k0
theorem sb42x0x9 (L x : List Lf) (kr : List Lf → Option R) (k0 : LD → Option R) : J42x0x9 N L x kr k0 = (J42x0x9 N L x (fun y => some (.inl y)) (fun p => some (.inr p))).bind (sumE kr k0) := by
 unfold J42x0x9 S42x0x9
 repeat' (first | with_reducible apply cond_b | (with_reducible apply bnd_b; intro _) | rfl)
noncomputable def Q42x0x9 (L : List Lf) (m : Nat) (x : List Lf) : Option (LD) := L42x0x9 N (R := (LD)) (li L 0) (li L 2) m (li x 0) (ll x 1) (fun p => some p)
noncomputable def sh42x0x9 : Sh := { tmps := [(0, .c (.i .i64)), (2, .c (.b)), (7, .c (.o 10)), (12, .c (.i .i64)), (13, .c (.i .i64))], mem := [(10, .row 5 true)] }
noncomputable def K42x0x9w0 (L : List Lf) (p : LD) : Ex × St := ((.exit 0), mg (ofSh sh42x0x9 L) [2, 7] [] [10] [(10, .row 5 true (lb L 4) p)])
noncomputable def A42x0x9 (L : List Lf) : List (Bool × (Ex × St)) := bnd (Q42x0x9 N L N (pk sh42x0x9 [3, 5] L)) fun q => [(q.isSome, K42x0x9w0 L (q.getD default))]
theorem step42x0x9 (m : Nat) (kn : St → Option (Ex × St)) (L x : List Lf) : lpB Try.prog (T66x0 N) (h42x0s0 N).h 0 42 9 sh42x0x9 [3, 5] [2, 6, 7] [10] (m + 100) kn L x = J42x0x9 N L x (fun y => kn (ofSh sh42x0x9 (mx sh42x0x9 [3, 5] L y))) (fun p => some (K42x0x9w0 L p)) := by kernel_rfl
theorem ql42x0x9 (L : List Lf) (m : Nat) (x : List Lf) : Q42x0x9 N L (m + 1) x = J42x0x9 N L x (Q42x0x9 N L m) some := by kernel_rfl
noncomputable def h42x0s1 : Sg Try.prog 0 42 :=
 (h42x0s0 N).lp (A42x0x9 N) N progOk (T66x0_ok N) (fun m kn L x => (step42x0x9 N m kn L x).trans (sb42x0x9 N L x _ _)) (fun L m x => (ql42x0x9 N L m x).trans (sb42x0x9 N L x (Q42x0x9 N L m) some)) fun L x hx => alt1 x hx
noncomputable def F42x0x26 (w0 : Bool) (w2 : LD) (k0 : LD → Option R) : Option R :=
 bif w0 then
  bnd (G66x0 N w2) fun y0 =>
  bif y0.isSome then
   k0 (y0.getD default)
  else
   none
 else
  k0 w2
noncomputable def G42x0x26 (w0 : Bool) (w2 : LD) : Option (LD) := F42x0x26 N w0 w2 (fun p => some p)
theorem bind42x0x26 (w0 : Bool) (w2 : LD) (k0 : LD → Option R) : F42x0x26 N w0 w2 k0 = (G42x0x26 N w0 w2).bind k0 := by
 unfold G42x0x26 F42x0x26
 repeat' (first | with_reducible apply cond_b | (with_reducible apply bnd_b; intro _) | rfl)
noncomputable def sh42x0x26 : Sh := { tmps := [(7, .c (.o 10)), (25, .c (.b))], mem := [(10, .row 5 true)] }
noncomputable def K42x0x26w0 (L : List Lf) (p : LD) : Ex × St := (.normal, ⟨[(7, .c (.o 10))], [(10, .row 5 true (lb L 1) p)]⟩)
noncomputable def A42x0x26 (L : List Lf) : List (Bool × (Ex × St)) := bnd (F42x0x26 N (lb L 0) (ll L 2) (fun p => some p)) fun q => [(q.isSome, K42x0x26w0 L (q.getD default))]
theorem raw42x0x26 (L : List Lf) : pc Try.prog (T66x0 N) (h42x0s1 N).h 0 100 42 26 sh42x0x26 L [7] [10] = F42x0x26 N (lb L 0) (ll L 2) (fun p => some (K42x0x26w0 L p)) := by kernel_rfl
noncomputable def h42x0s2 : Sg Try.prog 0 42 :=
 (h42x0s1 N).cut (A42x0x26 N) progOk (T66x0_ok N) fun L x hx => (raw42x0x26 N L).trans ((bind42x0x26 N ..).trans (alt1 x hx))
noncomputable def F42x0 (v0 v1 : Int) (v2 : Bool) (k0 : LD → Option R) : Option R :=
 bif (((decide (0 ≤ v1)) && (decide (v1 ≤ v1))) && (decide (v1.toNat * 1 ≤ room) && decide (v1.toNat ≤ strMax))) then
  bnd (G42x0x9 N v0 ((List.replicate v1.toNat ((.i 0) : D)).length : Int) 0 (List.replicate v1.toNat ((.i 0) : D))) fun y0 =>
  bif y0.isSome then
   bnd (G42x0x26 N v2 (y0.getD default)) fun y1 =>
   bif y1.isSome then
    k0 (y1.getD default)
   else
    none
  else
   none
 else
  none
noncomputable def G42x0 (v0 v1 : Int) (v2 : Bool) : Option (LD) := F42x0 N v0 v1 v2 (fun p => some p)
theorem bind42x0 (v0 v1 : Int) (v2 : Bool) (k0 : LD → Option R) : F42x0 N v0 v1 v2 k0 = (G42x0 N v0 v1 v2).bind k0 := by
 unfold G42x0 F42x0
 repeat' (first | with_reducible apply cond_b | (with_reducible apply bnd_b; intro _) | rfl)
noncomputable def sh42x0 : Sh := { tmps := [(0, .c (.i .i64)), (1, .c (.i .i64)), (2, .c (.b))], mem := [] }
noncomputable def A42x0 (L : List Lf) : List (Bool × Res) := bnd (F42x0 N (li L 0) (li L 1) (lb L 2) (fun p => some p)) fun q => [(q.isSome, ([.c (.sl 5 false (q.getD default))], []))]
theorem raw42x0 (L : List Lf) : bd Try.prog (T66x0 N) (h42x0s2 N).h 42 sh42x0 L = F42x0 N (li L 0) (li L 1) (lb L 2) (fun p => some ([.c (.sl 5 false p)], [])) := by kernel_rfl
theorem ok42x0 : FnOk Try.prog 42 sh42x0 (A42x0 N) :=
 (h42x0s2 N).fn progOk (T66x0_ok N) fun L x hx => ((raw42x0 N L).trans ((bind42x0 N ..).trans (alt1 x hx)))
noncomputable def T42x0 : Oracle := ext 42 (spSh sh42x0 (A42x0 N)) (T66x0 N)
theorem T42x0_ok : OracleOk Try.prog (T42x0 N) := FnOk.to (ok42x0 N) (T66x0_ok N)
noncomputable def rg82x0 : List (Nat × List Nat) := [(0, [0, 1]), (1, [0, 1])]
noncomputable def hd82x0 : Hints := []
noncomputable def h82x0s0 (N : Nat) : Sg Try.prog 0 82 := .start hd82x0 rg82x0
noncomputable def F82x0 (N : Nat) (v0 : LB) (v1 : Int) (k0 : Int → R) : R :=
 k0 (Lib.indexByte v0 v1.toNat.toUInt8)
noncomputable def V82x0 (v0 : LB) (v1 : Int) : Int := F82x0 N v0 v1 (fun p => p)
theorem tot82x0 (v0 : LB) (v1 : Int) (k0 : Int → R) : F82x0 N v0 v1 k0 = k0 (V82x0 N v0 v1) := by
 unfold V82x0 F82x0
 repeat' (first | rfl | apply cond_k | (apply bnd_k; intro _))
noncomputable def sh82x0 : Sh := { tmps := [(0, .c (.s)), (1, .c (.i .u8))], mem := [] }
noncomputable def A82x0 (L : List Lf) : List (Bool × Res) := bnd (F82x0 N (ls L 0) (li L 1) (fun p => p)) fun q => [(true, ([.c (.i .i64 q)], []))]
theorem raw82x0 (L : List Lf) : bd Try.prog (T42x0 N) (h82x0s0 N).h 82 sh82x0 L = F82x0 N (ls L 0) (li L 1) (fun p => some ([.c (.i .i64 p)], [])) := by kernel_rfl
theorem ok82x0 : FnOk Try.prog 82 sh82x0 (A82x0 N) :=
 (h82x0s0 N).fn progOk (T42x0_ok N) fun L x hx => ((raw82x0 N L).trans ((tot82x0 N ..).trans (alt0 _ _ hx)))
noncomputable def T82x0 : Oracle := ext 82 (spSh sh82x0 (A82x0 N)) (T42x0 N)
theorem T82x0_ok : OracleOk Try.prog (T82x0 N) := FnOk.to (ok82x0 N) (T42x0_ok N)
noncomputable def rg78x0 : List (Nat × List Nat) := [(0, [1, 0]), (1, [1, 0]), (2, [5, 1, 0]), (4, [5, 0, 1]), (6, [5, 0, 1]), (8, [5, 0, 1]), (9, [0, 1]), (7, []), (5, [0, 1]), (3, []), (10, [1, 0, 5]), (11, [1, 0, 5, 6]), (12, [0, 5, 6, 7, 1]), (13, [0, 5, 8, 6, 7, 1]), (14, [8, 9, 0, 6, 7, 5, 1]), (15, [8, 9, 0, 6, 7, 5, 1, 10]), (16, [0, 8, 6, 9, 7, 5, 1, 10]), (17, [0, 8, 9, 6, 7, 5, 1, 10]), (18, [11, 8, 0, 7, 5, 1, 10, 9, 6]), (19, []), (20, [8, 11, 0, 7, 5, 1, 10, 9, 6]), (21, [0, 8, 7, 5, 1, 10, 9, 6]), (22, [8]), (23, [8, 10, 5, 0, 1, 9, 6, 7]), (24, [10, 5, 8, 0, 1, 9, 6, 7]), (25, [5, 10, 8, 0, 1, 9, 6, 7]), (30, [5, 10, 8, 9, 0, 1, 6, 7]), (31, [0, 8, 1]), (32, [13, 8]), (33, []), (34, [8, 13]), (26, [0, 8, 1]), (27, [12, 8]), (28, [12, 8]), (29, []), (35, [])]
noncomputable def hd78x0 : Hints := []
noncomputable def h78x0s0 (N : Nat) : Sg Try.prog 0 78 := .start hd78x0 rg78x0
noncomputable def F78x0 (v0 : LB) (k0 : Int → R) : R :=
 bif (([0] : List UInt8) == v0) then
  k0 0
 else
  bnd (V82x0 N v0 0) fun y0 =>
  k0 y0
noncomputable def V78x0 (v0 : LB) : Int := F78x0 N v0 (fun p => p)
theorem tot78x0 (v0 : LB) (k0 : Int → R) : F78x0 N v0 k0 = k0 (V78x0 N v0) := by
 unfold V78x0 F78x0
 repeat' (first | rfl | apply cond_k | (apply bnd_k; intro _))
noncomputable def sh78x0 : Sh := { tmps := [(0, .c (.s)), (1, .c (.ks [0]))], mem := [] }
noncomputable def A78x0 (L : List Lf) : List (Bool × Res) := bnd (F78x0 N (ls L 0) (fun p => p)) fun q => [(true, ([.c (.i .i64 q)], []))]
theorem raw78x0 (L : List Lf) : bd Try.prog (T82x0 N) (h78x0s0 N).h 78 sh78x0 L = F78x0 N (ls L 0) (fun p => some ([.c (.i .i64 p)], [])) := by kernel_rfl
theorem ok78x0 : FnOk Try.prog 78 sh78x0 (A78x0 N) :=
 (h78x0s0 N).fn progOk (T82x0_ok N) fun L x hx => ((raw78x0 N L).trans ((tot78x0 N ..).trans (alt0 _ _ hx)))
noncomputable def T78x0 : Oracle := ext 78 (spSh sh78x0 (A78x0 N)) (T82x0 N)
theorem T78x0_ok : OracleOk Try.prog (T78x0 N) := FnOk.to (ok78x0 N) (T82x0_ok N)
noncomputable def rg67x0 : List (Nat × List Nat) := [(0, [0, 1]), (1, [0, 1])]
noncomputable def hd67x0 : Hints := []
noncomputable def h67x0s0 (N : Nat) : Sg Try.prog 0 67 := .start hd67x0 rg67x0
noncomputable def F67x0 (v0 : LB) (k0 : Int → R) : R :=
 bnd (V78x0 N v0) fun y0 =>
 k0 y0
noncomputable def V67x0 (v0 : LB) : Int := F67x0 N v0 (fun p => p)
theorem tot67x0 (v0 : LB) (k0 : Int → R) : F67x0 N v0 k0 = k0 (V67x0 N v0) := by
 unfold V67x0 F67x0
 repeat' (first | rfl | apply cond_k | (apply bnd_k; intro _))
noncomputable def sh67x0 : Sh := { tmps := [(0, .c (.s)), (1, .c (.ks [0]))], mem := [] }
noncomputable def A67x0 (L : List Lf) : List (Bool × Res) := bnd (F67x0 N (ls L 0) (fun p => p)) fun q => [(true, ([.c (.i .i64 q)], []))]
theorem raw67x0 (L : List Lf) : bd Try.prog (T78x0 N) (h67x0s0 N).h 67 sh67x0 L = F67x0 N (ls L 0) (fun p => some ([.c (.i .i64 p)], [])) := by kernel_rfl
theorem ok67x0 : FnOk Try.prog 67 sh67x0 (A67x0 N) :=
 (h67x0s0 N).fn progOk (T78x0_ok N) fun L x hx => ((raw67x0 N L).trans ((tot67x0 N ..).trans (alt0 _ _ hx)))
noncomputable def T67x0 : Oracle := ext 67 (spSh sh67x0 (A67x0 N)) (T78x0 N)
theorem T67x0_ok : OracleOk Try.prog (T67x0 N) := FnOk.to (ok67x0 N) (T78x0_ok N)
noncomputable def rg43x0 : List (Nat × List Nat) := [(0, [0, 1]), (1, [0, 1])]
noncomputable def hd43x0 : Hints := []
noncomputable def h43x0s0 (N : Nat) : Sg Try.prog 0 43 := .start hd43x0 rg43x0
noncomputable def F43x0 (v0 : LB) (k0 : Bool → R) : R :=
 bnd (V67x0 N v0) fun y0 =>
 k0 (decide (y0 ≥ 0))
noncomputable def V43x0 (v0 : LB) : Bool := F43x0 N v0 (fun p => p)
theorem tot43x0 (v0 : LB) (k0 : Bool → R) : F43x0 N v0 k0 = k0 (V43x0 N v0) := by
 unfold V43x0 F43x0
 repeat' (first | rfl | apply cond_k | (apply bnd_k; intro _))
noncomputable def sh43x0 : Sh := { tmps := [(0, .c (.s)), (1, .c (.ks [0]))], mem := [] }
noncomputable def A43x0 (L : List Lf) : List (Bool × Res) := bnd (F43x0 N (ls L 0) (fun p => p)) fun q => [(true, ([.c (.b q)], []))]
theorem raw43x0 (L : List Lf) : bd Try.prog (T67x0 N) (h43x0s0 N).h 43 sh43x0 L = F43x0 N (ls L 0) (fun p => some ([.c (.b p)], [])) := by kernel_rfl
theorem ok43x0 : FnOk Try.prog 43 sh43x0 (A43x0 N) :=
 (h43x0s0 N).fn progOk (T67x0_ok N) fun L x hx => ((raw43x0 N L).trans ((tot43x0 N ..).trans (alt0 _ _ hx)))
noncomputable def T43x0 : Oracle := ext 43 (spSh sh43x0 (A43x0 N)) (T67x0 N)
theorem T43x0_ok : OracleOk Try.prog (T43x0 N) := FnOk.to (ok43x0 N) (T67x0_ok N)
noncomputable def rg21x0 : List (Nat × List Nat) := [(0, [0, 1, 2]), (1, [3, 4, 2]), (2, [8, 3, 4, 2]), (3, [3, 8, 4, 9, 2]), (4, [8, 10, 4, 3, 9, 2]), (5, [8, 10, 4, 3, 9, 2, 11]), (6, [10, 4, 3, 9, 2]), (7, [4, 3, 9, 10, 2, 11]), (9, [4, 9, 10, 3, 2, 11]), (11, [4, 3, 9, 11, 10, 2]), (13, [9, 4, 11, 10, 3, 2]), (15, [9, 4, 11, 10, 3, 2]), (17, [9, 4, 3, 2]), (19, [4, 3]), (21, [3, 4]), (23, [3, 4]), (25, [3, 4]), (26, []), (24, []), (22, []), (20, []), (18, [4, 3, 2]), (16, []), (14, []), (12, [3]), (10, [10, 3, 2]), (8, []), (27, [3, 4]), (28, [12, 4]), (29, [12])]
noncomputable def hd21x0 : Hints := [(20, [2, 3, 4, 9, 10, 11, 29], [3, 4], []), (46, [2, 3, 4, 9, 10, 11], [3, 4], []), (64, [3, 4], [3, 4], [])]
noncomputable def h21x0s0 (N : Nat) : Sg Try.prog 0 21 := .start hd21x0 rg21x0
noncomputable def F21x0x20 (N : Nat) (w2 w3 : Int) (w4 : Bool) (k0 : Int → R) : R :=
 bif w4 then
  k0 (IntKind.wrap .i64 ((IntKind.wrap .i64 (0 - w2)) - 1))
 else
  k0 w3
noncomputable def V21x0x20 (w2 w3 : Int) (w4 : Bool) : Int := F21x0x20 N w2 w3 w4 (fun p => p)
theorem tot21x0x20 (w2 w3 : Int) (w4 : Bool) (k0 : Int → R) : F21x0x20 N w2 w3 w4 k0 = k0 (V21x0x20 N w2 w3 w4) := by
 unfold V21x0x20 F21x0x20
 repeat' (first | rfl | apply cond_k | (apply bnd_k; intro _))
noncomputable def sh21x0x20 : Sh := { tmps := [(2, .c (.b)), (3, .c (.p 3 0)), (4, .c (.p 4 0)), (9, .c (.b)), (10, .c (.i .i64)), (11, .c (.i .i64)), (29, .c (.b))], mem := [(3, .box ([.i .i64, .i .i64, .i .i64, .i .i64])), (4, .box ([.i .i64, .i .i64, .i .i64, .s, .b]))] }
noncomputable def K21x0x20w0 (L : List Lf) (p : Int) : Ex × St := (.normal, mg (ofSh sh21x0x20 L) [2, 3, 4, 9, 10, 11] [(11, .c (.i .i64 p))] [3, 4] [])
noncomputable def A21x0x20 (L : List Lf) : List (Bool × (Ex × St)) := bnd (F21x0x20 N (li L 2) (li L 3) (lb L 4) (fun p => p)) fun q => [(true, K21x0x20w0 L q)]
theorem raw21x0x20 (L : List Lf) : pc Try.prog (T43x0 N) (h21x0s0 N).h 0 100 21 20 sh21x0x20 L [2, 3, 4, 9, 10, 11] [3, 4] = F21x0x20 N (li L 2) (li L 3) (lb L 4) (fun p => some (K21x0x20w0 L p)) := by kernel_rfl
noncomputable def h21x0s1 : Sg Try.prog 0 21 :=
 (h21x0s0 N).cut (A21x0x20 N) progOk (T43x0_ok N) fun L x hx => (raw21x0x20 N L).trans ((tot21x0x20 N ..).trans (alt0 _ _ hx))
noncomputable def F21x0x46 (w1 : Bool) (w2 w3 w10 : Int) (k0 : Bool → R) : R :=
 bif w1 then
  bnd (V35x0 N w10 w3 (IntKind.wrap .i64 (w2 - 1))) fun y0 =>
  k0 (!y0)
 else
  k0 false
noncomputable def V21x0x46 (w1 : Bool) (w2 w3 w10 : Int) : Bool := F21x0x46 N w1 w2 w3 w10 (fun p => p)
theorem tot21x0x46 (w1 : Bool) (w2 w3 w10 : Int) (k0 : Bool → R) : F21x0x46 N w1 w2 w3 w10 k0 = k0 (V21x0x46 N w1 w2 w3 w10) := by
 unfold V21x0x46 F21x0x46
 repeat' (first | rfl | apply cond_k | (apply bnd_k; intro _))
noncomputable def J21x0x46 (L : List Lf) (k0 : Bool → R) : R := F21x0x46 N (lb L 1) (li L 2) (li L 3) (li L 10) k0
noncomputable def sh21x0x46 : Sh := { tmps := [(2, .c (.b)), (3, .c (.p 3 0)), (4, .c (.p 4 0)), (9, .c (.b)), (10, .c (.i .i64)), (11, .c (.i .i64))], mem := [(3, .box ([.i .i64, .i .i64, .i .i64, .i .i64])), (4, .box ([.i .i64, .i .i64, .i .i64, .s, .b]))] }
noncomputable def K21x0x46w0 (L : List Lf) (p : Bool) : Ex × St := (.normal, mg (ofSh sh21x0x46 L) [2, 3, 4, 9, 78] [(78, .c (.b p))] [3, 4] [])
noncomputable def A21x0x46 (L : List Lf) : List (Bool × (Ex × St)) := bnd (J21x0x46 N L (fun p => p)) fun q => [(true, K21x0x46w0 L q)]
theorem raw21x0x46 (L : List Lf) : pc Try.prog (T43x0 N) (h21x0s1 N).h 0 100 21 46 sh21x0x46 L [2, 3, 4, 9, 78] [3, 4] = J21x0x46 N L (fun p => some (K21x0x46w0 L p)) := by kernel_rfl
noncomputable def h21x0s2 : Sg Try.prog 0 21 :=
 (h21x0s1 N).cut (A21x0x46 N) progOk (T43x0_ok N) fun L x hx => (raw21x0x46 N L).trans ((tot21x0x46 N ..).trans (alt0 _ _ hx))
noncomputable def F21x0x64 (w2 : Int) (w7 : LB) (k0 : Bool → R) : R :=
 bif (w2 == 2) then
  bif (w7 == ([] : List UInt8)) then
   k0 true
  else
   bnd (V43x0 N w7) fun y0 =>
   k0 y0
 else
  k0 false
noncomputable def V21x0x64 (w2 : Int) (w7 : LB) : Bool := F21x0x64 N w2 w7 (fun p => p)
theorem tot21x0x64 (w2 : Int) (w7 : LB) (k0 : Bool → R) : F21x0x64 N w2 w7 k0 = k0 (V21x0x64 N w2 w7) := by
 unfold V21x0x64 F21x0x64
 repeat' (first | rfl | apply cond_k | (apply bnd_k; intro _))
noncomputable def sh21x0x64 : Sh := { tmps := [(3, .c (.p 3 0)), (4, .c (.p 4 0))], mem := [(3, .box ([.i .i64, .i .i64, .i .i64, .i .i64])), (4, .box ([.i .i64, .i .i64, .i .i64, .s, .b]))] }
noncomputable def K21x0x64w0 (L : List Lf) (p : Bool) : Ex × St := (.normal, mg (ofSh sh21x0x64 L) [3, 4, 102] [(102, .c (.b p))] [3, 4] [])
noncomputable def A21x0x64 (L : List Lf) : List (Bool × (Ex × St)) := bnd (F21x0x64 N (li L 2) (ls L 7) (fun p => p)) fun q => [(true, K21x0x64w0 L q)]
theorem raw21x0x64 (L : List Lf) : pc Try.prog (T43x0 N) (h21x0s2 N).h 0 100 21 64 sh21x0x64 L [3, 4, 102] [3, 4] = F21x0x64 N (li L 2) (ls L 7) (fun p => some (K21x0x64w0 L p)) := by kernel_rfl
noncomputable def h21x0s3 : Sg Try.prog 0 21 :=
 (h21x0s2 N).cut (A21x0x64 N) progOk (T43x0_ok N) fun L x hx => (raw21x0x64 N L).trans ((tot21x0x64 N ..).trans (alt0 _ _ hx))
noncomputable def F21x0 (v1 v2 v6 : Int) (v7 : LB) (v8 v9 : Bool) (k0 : Bool × LD × Int → Option R) : Option R :=
 bnd (G41x0 N v1 (v2 == 1)) fun y0 =>
 bif y0.isSome then
  bnd (V21x0x20 N (y0.getD default) 0 (v2 == 1)) fun y1 =>
  bnd (bif v8 then (bif (bif (v6 != 0) then true else (!(v7 == ([] : List UInt8)))) then true else (v2 == 3)) else false) fun y2 =>
  bif y2 then
   k0 (true, [], 2)
  else
   bnd (bif v8 then (bif (v2 == 1) then true else (v2 == 0)) else false) fun y3 =>
   bif y3 then
    bnd (G42x0 N (y0.getD default) v1 v9) fun y4 =>
    bif y4.isSome then
     k0 (false, (y4.getD default), 0)
    else
     none
   else
    bif v8 then
     bif (((decide (0 ≤ v1)) && (decide (v1 ≤ v1))) && (decide (v1.toNat * 1 ≤ room) && decide (v1.toNat ≤ strMax))) then
      k0 (false, (List.replicate v1.toNat ((.i 0) : D)), 0)
     else
      none
    else
     bnd (bif (bif (v2 == 1) then true else (v2 == 0)) then (!(v7 == ([] : List UInt8))) else false) fun y5 =>
     bif y5 then
      k0 (true, [], 2)
     else
      bnd (V21x0x46 N (bif (v2 == 1) then true else (v2 == 0)) (y0.getD default) y1 v6) fun y6 =>
      bif y6 then
       k0 (true, [], 9)
      else
       bif (bif (v2 == 1) then true else (v2 == 0)) then
        bnd (G42x0 N v6 v1 v9) fun y7 =>
        bif y7.isSome then
         k0 (false, (y7.getD default), 0)
        else
         none
       else
        bif (v6 != 0) then
         k0 (true, [], 2)
        else
         bnd (V21x0x64 N v2 v7) fun y8 =>
         bif y8 then
          k0 (true, [], 2)
         else
          bnd (bif (v2 == 2) then (decide ((v7.length : Int) > v1)) else false) fun y9 =>
          bif y9 then
           k0 (true, [], 3)
          else
           bif (bif (v2 == 3) then ((v7.length : Int) != v1) else false) then
            k0 (true, [], 2)
           else
            bif (((decide (0 ≤ v1)) && (decide (v1 ≤ v1))) && (decide (v1.toNat * 1 ≤ room) && decide (v1.toNat ≤ strMax))) then
             bnd (((bytesD v7).take (List.replicate v1.toNat ((.i 0) : D)).length ++ (List.replicate v1.toNat ((.i 0) : D)).drop (bytesD v7).length) : List D) fun y10 =>
             k0 (false, y10, 0)
            else
             none
 else
  none
noncomputable def G21x0 (v1 v2 v6 : Int) (v7 : LB) (v8 v9 : Bool) : Option (Bool × LD × Int) := F21x0 N v1 v2 v6 v7 v8 v9 (fun p => some p)
theorem bind21x0 (v1 v2 v6 : Int) (v7 : LB) (v8 v9 : Bool) (k0 : Bool × LD × Int → Option R) : F21x0 N v1 v2 v6 v7 v8 v9 k0 = (G21x0 N v1 v2 v6 v7 v8 v9).bind k0 := by
 unfold G21x0 F21x0
 repeat' (first | with_reducible apply cond_b | (with_reducible apply bnd_b; intro _) | rfl)
noncomputable def J21x0 (L : List Lf) (k0 : Bool × LD × Int → Option R) : Option R := F21x0 N (li L 1) (li L 2) (li L 6) (ls L 7) (lb L 8) (lb L 9) k0
noncomputable def sh21x0 : Sh := { tmps := [(0, .g ([.i .i64, .i .i64, .i .i64, .i .i64])), (1, .g ([.i .i64, .i .i64, .i .i64, .s, .b])), (2, .c (.b))], mem := [] }
noncomputable def A21x0 (L : List Lf) : List (Bool × Res) := bnd (J21x0 N L (fun p => some p)) fun q => [(q.isSome, ([.c (.sl 5 (q.getD default).1 (q.getD default).2.1), .c (.i .i64 (q.getD default).2.2)], []))]
theorem raw21x0 (L : List Lf) : bd Try.prog (T43x0 N) (h21x0s3 N).h 21 sh21x0 L = J21x0 N L (fun p => some ([.c (.sl 5 p.1 p.2.1), .c (.i .i64 p.2.2)], [])) := by kernel_rfl
theorem ok21x0 : FnOk Try.prog 21 sh21x0 (A21x0 N) :=
 (h21x0s3 N).fn progOk (T43x0_ok N) fun L x hx => ((raw21x0 N L).trans ((bind21x0 N ..).trans (alt1 x hx)))
noncomputable def T21x0 : Oracle := ext 21 (spSh sh21x0 (A21x0 N)) (T43x0 N)
theorem T21x0_ok : OracleOk Try.prog (T21x0 N) := FnOk.to (ok21x0 N) (T43x0_ok N)
noncomputable def rg77x0 : List (Nat × List Nat) := [(0, [0, 1]), (1, [0, 1]), (2, [7, 0, 1]), (3, [0, 7, 1]), (4, [0])]
noncomputable def hd77x0 : Hints := []
noncomputable def h77x0s0 (N : Nat) : Sg Try.prog 0 77 := .start hd77x0 rg77x0
noncomputable def F77x0 (v0 : LB) (k0 : Ty1 → Option R) : Option R :=
 bnd (V78x0 N v0) fun y0 =>
 bif (decide (y0 ≥ 0)) then
  bif ((decide (0 ≤ y0)) && (decide (y0 ≤ (v0.length : Int)))) then
   bif (((decide (0 ≤ (IntKind.wrap .i64 (y0 + 1)))) && (decide ((IntKind.wrap .i64 (y0 + 1)) ≤ (v0.length : Int)))) && (decide ((v0.length : Int) ≤ (v0.length : Int)))) then
    bnd ((v0.take (v0.length : Int).toNat).drop (IntKind.wrap .i64 (y0 + 1)).toNat) fun y1 =>
    k0 (((v0.take y0.toNat).drop 0), y1, true)
   else
    none
  else
   none
 else
  k0 (v0, ([] : List UInt8), false)
noncomputable def G77x0 (v0 : LB) : Option (Ty1) := F77x0 N v0 (fun p => some p)
theorem bind77x0 (v0 : LB) (k0 : Ty1 → Option R) : F77x0 N v0 k0 = (G77x0 N v0).bind k0 := by
 unfold G77x0 F77x0
 repeat' (first | with_reducible apply cond_b | (with_reducible apply bnd_b; intro _) | rfl)
noncomputable def sh77x0 : Sh := { tmps := [(0, .c (.s)), (1, .c (.ks [0]))], mem := [] }
noncomputable def A77x0 (L : List Lf) : List (Bool × Res) := bnd (F77x0 N (ls L 0) (fun p => some p)) fun q => [(q.isSome, ([.c (.s (q.getD default).1), .c (.s (q.getD default).2.1), .c (.b (q.getD default).2.2)], []))]
theorem raw77x0 (L : List Lf) : bd Try.prog (T21x0 N) (h77x0s0 N).h 77 sh77x0 L = F77x0 N (ls L 0) (fun p => some ([.c (.s p.1), .c (.s p.2.1), .c (.b p.2.2)], [])) := by kernel_rfl
theorem ok77x0 : FnOk Try.prog 77 sh77x0 (A77x0 N) :=
 (h77x0s0 N).fn progOk (T21x0_ok N) fun L x hx => ((raw77x0 N L).trans ((bind77x0 N ..).trans (alt1 x hx)))
noncomputable def T77x0 : Oracle := ext 77 (spSh sh77x0 (A77x0 N)) (T21x0 N)
theorem T77x0_ok : OracleOk Try.prog (T77x0 N) := FnOk.to (ok77x0 N) (T21x0_ok N)
noncomputable def rg63x0 : List (Nat × List Nat) := [(0, [0, 1]), (1, [0, 1])]
noncomputable def hd63x0 : Hints := []
noncomputable def h63x0s0 (N : Nat) : Sg Try.prog 0 63 := .start hd63x0 rg63x0
noncomputable def F63x0 (v0 : LB) (k0 : Ty1 → Option R) : Option R :=
 bnd (G77x0 N v0) fun y0 =>
 bif y0.isSome then
  k0 (y0.getD default)
 else
  none
noncomputable def G63x0 (v0 : LB) : Option (Ty1) := F63x0 N v0 (fun p => some p)
theorem bind63x0 (v0 : LB) (k0 : Ty1 → Option R) : F63x0 N v0 k0 = (G63x0 N v0).bind k0 := by
 unfold G63x0 F63x0
 repeat' (first | with_reducible apply cond_b | (with_reducible apply bnd_b; intro _) | rfl)
noncomputable def sh63x0 : Sh := { tmps := [(0, .c (.s)), (1, .c (.ks [0]))], mem := [] }
noncomputable def A63x0 (L : List Lf) : List (Bool × Res) := bnd (F63x0 N (ls L 0) (fun p => some p)) fun q => [(q.isSome, ([.c (.s (q.getD default).1), .c (.s (q.getD default).2.1), .c (.b (q.getD default).2.2)], []))]
theorem raw63x0 (L : List Lf) : bd Try.prog (T77x0 N) (h63x0s0 N).h 63 sh63x0 L = F63x0 N (ls L 0) (fun p => some ([.c (.s p.1), .c (.s p.2.1), .c (.b p.2.2)], [])) := by kernel_rfl
theorem ok63x0 : FnOk Try.prog 63 sh63x0 (A63x0 N) :=
 (h63x0s0 N).fn progOk (T77x0_ok N) fun L x hx => ((raw63x0 N L).trans ((bind63x0 N ..).trans (alt1 x hx)))
noncomputable def T63x0 : Oracle := ext 63 (spSh sh63x0 (A63x0 N)) (T77x0 N)
theorem T63x0_ok : OracleOk Try.prog (T63x0 N) := FnOk.to (ok63x0 N) (T77x0_ok N)
noncomputable def rg38x0 : List (Nat × List Nat) := [(0, [0, 1, 2]), (1, [3, 1, 6, 2]), (2, [1, 3, 7, 6, 2]), (3, [3, 8, 7, 6, 2]), (10, [28, 8, 7, 6, 2, 3]), (12, [28, 8, 7, 6, 2, 3]), (4, [8, 2, 7, 3, 6]), (5, [7, 3, 6]), (6, [7, 6, 3]), (8, [3, 7, 6]), (9, [7, 3, 6]), (7, [7, 6]), (13, [8, 7, 6]), (14, [7, 6]), (11, [8, 7, 6]), (15, [7, 6])]
noncomputable def hd38x0 : Hints := [(25, [3, 6, 7], [3, 6, 7], []), (29, [3, 6, 7, 60], [3, 6, 7], []), (24023, [3, 6, 7, 46], [3, 6, 7], []), (12041, [2, 3, 6, 7, 8, 75], [3, 6, 7], []), (36035, [2, 3, 6, 7, 8, 28, 70], [3, 6, 7], [])]
noncomputable def h38x0s0 (N : Nat) : Sg Try.prog 0 38 := .start hd38x0 rg38x0
noncomputable def F38x0x25 (w1 w2 w11 : Int) (k0 : Bool → Option R) : Option R :=
 bif (w2 == 1) then
  bnd (G41x0 N w1 true) fun y0 =>
  bif y0.isSome then
   k0 (decide (w11 > (y0.getD default)))
  else
   none
 else
  k0 false
noncomputable def G38x0x25 (w1 w2 w11 : Int) : Option (Bool) := F38x0x25 N w1 w2 w11 (fun p => some p)
theorem bind38x0x25 (w1 w2 w11 : Int) (k0 : Bool → Option R) : F38x0x25 N w1 w2 w11 k0 = (G38x0x25 N w1 w2 w11).bind k0 := by
 unfold G38x0x25 F38x0x25
 repeat' (first | with_reducible apply cond_b | (with_reducible apply bnd_b; intro _) | rfl)
noncomputable def sh38x0x25 : Sh := { tmps := [(3, .c (.p 3 0)), (6, .c (.p 6 0)), (7, .c (.p 7 0))], mem := [(3, .box ([.i .i64, .i .i64, .i .i64, .i .i64])), (6, .box ([.i .i64, .i .i64, .i .i64, .s, .b])), (7, .box ([.i .i64, .i .i64, .i .i64, .s, .b]))] }
noncomputable def K38x0x25w0 (L : List Lf) (p : Bool) : Ex × St := (.normal, mg (ofSh sh38x0x25 L) [3, 6, 7, 60] [(60, .c (.b p))] [3, 6, 7] [])
noncomputable def A38x0x25 (L : List Lf) : List (Bool × (Ex × St)) := bnd (F38x0x25 N (li L 1) (li L 2) (li L 11) (fun p => some p)) fun q => [(q.isSome, K38x0x25w0 L (q.getD default))]
theorem raw38x0x25 (L : List Lf) : pc Try.prog (T63x0 N) (h38x0s0 N).h 0 100 38 25 sh38x0x25 L [3, 6, 7, 60] [3, 6, 7] = F38x0x25 N (li L 1) (li L 2) (li L 11) (fun p => some (K38x0x25w0 L p)) := by kernel_rfl
noncomputable def h38x0s1 : Sg Try.prog 0 38 :=
 (h38x0s0 N).cut (A38x0x25 N) progOk (T63x0_ok N) fun L x hx => (raw38x0x25 N L).trans ((bind38x0x25 N ..).trans (alt1 x hx))
noncomputable def F38x0x29 (N : Nat) (w0 : Bool) (w2 w12 : Int) (k0 : Int → Option R) : Option R :=
 bif w0 then
  bif (decide (0 ≤ (IntKind.wrap .i64 (8 * w2)))) then
   bnd (IntKind.wrap .i64 (1 * 2 ^ (min (IntKind.wrap .i64 (8 * w2)).toNat 64))) fun y0 =>
   k0 (IntKind.wrap .i64 (w12 - y0))
  else
   none
 else
  k0 w12
noncomputable def G38x0x29 (w0 : Bool) (w2 w12 : Int) : Option (Int) := F38x0x29 N w0 w2 w12 (fun p => some p)
theorem bind38x0x29 (w0 : Bool) (w2 w12 : Int) (k0 : Int → Option R) : F38x0x29 N w0 w2 w12 k0 = (G38x0x29 N w0 w2 w12).bind k0 := by
 unfold G38x0x29 F38x0x29
 repeat' (first | with_reducible apply cond_b | (with_reducible apply bnd_b; intro _) | rfl)
noncomputable def sh38x0x29 : Sh := { tmps := [(3, .c (.p 3 0)), (6, .c (.p 6 0)), (7, .c (.p 7 0)), (60, .c (.b))], mem := [(3, .box ([.i .i64, .i .i64, .i .i64, .i .i64])), (6, .box ([.i .i64, .i .i64, .i .i64, .s, .b])), (7, .box ([.i .i64, .i .i64, .i .i64, .s, .b]))] }
noncomputable def K38x0x29w0 (L : List Lf) (p : Int) : Ex × St := (.normal, mg (ofSh sh38x0x29 L) [6, 7] [] [6, 7] [(7, .box [.i .i64 (li L 10), .i .i64 (li L 11), .i .i64 p, .s (ls L 13), .b (lb L 14)])])
noncomputable def A38x0x29 (L : List Lf) : List (Bool × (Ex × St)) := bnd (F38x0x29 N (lb L 0) (li L 2) (li L 12) (fun p => some p)) fun q => [(q.isSome, K38x0x29w0 L (q.getD default))]
theorem raw38x0x29 (L : List Lf) : pc Try.prog (T63x0 N) (h38x0s1 N).h 0 100 38 29 sh38x0x29 L [6, 7] [6, 7] = F38x0x29 N (lb L 0) (li L 2) (li L 12) (fun p => some (K38x0x29w0 L p)) := by kernel_rfl
noncomputable def h38x0s2 : Sg Try.prog 0 38 :=
 (h38x0s1 N).cut (A38x0x29 N) progOk (T63x0_ok N) fun L x hx => (raw38x0x29 N L).trans ((bind38x0x29 N ..).trans (alt1 x hx))
noncomputable def F38x0x24023 (w0 : Bool) (w2 w3 w12 : Int) (k0 : Int → Option R) : Option R :=
 bif w0 then
  k0 0
 else
  bnd (G38x0x25 N w2 w3 w12) fun y0 =>
  bif y0.isSome then
   bnd (G38x0x29 N (y0.getD default) w2 w12) fun y1 =>
   bif y1.isSome then
    k0 (y1.getD default)
   else
    none
  else
   none
noncomputable def G38x0x24023 (w0 : Bool) (w2 w3 w12 : Int) : Option (Int) := F38x0x24023 N w0 w2 w3 w12 (fun p => some p)
theorem bind38x0x24023 (w0 : Bool) (w2 w3 w12 : Int) (k0 : Int → Option R) : F38x0x24023 N w0 w2 w3 w12 k0 = (G38x0x24023 N w0 w2 w3 w12).bind k0 := by
 unfold G38x0x24023 F38x0x24023
 repeat' (first | with_reducible apply cond_b | (with_reducible apply bnd_b; intro _) | rfl)
noncomputable def J38x0x24023 (L : List Lf) (k0 : Int → Option R) : Option R := F38x0x24023 N (lb L 0) (li L 2) (li L 3) (li L 12) k0
noncomputable def sh38x0x24023 : Sh := { tmps := [(3, .c (.p 3 0)), (6, .c (.p 6 0)), (7, .c (.p 7 0)), (46, .c (.b))], mem := [(3, .box ([.i .i64, .i .i64, .i .i64, .i .i64])), (6, .box ([.i .i64, .i .i64, .i .i64, .s, .b])), (7, .box ([.i .i64, .i .i64, .i .i64, .s, .b]))] }
noncomputable def K38x0x24023w0 (L : List Lf) (p : Int) : Ex × St := (.normal, mg (ofSh sh38x0x24023 L) [6, 7] [] [6, 7] [(7, .box [.i .i64 (li L 10), .i .i64 (li L 11), .i .i64 p, .s (ls L 13), .b (lb L 14)])])
noncomputable def A38x0x24023 (L : List Lf) : List (Bool × (Ex × St)) := bnd (J38x0x24023 N L (fun p => some p)) fun q => [(q.isSome, K38x0x24023w0 L (q.getD default))]
theorem raw38x0x24023 (L : List Lf) : pc Try.prog (T63x0 N) (h38x0s2 N).h 0 100 38 24023 sh38x0x24023 L [6, 7] [6, 7] = J38x0x24023 N L (fun p => some (K38x0x24023w0 L p)) := by kernel_rfl
noncomputable def h38x0s3 : Sg Try.prog 0 38 :=
 (h38x0s2 N).cut (A38x0x24023 N) progOk (T63x0_ok N) fun L x hx => (raw38x0x24023 N L).trans ((bind38x0x24023 N ..).trans (alt1 x hx))
noncomputable def F38x0x12041 (w0 : Bool) (w2 : LD) (w3 : Bool) (w5 w6 w15 : Int) (w16 : LB) (k0 : Ty3 → Option R) : Option R :=
 bif w3 then
  bnd (G63x0 N (strD w2)) fun y0 =>
  bif y0.isSome then
   k0 (w15, (y0.getD default).1, ((y0.getD default).1 == ([] : List UInt8)))
  else
   none
 else
  bnd (G62x0 N w2 w0) fun y1 =>
  bif y1.isSome then
   bnd (G41x0 N w5 (w6 == 1)) fun y2 =>
   bif y2.isSome then
    bnd (G38x0x24023 N ((y1.getD default) == (y2.getD default)) w5 w6 (y1.getD default)) fun y3 =>
    bif y3.isSome then
     k0 ((y3.getD default), w16, ((y1.getD default) == (y2.getD default)))
    else
     none
   else
    none
  else
   none
noncomputable def G38x0x12041 (w0 : Bool) (w2 : LD) (w3 : Bool) (w5 w6 w15 : Int) (w16 : LB) : Option (Ty3) := F38x0x12041 N w0 w2 w3 w5 w6 w15 w16 (fun p => some p)
theorem bind38x0x12041 (w0 : Bool) (w2 : LD) (w3 : Bool) (w5 w6 w15 : Int) (w16 : LB) (k0 : Ty3 → Option R) : F38x0x12041 N w0 w2 w3 w5 w6 w15 w16 k0 = (G38x0x12041 N w0 w2 w3 w5 w6 w15 w16).bind k0 := by
 unfold G38x0x12041 F38x0x12041
 repeat' (first | with_reducible apply cond_b | (with_reducible apply bnd_b; intro _) | rfl)
noncomputable def J38x0x12041 (L : List Lf) (k0 : Ty3 → Option R) : Option R := F38x0x12041 N (lb L 0) (ll L 2) (lb L 3) (li L 5) (li L 6) (li L 15) (ls L 16) k0
noncomputable def sh38x0x12041 : Sh := { tmps := [(2, .c (.b)), (3, .c (.p 3 0)), (6, .c (.p 6 0)), (7, .c (.p 7 0)), (8, .c (.sl 5)), (75, .c (.b))], mem := [(3, .box ([.i .i64, .i .i64, .i .i64, .i .i64])), (6, .box ([.i .i64, .i .i64, .i .i64, .s, .b])), (7, .box ([.i .i64, .i .i64, .i .i64, .s, .b]))] }
noncomputable def K38x0x12041w0 (L : List Lf) (p : Ty3) : Ex × St := (.normal, mg (ofSh sh38x0x12041 L) [6, 7] [] [6, 7] [(7, .box [.i .i64 (li L 13), .i .i64 (li L 14), .i .i64 p.1, .s p.2.1, .b p.2.2])])
noncomputable def A38x0x12041 (L : List Lf) : List (Bool × (Ex × St)) := bnd (J38x0x12041 N L (fun p => some p)) fun q => [(q.isSome, K38x0x12041w0 L (q.getD default))]
theorem raw38x0x12041 (L : List Lf) : pc Try.prog (T63x0 N) (h38x0s3 N).h 0 100 38 12041 sh38x0x12041 L [6, 7] [6, 7] = J38x0x12041 N L (fun p => some (K38x0x12041w0 L p)) := by kernel_rfl
noncomputable def h38x0s4 : Sg Try.prog 0 38 :=
 (h38x0s3 N).cut (A38x0x12041 N) progOk (T63x0_ok N) fun L x hx => (raw38x0x12041 N L).trans ((bind38x0x12041 N ..).trans (alt1 x hx))
noncomputable def F38x0x36035 (w0 : Bool) (w2 : LD) (w3 : Int) (w4 : Bool) (w6 w7 w16 : Int) (w17 : LB) (w18 : Bool) (k0 : Ty3 → Option R) : Option R :=
 bif w4 then
  k0 (w16, (strD w2), w18)
 else
  bnd (G38x0x12041 N w0 w2 (w3 == 2) w6 w7 w16 w17) fun y0 =>
  bif y0.isSome then
   k0 (y0.getD default)
  else
   none
noncomputable def G38x0x36035 (w0 : Bool) (w2 : LD) (w3 : Int) (w4 : Bool) (w6 w7 w16 : Int) (w17 : LB) (w18 : Bool) : Option (Ty3) := F38x0x36035 N w0 w2 w3 w4 w6 w7 w16 w17 w18 (fun p => some p)
theorem bind38x0x36035 (w0 : Bool) (w2 : LD) (w3 : Int) (w4 : Bool) (w6 w7 w16 : Int) (w17 : LB) (w18 : Bool) (k0 : Ty3 → Option R) : F38x0x36035 N w0 w2 w3 w4 w6 w7 w16 w17 w18 k0 = (G38x0x36035 N w0 w2 w3 w4 w6 w7 w16 w17 w18).bind k0 := by
 unfold G38x0x36035 F38x0x36035
 repeat' (first | with_reducible apply cond_b | (with_reducible apply bnd_b; intro _) | rfl)
noncomputable def J38x0x36035 (L : List Lf) (k0 : Ty3 → Option R) : Option R := F38x0x36035 N (lb L 0) (ll L 2) (li L 3) (lb L 4) (li L 6) (li L 7) (li L 16) (ls L 17) (lb L 18) k0
noncomputable def sh38x0x36035 : Sh := { tmps := [(2, .c (.b)), (3, .c (.p 3 0)), (6, .c (.p 6 0)), (7, .c (.p 7 0)), (8, .c (.sl 5)), (28, .c (.i .i64)), (70, .c (.b))], mem := [(3, .box ([.i .i64, .i .i64, .i .i64, .i .i64])), (6, .box ([.i .i64, .i .i64, .i .i64, .s, .b])), (7, .box ([.i .i64, .i .i64, .i .i64, .s, .b]))] }
noncomputable def K38x0x36035w0 (L : List Lf) (p : Ty3) : Ex × St := (.normal, mg (ofSh sh38x0x36035 L) [6, 7] [] [6, 7] [(7, .box [.i .i64 (li L 14), .i .i64 (li L 15), .i .i64 p.1, .s p.2.1, .b p.2.2])])
noncomputable def A38x0x36035 (L : List Lf) : List (Bool × (Ex × St)) := bnd (J38x0x36035 N L (fun p => some p)) fun q => [(q.isSome, K38x0x36035w0 L (q.getD default))]
theorem raw38x0x36035 (L : List Lf) : pc Try.prog (T63x0 N) (h38x0s4 N).h 0 100 38 36035 sh38x0x36035 L [6, 7] [6, 7] = J38x0x36035 N L (fun p => some (K38x0x36035w0 L p)) := by kernel_rfl
noncomputable def h38x0s5 : Sg Try.prog 0 38 :=
 (h38x0s4 N).cut (A38x0x36035 N) progOk (T63x0_ok N) fun L x hx => (raw38x0x36035 N L).trans ((bind38x0x36035 N ..).trans (alt1 x hx))
noncomputable def F38x0 (v1 v2 v3 : Int) (v5 : LD) (v6 : Bool) (k0 : Ty3 → Option R) : Option R :=
 bif (((decide (0 ≤ v3)) && (decide (v3 ≤ (IntKind.wrap .i64 (v3 + v1))))) && (decide ((IntKind.wrap .i64 (v3 + v1)) ≤ (v5.length : Int)))) then
  bnd (((v5.take (IntKind.wrap .i64 (v3 + v1)).toNat).drop v3.toNat) : List D) fun y0 =>
  bnd (G38x0x36035 N v6 y0 v2 (v2 == 3) v1 v2 0 ([] : List UInt8) false) fun y1 =>
  bif y1.isSome then
   k0 (y1.getD default)
  else
   none
 else
  none
noncomputable def G38x0 (v1 v2 v3 : Int) (v5 : LD) (v6 : Bool) : Option (Ty3) := F38x0 N v1 v2 v3 v5 v6 (fun p => some p)
theorem bind38x0 (v1 v2 v3 : Int) (v5 : LD) (v6 : Bool) (k0 : Ty3 → Option R) : F38x0 N v1 v2 v3 v5 v6 k0 = (G38x0 N v1 v2 v3 v5 v6).bind k0 := by
 unfold G38x0 F38x0
 repeat' (first | with_reducible apply cond_b | (with_reducible apply bnd_b; intro _) | rfl)
noncomputable def J38x0 (L : List Lf) (k0 : Ty3 → Option R) : Option R := F38x0 N (li L 1) (li L 2) (li L 3) (ll L 5) (lb L 6) k0
noncomputable def sh38x0 : Sh := { tmps := [(0, .g ([.i .i64, .i .i64, .i .i64, .i .i64])), (1, .c (.sl 5)), (2, .c (.b))], mem := [] }
noncomputable def K38x0w0 (L : List Lf) (p : Ty3) : Res := ([.g [.i .i64 (li L 0), .i .i64 (li L 2), .i .i64 p.1, .s p.2.1, .b p.2.2]], [])
noncomputable def A38x0 (L : List Lf) : List (Bool × Res) := bnd (J38x0 N L (fun p => some p)) fun q => [(q.isSome, K38x0w0 L (q.getD default))]
theorem raw38x0 (L : List Lf) : bd Try.prog (T63x0 N) (h38x0s5 N).h 38 sh38x0 L = J38x0 N L (fun p => some (K38x0w0 L p)) := by kernel_rfl
theorem ok38x0 : FnOk Try.prog 38 sh38x0 (A38x0 N) :=
 (h38x0s5 N).fn progOk (T63x0_ok N) fun L x hx => ((raw38x0 N L).trans ((bind38x0 N ..).trans (alt1 x hx)))
noncomputable def T38x0 : Oracle := ext 38 (spSh sh38x0 (A38x0 N)) (T63x0 N)
theorem T38x0_ok : OracleOk Try.prog (T38x0 N) := FnOk.to (ok38x0 N) (T63x0_ok N)
noncomputable def rg14x0 : List (Nat × List Nat) := [(0, [0, 1]), (1, [2, 3]), (2, [2, 3, 5]), (3, [14, 13, 12, 5, 3, 2]), (4, [12, 14, 5, 3, 2, 13]), (5, [5, 7, 3, 2, 14, 13, 12]), (6, [14, 13, 12, 5, 3, 2]), (7, [5])]
noncomputable def hd14x0 : Hints := [(9, [2, 3, 5, 12, 13, 14], [2, 3, 5], [5])]
noncomputable def h14x0s0 (N : Nat) : Sg Try.prog 0 14 := .start hd14x0 rg14x0
noncomputable def S14x0x9 (w1 : LD) (w2 : Int) (w5 : Bool) (w17 : LD) (w3 : Int) (w18 : Bool) (w19 : LD) (kr : Int → Bool → LD → Option R) (k0 : Bool × LD → Option R) : Option R :=
 bif (decide (w3 < w2)) then
  bif (inB w3 w1.length) then
   bnd (G38x0 N ((w1.getD w3.toNat (.i 0)).cell 1).toI ((w1.getD w3.toNat (.i 0)).cell 2).toI ((w1.getD w3.toNat (.i 0)).cell 3).toI w17 w5) fun y0 =>
   bif y0.isSome then
    bif (decide ((w19.length + 1) * 48 ≤ room) && decide ((w19.length + 1) ≤ strMax)) then
     bnd ((w19 ++ [(.a [(.i ((w1.getD w3.toNat (.i 0)).cell 0).toI), (.i ((w1.getD w3.toNat (.i 0)).cell 2).toI), (.i (y0.getD default).1), (.s (y0.getD default).2.1), (.b (y0.getD default).2.2)])]) : List D) fun y1 =>
     kr (IntKind.wrap .i64 (w3 + 1)) false y1
    else
     none
   else
    none
  else
   none
 else
  k0 (w18, w19)
noncomputable def L14x0x9 (N : Nat) {R : Type} (w1 : LD) (w2 : Int) (w5 : Bool) (w17 : LD) : Nat → Int → Bool → LD → (Bool × LD → Option R) → Option R
 | 0, _, _, _, _ => none
 | m + 1, w3, w18, w19, k0 => S14x0x9 N w1 w2 w5 w17 w3 w18 w19 (fun w3 w18 w19 => L14x0x9 N w1 w2 w5 w17 m w3 w18 w19 k0) k0
noncomputable def G14x0x9 (w1 : LD) (w2 : Int) (w5 : Bool) (w17 : LD) (w3 : Int) (w18 : Bool) (w19 : LD) : Option (Bool × LD) := L14x0x9 N (R := (Bool × LD)) w1 w2 w5 w17 N w3 w18 w19 (fun p => some p)
noncomputable def J14x0x9 (L x : List Lf) (kr : List Lf → Option R) (k0 : Bool × LD → Option R) : Option R := S14x0x9 N (ll L 1) (li L 2) (lb L 5) (ll L 17) (li x 0) (lb x 1) (ll x 2) (fun w3 w18 w19 => kr [.i w3, .b w18, .l w19]) k0
theorem sb14x0x9 (L x : List Lf) (kr : List Lf → Option R) (k0 : Bool × LD → Option R) : J14x0x9 N L x kr k0 = (J14x0x9 N L x (fun y => some (.inl y)) (fun p => some (.inr p))).bind (sumE kr k0) := by
 unfold J14x0x9 S14x0x9
 repeat' (first | with_reducible apply cond_b | (with_reducible apply bnd_b; intro _) | rfl)
noncomputable def Q14x0x9 (L : List Lf) (m : Nat) (x : List Lf) : Option (Bool × LD) := L14x0x9 N (R := (Bool × LD)) (ll L 1) (li L 2) (lb L 5) (ll L 17) m (li x 0) (lb x 1) (ll x 2) (fun p => some p)
noncomputable def sh14x0x9 : Sh := { tmps := [(2, .c (.p 2 0)), (3, .c (.p 3 0)), (5, .c (.o 5)), (12, .c (.sl 63)), (13, .c (.i .i64)), (14, .c (.i .i64))], mem := [(2, .box (.b :: [.b, .i .i64, .sl 61, .i .i64, .i .i64])), (3, .box ([.i .i64, .i .i64, .i .i64, .sl 44, .sl 5])), (5, .row 26 true)] }
noncomputable def A14x0x9 (L : List Lf) : List (Bool × (Ex × St)) := bnd (Q14x0x9 N L N (pk sh14x0x9 [3, 18, 19] L)) fun q => [(q.isSome, ((.exit 0), ⟨[(5, .c (.o 5))], [(5, .row 26 true (q.getD default).1 (q.getD default).2)]⟩))]
theorem step14x0x9 (m : Nat) (kn : St → Option (Ex × St)) (L x : List Lf) : lpB Try.prog (T38x0 N) (h14x0s0 N).h 0 14 9 sh14x0x9 [3, 18, 19] [4, 5] [5] (m + 100) kn L x = J14x0x9 N L x (fun y => kn (ofSh sh14x0x9 (mx sh14x0x9 [3, 18, 19] L y))) (fun p => some ((.exit 0), ⟨[(5, .c (.o 5))], [(5, .row 26 true p.1 p.2)]⟩)) := by kernel_rfl
theorem ql14x0x9 (L : List Lf) (m : Nat) (x : List Lf) : Q14x0x9 N L (m + 1) x = J14x0x9 N L x (Q14x0x9 N L m) some := by kernel_rfl
noncomputable def h14x0s1 : Sg Try.prog 0 14 :=
 (h14x0s0 N).lp (A14x0x9 N) N progOk (T38x0_ok N) (fun m kn L x => (step14x0x9 N m kn L x).trans (sb14x0x9 N L x _ _)) (fun L m x => (ql14x0x9 N L m x).trans (sb14x0x9 N L x (Q14x0x9 N L m) some)) fun L x hx => alt1 x hx
noncomputable def F14x0 (v1 : Bool) (v4 : LD) (v6 v7 : Int) (v13 : LD) (k0 : Bool × LD → Option R) : Option R :=
 bnd (G18x0 N v4 v6 (v7 == 3)) fun y0 =>
 bif y0.isSome then
  bnd (G14x0x9 N (y0.getD default).2 ((y0.getD default).2.length : Int) v1 v13 0 true []) fun y1 =>
  bif y1.isSome then
   k0 (y1.getD default)
  else
   none
 else
  none
noncomputable def G14x0 (v1 : Bool) (v4 : LD) (v6 v7 : Int) (v13 : LD) : Option (Bool × LD) := F14x0 N v1 v4 v6 v7 v13 (fun p => some p)
theorem bind14x0 (v1 : Bool) (v4 : LD) (v6 v7 : Int) (v13 : LD) (k0 : Bool × LD → Option R) : F14x0 N v1 v4 v6 v7 v13 k0 = (G14x0 N v1 v4 v6 v7 v13).bind k0 := by
 unfold G14x0 F14x0
 repeat' (first | with_reducible apply cond_b | (with_reducible apply bnd_b; intro _) | rfl)
noncomputable def J14x0 (L : List Lf) (k0 : Bool × LD → Option R) : Option R := F14x0 N (lb L 1) (ll L 4) (li L 6) (li L 7) (ll L 13) k0
noncomputable def sh14x0 : Sh := { tmps := [(0, .g (.b :: [.b, .i .i64, .sl 61, .i .i64, .i .i64])), (1, .g ([.i .i64, .i .i64, .i .i64, .sl 44, .sl 5]))], mem := [] }
noncomputable def A14x0 (L : List Lf) : List (Bool × Res) := bnd (J14x0 N L (fun p => some p)) fun q => [(q.isSome, ([.c (.sl 26 (q.getD default).1 (q.getD default).2)], []))]
theorem raw14x0 (L : List Lf) : bd Try.prog (T38x0 N) (h14x0s1 N).h 14 sh14x0 L = J14x0 N L (fun p => some ([.c (.sl 26 p.1 p.2)], [])) := by kernel_rfl
theorem ok14x0 : FnOk Try.prog 14 sh14x0 (A14x0 N) :=
 (h14x0s1 N).fn progOk (T38x0_ok N) fun L x hx => ((raw14x0 N L).trans ((bind14x0 N ..).trans (alt1 x hx)))
noncomputable def T14x0 : Oracle := ext 14 (spSh sh14x0 (A14x0 N)) (T38x0 N)
theorem T14x0_ok : OracleOk Try.prog (T14x0 N) := FnOk.to (ok14x0 N) (T38x0_ok N)
noncomputable def rg5x0 : List (Nat × List Nat) := [(0, [0, 1]), (1, [2, 1]), (2, [7, 6, 2, 1]), (3, [7]), (4, [6, 2, 1])]
noncomputable def hd5x0 : Hints := []
noncomputable def h5x0s0 (N : Nat) : Sg Try.prog 0 5 := .start hd5x0 rg5x0
noncomputable def F5x0 (v1 : LD) (v2 : Int) (k0 : Bool × LD × Int → Option R) : Option R :=
 bnd (G13x0 N v1 v2) fun y0 =>
 bif y0.isSome then
  bif ((y0.getD default).2.2.2.2.2.2.2 != 0) then
   k0 (true, [], (y0.getD default).2.2.2.2.2.2.2)
  else
   bif (inB v2 v1.length) then
    bnd (G14x0 N (y0.getD default).2.1 (y0.getD default).2.2.2.2.1 (y0.getD default).2.2.2.2.2.2.1 ((v1.getD v2.toNat (.i 0)).cell 0).toI ((v1.getD v2.toNat (.i 0)).cell 4).items) fun y1 =>
    bif y1.isSome then
     k0 ((y1.getD default).1, (y1.getD default).2, 0)
    else
     none
   else
    none
 else
  none
noncomputable def G5x0 (v1 : LD) (v2 : Int) : Option (Bool × LD × Int) := F5x0 N v1 v2 (fun p => some p)
theorem bind5x0 (v1 : LD) (v2 : Int) (k0 : Bool × LD × Int → Option R) : F5x0 N v1 v2 k0 = (G5x0 N v1 v2).bind k0 := by
 unfold G5x0 F5x0
 repeat' (first | with_reducible apply cond_b | (with_reducible apply bnd_b; intro _) | rfl)
noncomputable def sh5x0 : Sh := { tmps := [(0, .g ([.sl 41])), (1, .c (.i .i64))], mem := [] }
noncomputable def A5x0 (L : List Lf) : List (Bool × Res) := bnd (F5x0 N (ll L 1) (li L 2) (fun p => some p)) fun q => [(q.isSome, ([.c (.sl 26 (q.getD default).1 (q.getD default).2.1), .c (.i .i64 (q.getD default).2.2)], []))]
theorem raw5x0 (L : List Lf) : bd Try.prog (T14x0 N) (h5x0s0 N).h 5 sh5x0 L = F5x0 N (ll L 1) (li L 2) (fun p => some ([.c (.sl 26 p.1 p.2.1), .c (.i .i64 p.2.2)], [])) := by kernel_rfl
theorem ok5x0 : FnOk Try.prog 5 sh5x0 (A5x0 N) :=
 (h5x0s0 N).fn progOk (T14x0_ok N) fun L x hx => ((raw5x0 N L).trans ((bind5x0 N ..).trans (alt1 x hx)))
noncomputable def T5x0 : Oracle := ext 5 (spSh sh5x0 (A5x0 N)) (T14x0 N)
theorem T5x0_ok : OracleOk Try.prog (T5x0 N) := FnOk.to (ok5x0 N) (T14x0_ok N)
noncomputable def rg49x0 : List (Nat × List Nat) := [(0, [0, 1, 2]), (1, [0, 1, 2])]
noncomputable def hd49x0 : Hints := []
noncomputable def h49x0s0 (N : Nat) : Sg Try.prog 0 49 := .start hd49x0 rg49x0
noncomputable def F49x0 (N : Nat) (v0 v1 v2 : Int) (k0 : Bool → R) : R :=
 k0 (bif (decide (v0 < v1)) then true else (decide (v0 > v2)))
noncomputable def V49x0 (v0 v1 v2 : Int) : Bool := F49x0 N v0 v1 v2 (fun p => p)
theorem tot49x0 (v0 v1 v2 : Int) (k0 : Bool → R) : F49x0 N v0 v1 v2 k0 = k0 (V49x0 N v0 v1 v2) := by
 unfold V49x0 F49x0
 repeat' (first | rfl | apply cond_k | (apply bnd_k; intro _))
noncomputable def sh49x0 : Sh := { tmps := [(0, .c (.i .i64)), (1, .c (.i .i64)), (2, .c (.i .i64))], mem := [] }
noncomputable def A49x0 (L : List Lf) : List (Bool × Res) := bnd (F49x0 N (li L 0) (li L 1) (li L 2) (fun p => p)) fun q => [(true, ([.c (.b q)], []))]
theorem raw49x0 (L : List Lf) : bd Try.prog (T5x0 N) (h49x0s0 N).h 49 sh49x0 L = F49x0 N (li L 0) (li L 1) (li L 2) (fun p => some ([.c (.b p)], [])) := by kernel_rfl
theorem ok49x0 : FnOk Try.prog 49 sh49x0 (A49x0 N) :=
 (h49x0s0 N).fn progOk (T5x0_ok N) fun L x hx => ((raw49x0 N L).trans ((tot49x0 N ..).trans (alt0 _ _ hx)))
noncomputable def T49x0 : Oracle := ext 49 (spSh sh49x0 (A49x0 N)) (T5x0 N)
theorem T49x0_ok : OracleOk Try.prog (T49x0 N) := FnOk.to (ok49x0 N) (T5x0_ok N)
noncomputable def rg72x0 : List (Nat × List Nat) := [(0, [0]), (1, [1]), (2, []), (3, [1]), (4, []), (5, [1]), (6, [17, 16, 15, 1]), (7, [17, 15, 1, 16]), (8, [4, 1, 3, 17, 16, 15]), (10, [4, 1, 3, 17, 16, 15]), (12, [4, 1, 3, 17, 16, 15]), (13, []), (11, []), (9, []), (14, [1, 3, 4, 17, 16, 15]), (15, [59, 58, 57, 4, 17, 16, 15, 1]), (16, [57, 59, 4, 58, 17, 16, 15, 1]), (17, [6, 4, 59, 58, 57, 17, 16, 15, 1]), (18, []), (19, [59, 58, 57, 4, 17, 16, 15, 1]), (20, [17, 16, 15, 1]), (21, [])]
noncomputable def hd72x0 : Hints := [(18, [1, 15, 16, 17], [1], []), (25, [1, 3, 4, 15, 16, 17], [1, 4], []), (45, [1, 4, 15, 16, 17, 57, 58, 59], [1, 4], [])]
noncomputable def h72x0s0 (N : Nat) : Sg Try.prog 0 72 := .start hd72x0 rg72x0
noncomputable def F72x0x25 (w9 w10 : Int) (k0 : Bool → R) : R :=
 bnd (V49x0 N w9 0 255) fun y0 =>
 bif y0 then
  k0 true
 else
  bnd (V49x0 N w10 1 255) fun y1 =>
  k0 y1
noncomputable def V72x0x25 (w9 w10 : Int) : Bool := F72x0x25 N w9 w10 (fun p => p)
theorem tot72x0x25 (w9 w10 : Int) (k0 : Bool → R) : F72x0x25 N w9 w10 k0 = k0 (V72x0x25 N w9 w10) := by
 unfold V72x0x25 F72x0x25
 repeat' (first | rfl | apply cond_k | (apply bnd_k; intro _))
noncomputable def sh72x0x25 : Sh := { tmps := [(1, .c (.p 1 0)), (3, .c (.i .i64)), (4, .c (.p 4 0)), (15, .c (.sl 61)), (16, .c (.i .i64)), (17, .c (.i .i64))], mem := [(1, .box ([.b, .i .i64, .sl 61])), (4, .box ([.i .i64, .i .i64, .i .i64]))] }
noncomputable def K72x0x25w0 (L : List Lf) (p : Bool) : Ex × St := (.normal, mg (ofSh sh72x0x25 L) [1, 3, 4, 15, 16, 17, 22] [(22, .c (.b p))] [1, 4] [])
noncomputable def A72x0x25 (L : List Lf) : List (Bool × (Ex × St)) := bnd (F72x0x25 N (li L 9) (li L 10) (fun p => p)) fun q => [(true, K72x0x25w0 L q)]
theorem raw72x0x25 (L : List Lf) : pc Try.prog (T49x0 N) (h72x0s0 N).h 0 100 72 25 sh72x0x25 L [1, 3, 4, 15, 16, 17, 22] [1, 4] = F72x0x25 N (li L 9) (li L 10) (fun p => some (K72x0x25w0 L p)) := by kernel_rfl
noncomputable def h72x0s1 : Sg Try.prog 0 72 :=
 (h72x0s0 N).cut (A72x0x25 N) progOk (T49x0_ok N) fun L x hx => (raw72x0x25 N L).trans ((tot72x0x25 N ..).trans (alt0 _ _ hx))
noncomputable def S72x0x45 (N : Nat) (w5 : LD) (w6 w12 : Int) (w7 : Int) (kr : Int → Option R) (k0 : Unit → Option R) (k1 : Unit → Option R) : Option R :=
 bif (decide (w7 < w6)) then
  bif (inB w7 w5.length) then
   bif (((w5.getD w7.toNat (.i 0)).cell 0).toI == w12) then
    k0 ()
   else
    kr (IntKind.wrap .i64 (w7 + 1))
  else
   none
 else
  k1 ()
noncomputable def L72x0x45 (N : Nat) {R : Type} (w5 : LD) (w6 w12 : Int) : Nat → Int → (Unit → Option R) → (Unit → Option R) → Option R
 | 0, _, _, _ => none
 | m + 1, w7, k0, k1 => S72x0x45 N w5 w6 w12 w7 (fun w7 => L72x0x45 N w5 w6 w12 m w7 k0 k1) k0 k1
noncomputable def G72x0x45 (w5 : LD) (w6 w12 : Int) (w7 : Int) : Option (Sum (Unit) (Unit)) := L72x0x45 N (R := (Sum (Unit) (Unit))) w5 w6 w12 N w7 (fun p => some (.inl p)) (fun p => some (.inr p))
noncomputable def J72x0x45 (L x : List Lf) (kr : List Lf → Option R) (k0 : Unit → Option R) (k1 : Unit → Option R) : Option R := S72x0x45 N (ll L 5) (li L 6) (li L 12) (li x 0) (fun w7 => kr [.i w7]) k0 k1
theorem sb72x0x45 (L x : List Lf) (kr : List Lf → Option R) (k0 : Unit → Option R) (k1 : Unit → Option R) : J72x0x45 N L x kr k0 k1 = (J72x0x45 N L x (fun y => some (.inl y)) (fun p => some (.inr (.inl p))) (fun p => some (.inr (.inr p)))).bind (sumE kr (sumE k0 k1)) := by
 unfold J72x0x45 S72x0x45
 repeat' (first | with_reducible apply cond_b | (with_reducible apply bnd_b; intro _) | rfl)
noncomputable def Q72x0x45 (L : List Lf) (m : Nat) (x : List Lf) : Option (Sum (Unit) (Unit)) := L72x0x45 N (R := (Sum (Unit) (Unit))) (ll L 5) (li L 6) (li L 12) m (li x 0) (fun p => some (.inl p)) (fun p => some (.inr p))
noncomputable def sh72x0x45 : Sh := { tmps := [(1, .c (.p 1 0)), (4, .c (.p 4 0)), (15, .c (.sl 61)), (16, .c (.i .i64)), (17, .c (.i .i64)), (57, .c (.sl 61)), (58, .c (.i .i64)), (59, .c (.i .i64))], mem := [(1, .box ([.b, .i .i64, .sl 61])), (4, .box ([.i .i64, .i .i64, .i .i64]))] }
noncomputable def K72x0x45w0 (L : List Lf) (_ : Unit) : Ex × St := (.ret, mg (ofSh sh72x0x45 L) [2] [(2, .c (.i .i64 5))] [1] [])
noncomputable def A72x0x45 (L : List Lf) : List (Bool × (Ex × St)) := bnd (Q72x0x45 N L N (pk sh72x0x45 [7] L)) fun q => [((inlB q), K72x0x45w0 L ()), ((inrQ q).isSome, ((.exit 3), mg (ofSh sh72x0x45 L) [1, 15, 16, 17] [] [1] []))]
theorem step72x0x45 (m : Nat) (kn : St → Option (Ex × St)) (L x : List Lf) : lpB Try.prog (T49x0 N) (h72x0s1 N).h 0 72 45 sh72x0x45 [7] [1, 2, 15, 16, 17] [1] (m + 100) kn L x = J72x0x45 N L x (fun y => kn (ofSh sh72x0x45 (mx sh72x0x45 [7] L y))) (fun _ => some (K72x0x45w0 L ())) (fun _ => some ((.exit 3), mg (ofSh sh72x0x45 L) [1, 15, 16, 17] [] [1] [])) := by kernel_rfl
theorem ql72x0x45 (L : List Lf) (m : Nat) (x : List Lf) : Q72x0x45 N L (m + 1) x = J72x0x45 N L x (Q72x0x45 N L m) (fun p => some (.inl p)) (fun p => some (.inr p)) := by kernel_rfl
noncomputable def h72x0s2 : Sg Try.prog 0 72 :=
 (h72x0s1 N).lp (A72x0x45 N) N progOk (T49x0_ok N) (fun m kn L x => (step72x0x45 N m kn L x).trans (sb72x0x45 N L x _ _ _)) (fun L m x => (ql72x0x45 N L m x).trans (sb72x0x45 N L x (Q72x0x45 N L m) (fun p => some (.inl p)) (fun p => some (.inr p)))) fun L x hx => (altS alt1) x hx
noncomputable def S72x0x18 (w1 : LD) (w2 : Int) (w7 : LD) (w3 : Int) (kr : Int → Option R) (k0 : Int → Option R) (k1 : Unit → Option R) : Option R :=
 bif (decide (w3 < w2)) then
  bif (inB w3 w1.length) then
   bnd (V72x0x25 N ((w1.getD w3.toNat (.i 0)).cell 0).toI ((w1.getD w3.toNat (.i 0)).cell 1).toI) fun y0 =>
   bif y0 then
    k0 9
   else
    bnd (V49x0 N ((w1.getD w3.toNat (.i 0)).cell 2).toI 0 3) fun y1 =>
    bif y1 then
     k0 7
    else
     bnd (bif (decide (((w1.getD w3.toNat (.i 0)).cell 2).toI ≤ 1)) then (((w1.getD w3.toNat (.i 0)).cell 1).toI != 1) else false) fun y2 =>
     bnd (bif y2 then (((w1.getD w3.toNat (.i 0)).cell 1).toI != 2) else false) fun y3 =>
     bnd (bif y3 then (((w1.getD w3.toNat (.i 0)).cell 1).toI != 4) else false) fun y4 =>
     bif y4 then
      k0 2
     else
      bif ((decide (0 ≤ w3)) && (decide (w3 ≤ (w7.length : Int)))) then
       bnd (G72x0x45 N ((w7.take w3.toNat).drop 0) (((w7.take w3.toNat).drop 0).length : Int) ((w1.getD w3.toNat (.i 0)).cell 0).toI 0) fun y5 =>
       bif (inlB y5) then
        k0 5
       else
        bif (inrQ y5).isSome then
         kr (IntKind.wrap .i64 (w3 + 1))
        else
         none
      else
       none
  else
   none
 else
  k1 ()
noncomputable def L72x0x18 (N : Nat) {R : Type} (w1 : LD) (w2 : Int) (w7 : LD) : Nat → Int → (Int → Option R) → (Unit → Option R) → Option R
 | 0, _, _, _ => none
 | m + 1, w3, k0, k1 => S72x0x18 N w1 w2 w7 w3 (fun w3 => L72x0x18 N w1 w2 w7 m w3 k0 k1) k0 k1
noncomputable def G72x0x18 (w1 : LD) (w2 : Int) (w7 : LD) (w3 : Int) : Option (Sum (Int) (Unit)) := L72x0x18 N (R := (Sum (Int) (Unit))) w1 w2 w7 N w3 (fun p => some (.inl p)) (fun p => some (.inr p))
noncomputable def J72x0x18 (L x : List Lf) (kr : List Lf → Option R) (k0 : Int → Option R) (k1 : Unit → Option R) : Option R := S72x0x18 N (ll L 1) (li L 2) (ll L 7) (li x 0) (fun w3 => kr [.i w3]) k0 k1
theorem sb72x0x18 (L x : List Lf) (kr : List Lf → Option R) (k0 : Int → Option R) (k1 : Unit → Option R) : J72x0x18 N L x kr k0 k1 = (J72x0x18 N L x (fun y => some (.inl y)) (fun p => some (.inr (.inl p))) (fun p => some (.inr (.inr p)))).bind (sumE kr (sumE k0 k1)) := by
 unfold J72x0x18 S72x0x18
 repeat' (first | with_reducible apply cond_b | (with_reducible apply bnd_b; intro _) | rfl)
noncomputable def Q72x0x18 (L : List Lf) (m : Nat) (x : List Lf) : Option (Sum (Int) (Unit)) := L72x0x18 N (R := (Sum (Int) (Unit))) (ll L 1) (li L 2) (ll L 7) m (li x 0) (fun p => some (.inl p)) (fun p => some (.inr p))
noncomputable def sh72x0x18 : Sh := { tmps := [(1, .c (.p 1 0)), (15, .c (.sl 61)), (16, .c (.i .i64)), (17, .c (.i .i64))], mem := [(1, .box ([.b, .i .i64, .sl 61]))] }
noncomputable def A72x0x18 (L : List Lf) : List (Bool × (Ex × St)) := bnd (Q72x0x18 N L N (pk sh72x0x18 [3] L)) fun q => [((inlB q), (.ret, ⟨[(2, .c (.i .i64 (inlV q)))], []⟩)), ((inrQ q).isSome, ((.exit 0), ⟨[], []⟩))]
theorem step72x0x18 (m : Nat) (kn : St → Option (Ex × St)) (L x : List Lf) : lpB Try.prog (T49x0 N) (h72x0s2 N).h 0 72 18 sh72x0x18 [3] [2] [] (m + 100) kn L x = J72x0x18 N L x (fun y => kn (ofSh sh72x0x18 (mx sh72x0x18 [3] L y))) (fun p => some (.ret, ⟨[(2, .c (.i .i64 p))], []⟩)) (fun _ => some ((.exit 0), ⟨[], []⟩)) := by kernel_rfl
theorem ql72x0x18 (L : List Lf) (m : Nat) (x : List Lf) : Q72x0x18 N L (m + 1) x = J72x0x18 N L x (Q72x0x18 N L m) (fun p => some (.inl p)) (fun p => some (.inr p)) := by kernel_rfl
noncomputable def h72x0s3 : Sg Try.prog 0 72 :=
 (h72x0s2 N).lp (A72x0x18 N) N progOk (T49x0_ok N) (fun m kn L x => (step72x0x18 N m kn L x).trans (sb72x0x18 N L x _ _ _)) (fun L m x => (ql72x0x18 N L m x).trans (sb72x0x18 N L x (Q72x0x18 N L m) (fun p => some (.inl p)) (fun p => some (.inr p)))) fun L x hx => (altS alt1) x hx
noncomputable def F72x0 (v1 : Int) (v3 : LD) (k0 : Int → Option R) : Option R :=
 bnd (V49x0 N v1 0 65535) fun y0 =>
 bif y0 then
  k0 9
 else
  bif (decide ((v3.length : Int) > 30)) then
   k0 3
  else
   bnd (G72x0x18 N v3 (v3.length : Int) v3 0) fun y1 =>
   bif (inlB y1) then
    k0 (inlV y1)
   else
    bif (inrQ y1).isSome then
     k0 0
    else
     none
noncomputable def G72x0 (v1 : Int) (v3 : LD) : Option (Int) := F72x0 N v1 v3 (fun p => some p)
theorem bind72x0 (v1 : Int) (v3 : LD) (k0 : Int → Option R) : F72x0 N v1 v3 k0 = (G72x0 N v1 v3).bind k0 := by
 unfold G72x0 F72x0
 repeat' (first | with_reducible apply cond_b | (with_reducible apply bnd_b; intro _) | rfl)
noncomputable def sh72x0 : Sh := { tmps := [(0, .g ([.b, .i .i64, .sl 61]))], mem := [] }
noncomputable def A72x0 (L : List Lf) : List (Bool × Res) := bnd (F72x0 N (li L 1) (ll L 3) (fun p => some p)) fun q => [(q.isSome, ([.c (.i .i64 (q.getD default))], []))]
theorem raw72x0 (L : List Lf) : bd Try.prog (T49x0 N) (h72x0s3 N).h 72 sh72x0 L = F72x0 N (li L 1) (ll L 3) (fun p => some ([.c (.i .i64 p)], [])) := by kernel_rfl
theorem ok72x0 : FnOk Try.prog 72 sh72x0 (A72x0 N) :=
 (h72x0s3 N).fn progOk (T49x0_ok N) fun L x hx => ((raw72x0 N L).trans ((bind72x0 N ..).trans (alt1 x hx)))
noncomputable def T72x0 : Oracle := ext 72 (spSh sh72x0 (A72x0 N)) (T49x0 N)
theorem T72x0_ok : OracleOk Try.prog (T72x0 N) := FnOk.to (ok72x0 N) (T49x0_ok N)
noncomputable def rg46x0 : List (Nat × List Nat) := [(0, [0]), (1, [1])]
noncomputable def hd46x0 : Hints := []
noncomputable def h46x0s0 (N : Nat) : Sg Try.prog 0 46 := .start hd46x0 rg46x0
noncomputable def F46x0 (N : Nat) (v0 v1 v2 : Int) (k0 : Bool → R) : R :=
 bnd (bif (bif (v0 == 253) then (v2 == 0) else false) then (v1 == 4) else false) fun y0 =>
 k0 y0
noncomputable def V46x0 (v0 v1 v2 : Int) : Bool := F46x0 N v0 v1 v2 (fun p => p)
theorem tot46x0 (v0 v1 v2 : Int) (k0 : Bool → R) : F46x0 N v0 v1 v2 k0 = k0 (V46x0 N v0 v1 v2) := by
 unfold V46x0 F46x0
 repeat' (first | rfl | apply cond_k | (apply bnd_k; intro _))
noncomputable def sh46x0 : Sh := { tmps := [(0, .g ([.i .i64, .i .i64, .i .i64]))], mem := [] }
noncomputable def A46x0 (L : List Lf) : List (Bool × Res) := bnd (F46x0 N (li L 0) (li L 1) (li L 2) (fun p => p)) fun q => [(true, ([.c (.b q)], []))]
theorem raw46x0 (L : List Lf) : bd Try.prog (T72x0 N) (h46x0s0 N).h 46 sh46x0 L = F46x0 N (li L 0) (li L 1) (li L 2) (fun p => some ([.c (.b p)], [])) := by kernel_rfl
theorem ok46x0 : FnOk Try.prog 46 sh46x0 (A46x0 N) :=
 (h46x0s0 N).fn progOk (T72x0_ok N) fun L x hx => ((raw46x0 N L).trans ((tot46x0 N ..).trans (alt0 _ _ hx)))
noncomputable def T46x0 : Oracle := ext 46 (spSh sh46x0 (A46x0 N)) (T72x0 N)
theorem T46x0_ok : OracleOk Try.prog (T46x0 N) := FnOk.to (ok46x0 N) (T72x0_ok N)
noncomputable def rg65x0 : List (Nat × List Nat) := [(0, [0]), (1, [1]), (2, [1, 4]), (3, [10, 9, 8, 4]), (4, [8, 10, 4, 9]), (5, [6, 4, 10, 9, 8]), (6, [4]), (7, [4, 6, 10, 9, 8]), (8, [10, 9, 8, 4]), (9, [])]
noncomputable def hd65x0 : Hints := [(9, [4, 8, 9, 10], [], [])]
noncomputable def h65x0s0 (N : Nat) : Sg Try.prog 0 65 := .start hd65x0 rg65x0
noncomputable def S65x0x9 (w2 : LD) (w3 : Int) (w0 w4 : Int) (kr : Int → Int → Option R) (k0 : Int → Option R) (k1 : Unit → Option R) : Option R :=
 bif (decide (w4 < w3)) then
  bif (inB w4 w2.length) then
   bnd (V46x0 N ((w2.getD w4.toNat (.i 0)).cell 0).toI ((w2.getD w4.toNat (.i 0)).cell 1).toI ((w2.getD w4.toNat (.i 0)).cell 2).toI) fun y0 =>
   bif y0 then
    k0 w0
   else
    bnd (IntKind.wrap .i64 (w0 + ((w2.getD w4.toNat (.i 0)).cell 1).toI)) fun y1 =>
    kr y1 (IntKind.wrap .i64 (w4 + 1))
  else
   none
 else
  k1 ()
noncomputable def L65x0x9 (N : Nat) {R : Type} (w2 : LD) (w3 : Int) : Nat → Int → Int → (Int → Option R) → (Unit → Option R) → Option R
 | 0, _, _, _, _ => none
 | m + 1, w0, w4, k0, k1 => S65x0x9 N w2 w3 w0 w4 (fun w0 w4 => L65x0x9 N w2 w3 m w0 w4 k0 k1) k0 k1
noncomputable def G65x0x9 (w2 : LD) (w3 : Int) (w0 w4 : Int) : Option (Sum (Int) (Unit)) := L65x0x9 N (R := (Sum (Int) (Unit))) w2 w3 N w0 w4 (fun p => some (.inl p)) (fun p => some (.inr p))
noncomputable def J65x0x9 (L x : List Lf) (kr : List Lf → Option R) (k0 : Int → Option R) (k1 : Unit → Option R) : Option R := S65x0x9 N (ll L 2) (li L 3) (li x 0) (li x 1) (fun w0 w4 => kr [.i w0, .i w4]) k0 k1
theorem sb65x0x9 (L x : List Lf) (kr : List Lf → Option R) (k0 : Int → Option R) (k1 : Unit → Option R) : J65x0x9 N L x kr k0 k1 = (J65x0x9 N L x (fun y => some (.inl y)) (fun p => some (.inr (.inl p))) (fun p => some (.inr (.inr p)))).bind (sumE kr (sumE k0 k1)) := by
 unfold J65x0x9 S65x0x9
 repeat' (first | with_reducible apply cond_b | (with_reducible apply bnd_b; intro _) | rfl)
noncomputable def Q65x0x9 (L : List Lf) (m : Nat) (x : List Lf) : Option (Sum (Int) (Unit)) := L65x0x9 N (R := (Sum (Int) (Unit))) (ll L 2) (li L 3) m (li x 0) (li x 1) (fun p => some (.inl p)) (fun p => some (.inr p))
noncomputable def sh65x0x9 : Sh := { tmps := [(4, .c (.i .i64)), (8, .c (.sl 61)), (9, .c (.i .i64)), (10, .c (.i .i64))], mem := [] }
noncomputable def A65x0x9 (L : List Lf) : List (Bool × (Ex × St)) := bnd (Q65x0x9 N L N (pk sh65x0x9 [0, 4] L)) fun q => [((inlB q), (.ret, ⟨[(2, .c (.i .i64 (inlV q))), (3, .c (.b true))], []⟩)), ((inrQ q).isSome, ((.exit 0), ⟨[], []⟩))]
theorem step65x0x9 (m : Nat) (kn : St → Option (Ex × St)) (L x : List Lf) : lpB Try.prog (T46x0 N) (h65x0s0 N).h 0 65 9 sh65x0x9 [0, 4] [2, 3] [] (m + 100) kn L x = J65x0x9 N L x (fun y => kn (ofSh sh65x0x9 (mx sh65x0x9 [0, 4] L y))) (fun p => some (.ret, ⟨[(2, .c (.i .i64 p)), (3, .c (.b true))], []⟩)) (fun _ => some ((.exit 0), ⟨[], []⟩)) := by kernel_rfl
theorem ql65x0x9 (L : List Lf) (m : Nat) (x : List Lf) : Q65x0x9 N L (m + 1) x = J65x0x9 N L x (Q65x0x9 N L m) (fun p => some (.inl p)) (fun p => some (.inr p)) := by kernel_rfl
noncomputable def h65x0s1 : Sg Try.prog 0 65 :=
 (h65x0s0 N).lp (A65x0x9 N) N progOk (T46x0_ok N) (fun m kn L x => (step65x0x9 N m kn L x).trans (sb65x0x9 N L x _ _ _)) (fun L m x => (ql65x0x9 N L m x).trans (sb65x0x9 N L x (Q65x0x9 N L m) (fun p => some (.inl p)) (fun p => some (.inr p)))) fun L x hx => (altS alt1) x hx
noncomputable def F65x0 (v3 : LD) (k0 : Int × Bool → Option R) : Option R :=
 bnd (G65x0x9 N v3 (v3.length : Int) 0 0) fun y0 =>
 bif (inlB y0) then
  k0 ((inlV y0), true)
 else
  bif (inrQ y0).isSome then
   k0 (0, false)
  else
   none
noncomputable def G65x0 (v3 : LD) : Option (Int × Bool) := F65x0 N v3 (fun p => some p)
theorem bind65x0 (v3 : LD) (k0 : Int × Bool → Option R) : F65x0 N v3 k0 = (G65x0 N v3).bind k0 := by
 unfold G65x0 F65x0
 repeat' (first | with_reducible apply cond_b | (with_reducible apply bnd_b; intro _) | rfl)
noncomputable def sh65x0 : Sh := { tmps := [(0, .g ([.b, .i .i64, .sl 61]))], mem := [] }
noncomputable def A65x0 (L : List Lf) : List (Bool × Res) := bnd (F65x0 N (ll L 3) (fun p => some p)) fun q => [(q.isSome, ([.c (.i .i64 (q.getD default).1), .c (.b (q.getD default).2)], []))]
theorem raw65x0 (L : List Lf) : bd Try.prog (T46x0 N) (h65x0s1 N).h 65 sh65x0 L = F65x0 N (ll L 3) (fun p => some ([.c (.i .i64 p.1), .c (.b p.2)], [])) := by kernel_rfl
theorem ok65x0 : FnOk Try.prog 65 sh65x0 (A65x0 N) :=
 (h65x0s1 N).fn progOk (T46x0_ok N) fun L x hx => ((raw65x0 N L).trans ((bind65x0 N ..).trans (alt1 x hx)))
noncomputable def T65x0 : Oracle := ext 65 (spSh sh65x0 (A65x0 N)) (T46x0 N)
theorem T65x0_ok : OracleOk Try.prog (T65x0 N) := FnOk.to (ok65x0 N) (T46x0_ok N)
noncomputable def rg24x0 : List (Nat × List Nat) := [(0, [0, 1]), (1, [1, 2]), (2, [1, 2, 5]), (3, [2, 6, 5]), (4, [13, 12, 11, 6, 5]), (5, [11, 13, 6, 12, 5]), (6, [6, 8, 13, 12, 11, 5]), (7, [13, 12, 11, 5]), (8, [5, 8, 13, 12, 11, 6]), (9, [13, 12, 11, 6, 5]), (10, [5])]
noncomputable def hd24x0 : Hints := [(12, [5, 6, 11, 12, 13], [5], [5]), (19, [5, 6, 8, 11, 12, 13], [5, 8], [])]
noncomputable def h24x0s0 (N : Nat) : Sg Try.prog 0 24 := .start hd24x0 rg24x0
noncomputable def F24x0x19 (w0 : Bool) (w7 w8 w9 : Int) (k0 : Bool → R) : R :=
 bif w0 then
  bnd (V46x0 N w7 w8 w9) fun y0 =>
  k0 y0
 else
  k0 false
noncomputable def V24x0x19 (w0 : Bool) (w7 w8 w9 : Int) : Bool := F24x0x19 N w0 w7 w8 w9 (fun p => p)
theorem tot24x0x19 (w0 : Bool) (w7 w8 w9 : Int) (k0 : Bool → R) : F24x0x19 N w0 w7 w8 w9 k0 = k0 (V24x0x19 N w0 w7 w8 w9) := by
 unfold V24x0x19 F24x0x19
 repeat' (first | rfl | apply cond_k | (apply bnd_k; intro _))
noncomputable def J24x0x19 (L : List Lf) (k0 : Bool → R) : R := F24x0x19 N (lb L 0) (li L 7) (li L 8) (li L 9) k0
noncomputable def sh24x0x19 : Sh := { tmps := [(5, .c (.o 5)), (6, .c (.b)), (8, .c (.p 8 0)), (11, .c (.sl 61)), (12, .c (.i .i64)), (13, .c (.i .i64))], mem := [(5, .row 61 true), (8, .box ([.i .i64, .i .i64, .i .i64]))] }
noncomputable def K24x0x19w0 (L : List Lf) (p : Bool) : Ex × St := (.normal, mg (ofSh sh24x0x19 L) [5, 6, 8, 11, 12, 13, 21] [(21, .c (.b p))] [5, 8] [])
noncomputable def A24x0x19 (L : List Lf) : List (Bool × (Ex × St)) := bnd (J24x0x19 N L (fun p => p)) fun q => [(true, K24x0x19w0 L q)]
theorem raw24x0x19 (L : List Lf) : pc Try.prog (T65x0 N) (h24x0s0 N).h 0 100 24 19 sh24x0x19 L [5, 6, 8, 11, 12, 13, 21] [5, 8] = J24x0x19 N L (fun p => some (K24x0x19w0 L p)) := by kernel_rfl
noncomputable def h24x0s1 : Sg Try.prog 0 24 :=
 (h24x0s0 N).cut (A24x0x19 N) progOk (T65x0_ok N) fun L x hx => (raw24x0x19 N L).trans ((tot24x0x19 N ..).trans (alt0 _ _ hx))
noncomputable def S24x0x12 (w2 : LD) (w3 : Int) (w0 : Bool) (w4 : Int) (w5 : Bool) (w6 : LD) (kr : Bool → Int → Bool → LD → Option R) (k0 : Bool × LD → Option R) : Option R :=
 bif (decide (w4 < w3)) then
  bif (inB w4 w2.length) then
   bnd (V24x0x19 N w0 ((w2.getD w4.toNat (.i 0)).cell 0).toI ((w2.getD w4.toNat (.i 0)).cell 1).toI ((w2.getD w4.toNat (.i 0)).cell 2).toI) fun y0 =>
   bif y0 then
    kr false (IntKind.wrap .i64 (w4 + 1)) w5 w6
   else
    bif (decide ((w6.length + 1) * 24 ≤ room) && decide ((w6.length + 1) ≤ strMax)) then
     bnd ((w6 ++ [(.a [(.i ((w2.getD w4.toNat (.i 0)).cell 0).toI), (.i ((w2.getD w4.toNat (.i 0)).cell 1).toI), (.i ((w2.getD w4.toNat (.i 0)).cell 2).toI)])]) : List D) fun y1 =>
     kr w0 (IntKind.wrap .i64 (w4 + 1)) false y1
    else
     none
  else
   none
 else
  k0 (w5, w6)
noncomputable def L24x0x12 (N : Nat) {R : Type} (w2 : LD) (w3 : Int) : Nat → Bool → Int → Bool → LD → (Bool × LD → Option R) → Option R
 | 0, _, _, _, _, _ => none
 | m + 1, w0, w4, w5, w6, k0 => S24x0x12 N w2 w3 w0 w4 w5 w6 (fun w0 w4 w5 w6 => L24x0x12 N w2 w3 m w0 w4 w5 w6 k0) k0
noncomputable def G24x0x12 (w2 : LD) (w3 : Int) (w0 : Bool) (w4 : Int) (w5 : Bool) (w6 : LD) : Option (Bool × LD) := L24x0x12 N (R := (Bool × LD)) w2 w3 N w0 w4 w5 w6 (fun p => some p)
noncomputable def J24x0x12 (L x : List Lf) (kr : List Lf → Option R) (k0 : Bool × LD → Option R) : Option R := S24x0x12 N (ll L 2) (li L 3) (lb x 0) (li x 1) (lb x 2) (ll x 3) (fun w0 w4 w5 w6 => kr [.b w0, .i w4, .b w5, .l w6]) k0
theorem sb24x0x12 (L x : List Lf) (kr : List Lf → Option R) (k0 : Bool × LD → Option R) : J24x0x12 N L x kr k0 = (J24x0x12 N L x (fun y => some (.inl y)) (fun p => some (.inr p))).bind (sumE kr k0) := by
 unfold J24x0x12 S24x0x12
 repeat' (first | with_reducible apply cond_b | (with_reducible apply bnd_b; intro _) | rfl)
noncomputable def Q24x0x12 (L : List Lf) (m : Nat) (x : List Lf) : Option (Bool × LD) := L24x0x12 N (R := (Bool × LD)) (ll L 2) (li L 3) m (lb x 0) (li x 1) (lb x 2) (ll x 3) (fun p => some p)
noncomputable def sh24x0x12 : Sh := { tmps := [(5, .c (.o 5)), (6, .c (.b)), (11, .c (.sl 61)), (12, .c (.i .i64)), (13, .c (.i .i64))], mem := [(5, .row 61 true)] }
noncomputable def A24x0x12 (L : List Lf) : List (Bool × (Ex × St)) := bnd (Q24x0x12 N L N (pk sh24x0x12 [0, 4, 5, 6] L)) fun q => [(q.isSome, ((.exit 0), ⟨[(5, .c (.o 5))], [(5, .row 61 true (q.getD default).1 (q.getD default).2)]⟩))]
theorem step24x0x12 (m : Nat) (kn : St → Option (Ex × St)) (L x : List Lf) : lpB Try.prog (T65x0 N) (h24x0s1 N).h 0 24 12 sh24x0x12 [0, 4, 5, 6] [4, 5] [5] (m + 100) kn L x = J24x0x12 N L x (fun y => kn (ofSh sh24x0x12 (mx sh24x0x12 [0, 4, 5, 6] L y))) (fun p => some ((.exit 0), ⟨[(5, .c (.o 5))], [(5, .row 61 true p.1 p.2)]⟩)) := by kernel_rfl
theorem ql24x0x12 (L : List Lf) (m : Nat) (x : List Lf) : Q24x0x12 N L (m + 1) x = J24x0x12 N L x (Q24x0x12 N L m) some := by kernel_rfl
noncomputable def h24x0s2 : Sg Try.prog 0 24 :=
 (h24x0s1 N).lp (A24x0x12 N) N progOk (T65x0_ok N) (fun m kn L x => (step24x0x12 N m kn L x).trans (sb24x0x12 N L x _ _)) (fun L m x => (ql24x0x12 N L m x).trans (sb24x0x12 N L x (Q24x0x12 N L m) some)) fun L x hx => alt1 x hx
noncomputable def F24x0 (v3 : LD) (v4 : Bool) (k0 : Bool × LD → Option R) : Option R :=
 bnd (G24x0x12 N v3 (v3.length : Int) v4 0 true []) fun y0 =>
 bif y0.isSome then
  k0 (y0.getD default)
 else
  none
noncomputable def G24x0 (v3 : LD) (v4 : Bool) : Option (Bool × LD) := F24x0 N v3 v4 (fun p => some p)
theorem bind24x0 (v3 : LD) (v4 : Bool) (k0 : Bool × LD → Option R) : F24x0 N v3 v4 k0 = (G24x0 N v3 v4).bind k0 := by
 unfold G24x0 F24x0
 repeat' (first | with_reducible apply cond_b | (with_reducible apply bnd_b; intro _) | rfl)
noncomputable def sh24x0 : Sh := { tmps := [(0, .g ([.b, .i .i64, .sl 61])), (1, .c (.b))], mem := [] }
noncomputable def A24x0 (L : List Lf) : List (Bool × Res) := bnd (F24x0 N (ll L 3) (lb L 4) (fun p => some p)) fun q => [(q.isSome, ([.c (.sl 61 (q.getD default).1 (q.getD default).2)], []))]
theorem raw24x0 (L : List Lf) : bd Try.prog (T65x0 N) (h24x0s2 N).h 24 sh24x0 L = F24x0 N (ll L 3) (lb L 4) (fun p => some ([.c (.sl 61 p.1 p.2)], [])) := by kernel_rfl
theorem ok24x0 : FnOk Try.prog 24 sh24x0 (A24x0 N) :=
 (h24x0s2 N).fn progOk (T65x0_ok N) fun L x hx => ((raw24x0 N L).trans ((bind24x0 N ..).trans (alt1 x hx)))
noncomputable def T24x0 : Oracle := ext 24 (spSh sh24x0 (A24x0 N)) (T65x0 N)
theorem T24x0_ok : OracleOk Try.prog (T24x0 N) := FnOk.to (ok24x0 N) (T65x0_ok N)
noncomputable def rg73x0 : List (Nat × List Nat) := [(0, [0]), (1, [0]), (2, [0, 3]), (3, [8, 7, 6, 3]), (4, [6, 8, 3, 7]), (5, [3, 5, 8, 7, 6]), (6, [8, 7, 6, 3]), (7, [3])]
noncomputable def hd73x0 : Hints := [(9, [3, 6, 7, 8], [], [])]
noncomputable def h73x0s0 (N : Nat) : Sg Try.prog 0 73 := .start hd73x0 rg73x0
noncomputable def S73x0x9 (N : Nat) (w2 : LD) (w3 : Int) (w0 w4 : Int) (kr : Int → Int → Option R) (k0 : Int → Option R) : Option R :=
 bif (decide (w4 < w3)) then
  bif (inB w4 w2.length) then
   bnd (IntKind.wrap .i64 (w0 + ((w2.getD w4.toNat (.i 0)).cell 1).toI)) fun y0 =>
   kr y0 (IntKind.wrap .i64 (w4 + 1))
  else
   none
 else
  k0 w0
noncomputable def L73x0x9 (N : Nat) {R : Type} (w2 : LD) (w3 : Int) : Nat → Int → Int → (Int → Option R) → Option R
 | 0, _, _, _ => none
 | m + 1, w0, w4, k0 => S73x0x9 N w2 w3 w0 w4 (fun w0 w4 => L73x0x9 N w2 w3 m w0 w4 k0) k0
noncomputable def G73x0x9 (w2 : LD) (w3 : Int) (w0 w4 : Int) : Option (Int) := L73x0x9 N (R := (Int)) w2 w3 N w0 w4 (fun p => some p)
noncomputable def J73x0x9 (L x : List Lf) (kr : List Lf → Option R) (k0 : Int → Option R) : Option R := S73x0x9 N (ll L 2) (li L 3) (li x 0) (li x 1) (fun w0 w4 => kr [.i w0, .i w4]) k0
theorem sb73x0x9 (L x : List Lf) (kr : List Lf → Option R) (k0 : Int → Option R) : J73x0x9 N L x kr k0 = (J73x0x9 N L x (fun y => some (.inl y)) (fun p => some (.inr p))).bind (sumE kr k0) := by
 unfold J73x0x9 S73x0x9
 repeat' (first | with_reducible apply cond_b | (with_reducible apply bnd_b; intro _) | rfl)
noncomputable def Q73x0x9 (L : List Lf) (m : Nat) (x : List Lf) : Option (Int) := L73x0x9 N (R := (Int)) (ll L 2) (li L 3) m (li x 0) (li x 1) (fun p => some p)
noncomputable def sh73x0x9 : Sh := { tmps := [(3, .c (.i .i64)), (6, .c (.sl 61)), (7, .c (.i .i64)), (8, .c (.i .i64))], mem := [] }
noncomputable def A73x0x9 (L : List Lf) : List (Bool × (Ex × St)) := bnd (Q73x0x9 N L N (pk sh73x0x9 [0, 4] L)) fun q => [(q.isSome, ((.exit 0), ⟨[(3, .c (.i .i64 (q.getD default)))], []⟩))]
theorem step73x0x9 (m : Nat) (kn : St → Option (Ex × St)) (L x : List Lf) : lpB Try.prog (T24x0 N) (h73x0s0 N).h 0 73 9 sh73x0x9 [0, 4] [2, 3] [] (m + 100) kn L x = J73x0x9 N L x (fun y => kn (ofSh sh73x0x9 (mx sh73x0x9 [0, 4] L y))) (fun p => some ((.exit 0), ⟨[(3, .c (.i .i64 p))], []⟩)) := by kernel_rfl
theorem ql73x0x9 (L : List Lf) (m : Nat) (x : List Lf) : Q73x0x9 N L (m + 1) x = J73x0x9 N L x (Q73x0x9 N L m) some := by kernel_rfl
noncomputable def h73x0s1 : Sg Try.prog 0 73 :=
 (h73x0s0 N).lp (A73x0x9 N) N progOk (T24x0_ok N) (fun m kn L x => (step73x0x9 N m kn L x).trans (sb73x0x9 N L x _ _)) (fun L m x => (ql73x0x9 N L m x).trans (sb73x0x9 N L x (Q73x0x9 N L m) some)) fun L x hx => alt1 x hx
noncomputable def F73x0 (v1 : LD) (k0 : Int → Option R) : Option R :=
 bnd (G73x0x9 N v1 (v1.length : Int) 0 0) fun y0 =>
 bif y0.isSome then
  k0 (y0.getD default)
 else
  none
noncomputable def G73x0 (v1 : LD) : Option (Int) := F73x0 N v1 (fun p => some p)
theorem bind73x0 (v1 : LD) (k0 : Int → Option R) : F73x0 N v1 k0 = (G73x0 N v1).bind k0 := by
 unfold G73x0 F73x0
 repeat' (first | with_reducible apply cond_b | (with_reducible apply bnd_b; intro _) | rfl)
noncomputable def sh73x0 : Sh := { tmps := [(0, .c (.sl 61))], mem := [] }
noncomputable def A73x0 (L : List Lf) : List (Bool × Res) := bnd (F73x0 N (ll L 1) (fun p => some p)) fun q => [(q.isSome, ([.c (.i .i64 (q.getD default))], []))]
theorem raw73x0 (L : List Lf) : bd Try.prog (T24x0 N) (h73x0s1 N).h 73 sh73x0 L = F73x0 N (ll L 1) (fun p => some ([.c (.i .i64 p)], [])) := by kernel_rfl
theorem ok73x0 : FnOk Try.prog 73 sh73x0 (A73x0 N) :=
 (h73x0s1 N).fn progOk (T24x0_ok N) fun L x hx => ((raw73x0 N L).trans ((bind73x0 N ..).trans (alt1 x hx)))
noncomputable def T73x0 : Oracle := ext 73 (spSh sh73x0 (A73x0 N)) (T24x0 N)
theorem T73x0_ok : OracleOk Try.prog (T73x0 N) := FnOk.to (ok73x0 N) (T24x0_ok N)
noncomputable def rg50x0 : List (Nat × List Nat) := [(0, [1, 0]), (1, [3, 0]), (2, []), (3, [3, 0]), (4, [3, 0, 5, 6]), (5, [3, 0]), (6, [3, 5, 6, 0]), (7, []), (8, [3, 0]), (9, [3]), (10, []), (11, [3]), (12, [3, 0]), (13, []), (14, [0, 3]), (15, []), (16, [0, 3]), (17, [7, 3, 0]), (18, [3, 9, 0, 7]), (19, []), (20, [3, 7]), (21, []), (22, [])]
noncomputable def hd50x0 : Hints := [(17, [0, 3, 5, 6, 15], [0, 4], []), (19, [0, 3, 5, 6], [0, 4], [])]
noncomputable def h50x0s0 (N : Nat) : Sg Try.prog 1 50 := .start hd50x0 rg50x0
noncomputable def F50x0x17 (N : Nat) (w0 w1 : Int) (w2 : Bool) (k0 : Int × Int → R) : R :=
 bif w2 then
  k0 (3, 31)
 else
  k0 (w0, w1)
noncomputable def V50x0x17 (w0 w1 : Int) (w2 : Bool) : Int × Int := F50x0x17 N w0 w1 w2 (fun p => p)
theorem tot50x0x17 (w0 w1 : Int) (w2 : Bool) (k0 : Int × Int → R) : F50x0x17 N w0 w1 w2 k0 = k0 (V50x0x17 N w0 w1 w2) := by
 unfold V50x0x17 F50x0x17
 repeat' (first | rfl | apply cond_k | (apply bnd_k; intro _))
noncomputable def sh50x0x17 : Sh := { tmps := [(0, .c (.p 0 0)), (3, .c (.p 4 0)), (5, .c (.i .i64)), (6, .c (.i .i64)), (15, .c (.b))], mem := [(0, .dat 100), (4, .box ([.i .i64, .i .i64, .i .i64, .sl 44, .sl 5]))] }
noncomputable def K50x0x17w0 (L : List Lf) (p : Int × Int) : Ex × St := (.normal, mg (ofSh sh50x0x17 L) [0, 3, 5, 6] [(5, .c (.i .i64 p.1)), (6, .c (.i .i64 p.2))] [0, 4] [])
noncomputable def A50x0x17 (L : List Lf) : List (Bool × (Ex × St)) := bnd (F50x0x17 N (li L 0) (li L 1) (lb L 2) (fun p => p)) fun q => [(true, K50x0x17w0 L q)]
theorem raw50x0x17 (L : List Lf) : pc Try.prog (T73x0 N) (h50x0s0 N).h 1 100 50 17 sh50x0x17 L [0, 3, 5, 6] [0, 4] = F50x0x17 N (li L 0) (li L 1) (lb L 2) (fun p => some (K50x0x17w0 L p)) := by kernel_rfl
noncomputable def h50x0s1 : Sg Try.prog 1 50 :=
 (h50x0s0 N).cut (A50x0x17 N) progOk (T73x0_ok N) fun L x hx => (raw50x0x17 N L).trans ((tot50x0x17 N ..).trans (alt0 _ _ hx))
noncomputable def F50x0x19 (w0 w1 w4 w5 : Int) (k0 : Bool → R) : R :=
 bnd (V49x0 N w4 0 w0) fun y0 =>
 bif y0 then
  k0 true
 else
  bnd (V49x0 N w5 0 w1) fun y1 =>
  k0 y1
noncomputable def V50x0x19 (w0 w1 w4 w5 : Int) : Bool := F50x0x19 N w0 w1 w4 w5 (fun p => p)
theorem tot50x0x19 (w0 w1 w4 w5 : Int) (k0 : Bool → R) : F50x0x19 N w0 w1 w4 w5 k0 = k0 (V50x0x19 N w0 w1 w4 w5) := by
 unfold V50x0x19 F50x0x19
 repeat' (first | rfl | apply cond_k | (apply bnd_k; intro _))
noncomputable def J50x0x19 (L : List Lf) (k0 : Bool → R) : R := F50x0x19 N (li L 0) (li L 1) (li L 4) (li L 5) k0
noncomputable def sh50x0x19 : Sh := { tmps := [(0, .c (.p 0 0)), (3, .c (.p 4 0)), (5, .c (.i .i64)), (6, .c (.i .i64))], mem := [(0, .dat 100), (4, .box ([.i .i64, .i .i64, .i .i64, .sl 44, .sl 5]))] }
noncomputable def K50x0x19w0 (L : List Lf) (p : Bool) : Ex × St := (.normal, mg (ofSh sh50x0x19 L) [0, 3, 25] [(25, .c (.b p))] [0, 4] [])
noncomputable def A50x0x19 (L : List Lf) : List (Bool × (Ex × St)) := bnd (J50x0x19 N L (fun p => p)) fun q => [(true, K50x0x19w0 L q)]
theorem raw50x0x19 (L : List Lf) : pc Try.prog (T73x0 N) (h50x0s1 N).h 1 100 50 19 sh50x0x19 L [0, 3, 25] [0, 4] = J50x0x19 N L (fun p => some (K50x0x19w0 L p)) := by kernel_rfl
noncomputable def h50x0s2 : Sg Try.prog 1 50 :=
 (h50x0s1 N).cut (A50x0x19 N) progOk (T73x0_ok N) fun L x hx => (raw50x0x19 N L).trans ((tot50x0x19 N ..).trans (alt0 _ _ hx))
noncomputable def F50x0 (v0 v1 v2 : Int) (v4 v6 : LD) (v7 : D) (k0 : Int → Option R) : Option R :=
 bnd (V49x0 N v0 1 3) fun y0 =>
 bif y0 then
  k0 7
 else
  bnd (V50x0x17 N 15 0 (v0 == 3)) fun y1 =>
  bnd (V50x0x19 N y1.1 y1.2 v1 v2) fun y2 =>
  bif y2 then
   k0 9
  else
   bif (v0 == 1) then
    bnd (bif ((v4.length : Int) != 1) then true else (decide ((v6.length : Int) > 0))) fun y3 =>
    bif y3 then
     k0 2
    else
     bif (inB 0 v4.length) then
      bnd (G72x0 N ((v4.getD 0 (.i 0)).cell 1).toI ((v4.getD 0 (.i 0)).cell 2).items) fun y4 =>
      bif y4.isSome then
       k0 (y4.getD default)
      else
       none
     else
      none
   else
    bif (decide ((v4.length : Int) > 0)) then
     k0 2
    else
     bif (inB v1 16) then
      bif (!(v7.cell (0 + (v1.toNat * 1))).toB) then
       k0 11
      else
       bif (inB v1 16) then
        bnd (G65x0 N (v7.cell (18 + (v1.toNat * 3))).items) fun y5 =>
        bif y5.isSome then
         bnd (bif (v0 == 3) then (bif (!(y5.getD default).2) then true else (decide ((v7.cell 64).toI < 0))) else false) fun y6 =>
         bif y6 then
          k0 11
         else
          bnd (G24x0 N (v7.cell (18 + (v1.toNat * 3))).items (v0 == 3)) fun y7 =>
          bif y7.isSome then
           bnd (G73x0 N (y7.getD default).2) fun y8 =>
           bif y8.isSome then
            bif ((v6.length : Int) != (y8.getD default)) then
             k0 2
            else
             k0 0
           else
            none
          else
           none
        else
         none
       else
        none
     else
      none
noncomputable def G50x0 (v0 v1 v2 : Int) (v4 v6 : LD) (v7 : D) : Option (Int) := F50x0 N v0 v1 v2 v4 v6 v7 (fun p => some p)
theorem bind50x0 (v0 v1 v2 : Int) (v4 v6 : LD) (v7 : D) (k0 : Int → Option R) : F50x0 N v0 v1 v2 v4 v6 v7 k0 = (G50x0 N v0 v1 v2 v4 v6 v7).bind k0 := by
 unfold G50x0 F50x0
 repeat' (first | with_reducible apply cond_b | (with_reducible apply bnd_b; intro _) | rfl)
noncomputable def J50x0 (L : List Lf) (k0 : Int → Option R) : Option R := F50x0 N (li L 0) (li L 1) (li L 2) (ll L 4) (ll L 6) (ld L 7) k0
noncomputable def sh50x0 : Sh := { tmps := [(0, .c (.p 0 0)), (1, .g ([.i .i64, .i .i64, .i .i64, .sl 44, .sl 5]))], mem := [(0, .dat 100)] }
noncomputable def A50x0 (L : List Lf) : List (Bool × Res) := bnd (J50x0 N L (fun p => some p)) fun q => [(q.isSome, ([.c (.i .i64 (q.getD default))], [(0, .dat 100 (ld L 7))]))]
theorem raw50x0 (L : List Lf) : bd Try.prog (T73x0 N) (h50x0s2 N).h 50 sh50x0 L = J50x0 N L (fun p => some ([.c (.i .i64 p)], [(0, .dat 100 (ld L 7))])) := by kernel_rfl
theorem ok50x0 : FnOk Try.prog 50 sh50x0 (A50x0 N) :=
 (h50x0s2 N).fn progOk (T73x0_ok N) fun L x hx => ((raw50x0 N L).trans ((bind50x0 N ..).trans (alt1 x hx)))
noncomputable def T50x0 : Oracle := ext 50 (spSh sh50x0 (A50x0 N)) (T73x0 N)
theorem T50x0_ok : OracleOk Try.prog (T50x0 N) := FnOk.to (ok50x0 N) (T73x0_ok N)
noncomputable def rg64x0 : List (Nat × List Nat) := [(0, [0, 1]), (1, [0, 1]), (2, [0, 1, 5]), (3, [10, 9, 1, 0, 5]), (4, [10, 1, 0, 5, 9]), (5, [6, 1, 0, 5, 10, 9]), (6, [1, 0, 6, 5, 10, 9, 7]), (7, [0, 6, 5, 10, 9, 1]), (8, [5, 0, 7, 10, 9, 1]), (9, [10, 9, 1, 0, 5]), (10, [5])]
noncomputable def hd64x0 : Hints := [(9, [0, 1, 5, 9, 10], [], []), (23, [0, 1, 5, 6, 7, 9, 10, 15], [], [])]
noncomputable def h64x0s0 (N : Nat) : Sg Try.prog 0 64 := .start hd64x0 rg64x0
noncomputable def F64x0x23 (N : Nat) (w1 : LD) (w4 w5 : Int) (w8 : Bool) (k0 : Int → R) : R :=
 bif w8 then
  bnd (IntKind.wrap .i64 ((IntKind.wrap .i64 ((w1.length : Int) - 1)) - w4)) fun y0 =>
  k0 y0
 else
  k0 w5
noncomputable def V64x0x23 (w1 : LD) (w4 w5 : Int) (w8 : Bool) : Int := F64x0x23 N w1 w4 w5 w8 (fun p => p)
theorem tot64x0x23 (w1 : LD) (w4 w5 : Int) (w8 : Bool) (k0 : Int → R) : F64x0x23 N w1 w4 w5 w8 k0 = k0 (V64x0x23 N w1 w4 w5 w8) := by
 unfold V64x0x23 F64x0x23
 repeat' (first | rfl | apply cond_k | (apply bnd_k; intro _))
noncomputable def J64x0x23 (L : List Lf) (k0 : Int → R) : R := F64x0x23 N (ll L 1) (li L 4) (li L 5) (lb L 8) k0
noncomputable def sh64x0x23 : Sh := { tmps := [(0, .c (.sl 5)), (1, .c (.b)), (5, .c (.i .i64)), (6, .c (.i .i64)), (7, .c (.i .i64)), (9, .c (.i .i64)), (10, .c (.i .i64)), (15, .c (.b))], mem := [] }
noncomputable def K64x0x23w0 (L : List Lf) (p : Int) : Ex × St := (.normal, mg (ofSh sh64x0x23 L) [0, 1, 5, 7, 9, 10] [(7, .c (.i .i64 p))] [] [])
noncomputable def A64x0x23 (L : List Lf) : List (Bool × (Ex × St)) := bnd (J64x0x23 N L (fun p => p)) fun q => [(true, K64x0x23w0 L q)]
theorem raw64x0x23 (L : List Lf) : pc Try.prog (T50x0 N) (h64x0s0 N).h 0 100 64 23 sh64x0x23 L [0, 1, 5, 7, 9, 10] [] = J64x0x23 N L (fun p => some (K64x0x23w0 L p)) := by kernel_rfl
noncomputable def h64x0s1 : Sg Try.prog 0 64 :=
 (h64x0s0 N).cut (A64x0x23 N) progOk (T50x0_ok N) fun L x hx => (raw64x0x23 N L).trans ((tot64x0x23 N ..).trans (alt0 _ _ hx))
noncomputable def S64x0x9 (w1 : LD) (w2 : Bool) (w4 : Int) (w3 w5 : Int) (kr : Int → Int → Option R) (k0 : Int → Option R) : Option R :=
 bif (decide (w5 < w4)) then
  bnd (V64x0x23 N w1 w5 w5 (!w2)) fun y0 =>
  bif (inB y0 w1.length) then
   bnd (IntKind.wrap .i64 ((IntKind.wrap .i64 (256 * w3)) + (IntKind.wrap .i64 (w1.getD y0.toNat (.i 0)).toI))) fun y1 =>
   kr y1 (IntKind.wrap .i64 (w5 + 1))
  else
   none
 else
  k0 w3
noncomputable def L64x0x9 (N : Nat) {R : Type} (w1 : LD) (w2 : Bool) (w4 : Int) : Nat → Int → Int → (Int → Option R) → Option R
 | 0, _, _, _ => none
 | m + 1, w3, w5, k0 => S64x0x9 N w1 w2 w4 w3 w5 (fun w3 w5 => L64x0x9 N w1 w2 w4 m w3 w5 k0) k0
noncomputable def G64x0x9 (w1 : LD) (w2 : Bool) (w4 : Int) (w3 w5 : Int) : Option (Int) := L64x0x9 N (R := (Int)) w1 w2 w4 N w3 w5 (fun p => some p)
noncomputable def J64x0x9 (L x : List Lf) (kr : List Lf → Option R) (k0 : Int → Option R) : Option R := S64x0x9 N (ll L 1) (lb L 2) (li L 4) (li x 0) (li x 1) (fun w3 w5 => kr [.i w3, .i w5]) k0
theorem sb64x0x9 (L x : List Lf) (kr : List Lf → Option R) (k0 : Int → Option R) : J64x0x9 N L x kr k0 = (J64x0x9 N L x (fun y => some (.inl y)) (fun p => some (.inr p))).bind (sumE kr k0) := by
 unfold J64x0x9 S64x0x9
 repeat' (first | with_reducible apply cond_b | (with_reducible apply bnd_b; intro _) | rfl)
noncomputable def Q64x0x9 (L : List Lf) (m : Nat) (x : List Lf) : Option (Int) := L64x0x9 N (R := (Int)) (ll L 1) (lb L 2) (li L 4) m (li x 0) (li x 1) (fun p => some p)
noncomputable def sh64x0x9 : Sh := { tmps := [(0, .c (.sl 5)), (1, .c (.b)), (5, .c (.i .i64)), (9, .c (.i .i64)), (10, .c (.i .i64))], mem := [] }
noncomputable def A64x0x9 (L : List Lf) : List (Bool × (Ex × St)) := bnd (Q64x0x9 N L N (pk sh64x0x9 [3, 5] L)) fun q => [(q.isSome, ((.exit 0), ⟨[(5, .c (.i .i64 (q.getD default)))], []⟩))]
theorem step64x0x9 (m : Nat) (kn : St → Option (Ex × St)) (L x : List Lf) : lpB Try.prog (T50x0 N) (h64x0s1 N).h 0 64 9 sh64x0x9 [3, 5] [4, 5] [] (m + 100) kn L x = J64x0x9 N L x (fun y => kn (ofSh sh64x0x9 (mx sh64x0x9 [3, 5] L y))) (fun p => some ((.exit 0), ⟨[(5, .c (.i .i64 p))], []⟩)) := by kernel_rfl
theorem ql64x0x9 (L : List Lf) (m : Nat) (x : List Lf) : Q64x0x9 N L (m + 1) x = J64x0x9 N L x (Q64x0x9 N L m) some := by kernel_rfl
noncomputable def h64x0s2 : Sg Try.prog 0 64 :=
 (h64x0s1 N).lp (A64x0x9 N) N progOk (T50x0_ok N) (fun m kn L x => (step64x0x9 N m kn L x).trans (sb64x0x9 N L x _ _)) (fun L m x => (ql64x0x9 N L m x).trans (sb64x0x9 N L x (Q64x0x9 N L m) some)) fun L x hx => alt1 x hx
noncomputable def F64x0 (v1 : LD) (v2 : Bool) (k0 : Int → Option R) : Option R :=
 bnd (G64x0x9 N v1 v2 (v1.length : Int) 0 0) fun y0 =>
 bif y0.isSome then
  k0 (y0.getD default)
 else
  none
noncomputable def G64x0 (v1 : LD) (v2 : Bool) : Option (Int) := F64x0 N v1 v2 (fun p => some p)
theorem bind64x0 (v1 : LD) (v2 : Bool) (k0 : Int → Option R) : F64x0 N v1 v2 k0 = (G64x0 N v1 v2).bind k0 := by
 unfold G64x0 F64x0
 repeat' (first | with_reducible apply cond_b | (with_reducible apply bnd_b; intro _) | rfl)
noncomputable def sh64x0 : Sh := { tmps := [(0, .c (.sl 5)), (1, .c (.b))], mem := [] }
noncomputable def A64x0 (L : List Lf) : List (Bool × Res) := bnd (F64x0 N (ll L 1) (lb L 2) (fun p => some p)) fun q => [(q.isSome, ([.c (.i .i64 (q.getD default))], []))]
theorem raw64x0 (L : List Lf) : bd Try.prog (T50x0 N) (h64x0s2 N).h 64 sh64x0 L = F64x0 N (ll L 1) (lb L 2) (fun p => some ([.c (.i .i64 p)], [])) := by kernel_rfl
theorem ok64x0 : FnOk Try.prog 64 sh64x0 (A64x0 N) :=
 (h64x0s2 N).fn progOk (T50x0_ok N) fun L x hx => ((raw64x0 N L).trans ((bind64x0 N ..).trans (alt1 x hx)))
noncomputable def T64x0 : Oracle := ext 64 (spSh sh64x0 (A64x0 N)) (T50x0 N)
theorem T64x0_ok : OracleOk Try.prog (T64x0 N) := FnOk.to (ok64x0 N) (T50x0_ok N)
noncomputable def rg40x0 : List (Nat × List Nat) := [(0, [1, 0]), (1, [3, 0]), (2, [10, 0, 3]), (5, [10, 0, 3]), (6, [0, 3]), (7, [0]), (3, [0, 3]), (4, []), (8, [0, 3]), (9, [5, 3, 0]), (10, [7, 3, 6, 5, 0]), (11, []), (12, [3, 6, 5, 0]), (13, [8, 0]), (14, []), (15, [0, 8]), (16, [8])]
noncomputable def hd40x0 : Hints := []
noncomputable def h40x0s0 (N : Nat) : Sg Try.prog 1 40 := .start hd40x0 rg40x0
noncomputable def F40x0 (v0 v1 v2 : Int) (v4 v6 : LD) (v7 : D) (k0 : Int × D → Option R) : Option R :=
 bif (v0 == 1) then
  bif (inB 0 v4.length) then
   bif (inB v1 16) then
    bif (inB v1 16) then
     bnd (((((v7.put (0 + (v1.toNat * 1)) (.b true)).put (16 + (v1.toNat * 3)) (.b ((v4.getD 0 (.i 0)).cell 0).toB)).put (17 + (v1.toNat * 3)) (.i ((v4.getD 0 (.i 0)).cell 1).toI)).put (18 + (v1.toNat * 3)) (.l ((v4.getD 0 (.i 0)).cell 2).isNil ((v4.getD 0 (.i 0)).cell 2).items)) : D) fun y0 =>
     k0 ((-1), y0)
    else
     none
   else
    none
  else
   none
 else
  bif (v0 == 3) then
   bnd (IntKind.wrap .i64 ((IntKind.wrap .i64 (v2 - ((v7.cell 64).toI.tmod 32))) + 32)) fun y1 =>
   bnd ((v7.put 64 (.i (IntKind.wrap .i64 ((v7.cell 64).toI + (y1.tmod 32))))) : D) fun y2 =>
   k0 ((y2.cell 64).toI, y2)
  else
   bif (inB v1 16) then
    bnd (G65x0 N (v7.cell (18 + (v1.toNat * 3))).items) fun y3 =>
    bif y3.isSome then
     bif (!(y3.getD default).2) then
      k0 ((-1), v7)
     else
      bif (((decide (0 ≤ (y3.getD default).1)) && (decide ((y3.getD default).1 ≤ (IntKind.wrap .i64 ((y3.getD default).1 + 4))))) && (decide ((IntKind.wrap .i64 ((y3.getD default).1 + 4)) ≤ (v6.length : Int)))) then
       bnd (((v6.take (IntKind.wrap .i64 ((y3.getD default).1 + 4)).toNat).drop (y3.getD default).1.toNat) : List D) fun y4 =>
       bnd (G64x0 N y4 (v7.cell (16 + (v1.toNat * 3))).toB) fun y5 =>
       bif y5.isSome then
        bif ((y5.getD default) == 4294967295) then
         k0 ((-1), v7)
        else
         k0 ((y5.getD default), (v7.put 64 (.i (y5.getD default))))
       else
        none
      else
       none
    else
     none
   else
    none
noncomputable def G40x0 (v0 v1 v2 : Int) (v4 v6 : LD) (v7 : D) : Option (Int × D) := F40x0 N v0 v1 v2 v4 v6 v7 (fun p => some p)
theorem bind40x0 (v0 v1 v2 : Int) (v4 v6 : LD) (v7 : D) (k0 : Int × D → Option R) : F40x0 N v0 v1 v2 v4 v6 v7 k0 = (G40x0 N v0 v1 v2 v4 v6 v7).bind k0 := by
 unfold G40x0 F40x0
 repeat' (first | with_reducible apply cond_b | (with_reducible apply bnd_b; intro _) | rfl)
noncomputable def J40x0 (L : List Lf) (k0 : Int × D → Option R) : Option R := F40x0 N (li L 0) (li L 1) (li L 2) (ll L 4) (ll L 6) (ld L 7) k0
noncomputable def sh40x0 : Sh := { tmps := [(0, .c (.p 0 0)), (1, .g ([.i .i64, .i .i64, .i .i64, .sl 44, .sl 5]))], mem := [(0, .dat 100)] }
noncomputable def A40x0 (L : List Lf) : List (Bool × Res) := bnd (J40x0 N L (fun p => some p)) fun q => [(q.isSome, ([.c (.i .i64 (q.getD default).1)], [(0, .dat 100 (q.getD default).2)]))]
theorem raw40x0 (L : List Lf) : bd Try.prog (T64x0 N) (h40x0s0 N).h 40 sh40x0 L = J40x0 N L (fun p => some ([.c (.i .i64 p.1)], [(0, .dat 100 p.2)])) := by kernel_rfl
theorem ok40x0 : FnOk Try.prog 40 sh40x0 (A40x0 N) :=
 (h40x0s0 N).fn progOk (T64x0_ok N) fun L x hx => ((raw40x0 N L).trans ((bind40x0 N ..).trans (alt1 x hx)))
noncomputable def T40x0 : Oracle := ext 40 (spSh sh40x0 (A40x0 N)) (T64x0 N)
theorem T40x0_ok : OracleOk Try.prog (T40x0 N) := FnOk.to (ok40x0 N) (T64x0_ok N)
noncomputable def rg27x0 : List (Nat × List Nat) := [(0, [0]), (1, [1]), (2, []), (3, [1]), (4, [1, 3]), (5, [16, 15, 14, 3]), (6, [14, 16, 3, 15]), (7, [3, 5, 16, 15, 14]), (8, [6, 3, 5, 16, 15, 14]), (9, [6]), (10, [3, 5, 16, 15, 14]), (11, [16, 15, 14, 3]), (12, [])]
noncomputable def hd27x0 : Hints := [(15, [3, 14, 15, 16], [12], [])]
noncomputable def h27x0s0 (N : Nat) : Sg Try.prog 0 27 := .start hd27x0 rg27x0
noncomputable def S27x0x15 (w1 : LD) (w2 : Int) (w3 : Int) (w4 : D) (kr : Int → D → Option R) (k0 : Int → Option R) (k1 : Unit → Option R) : Option R :=
 bif (decide (w3 < w2)) then
  bif (inB w3 w1.length) then
   bnd (G50x0 N ((w1.getD w3.toNat (.i 0)).cell 0).toI ((w1.getD w3.toNat (.i 0)).cell 1).toI ((w1.getD w3.toNat (.i 0)).cell 2).toI ((w1.getD w3.toNat (.i 0)).cell 3).items ((w1.getD w3.toNat (.i 0)).cell 4).items w4) fun y0 =>
   bif y0.isSome then
    bif ((y0.getD default) != 0) then
     k0 (y0.getD default)
    else
     bnd (G40x0 N ((w1.getD w3.toNat (.i 0)).cell 0).toI ((w1.getD w3.toNat (.i 0)).cell 1).toI ((w1.getD w3.toNat (.i 0)).cell 2).toI ((w1.getD w3.toNat (.i 0)).cell 3).items ((w1.getD w3.toNat (.i 0)).cell 4).items w4) fun y1 =>
     bif y1.isSome then
      kr (IntKind.wrap .i64 (w3 + 1)) (y1.getD default).2
     else
      none
   else
    none
  else
   none
 else
  k1 ()
noncomputable def L27x0x15 (N : Nat) {R : Type} (w1 : LD) (w2 : Int) : Nat → Int → D → (Int → Option R) → (Unit → Option R) → Option R
 | 0, _, _, _, _ => none
 | m + 1, w3, w4, k0, k1 => S27x0x15 N w1 w2 w3 w4 (fun w3 w4 => L27x0x15 N w1 w2 m w3 w4 k0 k1) k0 k1
noncomputable def G27x0x15 (w1 : LD) (w2 : Int) (w3 : Int) (w4 : D) : Option (Sum (Int) (Unit)) := L27x0x15 N (R := (Sum (Int) (Unit))) w1 w2 N w3 w4 (fun p => some (.inl p)) (fun p => some (.inr p))
noncomputable def J27x0x15 (L x : List Lf) (kr : List Lf → Option R) (k0 : Int → Option R) (k1 : Unit → Option R) : Option R := S27x0x15 N (ll L 1) (li L 2) (li x 0) (ld x 1) (fun w3 w4 => kr [.i w3, .d w4]) k0 k1
theorem sb27x0x15 (L x : List Lf) (kr : List Lf → Option R) (k0 : Int → Option R) (k1 : Unit → Option R) : J27x0x15 N L x kr k0 k1 = (J27x0x15 N L x (fun y => some (.inl y)) (fun p => some (.inr (.inl p))) (fun p => some (.inr (.inr p)))).bind (sumE kr (sumE k0 k1)) := by
 unfold J27x0x15 S27x0x15
 repeat' (first | with_reducible apply cond_b | (with_reducible apply bnd_b; intro _) | rfl)
noncomputable def Q27x0x15 (L : List Lf) (m : Nat) (x : List Lf) : Option (Sum (Int) (Unit)) := L27x0x15 N (R := (Sum (Int) (Unit))) (ll L 1) (li L 2) m (li x 0) (ld x 1) (fun p => some (.inl p)) (fun p => some (.inr p))
noncomputable def sh27x0x15 : Sh := { tmps := [(3, .c (.p 12 0)), (14, .c (.sl 41)), (15, .c (.i .i64)), (16, .c (.i .i64))], mem := [(12, .dat 100)] }
noncomputable def A27x0x15 (L : List Lf) : List (Bool × (Ex × St)) := bnd (Q27x0x15 N L N (pk sh27x0x15 [3, 4] L)) fun q => [((inlB q), (.ret, ⟨[(2, .c (.i .i64 (inlV q)))], []⟩)), ((inrQ q).isSome, ((.exit 0), ⟨[], []⟩))]
theorem step27x0x15 (m : Nat) (kn : St → Option (Ex × St)) (L x : List Lf) : lpB Try.prog (T40x0 N) (h27x0s0 N).h 0 27 15 sh27x0x15 [3, 4] [2] [] (m + 100) kn L x = J27x0x15 N L x (fun y => kn (ofSh sh27x0x15 (mx sh27x0x15 [3, 4] L y))) (fun p => some (.ret, ⟨[(2, .c (.i .i64 p))], []⟩)) (fun _ => some ((.exit 0), ⟨[], []⟩)) := by kernel_rfl
theorem ql27x0x15 (L : List Lf) (m : Nat) (x : List Lf) : Q27x0x15 N L (m + 1) x = J27x0x15 N L x (Q27x0x15 N L m) (fun p => some (.inl p)) (fun p => some (.inr p)) := by kernel_rfl
noncomputable def h27x0s1 : Sg Try.prog 0 27 :=
 (h27x0s0 N).lp (A27x0x15 N) N progOk (T40x0_ok N) (fun m kn L x => (step27x0x15 N m kn L x).trans (sb27x0x15 N L x _ _ _)) (fun L m x => (ql27x0x15 N L m x).trans (sb27x0x15 N L x (Q27x0x15 N L m) (fun p => some (.inl p)) (fun p => some (.inr p)))) fun L x hx => (altS alt1) x hx
noncomputable def F27x0 (v1 : LD) (k0 : Int → Option R) : Option R :=
 bif (decide ((v1.length : Int) > 50000)) then
  k0 3
 else
  bnd (G27x0x15 N v1 (v1.length : Int) 0 (.a [(.b false), (.b false), (.b false), (.b false), (.b false), (.b false), (.b false), (.b false), (.b false), (.b false), (.b false), (.b false), (.b false), (.b false), (.b false), (.b false), (.b false), (.i 0), (.l true []), (.b false), (.i 0), (.l true []), (.b false), (.i 0), (.l true []), (.b false), (.i 0), (.l true []), (.b false), (.i 0), (.l true []), (.b false), (.i 0), (.l true []), (.b false), (.i 0), (.l true []), (.b false), (.i 0), (.l true []), (.b false), (.i 0), (.l true []), (.b false), (.i 0), (.l true []), (.b false), (.i 0), (.l true []), (.b false), (.i 0), (.l true []), (.b false), (.i 0), (.l true []), (.b false), (.i 0), (.l true []), (.b false), (.i 0), (.l true []), (.b false), (.i 0), (.l true []), (.i (-1))])) fun y0 =>
  bif (inlB y0) then
   k0 (inlV y0)
  else
   bif (inrQ y0).isSome then
    k0 0
   else
    none
noncomputable def G27x0 (v1 : LD) : Option (Int) := F27x0 N v1 (fun p => some p)
theorem bind27x0 (v1 : LD) (k0 : Int → Option R) : F27x0 N v1 k0 = (G27x0 N v1).bind k0 := by
 unfold G27x0 F27x0
 repeat' (first | with_reducible apply cond_b | (with_reducible apply bnd_b; intro _) | rfl)
noncomputable def sh27x0 : Sh := { tmps := [(0, .g ([.sl 41]))], mem := [] }
noncomputable def A27x0 (L : List Lf) : List (Bool × Res) := bnd (F27x0 N (ll L 1) (fun p => some p)) fun q => [(q.isSome, ([.c (.i .i64 (q.getD default))], []))]
theorem raw27x0 (L : List Lf) : bd Try.prog (T40x0 N) (h27x0s1 N).h 27 sh27x0 L = F27x0 N (ll L 1) (fun p => some ([.c (.i .i64 p)], [])) := by kernel_rfl
theorem ok27x0 : FnOk Try.prog 27 sh27x0 (A27x0 N) :=
 (h27x0s1 N).fn progOk (T40x0_ok N) fun L x hx => ((raw27x0 N L).trans ((bind27x0 N ..).trans (alt1 x hx)))
noncomputable def T27x0 : Oracle := ext 27 (spSh sh27x0 (A27x0 N)) (T40x0 N)
theorem T27x0_ok : OracleOk Try.prog (T27x0 N) := FnOk.to (ok27x0 N) (T40x0_ok N)
noncomputable def rg15x0 : List (Nat × List Nat) := [(0, [0, 1]), (1, [2, 1]), (2, [5, 1, 2]), (3, [5]), (4, [1, 2]), (5, []), (6, [2, 1]), (7, []), (8, [])]
noncomputable def hd15x0 : Hints := []
noncomputable def h15x0s0 (N : Nat) : Sg Try.prog 0 15 := .start hd15x0 rg15x0
noncomputable def F15x0 (v1 : LD) (v2 : Int) (k0 : Int → Option R) : Option R :=
 bnd (G27x0 N v1) fun y0 =>
 bif y0.isSome then
  bif ((y0.getD default) != 0) then
   k0 (y0.getD default)
  else
   bnd (bif (decide (v2 < 0)) then true else (decide (v2 ≥ (v1.length : Int)))) fun y1 =>
   bif y1 then
    k0 4
   else
    bif (inB v2 v1.length) then
     bif (((v1.getD v2.toNat (.i 0)).cell 0).toI == 1) then
      k0 7
     else
      k0 0
    else
     none
 else
  none
noncomputable def G15x0 (v1 : LD) (v2 : Int) : Option (Int) := F15x0 N v1 v2 (fun p => some p)
theorem bind15x0 (v1 : LD) (v2 : Int) (k0 : Int → Option R) : F15x0 N v1 v2 k0 = (G15x0 N v1 v2).bind k0 := by
 unfold G15x0 F15x0
 repeat' (first | with_reducible apply cond_b | (with_reducible apply bnd_b; intro _) | rfl)
noncomputable def sh15x0 : Sh := { tmps := [(0, .g ([.sl 41])), (1, .c (.i .i64))], mem := [] }
noncomputable def A15x0 (L : List Lf) : List (Bool × Res) := bnd (F15x0 N (ll L 1) (li L 2) (fun p => some p)) fun q => [(q.isSome, ([.c (.i .i64 (q.getD default))], []))]
theorem raw15x0 (L : List Lf) : bd Try.prog (T27x0 N) (h15x0s0 N).h 15 sh15x0 L = F15x0 N (ll L 1) (li L 2) (fun p => some ([.c (.i .i64 p)], [])) := by kernel_rfl
theorem ok15x0 : FnOk Try.prog 15 sh15x0 (A15x0 N) :=
 (h15x0s0 N).fn progOk (T27x0_ok N) fun L x hx => ((raw15x0 N L).trans ((bind15x0 N ..).trans (alt1 x hx)))
noncomputable def T15x0 : Oracle := ext 15 (spSh sh15x0 (A15x0 N)) (T27x0 N)
theorem T15x0_ok : OracleOk Try.prog (T15x0 N) := FnOk.to (ok15x0 N) (T27x0_ok N)
noncomputable def rg17x0 : List (Nat × List Nat) := [(0, [0]), (1, [1, 2]), (2, [1, 3, 2]), (3, [1, 4, 3, 2]), (4, [15, 14, 13, 4, 3, 2]), (5, [13, 15, 4, 3, 14, 2]), (6, [4, 6, 3, 15, 14, 13, 2]), (7, [6, 4, 3, 7, 15, 14, 13, 2]), (8, [6, 4, 3, 7, 15, 14, 13, 2, 8]), (9, [4, 6, 3, 7, 15, 14, 13, 2]), (10, [3, 8, 7, 15, 14, 13, 4, 2]), (11, [3, 7, 15, 14, 13, 4, 2]), (12, [15, 14, 13, 4, 3, 2]), (13, [3, 2])]
noncomputable def hd17x0 : Hints := [(12, [2, 3, 4, 13, 14, 15], [2, 3, 11, 50003000, 50003001], [50003001, 50003000]), (29, [2, 3, 4, 6, 7, 8, 13, 14, 15, 24], [2, 3, 6, 11, 50003000, 50003001], [])]
noncomputable def h17x0s0 (N : Nat) : Sg Try.prog 0 17 := .start hd17x0 rg17x0
noncomputable def F17x0x29 (N : Nat) (w7 : Bool) (w13 : Int) (w19 : D) (k0 : LD → Option R) (k1 : Unit → Option R) : Option R :=
 bif w7 then
  bif (inB w13 16) then
   k0 [(.a [(.b (w19.cell (16 + (w13.toNat * 3))).toB), (.i (w19.cell (17 + (w13.toNat * 3))).toI), (.l (w19.cell (18 + (w13.toNat * 3))).isNil (w19.cell (18 + (w13.toNat * 3))).items)])]
  else
   none
 else
  k1 ()
noncomputable def G17x0x29 (w7 : Bool) (w13 : Int) (w19 : D) : Option (Sum (LD) (Unit)) := F17x0x29 N w7 w13 w19 (fun p => some (.inl p)) (fun p => some (.inr p))
theorem bind17x0x29 (w7 : Bool) (w13 : Int) (w19 : D) (k0 : LD → Option R) (k1 : Unit → Option R) : F17x0x29 N w7 w13 w19 k0 k1 = (G17x0x29 N w7 w13 w19).bind (sumE k0 k1) := by
 unfold G17x0x29 F17x0x29
 repeat' (first | with_reducible apply cond_b | (with_reducible apply bnd_b; intro _) | rfl)
noncomputable def sh17x0x29 : Sh := { tmps := [(2, .c (.p 2 0)), (3, .c (.p 3 0)), (4, .c (.p 11 0)), (6, .c (.p 6 0)), (7, .c (.i .i64)), (8, .c (.sl 44)), (13, .c (.sl 41)), (14, .c (.i .i64)), (15, .c (.i .i64)), (24, .c (.b))], mem := [(2, .box ([.sl 38, .sl 3])), (3, .box ([.o 50003000, .o 50003001])), (6, .box ([.i .i64, .i .i64, .i .i64, .sl 44, .sl 5])), (11, .dat 100), (50003000, .row 38 true), (50003001, .row 3 true)] }
noncomputable def K17x0x29w0 (L : List Lf) (p : LD) : Ex × St := (.normal, mg (ofSh sh17x0x29 L) [2, 3, 4, 7, 8, 13, 14, 15] [(8, .c (.o 32))] [2, 3, 11, 32, 50003000, 50003001] [(32, .row 44 true false p)])
noncomputable def K17x0x29w1 (L : List Lf) (_ : Unit) : Ex × St := (.normal, mg (ofSh sh17x0x29 L) [2, 3, 4, 7, 8, 13, 14, 15] [] [2, 3, 11, 50003000, 50003001] [])
noncomputable def A17x0x29 (L : List Lf) : List (Bool × (Ex × St)) := bnd (F17x0x29 N (lb L 7) (li L 13) (ld L 19) (fun p => some (.inl p)) (fun p => some (.inr p))) fun q => [((inlB q), K17x0x29w0 L (inlV q)), ((inrQ q).isSome, K17x0x29w1 L ())]
theorem raw17x0x29 (L : List Lf) : pc Try.prog (T15x0 N) (h17x0s0 N).h 0 100 17 29 sh17x0x29 L [2, 3, 4, 7, 8, 13, 14, 15] [2, 3, 11, 32, 50003000, 50003001] = F17x0x29 N (lb L 7) (li L 13) (ld L 19) (fun p => some (K17x0x29w0 L p)) (fun _ => some (K17x0x29w1 L ())) := by kernel_rfl
noncomputable def h17x0s1 : Sg Try.prog 0 17 :=
 (h17x0s0 N).cut (A17x0x29 N) progOk (T15x0_ok N) fun L x hx => (raw17x0x29 N L).trans ((bind17x0x29 N ..).trans ((altS alt1) x hx))
noncomputable def S17x0x12 (w1 : LD) (w2 : Int) (w3 : Int) (w8 : D) (w9 : Bool) (w10 : LD) (w11 : Bool) (w12 : LD) (kr : Int → D → Bool → LD → Bool → LD → Option R) (k0 : Ty2 → Option R) : Option R :=
 bif (decide (w3 < w2)) then
  bif (inB w3 w1.length) then
   bnd (G40x0 N ((w1.getD w3.toNat (.i 0)).cell 0).toI ((w1.getD w3.toNat (.i 0)).cell 1).toI ((w1.getD w3.toNat (.i 0)).cell 2).toI ((w1.getD w3.toNat (.i 0)).cell 3).items ((w1.getD w3.toNat (.i 0)).cell 4).items w8) fun y0 =>
   bif y0.isSome then
    bnd (G17x0x29 N (((w1.getD w3.toNat (.i 0)).cell 0).toI != 1) ((w1.getD w3.toNat (.i 0)).cell 1).toI (y0.getD default).2) fun y1 =>
    bif (inlB y1) then
     bif (decide ((w10.length + 1) * 24 ≤ room) && decide ((w10.length + 1) ≤ strMax)) then
      bif (decide ((w12.length + 1) * 8 ≤ room) && decide ((w12.length + 1) ≤ strMax)) then
       kr (IntKind.wrap .i64 (w3 + 1)) (y0.getD default).2 false (w10 ++ [(.l false (inlV y1))]) false (w12 ++ [(.i (y0.getD default).1)])
      else
       none
     else
      none
    else
     bif (inrQ y1).isSome then
      bif (decide ((w10.length + 1) * 24 ≤ room) && decide ((w10.length + 1) ≤ strMax)) then
       bif (decide ((w12.length + 1) * 8 ≤ room) && decide ((w12.length + 1) ≤ strMax)) then
        kr (IntKind.wrap .i64 (w3 + 1)) (y0.getD default).2 false (w10 ++ [(.l true [])]) false (w12 ++ [(.i (y0.getD default).1)])
       else
        none
      else
       none
     else
      none
   else
    none
  else
   none
 else
  k0 (w9, w10, w11, w12)
noncomputable def L17x0x12 (N : Nat) {R : Type} (w1 : LD) (w2 : Int) : Nat → Int → D → Bool → LD → Bool → LD → (Ty2 → Option R) → Option R
 | 0, _, _, _, _, _, _, _ => none
 | m + 1, w3, w8, w9, w10, w11, w12, k0 => S17x0x12 N w1 w2 w3 w8 w9 w10 w11 w12 (fun w3 w8 w9 w10 w11 w12 => L17x0x12 N w1 w2 m w3 w8 w9 w10 w11 w12 k0) k0
noncomputable def G17x0x12 (w1 : LD) (w2 : Int) (w3 : Int) (w8 : D) (w9 : Bool) (w10 : LD) (w11 : Bool) (w12 : LD) : Option (Ty2) := L17x0x12 N (R := (Ty2)) w1 w2 N w3 w8 w9 w10 w11 w12 (fun p => some p)
noncomputable def J17x0x12 (L x : List Lf) (kr : List Lf → Option R) (k0 : Ty2 → Option R) : Option R := S17x0x12 N (ll L 1) (li L 2) (li x 0) (ld x 1) (lb x 2) (ll x 3) (lb x 4) (ll x 5) (fun w3 w8 w9 w10 w11 w12 => kr [.i w3, .d w8, .b w9, .l w10, .b w11, .l w12]) k0
theorem sb17x0x12 (L x : List Lf) (kr : List Lf → Option R) (k0 : Ty2 → Option R) : J17x0x12 N L x kr k0 = (J17x0x12 N L x (fun y => some (.inl y)) (fun p => some (.inr p))).bind (sumE kr k0) := by
 unfold J17x0x12 S17x0x12
 repeat' (first | with_reducible apply cond_b | (with_reducible apply bnd_b; intro _) | rfl)
noncomputable def Q17x0x12 (L : List Lf) (m : Nat) (x : List Lf) : Option (Ty2) := L17x0x12 N (R := (Ty2)) (ll L 1) (li L 2) m (li x 0) (ld x 1) (lb x 2) (ll x 3) (lb x 4) (ll x 5) (fun p => some p)
noncomputable def sh17x0x12 : Sh := { tmps := [(2, .c (.p 2 0)), (3, .c (.p 3 0)), (4, .c (.p 11 0)), (13, .c (.sl 41)), (14, .c (.i .i64)), (15, .c (.i .i64))], mem := [(2, .box ([.sl 38, .sl 3])), (3, .box ([.o 50003000, .o 50003001])), (11, .dat 100), (50003000, .row 38 true), (50003001, .row 3 true)] }
noncomputable def K17x0x12w0 (L : List Lf) (p : Ty2) : Ex × St := ((.exit 0), mg (ofSh sh17x0x12 L) [2, 3] [] [2, 3, 50003000, 50003001] [(50003000, .row 38 true p.1 p.2.1), (50003001, .row 3 true p.2.2.1 p.2.2.2)])
noncomputable def A17x0x12 (L : List Lf) : List (Bool × (Ex × St)) := bnd (Q17x0x12 N L N (pk sh17x0x12 [3, 8, 9, 10, 11, 12] L)) fun q => [(q.isSome, K17x0x12w0 L (q.getD default))]
theorem step17x0x12 (m : Nat) (kn : St → Option (Ex × St)) (L x : List Lf) : lpB Try.prog (T15x0 N) (h17x0s1 N).h 0 17 12 sh17x0x12 [3, 8, 9, 10, 11, 12] [2, 3] [2, 3, 50003000, 50003001] (m + 100) kn L x = J17x0x12 N L x (fun y => kn (ofSh sh17x0x12 (mx sh17x0x12 [3, 8, 9, 10, 11, 12] L y))) (fun p => some (K17x0x12w0 L p)) := by kernel_rfl
theorem ql17x0x12 (L : List Lf) (m : Nat) (x : List Lf) : Q17x0x12 N L (m + 1) x = J17x0x12 N L x (Q17x0x12 N L m) some := by kernel_rfl
noncomputable def h17x0s2 : Sg Try.prog 0 17 :=
 (h17x0s1 N).lp (A17x0x12 N) N progOk (T15x0_ok N) (fun m kn L x => (step17x0x12 N m kn L x).trans (sb17x0x12 N L x _ _)) (fun L m x => (ql17x0x12 N L m x).trans (sb17x0x12 N L x (Q17x0x12 N L m) some)) fun L x hx => alt1 x hx
noncomputable def F17x0 (v1 : LD) (k0 : Ty2 → Option R) : Option R :=
 bnd (G17x0x12 N v1 (v1.length : Int) 0 (.a [(.b false), (.b false), (.b false), (.b false), (.b false), (.b false), (.b false), (.b false), (.b false), (.b false), (.b false), (.b false), (.b false), (.b false), (.b false), (.b false), (.b false), (.i 0), (.l true []), (.b false), (.i 0), (.l true []), (.b false), (.i 0), (.l true []), (.b false), (.i 0), (.l true []), (.b false), (.i 0), (.l true []), (.b false), (.i 0), (.l true []), (.b false), (.i 0), (.l true []), (.b false), (.i 0), (.l true []), (.b false), (.i 0), (.l true []), (.b false), (.i 0), (.l true []), (.b false), (.i 0), (.l true []), (.b false), (.i 0), (.l true []), (.b false), (.i 0), (.l true []), (.b false), (.i 0), (.l true []), (.b false), (.i 0), (.l true []), (.b false), (.i 0), (.l true []), (.i (-1))]) true [] true []) fun y0 =>
 bif y0.isSome then
  k0 (y0.getD default)
 else
  none
noncomputable def G17x0 (v1 : LD) : Option (Ty2) := F17x0 N v1 (fun p => some p)
theorem bind17x0 (v1 : LD) (k0 : Ty2 → Option R) : F17x0 N v1 k0 = (G17x0 N v1).bind k0 := by
 unfold G17x0 F17x0
 repeat' (first | with_reducible apply cond_b | (with_reducible apply bnd_b; intro _) | rfl)
noncomputable def sh17x0 : Sh := { tmps := [(0, .g ([.sl 41]))], mem := [] }
noncomputable def A17x0 (L : List Lf) : List (Bool × Res) := bnd (F17x0 N (ll L 1) (fun p => some p)) fun q => [(q.isSome, ([.g [.sl 38 (q.getD default).1 (q.getD default).2.1, .sl 3 (q.getD default).2.2.1 (q.getD default).2.2.2]], []))]
theorem raw17x0 (L : List Lf) : bd Try.prog (T15x0 N) (h17x0s2 N).h 17 sh17x0 L = F17x0 N (ll L 1) (fun p => some ([.g [.sl 38 p.1 p.2.1, .sl 3 p.2.2.1 p.2.2.2]], [])) := by kernel_rfl
theorem ok17x0 : FnOk Try.prog 17 sh17x0 (A17x0 N) :=
 (h17x0s2 N).fn progOk (T15x0_ok N) fun L x hx => ((raw17x0 N L).trans ((bind17x0 N ..).trans (alt1 x hx)))
noncomputable def T17x0 : Oracle := ext 17 (spSh sh17x0 (A17x0 N)) (T15x0 N)
theorem T17x0_ok : OracleOk Try.prog (T17x0 N) := FnOk.to (ok17x0 N) (T15x0_ok N)
noncomputable def rg48x0 : List (Nat × List Nat) := [(0, [0]), (1, [1]), (2, [1]), (3, [1])]
noncomputable def hd48x0 : Hints := []
noncomputable def h48x0s0 (N : Nat) : Sg Try.prog 0 48 := .start hd48x0 rg48x0
noncomputable def F48x0 (N : Nat) (v1 v2 : Int) (k0 : Int → Option R) : Option R :=
 bif (v2 == 1) then
  bif (decide (0 ≤ (IntKind.wrap .i64 ((IntKind.wrap .i64 (8 * v1)) - 1)))) then
   bnd (IntKind.wrap .i64 (1 * 2 ^ (min (IntKind.wrap .i64 ((IntKind.wrap .i64 (8 * v1)) - 1)).toNat 64))) fun y0 =>
   k0 (IntKind.wrap .i64 (y0 - 1))
  else
   none
 else
  bif (decide (0 ≤ (IntKind.wrap .i64 (8 * v1)))) then
   bnd (IntKind.wrap .i64 (1 * 2 ^ (min (IntKind.wrap .i64 (8 * v1)).toNat 64))) fun y1 =>
   k0 (IntKind.wrap .i64 (y1 - 1))
  else
   none
noncomputable def G48x0 (v1 v2 : Int) : Option (Int) := F48x0 N v1 v2 (fun p => some p)
theorem bind48x0 (v1 v2 : Int) (k0 : Int → Option R) : F48x0 N v1 v2 k0 = (G48x0 N v1 v2).bind k0 := by
 unfold G48x0 F48x0
 repeat' (first | with_reducible apply cond_b | (with_reducible apply bnd_b; intro _) | rfl)
noncomputable def sh48x0 : Sh := { tmps := [(0, .g ([.i .i64, .i .i64, .i .i64]))], mem := [] }
noncomputable def A48x0 (L : List Lf) : List (Bool × Res) := bnd (F48x0 N (li L 1) (li L 2) (fun p => some p)) fun q => [(q.isSome, ([.c (.i .i64 (q.getD default))], []))]
theorem raw48x0 (L : List Lf) : bd Try.prog (T17x0 N) (h48x0s0 N).h 48 sh48x0 L = F48x0 N (li L 1) (li L 2) (fun p => some ([.c (.i .i64 p)], [])) := by kernel_rfl
theorem ok48x0 : FnOk Try.prog 48 sh48x0 (A48x0 N) :=
 (h48x0s0 N).fn progOk (T17x0_ok N) fun L x hx => ((raw48x0 N L).trans ((bind48x0 N ..).trans (alt1 x hx)))
noncomputable def T48x0 : Oracle := ext 48 (spSh sh48x0 (A48x0 N)) (T17x0 N)
theorem T48x0_ok : OracleOk Try.prog (T48x0 N) := FnOk.to (ok48x0 N) (T17x0_ok N)
noncomputable def rg39x0 : List (Nat × List Nat) := [(0, [0, 1, 2]), (1, [3, 1, 6, 2]), (2, [3, 1, 7, 6, 2]), (10, [15, 1, 7, 6, 2, 3]), (13, [15, 1, 7, 6, 2, 3]), (3, [1, 2, 3, 7, 6]), (4, [8, 3, 7, 6]), (5, [7, 6]), (6, [7, 6]), (7, [3, 8, 7, 6]), (8, [8, 3, 7, 6]), (9, [8, 7, 6]), (14, [1, 7, 6]), (11, [1, 7, 6]), (12, [7, 6]), (15, [7, 6])]
noncomputable def hd39x0 : Hints := [(26, [3, 6, 7, 8, 36], [3, 6, 7], []), (9044, [1, 2, 3, 6, 7, 59], [3, 6, 7], []), (39035, [1, 2, 3, 6, 7, 15, 45], [3, 6, 7], [])]
noncomputable def h39x0s0 (N : Nat) : Sg Try.prog 0 39 := .start hd39x0 rg39x0
noncomputable def F39x0x26 (N : Nat) (w0 : Int) (w1 : Bool) (w3 : Int) (k0 : Int → Option R) : Option R :=
 bif w1 then
  bif (decide (0 ≤ (IntKind.wrap .i64 (8 * w3)))) then
   bnd (IntKind.wrap .i64 (1 * 2 ^ (min (IntKind.wrap .i64 (8 * w3)).toNat 64))) fun y0 =>
   k0 (IntKind.wrap .i64 (w0 - y0))
  else
   none
 else
  k0 w0
noncomputable def G39x0x26 (w0 : Int) (w1 : Bool) (w3 : Int) : Option (Int) := F39x0x26 N w0 w1 w3 (fun p => some p)
theorem bind39x0x26 (w0 : Int) (w1 : Bool) (w3 : Int) (k0 : Int → Option R) : F39x0x26 N w0 w1 w3 k0 = (G39x0x26 N w0 w1 w3).bind k0 := by
 unfold G39x0x26 F39x0x26
 repeat' (first | with_reducible apply cond_b | (with_reducible apply bnd_b; intro _) | rfl)
noncomputable def sh39x0x26 : Sh := { tmps := [(3, .c (.p 3 0)), (6, .c (.p 6 0)), (7, .c (.p 7 0)), (8, .c (.i .i64)), (36, .c (.b))], mem := [(3, .box ([.i .i64, .i .i64, .i .i64])), (6, .box ([.i .i64, .i .i64, .i .i64, .s, .b])), (7, .box ([.i .i64, .i .i64, .i .i64, .s, .b]))] }
noncomputable def K39x0x26w0 (L : List Lf) (p : Int) : Ex × St := (.normal, mg (ofSh sh39x0x26 L) [6, 7, 8] [(8, .c (.i .i64 p))] [6, 7] [])
noncomputable def A39x0x26 (L : List Lf) : List (Bool × (Ex × St)) := bnd (F39x0x26 N (li L 0) (lb L 1) (li L 3) (fun p => some p)) fun q => [(q.isSome, K39x0x26w0 L (q.getD default))]
theorem raw39x0x26 (L : List Lf) : pc Try.prog (T48x0 N) (h39x0s0 N).h 0 100 39 26 sh39x0x26 L [6, 7, 8] [6, 7] = F39x0x26 N (li L 0) (lb L 1) (li L 3) (fun p => some (K39x0x26w0 L p)) := by kernel_rfl
noncomputable def h39x0s1 : Sg Try.prog 0 39 :=
 (h39x0s0 N).cut (A39x0x26 N) progOk (T48x0_ok N) fun L x hx => (raw39x0x26 N L).trans ((bind39x0x26 N ..).trans (alt1 x hx))
noncomputable def F39x0x9044 (w1 : LD) (w2 w3 : Bool) (w5 w6 w14 : Int) (w15 : LB) (k0 : Int × LB → Option R) (k1 : Unit → Option R) : Option R :=
 bif w3 then
  k0 (w14, (strD w1))
 else
  bnd (G64x0 N w1 w2) fun y0 =>
  bif y0.isSome then
   bnd (G48x0 N w5 w6) fun y1 =>
   bif y1.isSome then
    bif ((y0.getD default) == (y1.getD default)) then
     k1 ()
    else
     bif (bif (decide (0 ≤ (IntKind.wrap .i64 ((IntKind.wrap .i64 (8 * w5)) - 1)))) then true else (!((w6 == 1) == true))) then
      bnd (bif (w6 == 1) then (decide ((y0.getD default) ≥ (IntKind.wrap .i64 (1 * 2 ^ (min (IntKind.wrap .i64 ((IntKind.wrap .i64 (8 * w5)) - 1)).toNat 64))))) else false) fun y2 =>
      bnd (G39x0x26 N (y0.getD default) y2 w5) fun y3 =>
      bif y3.isSome then
       k0 ((y3.getD default), w15)
      else
       none
     else
      none
   else
    none
  else
   none
noncomputable def G39x0x9044 (w1 : LD) (w2 w3 : Bool) (w5 w6 w14 : Int) (w15 : LB) : Option (Sum (Int × LB) (Unit)) := F39x0x9044 N w1 w2 w3 w5 w6 w14 w15 (fun p => some (.inl p)) (fun p => some (.inr p))
theorem bind39x0x9044 (w1 : LD) (w2 w3 : Bool) (w5 w6 w14 : Int) (w15 : LB) (k0 : Int × LB → Option R) (k1 : Unit → Option R) : F39x0x9044 N w1 w2 w3 w5 w6 w14 w15 k0 k1 = (G39x0x9044 N w1 w2 w3 w5 w6 w14 w15).bind (sumE k0 k1) := by
 unfold G39x0x9044 F39x0x9044
 repeat' (first | with_reducible apply cond_b | (with_reducible apply bnd_b; intro _) | rfl)
noncomputable def J39x0x9044 (L : List Lf) (k0 : Int × LB → Option R) (k1 : Unit → Option R) : Option R := F39x0x9044 N (ll L 1) (lb L 2) (lb L 3) (li L 5) (li L 6) (li L 14) (ls L 15) k0 k1
noncomputable def sh39x0x9044 : Sh := { tmps := [(1, .c (.sl 5)), (2, .c (.b)), (3, .c (.p 3 0)), (6, .c (.p 6 0)), (7, .c (.p 7 0)), (59, .c (.b))], mem := [(3, .box ([.i .i64, .i .i64, .i .i64])), (6, .box ([.i .i64, .i .i64, .i .i64, .s, .b])), (7, .box ([.i .i64, .i .i64, .i .i64, .s, .b]))] }
noncomputable def K39x0x9044w0 (L : List Lf) (p : Int × LB) : Ex × St := (.normal, mg (ofSh sh39x0x9044 L) [6, 7] [] [6, 7] [(7, .box [.i .i64 (li L 12), .i .i64 (li L 13), .i .i64 p.1, .s p.2, .b (lb L 16)])])
noncomputable def K39x0x9044w1 (L : List Lf) (_ : Unit) : Ex × St := (.ret, ⟨[(6, .c (.p 6 0)), (7, .c (.p 7 0))], [(6, .box [.i .i64 (li L 12), .i .i64 (li L 13), .i .i64 (li L 14), .s (ls L 15), .b true]), (7, .box [.i .i64 (li L 12), .i .i64 (li L 13), .i .i64 (li L 14), .s (ls L 15), .b true])]⟩)
noncomputable def A39x0x9044 (L : List Lf) : List (Bool × (Ex × St)) := bnd (J39x0x9044 N L (fun p => some (.inl p)) (fun p => some (.inr p))) fun q => [((inlB q), K39x0x9044w0 L (inlV q)), ((inrQ q).isSome, K39x0x9044w1 L ())]
theorem raw39x0x9044 (L : List Lf) : pc Try.prog (T48x0 N) (h39x0s1 N).h 0 100 39 9044 sh39x0x9044 L [6, 7] [6, 7] = J39x0x9044 N L (fun p => some (K39x0x9044w0 L p)) (fun _ => some (K39x0x9044w1 L ())) := by kernel_rfl
noncomputable def h39x0s2 : Sg Try.prog 0 39 :=
 (h39x0s1 N).cut (A39x0x9044 N) progOk (T48x0_ok N) fun L x hx => (raw39x0x9044 N L).trans ((bind39x0x9044 N ..).trans ((altS alt1) x hx))
noncomputable def F39x0x39035 (w1 : LD) (w2 : Bool) (w3 : Int) (w4 : Bool) (w6 w7 w15 : Int) (w16 : LB) (w17 : Bool) (k0 : Ty3 → Option R) (k1 : Unit → Option R) : Option R :=
 bif w4 then
  bnd (G63x0 N (strD w1)) fun y0 =>
  bif y0.isSome then
   k0 (w15, (y0.getD default).1, ((y0.getD default).1 == ([] : List UInt8)))
  else
   none
 else
  bnd (G39x0x9044 N w1 w2 (w3 == 3) w6 w7 w15 w16) fun y1 =>
  bif (inlB y1) then
   k0 ((inlV y1).1, (inlV y1).2, w17)
  else
   bif (inrQ y1).isSome then
    k1 ()
   else
    none
noncomputable def G39x0x39035 (w1 : LD) (w2 : Bool) (w3 : Int) (w4 : Bool) (w6 w7 w15 : Int) (w16 : LB) (w17 : Bool) : Option (Sum (Ty3) (Unit)) := F39x0x39035 N w1 w2 w3 w4 w6 w7 w15 w16 w17 (fun p => some (.inl p)) (fun p => some (.inr p))
theorem bind39x0x39035 (w1 : LD) (w2 : Bool) (w3 : Int) (w4 : Bool) (w6 w7 w15 : Int) (w16 : LB) (w17 : Bool) (k0 : Ty3 → Option R) (k1 : Unit → Option R) : F39x0x39035 N w1 w2 w3 w4 w6 w7 w15 w16 w17 k0 k1 = (G39x0x39035 N w1 w2 w3 w4 w6 w7 w15 w16 w17).bind (sumE k0 k1) := by
 unfold G39x0x39035 F39x0x39035
 repeat' (first | with_reducible apply cond_b | (with_reducible apply bnd_b; intro _) | rfl)
noncomputable def J39x0x39035 (L : List Lf) (k0 : Ty3 → Option R) (k1 : Unit → Option R) : Option R := F39x0x39035 N (ll L 1) (lb L 2) (li L 3) (lb L 4) (li L 6) (li L 7) (li L 15) (ls L 16) (lb L 17) k0 k1
noncomputable def sh39x0x39035 : Sh := { tmps := [(1, .c (.sl 5)), (2, .c (.b)), (3, .c (.p 3 0)), (6, .c (.p 6 0)), (7, .c (.p 7 0)), (15, .c (.i .i64)), (45, .c (.b))], mem := [(3, .box ([.i .i64, .i .i64, .i .i64])), (6, .box ([.i .i64, .i .i64, .i .i64, .s, .b])), (7, .box ([.i .i64, .i .i64, .i .i64, .s, .b]))] }
noncomputable def K39x0x39035w0 (L : List Lf) (p : Ty3) : Ex × St := (.normal, mg (ofSh sh39x0x39035 L) [6, 7] [] [6, 7] [(7, .box [.i .i64 (li L 13), .i .i64 (li L 14), .i .i64 p.1, .s p.2.1, .b p.2.2])])
noncomputable def K39x0x39035w1 (L : List Lf) (_ : Unit) : Ex × St := (.ret, ⟨[(6, .c (.p 6 0)), (7, .c (.p 7 0))], [(6, .box [.i .i64 (li L 13), .i .i64 (li L 14), .i .i64 (li L 15), .s (ls L 16), .b true]), (7, .box [.i .i64 (li L 13), .i .i64 (li L 14), .i .i64 (li L 15), .s (ls L 16), .b true])]⟩)
noncomputable def A39x0x39035 (L : List Lf) : List (Bool × (Ex × St)) := bnd (J39x0x39035 N L (fun p => some (.inl p)) (fun p => some (.inr p))) fun q => [((inlB q), K39x0x39035w0 L (inlV q)), ((inrQ q).isSome, K39x0x39035w1 L ())]
theorem raw39x0x39035 (L : List Lf) : pc Try.prog (T48x0 N) (h39x0s2 N).h 0 100 39 39035 sh39x0x39035 L [6, 7] [6, 7] = J39x0x39035 N L (fun p => some (K39x0x39035w0 L p)) (fun _ => some (K39x0x39035w1 L ())) := by kernel_rfl
noncomputable def h39x0s3 : Sg Try.prog 0 39 :=
 (h39x0s2 N).cut (A39x0x39035 N) progOk (T48x0_ok N) fun L x hx => (raw39x0x39035 N L).trans ((bind39x0x39035 N ..).trans ((altS alt1) x hx))
noncomputable def F39x0 (v1 v2 : Int) (v4 : LD) (v5 : Bool) (k0 : Ty3 → Option R) : Option R :=
 bnd (G39x0x39035 N v4 v5 v2 (v2 == 2) v1 v2 0 ([] : List UInt8) false) fun y0 =>
 bif (inlB y0) then
  k0 (inlV y0)
 else
  bif (inrQ y0).isSome then
   k0 (0, ([] : List UInt8), true)
  else
   none
noncomputable def G39x0 (v1 v2 : Int) (v4 : LD) (v5 : Bool) : Option (Ty3) := F39x0 N v1 v2 v4 v5 (fun p => some p)
theorem bind39x0 (v1 v2 : Int) (v4 : LD) (v5 : Bool) (k0 : Ty3 → Option R) : F39x0 N v1 v2 v4 v5 k0 = (G39x0 N v1 v2 v4 v5).bind k0 := by
 unfold G39x0 F39x0
 repeat' (first | with_reducible apply cond_b | (with_reducible apply bnd_b; intro _) | rfl)
noncomputable def J39x0 (L : List Lf) (k0 : Ty3 → Option R) : Option R := F39x0 N (li L 1) (li L 2) (ll L 4) (lb L 5) k0
noncomputable def sh39x0 : Sh := { tmps := [(0, .g ([.i .i64, .i .i64, .i .i64])), (1, .c (.sl 5)), (2, .c (.b))], mem := [] }
noncomputable def K39x0w0 (L : List Lf) (p : Ty3) : Res := ([.g [.i .i64 (li L 0), .i .i64 (li L 2), .i .i64 p.1, .s p.2.1, .b p.2.2]], [])
noncomputable def A39x0 (L : List Lf) : List (Bool × Res) := bnd (J39x0 N L (fun p => some p)) fun q => [(q.isSome, K39x0w0 L (q.getD default))]
theorem raw39x0 (L : List Lf) : bd Try.prog (T48x0 N) (h39x0s3 N).h 39 sh39x0 L = J39x0 N L (fun p => some (K39x0w0 L p)) := by kernel_rfl
theorem ok39x0 : FnOk Try.prog 39 sh39x0 (A39x0 N) :=
 (h39x0s3 N).fn progOk (T48x0_ok N) fun L x hx => ((raw39x0 N L).trans ((bind39x0 N ..).trans (alt1 x hx)))
noncomputable def T39x0 : Oracle := ext 39 (spSh sh39x0 (A39x0 N)) (T48x0 N)
theorem T39x0_ok : OracleOk Try.prog (T39x0 N) := FnOk.to (ok39x0 N) (T48x0_ok N)
noncomputable def rg16x0 : List (Nat × List Nat) := [(0, [0, 1]), (1, [2, 3]), (2, [2, 3, 5]), (3, [2, 3, 5, 6]), (4, [15, 14, 13, 5, 3, 6, 2]), (5, [13, 15, 5, 3, 6, 2, 14]), (6, [5, 8, 3, 6, 2, 15, 14, 13]), (7, [6, 8, 15, 14, 13, 5, 3, 2]), (8, [15, 14, 13, 5, 3, 6, 2]), (9, [5])]
noncomputable def hd16x0 : Hints := [(12, [2, 3, 5, 6, 13, 14, 15], [2, 3, 5], [5])]
noncomputable def h16x0s0 (N : Nat) : Sg Try.prog 0 16 := .start hd16x0 rg16x0
noncomputable def S16x0x12 (w2 : LD) (w3 : Int) (w5 : Bool) (w15 : LD) (w0 w4 : Int) (w16 : Bool) (w17 : LD) (kr : Int → Int → Bool → LD → Option R) (k0 : Bool × LD → Option R) : Option R :=
 bif (decide (w4 < w3)) then
  bif (inB w4 w2.length) then
   bnd (IntKind.wrap .i64 (w0 + ((w2.getD w4.toNat (.i 0)).cell 1).toI)) fun y0 =>
   bif (((decide (0 ≤ w0)) && (decide (w0 ≤ y0))) && (decide (y0 ≤ (w15.length : Int)))) then
    bnd (G39x0 N ((w2.getD w4.toNat (.i 0)).cell 1).toI ((w2.getD w4.toNat (.i 0)).cell 2).toI ((w15.take y0.toNat).drop w0.toNat) w5) fun y1 =>
    bif y1.isSome then
     bif (decide ((w17.length + 1) * 48 ≤ room) && decide ((w17.length + 1) ≤ strMax)) then
      bnd ((w17 ++ [(.a [(.i ((w2.getD w4.toNat (.i 0)).cell 0).toI), (.i ((w2.getD w4.toNat (.i 0)).cell 2).toI), (.i (y1.getD default).1), (.s (y1.getD default).2.1), (.b (y1.getD default).2.2)])]) : List D) fun y2 =>
      bnd (IntKind.wrap .i64 (w0 + ((w2.getD w4.toNat (.i 0)).cell 1).toI)) fun y0 =>
      kr y0 (IntKind.wrap .i64 (w4 + 1)) false y2
     else
      none
    else
     none
   else
    none
  else
   none
 else
  k0 (w16, w17)
noncomputable def L16x0x12 (N : Nat) {R : Type} (w2 : LD) (w3 : Int) (w5 : Bool) (w15 : LD) : Nat → Int → Int → Bool → LD → (Bool × LD → Option R) → Option R
 | 0, _, _, _, _, _ => none
 | m + 1, w0, w4, w16, w17, k0 => S16x0x12 N w2 w3 w5 w15 w0 w4 w16 w17 (fun w0 w4 w16 w17 => L16x0x12 N w2 w3 w5 w15 m w0 w4 w16 w17 k0) k0
noncomputable def G16x0x12 (w2 : LD) (w3 : Int) (w5 : Bool) (w15 : LD) (w0 w4 : Int) (w16 : Bool) (w17 : LD) : Option (Bool × LD) := L16x0x12 N (R := (Bool × LD)) w2 w3 w5 w15 N w0 w4 w16 w17 (fun p => some p)
noncomputable def J16x0x12 (L x : List Lf) (kr : List Lf → Option R) (k0 : Bool × LD → Option R) : Option R := S16x0x12 N (ll L 2) (li L 3) (lb L 5) (ll L 15) (li x 0) (li x 1) (lb x 2) (ll x 3) (fun w0 w4 w16 w17 => kr [.i w0, .i w4, .b w16, .l w17]) k0
theorem sb16x0x12 (L x : List Lf) (kr : List Lf → Option R) (k0 : Bool × LD → Option R) : J16x0x12 N L x kr k0 = (J16x0x12 N L x (fun y => some (.inl y)) (fun p => some (.inr p))).bind (sumE kr k0) := by
 unfold J16x0x12 S16x0x12
 repeat' (first | with_reducible apply cond_b | (with_reducible apply bnd_b; intro _) | rfl)
noncomputable def Q16x0x12 (L : List Lf) (m : Nat) (x : List Lf) : Option (Bool × LD) := L16x0x12 N (R := (Bool × LD)) (ll L 2) (li L 3) (lb L 5) (ll L 15) m (li x 0) (li x 1) (lb x 2) (ll x 3) (fun p => some p)
noncomputable def sh16x0x12 : Sh := { tmps := [(2, .c (.p 2 0)), (3, .c (.p 3 0)), (5, .c (.o 5)), (6, .c (.i .i64)), (13, .c (.sl 61)), (14, .c (.i .i64)), (15, .c (.i .i64))], mem := [(2, .box ([.b, .i .i64, .sl 61])), (3, .box ([.i .i64, .i .i64, .i .i64, .sl 44, .sl 5])), (5, .row 26 true)] }
noncomputable def A16x0x12 (L : List Lf) : List (Bool × (Ex × St)) := bnd (Q16x0x12 N L N (pk sh16x0x12 [0, 4, 16, 17] L)) fun q => [(q.isSome, ((.exit 0), ⟨[(5, .c (.o 5))], [(5, .row 26 true (q.getD default).1 (q.getD default).2)]⟩))]
theorem step16x0x12 (m : Nat) (kn : St → Option (Ex × St)) (L x : List Lf) : lpB Try.prog (T39x0 N) (h16x0s0 N).h 0 16 12 sh16x0x12 [0, 4, 16, 17] [4, 5] [5] (m + 100) kn L x = J16x0x12 N L x (fun y => kn (ofSh sh16x0x12 (mx sh16x0x12 [0, 4, 16, 17] L y))) (fun p => some ((.exit 0), ⟨[(5, .c (.o 5))], [(5, .row 26 true p.1 p.2)]⟩)) := by kernel_rfl
theorem ql16x0x12 (L : List Lf) (m : Nat) (x : List Lf) : Q16x0x12 N L (m + 1) x = J16x0x12 N L x (Q16x0x12 N L m) some := by kernel_rfl
noncomputable def h16x0s1 : Sg Try.prog 0 16 :=
 (h16x0s0 N).lp (A16x0x12 N) N progOk (T39x0_ok N) (fun m kn L x => (step16x0x12 N m kn L x).trans (sb16x0x12 N L x _ _)) (fun L m x => (ql16x0x12 N L m x).trans (sb16x0x12 N L x (Q16x0x12 N L m) some)) fun L x hx => alt1 x hx
noncomputable def F16x0 (v0 : Bool) (v3 : LD) (v4 : Int) (v10 : LD) (k0 : Bool × LD → Option R) : Option R :=
 bnd (G24x0 N v3 (v4 == 3)) fun y0 =>
 bif y0.isSome then
  bnd (G16x0x12 N (y0.getD default).2 ((y0.getD default).2.length : Int) v0 v10 0 0 true []) fun y1 =>
  bif y1.isSome then
   k0 (y1.getD default)
  else
   none
 else
  none
noncomputable def G16x0 (v0 : Bool) (v3 : LD) (v4 : Int) (v10 : LD) : Option (Bool × LD) := F16x0 N v0 v3 v4 v10 (fun p => some p)
theorem bind16x0 (v0 : Bool) (v3 : LD) (v4 : Int) (v10 : LD) (k0 : Bool × LD → Option R) : F16x0 N v0 v3 v4 v10 k0 = (G16x0 N v0 v3 v4 v10).bind k0 := by
 unfold G16x0 F16x0
 repeat' (first | with_reducible apply cond_b | (with_reducible apply bnd_b; intro _) | rfl)
noncomputable def J16x0 (L : List Lf) (k0 : Bool × LD → Option R) : Option R := F16x0 N (lb L 0) (ll L 3) (li L 4) (ll L 10) k0
noncomputable def sh16x0 : Sh := { tmps := [(0, .g ([.b, .i .i64, .sl 61])), (1, .g ([.i .i64, .i .i64, .i .i64, .sl 44, .sl 5]))], mem := [] }
noncomputable def A16x0 (L : List Lf) : List (Bool × Res) := bnd (J16x0 N L (fun p => some p)) fun q => [(q.isSome, ([.c (.sl 26 (q.getD default).1 (q.getD default).2)], []))]
theorem raw16x0 (L : List Lf) : bd Try.prog (T39x0 N) (h16x0s1 N).h 16 sh16x0 L = J16x0 N L (fun p => some ([.c (.sl 26 p.1 p.2)], [])) := by kernel_rfl
theorem ok16x0 : FnOk Try.prog 16 sh16x0 (A16x0 N) :=
 (h16x0s1 N).fn progOk (T39x0_ok N) fun L x hx => ((raw16x0 N L).trans ((bind16x0 N ..).trans (alt1 x hx)))
noncomputable def T16x0 : Oracle := ext 16 (spSh sh16x0 (A16x0 N)) (T39x0 N)
theorem T16x0_ok : OracleOk Try.prog (T16x0 N) := FnOk.to (ok16x0 N) (T39x0_ok N)
noncomputable def rg6x0 : List (Nat × List Nat) := [(0, [0, 1]), (1, [2, 1]), (2, [6, 2, 1]), (3, [6]), (4, [2, 1])]
noncomputable def hd6x0 : Hints := []
noncomputable def h6x0s0 (N : Nat) : Sg Try.prog 0 6 := .start hd6x0 rg6x0
noncomputable def F6x0 (v1 : LD) (v2 : Int) (k0 : Bool × LD × Int → Option R) : Option R :=
 bnd (G15x0 N v1 v2) fun y0 =>
 bif y0.isSome then
  bif ((y0.getD default) != 0) then
   k0 (true, [], (y0.getD default))
  else
   bnd (G17x0 N v1) fun y1 =>
   bif y1.isSome then
    bif (inB v2 (y1.getD default).2.1.length) then
     bif (inB 0 ((y1.getD default).2.1.getD v2.toNat (.i 0)).items.length) then
      bnd ((((y1.getD default).2.1.getD v2.toNat (.i 0)).items.getD 0 (.i 0)) : D) fun y2 =>
      bif (inB v2 v1.length) then
       bnd (G16x0 N (y2.cell 0).toB (y2.cell 2).items ((v1.getD v2.toNat (.i 0)).cell 0).toI ((v1.getD v2.toNat (.i 0)).cell 4).items) fun y3 =>
       bif y3.isSome then
        k0 ((y3.getD default).1, (y3.getD default).2, 0)
       else
        none
      else
       none
     else
      none
    else
     none
   else
    none
 else
  none
noncomputable def G6x0 (v1 : LD) (v2 : Int) : Option (Bool × LD × Int) := F6x0 N v1 v2 (fun p => some p)
theorem bind6x0 (v1 : LD) (v2 : Int) (k0 : Bool × LD × Int → Option R) : F6x0 N v1 v2 k0 = (G6x0 N v1 v2).bind k0 := by
 unfold G6x0 F6x0
 repeat' (first | with_reducible apply cond_b | (with_reducible apply bnd_b; intro _) | rfl)
noncomputable def sh6x0 : Sh := { tmps := [(0, .g ([.sl 41])), (1, .c (.i .i64))], mem := [] }
noncomputable def A6x0 (L : List Lf) : List (Bool × Res) := bnd (F6x0 N (ll L 1) (li L 2) (fun p => some p)) fun q => [(q.isSome, ([.c (.sl 26 (q.getD default).1 (q.getD default).2.1), .c (.i .i64 (q.getD default).2.2)], []))]
theorem raw6x0 (L : List Lf) : bd Try.prog (T16x0 N) (h6x0s0 N).h 6 sh6x0 L = F6x0 N (ll L 1) (li L 2) (fun p => some ([.c (.sl 26 p.1 p.2.1), .c (.i .i64 p.2.2)], [])) := by kernel_rfl
theorem ok6x0 : FnOk Try.prog 6 sh6x0 (A6x0 N) :=
 (h6x0s0 N).fn progOk (T16x0_ok N) fun L x hx => ((raw6x0 N L).trans ((bind6x0 N ..).trans (alt1 x hx)))
noncomputable def T6x0 : Oracle := ext 6 (spSh sh6x0 (A6x0 N)) (T16x0 N)
theorem T6x0_ok : OracleOk Try.prog (T6x0 N) := FnOk.to (ok6x0 N) (T16x0_ok N)

end Go.Proofs.Ytfogaejiehebeaa

set_option linter.unusedVariables false
set_option linter.unusedSimpArgs false
set_option maxRecDepth 100000
namespace Go.Proofs.Ytfogaejiehebeaa
open Go Go.AM
variable (N : Nat) {R : Type}
noncomputable def rgS : List (Nat × List Nat) := [(0, [0, 2, 1]), (1, [3, 1, 6, 5]), (2, [9, 6, 8, 3, 1, 5]), (3, [9, 6]), (4, [8, 3, 1, 5, 6]), (5, [10, 5, 6, 8, 3, 1]), (6, [11, 6, 10, 5, 8, 3, 1]), (8, [10, 11, 5, 6, 8, 3, 1]), (9, [6]), (7, [6]), (10, [10, 11, 5, 8, 6, 3, 1]), (11, [9, 6, 3, 1, 10, 11, 12]), (12, [9, 6]), (13, [3, 6, 1, 10, 11, 12]), (15, [13, 6]), (16, [14, 6, 13]), (17, [14, 6]), (18, [13, 6])]
noncomputable def hdS : Hints := [(43, [1, 6, 10, 11, 12, 13], [6, 13, Ce.R7, Ce.K7], [])]
noncomputable def sgS : Sg Try.prog 0 7 := (Sg.start hdS rgS).hand (id := 43) Ce.law43
noncomputable def F7s (v1 : LD) (v2 v3 v4 v5 : Int) (v6 : LB) (v7 : Bool) (k0 : Bool × LD × Int → Option R) : Option R :=
 bnd (G13x0 N v1 v2) fun y0 =>
 bif y0.isSome then
  bif ((y0.getD default).2.2.2.2.2.2.2 != 0) then
   k0 (true, [], (y0.getD default).2.2.2.2.2.2.2)
  else
   bif (inB v2 v1.length) then
    bnd (G18x0 N (y0.getD default).2.2.2.2.1 (y0.getD default).2.2.2.2.2.2.1 (((v1.getD v2.toNat (.i 0)).cell 0).toI == 3)) fun y1 =>
    bif y1.isSome then
     bnd (G19x0 N (y1.getD default).2 v3) fun y2 =>
     bif y2.isSome then
      bif (decide ((y2.getD default) < 0)) then
       k0 (true, [], 4)
      else
       bif (inB (y2.getD default) (y1.getD default).2.length) then
        bnd (((y1.getD default).2.getD (y2.getD default).toNat (.i 0)) : D) fun y3 =>
        bif ((y3.cell 2).toI != v4) then
         k0 (true, [], 7)
        else
         bif (inB (y2.getD default) (y1.getD default).2.length) then
          bnd (((y1.getD default).2.getD (y2.getD default).toNat (.i 0)) : D) fun y3 =>
          bnd (G21x0 N (y3.cell 1).toI (y3.cell 2).toI v5 v6 v7 (y0.getD default).2.1) fun y4 =>
          bif y4.isSome then
           bif ((y4.getD default).2.2 != 0) then
            k0 (true, [], (y4.getD default).2.2)
           else
            bnd (Ce.lpA N v1 (v1.length : Int) v2 N 0 true []) fun y5 =>
            bif y5.isSome then
             bif Ce.c43 v2 (y1.getD default).2 (y2.getD default) (y5.getD default).1 (y5.getD default).2.1 (y5.getD default).2.2.1 (y5.getD default).2.2.2 then
              bnd (Ce.xs' (y1.getD default).2 (y2.getD default) (y4.getD default).2.1 (y5.getD default).1 (y5.getD default).2.1 (y5.getD default).2.2.2) fun y7 =>
              bnd (G23x0 N y7) fun y6 =>
              bif y6.isSome then
               bif ((y6.getD default) != 0) then
                k0 (true, [], (y6.getD default))
               else
                k0 (false, y7, 0)
              else
               none
             else
              none
            else
             none
          else
           none
         else
          none
       else
        none
     else
      none
    else
     none
   else
    none
 else
  none
noncomputable def setG (v1 : LD) (v2 v3 v4 v5 : Int) (v6 : LB) (v7 : Bool) : Option (Bool × LD × Int) := F7s N v1 v2 v3 v4 v5 v6 v7 (fun p => some p)
theorem bindS (v1 : LD) (v2 v3 v4 v5 : Int) (v6 : LB) (v7 : Bool) (k0 : Bool × LD × Int → Option R) : F7s N v1 v2 v3 v4 v5 v6 v7 k0 = (setG N v1 v2 v3 v4 v5 v6 v7).bind k0 := by
 unfold setG F7s
 repeat' (first | with_reducible apply cond_b | (with_reducible apply bnd_b; intro _) | rfl)
noncomputable def TS (k : Int) : Oracle := ext 22 (spSh Ce.sh22 (Ce.A22k N k)) (T21x0 N)
theorem TS_ok (k : Int) : OracleOk Try.prog (TS N k) := FnOk.to (Ce.ok22k N k) (T21x0_ok N)
def setSh : Sh := { tmps := [(0, .g ([.sl 41])), (1, .c (.i .i64)), (2, .g ([.i .i64, .i .i64, .i .i64, .s, .b]))], mem := [] }
noncomputable def setA (L : List Lf) : List (Bool × Res) := bnd (setG N (ll L 1) (li L 2) (li L 3) (li L 4) (li L 5) (ls L 6) (lb L 7)) fun q => [(q.isSome, ([.g [.sl 41 (q.getD default).1 (q.getD default).2.1], .c (.i .i64 (q.getD default).2.2)], []))]
theorem rawS (L : List Lf) : bd Try.prog (TS N (li L 2)) sgS.h 7 setSh L = F7s N (ll L 1) (li L 2) (li L 3) (li L 4) (li L 5) (ls L 6) (lb L 7) (fun p => some ([.g [.sl 41 p.1 p.2.1], .c (.i .i64 p.2.2)], [])) := by kernel_rfl
theorem set_fn : FnOk Try.prog 7 setSh (setA N) :=
 spSh_law fun L x hx => callOk_of (n := 200) progOk (TS_ok N (li L 2)) sgS.ok rfl ((rawS N L).trans ((bindS N ..).trans (alt1 x hx)))
end Go.Proofs.Ytfogaejiehebeaa

