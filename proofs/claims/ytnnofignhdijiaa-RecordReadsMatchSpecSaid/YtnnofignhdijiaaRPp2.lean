/- Functions of the program as plain Lean definitions, each with the proof that the program computes it. No condition. Printed by a program of the prover, part 2. -/
import Derived.Test.YtnnofignhdijiaaRPp1
import Derived.KernelRfl
set_option linter.all false
set_option maxRecDepth 100000
namespace Go.Proofs.Ytnnofignhdijiaa
open Go Go.AM
variable (N : Nat) {R : Type}
theorem bind133x0 (v0 : Int) (v1 : Bool) (v2 : LD) (v3 : D) (k0 : Ty0 → Option R) : F133x0 N v0 v1 v2 v3 k0 = (G133x0 N v0 v1 v2 v3).bind k0 := by
  unfold G133x0 F133x0
  repeat' (first | with_reducible apply cond_b | (with_reducible apply bnd_b; intro _) | rfl)
noncomputable def J133x0 (L : List Lf) (k0 : Ty0 → Option R) : Option R := F133x0 N (li L 0) (lb L 1) (ll L 2) (ld L 3) k0
noncomputable def sh133x0 : Sh := { tmps := [(0, .c (.p 0 0)), (1, .c (.p 1 0)), (2, .c (.p 2 0))], mem := [(0, .box ([.i .i64])), (1, .box ([.sl 5])), (2, .dat 114)] }
noncomputable def K133x0w0 (L : List Lf) (p : Ty0) : Res := let p1 := p.2; let p2 := p1.2; let p3 := p2.2; let p4 := p3.2; let p5 := p4.2; let p6 := p5.2; let p7 := p6.2; let p8 := p7.2; let p9 := p8.2; ([.g [.i .i64 p.1, .i .i64 p1.1, .i .i64 p2.1, .sl 103 p3.1 p4.1, .sl 5 p5.1 p6.1], .c (.i .i64 (li L 0)), .c (.b p7.1)], mgA (ofSh sh133x0 L).mem [(0, .box [.i .i64 p8.1]), (2, .dat 114 p9)] [0, 1, 2])
noncomputable def A133x0 (L : List Lf) : List (Bool × Res) := bnd (J133x0 N L (fun p => some p)) fun q => [(q.isSome, K133x0w0 L (q.getD default))]
theorem raw133x0 (L : List Lf) : bd Try.prog (T129x0 N) (h133x0s3 N).h 133 sh133x0 L = J133x0 N L (fun p => some (K133x0w0 L p)) := by kernel_rfl
theorem ok133x0 : FnOk Try.prog 133 sh133x0 (A133x0 N) :=
  (h133x0s3 N).fn progOk (T129x0_ok N) fun L x hx => ((raw133x0 N L).trans ((bind133x0 N ..).trans (alt1 x hx)))
noncomputable def T133x0 : Oracle := ext 133 (spSh sh133x0 (A133x0 N)) (T129x0 N)
theorem T133x0_ok : OracleOk Try.prog (T133x0 N) := FnOk.to (ok133x0 N) (T129x0_ok N)
noncomputable def rg65x0 : List (Nat × List Nat) := [(0, [0]), (1, [1]), (2, [8, 1]), (4, [8, 1]), (5, [1]), (3, [1]), (6, [1]), (7, [1, 3]), (8, [3, 4]), (9, [4, 3]), (10, [4, 3]), (11, [4, 3]), (12, [3, 4]), (13, [62, 61, 60, 4]), (14, [60, 62, 4, 61]), (15, [4, 6, 62, 61, 60]), (16, [62, 61, 60, 4]), (17, [4])]
noncomputable def hd65x0 : Hints := [(29, [4, 3, 42], [40, 3], []), (39, [62, 61, 60, 4], [58, 4], [4])]
noncomputable def h65x0s0 (N : Nat) : Sg Try.prog 0 65 := .start hd65x0 rg65x0
noncomputable def F65x0x29 (N : Nat) (w0 : Bool) (w6 : LD) (k0 : LD → Option R) : Option R :=
  bif w0 then
    bif (inB 1 w6.length) then
      bif (decide (1 < w6.length)) then
        k0 (w6.set 1 (.i 1))
      else
        none
    else
      none
  else
    k0 w6
noncomputable def G65x0x29 (w0 : Bool) (w6 : LD) : Option (LD) := F65x0x29 N w0 w6 (fun p => some p)
theorem bind65x0x29 (w0 : Bool) (w6 : LD) (k0 : LD → Option R) : F65x0x29 N w0 w6 k0 = (G65x0x29 N w0 w6).bind k0 := by
  unfold G65x0x29 F65x0x29
  repeat' (first | with_reducible apply cond_b | (with_reducible apply bnd_b; intro _) | rfl)
noncomputable def sh65x0x29 : Sh := { tmps := [(3, .c (.p 3 0)), (4, .c (.o 40)), (42, .c (.b))], mem := [(3, .box ([.b, .i .i64, .sl 146])), (40, .row 5 true)] }
noncomputable def K65x0x29w0 (L : List Lf) (p : LD) : Ex × St := (.normal, mg (ofSh sh65x0x29 L) [3, 4] [] [3, 40] [(40, .row 5 true (lb L 5) p)])
noncomputable def A65x0x29 (L : List Lf) : List (Bool × (Ex × St)) := bnd (F65x0x29 N (lb L 0) (ll L 6) (fun p => some p)) fun q => [(q.isSome, K65x0x29w0 L (q.getD default))]
theorem raw65x0x29 (L : List Lf) : pc Try.prog (T133x0 N) (h65x0s0 N).h 0 100 65 29 sh65x0x29 L [4, 3] [40, 3] = F65x0x29 N (lb L 0) (ll L 6) (fun p => some (K65x0x29w0 L p)) := by kernel_rfl
noncomputable def h65x0s1 : Sg Try.prog 0 65 :=
  (h65x0s0 N).cut (A65x0x29 N) progOk (T133x0_ok N) fun L x hx => (raw65x0x29 N L).trans ((bind65x0x29 N ..).trans (alt1 x hx))
noncomputable def S65x0x39 (N : Nat) (w1 : LD) (w2 : Int) (w3 : Int) (w4 : Bool) (w5 : LD) (kr : Int → Bool → LD → Option R) (k0 : Bool × LD → Option R) : Option R :=
  bif (decide (w3 < w2)) then
    bif (inB w3 w1.length) then
      bif (decide ((w5.length + 3) * 1 ≤ room) && decide ((w5.length + 3) ≤ strMax)) then
        bnd ((w5 ++ [(.i (IntKind.wrap .u8 ((w1.getD w3.toNat (.i 0)).cell 0).toI)), (.i (IntKind.wrap .u8 ((w1.getD w3.toNat (.i 0)).cell 1).toI)), (.i (IntKind.wrap .u8 ((w1.getD w3.toNat (.i 0)).cell 2).toI))]) : List D) fun y0 =>
        kr (IntKind.wrap .i64 (w3 + 1)) false y0
      else
        none
    else
      none
  else
    k0 (w4, w5)
noncomputable def L65x0x39 (N : Nat) {R : Type} (w1 : LD) (w2 : Int) : Nat → Int → Bool → LD → (Bool × LD → Option R) → Option R
  | 0, _, _, _, _ => none
  | m + 1, w3, w4, w5, k0 => S65x0x39 N w1 w2 w3 w4 w5 (fun w3 w4 w5 => L65x0x39 N w1 w2 m w3 w4 w5 k0) k0
noncomputable def G65x0x39 (w1 : LD) (w2 : Int) (w3 : Int) (w4 : Bool) (w5 : LD) : Option (Bool × LD) := L65x0x39 N (R := (Bool × LD)) w1 w2 N w3 w4 w5 (fun p => some p)
noncomputable def J65x0x39 (L x : List Lf) (kr : List Lf → Option R) (k0 : Bool × LD → Option R) : Option R := S65x0x39 N (ll L 1) (li L 2) (li x 0) (lb x 1) (ll x 2) (fun w3 w4 w5 => kr [.i w3, .b w4, .l w5]) k0
theorem sb65x0x39 (L x : List Lf) (kr : List Lf → Option R) (k0 : Bool × LD → Option R) : J65x0x39 N L x kr k0 = (J65x0x39 N L x (fun y => some (.inl y)) (fun p => some (.inr p))).bind (sumE kr k0) := by
  unfold J65x0x39 S65x0x39
  repeat' (first | with_reducible apply cond_b | (with_reducible apply bnd_b; intro _) | rfl)
noncomputable def Q65x0x39 (L : List Lf) (m : Nat) (x : List Lf) : Option (Bool × LD) := L65x0x39 N (R := (Bool × LD)) (ll L 1) (li L 2) m (li x 0) (lb x 1) (ll x 2) (fun p => some p)
noncomputable def sh65x0x39 : Sh := { tmps := [(4, .c (.o 4)), (60, .c (.sl 146)), (61, .c (.i .i64)), (62, .c (.i .i64))], mem := [(4, .row 5 true)] }
noncomputable def A65x0x39 (L : List Lf) : List (Bool × (Ex × St)) := bnd (Q65x0x39 N L N (pk sh65x0x39 [3, 4, 5] L)) fun q => [(q.isSome, ((.exit 1), ⟨[(4, .c (.o 4))], [(4, .row 5 true (q.getD default).1 (q.getD default).2)]⟩))]
theorem step65x0x39 (m : Nat) (kn : St → Option (Ex × St)) (L x : List Lf) : lpB Try.prog (T133x0 N) (h65x0s1 N).h 0 65 39 sh65x0x39 [3, 4, 5] [2, 4] [4] (m + 100) kn L x = J65x0x39 N L x (fun y => kn (ofSh sh65x0x39 (mx sh65x0x39 [3, 4, 5] L y))) (fun p => some ((.exit 1), ⟨[(4, .c (.o 4))], [(4, .row 5 true p.1 p.2)]⟩)) := by kernel_rfl
theorem ql65x0x39 (L : List Lf) (m : Nat) (x : List Lf) : Q65x0x39 N L (m + 1) x = J65x0x39 N L x (Q65x0x39 N L m) some := by kernel_rfl
noncomputable def h65x0s2 : Sg Try.prog 0 65 :=
  (h65x0s1 N).lp (A65x0x39 N) N progOk (T133x0_ok N) (fun m kn L x => (step65x0x39 N m kn L x).trans (sb65x0x39 N L x _ _)) (fun L m x => (ql65x0x39 N L m x).trans (sb65x0x39 N L x (Q65x0x39 N L m) some)) fun L x hx => alt1 x hx
noncomputable def F65x0 (v0 v1 v2 : Int) (v4 v6 : LD) (k0 : Bool × LD → Option R) : Option R :=
  bif (v0 == 2) then
    bif (decide ((1 + v6.length) * 1 ≤ room) && decide ((1 + v6.length) ≤ strMax)) then
      k0 ((v6.isEmpty && false), ([(.i (IntKind.wrap .u8 v1))] ++ v6))
    else
      none
  else
    bif (v0 == 3) then
      bnd (IntKind.wrap .i64 ((IntKind.wrap .i64 (128 + (IntKind.wrap .i64 (32 * v1)))) + v2)) fun y0 =>
      bif (decide ((1 + v6.length) * 1 ≤ room) && decide ((1 + v6.length) ≤ strMax)) then
        k0 ((v6.isEmpty && false), ([(.i (IntKind.wrap .u8 y0))] ++ v6))
      else
        none
    else
      bif (inB 0 v4.length) then
        bnd (G65x0x29 N ((v4.getD 0 (.i 0)).cell 0).toB [(.i (IntKind.wrap .u8 (IntKind.wrap .i64 (64 + v1)))), (.i 0)]) fun y1 =>
        bif y1.isSome then
          bnd (G67x0 N ((v4.getD 0 (.i 0)).cell 1).toI 2 ((v4.getD 0 (.i 0)).cell 0).toB) fun y2 =>
          bif y2.isSome then
            bif (decide (((y1.getD default).length + (y2.getD default).length) * 1 ≤ room) && decide (((y1.getD default).length + (y2.getD default).length) ≤ strMax)) then
              bnd (IntKind.wrap .u8 (((v4.getD 0 (.i 0)).cell 2).items.length : Int)) fun y3 =>
              bif (decide ((((y1.getD default) ++ (y2.getD default)).length + 1) * 1 ≤ room) && decide ((((y1.getD default) ++ (y2.getD default)).length + 1) ≤ strMax)) then
                bnd ((((y1.getD default) ++ (y2.getD default)) ++ [(.i y3)]) : List D) fun y4 =>
                bnd (G65x0x39 N ((v4.getD 0 (.i 0)).cell 2).items (((v4.getD 0 (.i 0)).cell 2).items.length : Int) 0 false y4) fun y5 =>
                bif y5.isSome then
                  k0 (y5.getD default)
                else
                  none
              else
                none
            else
              none
          else
            none
        else
          none
      else
        none
noncomputable def G65x0 (v0 v1 v2 : Int) (v4 v6 : LD) : Option (Bool × LD) := F65x0 N v0 v1 v2 v4 v6 (fun p => some p)
theorem bind65x0 (v0 v1 v2 : Int) (v4 v6 : LD) (k0 : Bool × LD → Option R) : F65x0 N v0 v1 v2 v4 v6 k0 = (G65x0 N v0 v1 v2 v4 v6).bind k0 := by
  unfold G65x0 F65x0
  repeat' (first | with_reducible apply cond_b | (with_reducible apply bnd_b; intro _) | rfl)
noncomputable def J65x0 (L : List Lf) (k0 : Bool × LD → Option R) : Option R := F65x0 N (li L 0) (li L 1) (li L 2) (ll L 4) (ll L 6) k0
noncomputable def sh65x0 : Sh := { tmps := [(0, .g ([.i .i64, .i .i64, .i .i64, .sl 103, .sl 5]))], mem := [] }
noncomputable def A65x0 (L : List Lf) : List (Bool × Res) := bnd (J65x0 N L (fun p => some p)) fun q => [(q.isSome, ([.c (.sl 5 (q.getD default).1 (q.getD default).2)], []))]
theorem raw65x0 (L : List Lf) : bd Try.prog (T133x0 N) (h65x0s2 N).h 65 sh65x0 L = J65x0 N L (fun p => some ([.c (.sl 5 p.1 p.2)], [])) := by kernel_rfl
theorem ok65x0 : FnOk Try.prog 65 sh65x0 (A65x0 N) :=
  (h65x0s2 N).fn progOk (T133x0_ok N) fun L x hx => ((raw65x0 N L).trans ((bind65x0 N ..).trans (alt1 x hx)))
noncomputable def T65x0 : Oracle := ext 65 (spSh sh65x0 (A65x0 N)) (T133x0 N)
theorem T65x0_ok : OracleOk Try.prog (T65x0 N) := FnOk.to (ok65x0 N) (T133x0_ok N)
noncomputable def rg35x0 : List (Nat × List Nat) := [(0, [0]), (1, [0, 2]), (3, [0, 2]), (5, [0, 2]), (6, [2]), (4, [2]), (2, [2]), (7, [0, 2]), (8, [0, 2, 5]), (9, [6, 2, 5]), (10, [6, 7, 2, 5]), (11, [8, 6, 7, 2, 5]), (12, [7, 2, 5, 8, 6]), (13, [11, 10, 2, 5, 9, 8, 6, 7]), (14, [10, 2]), (15, [5, 9, 8, 6, 7, 2]), (16, [8, 9, 6, 7, 2, 5]), (17, [5, 2]), (18, [12, 2, 5]), (19, [12, 2]), (20, [5, 2])]
noncomputable def hd35x0 : Hints := [(10, [0, 2], [2], []), (33, [8, 6, 7, 2, 5], [61000000004, 61000000001, 61000000003, 5, 2, 50005000], [50005000])]
noncomputable def h35x0s0 (N : Nat) : Sg Try.prog 0 35 := .start hd35x0 rg35x0
noncomputable def F35x0x10 (w1 : LD) (k0 : Bool → Option R) : Option R :=
  bif (decide ((w1.length : Int) < 12)) then
    k0 true
  else
    bif (decide (4 ≤ (w1.length : Int))) then
      bnd (!((strD ((w1.take 4).drop 0)) == ([72, 65, 82, 49] : List UInt8))) fun y0 =>
      bif y0 then
        k0 true
      else
        bif (decide (8 ≤ (w1.length : Int))) then
          bnd (G81x0 N ((w1.take 8).drop 4) true) fun y1 =>
          bif y1.isSome then
            bnd (IntKind.wrap .i64 ((IntKind.wrap .i64 ((w1.length : Int) - 8)) - 4)) fun y2 =>
            k0 ((y1.getD default) != y2)
          else
            none
        else
          none
    else
      none
noncomputable def G35x0x10 (w1 : LD) : Option (Bool) := F35x0x10 N w1 (fun p => some p)
theorem bind35x0x10 (w1 : LD) (k0 : Bool → Option R) : F35x0x10 N w1 k0 = (G35x0x10 N w1).bind k0 := by
  unfold G35x0x10 F35x0x10
  repeat' (first | with_reducible apply cond_b | (with_reducible apply bnd_b; intro _) | rfl)
noncomputable def sh35x0x10 : Sh := { tmps := [(0, .c (.sl 5)), (2, .c (.p 2 0))], mem := [(2, .box ([.sl 53]))] }
noncomputable def K35x0x10w0 (L : List Lf) (p : Bool) : Ex × St := (.normal, mg (ofSh sh35x0x10 L) [0, 2, 18] [(18, .c (.b p))] [2] [])
noncomputable def A35x0x10 (L : List Lf) : List (Bool × (Ex × St)) := bnd (F35x0x10 N (ll L 1) (fun p => some p)) fun q => [(q.isSome, K35x0x10w0 L (q.getD default))]
theorem raw35x0x10 (L : List Lf) : pc Try.prog (T65x0 N) (h35x0s0 N).h 0 100 35 10 sh35x0x10 L [2, 0, 18] [2] = F35x0x10 N (ll L 1) (fun p => some (K35x0x10w0 L p)) := by kernel_rfl
noncomputable def h35x0s1 : Sg Try.prog 0 35 :=
  (h35x0s0 N).cut (A35x0x10 N) progOk (T65x0_ok N) fun L x hx => (raw35x0x10 N L).trans ((bind35x0x10 N ..).trans (alt1 x hx))
noncomputable def S35x0x33 (w1 : LD) (w7 : Bool) (w8 : LD) (w2 : Int) (w5 : Bool) (w6 : LD) (w9 : Int) (w10 : D) (kr : Int → Bool → LD → Int → D → Option R) (k0 : Int × Bool × LD → Option R) (k1 : Bool × LD → Option R) : Option R :=
  bif (decide (w2 < (w1.length : Int))) then
    bnd (G133x0 N w9 w7 w8 w10) fun y0 =>
    bif y0.isSome then
      bif (!(y0.getD default).2.2.2.2.2.2.2.1) then
        k0 ((IntKind.wrap .i64 (8 + w9)), w5, w6)
      else
        bif (decide ((w6.length + 1) * 72 ≤ room) && decide ((w6.length + 1) ≤ strMax)) then
          bnd ((w6 ++ [(.a [(.i (y0.getD default).1), (.i (y0.getD default).2.1), (.i (y0.getD default).2.2.1), (.l (y0.getD default).2.2.2.1 (y0.getD default).2.2.2.2.1), (.l (y0.getD default).2.2.2.2.2.1 (y0.getD default).2.2.2.2.2.2.1)])]) : List D) fun y1 =>
          bnd (G65x0 N (y0.getD default).1 (y0.getD default).2.1 (y0.getD default).2.2.1 (y0.getD default).2.2.2.2.1 (y0.getD default).2.2.2.2.2.2.1) fun y2 =>
          bif y2.isSome then
            bnd (IntKind.wrap .i64 (w2 + ((y2.getD default).2.length : Int))) fun y3 =>
            kr y3 false y1 (y0.getD default).2.2.2.2.2.2.2.2.1 (y0.getD default).2.2.2.2.2.2.2.2.2
          else
            none
        else
          none
    else
      none
  else
    k1 (w5, w6)
noncomputable def L35x0x33 (N : Nat) {R : Type} (w1 : LD) (w7 : Bool) (w8 : LD) : Nat → Int → Bool → LD → Int → D → (Int × Bool × LD → Option R) → (Bool × LD → Option R) → Option R
  | 0, _, _, _, _, _, _, _ => none
  | m + 1, w2, w5, w6, w9, w10, k0, k1 => S35x0x33 N w1 w7 w8 w2 w5 w6 w9 w10 (fun w2 w5 w6 w9 w10 => L35x0x33 N w1 w7 w8 m w2 w5 w6 w9 w10 k0 k1) k0 k1
noncomputable def G35x0x33 (w1 : LD) (w7 : Bool) (w8 : LD) (w2 : Int) (w5 : Bool) (w6 : LD) (w9 : Int) (w10 : D) : Option (Sum (Int × Bool × LD) (Bool × LD)) := L35x0x33 N (R := (Sum (Int × Bool × LD) (Bool × LD))) w1 w7 w8 N w2 w5 w6 w9 w10 (fun p => some (.inl p)) (fun p => some (.inr p))
noncomputable def J35x0x33 (L x : List Lf) (kr : List Lf → Option R) (k0 : Int × Bool × LD → Option R) (k1 : Bool × LD → Option R) : Option R := S35x0x33 N (ll L 1) (lb L 7) (ll L 8) (li x 0) (lb x 1) (ll x 2) (li x 3) (ld x 4) (fun w2 w5 w6 w9 w10 => kr [.i w2, .b w5, .l w6, .i w9, .d w10]) k0 k1
theorem sb35x0x33 (L x : List Lf) (kr : List Lf → Option R) (k0 : Int × Bool × LD → Option R) (k1 : Bool × LD → Option R) : J35x0x33 N L x kr k0 k1 = (J35x0x33 N L x (fun y => some (.inl y)) (fun p => some (.inr (.inl p))) (fun p => some (.inr (.inr p)))).bind (sumE kr (sumE k0 k1)) := by
  unfold J35x0x33 S35x0x33
  repeat' (first | with_reducible apply cond_b | (with_reducible apply bnd_b; intro _) | rfl)
noncomputable def Q35x0x33 (L : List Lf) (m : Nat) (x : List Lf) : Option (Sum (Int × Bool × LD) (Bool × LD)) := L35x0x33 N (R := (Sum (Int × Bool × LD) (Bool × LD))) (ll L 1) (lb L 7) (ll L 8) m (li x 0) (lb x 1) (ll x 2) (li x 3) (ld x 4) (fun p => some (.inl p)) (fun p => some (.inr p))
noncomputable def sh35x0x33 : Sh := { tmps := [(2, .c (.p 2 0)), (5, .c (.p 5 0)), (6, .c (.sl 5)), (7, .c (.f 133 [(61000000003, 0), (61000000001, 0), (61000000004, 0)])), (8, .c (.i .i64))], mem := [(2, .box ([.sl 53])), (5, .box ([.o 50005000])), (50005000, .row 53 true), (61000000001, .box ([.sl 5])), (61000000003, .box ([.i .i64])), (61000000004, .dat 114)] }
noncomputable def K35x0x33w0 (L : List Lf) (p : Int × Bool × LD) : Ex × St := (.ret, ⟨[(2, .c (.p 2 0)), (3, .c (.i .i64 p.1)), (4, .c (.i .i64 6))], [(2, .box [.sl 53 true []]), (5, .box [.o 50005000]), (50005000, .row 53 true p.2.1 p.2.2)]⟩)
noncomputable def K35x0x33w1 (L : List Lf) (p : Bool × LD) : Ex × St := ((.exit 1), mg (ofSh sh35x0x33 L) [2, 5] [] [2, 5, 50005000] [(50005000, .row 53 true p.1 p.2)])
noncomputable def A35x0x33 (L : List Lf) : List (Bool × (Ex × St)) := bnd (Q35x0x33 N L N (pk sh35x0x33 [2, 5, 6, 9, 10] L)) fun q => [((inlB q), K35x0x33w0 L (inlV q)), ((inrQ q).isSome, K35x0x33w1 L ((inrQ q).getD default))]
theorem step35x0x33 (m : Nat) (kn : St → Option (Ex × St)) (L x : List Lf) : lpB Try.prog (T65x0 N) (h35x0s1 N).h 0 35 33 sh35x0x33 [2, 5, 6, 9, 10] [2, 3, 4, 5] [2, 50005000, 5] (m + 100) kn L x = J35x0x33 N L x (fun y => kn (ofSh sh35x0x33 (mx sh35x0x33 [2, 5, 6, 9, 10] L y))) (fun p => some (K35x0x33w0 L p)) (fun p => some (K35x0x33w1 L p)) := by kernel_rfl
theorem ql35x0x33 (L : List Lf) (m : Nat) (x : List Lf) : Q35x0x33 N L (m + 1) x = J35x0x33 N L x (Q35x0x33 N L m) (fun p => some (.inl p)) (fun p => some (.inr p)) := by kernel_rfl
noncomputable def h35x0s2 : Sg Try.prog 0 35 :=
  (h35x0s1 N).lp (A35x0x33 N) N progOk (T65x0_ok N) (fun m kn L x => (step35x0x33 N m kn L x).trans (sb35x0x33 N L x _ _ _)) (fun L m x => (ql35x0x33 N L m x).trans (sb35x0x33 N L x (Q35x0x33 N L m) (fun p => some (.inl p)) (fun p => some (.inr p)))) fun L x hx => (altS alt1) x hx
noncomputable def F35x0 (v0 : Bool) (v1 : LD) (k0 : Ty3 → Option R) : Option R :=
  bif (decide ((v1.length : Int) > 4000000)) then
    k0 (true, [], 0, 3)
  else
    bnd (G35x0x10 N v1) fun y0 =>
    bif y0.isSome then
      bif (y0.getD default) then
        k0 (true, [], 0, 6)
      else
        bif ((decide (0 ≤ (IntKind.wrap .i64 ((v1.length : Int) - 4)))) && (decide ((IntKind.wrap .i64 ((v1.length : Int) - 4)) ≤ (v1.length : Int)))) then
          bnd (((v1.take (IntKind.wrap .i64 ((v1.length : Int) - 4)).toNat).drop 0) : List D) fun y1 =>
          bnd (G39x0 N y1) fun y2 =>
          bif y2.isSome then
            bif (((decide (0 ≤ (IntKind.wrap .i64 ((v1.length : Int) - 4)))) && (decide ((IntKind.wrap .i64 ((v1.length : Int) - 4)) ≤ (v1.length : Int)))) && (decide ((v1.length : Int) ≤ (v1.length : Int)))) then
              bnd (((v1.take (v1.length : Int).toNat).drop (IntKind.wrap .i64 ((v1.length : Int) - 4)).toNat) : List D) fun y3 =>
              bnd (G81x0 N y3 true) fun y4 =>
              bif y4.isSome then
                bif ((y2.getD default) != (y4.getD default)) then
                  k0 (true, [], 0, 1)
                else
                  bif ((decide (8 ≤ (IntKind.wrap .i64 ((v1.length : Int) - 4)))) && (decide ((IntKind.wrap .i64 ((v1.length : Int) - 4)) ≤ (v1.length : Int)))) then
                    bnd (((v1.take (IntKind.wrap .i64 ((v1.length : Int) - 4)).toNat).drop 8) : List D) fun y5 =>
                    bnd (V82x0 N) fun y6 =>
                    bnd (G35x0x33 N y5 v0 y5 0 true [] 0 y6) fun y7 =>
                    bif (inlB y7) then
                      k0 (true, [], (inlV y7).1, 6)
                    else
                      bif (inrQ y7).isSome then
                        bnd (G22x0 N ((inrQ y7).getD default).2) fun y8 =>
                        bif y8.isSome then
                          bif ((y8.getD default) != 0) then
                            k0 (true, [], 0, (y8.getD default))
                          else
                            k0 (((inrQ y7).getD default).1, ((inrQ y7).getD default).2, 0, 0)
                        else
                          none
                      else
                        none
                  else
                    none
              else
                none
            else
              none
          else
            none
        else
          none
    else
      none
noncomputable def G35x0 (v0 : Bool) (v1 : LD) : Option (Ty3) := F35x0 N v0 v1 (fun p => some p)
theorem bind35x0 (v0 : Bool) (v1 : LD) (k0 : Ty3 → Option R) : F35x0 N v0 v1 k0 = (G35x0 N v0 v1).bind k0 := by
  unfold G35x0 F35x0
  repeat' (first | with_reducible apply cond_b | (with_reducible apply bnd_b; intro _) | rfl)
noncomputable def sh35x0 : Sh := { tmps := [(0, .c (.sl 5))], mem := [] }
noncomputable def K35x0w0 (L : List Lf) (p : Ty3) : Res := ([.g [.sl 53 p.1 p.2.1], .c (.i .i64 p.2.2.1), .c (.i .i64 p.2.2.2)], [])
noncomputable def A35x0 (L : List Lf) : List (Bool × Res) := bnd (F35x0 N (lb L 0) (ll L 1) (fun p => some p)) fun q => [(q.isSome, K35x0w0 L (q.getD default))]
theorem raw35x0 (L : List Lf) : bd Try.prog (T65x0 N) (h35x0s2 N).h 35 sh35x0 L = F35x0 N (lb L 0) (ll L 1) (fun p => some (K35x0w0 L p)) := by kernel_rfl
theorem ok35x0 : FnOk Try.prog 35 sh35x0 (A35x0 N) :=
  (h35x0s2 N).fn progOk (T65x0_ok N) fun L x hx => ((raw35x0 N L).trans ((bind35x0 N ..).trans (alt1 x hx)))
noncomputable def T35x0 : Oracle := ext 35 (spSh sh35x0 (A35x0 N)) (T65x0 N)
theorem T35x0_ok : OracleOk Try.prog (T35x0 N) := FnOk.to (ok35x0 N) (T65x0_ok N)
noncomputable def rg83x0 : List (Nat × List Nat) := [(0, [0, 1]), (1, [0, 1]), (2, [0, 1, 5]), (3, [10, 9, 1, 0, 5]), (4, [10, 1, 0, 5, 9]), (5, [6, 1, 0, 5, 10, 9]), (6, [1, 0, 6, 5, 10, 9, 7]), (7, [0, 6, 5, 10, 9, 1]), (8, [5, 0, 7, 10, 9, 1]), (9, [10, 9, 1, 0, 5]), (10, [5])]
noncomputable def hd83x0 : Hints := [(9, [10, 9, 1, 0, 5], [], []), (23, [0, 6, 5, 10, 9, 1, 7, 15], [], [])]
noncomputable def h83x0s0 (N : Nat) : Sg Try.prog 0 83 := .start hd83x0 rg83x0
noncomputable def F83x0x23 (N : Nat) (w1 : LD) (w4 w5 : Int) (w8 : Bool) (k0 : Int → R) : R :=
  bif w8 then
    bnd (IntKind.wrap .i64 ((IntKind.wrap .i64 ((w1.length : Int) - 1)) - w4)) fun y0 =>
    k0 y0
  else
    k0 w5
noncomputable def V83x0x23 (w1 : LD) (w4 w5 : Int) (w8 : Bool) : Int := F83x0x23 N w1 w4 w5 w8 (fun p => p)
theorem tot83x0x23 (w1 : LD) (w4 w5 : Int) (w8 : Bool) (k0 : Int → R) : F83x0x23 N w1 w4 w5 w8 k0 = k0 (V83x0x23 N w1 w4 w5 w8) := by
  unfold V83x0x23 F83x0x23
  repeat' (first | rfl | apply cond_k | (apply bnd_k; intro _))
noncomputable def J83x0x23 (L : List Lf) (k0 : Int → R) : R := F83x0x23 N (ll L 1) (li L 4) (li L 5) (lb L 8) k0
noncomputable def sh83x0x23 : Sh := { tmps := [(0, .c (.sl 5)), (1, .c (.b)), (5, .c (.i .i64)), (6, .c (.i .i64)), (7, .c (.i .i64)), (9, .c (.i .i64)), (10, .c (.i .i64)), (15, .c (.b))], mem := [] }
noncomputable def K83x0x23w0 (L : List Lf) (p : Int) : Ex × St := (.normal, mg (ofSh sh83x0x23 L) [0, 1, 5, 7, 9, 10] [(7, .c (.i .i64 p))] [] [])
noncomputable def A83x0x23 (L : List Lf) : List (Bool × (Ex × St)) := bnd (J83x0x23 N L (fun p => p)) fun q => [(true, K83x0x23w0 L q)]
theorem raw83x0x23 (L : List Lf) : pc Try.prog (T35x0 N) (h83x0s0 N).h 0 100 83 23 sh83x0x23 L [5, 0, 7, 10, 9, 1] [] = J83x0x23 N L (fun p => some (K83x0x23w0 L p)) := by kernel_rfl
noncomputable def h83x0s1 : Sg Try.prog 0 83 :=
  (h83x0s0 N).cut (A83x0x23 N) progOk (T35x0_ok N) fun L x hx => (raw83x0x23 N L).trans ((tot83x0x23 N ..).trans (alt0 _ _ hx))
noncomputable def S83x0x9 (w1 : LD) (w2 : Bool) (w4 : Int) (w3 w5 : Int) (kr : Int → Int → Option R) (k0 : Int → Option R) : Option R :=
  bif (decide (w5 < w4)) then
    bnd (V83x0x23 N w1 w5 w5 (!w2)) fun y0 =>
    bif (inB y0 w1.length) then
      bnd (IntKind.wrap .i64 ((IntKind.wrap .i64 (256 * w3)) + (IntKind.wrap .i64 (w1.getD y0.toNat (.i 0)).toI))) fun y1 =>
      kr y1 (IntKind.wrap .i64 (w5 + 1))
    else
      none
  else
    k0 w3
noncomputable def L83x0x9 (N : Nat) {R : Type} (w1 : LD) (w2 : Bool) (w4 : Int) : Nat → Int → Int → (Int → Option R) → Option R
  | 0, _, _, _ => none
  | m + 1, w3, w5, k0 => S83x0x9 N w1 w2 w4 w3 w5 (fun w3 w5 => L83x0x9 N w1 w2 w4 m w3 w5 k0) k0
noncomputable def G83x0x9 (w1 : LD) (w2 : Bool) (w4 : Int) (w3 w5 : Int) : Option (Int) := L83x0x9 N (R := (Int)) w1 w2 w4 N w3 w5 (fun p => some p)
noncomputable def J83x0x9 (L x : List Lf) (kr : List Lf → Option R) (k0 : Int → Option R) : Option R := S83x0x9 N (ll L 1) (lb L 2) (li L 4) (li x 0) (li x 1) (fun w3 w5 => kr [.i w3, .i w5]) k0
theorem sb83x0x9 (L x : List Lf) (kr : List Lf → Option R) (k0 : Int → Option R) : J83x0x9 N L x kr k0 = (J83x0x9 N L x (fun y => some (.inl y)) (fun p => some (.inr p))).bind (sumE kr k0) := by
  unfold J83x0x9 S83x0x9
  repeat' (first | with_reducible apply cond_b | (with_reducible apply bnd_b; intro _) | rfl)
noncomputable def Q83x0x9 (L : List Lf) (m : Nat) (x : List Lf) : Option (Int) := L83x0x9 N (R := (Int)) (ll L 1) (lb L 2) (li L 4) m (li x 0) (li x 1) (fun p => some p)
noncomputable def sh83x0x9 : Sh := { tmps := [(0, .c (.sl 5)), (1, .c (.b)), (5, .c (.i .i64)), (9, .c (.i .i64)), (10, .c (.i .i64))], mem := [] }
noncomputable def A83x0x9 (L : List Lf) : List (Bool × (Ex × St)) := bnd (Q83x0x9 N L N (pk sh83x0x9 [3, 5] L)) fun q => [(q.isSome, ((.exit 0), ⟨[(5, .c (.i .i64 (q.getD default)))], []⟩))]
theorem step83x0x9 (m : Nat) (kn : St → Option (Ex × St)) (L x : List Lf) : lpB Try.prog (T35x0 N) (h83x0s1 N).h 0 83 9 sh83x0x9 [3, 5] [4, 5] [] (m + 100) kn L x = J83x0x9 N L x (fun y => kn (ofSh sh83x0x9 (mx sh83x0x9 [3, 5] L y))) (fun p => some ((.exit 0), ⟨[(5, .c (.i .i64 p))], []⟩)) := by kernel_rfl
theorem ql83x0x9 (L : List Lf) (m : Nat) (x : List Lf) : Q83x0x9 N L (m + 1) x = J83x0x9 N L x (Q83x0x9 N L m) some := by kernel_rfl
noncomputable def h83x0s2 : Sg Try.prog 0 83 :=
  (h83x0s1 N).lp (A83x0x9 N) N progOk (T35x0_ok N) (fun m kn L x => (step83x0x9 N m kn L x).trans (sb83x0x9 N L x _ _)) (fun L m x => (ql83x0x9 N L m x).trans (sb83x0x9 N L x (Q83x0x9 N L m) some)) fun L x hx => alt1 x hx
noncomputable def F83x0 (v1 : LD) (v2 : Bool) (k0 : Int → Option R) : Option R :=
  bnd (G83x0x9 N v1 v2 (v1.length : Int) 0 0) fun y0 =>
  bif y0.isSome then
    k0 (y0.getD default)
  else
    none
noncomputable def G83x0 (v1 : LD) (v2 : Bool) : Option (Int) := F83x0 N v1 v2 (fun p => some p)
theorem bind83x0 (v1 : LD) (v2 : Bool) (k0 : Int → Option R) : F83x0 N v1 v2 k0 = (G83x0 N v1 v2).bind k0 := by
  unfold G83x0 F83x0
  repeat' (first | with_reducible apply cond_b | (with_reducible apply bnd_b; intro _) | rfl)
noncomputable def sh83x0 : Sh := { tmps := [(0, .c (.sl 5)), (1, .c (.b))], mem := [] }
noncomputable def A83x0 (L : List Lf) : List (Bool × Res) := bnd (F83x0 N (ll L 1) (lb L 2) (fun p => some p)) fun q => [(q.isSome, ([.c (.i .i64 (q.getD default))], []))]
theorem raw83x0 (L : List Lf) : bd Try.prog (T35x0 N) (h83x0s2 N).h 83 sh83x0 L = F83x0 N (ll L 1) (lb L 2) (fun p => some ([.c (.i .i64 p)], [])) := by kernel_rfl
theorem ok83x0 : FnOk Try.prog 83 sh83x0 (A83x0 N) :=
  (h83x0s2 N).fn progOk (T35x0_ok N) fun L x hx => ((raw83x0 N L).trans ((bind83x0 N ..).trans (alt1 x hx)))
noncomputable def T83x0 : Oracle := ext 83 (spSh sh83x0 (A83x0 N)) (T35x0 N)
theorem T83x0_ok : OracleOk Try.prog (T83x0 N) := FnOk.to (ok83x0 N) (T35x0_ok N)
noncomputable def rg40x0 : List (Nat × List Nat) := [(0, [0]), (1, [0]), (2, [0, 3]), (3, [8, 7, 6, 3]), (4, [6, 8, 3, 7]), (5, [3, 5, 8, 7, 6]), (6, [8, 7, 6, 3]), (7, [3])]
noncomputable def hd40x0 : Hints := [(9, [8, 7, 6, 3], [], [])]
noncomputable def h40x0s0 (N : Nat) : Sg Try.prog 0 40 := .start hd40x0 rg40x0
noncomputable def S40x0x9 (N : Nat) (w2 : LD) (w3 : Int) (w0 w4 : Int) (kr : Int → Int → Option R) (k0 : Int → Option R) : Option R :=
  bif (decide (w4 < w3)) then
    bif (inB w4 w2.length) then
      bnd (IntKind.wrap .i64 ((IntKind.wrap .i64 (31 * w0)) + (IntKind.wrap .i64 (w2.getD w4.toNat (.i 0)).toI))) fun y0 =>
      kr (y0.tmod 4294967296) (IntKind.wrap .i64 (w4 + 1))
    else
      none
  else
    k0 w0
noncomputable def L40x0x9 (N : Nat) {R : Type} (w2 : LD) (w3 : Int) : Nat → Int → Int → (Int → Option R) → Option R
  | 0, _, _, _ => none
  | m + 1, w0, w4, k0 => S40x0x9 N w2 w3 w0 w4 (fun w0 w4 => L40x0x9 N w2 w3 m w0 w4 k0) k0
noncomputable def G40x0x9 (w2 : LD) (w3 : Int) (w0 w4 : Int) : Option (Int) := L40x0x9 N (R := (Int)) w2 w3 N w0 w4 (fun p => some p)
noncomputable def J40x0x9 (L x : List Lf) (kr : List Lf → Option R) (k0 : Int → Option R) : Option R := S40x0x9 N (ll L 2) (li L 3) (li x 0) (li x 1) (fun w0 w4 => kr [.i w0, .i w4]) k0
theorem sb40x0x9 (L x : List Lf) (kr : List Lf → Option R) (k0 : Int → Option R) : J40x0x9 N L x kr k0 = (J40x0x9 N L x (fun y => some (.inl y)) (fun p => some (.inr p))).bind (sumE kr k0) := by
  unfold J40x0x9 S40x0x9
  repeat' (first | with_reducible apply cond_b | (with_reducible apply bnd_b; intro _) | rfl)
noncomputable def Q40x0x9 (L : List Lf) (m : Nat) (x : List Lf) : Option (Int) := L40x0x9 N (R := (Int)) (ll L 2) (li L 3) m (li x 0) (li x 1) (fun p => some p)
noncomputable def sh40x0x9 : Sh := { tmps := [(3, .c (.i .i64)), (6, .c (.sl 5)), (7, .c (.i .i64)), (8, .c (.i .i64))], mem := [] }
noncomputable def A40x0x9 (L : List Lf) : List (Bool × (Ex × St)) := bnd (Q40x0x9 N L N (pk sh40x0x9 [0, 4] L)) fun q => [(q.isSome, ((.exit 0), ⟨[(3, .c (.i .i64 (q.getD default)))], []⟩))]
theorem step40x0x9 (m : Nat) (kn : St → Option (Ex × St)) (L x : List Lf) : lpB Try.prog (T83x0 N) (h40x0s0 N).h 0 40 9 sh40x0x9 [0, 4] [2, 3] [] (m + 100) kn L x = J40x0x9 N L x (fun y => kn (ofSh sh40x0x9 (mx sh40x0x9 [0, 4] L y))) (fun p => some ((.exit 0), ⟨[(3, .c (.i .i64 p))], []⟩)) := by kernel_rfl
theorem ql40x0x9 (L : List Lf) (m : Nat) (x : List Lf) : Q40x0x9 N L (m + 1) x = J40x0x9 N L x (Q40x0x9 N L m) some := by kernel_rfl
noncomputable def h40x0s1 : Sg Try.prog 0 40 :=
  (h40x0s0 N).lp (A40x0x9 N) N progOk (T83x0_ok N) (fun m kn L x => (step40x0x9 N m kn L x).trans (sb40x0x9 N L x _ _)) (fun L m x => (ql40x0x9 N L m x).trans (sb40x0x9 N L x (Q40x0x9 N L m) some)) fun L x hx => alt1 x hx
noncomputable def F40x0 (v1 : LD) (k0 : Int → Option R) : Option R :=
  bnd (G40x0x9 N v1 (v1.length : Int) 1 0) fun y0 =>
  bif y0.isSome then
    k0 (y0.getD default)
  else
    none
noncomputable def G40x0 (v1 : LD) : Option (Int) := F40x0 N v1 (fun p => some p)
theorem bind40x0 (v1 : LD) (k0 : Int → Option R) : F40x0 N v1 k0 = (G40x0 N v1).bind k0 := by
  unfold G40x0 F40x0
  repeat' (first | with_reducible apply cond_b | (with_reducible apply bnd_b; intro _) | rfl)
noncomputable def sh40x0 : Sh := { tmps := [(0, .c (.sl 5))], mem := [] }
noncomputable def A40x0 (L : List Lf) : List (Bool × Res) := bnd (F40x0 N (ll L 1) (fun p => some p)) fun q => [(q.isSome, ([.c (.i .i64 (q.getD default))], []))]
theorem raw40x0 (L : List Lf) : bd Try.prog (T83x0 N) (h40x0s1 N).h 40 sh40x0 L = F40x0 N (ll L 1) (fun p => some ([.c (.i .i64 p)], [])) := by kernel_rfl
theorem ok40x0 : FnOk Try.prog 40 sh40x0 (A40x0 N) :=
  (h40x0s1 N).fn progOk (T83x0_ok N) fun L x hx => ((raw40x0 N L).trans ((bind40x0 N ..).trans (alt1 x hx)))
noncomputable def T40x0 : Oracle := ext 40 (spSh sh40x0 (A40x0 N)) (T83x0 N)
theorem T40x0_ok : OracleOk Try.prog (T40x0 N) := FnOk.to (ok40x0 N) (T83x0_ok N)
noncomputable def rg135x0 : List (Nat × List Nat) := [(0, [1, 0]), (1, [1, 0, 4]), (2, [0, 7, 4]), (3, [7, 4]), (4, [0, 7, 4]), (5, [0, 8, 7, 4]), (6, [0, 7, 4, 8]), (7, [0, 9, 7, 4, 8]), (8, [7, 4]), (9, [9, 8, 0, 7, 4]), (10, [46, 45, 8, 0, 7, 9, 4]), (11, [46, 8, 0, 45, 7, 9, 4]), (12, [8, 0, 10, 46, 45, 7, 9, 4]), (13, [46, 45, 8, 0, 7, 9, 4]), (14, [8, 7, 9, 4]), (15, [7, 9, 4])]
noncomputable def hd135x0 : Hints := [(30, [46, 45, 8, 0, 7, 9, 4], [8, 7, 4, 50008002], [50008002])]
noncomputable def h135x0s0 (N : Nat) : Sg Try.prog 0 135 := .start hd135x0 rg135x0
noncomputable def S135x0x30 (N : Nat) (w1 : LD) (w3 : Int) (w4 : Int) (w21 : Bool) (w22 : LD) (kr : Int → Bool → LD → Option R) (k0 : Bool × LD → Option R) : Option R :=
  bif (decide (w4 < w3)) then
    bif (inB (IntKind.wrap .i64 (5 + (IntKind.wrap .i64 (3 * w4)))) w1.length) then
      bnd ((w1.getD (IntKind.wrap .i64 (5 + (IntKind.wrap .i64 (3 * w4)))).toNat (.i 0)) : D) fun y0 =>
      bif (inB (IntKind.wrap .i64 (6 + (IntKind.wrap .i64 (3 * w4)))) w1.length) then
        bnd ((w1.getD (IntKind.wrap .i64 (6 + (IntKind.wrap .i64 (3 * w4)))).toNat (.i 0)) : D) fun y1 =>
        bif (inB (IntKind.wrap .i64 (7 + (IntKind.wrap .i64 (3 * w4)))) w1.length) then
          bnd ((w1.getD (IntKind.wrap .i64 (7 + (IntKind.wrap .i64 (3 * w4)))).toNat (.i 0)) : D) fun y2 =>
          bif (decide ((w22.length + 1) * 24 ≤ room) && decide ((w22.length + 1) ≤ strMax)) then
            bnd ((w22 ++ [(.a [(.i (IntKind.wrap .i64 y0.toI)), (.i (IntKind.wrap .i64 y1.toI)), (.i (IntKind.wrap .i64 y2.toI))])]) : List D) fun y3 =>
            kr (IntKind.wrap .i64 (w4 + 1)) false y3
          else
            none
        else
          none
      else
        none
    else
      none
  else
    k0 (w21, w22)
noncomputable def L135x0x30 (N : Nat) {R : Type} (w1 : LD) (w3 : Int) : Nat → Int → Bool → LD → (Bool × LD → Option R) → Option R
  | 0, _, _, _, _ => none
  | m + 1, w4, w21, w22, k0 => S135x0x30 N w1 w3 w4 w21 w22 (fun w4 w21 w22 => L135x0x30 N w1 w3 m w4 w21 w22 k0) k0
noncomputable def G135x0x30 (w1 : LD) (w3 : Int) (w4 : Int) (w21 : Bool) (w22 : LD) : Option (Bool × LD) := L135x0x30 N (R := (Bool × LD)) w1 w3 N w4 w21 w22 (fun p => some p)
noncomputable def J135x0x30 (L x : List Lf) (kr : List Lf → Option R) (k0 : Bool × LD → Option R) : Option R := S135x0x30 N (ll L 1) (li L 3) (li x 0) (lb x 1) (ll x 2) (fun w4 w21 w22 => kr [.i w4, .b w21, .l w22]) k0
theorem sb135x0x30 (L x : List Lf) (kr : List Lf → Option R) (k0 : Bool × LD → Option R) : J135x0x30 N L x kr k0 = (J135x0x30 N L x (fun y => some (.inl y)) (fun p => some (.inr p))).bind (sumE kr k0) := by
  unfold J135x0x30 S135x0x30
  repeat' (first | with_reducible apply cond_b | (with_reducible apply bnd_b; intro _) | rfl)
noncomputable def Q135x0x30 (L : List Lf) (m : Nat) (x : List Lf) : Option (Bool × LD) := L135x0x30 N (R := (Bool × LD)) (ll L 1) (li L 3) m (li x 0) (lb x 1) (ll x 2) (fun p => some p)
noncomputable def sh135x0x30 : Sh := { tmps := [(0, .c (.sl 5)), (4, .c (.p 4 0)), (7, .c (.p 7 0)), (8, .c (.p 8 0)), (9, .c (.i .i64)), (45, .c (.i .i64)), (46, .c (.i .i64))], mem := [(4, .box ([.i .i64, .i .i64, .i .i64, .sl 103, .sl 5])), (7, .box ([.i .i64, .i .i64, .i .i64, .sl 103, .sl 5])), (8, .box ([.b, .i .i64, .o 50008002])), (50008002, .row 146 true)] }
noncomputable def K135x0x30w0 (L : List Lf) (p : Bool × LD) : Ex × St := ((.exit 0), mg (ofSh sh135x0x30 L) [4, 7, 8, 9] [] [4, 7, 8, 50008002] [(50008002, .row 146 true p.1 p.2)])
noncomputable def A135x0x30 (L : List Lf) : List (Bool × (Ex × St)) := bnd (Q135x0x30 N L N (pk sh135x0x30 [4, 21, 22] L)) fun q => [(q.isSome, K135x0x30w0 L (q.getD default))]
theorem step135x0x30 (m : Nat) (kn : St → Option (Ex × St)) (L x : List Lf) : lpB Try.prog (T40x0 N) (h135x0s0 N).h 0 135 30 sh135x0x30 [4, 21, 22] [4, 5, 6, 8, 7, 9] [50008002, 8, 7, 4] (m + 100) kn L x = J135x0x30 N L x (fun y => kn (ofSh sh135x0x30 (mx sh135x0x30 [4, 21, 22] L y))) (fun p => some (K135x0x30w0 L p)) := by kernel_rfl
theorem ql135x0x30 (L : List Lf) (m : Nat) (x : List Lf) : Q135x0x30 N L (m + 1) x = J135x0x30 N L x (Q135x0x30 N L m) some := by kernel_rfl
noncomputable def h135x0s1 : Sg Try.prog 0 135 :=
  (h135x0s0 N).lp (A135x0x30 N) N progOk (T40x0_ok N) (fun m kn L x => (step135x0x30 N m kn L x).trans (sb135x0x30 N L x _ _)) (fun L m x => (ql135x0x30 N L m x).trans (sb135x0x30 N L x (Q135x0x30 N L m) some)) fun L x hx => alt1 x hx
noncomputable def F135x0 (v1 : LD) (k0 : Bool × LD × Int × Bool → Option R) : Option R :=
  bif (bif (inB 1 v1.length) then true else (!((decide ((v1.length : Int) < 5)) == false))) then
    bnd (bif (decide ((v1.length : Int) < 5)) then true else (decide ((v1.getD 1 (.i 0)).toI > 1))) fun y0 =>
    bif y0 then
      k0 (true, [], 0, false)
    else
      bif (inB 1 v1.length) then
        bif (decide (4 ≤ (v1.length : Int))) then
          bnd (G83x0 N ((v1.take 4).drop 2) ((v1.getD 1 (.i 0)).toI == 1)) fun y1 =>
          bif y1.isSome then
            bif (inB 4 v1.length) then
              bnd (IntKind.wrap .i64 (3 * (IntKind.wrap .i64 (v1.getD 4 (.i 0)).toI))) fun y2 =>
              bnd (decide ((v1.length : Int) < (IntKind.wrap .i64 (5 + y2)))) fun y3 =>
              bif y3 then
                k0 (true, [], 0, false)
              else
                bnd (G135x0x30 N v1 (IntKind.wrap .i64 (v1.getD 4 (.i 0)).toI) 0 true []) fun y4 =>
                bif y4.isSome then
                  bnd (IntKind.wrap .i64 (3 * (IntKind.wrap .i64 (v1.getD 4 (.i 0)).toI))) fun y2 =>
                  k0 (false, [(.a [(.b ((v1.getD 1 (.i 0)).toI == 1)), (.i (y1.getD default)), (.l (y4.getD default).1 (y4.getD default).2)])], (IntKind.wrap .i64 (5 + y2)), true)
                else
                  none
            else
              none
          else
            none
        else
          none
      else
        none
  else
    none
noncomputable def G135x0 (v1 : LD) : Option (Bool × LD × Int × Bool) := F135x0 N v1 (fun p => some p)
theorem bind135x0 (v1 : LD) (k0 : Bool × LD × Int × Bool → Option R) : F135x0 N v1 k0 = (G135x0 N v1).bind k0 := by
  unfold G135x0 F135x0
  repeat' (first | with_reducible apply cond_b | (with_reducible apply bnd_b; intro _) | rfl)
noncomputable def sh135x0 : Sh := { tmps := [(0, .c (.sl 5)), (1, .c (.i .i64))], mem := [] }
noncomputable def K135x0w0 (L : List Lf) (p : Bool × LD × Int × Bool) : Res := ([.g [.i .i64 1, .i .i64 (li L 2), .i .i64 0, .sl 103 p.1 p.2.1, .sl 5 true []], .c (.i .i64 p.2.2.1), .c (.b p.2.2.2)], [])
noncomputable def A135x0 (L : List Lf) : List (Bool × Res) := bnd (F135x0 N (ll L 1) (fun p => some p)) fun q => [(q.isSome, K135x0w0 L (q.getD default))]
theorem raw135x0 (L : List Lf) : bd Try.prog (T40x0 N) (h135x0s1 N).h 135 sh135x0 L = F135x0 N (ll L 1) (fun p => some (K135x0w0 L p)) := by kernel_rfl
theorem ok135x0 : FnOk Try.prog 135 sh135x0 (A135x0 N) :=
  (h135x0s1 N).fn progOk (T40x0_ok N) fun L x hx => ((raw135x0 N L).trans ((bind135x0 N ..).trans (alt1 x hx)))
noncomputable def T135x0 : Oracle := ext 135 (spSh sh135x0 (A135x0 N)) (T40x0 N)
theorem T135x0_ok : OracleOk Try.prog (T135x0 N) := FnOk.to (ok135x0 N) (T40x0_ok N)
noncomputable def rg132x0 : List (Nat × List Nat) := [(0, [0]), (1, [1])]
noncomputable def hd132x0 : Hints := []
noncomputable def h132x0s0 (N : Nat) : Sg Try.prog 0 132 := .start hd132x0 rg132x0
noncomputable def F132x0 (N : Nat) (v0 v1 v2 : Int) (k0 : Bool → R) : R :=
  bnd (bif (bif (v0 == 253) then (v2 == 0) else false) then (v1 == 4) else false) fun y0 =>
  k0 y0
noncomputable def V132x0 (v0 v1 v2 : Int) : Bool := F132x0 N v0 v1 v2 (fun p => p)
theorem tot132x0 (v0 v1 v2 : Int) (k0 : Bool → R) : F132x0 N v0 v1 v2 k0 = k0 (V132x0 N v0 v1 v2) := by
  unfold V132x0 F132x0
  repeat' (first | rfl | apply cond_k | (apply bnd_k; intro _))
noncomputable def sh132x0 : Sh := { tmps := [(0, .g ([.i .i64, .i .i64, .i .i64]))], mem := [] }
noncomputable def A132x0 (L : List Lf) : List (Bool × Res) := bnd (F132x0 N (li L 0) (li L 1) (li L 2) (fun p => p)) fun q => [(true, ([.c (.b q)], []))]
theorem raw132x0 (L : List Lf) : bd Try.prog (T135x0 N) (h132x0s0 N).h 132 sh132x0 L = F132x0 N (li L 0) (li L 1) (li L 2) (fun p => some ([.c (.b p)], [])) := by kernel_rfl
theorem ok132x0 : FnOk Try.prog 132 sh132x0 (A132x0 N) :=
  (h132x0s0 N).fn progOk (T135x0_ok N) fun L x hx => ((raw132x0 N L).trans ((tot132x0 N ..).trans (alt0 _ _ hx)))
noncomputable def T132x0 : Oracle := ext 132 (spSh sh132x0 (A132x0 N)) (T135x0 N)
theorem T132x0_ok : OracleOk Try.prog (T132x0 N) := FnOk.to (ok132x0 N) (T135x0_ok N)
noncomputable def rg79x0 : List (Nat × List Nat) := [(0, [0]), (1, [1]), (2, [1, 4]), (3, [10, 9, 8, 4]), (4, [8, 10, 4, 9]), (5, [6, 4, 10, 9, 8]), (6, [4]), (7, [4, 6, 10, 9, 8]), (8, [10, 9, 8, 4]), (9, [])]
noncomputable def hd79x0 : Hints := [(9, [10, 9, 8, 4], [], [])]
noncomputable def h79x0s0 (N : Nat) : Sg Try.prog 0 79 := .start hd79x0 rg79x0
noncomputable def S79x0x9 (w2 : LD) (w3 : Int) (w0 w4 : Int) (kr : Int → Int → Option R) (k0 : Int → Option R) (k1 : Unit → Option R) : Option R :=
  bif (decide (w4 < w3)) then
    bif (inB w4 w2.length) then
      bnd (V132x0 N ((w2.getD w4.toNat (.i 0)).cell 0).toI ((w2.getD w4.toNat (.i 0)).cell 1).toI ((w2.getD w4.toNat (.i 0)).cell 2).toI) fun y0 =>
      bif y0 then
        k0 w0
      else
        bnd (IntKind.wrap .i64 (w0 + ((w2.getD w4.toNat (.i 0)).cell 1).toI)) fun y1 =>
        kr y1 (IntKind.wrap .i64 (w4 + 1))
    else
      none
  else
    k1 ()
noncomputable def L79x0x9 (N : Nat) {R : Type} (w2 : LD) (w3 : Int) : Nat → Int → Int → (Int → Option R) → (Unit → Option R) → Option R
  | 0, _, _, _, _ => none
  | m + 1, w0, w4, k0, k1 => S79x0x9 N w2 w3 w0 w4 (fun w0 w4 => L79x0x9 N w2 w3 m w0 w4 k0 k1) k0 k1
noncomputable def G79x0x9 (w2 : LD) (w3 : Int) (w0 w4 : Int) : Option (Sum (Int) (Unit)) := L79x0x9 N (R := (Sum (Int) (Unit))) w2 w3 N w0 w4 (fun p => some (.inl p)) (fun p => some (.inr p))
noncomputable def J79x0x9 (L x : List Lf) (kr : List Lf → Option R) (k0 : Int → Option R) (k1 : Unit → Option R) : Option R := S79x0x9 N (ll L 2) (li L 3) (li x 0) (li x 1) (fun w0 w4 => kr [.i w0, .i w4]) k0 k1
theorem sb79x0x9 (L x : List Lf) (kr : List Lf → Option R) (k0 : Int → Option R) (k1 : Unit → Option R) : J79x0x9 N L x kr k0 k1 = (J79x0x9 N L x (fun y => some (.inl y)) (fun p => some (.inr (.inl p))) (fun p => some (.inr (.inr p)))).bind (sumE kr (sumE k0 k1)) := by
  unfold J79x0x9 S79x0x9
  repeat' (first | with_reducible apply cond_b | (with_reducible apply bnd_b; intro _) | rfl)
noncomputable def Q79x0x9 (L : List Lf) (m : Nat) (x : List Lf) : Option (Sum (Int) (Unit)) := L79x0x9 N (R := (Sum (Int) (Unit))) (ll L 2) (li L 3) m (li x 0) (li x 1) (fun p => some (.inl p)) (fun p => some (.inr p))
noncomputable def sh79x0x9 : Sh := { tmps := [(4, .c (.i .i64)), (8, .c (.sl 146)), (9, .c (.i .i64)), (10, .c (.i .i64))], mem := [] }
noncomputable def A79x0x9 (L : List Lf) : List (Bool × (Ex × St)) := bnd (Q79x0x9 N L N (pk sh79x0x9 [0, 4] L)) fun q => [((inlB q), (.ret, ⟨[(2, .c (.i .i64 (inlV q))), (3, .c (.b true))], []⟩)), ((inrQ q).isSome, ((.exit 0), ⟨[], []⟩))]
theorem step79x0x9 (m : Nat) (kn : St → Option (Ex × St)) (L x : List Lf) : lpB Try.prog (T132x0 N) (h79x0s0 N).h 0 79 9 sh79x0x9 [0, 4] [2, 3] [] (m + 100) kn L x = J79x0x9 N L x (fun y => kn (ofSh sh79x0x9 (mx sh79x0x9 [0, 4] L y))) (fun p => some (.ret, ⟨[(2, .c (.i .i64 p)), (3, .c (.b true))], []⟩)) (fun _ => some ((.exit 0), ⟨[], []⟩)) := by kernel_rfl
theorem ql79x0x9 (L : List Lf) (m : Nat) (x : List Lf) : Q79x0x9 N L (m + 1) x = J79x0x9 N L x (Q79x0x9 N L m) (fun p => some (.inl p)) (fun p => some (.inr p)) := by kernel_rfl
noncomputable def h79x0s1 : Sg Try.prog 0 79 :=
  (h79x0s0 N).lp (A79x0x9 N) N progOk (T132x0_ok N) (fun m kn L x => (step79x0x9 N m kn L x).trans (sb79x0x9 N L x _ _ _)) (fun L m x => (ql79x0x9 N L m x).trans (sb79x0x9 N L x (Q79x0x9 N L m) (fun p => some (.inl p)) (fun p => some (.inr p)))) fun L x hx => (altS alt1) x hx
noncomputable def F79x0 (v3 : LD) (k0 : Int × Bool → Option R) : Option R :=
  bnd (G79x0x9 N v3 (v3.length : Int) 0 0) fun y0 =>
  bif (inlB y0) then
    k0 ((inlV y0), true)
  else
    bif (inrQ y0).isSome then
      k0 (0, false)
    else
      none
noncomputable def G79x0 (v3 : LD) : Option (Int × Bool) := F79x0 N v3 (fun p => some p)
theorem bind79x0 (v3 : LD) (k0 : Int × Bool → Option R) : F79x0 N v3 k0 = (G79x0 N v3).bind k0 := by
  unfold G79x0 F79x0
  repeat' (first | with_reducible apply cond_b | (with_reducible apply bnd_b; intro _) | rfl)
noncomputable def sh79x0 : Sh := { tmps := [(0, .g ([.b, .i .i64, .sl 146]))], mem := [] }
noncomputable def A79x0 (L : List Lf) : List (Bool × Res) := bnd (F79x0 N (ll L 3) (fun p => some p)) fun q => [(q.isSome, ([.c (.i .i64 (q.getD default).1), .c (.b (q.getD default).2)], []))]
theorem raw79x0 (L : List Lf) : bd Try.prog (T132x0 N) (h79x0s1 N).h 79 sh79x0 L = F79x0 N (ll L 3) (fun p => some ([.c (.i .i64 p.1), .c (.b p.2)], [])) := by kernel_rfl
theorem ok79x0 : FnOk Try.prog 79 sh79x0 (A79x0 N) :=
  (h79x0s1 N).fn progOk (T132x0_ok N) fun L x hx => ((raw79x0 N L).trans ((bind79x0 N ..).trans (alt1 x hx)))
noncomputable def T79x0 : Oracle := ext 79 (spSh sh79x0 (A79x0 N)) (T132x0 N)
theorem T79x0_ok : OracleOk Try.prog (T79x0 N) := FnOk.to (ok79x0 N) (T132x0_ok N)
noncomputable def rg100x0 : List (Nat × List Nat) := [(0, [0, 1]), (1, [1, 2]), (2, [1, 2, 5]), (3, [2, 6, 5]), (4, [13, 12, 11, 6, 5]), (5, [11, 13, 6, 12, 5]), (6, [6, 8, 13, 12, 11, 5]), (7, [13, 12, 11, 5]), (8, [5, 8, 13, 12, 11, 6]), (9, [13, 12, 11, 6, 5]), (10, [5])]
noncomputable def hd100x0 : Hints := [(12, [13, 12, 11, 6, 5], [5], [5]), (19, [6, 8, 13, 12, 11, 5], [8, 5], [])]
noncomputable def h100x0s0 (N : Nat) : Sg Try.prog 0 100 := .start hd100x0 rg100x0
noncomputable def F100x0x19 (w0 : Bool) (w7 w8 w9 : Int) (k0 : Bool → R) : R :=
  bif w0 then
    bnd (V132x0 N w7 w8 w9) fun y0 =>
    k0 y0
  else
    k0 false
noncomputable def V100x0x19 (w0 : Bool) (w7 w8 w9 : Int) : Bool := F100x0x19 N w0 w7 w8 w9 (fun p => p)
theorem tot100x0x19 (w0 : Bool) (w7 w8 w9 : Int) (k0 : Bool → R) : F100x0x19 N w0 w7 w8 w9 k0 = k0 (V100x0x19 N w0 w7 w8 w9) := by
  unfold V100x0x19 F100x0x19
  repeat' (first | rfl | apply cond_k | (apply bnd_k; intro _))
noncomputable def J100x0x19 (L : List Lf) (k0 : Bool → R) : R := F100x0x19 N (lb L 0) (li L 7) (li L 8) (li L 9) k0
noncomputable def sh100x0x19 : Sh := { tmps := [(5, .c (.o 5)), (6, .c (.b)), (8, .c (.p 8 0)), (11, .c (.sl 146)), (12, .c (.i .i64)), (13, .c (.i .i64))], mem := [(5, .row 146 true), (8, .box ([.i .i64, .i .i64, .i .i64]))] }
noncomputable def K100x0x19w0 (L : List Lf) (p : Bool) : Ex × St := (.normal, mg (ofSh sh100x0x19 L) [5, 6, 8, 11, 12, 13, 21] [(21, .c (.b p))] [5, 8] [])
noncomputable def A100x0x19 (L : List Lf) : List (Bool × (Ex × St)) := bnd (J100x0x19 N L (fun p => p)) fun q => [(true, K100x0x19w0 L q)]
theorem raw100x0x19 (L : List Lf) : pc Try.prog (T79x0 N) (h100x0s0 N).h 0 100 100 19 sh100x0x19 L [13, 12, 11, 5, 8, 6, 21] [8, 5] = J100x0x19 N L (fun p => some (K100x0x19w0 L p)) := by kernel_rfl
noncomputable def h100x0s1 : Sg Try.prog 0 100 :=
  (h100x0s0 N).cut (A100x0x19 N) progOk (T79x0_ok N) fun L x hx => (raw100x0x19 N L).trans ((tot100x0x19 N ..).trans (alt0 _ _ hx))
noncomputable def S100x0x12 (w2 : LD) (w3 : Int) (w0 : Bool) (w4 : Int) (w5 : Bool) (w6 : LD) (kr : Bool → Int → Bool → LD → Option R) (k0 : Bool × LD → Option R) : Option R :=
  bif (decide (w4 < w3)) then
    bif (inB w4 w2.length) then
      bnd (V100x0x19 N w0 ((w2.getD w4.toNat (.i 0)).cell 0).toI ((w2.getD w4.toNat (.i 0)).cell 1).toI ((w2.getD w4.toNat (.i 0)).cell 2).toI) fun y0 =>
      bif y0 then
        kr false (IntKind.wrap .i64 (w4 + 1)) w5 w6
      else
        bif (decide ((w6.length + 1) * 24 ≤ room) && decide ((w6.length + 1) ≤ strMax)) then
          bnd ((w6 ++ [(.a [(.i ((w2.getD w4.toNat (.i 0)).cell 0).toI), (.i ((w2.getD w4.toNat (.i 0)).cell 1).toI), (.i ((w2.getD w4.toNat (.i 0)).cell 2).toI)])]) : List D) fun y1 =>
          kr w0 (IntKind.wrap .i64 (w4 + 1)) false y1
        else
          none
    else
      none
  else
    k0 (w5, w6)
noncomputable def L100x0x12 (N : Nat) {R : Type} (w2 : LD) (w3 : Int) : Nat → Bool → Int → Bool → LD → (Bool × LD → Option R) → Option R
  | 0, _, _, _, _, _ => none
  | m + 1, w0, w4, w5, w6, k0 => S100x0x12 N w2 w3 w0 w4 w5 w6 (fun w0 w4 w5 w6 => L100x0x12 N w2 w3 m w0 w4 w5 w6 k0) k0
noncomputable def G100x0x12 (w2 : LD) (w3 : Int) (w0 : Bool) (w4 : Int) (w5 : Bool) (w6 : LD) : Option (Bool × LD) := L100x0x12 N (R := (Bool × LD)) w2 w3 N w0 w4 w5 w6 (fun p => some p)
noncomputable def J100x0x12 (L x : List Lf) (kr : List Lf → Option R) (k0 : Bool × LD → Option R) : Option R := S100x0x12 N (ll L 2) (li L 3) (lb x 0) (li x 1) (lb x 2) (ll x 3) (fun w0 w4 w5 w6 => kr [.b w0, .i w4, .b w5, .l w6]) k0
theorem sb100x0x12 (L x : List Lf) (kr : List Lf → Option R) (k0 : Bool × LD → Option R) : J100x0x12 N L x kr k0 = (J100x0x12 N L x (fun y => some (.inl y)) (fun p => some (.inr p))).bind (sumE kr k0) := by
  unfold J100x0x12 S100x0x12
  repeat' (first | with_reducible apply cond_b | (with_reducible apply bnd_b; intro _) | rfl)
noncomputable def Q100x0x12 (L : List Lf) (m : Nat) (x : List Lf) : Option (Bool × LD) := L100x0x12 N (R := (Bool × LD)) (ll L 2) (li L 3) m (lb x 0) (li x 1) (lb x 2) (ll x 3) (fun p => some p)
noncomputable def sh100x0x12 : Sh := { tmps := [(5, .c (.o 5)), (6, .c (.b)), (11, .c (.sl 146)), (12, .c (.i .i64)), (13, .c (.i .i64))], mem := [(5, .row 146 true)] }
noncomputable def K100x0x12w0 (L : List Lf) (p : Bool × LD) : Ex × St := ((.exit 0), ⟨[(5, .c (.o 5))], [(5, .row 146 true p.1 p.2)]⟩)
noncomputable def A100x0x12 (L : List Lf) : List (Bool × (Ex × St)) := bnd (Q100x0x12 N L N (pk sh100x0x12 [0, 4, 5, 6] L)) fun q => [(q.isSome, K100x0x12w0 L (q.getD default))]
theorem step100x0x12 (m : Nat) (kn : St → Option (Ex × St)) (L x : List Lf) : lpB Try.prog (T79x0 N) (h100x0s1 N).h 0 100 12 sh100x0x12 [0, 4, 5, 6] [4, 5] [5] (m + 100) kn L x = J100x0x12 N L x (fun y => kn (ofSh sh100x0x12 (mx sh100x0x12 [0, 4, 5, 6] L y))) (fun p => some (K100x0x12w0 L p)) := by kernel_rfl
theorem ql100x0x12 (L : List Lf) (m : Nat) (x : List Lf) : Q100x0x12 N L (m + 1) x = J100x0x12 N L x (Q100x0x12 N L m) some := by kernel_rfl
noncomputable def h100x0s2 : Sg Try.prog 0 100 :=
  (h100x0s1 N).lp (A100x0x12 N) N progOk (T79x0_ok N) (fun m kn L x => (step100x0x12 N m kn L x).trans (sb100x0x12 N L x _ _)) (fun L m x => (ql100x0x12 N L m x).trans (sb100x0x12 N L x (Q100x0x12 N L m) some)) fun L x hx => alt1 x hx
noncomputable def F100x0 (v3 : LD) (v4 : Bool) (k0 : Bool × LD → Option R) : Option R :=
  bnd (G100x0x12 N v3 (v3.length : Int) v4 0 true []) fun y0 =>
  bif y0.isSome then
    k0 (y0.getD default)
  else
    none
noncomputable def G100x0 (v3 : LD) (v4 : Bool) : Option (Bool × LD) := F100x0 N v3 v4 (fun p => some p)
theorem bind100x0 (v3 : LD) (v4 : Bool) (k0 : Bool × LD → Option R) : F100x0 N v3 v4 k0 = (G100x0 N v3 v4).bind k0 := by
  unfold G100x0 F100x0
  repeat' (first | with_reducible apply cond_b | (with_reducible apply bnd_b; intro _) | rfl)
noncomputable def sh100x0 : Sh := { tmps := [(0, .g ([.b, .i .i64, .sl 146])), (1, .c (.b))], mem := [] }
noncomputable def A100x0 (L : List Lf) : List (Bool × Res) := bnd (F100x0 N (ll L 3) (lb L 4) (fun p => some p)) fun q => [(q.isSome, ([.c (.sl 146 (q.getD default).1 (q.getD default).2)], []))]
theorem raw100x0 (L : List Lf) : bd Try.prog (T79x0 N) (h100x0s2 N).h 100 sh100x0 L = F100x0 N (ll L 3) (lb L 4) (fun p => some ([.c (.sl 146 p.1 p.2)], [])) := by kernel_rfl
theorem ok100x0 : FnOk Try.prog 100 sh100x0 (A100x0 N) :=
  (h100x0s2 N).fn progOk (T79x0_ok N) fun L x hx => ((raw100x0 N L).trans ((bind100x0 N ..).trans (alt1 x hx)))
noncomputable def T100x0 : Oracle := ext 100 (spSh sh100x0 (A100x0 N)) (T79x0 N)
theorem T100x0_ok : OracleOk Try.prog (T100x0 N) := FnOk.to (ok100x0 N) (T79x0_ok N)
noncomputable def rg126x0 : List (Nat × List Nat) := [(0, [0]), (1, [0]), (2, [0, 3]), (3, [8, 7, 6, 3]), (4, [6, 8, 3, 7]), (5, [3, 5, 8, 7, 6]), (6, [8, 7, 6, 3]), (7, [3])]
noncomputable def hd126x0 : Hints := [(9, [8, 7, 6, 3], [], [])]
noncomputable def h126x0s0 (N : Nat) : Sg Try.prog 0 126 := .start hd126x0 rg126x0
noncomputable def S126x0x9 (N : Nat) (w2 : LD) (w3 : Int) (w0 w4 : Int) (kr : Int → Int → Option R) (k0 : Int → Option R) : Option R :=
  bif (decide (w4 < w3)) then
    bif (inB w4 w2.length) then
      bnd (IntKind.wrap .i64 (w0 + ((w2.getD w4.toNat (.i 0)).cell 1).toI)) fun y0 =>
      kr y0 (IntKind.wrap .i64 (w4 + 1))
    else
      none
  else
    k0 w0
noncomputable def L126x0x9 (N : Nat) {R : Type} (w2 : LD) (w3 : Int) : Nat → Int → Int → (Int → Option R) → Option R
  | 0, _, _, _ => none
  | m + 1, w0, w4, k0 => S126x0x9 N w2 w3 w0 w4 (fun w0 w4 => L126x0x9 N w2 w3 m w0 w4 k0) k0
noncomputable def G126x0x9 (w2 : LD) (w3 : Int) (w0 w4 : Int) : Option (Int) := L126x0x9 N (R := (Int)) w2 w3 N w0 w4 (fun p => some p)
noncomputable def J126x0x9 (L x : List Lf) (kr : List Lf → Option R) (k0 : Int → Option R) : Option R := S126x0x9 N (ll L 2) (li L 3) (li x 0) (li x 1) (fun w0 w4 => kr [.i w0, .i w4]) k0
theorem sb126x0x9 (L x : List Lf) (kr : List Lf → Option R) (k0 : Int → Option R) : J126x0x9 N L x kr k0 = (J126x0x9 N L x (fun y => some (.inl y)) (fun p => some (.inr p))).bind (sumE kr k0) := by
  unfold J126x0x9 S126x0x9
  repeat' (first | with_reducible apply cond_b | (with_reducible apply bnd_b; intro _) | rfl)
noncomputable def Q126x0x9 (L : List Lf) (m : Nat) (x : List Lf) : Option (Int) := L126x0x9 N (R := (Int)) (ll L 2) (li L 3) m (li x 0) (li x 1) (fun p => some p)
noncomputable def sh126x0x9 : Sh := { tmps := [(3, .c (.i .i64)), (6, .c (.sl 146)), (7, .c (.i .i64)), (8, .c (.i .i64))], mem := [] }
noncomputable def A126x0x9 (L : List Lf) : List (Bool × (Ex × St)) := bnd (Q126x0x9 N L N (pk sh126x0x9 [0, 4] L)) fun q => [(q.isSome, ((.exit 0), ⟨[(3, .c (.i .i64 (q.getD default)))], []⟩))]
theorem step126x0x9 (m : Nat) (kn : St → Option (Ex × St)) (L x : List Lf) : lpB Try.prog (T100x0 N) (h126x0s0 N).h 0 126 9 sh126x0x9 [0, 4] [2, 3] [] (m + 100) kn L x = J126x0x9 N L x (fun y => kn (ofSh sh126x0x9 (mx sh126x0x9 [0, 4] L y))) (fun p => some ((.exit 0), ⟨[(3, .c (.i .i64 p))], []⟩)) := by kernel_rfl
theorem ql126x0x9 (L : List Lf) (m : Nat) (x : List Lf) : Q126x0x9 N L (m + 1) x = J126x0x9 N L x (Q126x0x9 N L m) some := by kernel_rfl
noncomputable def h126x0s1 : Sg Try.prog 0 126 :=
  (h126x0s0 N).lp (A126x0x9 N) N progOk (T100x0_ok N) (fun m kn L x => (step126x0x9 N m kn L x).trans (sb126x0x9 N L x _ _)) (fun L m x => (ql126x0x9 N L m x).trans (sb126x0x9 N L x (Q126x0x9 N L m) some)) fun L x hx => alt1 x hx
noncomputable def F126x0 (v1 : LD) (k0 : Int → Option R) : Option R :=
  bnd (G126x0x9 N v1 (v1.length : Int) 0 0) fun y0 =>
  bif y0.isSome then
    k0 (y0.getD default)
  else
    none
noncomputable def G126x0 (v1 : LD) : Option (Int) := F126x0 N v1 (fun p => some p)
theorem bind126x0 (v1 : LD) (k0 : Int → Option R) : F126x0 N v1 k0 = (G126x0 N v1).bind k0 := by
  unfold G126x0 F126x0
  repeat' (first | with_reducible apply cond_b | (with_reducible apply bnd_b; intro _) | rfl)
noncomputable def sh126x0 : Sh := { tmps := [(0, .c (.sl 146))], mem := [] }
noncomputable def A126x0 (L : List Lf) : List (Bool × Res) := bnd (F126x0 N (ll L 1) (fun p => some p)) fun q => [(q.isSome, ([.c (.i .i64 (q.getD default))], []))]
theorem raw126x0 (L : List Lf) : bd Try.prog (T100x0 N) (h126x0s1 N).h 126 sh126x0 L = F126x0 N (ll L 1) (fun p => some ([.c (.i .i64 p)], [])) := by kernel_rfl
theorem ok126x0 : FnOk Try.prog 126 sh126x0 (A126x0 N) :=
  (h126x0s1 N).fn progOk (T100x0_ok N) fun L x hx => ((raw126x0 N L).trans ((bind126x0 N ..).trans (alt1 x hx)))
noncomputable def T126x0 : Oracle := ext 126 (spSh sh126x0 (A126x0 N)) (T100x0 N)
theorem T126x0_ok : OracleOk Try.prog (T126x0 N) := FnOk.to (ok126x0 N) (T100x0_ok N)
noncomputable def rg84x0 : List (Nat × List Nat) := [(0, [1, 0]), (1, [1, 4, 0]), (2, [4]), (3, [1, 0, 4]), (4, [7, 0, 4, 1]), (6, [7, 8, 0, 4, 1]), (8, [7, 8, 4, 1, 0]), (10, [7, 1, 4, 8, 0]), (5, [7, 8, 0, 4, 1]), (11, [1, 7, 4]), (9, [8, 4]), (7, [7, 8, 0, 4, 1]), (12, [0, 8, 4, 1]), (13, [8, 4]), (14, [0, 8, 4, 1]), (15, [9, 8, 4, 1]), (16, [8, 11, 4, 9, 1]), (17, [8, 4]), (18, [9, 8, 1, 4]), (19, [1, 12, 8, 4]), (20, [8, 4]), (21, [1, 12, 8, 4]), (22, [8, 12, 4])]
noncomputable def hd84x0 : Hints := [(24023, [7, 8, 0, 4, 1, 24], [9, 5, 0], [])]
noncomputable def h84x0s0 (N : Nat) : Sg Try.prog 1 84 := .start hd84x0 rg84x0
noncomputable def F84x0x24023 (w1 : LD) (w2 : Int) (w3 : Bool) (k0 : Int × Int × Int → Option R) (k1 : Unit → Option R) (k2 : Int × Bool × Int × Bool × LD → Option R) : Option R :=
  bif w3 then
    k0 (3, (IntKind.wrap .i64 ((IntKind.wrap .i64 (w2 - 128)).tdiv 32)), (w2.tmod 32))
  else
    bnd (bif (decide (w2 ≥ 80)) then true else (bif (decide (w2 ≥ 16)) then (decide (w2 < 64)) else false)) fun y0 =>
    bif y0 then
      k1 ()
    else
      bif (decide (w2 ≥ 64)) then
        bnd (G135x0 N w1) fun y1 =>
        bif y1.isSome then
          k2 ((y1.getD default).2.2.1, (y1.getD default).2.2.2, (IntKind.wrap .i64 (w2 - 64)), (y1.getD default).1, (y1.getD default).2.1)
        else
          none
      else
        k0 (2, w2, 0)
noncomputable def G84x0x24023 (w1 : LD) (w2 : Int) (w3 : Bool) : Option (Sum (Int × Int × Int) (Sum (Unit) (Int × Bool × Int × Bool × LD))) := F84x0x24023 N w1 w2 w3 (fun p => some (.inl p)) (fun p => some (.inr (.inl p))) (fun p => some (.inr (.inr p)))
theorem bind84x0x24023 (w1 : LD) (w2 : Int) (w3 : Bool) (k0 : Int × Int × Int → Option R) (k1 : Unit → Option R) (k2 : Int × Bool × Int × Bool × LD → Option R) : F84x0x24023 N w1 w2 w3 k0 k1 k2 = (G84x0x24023 N w1 w2 w3).bind (sumE k0 (sumE k1 k2)) := by
  unfold G84x0x24023 F84x0x24023
  repeat' (first | with_reducible apply cond_b | (with_reducible apply bnd_b; intro _) | rfl)
noncomputable def sh84x0x24023 : Sh := { tmps := [(0, .c (.p 0 0)), (1, .c (.sl 5)), (4, .c (.p 5 0)), (7, .c (.i .i64)), (8, .c (.p 9 0)), (24, .c (.b))], mem := [(0, .dat 106), (5, .box ([.i .i64, .i .i64, .i .i64, .sl 103, .sl 5])), (9, .box ([.i .i64, .i .i64, .i .i64, .sl 103, .sl 5]))] }
noncomputable def K84x0x24023w0 (L : List Lf) (p : Int × Int × Int) : Ex × St := (.normal, mg (ofSh sh84x0x24023 L) [0, 1, 4, 8] [] [0, 5, 9] [(9, .box [.i .i64 p.1, .i .i64 p.2.1, .i .i64 p.2.2, .sl 103 true [], .sl 5 true []])])
noncomputable def K84x0x24023w1 (L : List Lf) (_ : Unit) : Ex × St := (.ret, mg (ofSh sh84x0x24023 L) [4, 5, 6, 8] [(5, .c (.i .i64 0)), (6, .c (.b false))] [0, 5, 9] [(5, .box [.i .i64 (li L 12), .i .i64 (li L 13), .i .i64 (li L 14), .sl 103 (lb L 15) (ll L 16), .sl 5 (lb L 17) (ll L 18)])])
noncomputable def K84x0x24023w2 (L : List Lf) (p : Int × Bool × Int × Bool × LD) : Ex × St := (.ret, mg (ofSh sh84x0x24023 L) [1, 4, 5, 6] [(5, .c (.i .i64 p.1)), (6, .c (.b p.2.1))] [0, 5, 9] [(5, .box [.i .i64 1, .i .i64 p.2.2.1, .i .i64 0, .sl 103 p.2.2.2.1 p.2.2.2.2, .sl 5 true []])])
noncomputable def A84x0x24023 (L : List Lf) : List (Bool × (Ex × St)) := bnd (F84x0x24023 N (ll L 1) (li L 2) (lb L 3) (fun p => some (.inl p)) (fun p => some (.inr (.inl p))) (fun p => some (.inr (.inr p)))) fun q => [((inlB q), K84x0x24023w0 L (inlV q)), ((inlB (inrQ q)), K84x0x24023w1 L ()), ((inrQ (inrQ q)).isSome, K84x0x24023w2 L ((inrQ (inrQ q)).getD default))]
theorem raw84x0x24023 (L : List Lf) : pc Try.prog (T126x0 N) (h84x0s0 N).h 1 100 84 24023 sh84x0x24023 L [0, 8, 4, 1, 5, 6] [9, 5, 0] = F84x0x24023 N (ll L 1) (li L 2) (lb L 3) (fun p => some (K84x0x24023w0 L p)) (fun _ => some (K84x0x24023w1 L ())) (fun p => some (K84x0x24023w2 L p)) := by kernel_rfl
noncomputable def h84x0s1 : Sg Try.prog 1 84 :=
  (h84x0s0 N).cut (A84x0x24023 N) progOk (T126x0_ok N) fun L x hx => (raw84x0x24023 N L).trans ((bind84x0x24023 N ..).trans ((altS (altS alt1)) x hx))
noncomputable def F84x0 (v1 : LD) (v2 : D) (k0 : Ty1 → Option R) : Option R :=
  bif ((v1.length : Int) == 0) then
    k0 (0, 0, 0, true, [], true, [], 0, false)
  else
    bif (inB 0 v1.length) then
      bnd (G84x0x24023 N v1 (IntKind.wrap .i64 (v1.getD 0 (.i 0)).toI) (decide ((IntKind.wrap .i64 (v1.getD 0 (.i 0)).toI) ≥ 128))) fun y0 =>
      bif (inlB y0) then
        bif (inB (inlV y0).2.1 16) then
          bif (!(v2.cell (0 + ((inlV y0).2.1.toNat * 1))).toB) then
            k0 ((inlV y0).1, (inlV y0).2.1, (inlV y0).2.2, true, [], true, [], 0, false)
          else
            bif (inB (inlV y0).2.1 16) then
              bnd (G79x0 N (v2.cell (18 + ((inlV y0).2.1.toNat * 3))).items) fun y1 =>
              bif y1.isSome then
                bnd (bif ((inlV y0).1 == 3) then (!(y1.getD default).2) else false) fun y2 =>
                bif y2 then
                  k0 ((inlV y0).1, (inlV y0).2.1, (inlV y0).2.2, true, [], true, [], 0, false)
                else
                  bnd (G100x0 N (v2.cell (18 + ((inlV y0).2.1.toNat * 3))).items ((inlV y0).1 == 3)) fun y3 =>
                  bif y3.isSome then
                    bnd (G126x0 N (y3.getD default).2) fun y4 =>
                    bif y4.isSome then
                      bnd (decide ((v1.length : Int) < (IntKind.wrap .i64 (1 + (y4.getD default))))) fun y5 =>
                      bif y5 then
                        k0 ((inlV y0).1, (inlV y0).2.1, (inlV y0).2.2, true, [], true, [], 0, false)
                      else
                        bif ((decide (1 ≤ (IntKind.wrap .i64 (1 + (y4.getD default))))) && (decide ((IntKind.wrap .i64 (1 + (y4.getD default))) ≤ (v1.length : Int)))) then
                          bnd (((v1.take (IntKind.wrap .i64 (1 + (y4.getD default))).toNat).drop 1) : List D) fun y6 =>
                          bif (decide ((0 + y6.length) * 1 ≤ room) && decide ((0 + y6.length) ≤ strMax)) then
                            k0 ((inlV y0).1, (inlV y0).2.1, (inlV y0).2.2, true, [], (y6.isEmpty && false), y6, (IntKind.wrap .i64 (1 + (y4.getD default))), true)
                          else
                            none
                        else
                          none
                    else
                      none
                  else
                    none
              else
                none
            else
              none
        else
          none
      else
        bif (inlB (inrQ y0)) then
          k0 (0, 0, 0, true, [], true, [], 0, false)
        else
          bif (inrQ (inrQ y0)).isSome then
            k0 (1, ((inrQ (inrQ y0)).getD default).2.2.1, 0, ((inrQ (inrQ y0)).getD default).2.2.2.1, ((inrQ (inrQ y0)).getD default).2.2.2.2, true, [], ((inrQ (inrQ y0)).getD default).1, ((inrQ (inrQ y0)).getD default).2.1)
          else
            none
    else
      none
noncomputable def G84x0 (v1 : LD) (v2 : D) : Option (Ty1) := F84x0 N v1 v2 (fun p => some p)
theorem bind84x0 (v1 : LD) (v2 : D) (k0 : Ty1 → Option R) : F84x0 N v1 v2 k0 = (G84x0 N v1 v2).bind k0 := by
  unfold G84x0 F84x0
  repeat' (first | with_reducible apply cond_b | (with_reducible apply bnd_b; intro _) | rfl)
noncomputable def sh84x0 : Sh := { tmps := [(0, .c (.p 0 0)), (1, .c (.sl 5))], mem := [(0, .dat 106)] }
noncomputable def K84x0w0 (L : List Lf) (p : Ty1) : Res := let p1 := p.2; let p2 := p1.2; let p3 := p2.2; let p4 := p3.2; let p5 := p4.2; let p6 := p5.2; let p7 := p6.2; let p8 := p7.2; ([.g [.i .i64 p.1, .i .i64 p1.1, .i .i64 p2.1, .sl 103 p3.1 p4.1, .sl 5 p5.1 p6.1], .c (.i .i64 p7.1), .c (.b p8)], [(0, .dat 106 (ld L 2))])
noncomputable def A84x0 (L : List Lf) : List (Bool × Res) := bnd (F84x0 N (ll L 1) (ld L 2) (fun p => some p)) fun q => [(q.isSome, K84x0w0 L (q.getD default))]
theorem raw84x0 (L : List Lf) : bd Try.prog (T126x0 N) (h84x0s1 N).h 84 sh84x0 L = F84x0 N (ll L 1) (ld L 2) (fun p => some (K84x0w0 L p)) := by kernel_rfl
theorem ok84x0 : FnOk Try.prog 84 sh84x0 (A84x0 N) :=
  (h84x0s1 N).fn progOk (T126x0_ok N) fun L x hx => ((raw84x0 N L).trans ((bind84x0 N ..).trans (alt1 x hx)))
noncomputable def T84x0 : Oracle := ext 84 (spSh sh84x0 (A84x0 N)) (T126x0 N)
theorem T84x0_ok : OracleOk Try.prog (T84x0 N) := FnOk.to (ok84x0 N) (T126x0_ok N)
noncomputable def rg74x0 : List (Nat × List Nat) := [(0, [1, 0]), (1, [3, 0]), (2, [10, 0, 3]), (5, [10, 0, 3]), (6, [0, 3]), (7, [0]), (3, [0, 3]), (4, []), (8, [0, 3]), (9, [5, 3, 0]), (10, [7, 3, 6, 5, 0]), (11, []), (12, [3, 6, 5, 0]), (13, [8, 0]), (14, []), (15, [0, 8]), (16, [8])]
noncomputable def hd74x0 : Hints := []
noncomputable def h74x0s0 (N : Nat) : Sg Try.prog 1 74 := .start hd74x0 rg74x0
noncomputable def F74x0 (v0 v1 v2 : Int) (v4 v6 : LD) (v7 : D) (k0 : Int × D → Option R) : Option R :=
  bif (v0 == 1) then
    bif (inB 0 v4.length) then
      bif (inB v1 16) then
        bif (inB v1 16) then
          bnd (((((v7.put (0 + (v1.toNat * 1)) (.b true)).put (16 + (v1.toNat * 3)) (.b ((v4.getD 0 (.i 0)).cell 0).toB)).put (17 + (v1.toNat * 3)) (.i ((v4.getD 0 (.i 0)).cell 1).toI)).put (18 + (v1.toNat * 3)) (.l ((v4.getD 0 (.i 0)).cell 2).isNil ((v4.getD 0 (.i 0)).cell 2).items)) : D) fun y0 =>
          k0 ((-1), y0)
        else
          none
      else
        none
    else
      none
  else
    bif (v0 == 3) then
      bnd (IntKind.wrap .i64 ((IntKind.wrap .i64 (v2 - ((v7.cell 64).toI.tmod 32))) + 32)) fun y1 =>
      bnd ((v7.put 64 (.i (IntKind.wrap .i64 ((v7.cell 64).toI + (y1.tmod 32))))) : D) fun y2 =>
      k0 ((y2.cell 64).toI, y2)
    else
      bif (inB v1 16) then
        bnd (G79x0 N (v7.cell (18 + (v1.toNat * 3))).items) fun y3 =>
        bif y3.isSome then
          bif (!(y3.getD default).2) then
            k0 ((-1), v7)
          else
            bif (((decide (0 ≤ (y3.getD default).1)) && (decide ((y3.getD default).1 ≤ (IntKind.wrap .i64 ((y3.getD default).1 + 4))))) && (decide ((IntKind.wrap .i64 ((y3.getD default).1 + 4)) ≤ (v6.length : Int)))) then
              bnd (((v6.take (IntKind.wrap .i64 ((y3.getD default).1 + 4)).toNat).drop (y3.getD default).1.toNat) : List D) fun y4 =>
              bnd (G83x0 N y4 (v7.cell (16 + (v1.toNat * 3))).toB) fun y5 =>
              bif y5.isSome then
                bif ((y5.getD default) == 4294967295) then
                  k0 ((-1), v7)
                else
                  k0 ((y5.getD default), (v7.put 64 (.i (y5.getD default))))
              else
                none
            else
              none
        else
          none
      else
        none
noncomputable def G74x0 (v0 v1 v2 : Int) (v4 v6 : LD) (v7 : D) : Option (Int × D) := F74x0 N v0 v1 v2 v4 v6 v7 (fun p => some p)
theorem bind74x0 (v0 v1 v2 : Int) (v4 v6 : LD) (v7 : D) (k0 : Int × D → Option R) : F74x0 N v0 v1 v2 v4 v6 v7 k0 = (G74x0 N v0 v1 v2 v4 v6 v7).bind k0 := by
  unfold G74x0 F74x0
  repeat' (first | with_reducible apply cond_b | (with_reducible apply bnd_b; intro _) | rfl)
noncomputable def J74x0 (L : List Lf) (k0 : Int × D → Option R) : Option R := F74x0 N (li L 0) (li L 1) (li L 2) (ll L 4) (ll L 6) (ld L 7) k0
noncomputable def sh74x0 : Sh := { tmps := [(0, .c (.p 0 0)), (1, .g ([.i .i64, .i .i64, .i .i64, .sl 103, .sl 5]))], mem := [(0, .dat 106)] }
noncomputable def A74x0 (L : List Lf) : List (Bool × Res) := bnd (J74x0 N L (fun p => some p)) fun q => [(q.isSome, ([.c (.i .i64 (q.getD default).1)], [(0, .dat 106 (q.getD default).2)]))]
theorem raw74x0 (L : List Lf) : bd Try.prog (T84x0 N) (h74x0s0 N).h 74 sh74x0 L = J74x0 N L (fun p => some ([.c (.i .i64 p.1)], [(0, .dat 106 p.2)])) := by kernel_rfl
theorem ok74x0 : FnOk Try.prog 74 sh74x0 (A74x0 N) :=
  (h74x0s0 N).fn progOk (T84x0_ok N) fun L x hx => ((raw74x0 N L).trans ((bind74x0 N ..).trans (alt1 x hx)))
noncomputable def T74x0 : Oracle := ext 74 (spSh sh74x0 (A74x0 N)) (T84x0 N)
theorem T74x0_ok : OracleOk Try.prog (T74x0 N) := FnOk.to (ok74x0 N) (T84x0_ok N)
noncomputable def rg125x0 : List (Nat × List Nat) := [(0, [0]), (1, [1]), (2, []), (3, [1]), (4, []), (5, [1]), (6, [17, 16, 15, 1]), (7, [17, 15, 1, 16]), (8, [4, 1, 3, 17, 16, 15]), (10, [4, 1, 3, 17, 16, 15]), (12, [4, 1, 3, 17, 16, 15]), (13, []), (11, []), (9, []), (14, [1, 3, 4, 17, 16, 15]), (15, [59, 58, 57, 4, 17, 16, 15, 1]), (16, [57, 59, 4, 58, 17, 16, 15, 1]), (17, [6, 4, 59, 58, 57, 17, 16, 15, 1]), (18, []), (19, [59, 58, 57, 4, 17, 16, 15, 1]), (20, [17, 16, 15, 1]), (21, [])]
noncomputable def hd125x0 : Hints := [(18, [17, 16, 15, 1], [1], []), (25, [4, 1, 3, 17, 16, 15], [4, 1], []), (45, [59, 58, 57, 4, 17, 16, 15, 1], [4, 1], [])]
noncomputable def h125x0s0 (N : Nat) : Sg Try.prog 0 125 := .start hd125x0 rg125x0
noncomputable def F125x0x25 (w9 w10 : Int) (k0 : Bool → R) : R :=
  bnd (V57x0 N w9 0 255) fun y0 =>
  bif y0 then
    k0 true
  else
    bnd (V57x0 N w10 1 255) fun y1 =>
    k0 y1
noncomputable def V125x0x25 (w9 w10 : Int) : Bool := F125x0x25 N w9 w10 (fun p => p)
theorem tot125x0x25 (w9 w10 : Int) (k0 : Bool → R) : F125x0x25 N w9 w10 k0 = k0 (V125x0x25 N w9 w10) := by
  unfold V125x0x25 F125x0x25
  repeat' (first | rfl | apply cond_k | (apply bnd_k; intro _))
noncomputable def sh125x0x25 : Sh := { tmps := [(1, .c (.p 1 0)), (3, .c (.i .i64)), (4, .c (.p 4 0)), (15, .c (.sl 146)), (16, .c (.i .i64)), (17, .c (.i .i64))], mem := [(1, .box ([.b, .i .i64, .sl 146])), (4, .box ([.i .i64, .i .i64, .i .i64]))] }
noncomputable def K125x0x25w0 (L : List Lf) (p : Bool) : Ex × St := (.normal, mg (ofSh sh125x0x25 L) [1, 3, 4, 15, 16, 17, 22] [(22, .c (.b p))] [1, 4] [])
noncomputable def A125x0x25 (L : List Lf) : List (Bool × (Ex × St)) := bnd (F125x0x25 N (li L 9) (li L 10) (fun p => p)) fun q => [(true, K125x0x25w0 L q)]
theorem raw125x0x25 (L : List Lf) : pc Try.prog (T74x0 N) (h125x0s0 N).h 0 100 125 25 sh125x0x25 L [4, 1, 3, 17, 16, 15, 22] [4, 1] = F125x0x25 N (li L 9) (li L 10) (fun p => some (K125x0x25w0 L p)) := by kernel_rfl
noncomputable def h125x0s1 : Sg Try.prog 0 125 :=
  (h125x0s0 N).cut (A125x0x25 N) progOk (T74x0_ok N) fun L x hx => (raw125x0x25 N L).trans ((tot125x0x25 N ..).trans (alt0 _ _ hx))
noncomputable def S125x0x45 (N : Nat) (w5 : LD) (w6 w12 : Int) (w7 : Int) (kr : Int → Option R) (k0 : Unit → Option R) (k1 : Unit → Option R) : Option R :=
  bif (decide (w7 < w6)) then
    bif (inB w7 w5.length) then
      bif (((w5.getD w7.toNat (.i 0)).cell 0).toI == w12) then
        k0 ()
      else
        kr (IntKind.wrap .i64 (w7 + 1))
    else
      none
  else
    k1 ()
noncomputable def L125x0x45 (N : Nat) {R : Type} (w5 : LD) (w6 w12 : Int) : Nat → Int → (Unit → Option R) → (Unit → Option R) → Option R
  | 0, _, _, _ => none
  | m + 1, w7, k0, k1 => S125x0x45 N w5 w6 w12 w7 (fun w7 => L125x0x45 N w5 w6 w12 m w7 k0 k1) k0 k1
noncomputable def G125x0x45 (w5 : LD) (w6 w12 : Int) (w7 : Int) : Option (Sum (Unit) (Unit)) := L125x0x45 N (R := (Sum (Unit) (Unit))) w5 w6 w12 N w7 (fun p => some (.inl p)) (fun p => some (.inr p))
noncomputable def J125x0x45 (L x : List Lf) (kr : List Lf → Option R) (k0 : Unit → Option R) (k1 : Unit → Option R) : Option R := S125x0x45 N (ll L 5) (li L 6) (li L 12) (li x 0) (fun w7 => kr [.i w7]) k0 k1
theorem sb125x0x45 (L x : List Lf) (kr : List Lf → Option R) (k0 : Unit → Option R) (k1 : Unit → Option R) : J125x0x45 N L x kr k0 k1 = (J125x0x45 N L x (fun y => some (.inl y)) (fun p => some (.inr (.inl p))) (fun p => some (.inr (.inr p)))).bind (sumE kr (sumE k0 k1)) := by
  unfold J125x0x45 S125x0x45
  repeat' (first | with_reducible apply cond_b | (with_reducible apply bnd_b; intro _) | rfl)
noncomputable def Q125x0x45 (L : List Lf) (m : Nat) (x : List Lf) : Option (Sum (Unit) (Unit)) := L125x0x45 N (R := (Sum (Unit) (Unit))) (ll L 5) (li L 6) (li L 12) m (li x 0) (fun p => some (.inl p)) (fun p => some (.inr p))
noncomputable def sh125x0x45 : Sh := { tmps := [(1, .c (.p 1 0)), (4, .c (.p 4 0)), (15, .c (.sl 146)), (16, .c (.i .i64)), (17, .c (.i .i64)), (57, .c (.sl 146)), (58, .c (.i .i64)), (59, .c (.i .i64))], mem := [(1, .box ([.b, .i .i64, .sl 146])), (4, .box ([.i .i64, .i .i64, .i .i64]))] }
noncomputable def K125x0x45w0 (L : List Lf) (_ : Unit) : Ex × St := (.ret, mg (ofSh sh125x0x45 L) [2] [(2, .c (.i .i64 5))] [1] [])
noncomputable def K125x0x45w1 (L : List Lf) (_ : Unit) : Ex × St := ((.exit 3), mg (ofSh sh125x0x45 L) [1, 15, 16, 17] [] [1] [])
noncomputable def A125x0x45 (L : List Lf) : List (Bool × (Ex × St)) := bnd (Q125x0x45 N L N (pk sh125x0x45 [7] L)) fun q => [((inlB q), K125x0x45w0 L ()), ((inrQ q).isSome, K125x0x45w1 L ())]
theorem step125x0x45 (m : Nat) (kn : St → Option (Ex × St)) (L x : List Lf) : lpB Try.prog (T74x0 N) (h125x0s1 N).h 0 125 45 sh125x0x45 [7] [2, 17, 16, 15, 1] [1] (m + 100) kn L x = J125x0x45 N L x (fun y => kn (ofSh sh125x0x45 (mx sh125x0x45 [7] L y))) (fun _ => some (K125x0x45w0 L ())) (fun _ => some (K125x0x45w1 L ())) := by kernel_rfl
theorem ql125x0x45 (L : List Lf) (m : Nat) (x : List Lf) : Q125x0x45 N L (m + 1) x = J125x0x45 N L x (Q125x0x45 N L m) (fun p => some (.inl p)) (fun p => some (.inr p)) := by kernel_rfl
noncomputable def h125x0s2 : Sg Try.prog 0 125 :=
  (h125x0s1 N).lp (A125x0x45 N) N progOk (T74x0_ok N) (fun m kn L x => (step125x0x45 N m kn L x).trans (sb125x0x45 N L x _ _ _)) (fun L m x => (ql125x0x45 N L m x).trans (sb125x0x45 N L x (Q125x0x45 N L m) (fun p => some (.inl p)) (fun p => some (.inr p)))) fun L x hx => (altS alt1) x hx
noncomputable def S125x0x18 (w1 : LD) (w2 : Int) (w7 : LD) (w3 : Int) (kr : Int → Option R) (k0 : Int → Option R) (k1 : Unit → Option R) : Option R :=
  bif (decide (w3 < w2)) then
    bif (inB w3 w1.length) then
      bnd (V125x0x25 N ((w1.getD w3.toNat (.i 0)).cell 0).toI ((w1.getD w3.toNat (.i 0)).cell 1).toI) fun y0 =>
      bif y0 then
        k0 9
      else
        bnd (V57x0 N ((w1.getD w3.toNat (.i 0)).cell 2).toI 0 3) fun y1 =>
        bif y1 then
          k0 7
        else
          bnd (bif (decide (((w1.getD w3.toNat (.i 0)).cell 2).toI ≤ 1)) then (((w1.getD w3.toNat (.i 0)).cell 1).toI != 1) else false) fun y2 =>
          bnd (bif y2 then (((w1.getD w3.toNat (.i 0)).cell 1).toI != 2) else false) fun y3 =>
          bnd (bif y3 then (((w1.getD w3.toNat (.i 0)).cell 1).toI != 4) else false) fun y4 =>
          bif y4 then
            k0 2
          else
            bif ((decide (0 ≤ w3)) && (decide (w3 ≤ (w7.length : Int)))) then
              bnd (G125x0x45 N ((w7.take w3.toNat).drop 0) (((w7.take w3.toNat).drop 0).length : Int) ((w1.getD w3.toNat (.i 0)).cell 0).toI 0) fun y5 =>
              bif (inlB y5) then
                k0 5
              else
                bif (inrQ y5).isSome then
                  kr (IntKind.wrap .i64 (w3 + 1))
                else
                  none
            else
              none
    else
      none
  else
    k1 ()
noncomputable def L125x0x18 (N : Nat) {R : Type} (w1 : LD) (w2 : Int) (w7 : LD) : Nat → Int → (Int → Option R) → (Unit → Option R) → Option R
  | 0, _, _, _ => none
  | m + 1, w3, k0, k1 => S125x0x18 N w1 w2 w7 w3 (fun w3 => L125x0x18 N w1 w2 w7 m w3 k0 k1) k0 k1
noncomputable def G125x0x18 (w1 : LD) (w2 : Int) (w7 : LD) (w3 : Int) : Option (Sum (Int) (Unit)) := L125x0x18 N (R := (Sum (Int) (Unit))) w1 w2 w7 N w3 (fun p => some (.inl p)) (fun p => some (.inr p))
noncomputable def J125x0x18 (L x : List Lf) (kr : List Lf → Option R) (k0 : Int → Option R) (k1 : Unit → Option R) : Option R := S125x0x18 N (ll L 1) (li L 2) (ll L 7) (li x 0) (fun w3 => kr [.i w3]) k0 k1
theorem sb125x0x18 (L x : List Lf) (kr : List Lf → Option R) (k0 : Int → Option R) (k1 : Unit → Option R) : J125x0x18 N L x kr k0 k1 = (J125x0x18 N L x (fun y => some (.inl y)) (fun p => some (.inr (.inl p))) (fun p => some (.inr (.inr p)))).bind (sumE kr (sumE k0 k1)) := by
  unfold J125x0x18 S125x0x18
  repeat' (first | with_reducible apply cond_b | (with_reducible apply bnd_b; intro _) | rfl)
noncomputable def Q125x0x18 (L : List Lf) (m : Nat) (x : List Lf) : Option (Sum (Int) (Unit)) := L125x0x18 N (R := (Sum (Int) (Unit))) (ll L 1) (li L 2) (ll L 7) m (li x 0) (fun p => some (.inl p)) (fun p => some (.inr p))
noncomputable def sh125x0x18 : Sh := { tmps := [(1, .c (.p 1 0)), (15, .c (.sl 146)), (16, .c (.i .i64)), (17, .c (.i .i64))], mem := [(1, .box ([.b, .i .i64, .sl 146]))] }
noncomputable def A125x0x18 (L : List Lf) : List (Bool × (Ex × St)) := bnd (Q125x0x18 N L N (pk sh125x0x18 [3] L)) fun q => [((inlB q), (.ret, ⟨[(2, .c (.i .i64 (inlV q)))], []⟩)), ((inrQ q).isSome, ((.exit 0), ⟨[], []⟩))]
theorem step125x0x18 (m : Nat) (kn : St → Option (Ex × St)) (L x : List Lf) : lpB Try.prog (T74x0 N) (h125x0s2 N).h 0 125 18 sh125x0x18 [3] [2] [] (m + 100) kn L x = J125x0x18 N L x (fun y => kn (ofSh sh125x0x18 (mx sh125x0x18 [3] L y))) (fun p => some (.ret, ⟨[(2, .c (.i .i64 p))], []⟩)) (fun _ => some ((.exit 0), ⟨[], []⟩)) := by kernel_rfl
theorem ql125x0x18 (L : List Lf) (m : Nat) (x : List Lf) : Q125x0x18 N L (m + 1) x = J125x0x18 N L x (Q125x0x18 N L m) (fun p => some (.inl p)) (fun p => some (.inr p)) := by kernel_rfl
noncomputable def h125x0s3 : Sg Try.prog 0 125 :=
  (h125x0s2 N).lp (A125x0x18 N) N progOk (T74x0_ok N) (fun m kn L x => (step125x0x18 N m kn L x).trans (sb125x0x18 N L x _ _ _)) (fun L m x => (ql125x0x18 N L m x).trans (sb125x0x18 N L x (Q125x0x18 N L m) (fun p => some (.inl p)) (fun p => some (.inr p)))) fun L x hx => (altS alt1) x hx
noncomputable def F125x0 (v1 : Int) (v3 : LD) (k0 : Int → Option R) : Option R :=
  bnd (V57x0 N v1 0 65535) fun y0 =>
  bif y0 then
    k0 9
  else
    bif (decide ((v3.length : Int) > 30)) then
      k0 3
    else
      bnd (G125x0x18 N v3 (v3.length : Int) v3 0) fun y1 =>
      bif (inlB y1) then
        k0 (inlV y1)
      else
        bif (inrQ y1).isSome then
          k0 0
        else
          none
noncomputable def G125x0 (v1 : Int) (v3 : LD) : Option (Int) := F125x0 N v1 v3 (fun p => some p)
theorem bind125x0 (v1 : Int) (v3 : LD) (k0 : Int → Option R) : F125x0 N v1 v3 k0 = (G125x0 N v1 v3).bind k0 := by
  unfold G125x0 F125x0
  repeat' (first | with_reducible apply cond_b | (with_reducible apply bnd_b; intro _) | rfl)
noncomputable def sh125x0 : Sh := { tmps := [(0, .g ([.b, .i .i64, .sl 146]))], mem := [] }
noncomputable def A125x0 (L : List Lf) : List (Bool × Res) := bnd (F125x0 N (li L 1) (ll L 3) (fun p => some p)) fun q => [(q.isSome, ([.c (.i .i64 (q.getD default))], []))]
theorem raw125x0 (L : List Lf) : bd Try.prog (T74x0 N) (h125x0s3 N).h 125 sh125x0 L = F125x0 N (li L 1) (ll L 3) (fun p => some ([.c (.i .i64 p)], [])) := by kernel_rfl
theorem ok125x0 : FnOk Try.prog 125 sh125x0 (A125x0 N) :=
  (h125x0s3 N).fn progOk (T74x0_ok N) fun L x hx => ((raw125x0 N L).trans ((bind125x0 N ..).trans (alt1 x hx)))
noncomputable def T125x0 : Oracle := ext 125 (spSh sh125x0 (A125x0 N)) (T74x0 N)
theorem T125x0_ok : OracleOk Try.prog (T125x0 N) := FnOk.to (ok125x0 N) (T74x0_ok N)
noncomputable def rg73x0 : List (Nat × List Nat) := [(0, [1, 0]), (1, [3, 0]), (2, []), (3, [3, 0]), (4, [3, 0, 5, 6]), (5, [3, 0]), (6, [3, 5, 6, 0]), (7, []), (8, [3, 0]), (9, [3]), (10, []), (11, [3]), (12, [3, 0]), (13, []), (14, [0, 3]), (15, []), (16, [0, 3]), (17, [7, 3, 0]), (18, [3, 9, 0, 7]), (19, []), (20, [3, 7]), (21, []), (22, [])]
noncomputable def hd73x0 : Hints := [(17, [3, 0, 5, 6, 15], [4, 0], []), (19, [3, 5, 6, 0], [4, 0], [])]
noncomputable def h73x0s0 (N : Nat) : Sg Try.prog 1 73 := .start hd73x0 rg73x0
noncomputable def F73x0x17 (N : Nat) (w0 w1 : Int) (w2 : Bool) (k0 : Int × Int → R) : R :=
  bif w2 then
    k0 (3, 31)
  else
    k0 (w0, w1)
noncomputable def V73x0x17 (w0 w1 : Int) (w2 : Bool) : Int × Int := F73x0x17 N w0 w1 w2 (fun p => p)
theorem tot73x0x17 (w0 w1 : Int) (w2 : Bool) (k0 : Int × Int → R) : F73x0x17 N w0 w1 w2 k0 = k0 (V73x0x17 N w0 w1 w2) := by
  unfold V73x0x17 F73x0x17
  repeat' (first | rfl | apply cond_k | (apply bnd_k; intro _))
noncomputable def sh73x0x17 : Sh := { tmps := [(0, .c (.p 0 0)), (3, .c (.p 4 0)), (5, .c (.i .i64)), (6, .c (.i .i64)), (15, .c (.b))], mem := [(0, .dat 106), (4, .box ([.i .i64, .i .i64, .i .i64, .sl 103, .sl 5]))] }
noncomputable def K73x0x17w0 (L : List Lf) (p : Int × Int) : Ex × St := (.normal, mg (ofSh sh73x0x17 L) [0, 3, 5, 6] [(5, .c (.i .i64 p.1)), (6, .c (.i .i64 p.2))] [0, 4] [])
noncomputable def A73x0x17 (L : List Lf) : List (Bool × (Ex × St)) := bnd (F73x0x17 N (li L 0) (li L 1) (lb L 2) (fun p => p)) fun q => [(true, K73x0x17w0 L q)]
theorem raw73x0x17 (L : List Lf) : pc Try.prog (T125x0 N) (h73x0s0 N).h 1 100 73 17 sh73x0x17 L [3, 5, 6, 0] [4, 0] = F73x0x17 N (li L 0) (li L 1) (lb L 2) (fun p => some (K73x0x17w0 L p)) := by kernel_rfl
noncomputable def h73x0s1 : Sg Try.prog 1 73 :=
  (h73x0s0 N).cut (A73x0x17 N) progOk (T125x0_ok N) fun L x hx => (raw73x0x17 N L).trans ((tot73x0x17 N ..).trans (alt0 _ _ hx))
noncomputable def F73x0x19 (w0 w1 w4 w5 : Int) (k0 : Bool → R) : R :=
  bnd (V57x0 N w4 0 w0) fun y0 =>
  bif y0 then
    k0 true
  else
    bnd (V57x0 N w5 0 w1) fun y1 =>
    k0 y1
noncomputable def V73x0x19 (w0 w1 w4 w5 : Int) : Bool := F73x0x19 N w0 w1 w4 w5 (fun p => p)
theorem tot73x0x19 (w0 w1 w4 w5 : Int) (k0 : Bool → R) : F73x0x19 N w0 w1 w4 w5 k0 = k0 (V73x0x19 N w0 w1 w4 w5) := by
  unfold V73x0x19 F73x0x19
  repeat' (first | rfl | apply cond_k | (apply bnd_k; intro _))
noncomputable def J73x0x19 (L : List Lf) (k0 : Bool → R) : R := F73x0x19 N (li L 0) (li L 1) (li L 4) (li L 5) k0
noncomputable def sh73x0x19 : Sh := { tmps := [(0, .c (.p 0 0)), (3, .c (.p 4 0)), (5, .c (.i .i64)), (6, .c (.i .i64))], mem := [(0, .dat 106), (4, .box ([.i .i64, .i .i64, .i .i64, .sl 103, .sl 5]))] }
noncomputable def K73x0x19w0 (L : List Lf) (p : Bool) : Ex × St := (.normal, mg (ofSh sh73x0x19 L) [0, 3, 25] [(25, .c (.b p))] [0, 4] [])
noncomputable def A73x0x19 (L : List Lf) : List (Bool × (Ex × St)) := bnd (J73x0x19 N L (fun p => p)) fun q => [(true, K73x0x19w0 L q)]
theorem raw73x0x19 (L : List Lf) : pc Try.prog (T125x0 N) (h73x0s1 N).h 1 100 73 19 sh73x0x19 L [3, 0, 25] [4, 0] = J73x0x19 N L (fun p => some (K73x0x19w0 L p)) := by kernel_rfl
noncomputable def h73x0s2 : Sg Try.prog 1 73 :=
  (h73x0s1 N).cut (A73x0x19 N) progOk (T125x0_ok N) fun L x hx => (raw73x0x19 N L).trans ((tot73x0x19 N ..).trans (alt0 _ _ hx))
noncomputable def F73x0 (v0 v1 v2 : Int) (v4 v6 : LD) (v7 : D) (k0 : Int → Option R) : Option R :=
  bnd (V57x0 N v0 1 3) fun y0 =>
  bif y0 then
    k0 7
  else
    bnd (V73x0x17 N 15 0 (v0 == 3)) fun y1 =>
    bnd (V73x0x19 N y1.1 y1.2 v1 v2) fun y2 =>
    bif y2 then
      k0 9
    else
      bif (v0 == 1) then
        bnd (bif ((v4.length : Int) != 1) then true else (decide ((v6.length : Int) > 0))) fun y3 =>
        bif y3 then
          k0 2
        else
          bif (inB 0 v4.length) then
            bnd (G125x0 N ((v4.getD 0 (.i 0)).cell 1).toI ((v4.getD 0 (.i 0)).cell 2).items) fun y4 =>
            bif y4.isSome then
              k0 (y4.getD default)
            else
              none
          else
            none
      else
        bif (decide ((v4.length : Int) > 0)) then
          k0 2
        else
          bif (inB v1 16) then
            bif (!(v7.cell (0 + (v1.toNat * 1))).toB) then
              k0 11
            else
              bif (inB v1 16) then
                bnd (G79x0 N (v7.cell (18 + (v1.toNat * 3))).items) fun y5 =>
                bif y5.isSome then
                  bnd (bif (v0 == 3) then (bif (!(y5.getD default).2) then true else (decide ((v7.cell 64).toI < 0))) else false) fun y6 =>
                  bif y6 then
                    k0 11
                  else
                    bnd (G100x0 N (v7.cell (18 + (v1.toNat * 3))).items (v0 == 3)) fun y7 =>
                    bif y7.isSome then
                      bnd (G126x0 N (y7.getD default).2) fun y8 =>
                      bif y8.isSome then
                        bif ((v6.length : Int) != (y8.getD default)) then
                          k0 2
                        else
                          k0 0
                      else
                        none
                    else
                      none
                else
                  none
              else
                none
          else
            none
noncomputable def G73x0 (v0 v1 v2 : Int) (v4 v6 : LD) (v7 : D) : Option (Int) := F73x0 N v0 v1 v2 v4 v6 v7 (fun p => some p)
theorem bind73x0 (v0 v1 v2 : Int) (v4 v6 : LD) (v7 : D) (k0 : Int → Option R) : F73x0 N v0 v1 v2 v4 v6 v7 k0 = (G73x0 N v0 v1 v2 v4 v6 v7).bind k0 := by
  unfold G73x0 F73x0
  repeat' (first | with_reducible apply cond_b | (with_reducible apply bnd_b; intro _) | rfl)
noncomputable def J73x0 (L : List Lf) (k0 : Int → Option R) : Option R := F73x0 N (li L 0) (li L 1) (li L 2) (ll L 4) (ll L 6) (ld L 7) k0
noncomputable def sh73x0 : Sh := { tmps := [(0, .c (.p 0 0)), (1, .g ([.i .i64, .i .i64, .i .i64, .sl 103, .sl 5]))], mem := [(0, .dat 106)] }
noncomputable def A73x0 (L : List Lf) : List (Bool × Res) := bnd (J73x0 N L (fun p => some p)) fun q => [(q.isSome, ([.c (.i .i64 (q.getD default))], [(0, .dat 106 (ld L 7))]))]
theorem raw73x0 (L : List Lf) : bd Try.prog (T125x0 N) (h73x0s2 N).h 73 sh73x0 L = J73x0 N L (fun p => some ([.c (.i .i64 p)], [(0, .dat 106 (ld L 7))])) := by kernel_rfl
theorem ok73x0 : FnOk Try.prog 73 sh73x0 (A73x0 N) :=
  (h73x0s2 N).fn progOk (T125x0_ok N) fun L x hx => ((raw73x0 N L).trans ((bind73x0 N ..).trans (alt1 x hx)))
noncomputable def T73x0 : Oracle := ext 73 (spSh sh73x0 (A73x0 N)) (T125x0 N)
theorem T73x0_ok : OracleOk Try.prog (T73x0 N) := FnOk.to (ok73x0 N) (T125x0_ok N)
noncomputable def rg23x0 : List (Nat × List Nat) := [(0, [0]), (1, [1]), (2, []), (3, [1]), (4, [1, 3]), (5, [16, 15, 14, 3]), (6, [14, 16, 3, 15]), (7, [3, 5, 16, 15, 14]), (8, [6, 3, 5, 16, 15, 14]), (9, [6]), (10, [3, 5, 16, 15, 14]), (11, [16, 15, 14, 3]), (12, [])]
noncomputable def hd23x0 : Hints := [(15, [16, 15, 14, 3], [12], [])]
noncomputable def h23x0s0 (N : Nat) : Sg Try.prog 0 23 := .start hd23x0 rg23x0
noncomputable def S23x0x15 (w1 : LD) (w2 : Int) (w3 : Int) (w4 : D) (kr : Int → D → Option R) (k0 : Int → Option R) (k1 : Unit → Option R) : Option R :=
  bif (decide (w3 < w2)) then
    bif (inB w3 w1.length) then
      bnd (G73x0 N ((w1.getD w3.toNat (.i 0)).cell 0).toI ((w1.getD w3.toNat (.i 0)).cell 1).toI ((w1.getD w3.toNat (.i 0)).cell 2).toI ((w1.getD w3.toNat (.i 0)).cell 3).items ((w1.getD w3.toNat (.i 0)).cell 4).items w4) fun y0 =>
      bif y0.isSome then
        bif ((y0.getD default) != 0) then
          k0 (y0.getD default)
        else
          bnd (G74x0 N ((w1.getD w3.toNat (.i 0)).cell 0).toI ((w1.getD w3.toNat (.i 0)).cell 1).toI ((w1.getD w3.toNat (.i 0)).cell 2).toI ((w1.getD w3.toNat (.i 0)).cell 3).items ((w1.getD w3.toNat (.i 0)).cell 4).items w4) fun y1 =>
          bif y1.isSome then
            kr (IntKind.wrap .i64 (w3 + 1)) (y1.getD default).2
          else
            none
      else
        none
    else
      none
  else
    k1 ()
noncomputable def L23x0x15 (N : Nat) {R : Type} (w1 : LD) (w2 : Int) : Nat → Int → D → (Int → Option R) → (Unit → Option R) → Option R
  | 0, _, _, _, _ => none
  | m + 1, w3, w4, k0, k1 => S23x0x15 N w1 w2 w3 w4 (fun w3 w4 => L23x0x15 N w1 w2 m w3 w4 k0 k1) k0 k1
noncomputable def G23x0x15 (w1 : LD) (w2 : Int) (w3 : Int) (w4 : D) : Option (Sum (Int) (Unit)) := L23x0x15 N (R := (Sum (Int) (Unit))) w1 w2 N w3 w4 (fun p => some (.inl p)) (fun p => some (.inr p))
noncomputable def J23x0x15 (L x : List Lf) (kr : List Lf → Option R) (k0 : Int → Option R) (k1 : Unit → Option R) : Option R := S23x0x15 N (ll L 1) (li L 2) (li x 0) (ld x 1) (fun w3 w4 => kr [.i w3, .d w4]) k0 k1
theorem sb23x0x15 (L x : List Lf) (kr : List Lf → Option R) (k0 : Int → Option R) (k1 : Unit → Option R) : J23x0x15 N L x kr k0 k1 = (J23x0x15 N L x (fun y => some (.inl y)) (fun p => some (.inr (.inl p))) (fun p => some (.inr (.inr p)))).bind (sumE kr (sumE k0 k1)) := by
  unfold J23x0x15 S23x0x15
  repeat' (first | with_reducible apply cond_b | (with_reducible apply bnd_b; intro _) | rfl)
noncomputable def Q23x0x15 (L : List Lf) (m : Nat) (x : List Lf) : Option (Sum (Int) (Unit)) := L23x0x15 N (R := (Sum (Int) (Unit))) (ll L 1) (li L 2) m (li x 0) (ld x 1) (fun p => some (.inl p)) (fun p => some (.inr p))
noncomputable def sh23x0x15 : Sh := { tmps := [(3, .c (.p 12 0)), (14, .c (.sl 53)), (15, .c (.i .i64)), (16, .c (.i .i64))], mem := [(12, .dat 106)] }
noncomputable def A23x0x15 (L : List Lf) : List (Bool × (Ex × St)) := bnd (Q23x0x15 N L N (pk sh23x0x15 [3, 4] L)) fun q => [((inlB q), (.ret, ⟨[(2, .c (.i .i64 (inlV q)))], []⟩)), ((inrQ q).isSome, ((.exit 0), ⟨[], []⟩))]
theorem step23x0x15 (m : Nat) (kn : St → Option (Ex × St)) (L x : List Lf) : lpB Try.prog (T73x0 N) (h23x0s0 N).h 0 23 15 sh23x0x15 [3, 4] [2] [] (m + 100) kn L x = J23x0x15 N L x (fun y => kn (ofSh sh23x0x15 (mx sh23x0x15 [3, 4] L y))) (fun p => some (.ret, ⟨[(2, .c (.i .i64 p))], []⟩)) (fun _ => some ((.exit 0), ⟨[], []⟩)) := by kernel_rfl
theorem ql23x0x15 (L : List Lf) (m : Nat) (x : List Lf) : Q23x0x15 N L (m + 1) x = J23x0x15 N L x (Q23x0x15 N L m) (fun p => some (.inl p)) (fun p => some (.inr p)) := by kernel_rfl
noncomputable def h23x0s1 : Sg Try.prog 0 23 :=
  (h23x0s0 N).lp (A23x0x15 N) N progOk (T73x0_ok N) (fun m kn L x => (step23x0x15 N m kn L x).trans (sb23x0x15 N L x _ _ _)) (fun L m x => (ql23x0x15 N L m x).trans (sb23x0x15 N L x (Q23x0x15 N L m) (fun p => some (.inl p)) (fun p => some (.inr p)))) fun L x hx => (altS alt1) x hx
noncomputable def F23x0 (v1 : LD) (k0 : Int → Option R) : Option R :=
  bif (decide ((v1.length : Int) > 50000)) then
    k0 3
  else
    bnd ((.a [(.b false), (.b false), (.b false), (.b false), (.b false), (.b false), (.b false), (.b false), (.b false), (.b false), (.b false), (.b false), (.b false), (.b false), (.b false), (.b false), (.b false), (.i 0), (.l true []), (.b false), (.i 0), (.l true []), (.b false), (.i 0), (.l true []), (.b false), (.i 0), (.l true []), (.b false), (.i 0), (.l true []), (.b false), (.i 0), (.l true []), (.b false), (.i 0), (.l true []), (.b false), (.i 0), (.l true []), (.b false), (.i 0), (.l true []), (.b false), (.i 0), (.l true []), (.b false), (.i 0), (.l true []), (.b false), (.i 0), (.l true []), (.b false), (.i 0), (.l true []), (.b false), (.i 0), (.l true []), (.b false), (.i 0), (.l true []), (.b false), (.i 0), (.l true []), (.i (-1))]) : D) fun y0 =>
    bnd (G23x0x15 N v1 (v1.length : Int) 0 y0) fun y1 =>
    bif (inlB y1) then
      k0 (inlV y1)
    else
      bif (inrQ y1).isSome then
        k0 0
      else
        none
noncomputable def G23x0 (v1 : LD) : Option (Int) := F23x0 N v1 (fun p => some p)
theorem bind23x0 (v1 : LD) (k0 : Int → Option R) : F23x0 N v1 k0 = (G23x0 N v1).bind k0 := by
  unfold G23x0 F23x0
  repeat' (first | with_reducible apply cond_b | (with_reducible apply bnd_b; intro _) | rfl)
noncomputable def sh23x0 : Sh := { tmps := [(0, .g ([.sl 53]))], mem := [] }
noncomputable def A23x0 (L : List Lf) : List (Bool × Res) := bnd (F23x0 N (ll L 1) (fun p => some p)) fun q => [(q.isSome, ([.c (.i .i64 (q.getD default))], []))]
theorem raw23x0 (L : List Lf) : bd Try.prog (T73x0 N) (h23x0s1 N).h 23 sh23x0 L = F23x0 N (ll L 1) (fun p => some ([.c (.i .i64 p)], [])) := by kernel_rfl
theorem ok23x0 : FnOk Try.prog 23 sh23x0 (A23x0 N) :=
  (h23x0s1 N).fn progOk (T73x0_ok N) fun L x hx => ((raw23x0 N L).trans ((bind23x0 N ..).trans (alt1 x hx)))
noncomputable def T23x0 : Oracle := ext 23 (spSh sh23x0 (A23x0 N)) (T73x0 N)
theorem T23x0_ok : OracleOk Try.prog (T23x0 N) := FnOk.to (ok23x0 N) (T73x0_ok N)
noncomputable def rg36x0 : List (Nat × List Nat) := [(0, [0]), (1, [0, 2]), (2, [2]), (3, [0, 2]), (4, [2]), (5, [0, 2]), (6, [0, 5, 2]), (7, [2]), (8, [5, 0, 2]), (9, [5, 0, 2, 6]), (10, [5, 7, 0, 2, 6]), (11, [8, 5, 7, 0, 2, 6]), (12, [7, 0, 8, 5, 2, 6]), (13, [11, 8, 2, 9, 7, 6, 10, 5, 0]), (14, [8, 2]), (15, [9, 7, 6, 8, 10, 5, 0, 2]), (16, [7, 9, 6, 8, 10, 5, 0, 2]), (17, [6, 9, 8, 10, 5, 7, 0, 2]), (18, [8, 10, 5, 7, 0, 2, 6]), (19, [6, 2]), (20, [12, 2, 6]), (21, [12, 2]), (22, [6, 2])]
noncomputable def hd36x0 : Hints := [(10, [0, 2], [2], []), (33, [8, 5, 7, 0, 2, 6], [51, 6, 2, 50006000], [50006000]), (50, [7, 9, 6, 8, 10, 5, 0, 2, 71], [9, 51, 50006000, 6, 2], [])]
noncomputable def h36x0s0 (N : Nat) : Sg Try.prog 0 36 := .start hd36x0 rg36x0
noncomputable def F36x0x10 (w1 : LD) (k0 : Bool → Option R) : Option R :=
  bif (decide ((w1.length : Int) < 12)) then
    k0 true
  else
    bif (decide (4 ≤ (w1.length : Int))) then
      bnd (!((strD ((w1.take 4).drop 0)) == ([72, 65, 82, 49] : List UInt8))) fun y0 =>
      bif y0 then
        k0 true
      else
        bif (decide (8 ≤ (w1.length : Int))) then
          bnd (G83x0 N ((w1.take 8).drop 4) true) fun y1 =>
          bif y1.isSome then
            bnd ((y1.getD default) != (IntKind.wrap .i64 ((w1.length : Int) - 12))) fun y2 =>
            k0 y2
          else
            none
        else
          none
    else
      none
noncomputable def G36x0x10 (w1 : LD) : Option (Bool) := F36x0x10 N w1 (fun p => some p)
theorem bind36x0x10 (w1 : LD) (k0 : Bool → Option R) : F36x0x10 N w1 k0 = (G36x0x10 N w1).bind k0 := by
  unfold G36x0x10 F36x0x10
  repeat' (first | with_reducible apply cond_b | (with_reducible apply bnd_b; intro _) | rfl)
noncomputable def sh36x0x10 : Sh := { tmps := [(0, .c (.sl 5)), (2, .c (.p 2 0))], mem := [(2, .box ([.sl 53]))] }
noncomputable def K36x0x10w0 (L : List Lf) (p : Bool) : Ex × St := (.normal, mg (ofSh sh36x0x10 L) [0, 2, 34] [(34, .c (.b p))] [2] [])
noncomputable def A36x0x10 (L : List Lf) : List (Bool × (Ex × St)) := bnd (F36x0x10 N (ll L 1) (fun p => some p)) fun q => [(q.isSome, K36x0x10w0 L (q.getD default))]
theorem raw36x0x10 (L : List Lf) : pc Try.prog (T23x0 N) (h36x0s0 N).h 0 100 36 10 sh36x0x10 L [2, 0, 34] [2] = F36x0x10 N (ll L 1) (fun p => some (K36x0x10w0 L p)) := by kernel_rfl
noncomputable def h36x0s1 : Sg Try.prog 0 36 :=
  (h36x0s0 N).cut (A36x0x10 N) progOk (T23x0_ok N) fun L x hx => (raw36x0x10 N L).trans ((bind36x0x10 N ..).trans (alt1 x hx))
noncomputable def F36x0x50 (w5 : Bool) (w8 w9 w10 : Int) (w12 w14 : LD) (w15 : D) (k0 : D → Option R) : Option R :=
  bif w5 then
    bnd (G74x0 N w8 w9 w10 w12 w14 w15) fun y0 =>
    bif y0.isSome then
      k0 (y0.getD default).2
    else
      none
  else
    k0 w15
noncomputable def G36x0x50 (w5 : Bool) (w8 w9 w10 : Int) (w12 w14 : LD) (w15 : D) : Option (D) := F36x0x50 N w5 w8 w9 w10 w12 w14 w15 (fun p => some p)
theorem bind36x0x50 (w5 : Bool) (w8 w9 w10 : Int) (w12 w14 : LD) (w15 : D) (k0 : D → Option R) : F36x0x50 N w5 w8 w9 w10 w12 w14 w15 k0 = (G36x0x50 N w5 w8 w9 w10 w12 w14 w15).bind k0 := by
  unfold G36x0x50 F36x0x50
  repeat' (first | with_reducible apply cond_b | (with_reducible apply bnd_b; intro _) | rfl)
noncomputable def J36x0x50 (L : List Lf) (k0 : D → Option R) : Option R := F36x0x50 N (lb L 5) (li L 8) (li L 9) (li L 10) (ll L 12) (ll L 14) (ld L 15) k0
noncomputable def sh36x0x50 : Sh := { tmps := [(0, .c (.sl 5)), (2, .c (.p 2 0)), (5, .c (.i .i64)), (6, .c (.p 6 0)), (7, .c (.p 51 0)), (8, .c (.i .i64)), (9, .c (.p 9 0)), (10, .c (.i .i64)), (71, .c (.b))], mem := [(2, .box ([.sl 53])), (6, .box ([.o 50006000])), (9, .box ([.i .i64, .i .i64, .i .i64, .sl 103, .sl 5])), (51, .dat 106), (50006000, .row 53 true)] }
noncomputable def K36x0x50w0 (L : List Lf) (p : D) : Ex × St := (.normal, mg (ofSh sh36x0x50 L) [0, 2, 5, 6, 7, 8, 9, 10] [] [2, 6, 9, 51, 50006000] [(51, .dat 106 p)])
noncomputable def A36x0x50 (L : List Lf) : List (Bool × (Ex × St)) := bnd (J36x0x50 N L (fun p => some p)) fun q => [(q.isSome, K36x0x50w0 L (q.getD default))]
theorem raw36x0x50 (L : List Lf) : pc Try.prog (T23x0 N) (h36x0s1 N).h 0 100 36 50 sh36x0x50 L [6, 9, 8, 10, 5, 7, 0, 2] [9, 51, 50006000, 6, 2] = J36x0x50 N L (fun p => some (K36x0x50w0 L p)) := by kernel_rfl
noncomputable def h36x0s2 : Sg Try.prog 0 36 :=
  (h36x0s1 N).cut (A36x0x50 N) progOk (T23x0_ok N) fun L x hx => (raw36x0x50 N L).trans ((bind36x0x50 N ..).trans (alt1 x hx))
noncomputable def S36x0x33 (w1 : LD) (w2 : Int) (w3 : Int) (w6 : D) (w7 : Bool) (w8 : LD) (kr : Int → D → Bool → LD → Option R) (k0 : Int × Bool × LD → Option R) (k1 : Bool × LD → Option R) : Option R :=
  bif (decide (w3 < w2)) then
    bif (((decide (0 ≤ w3)) && (decide (w3 ≤ w2))) && (decide (w2 ≤ (w1.length : Int)))) then
      bnd (G84x0 N ((w1.take w2.toNat).drop w3.toNat) w6) fun y0 =>
      bif y0.isSome then
        bif (!(y0.getD default).2.2.2.2.2.2.2.2) then
          k0 (w3, w7, w8)
        else
          bnd (G36x0x50 N ((y0.getD default).1 == 1) (y0.getD default).1 (y0.getD default).2.1 (y0.getD default).2.2.1 (y0.getD default).2.2.2.2.1 (y0.getD default).2.2.2.2.2.2.1 w6) fun y1 =>
          bif y1.isSome then
            bif (decide ((w8.length + 1) * 72 ≤ room) && decide ((w8.length + 1) ≤ strMax)) then
              bnd ((w8 ++ [(.a [(.i (y0.getD default).1), (.i (y0.getD default).2.1), (.i (y0.getD default).2.2.1), (.l (y0.getD default).2.2.2.1 (y0.getD default).2.2.2.2.1), (.l (y0.getD default).2.2.2.2.2.1 (y0.getD default).2.2.2.2.2.2.1)])]) : List D) fun y2 =>
              bnd (IntKind.wrap .i64 (w3 + (y0.getD default).2.2.2.2.2.2.2.1)) fun y3 =>
              kr y3 (y1.getD default) false y2
            else
              none
          else
            none
      else
        none
    else
      none
  else
    k1 (w7, w8)
noncomputable def L36x0x33 (N : Nat) {R : Type} (w1 : LD) (w2 : Int) : Nat → Int → D → Bool → LD → (Int × Bool × LD → Option R) → (Bool × LD → Option R) → Option R
  | 0, _, _, _, _, _, _ => none
  | m + 1, w3, w6, w7, w8, k0, k1 => S36x0x33 N w1 w2 w3 w6 w7 w8 (fun w3 w6 w7 w8 => L36x0x33 N w1 w2 m w3 w6 w7 w8 k0 k1) k0 k1
noncomputable def G36x0x33 (w1 : LD) (w2 : Int) (w3 : Int) (w6 : D) (w7 : Bool) (w8 : LD) : Option (Sum (Int × Bool × LD) (Bool × LD)) := L36x0x33 N (R := (Sum (Int × Bool × LD) (Bool × LD))) w1 w2 N w3 w6 w7 w8 (fun p => some (.inl p)) (fun p => some (.inr p))
noncomputable def J36x0x33 (L x : List Lf) (kr : List Lf → Option R) (k0 : Int × Bool × LD → Option R) (k1 : Bool × LD → Option R) : Option R := S36x0x33 N (ll L 1) (li L 2) (li x 0) (ld x 1) (lb x 2) (ll x 3) (fun w3 w6 w7 w8 => kr [.i w3, .d w6, .b w7, .l w8]) k0 k1
theorem sb36x0x33 (L x : List Lf) (kr : List Lf → Option R) (k0 : Int × Bool × LD → Option R) (k1 : Bool × LD → Option R) : J36x0x33 N L x kr k0 k1 = (J36x0x33 N L x (fun y => some (.inl y)) (fun p => some (.inr (.inl p))) (fun p => some (.inr (.inr p)))).bind (sumE kr (sumE k0 k1)) := by
  unfold J36x0x33 S36x0x33
  repeat' (first | with_reducible apply cond_b | (with_reducible apply bnd_b; intro _) | rfl)
noncomputable def Q36x0x33 (L : List Lf) (m : Nat) (x : List Lf) : Option (Sum (Int × Bool × LD) (Bool × LD)) := L36x0x33 N (R := (Sum (Int × Bool × LD) (Bool × LD))) (ll L 1) (li L 2) m (li x 0) (ld x 1) (lb x 2) (ll x 3) (fun p => some (.inl p)) (fun p => some (.inr p))
noncomputable def sh36x0x33 : Sh := { tmps := [(0, .c (.sl 5)), (2, .c (.p 2 0)), (5, .c (.i .i64)), (6, .c (.p 6 0)), (7, .c (.p 51 0)), (8, .c (.i .i64))], mem := [(2, .box ([.sl 53])), (6, .box ([.o 50006000])), (51, .dat 106), (50006000, .row 53 true)] }
noncomputable def K36x0x33w0 (L : List Lf) (p : Int × Bool × LD) : Ex × St := (.ret, ⟨[(2, .c (.p 2 0)), (3, .c (.i .i64 p.1)), (4, .c (.i .i64 6))], [(2, .box [.sl 53 true []]), (6, .box [.o 50006000]), (50006000, .row 53 true p.2.1 p.2.2)]⟩)
noncomputable def K36x0x33w1 (L : List Lf) (p : Bool × LD) : Ex × St := ((.exit 0), mg (ofSh sh36x0x33 L) [2, 6] [] [2, 6, 50006000] [(50006000, .row 53 true p.1 p.2)])
noncomputable def A36x0x33 (L : List Lf) : List (Bool × (Ex × St)) := bnd (Q36x0x33 N L N (pk sh36x0x33 [3, 6, 7, 8] L)) fun q => [((inlB q), K36x0x33w0 L (inlV q)), ((inrQ q).isSome, K36x0x33w1 L ((inrQ q).getD default))]
theorem step36x0x33 (m : Nat) (kn : St → Option (Ex × St)) (L x : List Lf) : lpB Try.prog (T23x0 N) (h36x0s2 N).h 0 36 33 sh36x0x33 [3, 6, 7, 8] [2, 3, 4, 6] [2, 50006000, 6] (m + 100) kn L x = J36x0x33 N L x (fun y => kn (ofSh sh36x0x33 (mx sh36x0x33 [3, 6, 7, 8] L y))) (fun p => some (K36x0x33w0 L p)) (fun p => some (K36x0x33w1 L p)) := by kernel_rfl
theorem ql36x0x33 (L : List Lf) (m : Nat) (x : List Lf) : Q36x0x33 N L (m + 1) x = J36x0x33 N L x (Q36x0x33 N L m) (fun p => some (.inl p)) (fun p => some (.inr p)) := by kernel_rfl
noncomputable def h36x0s3 : Sg Try.prog 0 36 :=
  (h36x0s2 N).lp (A36x0x33 N) N progOk (T23x0_ok N) (fun m kn L x => (step36x0x33 N m kn L x).trans (sb36x0x33 N L x _ _ _)) (fun L m x => (ql36x0x33 N L m x).trans (sb36x0x33 N L x (Q36x0x33 N L m) (fun p => some (.inl p)) (fun p => some (.inr p)))) fun L x hx => (altS alt1) x hx
noncomputable def F36x0 (v1 : LD) (k0 : Ty3 → Option R) : Option R :=
  bif (decide ((v1.length : Int) > 4000000)) then
    k0 (true, [], 0, 3)
  else
    bnd (G36x0x10 N v1) fun y0 =>
    bif y0.isSome then
      bif (y0.getD default) then
        k0 (true, [], 0, 6)
      else
        bif (((decide (0 ≤ (IntKind.wrap .i64 ((v1.length : Int) - 4)))) && (decide ((IntKind.wrap .i64 ((v1.length : Int) - 4)) ≤ (v1.length : Int)))) && (decide ((v1.length : Int) ≤ (v1.length : Int)))) then
          bnd (((v1.take (v1.length : Int).toNat).drop (IntKind.wrap .i64 ((v1.length : Int) - 4)).toNat) : List D) fun y1 =>
          bnd (G83x0 N y1 true) fun y2 =>
          bif y2.isSome then
            bif ((decide (0 ≤ (IntKind.wrap .i64 ((v1.length : Int) - 4)))) && (decide ((IntKind.wrap .i64 ((v1.length : Int) - 4)) ≤ (v1.length : Int)))) then
              bnd (((v1.take (IntKind.wrap .i64 ((v1.length : Int) - 4)).toNat).drop 0) : List D) fun y3 =>
              bnd (G40x0 N y3) fun y4 =>
              bif y4.isSome then
                bif ((y2.getD default) != (y4.getD default)) then
                  k0 (true, [], 0, 1)
                else
                  bnd ((.a [(.b false), (.b false), (.b false), (.b false), (.b false), (.b false), (.b false), (.b false), (.b false), (.b false), (.b false), (.b false), (.b false), (.b false), (.b false), (.b false), (.b false), (.i 0), (.l true []), (.b false), (.i 0), (.l true []), (.b false), (.i 0), (.l true []), (.b false), (.i 0), (.l true []), (.b false), (.i 0), (.l true []), (.b false), (.i 0), (.l true []), (.b false), (.i 0), (.l true []), (.b false), (.i 0), (.l true []), (.b false), (.i 0), (.l true []), (.b false), (.i 0), (.l true []), (.b false), (.i 0), (.l true []), (.b false), (.i 0), (.l true []), (.b false), (.i 0), (.l true []), (.b false), (.i 0), (.l true []), (.b false), (.i 0), (.l true []), (.b false), (.i 0), (.l true []), (.i (-1))]) : D) fun y5 =>
                  bnd (G36x0x33 N v1 (IntKind.wrap .i64 ((v1.length : Int) - 4)) 8 y5 true []) fun y6 =>
                  bif (inlB y6) then
                    k0 (true, [], (inlV y6).1, 6)
                  else
                    bif (inrQ y6).isSome then
                      bnd (G23x0 N ((inrQ y6).getD default).2) fun y7 =>
                      bif y7.isSome then
                        bif ((y7.getD default) != 0) then
                          k0 (true, [], 0, (y7.getD default))
                        else
                          k0 (((inrQ y6).getD default).1, ((inrQ y6).getD default).2, 0, 0)
                      else
                        none
                    else
                      none
              else
                none
            else
              none
          else
            none
        else
          none
    else
      none
noncomputable def G36x0 (v1 : LD) : Option (Ty3) := F36x0 N v1 (fun p => some p)
theorem bind36x0 (v1 : LD) (k0 : Ty3 → Option R) : F36x0 N v1 k0 = (G36x0 N v1).bind k0 := by
  unfold G36x0 F36x0
  repeat' (first | with_reducible apply cond_b | (with_reducible apply bnd_b; intro _) | rfl)
noncomputable def sh36x0 : Sh := { tmps := [(0, .c (.sl 5))], mem := [] }
noncomputable def K36x0w0 (L : List Lf) (p : Ty3) : Res := ([.g [.sl 53 p.1 p.2.1], .c (.i .i64 p.2.2.1), .c (.i .i64 p.2.2.2)], [])
noncomputable def A36x0 (L : List Lf) : List (Bool × Res) := bnd (F36x0 N (ll L 1) (fun p => some p)) fun q => [(q.isSome, K36x0w0 L (q.getD default))]
theorem raw36x0 (L : List Lf) : bd Try.prog (T23x0 N) (h36x0s3 N).h 36 sh36x0 L = F36x0 N (ll L 1) (fun p => some (K36x0w0 L p)) := by kernel_rfl
theorem ok36x0 : FnOk Try.prog 36 sh36x0 (A36x0 N) :=
  (h36x0s3 N).fn progOk (T23x0_ok N) fun L x hx => ((raw36x0 N L).trans ((bind36x0 N ..).trans (alt1 x hx)))
noncomputable def T36x0 : Oracle := ext 36 (spSh sh36x0 (A36x0 N)) (T23x0 N)
theorem T36x0_ok : OracleOk Try.prog (T36x0 N) := FnOk.to (ok36x0 N) (T23x0_ok N)
noncomputable def rg37x0 : List (Nat × List Nat) := [(0, [0]), (1, [0, 2]), (2, [2]), (3, [0, 2]), (4, [0, 4, 2]), (5, [0, 5, 4, 2]), (6, [5, 0, 4, 6, 2]), (7, [5, 0, 4, 6, 7, 2]), (8, [6, 7, 4, 5, 2, 0]), (9, [10, 7, 8, 4, 5, 2, 0, 6]), (10, [7, 8, 4, 5, 0, 6, 2]), (11, [4, 8, 5, 0, 6, 7, 2]), (12, [5, 8, 0, 4, 6, 7, 2]), (13, [4, 5, 2])]
noncomputable def hd37x0 : Hints := [(21, [5, 0, 4, 6, 7, 2], [19000000002, 18000000004, 18000000001, 18000000003, 4, 2, 50004000], [50004000]), (28, [10, 7, 8, 4, 5, 2, 0, 6], [8, 19000000002, 18000000004, 18000000001, 18000000003, 50004000, 4, 2], [])]
noncomputable def h37x0s0 (N : Nat) : Sg Try.prog 0 37 := .start hd37x0 rg37x0
noncomputable def F37x0x28 (w3 : Bool) (w6 w7 w8 : Int) (w10 w12 : LD) (w19 : D) (k0 : Bool → Option R) : Option R :=
  bif (!w3) then
    k0 true
  else
    bnd (G71x0 N w6 w7 w8 w10 w12 w19) fun y0 =>
    bif y0.isSome then
      k0 ((y0.getD default) != 0)
    else
      none
noncomputable def G37x0x28 (w3 : Bool) (w6 w7 w8 : Int) (w10 w12 : LD) (w19 : D) : Option (Bool) := F37x0x28 N w3 w6 w7 w8 w10 w12 w19 (fun p => some p)
theorem bind37x0x28 (w3 : Bool) (w6 w7 w8 : Int) (w10 w12 : LD) (w19 : D) (k0 : Bool → Option R) : F37x0x28 N w3 w6 w7 w8 w10 w12 w19 k0 = (G37x0x28 N w3 w6 w7 w8 w10 w12 w19).bind k0 := by
  unfold G37x0x28 F37x0x28
  repeat' (first | with_reducible apply cond_b | (with_reducible apply bnd_b; intro _) | rfl)
noncomputable def J37x0x28 (L : List Lf) (k0 : Bool → Option R) : Option R := F37x0x28 N (lb L 3) (li L 6) (li L 7) (li L 8) (ll L 10) (ll L 12) (ld L 19) k0
noncomputable def sh37x0x28 : Sh := { tmps := [(0, .c (.sl 5)), (2, .c (.p 2 0)), (4, .c (.p 4 0)), (5, .c (.i .i64)), (6, .c (.f 133 [(18000000003, 0), (18000000001, 0), (18000000004, 0)])), (7, .c (.p 19000000002 0)), (8, .c (.p 8 0)), (10, .c (.b))], mem := [(2, .box ([.sl 53])), (4, .box ([.o 50004000])), (8, .box ([.i .i64, .i .i64, .i .i64, .sl 103, .sl 5])), (50004000, .row 53 true), (18000000001, .box ([.sl 5])), (18000000003, .box ([.i .i64])), (18000000004, .dat 114), (19000000002, .dat 116)] }
noncomputable def K37x0x28w0 (L : List Lf) (p : Bool) : Ex × St := (.normal, mg (ofSh sh37x0x28 L) [0, 2, 4, 5, 6, 7, 8, 42] [(42, .c (.b p))] [2, 4, 8, 50004000, 18000000001, 18000000003, 18000000004, 19000000002] [])
noncomputable def A37x0x28 (L : List Lf) : List (Bool × (Ex × St)) := bnd (J37x0x28 N L (fun p => some p)) fun q => [(q.isSome, K37x0x28w0 L (q.getD default))]
theorem raw37x0x28 (L : List Lf) : pc Try.prog (T36x0 N) (h37x0s0 N).h 0 100 37 28 sh37x0x28 L [4, 5, 2, 7, 8, 0, 6, 42] [8, 19000000002, 18000000004, 18000000001, 18000000003, 50004000, 4, 2] = J37x0x28 N L (fun p => some (K37x0x28w0 L p)) := by kernel_rfl
noncomputable def h37x0s1 : Sg Try.prog 0 37 :=
  (h37x0s0 N).cut (A37x0x28 N) progOk (T36x0_ok N) fun L x hx => (raw37x0x28 N L).trans ((bind37x0x28 N ..).trans (alt1 x hx))
noncomputable def S37x0x21 (w1 : LD) (w7 : Bool) (w8 : LD) (w2 : Int) (w5 : Bool) (w6 : LD) (w9 : Int) (w10 w11 : D) (kr : Int → Bool → LD → Int → D → D → Option R) (k0 : Int × Bool × LD → Option R) : Option R :=
  bnd (bif (decide (w2 < (w1.length : Int))) then (decide ((w6.length : Int) < 50000)) else false) fun y0 =>
  bif y0 then
    bnd (G133x0 N w9 w7 w8 w10) fun y1 =>
    bif y1.isSome then
      bnd (G37x0x28 N (y1.getD default).2.2.2.2.2.2.2.1 (y1.getD default).1 (y1.getD default).2.1 (y1.getD default).2.2.1 (y1.getD default).2.2.2.2.1 (y1.getD default).2.2.2.2.2.2.1 w11) fun y2 =>
      bif y2.isSome then
        bif (y2.getD default) then
          k0 (w2, w5, w6)
        else
          bnd (G72x0 N (y1.getD default).1 (y1.getD default).2.1 (y1.getD default).2.2.1 (y1.getD default).2.2.2.2.1 (y1.getD default).2.2.2.2.2.2.1 w11) fun y3 =>
          bif y3.isSome then
            bif (decide ((w6.length + 1) * 72 ≤ room) && decide ((w6.length + 1) ≤ strMax)) then
              bnd ((w6 ++ [(.a [(.i (y1.getD default).1), (.i (y1.getD default).2.1), (.i (y1.getD default).2.2.1), (.l (y1.getD default).2.2.2.1 (y1.getD default).2.2.2.2.1), (.l (y1.getD default).2.2.2.2.2.1 (y1.getD default).2.2.2.2.2.2.1)])]) : List D) fun y4 =>
              bnd (G65x0 N (y1.getD default).1 (y1.getD default).2.1 (y1.getD default).2.2.1 (y1.getD default).2.2.2.2.1 (y1.getD default).2.2.2.2.2.2.1) fun y5 =>
              bif y5.isSome then
                bnd (IntKind.wrap .i64 (w2 + ((y5.getD default).2.length : Int))) fun y6 =>
                kr y6 false y4 (y1.getD default).2.2.2.2.2.2.2.2.1 (y1.getD default).2.2.2.2.2.2.2.2.2 (y3.getD default).2
              else
                none
            else
              none
          else
            none
      else
        none
    else
      none
  else
    k0 (w2, w5, w6)
noncomputable def L37x0x21 (N : Nat) {R : Type} (w1 : LD) (w7 : Bool) (w8 : LD) : Nat → Int → Bool → LD → Int → D → D → (Int × Bool × LD → Option R) → Option R
  | 0, _, _, _, _, _, _, _ => none
  | m + 1, w2, w5, w6, w9, w10, w11, k0 => S37x0x21 N w1 w7 w8 w2 w5 w6 w9 w10 w11 (fun w2 w5 w6 w9 w10 w11 => L37x0x21 N w1 w7 w8 m w2 w5 w6 w9 w10 w11 k0) k0
noncomputable def G37x0x21 (w1 : LD) (w7 : Bool) (w8 : LD) (w2 : Int) (w5 : Bool) (w6 : LD) (w9 : Int) (w10 w11 : D) : Option (Int × Bool × LD) := L37x0x21 N (R := (Int × Bool × LD)) w1 w7 w8 N w2 w5 w6 w9 w10 w11 (fun p => some p)
noncomputable def J37x0x21 (L x : List Lf) (kr : List Lf → Option R) (k0 : Int × Bool × LD → Option R) : Option R := S37x0x21 N (ll L 1) (lb L 7) (ll L 8) (li x 0) (lb x 1) (ll x 2) (li x 3) (ld x 4) (ld x 5) (fun w2 w5 w6 w9 w10 w11 => kr [.i w2, .b w5, .l w6, .i w9, .d w10, .d w11]) k0
theorem sb37x0x21 (L x : List Lf) (kr : List Lf → Option R) (k0 : Int × Bool × LD → Option R) : J37x0x21 N L x kr k0 = (J37x0x21 N L x (fun y => some (.inl y)) (fun p => some (.inr p))).bind (sumE kr k0) := by
  unfold J37x0x21 S37x0x21
  repeat' (first | with_reducible apply cond_b | (with_reducible apply bnd_b; intro _) | rfl)
noncomputable def Q37x0x21 (L : List Lf) (m : Nat) (x : List Lf) : Option (Int × Bool × LD) := L37x0x21 N (R := (Int × Bool × LD)) (ll L 1) (lb L 7) (ll L 8) m (li x 0) (lb x 1) (ll x 2) (li x 3) (ld x 4) (ld x 5) (fun p => some p)
noncomputable def sh37x0x21 : Sh := { tmps := [(0, .c (.sl 5)), (2, .c (.p 2 0)), (4, .c (.p 4 0)), (5, .c (.i .i64)), (6, .c (.f 133 [(18000000003, 0), (18000000001, 0), (18000000004, 0)])), (7, .c (.p 19000000002 0))], mem := [(2, .box ([.sl 53])), (4, .box ([.o 50004000])), (50004000, .row 53 true), (18000000001, .box ([.sl 5])), (18000000003, .box ([.i .i64])), (18000000004, .dat 114), (19000000002, .dat 116)] }
noncomputable def K37x0x21w0 (L : List Lf) (p : Int × Bool × LD) : Ex × St := ((.exit 0), mg (ofSh sh37x0x21 L) [2, 4, 5] [(5, .c (.i .i64 p.1))] [2, 4, 50004000] [(50004000, .row 53 true p.2.1 p.2.2)])
noncomputable def A37x0x21 (L : List Lf) : List (Bool × (Ex × St)) := bnd (Q37x0x21 N L N (pk sh37x0x21 [2, 5, 6, 9, 10, 11] L)) fun q => [(q.isSome, K37x0x21w0 L (q.getD default))]
theorem step37x0x21 (m : Nat) (kn : St → Option (Ex × St)) (L x : List Lf) : lpB Try.prog (T36x0 N) (h37x0s1 N).h 0 37 21 sh37x0x21 [2, 5, 6, 9, 10, 11] [2, 3, 4, 5] [50004000, 4, 2] (m + 100) kn L x = J37x0x21 N L x (fun y => kn (ofSh sh37x0x21 (mx sh37x0x21 [2, 5, 6, 9, 10, 11] L y))) (fun p => some (K37x0x21w0 L p)) := by kernel_rfl
theorem ql37x0x21 (L : List Lf) (m : Nat) (x : List Lf) : Q37x0x21 N L (m + 1) x = J37x0x21 N L x (Q37x0x21 N L m) some := by kernel_rfl
noncomputable def h37x0s2 : Sg Try.prog 0 37 :=
  (h37x0s1 N).lp (A37x0x21 N) N progOk (T36x0_ok N) (fun m kn L x => (step37x0x21 N m kn L x).trans (sb37x0x21 N L x _ _)) (fun L m x => (ql37x0x21 N L m x).trans (sb37x0x21 N L x (Q37x0x21 N L m) some)) fun L x hx => alt1 x hx
noncomputable def F37x0 (v0 : Bool) (v1 : LD) (k0 : Bool × LD × Int → Option R) : Option R :=
  bif (decide ((v1.length : Int) < 8)) then
    k0 (true, [], 0)
  else
    bif ((decide (8 ≤ (v1.length : Int))) && (decide ((v1.length : Int) ≤ (v1.length : Int)))) then
      bnd (V82x0 N) fun y0 =>
      bnd (V70x0 N) fun y1 =>
      bnd (G37x0x21 N v1 v0 ((v1.take (v1.length : Int).toNat).drop 8) 8 true [] 0 y0 y1) fun y2 =>
      bif y2.isSome then
        k0 ((y2.getD default).2.1, (y2.getD default).2.2, (y2.getD default).1)
      else
        none
    else
      none
noncomputable def G37x0 (v0 : Bool) (v1 : LD) : Option (Bool × LD × Int) := F37x0 N v0 v1 (fun p => some p)
theorem bind37x0 (v0 : Bool) (v1 : LD) (k0 : Bool × LD × Int → Option R) : F37x0 N v0 v1 k0 = (G37x0 N v0 v1).bind k0 := by
  unfold G37x0 F37x0
  repeat' (first | with_reducible apply cond_b | (with_reducible apply bnd_b; intro _) | rfl)
noncomputable def sh37x0 : Sh := { tmps := [(0, .c (.sl 5))], mem := [] }
noncomputable def A37x0 (L : List Lf) : List (Bool × Res) := bnd (F37x0 N (lb L 0) (ll L 1) (fun p => some p)) fun q => [(q.isSome, ([.g [.sl 53 (q.getD default).1 (q.getD default).2.1], .c (.i .i64 (q.getD default).2.2)], []))]
theorem raw37x0 (L : List Lf) : bd Try.prog (T36x0 N) (h37x0s2 N).h 37 sh37x0 L = F37x0 N (lb L 0) (ll L 1) (fun p => some ([.g [.sl 53 p.1 p.2.1], .c (.i .i64 p.2.2)], [])) := by kernel_rfl
theorem ok37x0 : FnOk Try.prog 37 sh37x0 (A37x0 N) :=
  (h37x0s2 N).fn progOk (T36x0_ok N) fun L x hx => ((raw37x0 N L).trans ((bind37x0 N ..).trans (alt1 x hx)))
noncomputable def T37x0 : Oracle := ext 37 (spSh sh37x0 (A37x0 N)) (T36x0 N)
theorem T37x0_ok : OracleOk Try.prog (T37x0 N) := FnOk.to (ok37x0 N) (T36x0_ok N)
noncomputable def rg38x0 : List (Nat × List Nat) := [(0, [0]), (1, [0, 2]), (2, [2]), (3, [0, 2]), (4, [4, 0, 2]), (5, [4, 5, 0, 2]), (6, [4, 5, 0, 6, 2]), (7, [5, 0, 6, 4, 2]), (8, [9, 5, 7, 4, 6, 2, 8, 0]), (9, [5, 7, 4, 6, 8, 0, 2]), (10, [4, 7, 6, 8, 5, 0, 2]), (11, [6, 8, 4, 5, 0, 2]), (12, [4, 6, 2])]
noncomputable def hd38x0 : Hints := [(18, [4, 5, 0, 6, 2], [16, 4, 2, 50004000], [50004000]), (25, [9, 5, 7, 4, 6, 2, 8, 0], [7, 16, 50004000, 4, 2], [])]
noncomputable def h38x0s0 (N : Nat) : Sg Try.prog 0 38 := .start hd38x0 rg38x0
noncomputable def F38x0x25 (w4 : Bool) (w7 w8 w9 : Int) (w11 w13 : LD) (w14 : D) (k0 : Bool → Option R) : Option R :=
  bif (!w4) then
    k0 true
  else
    bnd (G73x0 N w7 w8 w9 w11 w13 w14) fun y0 =>
    bif y0.isSome then
      k0 ((y0.getD default) != 0)
    else
      none
noncomputable def G38x0x25 (w4 : Bool) (w7 w8 w9 : Int) (w11 w13 : LD) (w14 : D) : Option (Bool) := F38x0x25 N w4 w7 w8 w9 w11 w13 w14 (fun p => some p)
theorem bind38x0x25 (w4 : Bool) (w7 w8 w9 : Int) (w11 w13 : LD) (w14 : D) (k0 : Bool → Option R) : F38x0x25 N w4 w7 w8 w9 w11 w13 w14 k0 = (G38x0x25 N w4 w7 w8 w9 w11 w13 w14).bind k0 := by
  unfold G38x0x25 F38x0x25
  repeat' (first | with_reducible apply cond_b | (with_reducible apply bnd_b; intro _) | rfl)
noncomputable def J38x0x25 (L : List Lf) (k0 : Bool → Option R) : Option R := F38x0x25 N (lb L 4) (li L 7) (li L 8) (li L 9) (ll L 11) (ll L 13) (ld L 14) k0
noncomputable def sh38x0x25 : Sh := { tmps := [(0, .c (.sl 5)), (2, .c (.p 2 0)), (4, .c (.p 4 0)), (5, .c (.p 16 0)), (6, .c (.i .i64)), (7, .c (.p 7 0)), (8, .c (.i .i64)), (9, .c (.b))], mem := [(2, .box ([.sl 53])), (4, .box ([.o 50004000])), (7, .box ([.i .i64, .i .i64, .i .i64, .sl 103, .sl 5])), (16, .dat 106), (50004000, .row 53 true)] }
noncomputable def K38x0x25w0 (L : List Lf) (p : Bool) : Ex × St := (.normal, mg (ofSh sh38x0x25 L) [0, 2, 4, 5, 6, 7, 8, 37] [(37, .c (.b p))] [2, 4, 7, 16, 50004000] [])
noncomputable def A38x0x25 (L : List Lf) : List (Bool × (Ex × St)) := bnd (J38x0x25 N L (fun p => some p)) fun q => [(q.isSome, K38x0x25w0 L (q.getD default))]
theorem raw38x0x25 (L : List Lf) : pc Try.prog (T37x0 N) (h38x0s0 N).h 0 100 38 25 sh38x0x25 L [4, 6, 2, 5, 7, 8, 0, 37] [7, 16, 50004000, 4, 2] = J38x0x25 N L (fun p => some (K38x0x25w0 L p)) := by kernel_rfl
noncomputable def h38x0s1 : Sg Try.prog 0 38 :=
  (h38x0s0 N).cut (A38x0x25 N) progOk (T37x0_ok N) fun L x hx => (raw38x0x25 N L).trans ((bind38x0x25 N ..).trans (alt1 x hx))
noncomputable def S38x0x18 (w1 : LD) (w2 : Int) (w5 : D) (w6 : Bool) (w7 : LD) (kr : Int → D → Bool → LD → Option R) (k0 : Int × Bool × LD → Option R) : Option R :=
  bif (decide ((w7.length : Int) < 50000)) then
    bif (((decide (0 ≤ w2)) && (decide (w2 ≤ (w1.length : Int)))) && (decide ((w1.length : Int) ≤ (w1.length : Int)))) then
      bnd (G84x0 N ((w1.take (w1.length : Int).toNat).drop w2.toNat) w5) fun y0 =>
      bif y0.isSome then
        bnd (G38x0x25 N (y0.getD default).2.2.2.2.2.2.2.2 (y0.getD default).1 (y0.getD default).2.1 (y0.getD default).2.2.1 (y0.getD default).2.2.2.2.1 (y0.getD default).2.2.2.2.2.2.1 w5) fun y1 =>
        bif y1.isSome then
          bif (y1.getD default) then
            k0 (w2, w6, w7)
          else
            bnd (G74x0 N (y0.getD default).1 (y0.getD default).2.1 (y0.getD default).2.2.1 (y0.getD default).2.2.2.2.1 (y0.getD default).2.2.2.2.2.2.1 w5) fun y2 =>
            bif y2.isSome then
              bif (decide ((w7.length + 1) * 72 ≤ room) && decide ((w7.length + 1) ≤ strMax)) then
                bnd ((w7 ++ [(.a [(.i (y0.getD default).1), (.i (y0.getD default).2.1), (.i (y0.getD default).2.2.1), (.l (y0.getD default).2.2.2.1 (y0.getD default).2.2.2.2.1), (.l (y0.getD default).2.2.2.2.2.1 (y0.getD default).2.2.2.2.2.2.1)])]) : List D) fun y3 =>
                bnd (IntKind.wrap .i64 (w2 + (y0.getD default).2.2.2.2.2.2.2.1)) fun y4 =>
                kr y4 (y2.getD default).2 false y3
              else
                none
            else
              none
        else
          none
      else
        none
    else
      none
  else
    k0 (w2, w6, w7)
noncomputable def L38x0x18 (N : Nat) {R : Type} (w1 : LD) : Nat → Int → D → Bool → LD → (Int × Bool × LD → Option R) → Option R
  | 0, _, _, _, _, _ => none
  | m + 1, w2, w5, w6, w7, k0 => S38x0x18 N w1 w2 w5 w6 w7 (fun w2 w5 w6 w7 => L38x0x18 N w1 m w2 w5 w6 w7 k0) k0
noncomputable def G38x0x18 (w1 : LD) (w2 : Int) (w5 : D) (w6 : Bool) (w7 : LD) : Option (Int × Bool × LD) := L38x0x18 N (R := (Int × Bool × LD)) w1 N w2 w5 w6 w7 (fun p => some p)
noncomputable def J38x0x18 (L x : List Lf) (kr : List Lf → Option R) (k0 : Int × Bool × LD → Option R) : Option R := S38x0x18 N (ll L 1) (li x 0) (ld x 1) (lb x 2) (ll x 3) (fun w2 w5 w6 w7 => kr [.i w2, .d w5, .b w6, .l w7]) k0
theorem sb38x0x18 (L x : List Lf) (kr : List Lf → Option R) (k0 : Int × Bool × LD → Option R) : J38x0x18 N L x kr k0 = (J38x0x18 N L x (fun y => some (.inl y)) (fun p => some (.inr p))).bind (sumE kr k0) := by
  unfold J38x0x18 S38x0x18
  repeat' (first | with_reducible apply cond_b | (with_reducible apply bnd_b; intro _) | rfl)
noncomputable def Q38x0x18 (L : List Lf) (m : Nat) (x : List Lf) : Option (Int × Bool × LD) := L38x0x18 N (R := (Int × Bool × LD)) (ll L 1) m (li x 0) (ld x 1) (lb x 2) (ll x 3) (fun p => some p)
noncomputable def sh38x0x18 : Sh := { tmps := [(0, .c (.sl 5)), (2, .c (.p 2 0)), (4, .c (.p 4 0)), (5, .c (.p 16 0)), (6, .c (.i .i64))], mem := [(2, .box ([.sl 53])), (4, .box ([.o 50004000])), (16, .dat 106), (50004000, .row 53 true)] }
noncomputable def K38x0x18w0 (L : List Lf) (p : Int × Bool × LD) : Ex × St := ((.exit 0), mg (ofSh sh38x0x18 L) [2, 4, 6] [(6, .c (.i .i64 p.1))] [2, 4, 50004000] [(50004000, .row 53 true p.2.1 p.2.2)])
noncomputable def A38x0x18 (L : List Lf) : List (Bool × (Ex × St)) := bnd (Q38x0x18 N L N (pk sh38x0x18 [2, 5, 6, 7] L)) fun q => [(q.isSome, K38x0x18w0 L (q.getD default))]
theorem step38x0x18 (m : Nat) (kn : St → Option (Ex × St)) (L x : List Lf) : lpB Try.prog (T37x0 N) (h38x0s1 N).h 0 38 18 sh38x0x18 [2, 5, 6, 7] [2, 3, 4, 6] [50004000, 4, 2] (m + 100) kn L x = J38x0x18 N L x (fun y => kn (ofSh sh38x0x18 (mx sh38x0x18 [2, 5, 6, 7] L y))) (fun p => some (K38x0x18w0 L p)) := by kernel_rfl
theorem ql38x0x18 (L : List Lf) (m : Nat) (x : List Lf) : Q38x0x18 N L (m + 1) x = J38x0x18 N L x (Q38x0x18 N L m) some := by kernel_rfl
noncomputable def h38x0s2 : Sg Try.prog 0 38 :=
  (h38x0s1 N).lp (A38x0x18 N) N progOk (T37x0_ok N) (fun m kn L x => (step38x0x18 N m kn L x).trans (sb38x0x18 N L x _ _)) (fun L m x => (ql38x0x18 N L m x).trans (sb38x0x18 N L x (Q38x0x18 N L m) some)) fun L x hx => alt1 x hx
noncomputable def F38x0 (v1 : LD) (k0 : Bool × LD × Int → Option R) : Option R :=
  bif (decide ((v1.length : Int) < 8)) then
    k0 (true, [], 0)
  else
    bnd ((.a [(.b false), (.b false), (.b false), (.b false), (.b false), (.b false), (.b false), (.b false), (.b false), (.b false), (.b false), (.b false), (.b false), (.b false), (.b false), (.b false), (.b false), (.i 0), (.l true []), (.b false), (.i 0), (.l true []), (.b false), (.i 0), (.l true []), (.b false), (.i 0), (.l true []), (.b false), (.i 0), (.l true []), (.b false), (.i 0), (.l true []), (.b false), (.i 0), (.l true []), (.b false), (.i 0), (.l true []), (.b false), (.i 0), (.l true []), (.b false), (.i 0), (.l true []), (.b false), (.i 0), (.l true []), (.b false), (.i 0), (.l true []), (.b false), (.i 0), (.l true []), (.b false), (.i 0), (.l true []), (.b false), (.i 0), (.l true []), (.b false), (.i 0), (.l true []), (.i (-1))]) : D) fun y0 =>
    bnd (G38x0x18 N v1 8 y0 true []) fun y1 =>
    bif y1.isSome then
      k0 ((y1.getD default).2.1, (y1.getD default).2.2, (y1.getD default).1)
    else
      none
noncomputable def G38x0 (v1 : LD) : Option (Bool × LD × Int) := F38x0 N v1 (fun p => some p)
theorem bind38x0 (v1 : LD) (k0 : Bool × LD × Int → Option R) : F38x0 N v1 k0 = (G38x0 N v1).bind k0 := by
  unfold G38x0 F38x0
  repeat' (first | with_reducible apply cond_b | (with_reducible apply bnd_b; intro _) | rfl)
noncomputable def sh38x0 : Sh := { tmps := [(0, .c (.sl 5))], mem := [] }
noncomputable def A38x0 (L : List Lf) : List (Bool × Res) := bnd (F38x0 N (ll L 1) (fun p => some p)) fun q => [(q.isSome, ([.g [.sl 53 (q.getD default).1 (q.getD default).2.1], .c (.i .i64 (q.getD default).2.2)], []))]
theorem raw38x0 (L : List Lf) : bd Try.prog (T37x0 N) (h38x0s2 N).h 38 sh38x0 L = F38x0 N (ll L 1) (fun p => some ([.g [.sl 53 p.1 p.2.1], .c (.i .i64 p.2.2)], [])) := by kernel_rfl
theorem ok38x0 : FnOk Try.prog 38 sh38x0 (A38x0 N) :=
  (h38x0s2 N).fn progOk (T37x0_ok N) fun L x hx => ((raw38x0 N L).trans ((bind38x0 N ..).trans (alt1 x hx)))
noncomputable def T38x0 : Oracle := ext 38 (spSh sh38x0 (A38x0 N)) (T37x0 N)
theorem T38x0_ok : OracleOk Try.prog (T38x0 N) := FnOk.to (ok38x0 N) (T37x0_ok N)
noncomputable def rg140x0 : List (Nat × List Nat) := [(0, [0, 1]), (1, [0, 1]), (2, []), (3, [0, 1]), (4, [13, 12, 0, 1]), (5, [13, 0, 1, 12]), (6, [0, 5, 1, 13, 12]), (7, []), (8, [13, 12, 0, 1]), (9, [])]
noncomputable def hd140x0 : Hints := [(12, [13, 12, 0, 1], [], [])]
noncomputable def h140x0s0 (N : Nat) : Sg Try.prog 0 140 := .start hd140x0 rg140x0
noncomputable def S140x0x12 (N : Nat) (w1 w3 : LD) (w4 : Int) (w5 : Int) (kr : Int → Option R) (k0 : Unit → Option R) (k1 : Unit → Option R) : Option R :=
  bif (decide (w5 < w4)) then
    bif (inB w5 w1.length) then
      bif (inB w5 w3.length) then
        bnd (!((((w1.getD w5.toNat (.i 0)).cell 0).toI == ((w3.getD w5.toNat (.i 0)).cell 0).toI) && ((((w1.getD w5.toNat (.i 0)).cell 1).toI == ((w3.getD w5.toNat (.i 0)).cell 1).toI) && ((((w1.getD w5.toNat (.i 0)).cell 2).toI == ((w3.getD w5.toNat (.i 0)).cell 2).toI) && true)))) fun y0 =>
        bif y0 then
          k0 ()
        else
          kr (IntKind.wrap .i64 (w5 + 1))
      else
        none
    else
      none
  else
    k1 ()
noncomputable def L140x0x12 (N : Nat) {R : Type} (w1 w3 : LD) (w4 : Int) : Nat → Int → (Unit → Option R) → (Unit → Option R) → Option R
  | 0, _, _, _ => none
  | m + 1, w5, k0, k1 => S140x0x12 N w1 w3 w4 w5 (fun w5 => L140x0x12 N w1 w3 w4 m w5 k0 k1) k0 k1
noncomputable def G140x0x12 (w1 w3 : LD) (w4 : Int) (w5 : Int) : Option (Sum (Unit) (Unit)) := L140x0x12 N (R := (Sum (Unit) (Unit))) w1 w3 w4 N w5 (fun p => some (.inl p)) (fun p => some (.inr p))
noncomputable def J140x0x12 (L x : List Lf) (kr : List Lf → Option R) (k0 : Unit → Option R) (k1 : Unit → Option R) : Option R := S140x0x12 N (ll L 1) (ll L 3) (li L 4) (li x 0) (fun w5 => kr [.i w5]) k0 k1
theorem sb140x0x12 (L x : List Lf) (kr : List Lf → Option R) (k0 : Unit → Option R) (k1 : Unit → Option R) : J140x0x12 N L x kr k0 k1 = (J140x0x12 N L x (fun y => some (.inl y)) (fun p => some (.inr (.inl p))) (fun p => some (.inr (.inr p)))).bind (sumE kr (sumE k0 k1)) := by
  unfold J140x0x12 S140x0x12
  repeat' (first | with_reducible apply cond_b | (with_reducible apply bnd_b; intro _) | rfl)
noncomputable def Q140x0x12 (L : List Lf) (m : Nat) (x : List Lf) : Option (Sum (Unit) (Unit)) := L140x0x12 N (R := (Sum (Unit) (Unit))) (ll L 1) (ll L 3) (li L 4) m (li x 0) (fun p => some (.inl p)) (fun p => some (.inr p))
noncomputable def sh140x0x12 : Sh := { tmps := [(0, .c (.sl 146)), (1, .c (.sl 146)), (12, .c (.i .i64)), (13, .c (.i .i64))], mem := [] }
noncomputable def A140x0x12 (L : List Lf) : List (Bool × (Ex × St)) := bnd (Q140x0x12 N L N (pk sh140x0x12 [5] L)) fun q => [((inlB q), (.ret, ⟨[(4, .c (.b false))], []⟩)), ((inrQ q).isSome, ((.exit 0), ⟨[], []⟩))]
theorem step140x0x12 (m : Nat) (kn : St → Option (Ex × St)) (L x : List Lf) : lpB Try.prog (T38x0 N) (h140x0s0 N).h 0 140 12 sh140x0x12 [5] [4] [] (m + 100) kn L x = J140x0x12 N L x (fun y => kn (ofSh sh140x0x12 (mx sh140x0x12 [5] L y))) (fun _ => some (.ret, ⟨[(4, .c (.b false))], []⟩)) (fun _ => some ((.exit 0), ⟨[], []⟩)) := by kernel_rfl
theorem ql140x0x12 (L : List Lf) (m : Nat) (x : List Lf) : Q140x0x12 N L (m + 1) x = J140x0x12 N L x (Q140x0x12 N L m) (fun p => some (.inl p)) (fun p => some (.inr p)) := by kernel_rfl
noncomputable def h140x0s1 : Sg Try.prog 0 140 :=
  (h140x0s0 N).lp (A140x0x12 N) N progOk (T38x0_ok N) (fun m kn L x => (step140x0x12 N m kn L x).trans (sb140x0x12 N L x _ _ _)) (fun L m x => (ql140x0x12 N L m x).trans (sb140x0x12 N L x (Q140x0x12 N L m) (fun p => some (.inl p)) (fun p => some (.inr p)))) fun L x hx => (altS alt1) x hx
noncomputable def F140x0 (v1 v3 : LD) (k0 : Bool → Option R) : Option R :=
  bif ((v1.length : Int) != (v3.length : Int)) then
    k0 false
  else
    bnd (G140x0x12 N v1 v3 (v1.length : Int) 0) fun y0 =>
    bif (inlB y0) then
      k0 false
    else
      bif (inrQ y0).isSome then
        k0 true
      else
        none
noncomputable def G140x0 (v1 v3 : LD) : Option (Bool) := F140x0 N v1 v3 (fun p => some p)
theorem bind140x0 (v1 v3 : LD) (k0 : Bool → Option R) : F140x0 N v1 v3 k0 = (G140x0 N v1 v3).bind k0 := by
  unfold G140x0 F140x0
  repeat' (first | with_reducible apply cond_b | (with_reducible apply bnd_b; intro _) | rfl)
noncomputable def sh140x0 : Sh := { tmps := [(0, .c (.sl 146)), (1, .c (.sl 146))], mem := [] }
noncomputable def A140x0 (L : List Lf) : List (Bool × Res) := bnd (F140x0 N (ll L 1) (ll L 3) (fun p => some p)) fun q => [(q.isSome, ([.c (.b (q.getD default))], []))]
theorem raw140x0 (L : List Lf) : bd Try.prog (T38x0 N) (h140x0s1 N).h 140 sh140x0 L = F140x0 N (ll L 1) (ll L 3) (fun p => some ([.c (.b p)], [])) := by kernel_rfl
theorem ok140x0 : FnOk Try.prog 140 sh140x0 (A140x0 N) :=
  (h140x0s1 N).fn progOk (T38x0_ok N) fun L x hx => ((raw140x0 N L).trans ((bind140x0 N ..).trans (alt1 x hx)))
noncomputable def T140x0 : Oracle := ext 140 (spSh sh140x0 (A140x0 N)) (T38x0 N)
theorem T140x0_ok : OracleOk Try.prog (T140x0 N) := FnOk.to (ok140x0 N) (T38x0_ok N)
noncomputable def rg104x0 : List (Nat × List Nat) := [(0, [0, 1]), (1, [2, 3])]
noncomputable def hd104x0 : Hints := [(4, [2, 3], [3, 2], [])]
noncomputable def h104x0s0 (N : Nat) : Sg Try.prog 0 104 := .start hd104x0 rg104x0
noncomputable def F104x0x4 (w0 : Bool) (w1 : Int) (w3 : LD) (w4 : Bool) (w5 : Int) (w7 : LD) (k0 : Bool → Option R) : Option R :=
  bif (bif (w0 == w4) then (w1 == w5) else false) then
    bnd (G140x0 N w3 w7) fun y0 =>
    bif y0.isSome then
      k0 (y0.getD default)
    else
      none
  else
    k0 false
noncomputable def G104x0x4 (w0 : Bool) (w1 : Int) (w3 : LD) (w4 : Bool) (w5 : Int) (w7 : LD) : Option (Bool) := F104x0x4 N w0 w1 w3 w4 w5 w7 (fun p => some p)
theorem bind104x0x4 (w0 : Bool) (w1 : Int) (w3 : LD) (w4 : Bool) (w5 : Int) (w7 : LD) (k0 : Bool → Option R) : F104x0x4 N w0 w1 w3 w4 w5 w7 k0 = (G104x0x4 N w0 w1 w3 w4 w5 w7).bind k0 := by
  unfold G104x0x4 F104x0x4
  repeat' (first | with_reducible apply cond_b | (with_reducible apply bnd_b; intro _) | rfl)
noncomputable def J104x0x4 (L : List Lf) (k0 : Bool → Option R) : Option R := F104x0x4 N (lb L 0) (li L 1) (ll L 3) (lb L 4) (li L 5) (ll L 7) k0
noncomputable def sh104x0x4 : Sh := { tmps := [(2, .c (.p 2 0)), (3, .c (.p 3 0))], mem := [(2, .box ([.b, .i .i64, .sl 146])), (3, .box ([.b, .i .i64, .sl 146]))] }
noncomputable def A104x0x4 (L : List Lf) : List (Bool × (Ex × St)) := bnd (J104x0x4 N L (fun p => some p)) fun q => [(q.isSome, (.normal, ⟨[(4, .c (.b (q.getD default)))], []⟩))]
theorem raw104x0x4 (L : List Lf) : pc Try.prog (T140x0 N) (h104x0s0 N).h 0 100 104 4 sh104x0x4 L [4] [] = J104x0x4 N L (fun p => some (.normal, ⟨[(4, .c (.b p))], []⟩)) := by kernel_rfl
noncomputable def h104x0s1 : Sg Try.prog 0 104 :=
  (h104x0s0 N).cut (A104x0x4 N) progOk (T140x0_ok N) fun L x hx => (raw104x0x4 N L).trans ((bind104x0x4 N ..).trans (alt1 x hx))
noncomputable def F104x0 (v0 : Bool) (v1 : Int) (v3 : LD) (v4 : Bool) (v5 : Int) (v7 : LD) (k0 : Bool → Option R) : Option R :=
  bnd (G104x0x4 N v0 v1 v3 v4 v5 v7) fun y0 =>
  bif y0.isSome then
    k0 (y0.getD default)
  else
    none
noncomputable def G104x0 (v0 : Bool) (v1 : Int) (v3 : LD) (v4 : Bool) (v5 : Int) (v7 : LD) : Option (Bool) := F104x0 N v0 v1 v3 v4 v5 v7 (fun p => some p)
theorem bind104x0 (v0 : Bool) (v1 : Int) (v3 : LD) (v4 : Bool) (v5 : Int) (v7 : LD) (k0 : Bool → Option R) : F104x0 N v0 v1 v3 v4 v5 v7 k0 = (G104x0 N v0 v1 v3 v4 v5 v7).bind k0 := by
  unfold G104x0 F104x0
  repeat' (first | with_reducible apply cond_b | (with_reducible apply bnd_b; intro _) | rfl)
noncomputable def J104x0 (L : List Lf) (k0 : Bool → Option R) : Option R := F104x0 N (lb L 0) (li L 1) (ll L 3) (lb L 4) (li L 5) (ll L 7) k0
noncomputable def sh104x0 : Sh := { tmps := [(0, .g ([.b, .i .i64, .sl 146])), (1, .g ([.b, .i .i64, .sl 146]))], mem := [] }
noncomputable def A104x0 (L : List Lf) : List (Bool × Res) := bnd (J104x0 N L (fun p => some p)) fun q => [(q.isSome, ([.c (.b (q.getD default))], []))]
theorem raw104x0 (L : List Lf) : bd Try.prog (T140x0 N) (h104x0s1 N).h 104 sh104x0 L = J104x0 N L (fun p => some ([.c (.b p)], [])) := by kernel_rfl
theorem ok104x0 : FnOk Try.prog 104 sh104x0 (A104x0 N) :=
  (h104x0s1 N).fn progOk (T140x0_ok N) fun L x hx => ((raw104x0 N L).trans ((bind104x0 N ..).trans (alt1 x hx)))
noncomputable def T104x0 : Oracle := ext 104 (spSh sh104x0 (A104x0 N)) (T140x0 N)
theorem T104x0_ok : OracleOk Try.prog (T104x0 N) := FnOk.to (ok104x0 N) (T140x0_ok N)
noncomputable def rg103x0 : List (Nat × List Nat) := [(0, [0, 1, 2]), (1, [0, 1, 2]), (2, []), (3, [0, 1, 2]), (4, [17, 16, 15, 1, 2]), (5, [17, 15, 1, 2, 16]), (6, [1, 7, 2, 8, 17, 16, 15]), (7, [2, 8, 9, 17, 16, 15, 1]), (8, []), (9, [17, 16, 15, 1, 2]), (10, [])]
noncomputable def hd103x0 : Hints := [(12, [17, 16, 15, 1, 2], [], [])]
noncomputable def h103x0s0 (N : Nat) : Sg Try.prog 0 103 := .start hd103x0 rg103x0
noncomputable def S103x0x12 (w1 w3 : LD) (w4 : Int) (w5 : Int) (kr : Int → Option R) (k0 : Unit → Option R) (k1 : Unit → Option R) : Option R :=
  bif (decide (w5 < w4)) then
    bif (inB w5 w3.length) then
      bif (inB w5 w1.length) then
        bnd (G104x0 N ((w3.getD w5.toNat (.i 0)).cell 0).toB ((w3.getD w5.toNat (.i 0)).cell 1).toI ((w3.getD w5.toNat (.i 0)).cell 2).items ((w1.getD w5.toNat (.i 0)).cell 0).toB ((w1.getD w5.toNat (.i 0)).cell 1).toI ((w1.getD w5.toNat (.i 0)).cell 2).items) fun y0 =>
        bif y0.isSome then
          bif (!(y0.getD default)) then
            k0 ()
          else
            kr (IntKind.wrap .i64 (w5 + 1))
        else
          none
      else
        none
    else
      none
  else
    k1 ()
noncomputable def L103x0x12 (N : Nat) {R : Type} (w1 w3 : LD) (w4 : Int) : Nat → Int → (Unit → Option R) → (Unit → Option R) → Option R
  | 0, _, _, _ => none
  | m + 1, w5, k0, k1 => S103x0x12 N w1 w3 w4 w5 (fun w5 => L103x0x12 N w1 w3 w4 m w5 k0 k1) k0 k1
noncomputable def G103x0x12 (w1 w3 : LD) (w4 : Int) (w5 : Int) : Option (Sum (Unit) (Unit)) := L103x0x12 N (R := (Sum (Unit) (Unit))) w1 w3 w4 N w5 (fun p => some (.inl p)) (fun p => some (.inr p))
noncomputable def J103x0x12 (L x : List Lf) (kr : List Lf → Option R) (k0 : Unit → Option R) (k1 : Unit → Option R) : Option R := S103x0x12 N (ll L 1) (ll L 3) (li L 4) (li x 0) (fun w5 => kr [.i w5]) k0 k1
theorem sb103x0x12 (L x : List Lf) (kr : List Lf → Option R) (k0 : Unit → Option R) (k1 : Unit → Option R) : J103x0x12 N L x kr k0 k1 = (J103x0x12 N L x (fun y => some (.inl y)) (fun p => some (.inr (.inl p))) (fun p => some (.inr (.inr p)))).bind (sumE kr (sumE k0 k1)) := by
  unfold J103x0x12 S103x0x12
  repeat' (first | with_reducible apply cond_b | (with_reducible apply bnd_b; intro _) | rfl)
noncomputable def Q103x0x12 (L : List Lf) (m : Nat) (x : List Lf) : Option (Sum (Unit) (Unit)) := L103x0x12 N (R := (Sum (Unit) (Unit))) (ll L 1) (ll L 3) (li L 4) m (li x 0) (fun p => some (.inl p)) (fun p => some (.inr p))
noncomputable def sh103x0x12 : Sh := { tmps := [(1, .c (.sl 103)), (2, .c (.f 104 [])), (15, .c (.sl 103)), (16, .c (.i .i64)), (17, .c (.i .i64))], mem := [] }
noncomputable def A103x0x12 (L : List Lf) : List (Bool × (Ex × St)) := bnd (Q103x0x12 N L N (pk sh103x0x12 [5] L)) fun q => [((inlB q), (.ret, ⟨[(6, .c (.b false))], []⟩)), ((inrQ q).isSome, ((.exit 0), ⟨[], []⟩))]
theorem step103x0x12 (m : Nat) (kn : St → Option (Ex × St)) (L x : List Lf) : lpB Try.prog (T104x0 N) (h103x0s0 N).h 0 103 12 sh103x0x12 [5] [6] [] (m + 100) kn L x = J103x0x12 N L x (fun y => kn (ofSh sh103x0x12 (mx sh103x0x12 [5] L y))) (fun _ => some (.ret, ⟨[(6, .c (.b false))], []⟩)) (fun _ => some ((.exit 0), ⟨[], []⟩)) := by kernel_rfl
theorem ql103x0x12 (L : List Lf) (m : Nat) (x : List Lf) : Q103x0x12 N L (m + 1) x = J103x0x12 N L x (Q103x0x12 N L m) (fun p => some (.inl p)) (fun p => some (.inr p)) := by kernel_rfl
noncomputable def h103x0s1 : Sg Try.prog 0 103 :=
  (h103x0s0 N).lp (A103x0x12 N) N progOk (T104x0_ok N) (fun m kn L x => (step103x0x12 N m kn L x).trans (sb103x0x12 N L x _ _ _)) (fun L m x => (ql103x0x12 N L m x).trans (sb103x0x12 N L x (Q103x0x12 N L m) (fun p => some (.inl p)) (fun p => some (.inr p)))) fun L x hx => (altS alt1) x hx
noncomputable def F103x0 (v1 v3 : LD) (k0 : Bool → Option R) : Option R :=
  bif ((v1.length : Int) != (v3.length : Int)) then
    k0 false
  else
    bnd (G103x0x12 N v3 v1 (v1.length : Int) 0) fun y0 =>
    bif (inlB y0) then
      k0 false
    else
      bif (inrQ y0).isSome then
        k0 true
      else
        none
noncomputable def G103x0 (v1 v3 : LD) : Option (Bool) := F103x0 N v1 v3 (fun p => some p)
theorem bind103x0 (v1 v3 : LD) (k0 : Bool → Option R) : F103x0 N v1 v3 k0 = (G103x0 N v1 v3).bind k0 := by
  unfold G103x0 F103x0
  repeat' (first | with_reducible apply cond_b | (with_reducible apply bnd_b; intro _) | rfl)
noncomputable def sh103x0 : Sh := { tmps := [(0, .c (.sl 103)), (1, .c (.sl 103)), (2, .c (.f 104 []))], mem := [] }
noncomputable def A103x0 (L : List Lf) : List (Bool × Res) := bnd (F103x0 N (ll L 1) (ll L 3) (fun p => some p)) fun q => [(q.isSome, ([.c (.b (q.getD default))], []))]
theorem raw103x0 (L : List Lf) : bd Try.prog (T104x0 N) (h103x0s1 N).h 103 sh103x0 L = F103x0 N (ll L 1) (ll L 3) (fun p => some ([.c (.b p)], [])) := by kernel_rfl
theorem ok103x0 : FnOk Try.prog 103 sh103x0 (A103x0 N) :=
  (h103x0s1 N).fn progOk (T104x0_ok N) fun L x hx => ((raw103x0 N L).trans ((bind103x0 N ..).trans (alt1 x hx)))
noncomputable def T103x0 : Oracle := ext 103 (spSh sh103x0 (A103x0 N)) (T104x0 N)
theorem T103x0_ok : OracleOk Try.prog (T103x0 N) := FnOk.to (ok103x0 N) (T104x0_ok N)
noncomputable def rg25x0 : List (Nat × List Nat) := [(0, [0, 1]), (1, [0, 1]), (2, []), (3, [0, 1]), (4, [13, 12, 0, 1]), (5, [13, 0, 1, 12]), (6, [0, 5, 1, 13, 12]), (7, []), (8, [13, 12, 0, 1]), (9, [])]
noncomputable def hd25x0 : Hints := [(12, [13, 12, 0, 1], [], [])]
noncomputable def h25x0s0 (N : Nat) : Sg Try.prog 0 25 := .start hd25x0 rg25x0
noncomputable def S25x0x12 (N : Nat) (w1 w3 : LD) (w4 : Int) (w5 : Int) (kr : Int → Option R) (k0 : Unit → Option R) (k1 : Unit → Option R) : Option R :=
  bif (decide (w5 < w4)) then
    bif (inB w5 w1.length) then
      bif (inB w5 w3.length) then
        bnd ((w1.getD w5.toNat (.i 0)).toI != (w3.getD w5.toNat (.i 0)).toI) fun y0 =>
        bif y0 then
          k0 ()
        else
          kr (IntKind.wrap .i64 (w5 + 1))
      else
        none
    else
      none
  else
    k1 ()
noncomputable def L25x0x12 (N : Nat) {R : Type} (w1 w3 : LD) (w4 : Int) : Nat → Int → (Unit → Option R) → (Unit → Option R) → Option R
  | 0, _, _, _ => none
  | m + 1, w5, k0, k1 => S25x0x12 N w1 w3 w4 w5 (fun w5 => L25x0x12 N w1 w3 w4 m w5 k0 k1) k0 k1
noncomputable def G25x0x12 (w1 w3 : LD) (w4 : Int) (w5 : Int) : Option (Sum (Unit) (Unit)) := L25x0x12 N (R := (Sum (Unit) (Unit))) w1 w3 w4 N w5 (fun p => some (.inl p)) (fun p => some (.inr p))
noncomputable def J25x0x12 (L x : List Lf) (kr : List Lf → Option R) (k0 : Unit → Option R) (k1 : Unit → Option R) : Option R := S25x0x12 N (ll L 1) (ll L 3) (li L 4) (li x 0) (fun w5 => kr [.i w5]) k0 k1
theorem sb25x0x12 (L x : List Lf) (kr : List Lf → Option R) (k0 : Unit → Option R) (k1 : Unit → Option R) : J25x0x12 N L x kr k0 k1 = (J25x0x12 N L x (fun y => some (.inl y)) (fun p => some (.inr (.inl p))) (fun p => some (.inr (.inr p)))).bind (sumE kr (sumE k0 k1)) := by
  unfold J25x0x12 S25x0x12
  repeat' (first | with_reducible apply cond_b | (with_reducible apply bnd_b; intro _) | rfl)
noncomputable def Q25x0x12 (L : List Lf) (m : Nat) (x : List Lf) : Option (Sum (Unit) (Unit)) := L25x0x12 N (R := (Sum (Unit) (Unit))) (ll L 1) (ll L 3) (li L 4) m (li x 0) (fun p => some (.inl p)) (fun p => some (.inr p))
noncomputable def sh25x0x12 : Sh := { tmps := [(0, .c (.sl 5)), (1, .c (.sl 5)), (12, .c (.i .i64)), (13, .c (.i .i64))], mem := [] }
noncomputable def A25x0x12 (L : List Lf) : List (Bool × (Ex × St)) := bnd (Q25x0x12 N L N (pk sh25x0x12 [5] L)) fun q => [((inlB q), (.ret, ⟨[(4, .c (.b false))], []⟩)), ((inrQ q).isSome, ((.exit 0), ⟨[], []⟩))]
theorem step25x0x12 (m : Nat) (kn : St → Option (Ex × St)) (L x : List Lf) : lpB Try.prog (T103x0 N) (h25x0s0 N).h 0 25 12 sh25x0x12 [5] [4] [] (m + 100) kn L x = J25x0x12 N L x (fun y => kn (ofSh sh25x0x12 (mx sh25x0x12 [5] L y))) (fun _ => some (.ret, ⟨[(4, .c (.b false))], []⟩)) (fun _ => some ((.exit 0), ⟨[], []⟩)) := by kernel_rfl
theorem ql25x0x12 (L : List Lf) (m : Nat) (x : List Lf) : Q25x0x12 N L (m + 1) x = J25x0x12 N L x (Q25x0x12 N L m) (fun p => some (.inl p)) (fun p => some (.inr p)) := by kernel_rfl
noncomputable def h25x0s1 : Sg Try.prog 0 25 :=
  (h25x0s0 N).lp (A25x0x12 N) N progOk (T103x0_ok N) (fun m kn L x => (step25x0x12 N m kn L x).trans (sb25x0x12 N L x _ _ _)) (fun L m x => (ql25x0x12 N L m x).trans (sb25x0x12 N L x (Q25x0x12 N L m) (fun p => some (.inl p)) (fun p => some (.inr p)))) fun L x hx => (altS alt1) x hx
noncomputable def F25x0 (v1 v3 : LD) (k0 : Bool → Option R) : Option R :=
  bif ((v1.length : Int) != (v3.length : Int)) then
    k0 false
  else
    bnd (G25x0x12 N v1 v3 (v1.length : Int) 0) fun y0 =>
    bif (inlB y0) then
      k0 false
    else
      bif (inrQ y0).isSome then
        k0 true
      else
        none
noncomputable def G25x0 (v1 v3 : LD) : Option (Bool) := F25x0 N v1 v3 (fun p => some p)
theorem bind25x0 (v1 v3 : LD) (k0 : Bool → Option R) : F25x0 N v1 v3 k0 = (G25x0 N v1 v3).bind k0 := by
  unfold G25x0 F25x0
  repeat' (first | with_reducible apply cond_b | (with_reducible apply bnd_b; intro _) | rfl)
noncomputable def sh25x0 : Sh := { tmps := [(0, .c (.sl 5)), (1, .c (.sl 5))], mem := [] }
noncomputable def A25x0 (L : List Lf) : List (Bool × Res) := bnd (F25x0 N (ll L 1) (ll L 3) (fun p => some p)) fun q => [(q.isSome, ([.c (.b (q.getD default))], []))]
theorem raw25x0 (L : List Lf) : bd Try.prog (T103x0 N) (h25x0s1 N).h 25 sh25x0 L = F25x0 N (ll L 1) (ll L 3) (fun p => some ([.c (.b p)], [])) := by kernel_rfl
theorem ok25x0 : FnOk Try.prog 25 sh25x0 (A25x0 N) :=
  (h25x0s1 N).fn progOk (T103x0_ok N) fun L x hx => ((raw25x0 N L).trans ((bind25x0 N ..).trans (alt1 x hx)))
noncomputable def T25x0 : Oracle := ext 25 (spSh sh25x0 (A25x0 N)) (T103x0 N)
theorem T25x0_ok : OracleOk Try.prog (T25x0 N) := FnOk.to (ok25x0 N) (T103x0_ok N)
noncomputable def rg48x0 : List (Nat × List Nat) := [(0, [0, 1]), (1, [2, 3])]
noncomputable def hd48x0 : Hints := [(4, [2, 3], [3, 2], [])]
noncomputable def h48x0s0 (N : Nat) : Sg Try.prog 0 48 := .start hd48x0 rg48x0
noncomputable def F48x0x4 (w0 w1 w2 : Int) (w4 w6 : LD) (w7 w8 w9 : Int) (w11 w13 : LD) (k0 : Bool → Option R) : Option R :=
  bnd (bif (bif (w0 == w7) then (w1 == w8) else false) then (w2 == w9) else false) fun y0 =>
  bif y0 then
    bnd (G103x0 N w4 w11) fun y1 =>
    bif y1.isSome then
      bif (y1.getD default) then
        bnd (G25x0 N w6 w13) fun y2 =>
        bif y2.isSome then
          k0 (y2.getD default)
        else
          none
      else
        k0 false
    else
      none
  else
    k0 false
noncomputable def G48x0x4 (w0 w1 w2 : Int) (w4 w6 : LD) (w7 w8 w9 : Int) (w11 w13 : LD) : Option (Bool) := F48x0x4 N w0 w1 w2 w4 w6 w7 w8 w9 w11 w13 (fun p => some p)
theorem bind48x0x4 (w0 w1 w2 : Int) (w4 w6 : LD) (w7 w8 w9 : Int) (w11 w13 : LD) (k0 : Bool → Option R) : F48x0x4 N w0 w1 w2 w4 w6 w7 w8 w9 w11 w13 k0 = (G48x0x4 N w0 w1 w2 w4 w6 w7 w8 w9 w11 w13).bind k0 := by
  unfold G48x0x4 F48x0x4
  repeat' (first | with_reducible apply cond_b | (with_reducible apply bnd_b; intro _) | rfl)
noncomputable def J48x0x4 (L : List Lf) (k0 : Bool → Option R) : Option R := F48x0x4 N (li L 0) (li L 1) (li L 2) (ll L 4) (ll L 6) (li L 7) (li L 8) (li L 9) (ll L 11) (ll L 13) k0
noncomputable def sh48x0x4 : Sh := { tmps := [(2, .c (.p 2 0)), (3, .c (.p 3 0))], mem := [(2, .box ([.i .i64, .i .i64, .i .i64, .sl 103, .sl 5])), (3, .box ([.i .i64, .i .i64, .i .i64, .sl 103, .sl 5]))] }
noncomputable def A48x0x4 (L : List Lf) : List (Bool × (Ex × St)) := bnd (J48x0x4 N L (fun p => some p)) fun q => [(q.isSome, (.normal, ⟨[(4, .c (.b (q.getD default)))], []⟩))]
theorem raw48x0x4 (L : List Lf) : pc Try.prog (T25x0 N) (h48x0s0 N).h 0 100 48 4 sh48x0x4 L [4] [] = J48x0x4 N L (fun p => some (.normal, ⟨[(4, .c (.b p))], []⟩)) := by kernel_rfl
noncomputable def h48x0s1 : Sg Try.prog 0 48 :=
  (h48x0s0 N).cut (A48x0x4 N) progOk (T25x0_ok N) fun L x hx => (raw48x0x4 N L).trans ((bind48x0x4 N ..).trans (alt1 x hx))
noncomputable def F48x0 (v0 v1 v2 : Int) (v4 v6 : LD) (v7 v8 v9 : Int) (v11 v13 : LD) (k0 : Bool → Option R) : Option R :=
  bnd (G48x0x4 N v0 v1 v2 v4 v6 v7 v8 v9 v11 v13) fun y0 =>
  bif y0.isSome then
    k0 (y0.getD default)
  else
    none
noncomputable def G48x0 (v0 v1 v2 : Int) (v4 v6 : LD) (v7 v8 v9 : Int) (v11 v13 : LD) : Option (Bool) := F48x0 N v0 v1 v2 v4 v6 v7 v8 v9 v11 v13 (fun p => some p)
theorem bind48x0 (v0 v1 v2 : Int) (v4 v6 : LD) (v7 v8 v9 : Int) (v11 v13 : LD) (k0 : Bool → Option R) : F48x0 N v0 v1 v2 v4 v6 v7 v8 v9 v11 v13 k0 = (G48x0 N v0 v1 v2 v4 v6 v7 v8 v9 v11 v13).bind k0 := by
  unfold G48x0 F48x0
  repeat' (first | with_reducible apply cond_b | (with_reducible apply bnd_b; intro _) | rfl)
noncomputable def J48x0 (L : List Lf) (k0 : Bool → Option R) : Option R := F48x0 N (li L 0) (li L 1) (li L 2) (ll L 4) (ll L 6) (li L 7) (li L 8) (li L 9) (ll L 11) (ll L 13) k0
noncomputable def sh48x0 : Sh := { tmps := [(0, .g ([.i .i64, .i .i64, .i .i64, .sl 103, .sl 5])), (1, .g ([.i .i64, .i .i64, .i .i64, .sl 103, .sl 5]))], mem := [] }
noncomputable def A48x0 (L : List Lf) : List (Bool × Res) := bnd (J48x0 N L (fun p => some p)) fun q => [(q.isSome, ([.c (.b (q.getD default))], []))]
theorem raw48x0 (L : List Lf) : bd Try.prog (T25x0 N) (h48x0s1 N).h 48 sh48x0 L = J48x0 N L (fun p => some ([.c (.b p)], [])) := by kernel_rfl
theorem ok48x0 : FnOk Try.prog 48 sh48x0 (A48x0 N) :=
  (h48x0s1 N).fn progOk (T25x0_ok N) fun L x hx => ((raw48x0 N L).trans ((bind48x0 N ..).trans (alt1 x hx)))
noncomputable def T48x0 : Oracle := ext 48 (spSh sh48x0 (A48x0 N)) (T25x0 N)
theorem T48x0_ok : OracleOk Try.prog (T48x0 N) := FnOk.to (ok48x0 N) (T25x0_ok N)
noncomputable def rg77x0 : List (Nat × List Nat) := [(0, [0, 1, 2]), (1, [0, 1, 2]), (2, []), (3, [0, 1, 2]), (4, [17, 16, 15, 1, 2]), (5, [17, 15, 1, 2, 16]), (6, [1, 7, 2, 8, 17, 16, 15]), (7, [2, 8, 9, 17, 16, 15, 1]), (8, []), (9, [17, 16, 15, 1, 2]), (10, [])]
noncomputable def hd77x0 : Hints := [(12, [17, 16, 15, 1, 2], [], [])]
noncomputable def h77x0s0 (N : Nat) : Sg Try.prog 0 77 := .start hd77x0 rg77x0
noncomputable def S77x0x12 (w1 w3 : LD) (w4 : Int) (w5 : Int) (kr : Int → Option R) (k0 : Unit → Option R) (k1 : Unit → Option R) : Option R :=
  bif (decide (w5 < w4)) then
    bif (inB w5 w3.length) then
      bif (inB w5 w1.length) then
        bnd (G48x0 N ((w3.getD w5.toNat (.i 0)).cell 0).toI ((w3.getD w5.toNat (.i 0)).cell 1).toI ((w3.getD w5.toNat (.i 0)).cell 2).toI ((w3.getD w5.toNat (.i 0)).cell 3).items ((w3.getD w5.toNat (.i 0)).cell 4).items ((w1.getD w5.toNat (.i 0)).cell 0).toI ((w1.getD w5.toNat (.i 0)).cell 1).toI ((w1.getD w5.toNat (.i 0)).cell 2).toI ((w1.getD w5.toNat (.i 0)).cell 3).items ((w1.getD w5.toNat (.i 0)).cell 4).items) fun y0 =>
        bif y0.isSome then
          bif (!(y0.getD default)) then
            k0 ()
          else
            kr (IntKind.wrap .i64 (w5 + 1))
        else
          none
      else
        none
    else
      none
  else
    k1 ()
noncomputable def L77x0x12 (N : Nat) {R : Type} (w1 w3 : LD) (w4 : Int) : Nat → Int → (Unit → Option R) → (Unit → Option R) → Option R
  | 0, _, _, _ => none
  | m + 1, w5, k0, k1 => S77x0x12 N w1 w3 w4 w5 (fun w5 => L77x0x12 N w1 w3 w4 m w5 k0 k1) k0 k1
noncomputable def G77x0x12 (w1 w3 : LD) (w4 : Int) (w5 : Int) : Option (Sum (Unit) (Unit)) := L77x0x12 N (R := (Sum (Unit) (Unit))) w1 w3 w4 N w5 (fun p => some (.inl p)) (fun p => some (.inr p))
noncomputable def J77x0x12 (L x : List Lf) (kr : List Lf → Option R) (k0 : Unit → Option R) (k1 : Unit → Option R) : Option R := S77x0x12 N (ll L 1) (ll L 3) (li L 4) (li x 0) (fun w5 => kr [.i w5]) k0 k1
theorem sb77x0x12 (L x : List Lf) (kr : List Lf → Option R) (k0 : Unit → Option R) (k1 : Unit → Option R) : J77x0x12 N L x kr k0 k1 = (J77x0x12 N L x (fun y => some (.inl y)) (fun p => some (.inr (.inl p))) (fun p => some (.inr (.inr p)))).bind (sumE kr (sumE k0 k1)) := by
  unfold J77x0x12 S77x0x12
  repeat' (first | with_reducible apply cond_b | (with_reducible apply bnd_b; intro _) | rfl)
noncomputable def Q77x0x12 (L : List Lf) (m : Nat) (x : List Lf) : Option (Sum (Unit) (Unit)) := L77x0x12 N (R := (Sum (Unit) (Unit))) (ll L 1) (ll L 3) (li L 4) m (li x 0) (fun p => some (.inl p)) (fun p => some (.inr p))
noncomputable def sh77x0x12 : Sh := { tmps := [(1, .c (.sl 53)), (2, .c (.f 48 [])), (15, .c (.sl 53)), (16, .c (.i .i64)), (17, .c (.i .i64))], mem := [] }
noncomputable def A77x0x12 (L : List Lf) : List (Bool × (Ex × St)) := bnd (Q77x0x12 N L N (pk sh77x0x12 [5] L)) fun q => [((inlB q), (.ret, ⟨[(6, .c (.b false))], []⟩)), ((inrQ q).isSome, ((.exit 0), ⟨[], []⟩))]
theorem step77x0x12 (m : Nat) (kn : St → Option (Ex × St)) (L x : List Lf) : lpB Try.prog (T48x0 N) (h77x0s0 N).h 0 77 12 sh77x0x12 [5] [6] [] (m + 100) kn L x = J77x0x12 N L x (fun y => kn (ofSh sh77x0x12 (mx sh77x0x12 [5] L y))) (fun _ => some (.ret, ⟨[(6, .c (.b false))], []⟩)) (fun _ => some ((.exit 0), ⟨[], []⟩)) := by kernel_rfl
theorem ql77x0x12 (L : List Lf) (m : Nat) (x : List Lf) : Q77x0x12 N L (m + 1) x = J77x0x12 N L x (Q77x0x12 N L m) (fun p => some (.inl p)) (fun p => some (.inr p)) := by kernel_rfl
noncomputable def h77x0s1 : Sg Try.prog 0 77 :=
  (h77x0s0 N).lp (A77x0x12 N) N progOk (T48x0_ok N) (fun m kn L x => (step77x0x12 N m kn L x).trans (sb77x0x12 N L x _ _ _)) (fun L m x => (ql77x0x12 N L m x).trans (sb77x0x12 N L x (Q77x0x12 N L m) (fun p => some (.inl p)) (fun p => some (.inr p)))) fun L x hx => (altS alt1) x hx
noncomputable def F77x0 (v1 v3 : LD) (k0 : Bool → Option R) : Option R :=
  bif ((v1.length : Int) != (v3.length : Int)) then
    k0 false
  else
    bnd (G77x0x12 N v3 v1 (v1.length : Int) 0) fun y0 =>
    bif (inlB y0) then
      k0 false
    else
      bif (inrQ y0).isSome then
        k0 true
      else
        none
noncomputable def G77x0 (v1 v3 : LD) : Option (Bool) := F77x0 N v1 v3 (fun p => some p)
theorem bind77x0 (v1 v3 : LD) (k0 : Bool → Option R) : F77x0 N v1 v3 k0 = (G77x0 N v1 v3).bind k0 := by
  unfold G77x0 F77x0
  repeat' (first | with_reducible apply cond_b | (with_reducible apply bnd_b; intro _) | rfl)
noncomputable def sh77x0 : Sh := { tmps := [(0, .c (.sl 53)), (1, .c (.sl 53)), (2, .c (.f 48 []))], mem := [] }
noncomputable def A77x0 (L : List Lf) : List (Bool × Res) := bnd (F77x0 N (ll L 1) (ll L 3) (fun p => some p)) fun q => [(q.isSome, ([.c (.b (q.getD default))], []))]
theorem raw77x0 (L : List Lf) : bd Try.prog (T48x0 N) (h77x0s1 N).h 77 sh77x0 L = F77x0 N (ll L 1) (ll L 3) (fun p => some ([.c (.b p)], [])) := by kernel_rfl
theorem ok77x0 : FnOk Try.prog 77 sh77x0 (A77x0 N) :=
  (h77x0s1 N).fn progOk (T48x0_ok N) fun L x hx => ((raw77x0 N L).trans ((bind77x0 N ..).trans (alt1 x hx)))
noncomputable def T77x0 : Oracle := ext 77 (spSh sh77x0 (A77x0 N)) (T48x0 N)
theorem T77x0_ok : OracleOk Try.prog (T77x0 N) := FnOk.to (ok77x0 N) (T48x0_ok N)
noncomputable def rg28x0 : List (Nat × List Nat) := [(0, [0, 1]), (1, [2, 3])]
noncomputable def hd28x0 : Hints := []
noncomputable def h28x0s0 (N : Nat) : Sg Try.prog 0 28 := .start hd28x0 rg28x0
noncomputable def F28x0 (v1 v3 : LD) (k0 : Bool → Option R) : Option R :=
  bnd (G77x0 N v1 v3) fun y0 =>
  bif y0.isSome then
    k0 (y0.getD default)
  else
    none
noncomputable def G28x0 (v1 v3 : LD) : Option (Bool) := F28x0 N v1 v3 (fun p => some p)
theorem bind28x0 (v1 v3 : LD) (k0 : Bool → Option R) : F28x0 N v1 v3 k0 = (G28x0 N v1 v3).bind k0 := by
  unfold G28x0 F28x0
  repeat' (first | with_reducible apply cond_b | (with_reducible apply bnd_b; intro _) | rfl)
noncomputable def sh28x0 : Sh := { tmps := [(0, .g ([.sl 53])), (1, .g ([.sl 53]))], mem := [] }
noncomputable def A28x0 (L : List Lf) : List (Bool × Res) := bnd (F28x0 N (ll L 1) (ll L 3) (fun p => some p)) fun q => [(q.isSome, ([.c (.b (q.getD default))], []))]
theorem raw28x0 (L : List Lf) : bd Try.prog (T77x0 N) (h28x0s0 N).h 28 sh28x0 L = F28x0 N (ll L 1) (ll L 3) (fun p => some ([.c (.b p)], [])) := by kernel_rfl
theorem ok28x0 : FnOk Try.prog 28 sh28x0 (A28x0 N) :=
  (h28x0s0 N).fn progOk (T77x0_ok N) fun L x hx => ((raw28x0 N L).trans ((bind28x0 N ..).trans (alt1 x hx)))
noncomputable def T28x0 : Oracle := ext 28 (spSh sh28x0 (A28x0 N)) (T77x0 N)
theorem T28x0_ok : OracleOk Try.prog (T28x0 N) := FnOk.to (ok28x0 N) (T77x0_ok N)
noncomputable def rg7x0 : List (Nat × List Nat) := [(0, [0]), (1, [0]), (2, [0, 3, 4, 5]), (3, [0, 3, 6, 4, 7, 5, 8]), (4, [0, 3, 6, 4, 7, 5, 8, 9, 10]), (5, [3, 6, 4, 7, 5, 8, 9, 11, 10, 12, 0])]
noncomputable def hd7x0 : Hints := [(16, [3, 6, 4, 7, 5, 8, 9, 11, 10, 12, 0], [11, 9, 6, 3], [])]
noncomputable def h7x0s0 (N : Nat) : Sg Try.prog 0 7 := .start hd7x0 rg7x0
noncomputable def F7x0x16 (w1 : LD) (w2 w3 w4 w5 w6 w7 : Int) (w9 w11 w13 w15 : LD) (k0 : Bool → Option R) : Option R :=
  bnd (G28x0 N w9 w11) fun y0 =>
  bif y0.isSome then
    bnd (bif (bif (y0.getD default) then (w2 == w4) else false) then (w3 == w5) else false) fun y1 =>
    bif y1 then
      bnd (G28x0 N w13 w15) fun y2 =>
      bif y2.isSome then
        bif (bif (y2.getD default) then (w6 == w7) else false) then
          bnd (G39x0 N w1) fun y3 =>
          bif y3.isSome then
            bnd (G40x0 N w1) fun y4 =>
            bif y4.isSome then
              bif ((y3.getD default) == (y4.getD default)) then
                bnd (G17x0 N) fun y5 =>
                bif y5.isSome then
                  k0 (y5.getD default)
                else
                  none
              else
                k0 false
            else
              none
          else
            none
        else
          k0 false
      else
        none
    else
      k0 false
  else
    none
noncomputable def G7x0x16 (w1 : LD) (w2 w3 w4 w5 w6 w7 : Int) (w9 w11 w13 w15 : LD) : Option (Bool) := F7x0x16 N w1 w2 w3 w4 w5 w6 w7 w9 w11 w13 w15 (fun p => some p)
theorem bind7x0x16 (w1 : LD) (w2 w3 w4 w5 w6 w7 : Int) (w9 w11 w13 w15 : LD) (k0 : Bool → Option R) : F7x0x16 N w1 w2 w3 w4 w5 w6 w7 w9 w11 w13 w15 k0 = (G7x0x16 N w1 w2 w3 w4 w5 w6 w7 w9 w11 w13 w15).bind k0 := by
  unfold G7x0x16 F7x0x16
  repeat' (first | with_reducible apply cond_b | (with_reducible apply bnd_b; intro _) | rfl)
noncomputable def J7x0x16 (L : List Lf) (k0 : Bool → Option R) : Option R := F7x0x16 N (ll L 1) (li L 2) (li L 3) (li L 4) (li L 5) (li L 6) (li L 7) (ll L 9) (ll L 11) (ll L 13) (ll L 15) k0
noncomputable def sh7x0x16 : Sh := { tmps := [(0, .c (.sl 5)), (3, .c (.p 3 0)), (4, .c (.i .i64)), (5, .c (.i .i64)), (6, .c (.p 6 0)), (7, .c (.i .i64)), (8, .c (.i .i64)), (9, .c (.p 9 0)), (10, .c (.i .i64)), (11, .c (.p 11 0)), (12, .c (.i .i64))], mem := [(3, .box ([.sl 53])), (6, .box ([.sl 53])), (9, .box ([.sl 53])), (11, .box ([.sl 53]))] }
noncomputable def A7x0x16 (L : List Lf) : List (Bool × (Ex × St)) := bnd (J7x0x16 N L (fun p => some p)) fun q => [(q.isSome, (.normal, ⟨[(2, .c (.b (q.getD default)))], []⟩))]
theorem raw7x0x16 (L : List Lf) : pc Try.prog (T28x0 N) (h7x0s0 N).h 0 100 7 16 sh7x0x16 L [2] [] = J7x0x16 N L (fun p => some (.normal, ⟨[(2, .c (.b p))], []⟩)) := by kernel_rfl
noncomputable def h7x0s1 : Sg Try.prog 0 7 :=
  (h7x0s0 N).cut (A7x0x16 N) progOk (T28x0_ok N) fun L x hx => (raw7x0x16 N L).trans ((bind7x0x16 N ..).trans (alt1 x hx))
noncomputable def F7x0 (v0 : Bool) (v1 : LD) (k0 : Bool → Option R) : Option R :=
  bnd (G35x0 N v0 v1) fun y0 =>
  bif y0.isSome then
    bnd (G36x0 N v1) fun y1 =>
    bif y1.isSome then
      bnd (G37x0 N v0 v1) fun y2 =>
      bif y2.isSome then
        bnd (G38x0 N v1) fun y3 =>
        bif y3.isSome then
          bnd (G7x0x16 N v1 (y0.getD default).2.2.1 (y0.getD default).2.2.2 (y1.getD default).2.2.1 (y1.getD default).2.2.2 (y2.getD default).2.2 (y3.getD default).2.2 (y0.getD default).2.1 (y1.getD default).2.1 (y2.getD default).2.1 (y3.getD default).2.1) fun y4 =>
          bif y4.isSome then
            k0 (y4.getD default)
          else
            none
        else
          none
      else
        none
    else
      none
  else
    none
noncomputable def G7x0 (v0 : Bool) (v1 : LD) : Option (Bool) := F7x0 N v0 v1 (fun p => some p)
theorem bind7x0 (v0 : Bool) (v1 : LD) (k0 : Bool → Option R) : F7x0 N v0 v1 k0 = (G7x0 N v0 v1).bind k0 := by
  unfold G7x0 F7x0
  repeat' (first | with_reducible apply cond_b | (with_reducible apply bnd_b; intro _) | rfl)
noncomputable def sh7x0 : Sh := { tmps := [(0, .c (.sl 5))], mem := [] }
noncomputable def A7x0 (L : List Lf) : List (Bool × Res) := bnd (F7x0 N (lb L 0) (ll L 1) (fun p => some p)) fun q => [(q.isSome, ([.c (.b (q.getD default))], []))]
theorem raw7x0 (L : List Lf) : bd Try.prog (T28x0 N) (h7x0s1 N).h 7 sh7x0 L = F7x0 N (lb L 0) (ll L 1) (fun p => some ([.c (.b p)], [])) := by kernel_rfl
theorem ok7x0 : FnOk Try.prog 7 sh7x0 (A7x0 N) :=
  (h7x0s1 N).fn progOk (T28x0_ok N) fun L x hx => ((raw7x0 N L).trans ((bind7x0 N ..).trans (alt1 x hx)))
noncomputable def T7x0 : Oracle := ext 7 (spSh sh7x0 (A7x0 N)) (T28x0 N)
theorem T7x0_ok : OracleOk Try.prog (T7x0 N) := FnOk.to (ok7x0 N) (T28x0_ok N)
noncomputable def rg18x1 : List (Nat × List Nat) := [(0, [0]), (1, [1]), (2, [4, 1]), (3, [4]), (4, [1])]
noncomputable def hd18x1 : Hints := []
noncomputable def h18x1s0 (N : Nat) : Sg Try.prog 0 18 := .start hd18x1 rg18x1
noncomputable def F18x1 (v1 : LD) (k0 : Bool × LD × Int → Option R) : Option R :=
  bnd (G22x0 N v1) fun y0 =>
  bif y0.isSome then
    bif ((y0.getD default) != 0) then
      k0 (true, [], (y0.getD default))
    else
      bnd (G63x0 N v1) fun y1 =>
      bif y1.isSome then
        k0 ((y1.getD default).1, (y1.getD default).2, 0)
      else
        none
  else
    none
noncomputable def G18x1 (v1 : LD) : Option (Bool × LD × Int) := F18x1 N v1 (fun p => some p)
theorem bind18x1 (v1 : LD) (k0 : Bool × LD × Int → Option R) : F18x1 N v1 k0 = (G18x1 N v1).bind k0 := by
  unfold G18x1 F18x1
  repeat' (first | with_reducible apply cond_b | (with_reducible apply bnd_b; intro _) | rfl)
noncomputable def sh18x1 : Sh := { tmps := [(0, .g ([.sl 53]))], mem := [] }
noncomputable def A18x1 (L : List Lf) : List (Bool × Res) := bnd (F18x1 N (ll L 1) (fun p => some p)) fun q => [(q.isSome, ([.c (.sl 3 (q.getD default).1 (q.getD default).2.1), .c (.i .i64 (q.getD default).2.2)], []))]
theorem raw18x1 (L : List Lf) : bd Try.prog (T7x0 N) (h18x1s0 N).h 18 sh18x1 L = F18x1 N (ll L 1) (fun p => some ([.c (.sl 3 p.1 p.2.1), .c (.i .i64 p.2.2)], [])) := by kernel_rfl
theorem ok18x1 : FnOk Try.prog 18 sh18x1 (A18x1 N) :=
  (h18x1s0 N).fn progOk (T7x0_ok N) fun L x hx => ((raw18x1 N L).trans ((bind18x1 N ..).trans (alt1 x hx)))
noncomputable def T18x1 : Oracle := ext 18 (spSh sh18x1 (A18x1 N)) (T7x0 N)
theorem T18x1_ok : OracleOk Try.prog (T18x1 N) := FnOk.to (ok18x1 N) (T7x0_ok N)
noncomputable def rg64x0 : List (Nat × List Nat) := [(0, [0]), (1, [1, 2]), (2, [1, 3, 2]), (3, [1, 4, 3, 2]), (4, [15, 14, 13, 4, 3, 2]), (5, [13, 15, 4, 3, 14, 2]), (6, [4, 6, 3, 15, 14, 13, 2]), (7, [6, 4, 3, 7, 15, 14, 13, 2]), (8, [6, 4, 3, 7, 15, 14, 13, 2, 8]), (9, [4, 6, 3, 7, 15, 14, 13, 2]), (10, [3, 8, 7, 15, 14, 13, 4, 2]), (11, [3, 7, 15, 14, 13, 4, 2]), (12, [15, 14, 13, 4, 3, 2]), (13, [3, 2])]
noncomputable def hd64x0 : Hints := [(12, [15, 14, 13, 4, 3, 2], [11, 3, 2, 50003001, 50003000], [50003001, 50003000]), (29, [4, 6, 3, 7, 15, 14, 13, 2, 8, 24], [6, 11, 50003001, 50003000, 3, 2], [])]
noncomputable def h64x0s0 (N : Nat) : Sg Try.prog 0 64 := .start hd64x0 rg64x0
noncomputable def F64x0x29 (N : Nat) (w7 : Bool) (w13 : Int) (w19 : D) (k0 : LD → Option R) (k1 : Unit → Option R) : Option R :=
  bif w7 then
    bif (inB w13 16) then
      k0 [(.a [(.b (w19.cell (16 + (w13.toNat * 3))).toB), (.i (w19.cell (17 + (w13.toNat * 3))).toI), (.l (w19.cell (18 + (w13.toNat * 3))).isNil (w19.cell (18 + (w13.toNat * 3))).items)])]
    else
      none
  else
    k1 ()
noncomputable def G64x0x29 (w7 : Bool) (w13 : Int) (w19 : D) : Option (Sum (LD) (Unit)) := F64x0x29 N w7 w13 w19 (fun p => some (.inl p)) (fun p => some (.inr p))
theorem bind64x0x29 (w7 : Bool) (w13 : Int) (w19 : D) (k0 : LD → Option R) (k1 : Unit → Option R) : F64x0x29 N w7 w13 w19 k0 k1 = (G64x0x29 N w7 w13 w19).bind (sumE k0 k1) := by
  unfold G64x0x29 F64x0x29
  repeat' (first | with_reducible apply cond_b | (with_reducible apply bnd_b; intro _) | rfl)
noncomputable def sh64x0x29 : Sh := { tmps := [(2, .c (.p 2 0)), (3, .c (.p 3 0)), (4, .c (.p 11 0)), (6, .c (.p 6 0)), (7, .c (.i .i64)), (8, .c (.sl 103)), (13, .c (.sl 53)), (14, .c (.i .i64)), (15, .c (.i .i64)), (24, .c (.b))], mem := [(2, .box ([.sl 51, .sl 3])), (3, .box ([.o 50003000, .o 50003001])), (6, .box ([.i .i64, .i .i64, .i .i64, .sl 103, .sl 5])), (11, .dat 106), (50003000, .row 51 true), (50003001, .row 3 true)] }
noncomputable def K64x0x29w0 (L : List Lf) (p : LD) : Ex × St := (.normal, mg (ofSh sh64x0x29 L) [2, 3, 4, 7, 8, 13, 14, 15] [(8, .c (.o 32))] [2, 3, 11, 32, 50003000, 50003001] [(32, .row 103 true false p)])
noncomputable def K64x0x29w1 (L : List Lf) (_ : Unit) : Ex × St := (.normal, mg (ofSh sh64x0x29 L) [2, 3, 4, 7, 8, 13, 14, 15] [] [2, 3, 11, 50003000, 50003001] [])
noncomputable def A64x0x29 (L : List Lf) : List (Bool × (Ex × St)) := bnd (F64x0x29 N (lb L 7) (li L 13) (ld L 19) (fun p => some (.inl p)) (fun p => some (.inr p))) fun q => [((inlB q), K64x0x29w0 L (inlV q)), ((inrQ q).isSome, K64x0x29w1 L ())]
theorem raw64x0x29 (L : List Lf) : pc Try.prog (T18x1 N) (h64x0s0 N).h 0 100 64 29 sh64x0x29 L [3, 8, 7, 15, 14, 13, 4, 2] [32, 11, 50003001, 50003000, 3, 2] = F64x0x29 N (lb L 7) (li L 13) (ld L 19) (fun p => some (K64x0x29w0 L p)) (fun _ => some (K64x0x29w1 L ())) := by kernel_rfl
noncomputable def h64x0s1 : Sg Try.prog 0 64 :=
  (h64x0s0 N).cut (A64x0x29 N) progOk (T18x1_ok N) fun L x hx => (raw64x0x29 N L).trans ((bind64x0x29 N ..).trans ((altS alt1) x hx))
noncomputable def S64x0x12 (w1 : LD) (w2 : Int) (w3 : Int) (w8 : D) (w9 : Bool) (w10 : LD) (w11 : Bool) (w12 : LD) (kr : Int → D → Bool → LD → Bool → LD → Option R) (k0 : Ty2 → Option R) : Option R :=
  bif (decide (w3 < w2)) then
    bif (inB w3 w1.length) then
      bnd (G74x0 N ((w1.getD w3.toNat (.i 0)).cell 0).toI ((w1.getD w3.toNat (.i 0)).cell 1).toI ((w1.getD w3.toNat (.i 0)).cell 2).toI ((w1.getD w3.toNat (.i 0)).cell 3).items ((w1.getD w3.toNat (.i 0)).cell 4).items w8) fun y0 =>
      bif y0.isSome then
        bnd (G64x0x29 N (((w1.getD w3.toNat (.i 0)).cell 0).toI != 1) ((w1.getD w3.toNat (.i 0)).cell 1).toI (y0.getD default).2) fun y1 =>
        bif (inlB y1) then
          bif (decide ((w10.length + 1) * 24 ≤ room) && decide ((w10.length + 1) ≤ strMax)) then
            bif (decide ((w12.length + 1) * 8 ≤ room) && decide ((w12.length + 1) ≤ strMax)) then
              kr (IntKind.wrap .i64 (w3 + 1)) (y0.getD default).2 false (w10 ++ [(.l false (inlV y1))]) false (w12 ++ [(.i (y0.getD default).1)])
            else
              none
          else
            none
        else
          bif (inrQ y1).isSome then
            bif (decide ((w10.length + 1) * 24 ≤ room) && decide ((w10.length + 1) ≤ strMax)) then
              bif (decide ((w12.length + 1) * 8 ≤ room) && decide ((w12.length + 1) ≤ strMax)) then
                kr (IntKind.wrap .i64 (w3 + 1)) (y0.getD default).2 false (w10 ++ [(.l true [])]) false (w12 ++ [(.i (y0.getD default).1)])
              else
                none
            else
              none
          else
            none
      else
        none
    else
      none
  else
    k0 (w9, w10, w11, w12)
noncomputable def L64x0x12 (N : Nat) {R : Type} (w1 : LD) (w2 : Int) : Nat → Int → D → Bool → LD → Bool → LD → (Ty2 → Option R) → Option R
  | 0, _, _, _, _, _, _, _ => none
  | m + 1, w3, w8, w9, w10, w11, w12, k0 => S64x0x12 N w1 w2 w3 w8 w9 w10 w11 w12 (fun w3 w8 w9 w10 w11 w12 => L64x0x12 N w1 w2 m w3 w8 w9 w10 w11 w12 k0) k0
noncomputable def G64x0x12 (w1 : LD) (w2 : Int) (w3 : Int) (w8 : D) (w9 : Bool) (w10 : LD) (w11 : Bool) (w12 : LD) : Option (Ty2) := L64x0x12 N (R := (Ty2)) w1 w2 N w3 w8 w9 w10 w11 w12 (fun p => some p)
noncomputable def J64x0x12 (L x : List Lf) (kr : List Lf → Option R) (k0 : Ty2 → Option R) : Option R := S64x0x12 N (ll L 1) (li L 2) (li x 0) (ld x 1) (lb x 2) (ll x 3) (lb x 4) (ll x 5) (fun w3 w8 w9 w10 w11 w12 => kr [.i w3, .d w8, .b w9, .l w10, .b w11, .l w12]) k0
theorem sb64x0x12 (L x : List Lf) (kr : List Lf → Option R) (k0 : Ty2 → Option R) : J64x0x12 N L x kr k0 = (J64x0x12 N L x (fun y => some (.inl y)) (fun p => some (.inr p))).bind (sumE kr k0) := by
  unfold J64x0x12 S64x0x12
  repeat' (first | with_reducible apply cond_b | (with_reducible apply bnd_b; intro _) | rfl)
noncomputable def Q64x0x12 (L : List Lf) (m : Nat) (x : List Lf) : Option (Ty2) := L64x0x12 N (R := (Ty2)) (ll L 1) (li L 2) m (li x 0) (ld x 1) (lb x 2) (ll x 3) (lb x 4) (ll x 5) (fun p => some p)
noncomputable def sh64x0x12 : Sh := { tmps := [(2, .c (.p 2 0)), (3, .c (.p 3 0)), (4, .c (.p 11 0)), (13, .c (.sl 53)), (14, .c (.i .i64)), (15, .c (.i .i64))], mem := [(2, .box ([.sl 51, .sl 3])), (3, .box ([.o 50003000, .o 50003001])), (11, .dat 106), (50003000, .row 51 true), (50003001, .row 3 true)] }
noncomputable def K64x0x12w0 (L : List Lf) (p : Ty2) : Ex × St := ((.exit 0), mg (ofSh sh64x0x12 L) [2, 3] [] [2, 3, 50003000, 50003001] [(50003000, .row 51 true p.1 p.2.1), (50003001, .row 3 true p.2.2.1 p.2.2.2)])
noncomputable def A64x0x12 (L : List Lf) : List (Bool × (Ex × St)) := bnd (Q64x0x12 N L N (pk sh64x0x12 [3, 8, 9, 10, 11, 12] L)) fun q => [(q.isSome, K64x0x12w0 L (q.getD default))]
theorem step64x0x12 (m : Nat) (kn : St → Option (Ex × St)) (L x : List Lf) : lpB Try.prog (T18x1 N) (h64x0s1 N).h 0 64 12 sh64x0x12 [3, 8, 9, 10, 11, 12] [2, 3] [50003001, 50003000, 3, 2] (m + 100) kn L x = J64x0x12 N L x (fun y => kn (ofSh sh64x0x12 (mx sh64x0x12 [3, 8, 9, 10, 11, 12] L y))) (fun p => some (K64x0x12w0 L p)) := by kernel_rfl
theorem ql64x0x12 (L : List Lf) (m : Nat) (x : List Lf) : Q64x0x12 N L (m + 1) x = J64x0x12 N L x (Q64x0x12 N L m) some := by kernel_rfl
noncomputable def h64x0s2 : Sg Try.prog 0 64 :=
  (h64x0s1 N).lp (A64x0x12 N) N progOk (T18x1_ok N) (fun m kn L x => (step64x0x12 N m kn L x).trans (sb64x0x12 N L x _ _)) (fun L m x => (ql64x0x12 N L m x).trans (sb64x0x12 N L x (Q64x0x12 N L m) some)) fun L x hx => alt1 x hx
noncomputable def F64x0 (v1 : LD) (k0 : Ty2 → Option R) : Option R :=
  bnd ((.a [(.b false), (.b false), (.b false), (.b false), (.b false), (.b false), (.b false), (.b false), (.b false), (.b false), (.b false), (.b false), (.b false), (.b false), (.b false), (.b false), (.b false), (.i 0), (.l true []), (.b false), (.i 0), (.l true []), (.b false), (.i 0), (.l true []), (.b false), (.i 0), (.l true []), (.b false), (.i 0), (.l true []), (.b false), (.i 0), (.l true []), (.b false), (.i 0), (.l true []), (.b false), (.i 0), (.l true []), (.b false), (.i 0), (.l true []), (.b false), (.i 0), (.l true []), (.b false), (.i 0), (.l true []), (.b false), (.i 0), (.l true []), (.b false), (.i 0), (.l true []), (.b false), (.i 0), (.l true []), (.b false), (.i 0), (.l true []), (.b false), (.i 0), (.l true []), (.i (-1))]) : D) fun y0 =>
  bnd (G64x0x12 N v1 (v1.length : Int) 0 y0 true [] true []) fun y1 =>
  bif y1.isSome then
    k0 (y1.getD default)
  else
    none
noncomputable def G64x0 (v1 : LD) : Option (Ty2) := F64x0 N v1 (fun p => some p)
theorem bind64x0 (v1 : LD) (k0 : Ty2 → Option R) : F64x0 N v1 k0 = (G64x0 N v1).bind k0 := by
  unfold G64x0 F64x0
  repeat' (first | with_reducible apply cond_b | (with_reducible apply bnd_b; intro _) | rfl)
noncomputable def sh64x0 : Sh := { tmps := [(0, .g ([.sl 53]))], mem := [] }
noncomputable def A64x0 (L : List Lf) : List (Bool × Res) := bnd (F64x0 N (ll L 1) (fun p => some p)) fun q => [(q.isSome, ([.g [.sl 51 (q.getD default).1 (q.getD default).2.1, .sl 3 (q.getD default).2.2.1 (q.getD default).2.2.2]], []))]
theorem raw64x0 (L : List Lf) : bd Try.prog (T18x1 N) (h64x0s2 N).h 64 sh64x0 L = F64x0 N (ll L 1) (fun p => some ([.g [.sl 51 p.1 p.2.1, .sl 3 p.2.2.1 p.2.2.2]], [])) := by kernel_rfl
theorem ok64x0 : FnOk Try.prog 64 sh64x0 (A64x0 N) :=
  (h64x0s2 N).fn progOk (T18x1_ok N) fun L x hx => ((raw64x0 N L).trans ((bind64x0 N ..).trans (alt1 x hx)))
noncomputable def T64x0 : Oracle := ext 64 (spSh sh64x0 (A64x0 N)) (T18x1 N)
theorem T64x0_ok : OracleOk Try.prog (T64x0 N) := FnOk.to (ok64x0 N) (T18x1_ok N)
noncomputable def rg19x0 : List (Nat × List Nat) := [(0, [0]), (1, [1]), (2, [4, 1]), (3, [4]), (4, [1])]
noncomputable def hd19x0 : Hints := []
noncomputable def h19x0s0 (N : Nat) : Sg Try.prog 0 19 := .start hd19x0 rg19x0
noncomputable def F19x0 (v1 : LD) (k0 : Bool × LD × Int → Option R) : Option R :=
  bnd (G23x0 N v1) fun y0 =>
  bif y0.isSome then
    bif ((y0.getD default) != 0) then
      k0 (true, [], (y0.getD default))
    else
      bnd (G64x0 N v1) fun y1 =>
      bif y1.isSome then
        k0 ((y1.getD default).2.2.1, (y1.getD default).2.2.2, 0)
      else
        none
  else
    none
noncomputable def G19x0 (v1 : LD) : Option (Bool × LD × Int) := F19x0 N v1 (fun p => some p)
theorem bind19x0 (v1 : LD) (k0 : Bool × LD × Int → Option R) : F19x0 N v1 k0 = (G19x0 N v1).bind k0 := by
  unfold G19x0 F19x0
  repeat' (first | with_reducible apply cond_b | (with_reducible apply bnd_b; intro _) | rfl)
noncomputable def sh19x0 : Sh := { tmps := [(0, .g ([.sl 53]))], mem := [] }
noncomputable def A19x0 (L : List Lf) : List (Bool × Res) := bnd (F19x0 N (ll L 1) (fun p => some p)) fun q => [(q.isSome, ([.c (.sl 3 (q.getD default).1 (q.getD default).2.1), .c (.i .i64 (q.getD default).2.2)], []))]
theorem raw19x0 (L : List Lf) : bd Try.prog (T64x0 N) (h19x0s0 N).h 19 sh19x0 L = F19x0 N (ll L 1) (fun p => some ([.c (.sl 3 p.1 p.2.1), .c (.i .i64 p.2.2)], [])) := by kernel_rfl
theorem ok19x0 : FnOk Try.prog 19 sh19x0 (A19x0 N) :=
  (h19x0s0 N).fn progOk (T64x0_ok N) fun L x hx => ((raw19x0 N L).trans ((bind19x0 N ..).trans (alt1 x hx)))
noncomputable def T19x0 : Oracle := ext 19 (spSh sh19x0 (A19x0 N)) (T64x0 N)
theorem T19x0_ok : OracleOk Try.prog (T19x0 N) := FnOk.to (ok19x0 N) (T64x0_ok N)
end Go.Proofs.Ytnnofignhdijiaa
