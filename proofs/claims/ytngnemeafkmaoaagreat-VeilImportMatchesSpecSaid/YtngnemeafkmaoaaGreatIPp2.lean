/- Functions of the program as plain Lean definitions, each with the proof that the program computes it. No condition. Printed by a program of the prover, part 2. -/
import Derived.Test.YtngnemeafkmaoaaGreatIPp1
import Derived.KernelRfl
set_option linter.all false
set_option maxRecDepth 100000
namespace Go.Proofs.YtngnemeafkmaoaaGreat
open Go Go.AM
noncomputable section
variable (N : Nat) {R : Type}
theorem sb168x0x18 (L x : List Lf) (kr : List Lf → Option R) (k0 : Int → Option R) (k1 : Unit → Option R) : J168x0x18 N L x kr k0 k1 = (J168x0x18 N L x (fun y => some (.inl y)) (fun p => some (.inr (.inl p))) (fun p => some (.inr (.inr p)))).bind (sumE kr (sumE k0 k1)) := by
 unfold J168x0x18 S168x0x18
 repeat' (first | with_reducible apply cond_b | (with_reducible apply bnd_b; intro _) | rfl)
def Q168x0x18 (L : List Lf) (m : Nat) (x : List Lf) : Option (Sum (Int) (Unit)) := L168x0x18 N (R := (Sum (Int) (Unit))) (ll L 1) (li L 2) (ll L 7) m (li x 0) (fun p => some (.inl p)) (fun p => some (.inr p))
def sh168x0x18 : Sh := { tmps := [(1, .c (.p 1 0)), (15, .c (.sl 136)), (16, .c (.i .i64)), (17, .c (.i .i64))], mem := [(1, .box ([.b, .i .i64, .sl 136]))] }
def A168x0x18 (L : List Lf) : List (Bool × (Ex × St)) := bnd (Q168x0x18 N L N (pk sh168x0x18 [3] L)) fun q => [((inlB q), (.ret, ⟨[(2, .c (.i .i64 (inlV q)))], []⟩)), ((inrQ q).isSome, ((.exit 0), ⟨[], []⟩))]
theorem step168x0x18 (m : Nat) (kn : St → Option (Ex × St)) (L x : List Lf) : lpB Tryz.prog (T132x0 N) (h168x0s2 N).h 0 168 18 sh168x0x18 [3] [2] [] (m + 100) kn L x = J168x0x18 N L x (fun y => kn (ofSh sh168x0x18 (mx sh168x0x18 [3] L y))) (fun p => some (.ret, ⟨[(2, .c (.i .i64 p))], []⟩)) (fun _ => some ((.exit 0), ⟨[], []⟩)) := by kernel_rfl
theorem ql168x0x18 (L : List Lf) (m : Nat) (x : List Lf) : Q168x0x18 N L (m + 1) x = J168x0x18 N L x (Q168x0x18 N L m) (fun p => some (.inl p)) (fun p => some (.inr p)) := by kernel_rfl
def h168x0s3 : Sg Tryz.prog 0 168 :=
 (h168x0s2 N).lp (A168x0x18 N) N progOk (T132x0_ok N) (fun m kn L x => (step168x0x18 N m kn L x).trans (sb168x0x18 N L x _ _ _)) (fun L m x => (ql168x0x18 N L m x).trans (sb168x0x18 N L x (Q168x0x18 N L m) (fun p => some (.inl p)) (fun p => some (.inr p)))) fun L x hx => (altS alt1) x hx
def F168x0 (v1 : Int) (v3 : LD) (k0 : Int → Option R) : Option R :=
 bnd (V132x0 N v1 0 65535) fun y0 =>
 bif y0 then
  k0 9
 else
  bif (decide ((v3.length : Int) > 30)) then
   k0 3
  else
   bnd (G168x0x18 N v3 (v3.length : Int) v3 0) fun y1 =>
   bif (inlB y1) then
    k0 (inlV y1)
   else
    bif (inrQ y1).isSome then
     k0 0
    else
     none
def G168x0 (v1 : Int) (v3 : LD) : Option (Int) := F168x0 N v1 v3 (fun p => some p)
theorem bind168x0 (v1 : Int) (v3 : LD) (k0 : Int → Option R) : F168x0 N v1 v3 k0 = (G168x0 N v1 v3).bind k0 := by
 unfold G168x0 F168x0
 repeat' (first | with_reducible apply cond_b | (with_reducible apply bnd_b; intro _) | rfl)
def sh168x0 : Sh := { tmps := [(0, .g ([.b, .i .i64, .sl 136]))], mem := [] }
def A168x0 (L : List Lf) : List (Bool × Res) := bnd (F168x0 N (li L 1) (ll L 3) (fun p => some p)) fun q => [(q.isSome, ([.c (.i .i64 (q.getD default))], []))]
theorem raw168x0 (L : List Lf) : bd Tryz.prog (T132x0 N) (h168x0s3 N).h 168 sh168x0 L = F168x0 N (li L 1) (ll L 3) (fun p => some ([.c (.i .i64 p)], [])) := by kernel_rfl
theorem ok168x0 : FnOk Tryz.prog 168 sh168x0 (A168x0 N) :=
 (h168x0s3 N).fn progOk (T132x0_ok N) fun L x hx => ((raw168x0 N L).trans ((bind168x0 N ..).trans (alt1 x hx)))
def T168x0 : Oracle := ext 168 (spSh sh168x0 (A168x0 N)) (T132x0 N)
theorem T168x0_ok : OracleOk Tryz.prog (T168x0 N) := FnOk.to (ok168x0 N) (T132x0_ok N)
def rg129x0 : List (Nat × List Nat) := [(0, [1, 0]), (1, [3, 0]), (2, []), (3, [3, 0]), (4, [3, 0, 5, 6]), (5, [3, 0]), (6, [3, 5, 6, 0]), (7, []), (8, [3, 0]), (9, [3]), (10, []), (11, [3]), (12, [3, 0]), (13, []), (14, [0, 3]), (15, []), (16, [0, 3]), (17, [7, 3, 0]), (18, [3, 9, 0, 7]), (19, []), (20, [3, 7]), (21, []), (22, [])]
def hd129x0 : Hints := [(17, [3, 0, 5, 6, 15], [4, 0], []), (19, [3, 5, 6, 0], [4, 0], [])]
def h129x0s0 (N : Nat) : Sg Tryz.prog 1 129 := .start hd129x0 rg129x0
def F129x0x17 (N : Nat) (w0 w1 : Int) (w2 : Bool) (k0 : Int × Int → R) : R :=
 bif w2 then
  k0 (3, 31)
 else
  k0 (w0, w1)
def V129x0x17 (w0 w1 : Int) (w2 : Bool) : Int × Int := F129x0x17 N w0 w1 w2 (fun p => p)
theorem tot129x0x17 (w0 w1 : Int) (w2 : Bool) (k0 : Int × Int → R) : F129x0x17 N w0 w1 w2 k0 = k0 (V129x0x17 N w0 w1 w2) := by
 unfold V129x0x17 F129x0x17
 repeat' (first | rfl | apply cond_k | (apply bnd_k; intro _))
def sh129x0x17 : Sh := { tmps := [(0, .c (.p 0 0)), (3, .c (.p 4 0)), (5, .c (.i .i64)), (6, .c (.i .i64)), (15, .c (.b))], mem := [(0, .dat 118), (4, .box ([.i .i64, .i .i64, .i .i64, .sl 115, .sl 5]))] }
def K129x0x17w0 (L : List Lf) (p : Int × Int) : Ex × St := (.normal, mg (ofSh sh129x0x17 L) [0, 3, 5, 6] [(5, .c (.i .i64 p.1)), (6, .c (.i .i64 p.2))] [0, 4] [])
def A129x0x17 (L : List Lf) : List (Bool × (Ex × St)) := bnd (F129x0x17 N (li L 0) (li L 1) (lb L 2) (fun p => p)) fun q => [(true, K129x0x17w0 L q)]
theorem raw129x0x17 (L : List Lf) : pc Tryz.prog (T168x0 N) (h129x0s0 N).h 1 100 129 17 sh129x0x17 L [3, 5, 6, 0] [4, 0] = F129x0x17 N (li L 0) (li L 1) (lb L 2) (fun p => some (K129x0x17w0 L p)) := by kernel_rfl
def h129x0s1 : Sg Tryz.prog 1 129 :=
 (h129x0s0 N).cut (A129x0x17 N) progOk (T168x0_ok N) fun L x hx => (raw129x0x17 N L).trans ((tot129x0x17 N ..).trans (alt0 _ _ hx))
def F129x0x19 (w0 w1 w4 w5 : Int) (k0 : Bool → R) : R :=
 bnd (V132x0 N w4 0 w0) fun y0 =>
 bif y0 then
  k0 true
 else
  bnd (V132x0 N w5 0 w1) fun y1 =>
  k0 y1
def V129x0x19 (w0 w1 w4 w5 : Int) : Bool := F129x0x19 N w0 w1 w4 w5 (fun p => p)
theorem tot129x0x19 (w0 w1 w4 w5 : Int) (k0 : Bool → R) : F129x0x19 N w0 w1 w4 w5 k0 = k0 (V129x0x19 N w0 w1 w4 w5) := by
 unfold V129x0x19 F129x0x19
 repeat' (first | rfl | apply cond_k | (apply bnd_k; intro _))
def J129x0x19 (L : List Lf) (k0 : Bool → R) : R := F129x0x19 N (li L 0) (li L 1) (li L 4) (li L 5) k0
def sh129x0x19 : Sh := { tmps := [(0, .c (.p 0 0)), (3, .c (.p 4 0)), (5, .c (.i .i64)), (6, .c (.i .i64))], mem := [(0, .dat 118), (4, .box ([.i .i64, .i .i64, .i .i64, .sl 115, .sl 5]))] }
def K129x0x19w0 (L : List Lf) (p : Bool) : Ex × St := (.normal, mg (ofSh sh129x0x19 L) [0, 3, 25] [(25, .c (.b p))] [0, 4] [])
def A129x0x19 (L : List Lf) : List (Bool × (Ex × St)) := bnd (J129x0x19 N L (fun p => p)) fun q => [(true, K129x0x19w0 L q)]
theorem raw129x0x19 (L : List Lf) : pc Tryz.prog (T168x0 N) (h129x0s1 N).h 1 100 129 19 sh129x0x19 L [3, 0, 25] [4, 0] = J129x0x19 N L (fun p => some (K129x0x19w0 L p)) := by kernel_rfl
def h129x0s2 : Sg Tryz.prog 1 129 :=
 (h129x0s1 N).cut (A129x0x19 N) progOk (T168x0_ok N) fun L x hx => (raw129x0x19 N L).trans ((tot129x0x19 N ..).trans (alt0 _ _ hx))
def F129x0 (v0 v1 v2 : Int) (v4 v6 : LD) (v7 : D) (k0 : Int → Option R) : Option R :=
 bnd (V132x0 N v0 1 3) fun y0 =>
 bif y0 then
  k0 7
 else
  bnd (V129x0x17 N 15 0 (v0 == 3)) fun y1 =>
  bnd (V129x0x19 N y1.1 y1.2 v1 v2) fun y2 =>
  bif y2 then
   k0 9
  else
   bif (v0 == 1) then
    bnd (bif ((v4.length : Int) != 1) then true else (decide ((v6.length : Int) > 0))) fun y3 =>
    bif y3 then
     k0 2
    else
     bif (inB 0 v4.length) then
      bnd (G168x0 N ((v4.getD 0 (.i 0)).cell 1).toI ((v4.getD 0 (.i 0)).cell 2).items) fun y4 =>
      bif y4.isSome then
       k0 (y4.getD default)
      else
       none
     else
      none
   else
    bif (decide ((v4.length : Int) > 0)) then
     k0 2
    else
     bif (inB v1 16) then
      bif (!(v7.cell (0 + (v1.toNat * 1))).toB) then
       k0 11
      else
       bif (inB v1 16) then
        bnd (G126x0 N (v7.cell (18 + (v1.toNat * 3))).items) fun y5 =>
        bif y5.isSome then
         bnd (bif (v0 == 3) then (bif (!(y5.getD default).2) then true else (decide ((v7.cell 64).toI < 0))) else false) fun y6 =>
         bif y6 then
          k0 11
         else
          bnd (G128x0 N (v7.cell (18 + (v1.toNat * 3))).items (v0 == 3)) fun y7 =>
          bif y7.isSome then
           bnd (G127x0 N (y7.getD default).2) fun y8 =>
           bif y8.isSome then
            bif ((v6.length : Int) != (y8.getD default)) then
             k0 2
            else
             k0 0
           else
            none
          else
           none
        else
         none
       else
        none
     else
      none
def G129x0 (v0 v1 v2 : Int) (v4 v6 : LD) (v7 : D) : Option (Int) := F129x0 N v0 v1 v2 v4 v6 v7 (fun p => some p)
theorem bind129x0 (v0 v1 v2 : Int) (v4 v6 : LD) (v7 : D) (k0 : Int → Option R) : F129x0 N v0 v1 v2 v4 v6 v7 k0 = (G129x0 N v0 v1 v2 v4 v6 v7).bind k0 := by
 unfold G129x0 F129x0
 repeat' (first | with_reducible apply cond_b | (with_reducible apply bnd_b; intro _) | rfl)
def J129x0 (L : List Lf) (k0 : Int → Option R) : Option R := F129x0 N (li L 0) (li L 1) (li L 2) (ll L 4) (ll L 6) (ld L 7) k0
def sh129x0 : Sh := { tmps := [(0, .c (.p 0 0)), (1, .g ([.i .i64, .i .i64, .i .i64, .sl 115, .sl 5]))], mem := [(0, .dat 118)] }
def A129x0 (L : List Lf) : List (Bool × Res) := bnd (J129x0 N L (fun p => some p)) fun q => [(q.isSome, ([.c (.i .i64 (q.getD default))], [(0, .dat 118 (ld L 7))]))]
theorem raw129x0 (L : List Lf) : bd Tryz.prog (T168x0 N) (h129x0s2 N).h 129 sh129x0 L = J129x0 N L (fun p => some ([.c (.i .i64 p)], [(0, .dat 118 (ld L 7))])) := by kernel_rfl
theorem ok129x0 : FnOk Tryz.prog 129 sh129x0 (A129x0 N) :=
 (h129x0s2 N).fn progOk (T168x0_ok N) fun L x hx => ((raw129x0 N L).trans ((bind129x0 N ..).trans (alt1 x hx)))
def T129x0 : Oracle := ext 129 (spSh sh129x0 (A129x0 N)) (T168x0 N)
theorem T129x0_ok : OracleOk Tryz.prog (T129x0 N) := FnOk.to (ok129x0 N) (T168x0_ok N)
def rg63x0 : List (Nat × List Nat) := [(0, [0]), (1, [1]), (2, []), (3, [1]), (4, [1, 3]), (5, [16, 15, 14, 3]), (6, [14, 16, 3, 15]), (7, [3, 5, 16, 15, 14]), (8, [6, 3, 5, 16, 15, 14]), (9, [6]), (10, [3, 5, 16, 15, 14]), (11, [16, 15, 14, 3]), (12, [])]
def hd63x0 : Hints := [(15, [16, 15, 14, 3], [12], [])]
def h63x0s0 (N : Nat) : Sg Tryz.prog 0 63 := .start hd63x0 rg63x0
def S63x0x15 (w1 : LD) (w2 : Int) (w3 : Int) (w4 : D) (kr : Int → D → Option R) (k0 : Int → Option R) (k1 : Unit → Option R) : Option R :=
 bif (decide (w3 < w2)) then
  bif (inB w3 w1.length) then
   bnd (G129x0 N ((w1.getD w3.toNat (.i 0)).cell 0).toI ((w1.getD w3.toNat (.i 0)).cell 1).toI ((w1.getD w3.toNat (.i 0)).cell 2).toI ((w1.getD w3.toNat (.i 0)).cell 3).items ((w1.getD w3.toNat (.i 0)).cell 4).items w4) fun y0 =>
   bif y0.isSome then
    bif ((y0.getD default) != 0) then
     k0 (y0.getD default)
    else
     bnd (G62x0 N ((w1.getD w3.toNat (.i 0)).cell 0).toI ((w1.getD w3.toNat (.i 0)).cell 1).toI ((w1.getD w3.toNat (.i 0)).cell 2).toI ((w1.getD w3.toNat (.i 0)).cell 3).items ((w1.getD w3.toNat (.i 0)).cell 4).items w4) fun y1 =>
     bif y1.isSome then
      kr (IntKind.wrap .i64 (w3 + 1)) (y1.getD default).2
     else
      none
   else
    none
  else
   none
 else
  k1 ()
def L63x0x15 (N : Nat) {R : Type} (w1 : LD) (w2 : Int) : Nat → Int → D → (Int → Option R) → (Unit → Option R) → Option R
 | 0, _, _, _, _ => none
 | m + 1, w3, w4, k0, k1 => S63x0x15 N w1 w2 w3 w4 (fun w3 w4 => L63x0x15 N w1 w2 m w3 w4 k0 k1) k0 k1
def G63x0x15 (w1 : LD) (w2 : Int) (w3 : Int) (w4 : D) : Option (Sum (Int) (Unit)) := L63x0x15 N (R := (Sum (Int) (Unit))) w1 w2 N w3 w4 (fun p => some (.inl p)) (fun p => some (.inr p))
def J63x0x15 (L x : List Lf) (kr : List Lf → Option R) (k0 : Int → Option R) (k1 : Unit → Option R) : Option R := S63x0x15 N (ll L 1) (li L 2) (li x 0) (ld x 1) (fun w3 w4 => kr [.i w3, .d w4]) k0 k1
theorem sb63x0x15 (L x : List Lf) (kr : List Lf → Option R) (k0 : Int → Option R) (k1 : Unit → Option R) : J63x0x15 N L x kr k0 k1 = (J63x0x15 N L x (fun y => some (.inl y)) (fun p => some (.inr (.inl p))) (fun p => some (.inr (.inr p)))).bind (sumE kr (sumE k0 k1)) := by
 unfold J63x0x15 S63x0x15
 repeat' (first | with_reducible apply cond_b | (with_reducible apply bnd_b; intro _) | rfl)
def Q63x0x15 (L : List Lf) (m : Nat) (x : List Lf) : Option (Sum (Int) (Unit)) := L63x0x15 N (R := (Sum (Int) (Unit))) (ll L 1) (li L 2) m (li x 0) (ld x 1) (fun p => some (.inl p)) (fun p => some (.inr p))
def sh63x0x15 : Sh := { tmps := [(3, .c (.p 12 0)), (14, .c (.sl 96)), (15, .c (.i .i64)), (16, .c (.i .i64))], mem := [(12, .dat 118)] }
def A63x0x15 (L : List Lf) : List (Bool × (Ex × St)) := bnd (Q63x0x15 N L N (pk sh63x0x15 [3, 4] L)) fun q => [((inlB q), (.ret, ⟨[(2, .c (.i .i64 (inlV q)))], []⟩)), ((inrQ q).isSome, ((.exit 0), ⟨[], []⟩))]
theorem step63x0x15 (m : Nat) (kn : St → Option (Ex × St)) (L x : List Lf) : lpB Tryz.prog (T129x0 N) (h63x0s0 N).h 0 63 15 sh63x0x15 [3, 4] [2] [] (m + 100) kn L x = J63x0x15 N L x (fun y => kn (ofSh sh63x0x15 (mx sh63x0x15 [3, 4] L y))) (fun p => some (.ret, ⟨[(2, .c (.i .i64 p))], []⟩)) (fun _ => some ((.exit 0), ⟨[], []⟩)) := by kernel_rfl
theorem ql63x0x15 (L : List Lf) (m : Nat) (x : List Lf) : Q63x0x15 N L (m + 1) x = J63x0x15 N L x (Q63x0x15 N L m) (fun p => some (.inl p)) (fun p => some (.inr p)) := by kernel_rfl
def h63x0s1 : Sg Tryz.prog 0 63 :=
 (h63x0s0 N).lp (A63x0x15 N) N progOk (T129x0_ok N) (fun m kn L x => (step63x0x15 N m kn L x).trans (sb63x0x15 N L x _ _ _)) (fun L m x => (ql63x0x15 N L m x).trans (sb63x0x15 N L x (Q63x0x15 N L m) (fun p => some (.inl p)) (fun p => some (.inr p)))) fun L x hx => (altS alt1) x hx
def F63x0 (v1 : LD) (k0 : Int → Option R) : Option R :=
 bif (decide ((v1.length : Int) > 50000)) then
  k0 3
 else
  bnd ((.a [(.b false), (.b false), (.b false), (.b false), (.b false), (.b false), (.b false), (.b false), (.b false), (.b false), (.b false), (.b false), (.b false), (.b false), (.b false), (.b false), (.b false), (.i 0), (.l true []), (.b false), (.i 0), (.l true []), (.b false), (.i 0), (.l true []), (.b false), (.i 0), (.l true []), (.b false), (.i 0), (.l true []), (.b false), (.i 0), (.l true []), (.b false), (.i 0), (.l true []), (.b false), (.i 0), (.l true []), (.b false), (.i 0), (.l true []), (.b false), (.i 0), (.l true []), (.b false), (.i 0), (.l true []), (.b false), (.i 0), (.l true []), (.b false), (.i 0), (.l true []), (.b false), (.i 0), (.l true []), (.b false), (.i 0), (.l true []), (.b false), (.i 0), (.l true []), (.i (-1))]) : D) fun y0 =>
  bnd (G63x0x15 N v1 (v1.length : Int) 0 y0) fun y1 =>
  bif (inlB y1) then
   k0 (inlV y1)
  else
   bif (inrQ y1).isSome then
    k0 0
   else
    none
def G63x0 (v1 : LD) : Option (Int) := F63x0 N v1 (fun p => some p)
theorem bind63x0 (v1 : LD) (k0 : Int → Option R) : F63x0 N v1 k0 = (G63x0 N v1).bind k0 := by
 unfold G63x0 F63x0
 repeat' (first | with_reducible apply cond_b | (with_reducible apply bnd_b; intro _) | rfl)
def sh63x0 : Sh := { tmps := [(0, .g ([.sl 96]))], mem := [] }
def A63x0 (L : List Lf) : List (Bool × Res) := bnd (F63x0 N (ll L 1) (fun p => some p)) fun q => [(q.isSome, ([.c (.i .i64 (q.getD default))], []))]
theorem raw63x0 (L : List Lf) : bd Tryz.prog (T129x0 N) (h63x0s1 N).h 63 sh63x0 L = F63x0 N (ll L 1) (fun p => some ([.c (.i .i64 p)], [])) := by kernel_rfl
theorem ok63x0 : FnOk Tryz.prog 63 sh63x0 (A63x0 N) :=
 (h63x0s1 N).fn progOk (T129x0_ok N) fun L x hx => ((raw63x0 N L).trans ((bind63x0 N ..).trans (alt1 x hx)))
def T63x0 : Oracle := ext 63 (spSh sh63x0 (A63x0 N)) (T129x0 N)
theorem T63x0_ok : OracleOk Tryz.prog (T63x0 N) := FnOk.to (ok63x0 N) (T129x0_ok N)
def rg22x0 : List (Nat × List Nat) := [(0, [0]), (1, [0, 2]), (2, [2]), (3, [0, 2]), (4, [2]), (5, [0, 2]), (6, [0, 5, 2]), (7, [2]), (8, [5, 0, 2]), (9, [5, 0, 2, 6]), (10, [5, 7, 0, 2, 6]), (11, [8, 5, 7, 0, 2, 6]), (12, [7, 0, 8, 5, 2, 6]), (13, [11, 8, 2, 9, 7, 6, 10, 5, 0]), (14, [8, 2]), (15, [9, 7, 6, 8, 10, 5, 0, 2]), (16, [7, 9, 6, 8, 10, 5, 0, 2]), (17, [6, 9, 8, 10, 5, 7, 0, 2]), (18, [8, 10, 5, 7, 0, 2, 6]), (19, [6, 2]), (20, [12, 2, 6]), (21, [12, 2]), (22, [6, 2])]
def hd22x0 : Hints := [(10, [0, 2], [2], []), (33, [8, 5, 7, 0, 2, 6], [51, 6, 2, 50006000], [50006000]), (50, [7, 9, 6, 8, 10, 5, 0, 2, 71], [9, 51, 50006000, 6, 2], [])]
def h22x0s0 (N : Nat) : Sg Tryz.prog 0 22 := .start hd22x0 rg22x0
def F22x0x10 (w1 : LD) (k0 : Bool → Option R) : Option R :=
 bif (decide ((w1.length : Int) < 12)) then
  k0 true
 else
  bif (decide (4 ≤ (w1.length : Int))) then
   bnd (!((strD ((w1.take 4).drop 0)) == ([72, 65, 82, 49] : List UInt8))) fun y0 =>
   bif y0 then
    k0 true
   else
    bif (decide (8 ≤ (w1.length : Int))) then
     bnd (G59x0 N ((w1.take 8).drop 4) true) fun y1 =>
     bif y1.isSome then
      bnd ((y1.getD default) != (IntKind.wrap .i64 ((w1.length : Int) - 12))) fun y2 =>
      k0 y2
     else
      none
    else
     none
  else
   none
def G22x0x10 (w1 : LD) : Option (Bool) := F22x0x10 N w1 (fun p => some p)
theorem bind22x0x10 (w1 : LD) (k0 : Bool → Option R) : F22x0x10 N w1 k0 = (G22x0x10 N w1).bind k0 := by
 unfold G22x0x10 F22x0x10
 repeat' (first | with_reducible apply cond_b | (with_reducible apply bnd_b; intro _) | rfl)
def sh22x0x10 : Sh := { tmps := [(0, .c (.sl 5)), (2, .c (.p 2 0))], mem := [(2, .box ([.sl 96]))] }
def K22x0x10w0 (L : List Lf) (p : Bool) : Ex × St := (.normal, mg (ofSh sh22x0x10 L) [0, 2, 34] [(34, .c (.b p))] [2] [])
def A22x0x10 (L : List Lf) : List (Bool × (Ex × St)) := bnd (F22x0x10 N (ll L 1) (fun p => some p)) fun q => [(q.isSome, K22x0x10w0 L (q.getD default))]
theorem raw22x0x10 (L : List Lf) : pc Tryz.prog (T63x0 N) (h22x0s0 N).h 0 100 22 10 sh22x0x10 L [2, 0, 34] [2] = F22x0x10 N (ll L 1) (fun p => some (K22x0x10w0 L p)) := by kernel_rfl
def h22x0s1 : Sg Tryz.prog 0 22 :=
 (h22x0s0 N).cut (A22x0x10 N) progOk (T63x0_ok N) fun L x hx => (raw22x0x10 N L).trans ((bind22x0x10 N ..).trans (alt1 x hx))
def F22x0x50 (w5 : Bool) (w8 w9 w10 : Int) (w12 w14 : LD) (w15 : D) (k0 : D → Option R) : Option R :=
 bif w5 then
  bnd (G62x0 N w8 w9 w10 w12 w14 w15) fun y0 =>
  bif y0.isSome then
   k0 (y0.getD default).2
  else
   none
 else
  k0 w15
def G22x0x50 (w5 : Bool) (w8 w9 w10 : Int) (w12 w14 : LD) (w15 : D) : Option (D) := F22x0x50 N w5 w8 w9 w10 w12 w14 w15 (fun p => some p)
theorem bind22x0x50 (w5 : Bool) (w8 w9 w10 : Int) (w12 w14 : LD) (w15 : D) (k0 : D → Option R) : F22x0x50 N w5 w8 w9 w10 w12 w14 w15 k0 = (G22x0x50 N w5 w8 w9 w10 w12 w14 w15).bind k0 := by
 unfold G22x0x50 F22x0x50
 repeat' (first | with_reducible apply cond_b | (with_reducible apply bnd_b; intro _) | rfl)
def J22x0x50 (L : List Lf) (k0 : D → Option R) : Option R := F22x0x50 N (lb L 5) (li L 8) (li L 9) (li L 10) (ll L 12) (ll L 14) (ld L 15) k0
def sh22x0x50 : Sh := { tmps := [(0, .c (.sl 5)), (2, .c (.p 2 0)), (5, .c (.i .i64)), (6, .c (.p 6 0)), (7, .c (.p 51 0)), (8, .c (.i .i64)), (9, .c (.p 9 0)), (10, .c (.i .i64)), (71, .c (.b))], mem := [(2, .box ([.sl 96])), (6, .box ([.o 50006000])), (9, .box ([.i .i64, .i .i64, .i .i64, .sl 115, .sl 5])), (51, .dat 118), (50006000, .row 96 true)] }
def K22x0x50w0 (L : List Lf) (p : D) : Ex × St := (.normal, mg (ofSh sh22x0x50 L) [0, 2, 5, 6, 7, 8, 9, 10] [] [2, 6, 9, 51, 50006000] [(51, .dat 118 p)])
def A22x0x50 (L : List Lf) : List (Bool × (Ex × St)) := bnd (J22x0x50 N L (fun p => some p)) fun q => [(q.isSome, K22x0x50w0 L (q.getD default))]
theorem raw22x0x50 (L : List Lf) : pc Tryz.prog (T63x0 N) (h22x0s1 N).h 0 100 22 50 sh22x0x50 L [6, 9, 8, 10, 5, 7, 0, 2] [9, 51, 50006000, 6, 2] = J22x0x50 N L (fun p => some (K22x0x50w0 L p)) := by kernel_rfl
def h22x0s2 : Sg Tryz.prog 0 22 :=
 (h22x0s1 N).cut (A22x0x50 N) progOk (T63x0_ok N) fun L x hx => (raw22x0x50 N L).trans ((bind22x0x50 N ..).trans (alt1 x hx))
def S22x0x33 (w1 : LD) (w2 : Int) (w3 : Int) (w6 : D) (w7 : Bool) (w8 : LD) (kr : Int → D → Bool → LD → Option R) (k0 : Int × Bool × LD → Option R) (k1 : Bool × LD → Option R) : Option R :=
 bif (decide (w3 < w2)) then
  bif (((decide (0 ≤ w3)) && (decide (w3 ≤ w2))) && (decide (w2 ≤ (w1.length : Int)))) then
   bnd (G61x0 N ((w1.take w2.toNat).drop w3.toNat) w6) fun y0 =>
   bif y0.isSome then
    bif (!(y0.getD default).2.2.2.2.2.2.2.2) then
     k0 (w3, w7, w8)
    else
     bnd (G22x0x50 N ((y0.getD default).1 == 1) (y0.getD default).1 (y0.getD default).2.1 (y0.getD default).2.2.1 (y0.getD default).2.2.2.2.1 (y0.getD default).2.2.2.2.2.2.1 w6) fun y1 =>
     bif y1.isSome then
      bif (decide ((w8.length + 1) * 72 ≤ room) && decide ((w8.length + 1) ≤ strMax)) then
       bnd ((w8 ++ [(.a [(.i (y0.getD default).1), (.i (y0.getD default).2.1), (.i (y0.getD default).2.2.1), (.l (y0.getD default).2.2.2.1 (y0.getD default).2.2.2.2.1), (.l (y0.getD default).2.2.2.2.2.1 (y0.getD default).2.2.2.2.2.2.1)])]) : List D) fun y2 =>
       bnd (IntKind.wrap .i64 (w3 + (y0.getD default).2.2.2.2.2.2.2.1)) fun y3 =>
       kr y3 (y1.getD default) false y2
      else
       none
     else
      none
   else
    none
  else
   none
 else
  k1 (w7, w8)
def L22x0x33 (N : Nat) {R : Type} (w1 : LD) (w2 : Int) : Nat → Int → D → Bool → LD → (Int × Bool × LD → Option R) → (Bool × LD → Option R) → Option R
 | 0, _, _, _, _, _, _ => none
 | m + 1, w3, w6, w7, w8, k0, k1 => S22x0x33 N w1 w2 w3 w6 w7 w8 (fun w3 w6 w7 w8 => L22x0x33 N w1 w2 m w3 w6 w7 w8 k0 k1) k0 k1
def G22x0x33 (w1 : LD) (w2 : Int) (w3 : Int) (w6 : D) (w7 : Bool) (w8 : LD) : Option (Sum (Int × Bool × LD) (Bool × LD)) := L22x0x33 N (R := (Sum (Int × Bool × LD) (Bool × LD))) w1 w2 N w3 w6 w7 w8 (fun p => some (.inl p)) (fun p => some (.inr p))
def J22x0x33 (L x : List Lf) (kr : List Lf → Option R) (k0 : Int × Bool × LD → Option R) (k1 : Bool × LD → Option R) : Option R := S22x0x33 N (ll L 1) (li L 2) (li x 0) (ld x 1) (lb x 2) (ll x 3) (fun w3 w6 w7 w8 => kr [.i w3, .d w6, .b w7, .l w8]) k0 k1
theorem sb22x0x33 (L x : List Lf) (kr : List Lf → Option R) (k0 : Int × Bool × LD → Option R) (k1 : Bool × LD → Option R) : J22x0x33 N L x kr k0 k1 = (J22x0x33 N L x (fun y => some (.inl y)) (fun p => some (.inr (.inl p))) (fun p => some (.inr (.inr p)))).bind (sumE kr (sumE k0 k1)) := by
 unfold J22x0x33 S22x0x33
 repeat' (first | with_reducible apply cond_b | (with_reducible apply bnd_b; intro _) | rfl)
def Q22x0x33 (L : List Lf) (m : Nat) (x : List Lf) : Option (Sum (Int × Bool × LD) (Bool × LD)) := L22x0x33 N (R := (Sum (Int × Bool × LD) (Bool × LD))) (ll L 1) (li L 2) m (li x 0) (ld x 1) (lb x 2) (ll x 3) (fun p => some (.inl p)) (fun p => some (.inr p))
def sh22x0x33 : Sh := { tmps := [(0, .c (.sl 5)), (2, .c (.p 2 0)), (5, .c (.i .i64)), (6, .c (.p 6 0)), (7, .c (.p 51 0)), (8, .c (.i .i64))], mem := [(2, .box ([.sl 96])), (6, .box ([.o 50006000])), (51, .dat 118), (50006000, .row 96 true)] }
def K22x0x33w0 (L : List Lf) (p : Int × Bool × LD) : Ex × St := (.ret, ⟨[(2, .c (.p 2 0)), (3, .c (.i .i64 p.1)), (4, .c (.i .i64 6))], [(2, .box [.sl 96 true []]), (6, .box [.o 50006000]), (50006000, .row 96 true p.2.1 p.2.2)]⟩)
def K22x0x33w1 (L : List Lf) (p : Bool × LD) : Ex × St := ((.exit 0), mg (ofSh sh22x0x33 L) [2, 6] [] [2, 6, 50006000] [(50006000, .row 96 true p.1 p.2)])
def A22x0x33 (L : List Lf) : List (Bool × (Ex × St)) := bnd (Q22x0x33 N L N (pk sh22x0x33 [3, 6, 7, 8] L)) fun q => [((inlB q), K22x0x33w0 L (inlV q)), ((inrQ q).isSome, K22x0x33w1 L ((inrQ q).getD default))]
theorem step22x0x33 (m : Nat) (kn : St → Option (Ex × St)) (L x : List Lf) : lpB Tryz.prog (T63x0 N) (h22x0s2 N).h 0 22 33 sh22x0x33 [3, 6, 7, 8] [2, 3, 4, 6] [2, 50006000, 6] (m + 100) kn L x = J22x0x33 N L x (fun y => kn (ofSh sh22x0x33 (mx sh22x0x33 [3, 6, 7, 8] L y))) (fun p => some (K22x0x33w0 L p)) (fun p => some (K22x0x33w1 L p)) := by kernel_rfl
theorem ql22x0x33 (L : List Lf) (m : Nat) (x : List Lf) : Q22x0x33 N L (m + 1) x = J22x0x33 N L x (Q22x0x33 N L m) (fun p => some (.inl p)) (fun p => some (.inr p)) := by kernel_rfl
def h22x0s3 : Sg Tryz.prog 0 22 :=
 (h22x0s2 N).lp (A22x0x33 N) N progOk (T63x0_ok N) (fun m kn L x => (step22x0x33 N m kn L x).trans (sb22x0x33 N L x _ _ _)) (fun L m x => (ql22x0x33 N L m x).trans (sb22x0x33 N L x (Q22x0x33 N L m) (fun p => some (.inl p)) (fun p => some (.inr p)))) fun L x hx => (altS alt1) x hx
def F22x0 (v1 : LD) (k0 : Ty10 → Option R) : Option R :=
 bif (decide ((v1.length : Int) > 4000000)) then
  k0 (true, [], 0, 3)
 else
  bnd (G22x0x10 N v1) fun y0 =>
  bif y0.isSome then
   bif (y0.getD default) then
    k0 (true, [], 0, 6)
   else
    bif (((decide (0 ≤ (IntKind.wrap .i64 ((v1.length : Int) - 4)))) && (decide ((IntKind.wrap .i64 ((v1.length : Int) - 4)) ≤ (v1.length : Int)))) && (decide ((v1.length : Int) ≤ (v1.length : Int)))) then
     bnd (((v1.take (v1.length : Int).toNat).drop (IntKind.wrap .i64 ((v1.length : Int) - 4)).toNat) : List D) fun y1 =>
     bnd (G59x0 N y1 true) fun y2 =>
     bif y2.isSome then
      bif ((decide (0 ≤ (IntKind.wrap .i64 ((v1.length : Int) - 4)))) && (decide ((IntKind.wrap .i64 ((v1.length : Int) - 4)) ≤ (v1.length : Int)))) then
       bnd (((v1.take (IntKind.wrap .i64 ((v1.length : Int) - 4)).toNat).drop 0) : List D) fun y3 =>
       bnd (G60x0 N y3) fun y4 =>
       bif y4.isSome then
        bif ((y2.getD default) != (y4.getD default)) then
         k0 (true, [], 0, 1)
        else
         bnd ((.a [(.b false), (.b false), (.b false), (.b false), (.b false), (.b false), (.b false), (.b false), (.b false), (.b false), (.b false), (.b false), (.b false), (.b false), (.b false), (.b false), (.b false), (.i 0), (.l true []), (.b false), (.i 0), (.l true []), (.b false), (.i 0), (.l true []), (.b false), (.i 0), (.l true []), (.b false), (.i 0), (.l true []), (.b false), (.i 0), (.l true []), (.b false), (.i 0), (.l true []), (.b false), (.i 0), (.l true []), (.b false), (.i 0), (.l true []), (.b false), (.i 0), (.l true []), (.b false), (.i 0), (.l true []), (.b false), (.i 0), (.l true []), (.b false), (.i 0), (.l true []), (.b false), (.i 0), (.l true []), (.b false), (.i 0), (.l true []), (.b false), (.i 0), (.l true []), (.i (-1))]) : D) fun y5 =>
         bnd (G22x0x33 N v1 (IntKind.wrap .i64 ((v1.length : Int) - 4)) 8 y5 true []) fun y6 =>
         bif (inlB y6) then
          k0 (true, [], (inlV y6).1, 6)
         else
          bif (inrQ y6).isSome then
           bnd (G63x0 N ((inrQ y6).getD default).2) fun y7 =>
           bif y7.isSome then
            bif ((y7.getD default) != 0) then
             k0 (true, [], 0, (y7.getD default))
            else
             k0 (((inrQ y6).getD default).1, ((inrQ y6).getD default).2, 0, 0)
           else
            none
          else
           none
       else
        none
      else
       none
     else
      none
    else
     none
  else
   none
def G22x0 (v1 : LD) : Option (Ty10) := F22x0 N v1 (fun p => some p)
theorem bind22x0 (v1 : LD) (k0 : Ty10 → Option R) : F22x0 N v1 k0 = (G22x0 N v1).bind k0 := by
 unfold G22x0 F22x0
 repeat' (first | with_reducible apply cond_b | (with_reducible apply bnd_b; intro _) | rfl)
def sh22x0 : Sh := { tmps := [(0, .c (.sl 5))], mem := [] }
def K22x0w0 (L : List Lf) (p : Ty10) : Res := ([.g [.sl 96 p.1 p.2.1], .c (.i .i64 p.2.2.1), .c (.i .i64 p.2.2.2)], [])
def A22x0 (L : List Lf) : List (Bool × Res) := bnd (F22x0 N (ll L 1) (fun p => some p)) fun q => [(q.isSome, K22x0w0 L (q.getD default))]
theorem raw22x0 (L : List Lf) : bd Tryz.prog (T63x0 N) (h22x0s3 N).h 22 sh22x0 L = F22x0 N (ll L 1) (fun p => some (K22x0w0 L p)) := by kernel_rfl
theorem ok22x0 : FnOk Tryz.prog 22 sh22x0 (A22x0 N) :=
 (h22x0s3 N).fn progOk (T63x0_ok N) fun L x hx => ((raw22x0 N L).trans ((bind22x0 N ..).trans (alt1 x hx)))
def T22x0 : Oracle := ext 22 (spSh sh22x0 (A22x0 N)) (T63x0 N)
theorem T22x0_ok : OracleOk Tryz.prog (T22x0 N) := FnOk.to (ok22x0 N) (T63x0_ok N)
def rg64x0 : List (Nat × List Nat) := [(0, [0]), (1, [1, 2]), (2, [1, 3, 2]), (3, [1, 4, 3, 2]), (4, [15, 14, 13, 4, 3, 2]), (5, [13, 15, 4, 3, 14, 2]), (6, [4, 6, 3, 15, 14, 13, 2]), (7, [6, 4, 3, 7, 15, 14, 13, 2]), (8, [6, 4, 3, 7, 15, 14, 13, 2, 8]), (9, [4, 6, 3, 7, 15, 14, 13, 2]), (10, [3, 8, 7, 15, 14, 13, 4, 2]), (11, [3, 7, 15, 14, 13, 4, 2]), (12, [15, 14, 13, 4, 3, 2]), (13, [3, 2])]
def hd64x0 : Hints := [(12, [15, 14, 13, 4, 3, 2], [11, 3, 2, 50003001, 50003000], [50003001, 50003000]), (29, [4, 6, 3, 7, 15, 14, 13, 2, 8, 24], [6, 11, 50003001, 50003000, 3, 2], [])]
def h64x0s0 (N : Nat) : Sg Tryz.prog 0 64 := .start hd64x0 rg64x0
def F64x0x29 (N : Nat) (w7 : Bool) (w13 : Int) (w19 : D) (k0 : LD → Option R) (k1 : Unit → Option R) : Option R :=
 bif w7 then
  bif (inB w13 16) then
   k0 [(.a [(.b (w19.cell (16 + (w13.toNat * 3))).toB), (.i (w19.cell (17 + (w13.toNat * 3))).toI), (.l (w19.cell (18 + (w13.toNat * 3))).isNil (w19.cell (18 + (w13.toNat * 3))).items)])]
  else
   none
 else
  k1 ()
def G64x0x29 (w7 : Bool) (w13 : Int) (w19 : D) : Option (Sum (LD) (Unit)) := F64x0x29 N w7 w13 w19 (fun p => some (.inl p)) (fun p => some (.inr p))
theorem bind64x0x29 (w7 : Bool) (w13 : Int) (w19 : D) (k0 : LD → Option R) (k1 : Unit → Option R) : F64x0x29 N w7 w13 w19 k0 k1 = (G64x0x29 N w7 w13 w19).bind (sumE k0 k1) := by
 unfold G64x0x29 F64x0x29
 repeat' (first | with_reducible apply cond_b | (with_reducible apply bnd_b; intro _) | rfl)
def sh64x0x29 : Sh := { tmps := [(2, .c (.p 2 0)), (3, .c (.p 3 0)), (4, .c (.p 11 0)), (6, .c (.p 6 0)), (7, .c (.i .i64)), (8, .c (.sl 115)), (13, .c (.sl 96)), (14, .c (.i .i64)), (15, .c (.i .i64)), (24, .c (.b))], mem := [(2, .box ([.sl 94, .sl 3])), (3, .box ([.o 50003000, .o 50003001])), (6, .box ([.i .i64, .i .i64, .i .i64, .sl 115, .sl 5])), (11, .dat 118), (50003000, .row 94 true), (50003001, .row 3 true)] }
def K64x0x29w0 (L : List Lf) (p : LD) : Ex × St := (.normal, mg (ofSh sh64x0x29 L) [2, 3, 4, 7, 8, 13, 14, 15] [(8, .c (.o 32))] [2, 3, 11, 32, 50003000, 50003001] [(32, .row 115 true false p)])
def K64x0x29w1 (L : List Lf) (_ : Unit) : Ex × St := (.normal, mg (ofSh sh64x0x29 L) [2, 3, 4, 7, 8, 13, 14, 15] [] [2, 3, 11, 50003000, 50003001] [])
def A64x0x29 (L : List Lf) : List (Bool × (Ex × St)) := bnd (F64x0x29 N (lb L 7) (li L 13) (ld L 19) (fun p => some (.inl p)) (fun p => some (.inr p))) fun q => [((inlB q), K64x0x29w0 L (inlV q)), ((inrQ q).isSome, K64x0x29w1 L ())]
theorem raw64x0x29 (L : List Lf) : pc Tryz.prog (T22x0 N) (h64x0s0 N).h 0 100 64 29 sh64x0x29 L [3, 8, 7, 15, 14, 13, 4, 2] [32, 11, 50003001, 50003000, 3, 2] = F64x0x29 N (lb L 7) (li L 13) (ld L 19) (fun p => some (K64x0x29w0 L p)) (fun _ => some (K64x0x29w1 L ())) := by kernel_rfl
def h64x0s1 : Sg Tryz.prog 0 64 :=
 (h64x0s0 N).cut (A64x0x29 N) progOk (T22x0_ok N) fun L x hx => (raw64x0x29 N L).trans ((bind64x0x29 N ..).trans ((altS alt1) x hx))
def S64x0x12 (w1 : LD) (w2 : Int) (w3 : Int) (w8 : D) (w9 : Bool) (w10 : LD) (w11 : Bool) (w12 : LD) (kr : Int → D → Bool → LD → Bool → LD → Option R) (k0 : Ty8 → Option R) : Option R :=
 bif (decide (w3 < w2)) then
  bif (inB w3 w1.length) then
   bnd (G62x0 N ((w1.getD w3.toNat (.i 0)).cell 0).toI ((w1.getD w3.toNat (.i 0)).cell 1).toI ((w1.getD w3.toNat (.i 0)).cell 2).toI ((w1.getD w3.toNat (.i 0)).cell 3).items ((w1.getD w3.toNat (.i 0)).cell 4).items w8) fun y0 =>
   bif y0.isSome then
    bnd (G64x0x29 N (((w1.getD w3.toNat (.i 0)).cell 0).toI != 1) ((w1.getD w3.toNat (.i 0)).cell 1).toI (y0.getD default).2) fun y1 =>
    bif (inlB y1) then
     bif (decide ((w10.length + 1) * 24 ≤ room) && decide ((w10.length + 1) ≤ strMax)) then
      bif (decide ((w12.length + 1) * 8 ≤ room) && decide ((w12.length + 1) ≤ strMax)) then
       kr (IntKind.wrap .i64 (w3 + 1)) (y0.getD default).2 false (w10 ++ [(.l false (inlV y1))]) false (w12 ++ [(.i (y0.getD default).1)])
      else
       none
     else
      none
    else
     bif (inrQ y1).isSome then
      bif (decide ((w10.length + 1) * 24 ≤ room) && decide ((w10.length + 1) ≤ strMax)) then
       bif (decide ((w12.length + 1) * 8 ≤ room) && decide ((w12.length + 1) ≤ strMax)) then
        kr (IntKind.wrap .i64 (w3 + 1)) (y0.getD default).2 false (w10 ++ [(.l true [])]) false (w12 ++ [(.i (y0.getD default).1)])
       else
        none
      else
       none
     else
      none
   else
    none
  else
   none
 else
  k0 (w9, w10, w11, w12)
def L64x0x12 (N : Nat) {R : Type} (w1 : LD) (w2 : Int) : Nat → Int → D → Bool → LD → Bool → LD → (Ty8 → Option R) → Option R
 | 0, _, _, _, _, _, _, _ => none
 | m + 1, w3, w8, w9, w10, w11, w12, k0 => S64x0x12 N w1 w2 w3 w8 w9 w10 w11 w12 (fun w3 w8 w9 w10 w11 w12 => L64x0x12 N w1 w2 m w3 w8 w9 w10 w11 w12 k0) k0
def G64x0x12 (w1 : LD) (w2 : Int) (w3 : Int) (w8 : D) (w9 : Bool) (w10 : LD) (w11 : Bool) (w12 : LD) : Option (Ty8) := L64x0x12 N (R := (Ty8)) w1 w2 N w3 w8 w9 w10 w11 w12 (fun p => some p)
def J64x0x12 (L x : List Lf) (kr : List Lf → Option R) (k0 : Ty8 → Option R) : Option R := S64x0x12 N (ll L 1) (li L 2) (li x 0) (ld x 1) (lb x 2) (ll x 3) (lb x 4) (ll x 5) (fun w3 w8 w9 w10 w11 w12 => kr [.i w3, .d w8, .b w9, .l w10, .b w11, .l w12]) k0
theorem sb64x0x12 (L x : List Lf) (kr : List Lf → Option R) (k0 : Ty8 → Option R) : J64x0x12 N L x kr k0 = (J64x0x12 N L x (fun y => some (.inl y)) (fun p => some (.inr p))).bind (sumE kr k0) := by
 unfold J64x0x12 S64x0x12
 repeat' (first | with_reducible apply cond_b | (with_reducible apply bnd_b; intro _) | rfl)
def Q64x0x12 (L : List Lf) (m : Nat) (x : List Lf) : Option (Ty8) := L64x0x12 N (R := (Ty8)) (ll L 1) (li L 2) m (li x 0) (ld x 1) (lb x 2) (ll x 3) (lb x 4) (ll x 5) (fun p => some p)
def sh64x0x12 : Sh := { tmps := [(2, .c (.p 2 0)), (3, .c (.p 3 0)), (4, .c (.p 11 0)), (13, .c (.sl 96)), (14, .c (.i .i64)), (15, .c (.i .i64))], mem := [(2, .box ([.sl 94, .sl 3])), (3, .box ([.o 50003000, .o 50003001])), (11, .dat 118), (50003000, .row 94 true), (50003001, .row 3 true)] }
def K64x0x12w0 (L : List Lf) (p : Ty8) : Ex × St := ((.exit 0), mg (ofSh sh64x0x12 L) [2, 3] [] [2, 3, 50003000, 50003001] [(50003000, .row 94 true p.1 p.2.1), (50003001, .row 3 true p.2.2.1 p.2.2.2)])
def A64x0x12 (L : List Lf) : List (Bool × (Ex × St)) := bnd (Q64x0x12 N L N (pk sh64x0x12 [3, 8, 9, 10, 11, 12] L)) fun q => [(q.isSome, K64x0x12w0 L (q.getD default))]
theorem step64x0x12 (m : Nat) (kn : St → Option (Ex × St)) (L x : List Lf) : lpB Tryz.prog (T22x0 N) (h64x0s1 N).h 0 64 12 sh64x0x12 [3, 8, 9, 10, 11, 12] [2, 3] [50003001, 50003000, 3, 2] (m + 100) kn L x = J64x0x12 N L x (fun y => kn (ofSh sh64x0x12 (mx sh64x0x12 [3, 8, 9, 10, 11, 12] L y))) (fun p => some (K64x0x12w0 L p)) := by kernel_rfl
theorem ql64x0x12 (L : List Lf) (m : Nat) (x : List Lf) : Q64x0x12 N L (m + 1) x = J64x0x12 N L x (Q64x0x12 N L m) some := by kernel_rfl
def h64x0s2 : Sg Tryz.prog 0 64 :=
 (h64x0s1 N).lp (A64x0x12 N) N progOk (T22x0_ok N) (fun m kn L x => (step64x0x12 N m kn L x).trans (sb64x0x12 N L x _ _)) (fun L m x => (ql64x0x12 N L m x).trans (sb64x0x12 N L x (Q64x0x12 N L m) some)) fun L x hx => alt1 x hx
def F64x0 (v1 : LD) (k0 : Ty8 → Option R) : Option R :=
 bnd ((.a [(.b false), (.b false), (.b false), (.b false), (.b false), (.b false), (.b false), (.b false), (.b false), (.b false), (.b false), (.b false), (.b false), (.b false), (.b false), (.b false), (.b false), (.i 0), (.l true []), (.b false), (.i 0), (.l true []), (.b false), (.i 0), (.l true []), (.b false), (.i 0), (.l true []), (.b false), (.i 0), (.l true []), (.b false), (.i 0), (.l true []), (.b false), (.i 0), (.l true []), (.b false), (.i 0), (.l true []), (.b false), (.i 0), (.l true []), (.b false), (.i 0), (.l true []), (.b false), (.i 0), (.l true []), (.b false), (.i 0), (.l true []), (.b false), (.i 0), (.l true []), (.b false), (.i 0), (.l true []), (.b false), (.i 0), (.l true []), (.b false), (.i 0), (.l true []), (.i (-1))]) : D) fun y0 =>
 bnd (G64x0x12 N v1 (v1.length : Int) 0 y0 true [] true []) fun y1 =>
 bif y1.isSome then
  k0 (y1.getD default)
 else
  none
def G64x0 (v1 : LD) : Option (Ty8) := F64x0 N v1 (fun p => some p)
theorem bind64x0 (v1 : LD) (k0 : Ty8 → Option R) : F64x0 N v1 k0 = (G64x0 N v1).bind k0 := by
 unfold G64x0 F64x0
 repeat' (first | with_reducible apply cond_b | (with_reducible apply bnd_b; intro _) | rfl)
def sh64x0 : Sh := { tmps := [(0, .g ([.sl 96]))], mem := [] }
def A64x0 (L : List Lf) : List (Bool × Res) := bnd (F64x0 N (ll L 1) (fun p => some p)) fun q => [(q.isSome, ([.g [.sl 94 (q.getD default).1 (q.getD default).2.1, .sl 3 (q.getD default).2.2.1 (q.getD default).2.2.2]], []))]
theorem raw64x0 (L : List Lf) : bd Tryz.prog (T22x0 N) (h64x0s2 N).h 64 sh64x0 L = F64x0 N (ll L 1) (fun p => some ([.g [.sl 94 p.1 p.2.1, .sl 3 p.2.2.1 p.2.2.2]], [])) := by kernel_rfl
theorem ok64x0 : FnOk Tryz.prog 64 sh64x0 (A64x0 N) :=
 (h64x0s2 N).fn progOk (T22x0_ok N) fun L x hx => ((raw64x0 N L).trans ((bind64x0 N ..).trans (alt1 x hx)))
def T64x0 : Oracle := ext 64 (spSh sh64x0 (A64x0 N)) (T22x0 N)
theorem T64x0_ok : OracleOk Tryz.prog (T64x0 N) := FnOk.to (ok64x0 N) (T22x0_ok N)
def rg170x0 : List (Nat × List Nat) := [(0, [0]), (1, [1]), (2, [1]), (3, [1])]
def hd170x0 : Hints := []
def h170x0s0 (N : Nat) : Sg Tryz.prog 0 170 := .start hd170x0 rg170x0
def F170x0 (N : Nat) (v1 v2 : Int) (k0 : Int → Option R) : Option R :=
 bif (v2 == 1) then
  bif (decide (0 ≤ (IntKind.wrap .i64 ((IntKind.wrap .i64 (8 * v1)) - 1)))) then
   bnd (IntKind.wrap .i64 (1 * 2 ^ (min (IntKind.wrap .i64 ((IntKind.wrap .i64 (8 * v1)) - 1)).toNat 64))) fun y0 =>
   k0 (IntKind.wrap .i64 (y0 - 1))
  else
   none
 else
  bif (decide (0 ≤ (IntKind.wrap .i64 (8 * v1)))) then
   bnd (IntKind.wrap .i64 (1 * 2 ^ (min (IntKind.wrap .i64 (8 * v1)).toNat 64))) fun y1 =>
   k0 (IntKind.wrap .i64 (y1 - 1))
  else
   none
def G170x0 (v1 v2 : Int) : Option (Int) := F170x0 N v1 v2 (fun p => some p)
theorem bind170x0 (v1 v2 : Int) (k0 : Int → Option R) : F170x0 N v1 v2 k0 = (G170x0 N v1 v2).bind k0 := by
 unfold G170x0 F170x0
 repeat' (first | with_reducible apply cond_b | (with_reducible apply bnd_b; intro _) | rfl)
def sh170x0 : Sh := { tmps := [(0, .g ([.i .i64, .i .i64, .i .i64]))], mem := [] }
def A170x0 (L : List Lf) : List (Bool × Res) := bnd (F170x0 N (li L 1) (li L 2) (fun p => some p)) fun q => [(q.isSome, ([.c (.i .i64 (q.getD default))], []))]
theorem raw170x0 (L : List Lf) : bd Tryz.prog (T64x0 N) (h170x0s0 N).h 170 sh170x0 L = F170x0 N (li L 1) (li L 2) (fun p => some ([.c (.i .i64 p)], [])) := by kernel_rfl
theorem ok170x0 : FnOk Tryz.prog 170 sh170x0 (A170x0 N) :=
 (h170x0s0 N).fn progOk (T64x0_ok N) fun L x hx => ((raw170x0 N L).trans ((bind170x0 N ..).trans (alt1 x hx)))
def T170x0 : Oracle := ext 170 (spSh sh170x0 (A170x0 N)) (T64x0 N)
theorem T170x0_ok : OracleOk Tryz.prog (T170x0 N) := FnOk.to (ok170x0 N) (T64x0_ok N)
def rg130x0 : List (Nat × List Nat) := [(0, [0, 1, 2]), (1, [3, 1, 6, 2]), (2, [3, 1, 7, 6, 2]), (10, [15, 1, 7, 6, 2, 3]), (13, [15, 1, 7, 6, 2, 3]), (3, [1, 2, 3, 7, 6]), (4, [8, 3, 7, 6]), (5, [7, 6]), (6, [7, 6]), (7, [3, 8, 7, 6]), (8, [8, 3, 7, 6]), (9, [8, 7, 6]), (14, [1, 7, 6]), (11, [1, 7, 6]), (12, [7, 6]), (15, [7, 6])]
def hd130x0 : Hints := [(26, [8, 3, 7, 6, 36], [7, 6, 3], []), (9044, [1, 7, 6, 2, 3, 59], [7, 6, 3], []), (39035, [1, 7, 6, 15, 2, 3, 45], [7, 6, 3], [])]
def h130x0s0 (N : Nat) : Sg Tryz.prog 0 130 := .start hd130x0 rg130x0
def F130x0x26 (N : Nat) (w0 : Int) (w1 : Bool) (w3 : Int) (k0 : Int → Option R) : Option R :=
 bif w1 then
  bif (decide (0 ≤ (IntKind.wrap .i64 (8 * w3)))) then
   bnd (IntKind.wrap .i64 (1 * 2 ^ (min (IntKind.wrap .i64 (8 * w3)).toNat 64))) fun y0 =>
   k0 (IntKind.wrap .i64 (w0 - y0))
  else
   none
 else
  k0 w0
def G130x0x26 (w0 : Int) (w1 : Bool) (w3 : Int) : Option (Int) := F130x0x26 N w0 w1 w3 (fun p => some p)
theorem bind130x0x26 (w0 : Int) (w1 : Bool) (w3 : Int) (k0 : Int → Option R) : F130x0x26 N w0 w1 w3 k0 = (G130x0x26 N w0 w1 w3).bind k0 := by
 unfold G130x0x26 F130x0x26
 repeat' (first | with_reducible apply cond_b | (with_reducible apply bnd_b; intro _) | rfl)
def sh130x0x26 : Sh := { tmps := [(3, .c (.p 3 0)), (6, .c (.p 6 0)), (7, .c (.p 7 0)), (8, .c (.i .i64)), (36, .c (.b))], mem := [(3, .box ([.i .i64, .i .i64, .i .i64])), (6, .box ([.i .i64, .i .i64, .i .i64, .s, .b])), (7, .box ([.i .i64, .i .i64, .i .i64, .s, .b]))] }
def K130x0x26w0 (L : List Lf) (p : Int) : Ex × St := (.normal, mg (ofSh sh130x0x26 L) [6, 7, 8] [(8, .c (.i .i64 p))] [6, 7] [])
def A130x0x26 (L : List Lf) : List (Bool × (Ex × St)) := bnd (F130x0x26 N (li L 0) (lb L 1) (li L 3) (fun p => some p)) fun q => [(q.isSome, K130x0x26w0 L (q.getD default))]
theorem raw130x0x26 (L : List Lf) : pc Tryz.prog (T170x0 N) (h130x0s0 N).h 0 100 130 26 sh130x0x26 L [8, 7, 6] [7, 6] = F130x0x26 N (li L 0) (lb L 1) (li L 3) (fun p => some (K130x0x26w0 L p)) := by kernel_rfl
def h130x0s1 : Sg Tryz.prog 0 130 :=
 (h130x0s0 N).cut (A130x0x26 N) progOk (T170x0_ok N) fun L x hx => (raw130x0x26 N L).trans ((bind130x0x26 N ..).trans (alt1 x hx))
def F130x0x9044 (w1 : LD) (w2 w3 : Bool) (w5 w6 w14 : Int) (w15 : LB) (k0 : Int × LB → Option R) (k1 : Unit → Option R) : Option R :=
 bif w3 then
  k0 (w14, (strD w1))
 else
  bnd (G59x0 N w1 w2) fun y0 =>
  bif y0.isSome then
   bnd (G170x0 N w5 w6) fun y1 =>
   bif y1.isSome then
    bif ((y0.getD default) == (y1.getD default)) then
     k1 ()
    else
     bif (bif (decide (0 ≤ (IntKind.wrap .i64 ((IntKind.wrap .i64 (8 * w5)) - 1)))) then true else (!((w6 == 1) == true))) then
      bnd (bif (w6 == 1) then (decide ((y0.getD default) ≥ (IntKind.wrap .i64 (1 * 2 ^ (min (IntKind.wrap .i64 ((IntKind.wrap .i64 (8 * w5)) - 1)).toNat 64))))) else false) fun y2 =>
      bnd (G130x0x26 N (y0.getD default) y2 w5) fun y3 =>
      bif y3.isSome then
       k0 ((y3.getD default), w15)
      else
       none
     else
      none
   else
    none
  else
   none
def G130x0x9044 (w1 : LD) (w2 w3 : Bool) (w5 w6 w14 : Int) (w15 : LB) : Option (Sum (Int × LB) (Unit)) := F130x0x9044 N w1 w2 w3 w5 w6 w14 w15 (fun p => some (.inl p)) (fun p => some (.inr p))
theorem bind130x0x9044 (w1 : LD) (w2 w3 : Bool) (w5 w6 w14 : Int) (w15 : LB) (k0 : Int × LB → Option R) (k1 : Unit → Option R) : F130x0x9044 N w1 w2 w3 w5 w6 w14 w15 k0 k1 = (G130x0x9044 N w1 w2 w3 w5 w6 w14 w15).bind (sumE k0 k1) := by
 unfold G130x0x9044 F130x0x9044
 repeat' (first | with_reducible apply cond_b | (with_reducible apply bnd_b; intro _) | rfl)
def J130x0x9044 (L : List Lf) (k0 : Int × LB → Option R) (k1 : Unit → Option R) : Option R := F130x0x9044 N (ll L 1) (lb L 2) (lb L 3) (li L 5) (li L 6) (li L 14) (ls L 15) k0 k1
def sh130x0x9044 : Sh := { tmps := [(1, .c (.sl 5)), (2, .c (.b)), (3, .c (.p 3 0)), (6, .c (.p 6 0)), (7, .c (.p 7 0)), (59, .c (.b))], mem := [(3, .box ([.i .i64, .i .i64, .i .i64])), (6, .box ([.i .i64, .i .i64, .i .i64, .s, .b])), (7, .box ([.i .i64, .i .i64, .i .i64, .s, .b]))] }
def K130x0x9044w0 (L : List Lf) (p : Int × LB) : Ex × St := (.normal, mg (ofSh sh130x0x9044 L) [6, 7] [] [6, 7] [(7, .box [.i .i64 (li L 12), .i .i64 (li L 13), .i .i64 p.1, .s p.2, .b (lb L 16)])])
def K130x0x9044w1 (L : List Lf) (_ : Unit) : Ex × St := (.ret, ⟨[(6, .c (.p 6 0)), (7, .c (.p 7 0))], [(6, .box [.i .i64 (li L 12), .i .i64 (li L 13), .i .i64 (li L 14), .s (ls L 15), .b true]), (7, .box [.i .i64 (li L 12), .i .i64 (li L 13), .i .i64 (li L 14), .s (ls L 15), .b true])]⟩)
def A130x0x9044 (L : List Lf) : List (Bool × (Ex × St)) := bnd (J130x0x9044 N L (fun p => some (.inl p)) (fun p => some (.inr p))) fun q => [((inlB q), K130x0x9044w0 L (inlV q)), ((inrQ q).isSome, K130x0x9044w1 L ())]
theorem raw130x0x9044 (L : List Lf) : pc Tryz.prog (T170x0 N) (h130x0s1 N).h 0 100 130 9044 sh130x0x9044 L [7, 6] [7, 6] = J130x0x9044 N L (fun p => some (K130x0x9044w0 L p)) (fun _ => some (K130x0x9044w1 L ())) := by kernel_rfl
def h130x0s2 : Sg Tryz.prog 0 130 :=
 (h130x0s1 N).cut (A130x0x9044 N) progOk (T170x0_ok N) fun L x hx => (raw130x0x9044 N L).trans ((bind130x0x9044 N ..).trans ((altS alt1) x hx))
def F130x0x39035 (w1 : LD) (w2 : Bool) (w3 : Int) (w4 : Bool) (w6 w7 w15 : Int) (w16 : LB) (w17 : Bool) (k0 : Ty11 → Option R) (k1 : Unit → Option R) : Option R :=
 bif w4 then
  bnd (G169x0 N (strD w1)) fun y0 =>
  bif y0.isSome then
   k0 (w15, (y0.getD default).1, ((y0.getD default).1 == ([] : List UInt8)))
  else
   none
 else
  bnd (G130x0x9044 N w1 w2 (w3 == 3) w6 w7 w15 w16) fun y1 =>
  bif (inlB y1) then
   k0 ((inlV y1).1, (inlV y1).2, w17)
  else
   bif (inrQ y1).isSome then
    k1 ()
   else
    none
def G130x0x39035 (w1 : LD) (w2 : Bool) (w3 : Int) (w4 : Bool) (w6 w7 w15 : Int) (w16 : LB) (w17 : Bool) : Option (Sum (Ty11) (Unit)) := F130x0x39035 N w1 w2 w3 w4 w6 w7 w15 w16 w17 (fun p => some (.inl p)) (fun p => some (.inr p))
theorem bind130x0x39035 (w1 : LD) (w2 : Bool) (w3 : Int) (w4 : Bool) (w6 w7 w15 : Int) (w16 : LB) (w17 : Bool) (k0 : Ty11 → Option R) (k1 : Unit → Option R) : F130x0x39035 N w1 w2 w3 w4 w6 w7 w15 w16 w17 k0 k1 = (G130x0x39035 N w1 w2 w3 w4 w6 w7 w15 w16 w17).bind (sumE k0 k1) := by
 unfold G130x0x39035 F130x0x39035
 repeat' (first | with_reducible apply cond_b | (with_reducible apply bnd_b; intro _) | rfl)
def J130x0x39035 (L : List Lf) (k0 : Ty11 → Option R) (k1 : Unit → Option R) : Option R := F130x0x39035 N (ll L 1) (lb L 2) (li L 3) (lb L 4) (li L 6) (li L 7) (li L 15) (ls L 16) (lb L 17) k0 k1
def sh130x0x39035 : Sh := { tmps := [(1, .c (.sl 5)), (2, .c (.b)), (3, .c (.p 3 0)), (6, .c (.p 6 0)), (7, .c (.p 7 0)), (15, .c (.i .i64)), (45, .c (.b))], mem := [(3, .box ([.i .i64, .i .i64, .i .i64])), (6, .box ([.i .i64, .i .i64, .i .i64, .s, .b])), (7, .box ([.i .i64, .i .i64, .i .i64, .s, .b]))] }
def K130x0x39035w0 (L : List Lf) (p : Ty11) : Ex × St := (.normal, mg (ofSh sh130x0x39035 L) [6, 7] [] [6, 7] [(7, .box [.i .i64 (li L 13), .i .i64 (li L 14), .i .i64 p.1, .s p.2.1, .b p.2.2])])
def K130x0x39035w1 (L : List Lf) (_ : Unit) : Ex × St := (.ret, ⟨[(6, .c (.p 6 0)), (7, .c (.p 7 0))], [(6, .box [.i .i64 (li L 13), .i .i64 (li L 14), .i .i64 (li L 15), .s (ls L 16), .b true]), (7, .box [.i .i64 (li L 13), .i .i64 (li L 14), .i .i64 (li L 15), .s (ls L 16), .b true])]⟩)
def A130x0x39035 (L : List Lf) : List (Bool × (Ex × St)) := bnd (J130x0x39035 N L (fun p => some (.inl p)) (fun p => some (.inr p))) fun q => [((inlB q), K130x0x39035w0 L (inlV q)), ((inrQ q).isSome, K130x0x39035w1 L ())]
theorem raw130x0x39035 (L : List Lf) : pc Tryz.prog (T170x0 N) (h130x0s2 N).h 0 100 130 39035 sh130x0x39035 L [7, 6] [7, 6] = J130x0x39035 N L (fun p => some (K130x0x39035w0 L p)) (fun _ => some (K130x0x39035w1 L ())) := by kernel_rfl
def h130x0s3 : Sg Tryz.prog 0 130 :=
 (h130x0s2 N).cut (A130x0x39035 N) progOk (T170x0_ok N) fun L x hx => (raw130x0x39035 N L).trans ((bind130x0x39035 N ..).trans ((altS alt1) x hx))
def F130x0 (v1 v2 : Int) (v4 : LD) (v5 : Bool) (k0 : Ty11 → Option R) : Option R :=
 bnd (G130x0x39035 N v4 v5 v2 (v2 == 2) v1 v2 0 ([] : List UInt8) false) fun y0 =>
 bif (inlB y0) then
  k0 (inlV y0)
 else
  bif (inrQ y0).isSome then
   k0 (0, ([] : List UInt8), true)
  else
   none
def G130x0 (v1 v2 : Int) (v4 : LD) (v5 : Bool) : Option (Ty11) := F130x0 N v1 v2 v4 v5 (fun p => some p)
theorem bind130x0 (v1 v2 : Int) (v4 : LD) (v5 : Bool) (k0 : Ty11 → Option R) : F130x0 N v1 v2 v4 v5 k0 = (G130x0 N v1 v2 v4 v5).bind k0 := by
 unfold G130x0 F130x0
 repeat' (first | with_reducible apply cond_b | (with_reducible apply bnd_b; intro _) | rfl)
def J130x0 (L : List Lf) (k0 : Ty11 → Option R) : Option R := F130x0 N (li L 1) (li L 2) (ll L 4) (lb L 5) k0
def sh130x0 : Sh := { tmps := [(0, .g ([.i .i64, .i .i64, .i .i64])), (1, .c (.sl 5)), (2, .c (.b))], mem := [] }
def K130x0w0 (L : List Lf) (p : Ty11) : Res := ([.g [.i .i64 (li L 0), .i .i64 (li L 2), .i .i64 p.1, .s p.2.1, .b p.2.2]], [])
def A130x0 (L : List Lf) : List (Bool × Res) := bnd (J130x0 N L (fun p => some p)) fun q => [(q.isSome, K130x0w0 L (q.getD default))]
theorem raw130x0 (L : List Lf) : bd Tryz.prog (T170x0 N) (h130x0s3 N).h 130 sh130x0 L = J130x0 N L (fun p => some (K130x0w0 L p)) := by kernel_rfl
theorem ok130x0 : FnOk Tryz.prog 130 sh130x0 (A130x0 N) :=
 (h130x0s3 N).fn progOk (T170x0_ok N) fun L x hx => ((raw130x0 N L).trans ((bind130x0 N ..).trans (alt1 x hx)))
def T130x0 : Oracle := ext 130 (spSh sh130x0 (A130x0 N)) (T170x0 N)
theorem T130x0_ok : OracleOk Tryz.prog (T130x0 N) := FnOk.to (ok130x0 N) (T170x0_ok N)
def rg65x0 : List (Nat × List Nat) := [(0, [0, 1]), (1, [2, 3]), (2, [2, 3, 5]), (3, [2, 3, 5, 6]), (4, [15, 14, 13, 5, 3, 6, 2]), (5, [13, 15, 5, 3, 6, 2, 14]), (6, [5, 8, 3, 6, 2, 15, 14, 13]), (7, [6, 8, 15, 14, 13, 5, 3, 2]), (8, [15, 14, 13, 5, 3, 6, 2]), (9, [5])]
def hd65x0 : Hints := [(12, [15, 14, 13, 5, 3, 6, 2], [3, 2, 5], [5])]
def h65x0s0 (N : Nat) : Sg Tryz.prog 0 65 := .start hd65x0 rg65x0
def S65x0x12 (w2 : LD) (w3 : Int) (w5 : Bool) (w15 : LD) (w0 w4 : Int) (w16 : Bool) (w17 : LD) (kr : Int → Int → Bool → LD → Option R) (k0 : Bool × LD → Option R) : Option R :=
 bif (decide (w4 < w3)) then
  bif (inB w4 w2.length) then
   bnd (IntKind.wrap .i64 (w0 + ((w2.getD w4.toNat (.i 0)).cell 1).toI)) fun y0 =>
   bif (((decide (0 ≤ w0)) && (decide (w0 ≤ y0))) && (decide (y0 ≤ (w15.length : Int)))) then
    bnd (G130x0 N ((w2.getD w4.toNat (.i 0)).cell 1).toI ((w2.getD w4.toNat (.i 0)).cell 2).toI ((w15.take y0.toNat).drop w0.toNat) w5) fun y1 =>
    bif y1.isSome then
     bif (decide ((w17.length + 1) * 48 ≤ room) && decide ((w17.length + 1) ≤ strMax)) then
      bnd ((w17 ++ [(.a [(.i ((w2.getD w4.toNat (.i 0)).cell 0).toI), (.i ((w2.getD w4.toNat (.i 0)).cell 2).toI), (.i (y1.getD default).1), (.s (y1.getD default).2.1), (.b (y1.getD default).2.2)])]) : List D) fun y2 =>
      bnd (IntKind.wrap .i64 (w0 + ((w2.getD w4.toNat (.i 0)).cell 1).toI)) fun y0 =>
      kr y0 (IntKind.wrap .i64 (w4 + 1)) false y2
     else
      none
    else
     none
   else
    none
  else
   none
 else
  k0 (w16, w17)
def L65x0x12 (N : Nat) {R : Type} (w2 : LD) (w3 : Int) (w5 : Bool) (w15 : LD) : Nat → Int → Int → Bool → LD → (Bool × LD → Option R) → Option R
 | 0, _, _, _, _, _ => none
 | m + 1, w0, w4, w16, w17, k0 => S65x0x12 N w2 w3 w5 w15 w0 w4 w16 w17 (fun w0 w4 w16 w17 => L65x0x12 N w2 w3 w5 w15 m w0 w4 w16 w17 k0) k0
def G65x0x12 (w2 : LD) (w3 : Int) (w5 : Bool) (w15 : LD) (w0 w4 : Int) (w16 : Bool) (w17 : LD) : Option (Bool × LD) := L65x0x12 N (R := (Bool × LD)) w2 w3 w5 w15 N w0 w4 w16 w17 (fun p => some p)
def J65x0x12 (L x : List Lf) (kr : List Lf → Option R) (k0 : Bool × LD → Option R) : Option R := S65x0x12 N (ll L 2) (li L 3) (lb L 5) (ll L 15) (li x 0) (li x 1) (lb x 2) (ll x 3) (fun w0 w4 w16 w17 => kr [.i w0, .i w4, .b w16, .l w17]) k0
theorem sb65x0x12 (L x : List Lf) (kr : List Lf → Option R) (k0 : Bool × LD → Option R) : J65x0x12 N L x kr k0 = (J65x0x12 N L x (fun y => some (.inl y)) (fun p => some (.inr p))).bind (sumE kr k0) := by
 unfold J65x0x12 S65x0x12
 repeat' (first | with_reducible apply cond_b | (with_reducible apply bnd_b; intro _) | rfl)
def Q65x0x12 (L : List Lf) (m : Nat) (x : List Lf) : Option (Bool × LD) := L65x0x12 N (R := (Bool × LD)) (ll L 2) (li L 3) (lb L 5) (ll L 15) m (li x 0) (li x 1) (lb x 2) (ll x 3) (fun p => some p)
def sh65x0x12 : Sh := { tmps := [(2, .c (.p 2 0)), (3, .c (.p 3 0)), (5, .c (.o 5)), (6, .c (.i .i64)), (13, .c (.sl 136)), (14, .c (.i .i64)), (15, .c (.i .i64))], mem := [(2, .box ([.b, .i .i64, .sl 136])), (3, .box ([.i .i64, .i .i64, .i .i64, .sl 115, .sl 5])), (5, .row 185 true)] }
def K65x0x12w0 (L : List Lf) (p : Bool × LD) : Ex × St := ((.exit 0), ⟨[(5, .c (.o 5))], [(5, .row 185 true p.1 p.2)]⟩)
def A65x0x12 (L : List Lf) : List (Bool × (Ex × St)) := bnd (Q65x0x12 N L N (pk sh65x0x12 [0, 4, 16, 17] L)) fun q => [(q.isSome, K65x0x12w0 L (q.getD default))]
theorem step65x0x12 (m : Nat) (kn : St → Option (Ex × St)) (L x : List Lf) : lpB Tryz.prog (T130x0 N) (h65x0s0 N).h 0 65 12 sh65x0x12 [0, 4, 16, 17] [4, 5] [5] (m + 100) kn L x = J65x0x12 N L x (fun y => kn (ofSh sh65x0x12 (mx sh65x0x12 [0, 4, 16, 17] L y))) (fun p => some (K65x0x12w0 L p)) := by kernel_rfl
theorem ql65x0x12 (L : List Lf) (m : Nat) (x : List Lf) : Q65x0x12 N L (m + 1) x = J65x0x12 N L x (Q65x0x12 N L m) some := by kernel_rfl
def h65x0s1 : Sg Tryz.prog 0 65 :=
 (h65x0s0 N).lp (A65x0x12 N) N progOk (T130x0_ok N) (fun m kn L x => (step65x0x12 N m kn L x).trans (sb65x0x12 N L x _ _)) (fun L m x => (ql65x0x12 N L m x).trans (sb65x0x12 N L x (Q65x0x12 N L m) some)) fun L x hx => alt1 x hx
def F65x0 (v0 : Bool) (v3 : LD) (v4 : Int) (v10 : LD) (k0 : Bool × LD → Option R) : Option R :=
 bnd (G128x0 N v3 (v4 == 3)) fun y0 =>
 bif y0.isSome then
  bnd (G65x0x12 N (y0.getD default).2 ((y0.getD default).2.length : Int) v0 v10 0 0 true []) fun y1 =>
  bif y1.isSome then
   k0 (y1.getD default)
  else
   none
 else
  none
def G65x0 (v0 : Bool) (v3 : LD) (v4 : Int) (v10 : LD) : Option (Bool × LD) := F65x0 N v0 v3 v4 v10 (fun p => some p)
theorem bind65x0 (v0 : Bool) (v3 : LD) (v4 : Int) (v10 : LD) (k0 : Bool × LD → Option R) : F65x0 N v0 v3 v4 v10 k0 = (G65x0 N v0 v3 v4 v10).bind k0 := by
 unfold G65x0 F65x0
 repeat' (first | with_reducible apply cond_b | (with_reducible apply bnd_b; intro _) | rfl)
def J65x0 (L : List Lf) (k0 : Bool × LD → Option R) : Option R := F65x0 N (lb L 0) (ll L 3) (li L 4) (ll L 10) k0
def sh65x0 : Sh := { tmps := [(0, .g ([.b, .i .i64, .sl 136])), (1, .g ([.i .i64, .i .i64, .i .i64, .sl 115, .sl 5]))], mem := [] }
def A65x0 (L : List Lf) : List (Bool × Res) := bnd (J65x0 N L (fun p => some p)) fun q => [(q.isSome, ([.c (.sl 185 (q.getD default).1 (q.getD default).2)], []))]
theorem raw65x0 (L : List Lf) : bd Tryz.prog (T130x0 N) (h65x0s1 N).h 65 sh65x0 L = J65x0 N L (fun p => some ([.c (.sl 185 p.1 p.2)], [])) := by kernel_rfl
theorem ok65x0 : FnOk Tryz.prog 65 sh65x0 (A65x0 N) :=
 (h65x0s1 N).fn progOk (T130x0_ok N) fun L x hx => ((raw65x0 N L).trans ((bind65x0 N ..).trans (alt1 x hx)))
def T65x0 : Oracle := ext 65 (spSh sh65x0 (A65x0 N)) (T130x0 N)
theorem T65x0_ok : OracleOk Tryz.prog (T65x0 N) := FnOk.to (ok65x0 N) (T130x0_ok N)
def rg66x0 : List (Nat × List Nat) := [(0, [0, 1, 2]), (1, [0, 1, 2]), (2, [12, 11, 10, 1, 2]), (3, [10, 12, 1, 2, 11]), (4, [9, 1, 2, 12, 11, 10]), (5, [9]), (6, [12, 11, 10, 1, 2]), (7, [])]
def hd66x0 : Hints := [(6, [12, 11, 10, 1, 2], [], [])]
def h66x0s0 (N : Nat) : Sg Tryz.prog 0 66 := .start hd66x0 rg66x0
def S66x0x6 (N : Nat) (w0 w1 : Int) (w3 : LD) (w4 : Int) (w5 : Int) (kr : Int → Option R) (k0 : Int → Option R) (k1 : Unit → Option R) : Option R :=
 bif (decide (w5 < w4)) then
  bif (inB w5 w3.length) then
   bnd (bif (((w3.getD w5.toNat (.i 0)).cell 0).toI == w0) then (((w3.getD w5.toNat (.i 0)).cell 1).toI == w1) else false) fun y0 =>
   bnd (bif y0 then (!((w3.getD w5.toNat (.i 0)).cell 4).toB) else false) fun y1 =>
   bif y1 then
    k0 ((w3.getD w5.toNat (.i 0)).cell 2).toI
   else
    kr (IntKind.wrap .i64 (w5 + 1))
  else
   none
 else
  k1 ()
def L66x0x6 (N : Nat) {R : Type} (w0 w1 : Int) (w3 : LD) (w4 : Int) : Nat → Int → (Int → Option R) → (Unit → Option R) → Option R
 | 0, _, _, _ => none
 | m + 1, w5, k0, k1 => S66x0x6 N w0 w1 w3 w4 w5 (fun w5 => L66x0x6 N w0 w1 w3 w4 m w5 k0 k1) k0 k1
def G66x0x6 (w0 w1 : Int) (w3 : LD) (w4 : Int) (w5 : Int) : Option (Sum (Int) (Unit)) := L66x0x6 N (R := (Sum (Int) (Unit))) w0 w1 w3 w4 N w5 (fun p => some (.inl p)) (fun p => some (.inr p))
def J66x0x6 (L x : List Lf) (kr : List Lf → Option R) (k0 : Int → Option R) (k1 : Unit → Option R) : Option R := S66x0x6 N (li L 0) (li L 1) (ll L 3) (li L 4) (li x 0) (fun w5 => kr [.i w5]) k0 k1
theorem sb66x0x6 (L x : List Lf) (kr : List Lf → Option R) (k0 : Int → Option R) (k1 : Unit → Option R) : J66x0x6 N L x kr k0 k1 = (J66x0x6 N L x (fun y => some (.inl y)) (fun p => some (.inr (.inl p))) (fun p => some (.inr (.inr p)))).bind (sumE kr (sumE k0 k1)) := by
 unfold J66x0x6 S66x0x6
 repeat' (first | with_reducible apply cond_b | (with_reducible apply bnd_b; intro _) | rfl)
def Q66x0x6 (L : List Lf) (m : Nat) (x : List Lf) : Option (Sum (Int) (Unit)) := L66x0x6 N (R := (Sum (Int) (Unit))) (li L 0) (li L 1) (ll L 3) (li L 4) m (li x 0) (fun p => some (.inl p)) (fun p => some (.inr p))
def sh66x0x6 : Sh := { tmps := [(1, .c (.i .i64)), (2, .c (.i .i64)), (10, .c (.sl 185)), (11, .c (.i .i64)), (12, .c (.i .i64))], mem := [] }
def A66x0x6 (L : List Lf) : List (Bool × (Ex × St)) := bnd (Q66x0x6 N L N (pk sh66x0x6 [5] L)) fun q => [((inlB q), (.ret, ⟨[(6, .c (.i .i64 (inlV q))), (7, .c (.b true))], []⟩)), ((inrQ q).isSome, ((.exit 0), ⟨[], []⟩))]
theorem step66x0x6 (m : Nat) (kn : St → Option (Ex × St)) (L x : List Lf) : lpB Tryz.prog (T65x0 N) (h66x0s0 N).h 0 66 6 sh66x0x6 [5] [6, 7] [] (m + 100) kn L x = J66x0x6 N L x (fun y => kn (ofSh sh66x0x6 (mx sh66x0x6 [5] L y))) (fun p => some (.ret, ⟨[(6, .c (.i .i64 p)), (7, .c (.b true))], []⟩)) (fun _ => some ((.exit 0), ⟨[], []⟩)) := by kernel_rfl
theorem ql66x0x6 (L : List Lf) (m : Nat) (x : List Lf) : Q66x0x6 N L (m + 1) x = J66x0x6 N L x (Q66x0x6 N L m) (fun p => some (.inl p)) (fun p => some (.inr p)) := by kernel_rfl
def h66x0s1 : Sg Tryz.prog 0 66 :=
 (h66x0s0 N).lp (A66x0x6 N) N progOk (T65x0_ok N) (fun m kn L x => (step66x0x6 N m kn L x).trans (sb66x0x6 N L x _ _ _)) (fun L m x => (ql66x0x6 N L m x).trans (sb66x0x6 N L x (Q66x0x6 N L m) (fun p => some (.inl p)) (fun p => some (.inr p)))) fun L x hx => (altS alt1) x hx
def F66x0 (v1 : LD) (v2 v3 : Int) (k0 : Int × Bool → Option R) : Option R :=
 bnd (G66x0x6 N v2 v3 v1 (v1.length : Int) 0) fun y0 =>
 bif (inlB y0) then
  k0 ((inlV y0), true)
 else
  bif (inrQ y0).isSome then
   k0 (0, false)
  else
   none
def G66x0 (v1 : LD) (v2 v3 : Int) : Option (Int × Bool) := F66x0 N v1 v2 v3 (fun p => some p)
theorem bind66x0 (v1 : LD) (v2 v3 : Int) (k0 : Int × Bool → Option R) : F66x0 N v1 v2 v3 k0 = (G66x0 N v1 v2 v3).bind k0 := by
 unfold G66x0 F66x0
 repeat' (first | with_reducible apply cond_b | (with_reducible apply bnd_b; intro _) | rfl)
def sh66x0 : Sh := { tmps := [(0, .c (.sl 185)), (1, .c (.i .i64)), (2, .c (.i .i64))], mem := [] }
def A66x0 (L : List Lf) : List (Bool × Res) := bnd (F66x0 N (ll L 1) (li L 2) (li L 3) (fun p => some p)) fun q => [(q.isSome, ([.c (.i .i64 (q.getD default).1), .c (.b (q.getD default).2)], []))]
theorem raw66x0 (L : List Lf) : bd Tryz.prog (T65x0 N) (h66x0s1 N).h 66 sh66x0 L = F66x0 N (ll L 1) (li L 2) (li L 3) (fun p => some ([.c (.i .i64 p.1), .c (.b p.2)], [])) := by kernel_rfl
theorem ok66x0 : FnOk Tryz.prog 66 sh66x0 (A66x0 N) :=
 (h66x0s1 N).fn progOk (T65x0_ok N) fun L x hx => ((raw66x0 N L).trans ((bind66x0 N ..).trans (alt1 x hx)))
def T66x0 : Oracle := ext 66 (spSh sh66x0 (A66x0 N)) (T65x0 N)
theorem T66x0_ok : OracleOk Tryz.prog (T66x0 N) := FnOk.to (ok66x0 N) (T65x0_ok N)
def rg67x0 : List (Nat × List Nat) := [(0, [0, 1]), (1, [0, 1]), (2, [9, 8, 7, 1]), (3, [7, 9, 1, 8]), (4, [6, 1, 9, 8, 7]), (5, [6]), (6, [9, 8, 7, 1]), (7, [])]
def hd67x0 : Hints := [(6, [9, 8, 7, 1], [], [])]
def h67x0s0 (N : Nat) : Sg Tryz.prog 0 67 := .start hd67x0 rg67x0
def S67x0x6 (N : Nat) (w0 : Int) (w2 : LD) (w3 : Int) (w4 : Int) (kr : Int → Option R) (k0 : LB → Option R) (k1 : Unit → Option R) : Option R :=
 bif (decide (w4 < w3)) then
  bif (inB w4 w2.length) then
   bnd (bif (((w2.getD w4.toNat (.i 0)).cell 0).toI == w0) then (((w2.getD w4.toNat (.i 0)).cell 1).toI == 2) else false) fun y0 =>
   bif y0 then
    k0 ((w2.getD w4.toNat (.i 0)).cell 3).toS
   else
    kr (IntKind.wrap .i64 (w4 + 1))
  else
   none
 else
  k1 ()
def L67x0x6 (N : Nat) {R : Type} (w0 : Int) (w2 : LD) (w3 : Int) : Nat → Int → (LB → Option R) → (Unit → Option R) → Option R
 | 0, _, _, _ => none
 | m + 1, w4, k0, k1 => S67x0x6 N w0 w2 w3 w4 (fun w4 => L67x0x6 N w0 w2 w3 m w4 k0 k1) k0 k1
def G67x0x6 (w0 : Int) (w2 : LD) (w3 : Int) (w4 : Int) : Option (Sum (LB) (Unit)) := L67x0x6 N (R := (Sum (LB) (Unit))) w0 w2 w3 N w4 (fun p => some (.inl p)) (fun p => some (.inr p))
def J67x0x6 (L x : List Lf) (kr : List Lf → Option R) (k0 : LB → Option R) (k1 : Unit → Option R) : Option R := S67x0x6 N (li L 0) (ll L 2) (li L 3) (li x 0) (fun w4 => kr [.i w4]) k0 k1
theorem sb67x0x6 (L x : List Lf) (kr : List Lf → Option R) (k0 : LB → Option R) (k1 : Unit → Option R) : J67x0x6 N L x kr k0 k1 = (J67x0x6 N L x (fun y => some (.inl y)) (fun p => some (.inr (.inl p))) (fun p => some (.inr (.inr p)))).bind (sumE kr (sumE k0 k1)) := by
 unfold J67x0x6 S67x0x6
 repeat' (first | with_reducible apply cond_b | (with_reducible apply bnd_b; intro _) | rfl)
def Q67x0x6 (L : List Lf) (m : Nat) (x : List Lf) : Option (Sum (LB) (Unit)) := L67x0x6 N (R := (Sum (LB) (Unit))) (li L 0) (ll L 2) (li L 3) m (li x 0) (fun p => some (.inl p)) (fun p => some (.inr p))
def sh67x0x6 : Sh := { tmps := [(1, .c (.i .i64)), (7, .c (.sl 185)), (8, .c (.i .i64)), (9, .c (.i .i64))], mem := [] }
def A67x0x6 (L : List Lf) : List (Bool × (Ex × St)) := bnd (Q67x0x6 N L N (pk sh67x0x6 [4] L)) fun q => [((inlB q), (.ret, ⟨[(4, .c (.s (inlV q)))], []⟩)), ((inrQ q).isSome, ((.exit 0), ⟨[], []⟩))]
theorem step67x0x6 (m : Nat) (kn : St → Option (Ex × St)) (L x : List Lf) : lpB Tryz.prog (T66x0 N) (h67x0s0 N).h 0 67 6 sh67x0x6 [4] [4] [] (m + 100) kn L x = J67x0x6 N L x (fun y => kn (ofSh sh67x0x6 (mx sh67x0x6 [4] L y))) (fun p => some (.ret, ⟨[(4, .c (.s p))], []⟩)) (fun _ => some ((.exit 0), ⟨[], []⟩)) := by kernel_rfl
theorem ql67x0x6 (L : List Lf) (m : Nat) (x : List Lf) : Q67x0x6 N L (m + 1) x = J67x0x6 N L x (Q67x0x6 N L m) (fun p => some (.inl p)) (fun p => some (.inr p)) := by kernel_rfl
def h67x0s1 : Sg Tryz.prog 0 67 :=
 (h67x0s0 N).lp (A67x0x6 N) N progOk (T66x0_ok N) (fun m kn L x => (step67x0x6 N m kn L x).trans (sb67x0x6 N L x _ _ _)) (fun L m x => (ql67x0x6 N L m x).trans (sb67x0x6 N L x (Q67x0x6 N L m) (fun p => some (.inl p)) (fun p => some (.inr p)))) fun L x hx => (altS alt1) x hx
def F67x0 (v1 : LD) (v2 : Int) (k0 : LB → Option R) : Option R :=
 bnd (G67x0x6 N v2 v1 (v1.length : Int) 0) fun y0 =>
 bif (inlB y0) then
  k0 (inlV y0)
 else
  bif (inrQ y0).isSome then
   k0 ([] : List UInt8)
  else
   none
def G67x0 (v1 : LD) (v2 : Int) : Option (LB) := F67x0 N v1 v2 (fun p => some p)
theorem bind67x0 (v1 : LD) (v2 : Int) (k0 : LB → Option R) : F67x0 N v1 v2 k0 = (G67x0 N v1 v2).bind k0 := by
 unfold G67x0 F67x0
 repeat' (first | with_reducible apply cond_b | (with_reducible apply bnd_b; intro _) | rfl)
def sh67x0 : Sh := { tmps := [(0, .c (.sl 185)), (1, .c (.i .i64))], mem := [] }
def A67x0 (L : List Lf) : List (Bool × Res) := bnd (F67x0 N (ll L 1) (li L 2) (fun p => some p)) fun q => [(q.isSome, ([.c (.s (q.getD default))], []))]
theorem raw67x0 (L : List Lf) : bd Tryz.prog (T66x0 N) (h67x0s1 N).h 67 sh67x0 L = F67x0 N (ll L 1) (li L 2) (fun p => some ([.c (.s p)], [])) := by kernel_rfl
theorem ok67x0 : FnOk Tryz.prog 67 sh67x0 (A67x0 N) :=
 (h67x0s1 N).fn progOk (T66x0_ok N) fun L x hx => ((raw67x0 N L).trans ((bind67x0 N ..).trans (alt1 x hx)))
def T67x0 : Oracle := ext 67 (spSh sh67x0 (A67x0 N)) (T66x0 N)
theorem T67x0_ok : OracleOk Tryz.prog (T67x0 N) := FnOk.to (ok67x0 N) (T66x0_ok N)
def rg68x0 : List (Nat × List Nat) := [(0, [0, 1]), (1, [0, 1]), (2, [6, 5]), (3, []), (4, [5])]
def hd68x0 : Hints := []
def h68x0s0 (N : Nat) : Sg Tryz.prog 0 68 := .start hd68x0 rg68x0
def F68x0 (v1 : LD) (v2 : Int) (k0 : Int → Option R) : Option R :=
 bnd (G66x0 N v1 v2 0) fun y0 =>
 bif y0.isSome then
  bif (!(y0.getD default).2) then
   k0 (-1)
  else
   k0 (y0.getD default).1
 else
  none
def G68x0 (v1 : LD) (v2 : Int) : Option (Int) := F68x0 N v1 v2 (fun p => some p)
theorem bind68x0 (v1 : LD) (v2 : Int) (k0 : Int → Option R) : F68x0 N v1 v2 k0 = (G68x0 N v1 v2).bind k0 := by
 unfold G68x0 F68x0
 repeat' (first | with_reducible apply cond_b | (with_reducible apply bnd_b; intro _) | rfl)
def sh68x0 : Sh := { tmps := [(0, .c (.sl 185)), (1, .c (.i .i64))], mem := [] }
def A68x0 (L : List Lf) : List (Bool × Res) := bnd (F68x0 N (ll L 1) (li L 2) (fun p => some p)) fun q => [(q.isSome, ([.c (.i .i64 (q.getD default))], []))]
theorem raw68x0 (L : List Lf) : bd Tryz.prog (T67x0 N) (h68x0s0 N).h 68 sh68x0 L = F68x0 N (ll L 1) (li L 2) (fun p => some ([.c (.i .i64 p)], [])) := by kernel_rfl
theorem ok68x0 : FnOk Tryz.prog 68 sh68x0 (A68x0 N) :=
 (h68x0s0 N).fn progOk (T67x0_ok N) fun L x hx => ((raw68x0 N L).trans ((bind68x0 N ..).trans (alt1 x hx)))
def T68x0 : Oracle := ext 68 (spSh sh68x0 (A68x0 N)) (T67x0 N)
theorem T68x0_ok : OracleOk Tryz.prog (T68x0 N) := FnOk.to (ok68x0 N) (T67x0_ok N)
def rg131x0 : List (Nat × List Nat) := [(0, [0]), (1, [0]), (2, [3, 0]), (4, [0, 3]), (5, [4, 3, 0]), (6, []), (3, [3, 0]), (7, [0])]
def hd131x0 : Hints := [(6, [3, 0], [], [])]
def h131x0s0 (N : Nat) : Sg Tryz.prog 0 131 := .start hd131x0 rg131x0
def S131x0x6 (N : Nat) (w0 : LB) (w1 : Int) (kr : Int → Option R) (k0 : Unit → Option R) (k1 : Unit → Option R) : Option R :=
 bif (decide (w1 < (w0.length : Int))) then
  bif (inB w1 w0.length) then
   bnd (bif (decide (((w0.getD w1.toNat 0).toNat : Int) ≥ 97)) then (decide (((w0.getD w1.toNat 0).toNat : Int) ≤ 122)) else false) fun y0 =>
   bnd (bif y0 then true else (bif (decide (((w0.getD w1.toNat 0).toNat : Int) ≥ 65)) then (decide (((w0.getD w1.toNat 0).toNat : Int) ≤ 90)) else false)) fun y1 =>
   bnd (bif y1 then true else (bif (decide (((w0.getD w1.toNat 0).toNat : Int) ≥ 48)) then (decide (((w0.getD w1.toNat 0).toNat : Int) ≤ 57)) else false)) fun y2 =>
   bnd (bif y2 then true else (((w0.getD w1.toNat 0).toNat : Int) == 45)) fun y3 =>
   bnd (bif y3 then true else (((w0.getD w1.toNat 0).toNat : Int) == 95)) fun y4 =>
   bnd (bif y4 then true else (((w0.getD w1.toNat 0).toNat : Int) == 46)) fun y5 =>
   bif (!y5) then
    k0 ()
   else
    kr (IntKind.wrap .i64 (w1 + 1))
  else
   none
 else
  k1 ()
def L131x0x6 (N : Nat) {R : Type} (w0 : LB) : Nat → Int → (Unit → Option R) → (Unit → Option R) → Option R
 | 0, _, _, _ => none
 | m + 1, w1, k0, k1 => S131x0x6 N w0 w1 (fun w1 => L131x0x6 N w0 m w1 k0 k1) k0 k1
def G131x0x6 (w0 : LB) (w1 : Int) : Option (Sum (Unit) (Unit)) := L131x0x6 N (R := (Sum (Unit) (Unit))) w0 N w1 (fun p => some (.inl p)) (fun p => some (.inr p))
def J131x0x6 (L x : List Lf) (kr : List Lf → Option R) (k0 : Unit → Option R) (k1 : Unit → Option R) : Option R := S131x0x6 N (ls L 0) (li x 0) (fun w1 => kr [.i w1]) k0 k1
theorem sb131x0x6 (L x : List Lf) (kr : List Lf → Option R) (k0 : Unit → Option R) (k1 : Unit → Option R) : J131x0x6 N L x kr k0 k1 = (J131x0x6 N L x (fun y => some (.inl y)) (fun p => some (.inr (.inl p))) (fun p => some (.inr (.inr p)))).bind (sumE kr (sumE k0 k1)) := by
 unfold J131x0x6 S131x0x6
 repeat' (first | with_reducible apply cond_b | (with_reducible apply bnd_b; intro _) | rfl)
def Q131x0x6 (L : List Lf) (m : Nat) (x : List Lf) : Option (Sum (Unit) (Unit)) := L131x0x6 N (R := (Sum (Unit) (Unit))) (ls L 0) m (li x 0) (fun p => some (.inl p)) (fun p => some (.inr p))
def sh131x0x6 : Sh := { tmps := [(0, .c (.s)), (3, .c (.i .i64))], mem := [] }
def A131x0x6 (L : List Lf) : List (Bool × (Ex × St)) := bnd (Q131x0x6 N L N (pk sh131x0x6 [1] L)) fun q => [((inlB q), (.ret, ⟨[(2, .c (.b false))], []⟩)), ((inrQ q).isSome, ((.exit 0), ⟨[(0, .c (.s (ls L 0)))], []⟩))]
theorem step131x0x6 (m : Nat) (kn : St → Option (Ex × St)) (L x : List Lf) : lpB Tryz.prog (T68x0 N) (h131x0s0 N).h 0 131 6 sh131x0x6 [1] [2, 0] [] (m + 100) kn L x = J131x0x6 N L x (fun y => kn (ofSh sh131x0x6 (mx sh131x0x6 [1] L y))) (fun _ => some (.ret, ⟨[(2, .c (.b false))], []⟩)) (fun _ => some ((.exit 0), ⟨[(0, .c (.s (ls L 0)))], []⟩)) := by kernel_rfl
theorem ql131x0x6 (L : List Lf) (m : Nat) (x : List Lf) : Q131x0x6 N L (m + 1) x = J131x0x6 N L x (Q131x0x6 N L m) (fun p => some (.inl p)) (fun p => some (.inr p)) := by kernel_rfl
def h131x0s1 : Sg Tryz.prog 0 131 :=
 (h131x0s0 N).lp (A131x0x6 N) N progOk (T68x0_ok N) (fun m kn L x => (step131x0x6 N m kn L x).trans (sb131x0x6 N L x _ _ _)) (fun L m x => (ql131x0x6 N L m x).trans (sb131x0x6 N L x (Q131x0x6 N L m) (fun p => some (.inl p)) (fun p => some (.inr p)))) fun L x hx => (altS alt1) x hx
def F131x0 (v0 : LB) (k0 : Bool → Option R) : Option R :=
 bnd (G131x0x6 N v0 0) fun y0 =>
 bif (inlB y0) then
  k0 false
 else
  bif (inrQ y0).isSome then
   bnd (bif (decide ((v0.length : Int) ≥ 1)) then (decide ((v0.length : Int) ≤ 60)) else false) fun y1 =>
   k0 y1
  else
   none
def G131x0 (v0 : LB) : Option (Bool) := F131x0 N v0 (fun p => some p)
theorem bind131x0 (v0 : LB) (k0 : Bool → Option R) : F131x0 N v0 k0 = (G131x0 N v0).bind k0 := by
 unfold G131x0 F131x0
 repeat' (first | with_reducible apply cond_b | (with_reducible apply bnd_b; intro _) | rfl)
def sh131x0 : Sh := { tmps := [(0, .c (.s))], mem := [] }
def A131x0 (L : List Lf) : List (Bool × Res) := bnd (F131x0 N (ls L 0) (fun p => some p)) fun q => [(q.isSome, ([.c (.b (q.getD default))], []))]
theorem raw131x0 (L : List Lf) : bd Tryz.prog (T68x0 N) (h131x0s1 N).h 131 sh131x0 L = F131x0 N (ls L 0) (fun p => some ([.c (.b p)], [])) := by kernel_rfl
theorem ok131x0 : FnOk Tryz.prog 131 sh131x0 (A131x0 N) :=
 (h131x0s1 N).fn progOk (T68x0_ok N) fun L x hx => ((raw131x0 N L).trans ((bind131x0 N ..).trans (alt1 x hx)))
def T131x0 : Oracle := ext 131 (spSh sh131x0 (A131x0 N)) (T68x0 N)
theorem T131x0_ok : OracleOk Tryz.prog (T131x0 N) := FnOk.to (ok131x0 N) (T68x0_ok N)
def rg133x0 : List (Nat × List Nat) := [(0, [0, 1]), (1, [2, 1]), (2, [1, 5, 2]), (3, []), (4, [5, 2]), (5, []), (6, [5]), (7, []), (8, [5]), (9, []), (10, [])]
def hd133x0 : Hints := [(7, [1, 5, 2], [5, 2], []), (19, [5], [5], []), (25, [5], [5], [])]
def h133x0s0 (N : Nat) : Sg Tryz.prog 0 133 := .start hd133x0 rg133x0
def F133x0x7 (N : Nat) (w0 : Int) (w5 : LD) (w10 : Int) (k0 : Bool → Option R) : Option R :=
 bif (w0 == 0) then
  bif (w10 != 0) then
   k0 true
  else
   bif (decide (w0 > 0)) then
    bif (inB (IntKind.wrap .i64 (w0 - 1)) w5.length) then
     bnd ((w5.getD (IntKind.wrap .i64 (w0 - 1)).toNat (.i 0)).cell 0).toI fun y0 =>
     k0 (decide (w10 ≤ y0))
    else
     none
   else
    k0 false
 else
  bif (decide (w0 > 0)) then
   bif (inB (IntKind.wrap .i64 (w0 - 1)) w5.length) then
    bnd ((w5.getD (IntKind.wrap .i64 (w0 - 1)).toNat (.i 0)).cell 0).toI fun y0 =>
    k0 (decide (w10 ≤ y0))
   else
    none
  else
   k0 false
def G133x0x7 (w0 : Int) (w5 : LD) (w10 : Int) : Option (Bool) := F133x0x7 N w0 w5 w10 (fun p => some p)
theorem bind133x0x7 (w0 : Int) (w5 : LD) (w10 : Int) (k0 : Bool → Option R) : F133x0x7 N w0 w5 w10 k0 = (G133x0x7 N w0 w5 w10).bind k0 := by
 unfold G133x0x7 F133x0x7
 repeat' (first | with_reducible apply cond_b | (with_reducible apply bnd_b; intro _) | rfl)
def sh133x0x7 : Sh := { tmps := [(1, .c (.i .i64)), (2, .c (.p 2 0)), (5, .c (.p 5 0))], mem := [(2, .box (.s :: [.i .i64, .i .i64, .sl 69, .sl 130, .sl 9])), (5, .box (rI 7 ([])))] }
def K133x0x7w0 (L : List Lf) (p : Bool) : Ex × St := (.normal, mg (ofSh sh133x0x7 L) [2, 5, 33] [(33, .c (.b p))] [2, 5] [])
def A133x0x7 (L : List Lf) : List (Bool × (Ex × St)) := bnd (F133x0x7 N (li L 0) (ll L 5) (li L 10) (fun p => some p)) fun q => [(q.isSome, K133x0x7w0 L (q.getD default))]
theorem raw133x0x7 (L : List Lf) : pc Tryz.prog (T131x0 N) (h133x0s0 N).h 0 100 133 7 sh133x0x7 L [5, 2, 33] [5, 2] = F133x0x7 N (li L 0) (ll L 5) (li L 10) (fun p => some (K133x0x7w0 L p)) := by kernel_rfl
def h133x0s1 : Sg Tryz.prog 0 133 :=
 (h133x0s0 N).cut (A133x0x7 N) progOk (T131x0_ok N) fun L x hx => (raw133x0x7 N L).trans ((bind133x0x7 N ..).trans (alt1 x hx))
def F133x0x19 (w1 w2 w3 : Int) (k0 : Bool → R) : R :=
 bnd (V132x0 N w1 (-100000000) 100000000) fun y0 =>
 bif y0 then
  k0 true
 else
  bnd (V132x0 N w2 (-100000000) 100000000) fun y1 =>
  bif y1 then
   k0 true
  else
   bnd (V132x0 N w3 (-100000) 100000) fun y2 =>
   k0 y2
def V133x0x19 (w1 w2 w3 : Int) : Bool := F133x0x19 N w1 w2 w3 (fun p => p)
theorem tot133x0x19 (w1 w2 w3 : Int) (k0 : Bool → R) : F133x0x19 N w1 w2 w3 k0 = k0 (V133x0x19 N w1 w2 w3) := by
 unfold V133x0x19 F133x0x19
 repeat' (first | rfl | apply cond_k | (apply bnd_k; intro _))
def sh133x0x19 : Sh := { tmps := [(5, .c (.p 5 0))], mem := [(5, .box (rI 7 ([])))] }
def K133x0x19w0 (L : List Lf) (p : Bool) : Ex × St := (.normal, mg (ofSh sh133x0x19 L) [5, 57] [(57, .c (.b p))] [5] [])
def A133x0x19 (L : List Lf) : List (Bool × (Ex × St)) := bnd (F133x0x19 N (li L 1) (li L 2) (li L 3) (fun p => p)) fun q => [(true, K133x0x19w0 L q)]
theorem raw133x0x19 (L : List Lf) : pc Tryz.prog (T131x0 N) (h133x0s1 N).h 0 100 133 19 sh133x0x19 L [5, 57] [5] = F133x0x19 N (li L 1) (li L 2) (li L 3) (fun p => some (K133x0x19w0 L p)) := by kernel_rfl
def h133x0s2 : Sg Tryz.prog 0 133 :=
 (h133x0s1 N).cut (A133x0x19 N) progOk (T131x0_ok N) fun L x hx => (raw133x0x19 N L).trans ((tot133x0x19 N ..).trans (alt0 _ _ hx))
def F133x0x25 (w4 w5 w6 : Int) (k0 : Bool → R) : R :=
 bnd (V132x0 N w4 (-1) 300) fun y0 =>
 bif y0 then
  k0 true
 else
  bnd (V132x0 N w5 (-1) 3000) fun y1 =>
  bif y1 then
   k0 true
  else
   bnd (V132x0 N w6 (-1) 300) fun y2 =>
   k0 y2
def V133x0x25 (w4 w5 w6 : Int) : Bool := F133x0x25 N w4 w5 w6 (fun p => p)
theorem tot133x0x25 (w4 w5 w6 : Int) (k0 : Bool → R) : F133x0x25 N w4 w5 w6 k0 = k0 (V133x0x25 N w4 w5 w6) := by
 unfold V133x0x25 F133x0x25
 repeat' (first | rfl | apply cond_k | (apply bnd_k; intro _))
def sh133x0x25 : Sh := { tmps := [(5, .c (.p 5 0))], mem := [(5, .box (rI 7 ([])))] }
def A133x0x25 (L : List Lf) : List (Bool × (Ex × St)) := bnd (F133x0x25 N (li L 4) (li L 5) (li L 6) (fun p => p)) fun q => [(true, (.normal, ⟨[(70, .c (.b q))], []⟩))]
theorem raw133x0x25 (L : List Lf) : pc Tryz.prog (T131x0 N) (h133x0s2 N).h 0 100 133 25 sh133x0x25 L [70] [] = F133x0x25 N (li L 4) (li L 5) (li L 6) (fun p => some (.normal, ⟨[(70, .c (.b p))], []⟩)) := by kernel_rfl
def h133x0s3 : Sg Tryz.prog 0 133 :=
 (h133x0s2 N).cut (A133x0x25 N) progOk (T131x0_ok N) fun L x hx => (raw133x0x25 N L).trans ((tot133x0x25 N ..).trans (alt0 _ _ hx))
def F133x0 (v2 : Int) (v4 : LD) (v9 : Int) (k0 : Int → Option R) : Option R :=
 bif (inB v9 v4.length) then
  bnd (G133x0x7 N v9 v4 ((v4.getD v9.toNat (.i 0)).cell 0).toI) fun y0 =>
  bif y0.isSome then
   bif (y0.getD default) then
    k0 10
   else
    bnd (bif (decide (((v4.getD v9.toNat (.i 0)).cell 0).toI > 1000000)) then true else (decide ((IntKind.wrap .i64 (v2 + ((v4.getD v9.toNat (.i 0)).cell 0).toI)) > 86399999999))) fun y1 =>
    bif y1 then
     k0 9
    else
     bnd (V133x0x19 N ((v4.getD v9.toNat (.i 0)).cell 1).toI ((v4.getD v9.toNat (.i 0)).cell 2).toI ((v4.getD v9.toNat (.i 0)).cell 3).toI) fun y2 =>
     bif y2 then
      k0 9
     else
      bnd (V133x0x25 N ((v4.getD v9.toNat (.i 0)).cell 4).toI ((v4.getD v9.toNat (.i 0)).cell 5).toI ((v4.getD v9.toNat (.i 0)).cell 6).toI) fun y3 =>
      bif y3 then
       k0 9
      else
       k0 0
  else
   none
 else
  none
def G133x0 (v2 : Int) (v4 : LD) (v9 : Int) : Option (Int) := F133x0 N v2 v4 v9 (fun p => some p)
theorem bind133x0 (v2 : Int) (v4 : LD) (v9 : Int) (k0 : Int → Option R) : F133x0 N v2 v4 v9 k0 = (G133x0 N v2 v4 v9).bind k0 := by
 unfold G133x0 F133x0
 repeat' (first | with_reducible apply cond_b | (with_reducible apply bnd_b; intro _) | rfl)
def sh133x0 : Sh := { tmps := [(0, .g (.s :: [.i .i64, .i .i64, .sl 69, .sl 130, .sl 9])), (1, .c (.i .i64))], mem := [] }
def A133x0 (L : List Lf) : List (Bool × Res) := bnd (F133x0 N (li L 2) (ll L 4) (li L 9) (fun p => some p)) fun q => [(q.isSome, ([.c (.i .i64 (q.getD default))], []))]
theorem raw133x0 (L : List Lf) : bd Tryz.prog (T131x0 N) (h133x0s3 N).h 133 sh133x0 L = F133x0 N (li L 2) (ll L 4) (li L 9) (fun p => some ([.c (.i .i64 p)], [])) := by kernel_rfl
theorem ok133x0 : FnOk Tryz.prog 133 sh133x0 (A133x0 N) :=
 (h133x0s3 N).fn progOk (T131x0_ok N) fun L x hx => ((raw133x0 N L).trans ((bind133x0 N ..).trans (alt1 x hx)))
def T133x0 : Oracle := ext 133 (spSh sh133x0 (A133x0 N)) (T131x0 N)
theorem T133x0_ok : OracleOk Tryz.prog (T133x0 N) := FnOk.to (ok133x0 N) (T131x0_ok N)
def rg39x0 : List (Nat × List Nat) := [(0, [0]), (1, [1]), (2, []), (3, [1])]
def hd39x0 : Hints := []
def h39x0s0 (N : Nat) : Sg Tryz.prog 0 39 := .start hd39x0 rg39x0
def F39x0 (N : Nat) (v4 : LD) (k0 : Int → Option R) : Option R :=
 bif ((v4.length : Int) == 0) then
  k0 0
 else
  bif (inB (IntKind.wrap .i64 ((v4.length : Int) - 1)) v4.length) then
   bnd ((v4.getD (IntKind.wrap .i64 ((v4.length : Int) - 1)).toNat (.i 0)) : D) fun y0 =>
   k0 (y0.cell 0).toI
  else
   none
def G39x0 (v4 : LD) : Option (Int) := F39x0 N v4 (fun p => some p)
theorem bind39x0 (v4 : LD) (k0 : Int → Option R) : F39x0 N v4 k0 = (G39x0 N v4).bind k0 := by
 unfold G39x0 F39x0
 repeat' (first | with_reducible apply cond_b | (with_reducible apply bnd_b; intro _) | rfl)
def sh39x0 : Sh := { tmps := [(0, .g (.s :: [.i .i64, .i .i64, .sl 69, .sl 130, .sl 9]))], mem := [] }
def A39x0 (L : List Lf) : List (Bool × Res) := bnd (F39x0 N (ll L 4) (fun p => some p)) fun q => [(q.isSome, ([.c (.i .i64 (q.getD default))], []))]
theorem raw39x0 (L : List Lf) : bd Tryz.prog (T133x0 N) (h39x0s0 N).h 39 sh39x0 L = F39x0 N (ll L 4) (fun p => some ([.c (.i .i64 p)], [])) := by kernel_rfl
theorem ok39x0 : FnOk Tryz.prog 39 sh39x0 (A39x0 N) :=
 (h39x0s0 N).fn progOk (T133x0_ok N) fun L x hx => ((raw39x0 N L).trans ((bind39x0 N ..).trans (alt1 x hx)))
def T39x0 : Oracle := ext 39 (spSh sh39x0 (A39x0 N)) (T133x0 N)
theorem T39x0_ok : OracleOk Tryz.prog (T39x0 N) := FnOk.to (ok39x0 N) (T133x0_ok N)
def rg134x0 : List (Nat × List Nat) := [(0, [0, 1]), (1, [2, 1]), (2, [5, 2, 1]), (3, []), (4, [1, 5, 2]), (5, []), (6, [5]), (7, [6, 5]), (9, [5, 6]), (10, []), (8, [6, 5]), (11, [5]), (12, []), (13, [])]
def hd134x0 : Hints := [(7, [5, 2, 1], [5, 2], []), (13, [1, 5, 2], [5, 2], []), (21, [6, 5], [5], [])]
def h134x0s0 (N : Nat) : Sg Tryz.prog 0 134 := .start hd134x0 rg134x0
def F134x0x7 (w5 : LD) (w10 w11 : Int) (k0 : Bool → Option R) : Option R :=
 bif (decide (w10 < 0)) then
  k0 true
 else
  bif (decide (w10 ≥ w11)) then
   k0 true
  else
   bnd (G39x0 N w5) fun y0 =>
   bif y0.isSome then
    k0 (decide (w11 > (y0.getD default)))
   else
    none
def G134x0x7 (w5 : LD) (w10 w11 : Int) : Option (Bool) := F134x0x7 N w5 w10 w11 (fun p => some p)
theorem bind134x0x7 (w5 : LD) (w10 w11 : Int) (k0 : Bool → Option R) : F134x0x7 N w5 w10 w11 k0 = (G134x0x7 N w5 w10 w11).bind k0 := by
 unfold G134x0x7 F134x0x7
 repeat' (first | with_reducible apply cond_b | (with_reducible apply bnd_b; intro _) | rfl)
def sh134x0x7 : Sh := { tmps := [(1, .c (.i .i64)), (2, .c (.p 2 0)), (5, .c (.p 5 0))], mem := [(2, .box (.s :: [.i .i64, .i .i64, .sl 69, .sl 130, .sl 9])), (5, .box ([.i .i64, .i .i64, .s]))] }
def K134x0x7w0 (L : List Lf) (p : Bool) : Ex × St := (.normal, mg (ofSh sh134x0x7 L) [1, 2, 5, 28] [(28, .c (.b p))] [2, 5] [])
def A134x0x7 (L : List Lf) : List (Bool × (Ex × St)) := bnd (F134x0x7 N (ll L 5) (li L 10) (li L 11) (fun p => some p)) fun q => [(q.isSome, K134x0x7w0 L (q.getD default))]
theorem raw134x0x7 (L : List Lf) : pc Tryz.prog (T39x0 N) (h134x0s0 N).h 0 100 134 7 sh134x0x7 L [1, 5, 2, 28] [5, 2] = F134x0x7 N (ll L 5) (li L 10) (li L 11) (fun p => some (K134x0x7w0 L p)) := by kernel_rfl
def h134x0s1 : Sg Tryz.prog 0 134 :=
 (h134x0s0 N).cut (A134x0x7 N) progOk (T39x0_ok N) fun L x hx => (raw134x0x7 N L).trans ((bind134x0x7 N ..).trans (alt1 x hx))
def F134x0x13 (N : Nat) (w0 : Int) (w7 : LD) (w10 : Int) (k0 : Bool → Option R) : Option R :=
 bif (decide (w0 > 0)) then
  bif (inB (IntKind.wrap .i64 (w0 - 1)) w7.length) then
   bnd ((w7.getD (IntKind.wrap .i64 (w0 - 1)).toNat (.i 0)).cell 1).toI fun y0 =>
   k0 (decide (w10 < y0))
  else
   none
 else
  k0 false
def G134x0x13 (w0 : Int) (w7 : LD) (w10 : Int) : Option (Bool) := F134x0x13 N w0 w7 w10 (fun p => some p)
theorem bind134x0x13 (w0 : Int) (w7 : LD) (w10 : Int) (k0 : Bool → Option R) : F134x0x13 N w0 w7 w10 k0 = (G134x0x13 N w0 w7 w10).bind k0 := by
 unfold G134x0x13 F134x0x13
 repeat' (first | with_reducible apply cond_b | (with_reducible apply bnd_b; intro _) | rfl)
def sh134x0x13 : Sh := { tmps := [(1, .c (.i .i64)), (2, .c (.p 2 0)), (5, .c (.p 5 0))], mem := [(2, .box (.s :: [.i .i64, .i .i64, .sl 69, .sl 130, .sl 9])), (5, .box ([.i .i64, .i .i64, .s]))] }
def K134x0x13w0 (L : List Lf) (p : Bool) : Ex × St := (.normal, mg (ofSh sh134x0x13 L) [5, 42] [(42, .c (.b p))] [5] [])
def A134x0x13 (L : List Lf) : List (Bool × (Ex × St)) := bnd (F134x0x13 N (li L 0) (ll L 7) (li L 10) (fun p => some p)) fun q => [(q.isSome, K134x0x13w0 L (q.getD default))]
theorem raw134x0x13 (L : List Lf) : pc Tryz.prog (T39x0 N) (h134x0s1 N).h 0 100 134 13 sh134x0x13 L [5, 42] [5] = F134x0x13 N (li L 0) (ll L 7) (li L 10) (fun p => some (K134x0x13w0 L p)) := by kernel_rfl
def h134x0s2 : Sg Tryz.prog 0 134 :=
 (h134x0s1 N).cut (A134x0x13 N) progOk (T39x0_ok N) fun L x hx => (raw134x0x13 N L).trans ((bind134x0x13 N ..).trans (alt1 x hx))
def S134x0x21 (w3 : LB) (w0 : Int) (kr : Int → Option R) (k0 : Unit → Option R) (k1 : Unit → Option R) : Option R :=
 bif (decide (w0 < (w3.length : Int))) then
  bif (inB w0 w3.length) then
   bnd (V132x0 N (IntKind.wrap .i64 ((w3.getD w0.toNat 0).toNat : Int)) 32 126) fun y0 =>
   bif y0 then
    k0 ()
   else
    kr (IntKind.wrap .i64 (w0 + 1))
  else
   none
 else
  k1 ()
def L134x0x21 (N : Nat) {R : Type} (w3 : LB) : Nat → Int → (Unit → Option R) → (Unit → Option R) → Option R
 | 0, _, _, _ => none
 | m + 1, w0, k0, k1 => S134x0x21 N w3 w0 (fun w0 => L134x0x21 N w3 m w0 k0 k1) k0 k1
def G134x0x21 (w3 : LB) (w0 : Int) : Option (Sum (Unit) (Unit)) := L134x0x21 N (R := (Sum (Unit) (Unit))) w3 N w0 (fun p => some (.inl p)) (fun p => some (.inr p))
def J134x0x21 (L x : List Lf) (kr : List Lf → Option R) (k0 : Unit → Option R) (k1 : Unit → Option R) : Option R := S134x0x21 N (ls L 3) (li x 0) (fun w0 => kr [.i w0]) k0 k1
theorem sb134x0x21 (L x : List Lf) (kr : List Lf → Option R) (k0 : Unit → Option R) (k1 : Unit → Option R) : J134x0x21 N L x kr k0 k1 = (J134x0x21 N L x (fun y => some (.inl y)) (fun p => some (.inr (.inl p))) (fun p => some (.inr (.inr p)))).bind (sumE kr (sumE k0 k1)) := by
 unfold J134x0x21 S134x0x21
 repeat' (first | with_reducible apply cond_b | (with_reducible apply bnd_b; intro _) | rfl)
def Q134x0x21 (L : List Lf) (m : Nat) (x : List Lf) : Option (Sum (Unit) (Unit)) := L134x0x21 N (R := (Sum (Unit) (Unit))) (ls L 3) m (li x 0) (fun p => some (.inl p)) (fun p => some (.inr p))
def sh134x0x21 : Sh := { tmps := [(5, .c (.p 5 0)), (6, .c (.i .i64))], mem := [(5, .box ([.i .i64, .i .i64, .s]))] }
def K134x0x21w0 (L : List Lf) (_ : Unit) : Ex × St := (.ret, mg (ofSh sh134x0x21 L) [4] [(4, .c (.i .i64 8))] [5] [])
def A134x0x21 (L : List Lf) : List (Bool × (Ex × St)) := bnd (Q134x0x21 N L N (pk sh134x0x21 [0] L)) fun q => [((inlB q), K134x0x21w0 L ()), ((inrQ q).isSome, ((.exit 0), mg (ofSh sh134x0x21 L) [5] [] [5] []))]
theorem step134x0x21 (m : Nat) (kn : St → Option (Ex × St)) (L x : List Lf) : lpB Tryz.prog (T39x0 N) (h134x0s2 N).h 0 134 21 sh134x0x21 [0] [4, 5] [5] (m + 100) kn L x = J134x0x21 N L x (fun y => kn (ofSh sh134x0x21 (mx sh134x0x21 [0] L y))) (fun _ => some (K134x0x21w0 L ())) (fun _ => some ((.exit 0), mg (ofSh sh134x0x21 L) [5] [] [5] [])) := by kernel_rfl
theorem ql134x0x21 (L : List Lf) (m : Nat) (x : List Lf) : Q134x0x21 N L (m + 1) x = J134x0x21 N L x (Q134x0x21 N L m) (fun p => some (.inl p)) (fun p => some (.inr p)) := by kernel_rfl
def h134x0s3 : Sg Tryz.prog 0 134 :=
 (h134x0s2 N).lp (A134x0x21 N) N progOk (T39x0_ok N) (fun m kn L x => (step134x0x21 N m kn L x).trans (sb134x0x21 N L x _ _ _)) (fun L m x => (ql134x0x21 N L m x).trans (sb134x0x21 N L x (Q134x0x21 N L m) (fun p => some (.inl p)) (fun p => some (.inr p)))) fun L x hx => (altS alt1) x hx
def F134x0 (v4 v6 : LD) (v9 : Int) (k0 : Int → Option R) : Option R :=
 bif (inB v9 v6.length) then
  bnd (G134x0x7 N v4 ((v6.getD v9.toNat (.i 0)).cell 0).toI ((v6.getD v9.toNat (.i 0)).cell 1).toI) fun y0 =>
  bif y0.isSome then
   bif (y0.getD default) then
    k0 9
   else
    bnd (G134x0x13 N v9 v6 ((v6.getD v9.toNat (.i 0)).cell 0).toI) fun y1 =>
    bif y1.isSome then
     bif (y1.getD default) then
      k0 10
     else
      bnd (G134x0x21 N ((v6.getD v9.toNat (.i 0)).cell 2).toS 0) fun y2 =>
      bif (inlB y2) then
       k0 8
      else
       bif (inrQ y2).isSome then
        bnd (decide ((((v6.getD v9.toNat (.i 0)).cell 2).toS.length : Int) > 60)) fun y3 =>
        bif y3 then
         k0 8
        else
         k0 0
       else
        none
    else
     none
  else
   none
 else
  none
def G134x0 (v4 v6 : LD) (v9 : Int) : Option (Int) := F134x0 N v4 v6 v9 (fun p => some p)
theorem bind134x0 (v4 v6 : LD) (v9 : Int) (k0 : Int → Option R) : F134x0 N v4 v6 v9 k0 = (G134x0 N v4 v6 v9).bind k0 := by
 unfold G134x0 F134x0
 repeat' (first | with_reducible apply cond_b | (with_reducible apply bnd_b; intro _) | rfl)
def sh134x0 : Sh := { tmps := [(0, .g (.s :: [.i .i64, .i .i64, .sl 69, .sl 130, .sl 9])), (1, .c (.i .i64))], mem := [] }
def A134x0 (L : List Lf) : List (Bool × Res) := bnd (F134x0 N (ll L 4) (ll L 6) (li L 9) (fun p => some p)) fun q => [(q.isSome, ([.c (.i .i64 (q.getD default))], []))]
theorem raw134x0 (L : List Lf) : bd Tryz.prog (T39x0 N) (h134x0s3 N).h 134 sh134x0 L = F134x0 N (ll L 4) (ll L 6) (li L 9) (fun p => some ([.c (.i .i64 p)], [])) := by kernel_rfl
theorem ok134x0 : FnOk Tryz.prog 134 sh134x0 (A134x0 N) :=
 (h134x0s3 N).fn progOk (T39x0_ok N) fun L x hx => ((raw134x0 N L).trans ((bind134x0 N ..).trans (alt1 x hx)))
def T134x0 : Oracle := ext 134 (spSh sh134x0 (A134x0 N)) (T39x0 N)
theorem T134x0_ok : OracleOk Tryz.prog (T134x0 N) := FnOk.to (ok134x0 N) (T39x0_ok N)
def rg69x0 : List (Nat × List Nat) := [(0, [0]), (1, [1]), (3, [1]), (5, [1]), (7, [1]), (8, []), (6, []), (4, []), (2, []), (9, [1]), (10, [42, 41, 1]), (11, [42, 1, 41]), (12, [1, 3, 42, 41]), (13, [4, 42, 41, 1]), (14, [4]), (15, [42, 41, 1]), (16, [1]), (17, [55, 54, 1]), (18, [55, 1, 54]), (19, [1, 5, 55, 54]), (20, [6, 55, 54, 1]), (21, [6]), (22, [55, 54, 1]), (23, [1]), (24, [68, 67, 66, 1]), (25, [68, 66, 1, 67]), (26, [8, 7, 1, 68, 67, 66]), (27, []), (28, [7, 8, 1, 68, 67, 66]), (29, []), (30, [68, 67, 66, 1]), (31, [])]
def hd69x0 : Hints := [(30, [42, 41, 1], [1], []), (51, [55, 54, 1], [1], []), (72, [68, 67, 66, 1], [1], [])]
def h69x0s0 (N : Nat) : Sg Tryz.prog 0 69 := .start hd69x0 rg69x0
def S69x0x30 (w0 w4 : Int) (w6 : LD) (w1 : Int) (kr : Int → Option R) (k0 : Int → Option R) (k1 : Unit → Option R) : Option R :=
 bif (decide (w1 < w0)) then
  bnd (G133x0 N w4 w6 w1) fun y0 =>
  bif y0.isSome then
   bif ((y0.getD default) != 0) then
    k0 (y0.getD default)
   else
    kr (IntKind.wrap .i64 (w1 + 1))
  else
   none
 else
  k1 ()
def L69x0x30 (N : Nat) {R : Type} (w0 w4 : Int) (w6 : LD) : Nat → Int → (Int → Option R) → (Unit → Option R) → Option R
 | 0, _, _, _ => none
 | m + 1, w1, k0, k1 => S69x0x30 N w0 w4 w6 w1 (fun w1 => L69x0x30 N w0 w4 w6 m w1 k0 k1) k0 k1
def G69x0x30 (w0 w4 : Int) (w6 : LD) (w1 : Int) : Option (Sum (Int) (Unit)) := L69x0x30 N (R := (Sum (Int) (Unit))) w0 w4 w6 N w1 (fun p => some (.inl p)) (fun p => some (.inr p))
def J69x0x30 (L x : List Lf) (kr : List Lf → Option R) (k0 : Int → Option R) (k1 : Unit → Option R) : Option R := S69x0x30 N (li L 0) (li L 4) (ll L 6) (li x 0) (fun w1 => kr [.i w1]) k0 k1
theorem sb69x0x30 (L x : List Lf) (kr : List Lf → Option R) (k0 : Int → Option R) (k1 : Unit → Option R) : J69x0x30 N L x kr k0 k1 = (J69x0x30 N L x (fun y => some (.inl y)) (fun p => some (.inr (.inl p))) (fun p => some (.inr (.inr p)))).bind (sumE kr (sumE k0 k1)) := by
 unfold J69x0x30 S69x0x30
 repeat' (first | with_reducible apply cond_b | (with_reducible apply bnd_b; intro _) | rfl)
def Q69x0x30 (L : List Lf) (m : Nat) (x : List Lf) : Option (Sum (Int) (Unit)) := L69x0x30 N (R := (Sum (Int) (Unit))) (li L 0) (li L 4) (ll L 6) m (li x 0) (fun p => some (.inl p)) (fun p => some (.inr p))
def sh69x0x30 : Sh := { tmps := [(1, .c (.p 1 0)), (41, .c (.i .i64)), (42, .c (.i .i64))], mem := [(1, .box (.s :: [.i .i64, .i .i64, .sl 69, .sl 130, .sl 9]))] }
def K69x0x30w0 (L : List Lf) (p : Int) : Ex × St := (.ret, mg (ofSh sh69x0x30 L) [2] [(2, .c (.i .i64 p))] [1] [])
def A69x0x30 (L : List Lf) : List (Bool × (Ex × St)) := bnd (Q69x0x30 N L N (pk sh69x0x30 [1] L)) fun q => [((inlB q), K69x0x30w0 L (inlV q)), ((inrQ q).isSome, ((.exit 1), mg (ofSh sh69x0x30 L) [1] [] [1] []))]
theorem step69x0x30 (m : Nat) (kn : St → Option (Ex × St)) (L x : List Lf) : lpB Tryz.prog (T134x0 N) (h69x0s0 N).h 0 69 30 sh69x0x30 [1] [2, 1] [1] (m + 100) kn L x = J69x0x30 N L x (fun y => kn (ofSh sh69x0x30 (mx sh69x0x30 [1] L y))) (fun p => some (K69x0x30w0 L p)) (fun _ => some ((.exit 1), mg (ofSh sh69x0x30 L) [1] [] [1] [])) := by kernel_rfl
theorem ql69x0x30 (L : List Lf) (m : Nat) (x : List Lf) : Q69x0x30 N L (m + 1) x = J69x0x30 N L x (Q69x0x30 N L m) (fun p => some (.inl p)) (fun p => some (.inr p)) := by kernel_rfl
def h69x0s1 : Sg Tryz.prog 0 69 :=
 (h69x0s0 N).lp (A69x0x30 N) N progOk (T134x0_ok N) (fun m kn L x => (step69x0x30 N m kn L x).trans (sb69x0x30 N L x _ _ _)) (fun L m x => (ql69x0x30 N L m x).trans (sb69x0x30 N L x (Q69x0x30 N L m) (fun p => some (.inl p)) (fun p => some (.inr p)))) fun L x hx => (altS alt1) x hx
def S69x0x51 (w0 : Int) (w6 w8 : LD) (w1 : Int) (kr : Int → Option R) (k0 : Int → Option R) (k1 : Unit → Option R) : Option R :=
 bif (decide (w1 < w0)) then
  bnd (G134x0 N w6 w8 w1) fun y0 =>
  bif y0.isSome then
   bif ((y0.getD default) != 0) then
    k0 (y0.getD default)
   else
    kr (IntKind.wrap .i64 (w1 + 1))
  else
   none
 else
  k1 ()
def L69x0x51 (N : Nat) {R : Type} (w0 : Int) (w6 w8 : LD) : Nat → Int → (Int → Option R) → (Unit → Option R) → Option R
 | 0, _, _, _ => none
 | m + 1, w1, k0, k1 => S69x0x51 N w0 w6 w8 w1 (fun w1 => L69x0x51 N w0 w6 w8 m w1 k0 k1) k0 k1
def G69x0x51 (w0 : Int) (w6 w8 : LD) (w1 : Int) : Option (Sum (Int) (Unit)) := L69x0x51 N (R := (Sum (Int) (Unit))) w0 w6 w8 N w1 (fun p => some (.inl p)) (fun p => some (.inr p))
def J69x0x51 (L x : List Lf) (kr : List Lf → Option R) (k0 : Int → Option R) (k1 : Unit → Option R) : Option R := S69x0x51 N (li L 0) (ll L 6) (ll L 8) (li x 0) (fun w1 => kr [.i w1]) k0 k1
theorem sb69x0x51 (L x : List Lf) (kr : List Lf → Option R) (k0 : Int → Option R) (k1 : Unit → Option R) : J69x0x51 N L x kr k0 k1 = (J69x0x51 N L x (fun y => some (.inl y)) (fun p => some (.inr (.inl p))) (fun p => some (.inr (.inr p)))).bind (sumE kr (sumE k0 k1)) := by
 unfold J69x0x51 S69x0x51
 repeat' (first | with_reducible apply cond_b | (with_reducible apply bnd_b; intro _) | rfl)
def Q69x0x51 (L : List Lf) (m : Nat) (x : List Lf) : Option (Sum (Int) (Unit)) := L69x0x51 N (R := (Sum (Int) (Unit))) (li L 0) (ll L 6) (ll L 8) m (li x 0) (fun p => some (.inl p)) (fun p => some (.inr p))
def sh69x0x51 : Sh := { tmps := [(1, .c (.p 1 0)), (54, .c (.i .i64)), (55, .c (.i .i64))], mem := [(1, .box (.s :: [.i .i64, .i .i64, .sl 69, .sl 130, .sl 9]))] }
def K69x0x51w0 (L : List Lf) (p : Int) : Ex × St := (.ret, mg (ofSh sh69x0x51 L) [2] [(2, .c (.i .i64 p))] [1] [])
def A69x0x51 (L : List Lf) : List (Bool × (Ex × St)) := bnd (Q69x0x51 N L N (pk sh69x0x51 [1] L)) fun q => [((inlB q), K69x0x51w0 L (inlV q)), ((inrQ q).isSome, ((.exit 3), mg (ofSh sh69x0x51 L) [1] [] [1] []))]
theorem step69x0x51 (m : Nat) (kn : St → Option (Ex × St)) (L x : List Lf) : lpB Tryz.prog (T134x0 N) (h69x0s1 N).h 0 69 51 sh69x0x51 [1] [2, 1] [1] (m + 100) kn L x = J69x0x51 N L x (fun y => kn (ofSh sh69x0x51 (mx sh69x0x51 [1] L y))) (fun p => some (K69x0x51w0 L p)) (fun _ => some ((.exit 3), mg (ofSh sh69x0x51 L) [1] [] [1] [])) := by kernel_rfl
theorem ql69x0x51 (L : List Lf) (m : Nat) (x : List Lf) : Q69x0x51 N L (m + 1) x = J69x0x51 N L x (Q69x0x51 N L m) (fun p => some (.inl p)) (fun p => some (.inr p)) := by kernel_rfl
def h69x0s2 : Sg Tryz.prog 0 69 :=
 (h69x0s1 N).lp (A69x0x51 N) N progOk (T134x0_ok N) (fun m kn L x => (step69x0x51 N m kn L x).trans (sb69x0x51 N L x _ _ _)) (fun L m x => (ql69x0x51 N L m x).trans (sb69x0x51 N L x (Q69x0x51 N L m) (fun p => some (.inl p)) (fun p => some (.inr p)))) fun L x hx => (altS alt1) x hx
def S69x0x72 (w1 : LD) (w2 : Int) (w12 : LD) (w3 : Int) (kr : Int → Option R) (k0 : Int → Option R) (k1 : Unit → Option R) : Option R :=
 bif (decide (w3 < w2)) then
  bif (inB w3 w1.length) then
   bnd (G131x0 N (w1.getD w3.toNat (.i 0)).toS) fun y0 =>
   bif y0.isSome then
    bif (!(y0.getD default)) then
     k0 8
    else
     bif (bif (inB (IntKind.wrap .i64 (w3 - 1)) w12.length) then true else (!((decide (w3 > 0)) == true))) then
      bnd (bif (decide (w3 > 0)) then ((Op.bytesLess (w1.getD w3.toNat (.i 0)).toS (w12.getD (IntKind.wrap .i64 (w3 - 1)).toNat (.i 0)).toS) || ((w1.getD w3.toNat (.i 0)).toS == (w12.getD (IntKind.wrap .i64 (w3 - 1)).toNat (.i 0)).toS)) else false) fun y1 =>
      bif y1 then
       k0 10
      else
       kr (IntKind.wrap .i64 (w3 + 1))
     else
      none
   else
    none
  else
   none
 else
  k1 ()
def L69x0x72 (N : Nat) {R : Type} (w1 : LD) (w2 : Int) (w12 : LD) : Nat → Int → (Int → Option R) → (Unit → Option R) → Option R
 | 0, _, _, _ => none
 | m + 1, w3, k0, k1 => S69x0x72 N w1 w2 w12 w3 (fun w3 => L69x0x72 N w1 w2 w12 m w3 k0 k1) k0 k1
def G69x0x72 (w1 : LD) (w2 : Int) (w12 : LD) (w3 : Int) : Option (Sum (Int) (Unit)) := L69x0x72 N (R := (Sum (Int) (Unit))) w1 w2 w12 N w3 (fun p => some (.inl p)) (fun p => some (.inr p))
def J69x0x72 (L x : List Lf) (kr : List Lf → Option R) (k0 : Int → Option R) (k1 : Unit → Option R) : Option R := S69x0x72 N (ll L 1) (li L 2) (ll L 12) (li x 0) (fun w3 => kr [.i w3]) k0 k1
theorem sb69x0x72 (L x : List Lf) (kr : List Lf → Option R) (k0 : Int → Option R) (k1 : Unit → Option R) : J69x0x72 N L x kr k0 k1 = (J69x0x72 N L x (fun y => some (.inl y)) (fun p => some (.inr (.inl p))) (fun p => some (.inr (.inr p)))).bind (sumE kr (sumE k0 k1)) := by
 unfold J69x0x72 S69x0x72
 repeat' (first | with_reducible apply cond_b | (with_reducible apply bnd_b; intro _) | rfl)
def Q69x0x72 (L : List Lf) (m : Nat) (x : List Lf) : Option (Sum (Int) (Unit)) := L69x0x72 N (R := (Sum (Int) (Unit))) (ll L 1) (li L 2) (ll L 12) m (li x 0) (fun p => some (.inl p)) (fun p => some (.inr p))
def sh69x0x72 : Sh := { tmps := [(1, .c (.p 1 0)), (66, .c (.sl 9)), (67, .c (.i .i64)), (68, .c (.i .i64))], mem := [(1, .box (.s :: [.i .i64, .i .i64, .sl 69, .sl 130, .sl 9]))] }
def A69x0x72 (L : List Lf) : List (Bool × (Ex × St)) := bnd (Q69x0x72 N L N (pk sh69x0x72 [3] L)) fun q => [((inlB q), (.ret, ⟨[(2, .c (.i .i64 (inlV q)))], []⟩)), ((inrQ q).isSome, ((.exit 5), ⟨[], []⟩))]
theorem step69x0x72 (m : Nat) (kn : St → Option (Ex × St)) (L x : List Lf) : lpB Tryz.prog (T134x0 N) (h69x0s2 N).h 0 69 72 sh69x0x72 [3] [2] [] (m + 100) kn L x = J69x0x72 N L x (fun y => kn (ofSh sh69x0x72 (mx sh69x0x72 [3] L y))) (fun p => some (.ret, ⟨[(2, .c (.i .i64 p))], []⟩)) (fun _ => some ((.exit 5), ⟨[], []⟩)) := by kernel_rfl
theorem ql69x0x72 (L : List Lf) (m : Nat) (x : List Lf) : Q69x0x72 N L (m + 1) x = J69x0x72 N L x (Q69x0x72 N L m) (fun p => some (.inl p)) (fun p => some (.inr p)) := by kernel_rfl
def h69x0s3 : Sg Tryz.prog 0 69 :=
 (h69x0s2 N).lp (A69x0x72 N) N progOk (T134x0_ok N) (fun m kn L x => (step69x0x72 N m kn L x).trans (sb69x0x72 N L x _ _ _)) (fun L m x => (ql69x0x72 N L m x).trans (sb69x0x72 N L x (Q69x0x72 N L m) (fun p => some (.inl p)) (fun p => some (.inr p)))) fun L x hx => (altS alt1) x hx
def F69x0 (v0 : LB) (v1 v2 : Int) (v4 v6 v8 : LD) (k0 : Int → Option R) : Option R :=
 bnd (G131x0 N v0) fun y0 =>
 bif y0.isSome then
  bif (!(y0.getD default)) then
   k0 8
  else
   bnd (V132x0 N v1 1 5) fun y1 =>
   bif y1 then
    k0 7
   else
    bnd (V132x0 N v2 0 86399999999) fun y2 =>
    bif y2 then
     k0 9
    else
     bnd (bif (decide ((v4.length : Int) > 20000)) then true else (decide ((v6.length : Int) > 200))) fun y3 =>
     bnd (bif y3 then true else (decide ((v8.length : Int) > 20))) fun y4 =>
     bif y4 then
      k0 3
     else
      bnd (G69x0x30 N (v4.length : Int) v2 v4 0) fun y5 =>
      bif (inlB y5) then
       k0 (inlV y5)
      else
       bif (inrQ y5).isSome then
        bnd (G69x0x51 N (v6.length : Int) v4 v6 0) fun y6 =>
        bif (inlB y6) then
         k0 (inlV y6)
        else
         bif (inrQ y6).isSome then
          bnd (G69x0x72 N v8 (v8.length : Int) v8 0) fun y7 =>
          bif (inlB y7) then
           k0 (inlV y7)
          else
           bif (inrQ y7).isSome then
            k0 0
           else
            none
         else
          none
       else
        none
 else
  none
def G69x0 (v0 : LB) (v1 v2 : Int) (v4 v6 v8 : LD) : Option (Int) := F69x0 N v0 v1 v2 v4 v6 v8 (fun p => some p)
theorem bind69x0 (v0 : LB) (v1 v2 : Int) (v4 v6 v8 : LD) (k0 : Int → Option R) : F69x0 N v0 v1 v2 v4 v6 v8 k0 = (G69x0 N v0 v1 v2 v4 v6 v8).bind k0 := by
 unfold G69x0 F69x0
 repeat' (first | with_reducible apply cond_b | (with_reducible apply bnd_b; intro _) | rfl)
def J69x0 (L : List Lf) (k0 : Int → Option R) : Option R := F69x0 N (ls L 0) (li L 1) (li L 2) (ll L 4) (ll L 6) (ll L 8) k0
def sh69x0 : Sh := { tmps := [(0, .g (.s :: [.i .i64, .i .i64, .sl 69, .sl 130, .sl 9]))], mem := [] }
def A69x0 (L : List Lf) : List (Bool × Res) := bnd (J69x0 N L (fun p => some p)) fun q => [(q.isSome, ([.c (.i .i64 (q.getD default))], []))]
theorem raw69x0 (L : List Lf) : bd Tryz.prog (T134x0 N) (h69x0s3 N).h 69 sh69x0 L = J69x0 N L (fun p => some ([.c (.i .i64 p)], [])) := by kernel_rfl
theorem ok69x0 : FnOk Tryz.prog 69 sh69x0 (A69x0 N) :=
 (h69x0s3 N).fn progOk (T134x0_ok N) fun L x hx => ((raw69x0 N L).trans ((bind69x0 N ..).trans (alt1 x hx)))
def T69x0 : Oracle := ext 69 (spSh sh69x0 (A69x0 N)) (T134x0 N)
theorem T69x0_ok : OracleOk Tryz.prog (T69x0 N) := FnOk.to (ok69x0 N) (T134x0_ok N)
def rg23x0 : List (Nat × List Nat) := [(0, [0]), (1, [1, 2]), (2, [4, 2, 1]), (3, [4, 2]), (4, [1, 2]), (5, [5, 1, 2]), (6, [5, 1, 6, 2]), (7, [5, 7, 1, 6, 2]), (8, [39, 38, 37, 7, 1, 5, 6, 2]), (9, [39, 37, 7, 38, 1, 5, 6, 2]), (10, [7, 9, 39, 38, 37, 1, 5, 6, 2, 8]), (11, [9, 1, 8, 5, 6, 2, 39, 38, 37]), (12, [9, 1, 8, 5, 6, 2, 39, 38, 37, 7]), (13, [10, 5, 8, 6, 2, 39, 38, 37, 7, 1]), (14, [10, 11, 5, 8, 6, 12, 2, 39, 38, 37, 7, 1]), (15, [12, 6, 2, 39, 38, 37, 7, 1, 5]), (16, [2]), (17, [39, 38, 37, 7, 1, 5, 6, 2]), (18, [7, 2, 5, 1, 6]), (19, [2]), (20, [5, 1, 2, 6]), (21, [102, 101, 100, 1, 5, 2, 6]), (22, [102, 100, 101, 1, 5, 2, 6]), (23, [14, 102, 101, 100, 1, 5, 2, 6, 13]), (24, [14, 1, 13, 5, 2, 6, 102, 101, 100]), (25, [14, 15, 16, 2, 6, 102, 101, 100, 1, 5]), (26, [127, 15, 16, 2, 6, 102, 101, 100, 1, 5]), (33, [127, 15, 16, 2, 6, 102, 101, 100, 1, 5]), (38, [127, 15, 2, 6, 102, 101, 100, 1, 5]), (39, [15, 2, 6, 102, 101, 100, 1, 5]), (40, [25, 2, 6, 102, 101, 100, 1, 5]), (41, [2]), (42, [6, 25, 102, 101, 100, 1, 5, 2]), (34, [15, 16, 2, 6, 102, 101, 100, 1, 5]), (35, [16, 24, 2, 6, 23, 15, 102, 101, 100, 1, 5]), (36, [2]), (37, [6, 16, 23, 15, 102, 101, 100, 1, 5, 2]), (27, [15, 16, 2, 6, 102, 101, 100, 1, 5]), (28, [15, 16, 18, 2, 6, 17, 102, 101, 100, 1, 5]), (29, [15, 16, 18, 20, 2, 6, 17, 19, 102, 101, 100, 1, 5]), (30, [16, 18, 20, 22, 2, 6, 17, 19, 21, 15, 102, 101, 100, 1, 5]), (31, [2]), (32, [6, 16, 17, 19, 21, 15, 102, 101, 100, 1, 5, 2]), (43, [102, 101, 100, 1, 5, 2, 6]), (44, [6, 2]), (45, [26, 2, 6]), (46, [26, 2]), (47, [6, 2])]
def hd23x0 : Hints := [(24, [39, 38, 37, 7, 1, 5, 6, 2], [6, 5, 2, 1, 50006005, 50006004, 50006003], [50006005, 50006004, 50006003]), (63, [102, 101, 100, 1, 5, 2, 6], [50006005, 50006004, 50006003, 6, 5, 2, 1], [50006005, 50006004, 50006003]), (119, [15, 2, 6, 102, 101, 100, 1, 5, 209], [50006005, 50006004, 50006003, 6, 5, 2, 1], []), (114104, [15, 16, 2, 6, 102, 101, 100, 1, 5, 127, 179], [50006005, 50006004, 50006003, 6, 5, 2, 1], []), (99083, [15, 16, 2, 6, 102, 101, 100, 1, 5, 127, 128], [50006005, 50006004, 50006003, 6, 5, 2, 1], [])]
def h23x0s0 (N : Nat) : Sg Tryz.prog 0 23 := .start hd23x0 rg23x0
def S23x0x24 (w2 : LD) (w3 : Int) (w6 w19 : LD) (w0 : Bool) (w4 : Int) (w20 : LB) (w21 w22 : Int) (kr : Bool → Int → LB → Int → Int → Option R) (k0 : Ty6 → Option R) (k1 : Ty9 → Option R) : Option R :=
 bif (decide (w4 < w3)) then
  bif (inB w4 w2.length) then
   bnd (bif w0 then true else (((w2.getD w4.toNat (.i 0)).items.length : Int) == 0)) fun y0 =>
   bif (bif (inB 0 (w2.getD w4.toNat (.i 0)).items.length) then true else (!(y0 == false))) then
    bnd (bif y0 then true else ((((w2.getD w4.toNat (.i 0)).items.getD 0 (.i 0)).cell 1).toI != 0)) fun y1 =>
    bif y1 then
     kr w0 (IntKind.wrap .i64 (w4 + 1)) w20 w21 w22
    else
     bif (inB 0 (w2.getD w4.toNat (.i 0)).items.length) then
      bnd (((w2.getD w4.toNat (.i 0)).items.getD 0 (.i 0)).cell 2).isNil fun y2 =>
      bnd ((((w2.getD w4.toNat (.i 0)).items.getD 0 (.i 0)).cell 2).items : List D) fun y3 =>
      bif (inB w4 w6.length) then
       bnd (G65x0 N (((w2.getD w4.toNat (.i 0)).items.getD 0 (.i 0)).cell 0).toB y3 ((w6.getD w4.toNat (.i 0)).cell 0).toI ((w6.getD w4.toNat (.i 0)).cell 4).items) fun y4 =>
       bif y4.isSome then
        bnd (G66x0 N (y4.getD default).2 2 0) fun y5 =>
        bif y5.isSome then
         bnd (G67x0 N (y4.getD default).2 1) fun y6 =>
         bif y6.isSome then
          bif (inB w4 w19.length) then
           bnd (bif (!(y5.getD default).2) then true else ((y6.getD default) == ([] : List UInt8))) fun y7 =>
           bnd (bif y7 then true else (decide ((w19.getD w4.toNat (.i 0)).toI < 0))) fun y8 =>
           bif y8 then
            k0 (([] : List UInt8), (y6.getD default), (y5.getD default).1, (w19.getD w4.toNat (.i 0)).toI)
           else
            kr true (IntKind.wrap .i64 (w4 + 1)) (y6.getD default) (y5.getD default).1 (w19.getD w4.toNat (.i 0)).toI
          else
           none
         else
          none
        else
         none
       else
        none
      else
       none
     else
      none
   else
    none
  else
   none
 else
  k1 (w0, w20, w21, w22)
def L23x0x24 (N : Nat) {R : Type} (w2 : LD) (w3 : Int) (w6 w19 : LD) : Nat → Bool → Int → LB → Int → Int → (Ty6 → Option R) → (Ty9 → Option R) → Option R
 | 0, _, _, _, _, _, _, _ => none
 | m + 1, w0, w4, w20, w21, w22, k0, k1 => S23x0x24 N w2 w3 w6 w19 w0 w4 w20 w21 w22 (fun w0 w4 w20 w21 w22 => L23x0x24 N w2 w3 w6 w19 m w0 w4 w20 w21 w22 k0 k1) k0 k1
def G23x0x24 (w2 : LD) (w3 : Int) (w6 w19 : LD) (w0 : Bool) (w4 : Int) (w20 : LB) (w21 w22 : Int) : Option (Sum (Ty6) (Ty9)) := L23x0x24 N (R := (Sum (Ty6) (Ty9))) w2 w3 w6 w19 N w0 w4 w20 w21 w22 (fun p => some (.inl p)) (fun p => some (.inr p))
def J23x0x24 (L x : List Lf) (kr : List Lf → Option R) (k0 : Ty6 → Option R) (k1 : Ty9 → Option R) : Option R := S23x0x24 N (ll L 2) (li L 3) (ll L 6) (ll L 19) (lb x 0) (li x 1) (ls x 2) (li x 3) (li x 4) (fun w0 w4 w20 w21 w22 => kr [.b w0, .i w4, .s w20, .i w21, .i w22]) k0 k1
theorem sb23x0x24 (L x : List Lf) (kr : List Lf → Option R) (k0 : Ty6 → Option R) (k1 : Ty9 → Option R) : J23x0x24 N L x kr k0 k1 = (J23x0x24 N L x (fun y => some (.inl y)) (fun p => some (.inr (.inl p))) (fun p => some (.inr (.inr p)))).bind (sumE kr (sumE k0 k1)) := by
 unfold J23x0x24 S23x0x24
 repeat' (first | with_reducible apply cond_b | (with_reducible apply bnd_b; intro _) | rfl)
def Q23x0x24 (L : List Lf) (m : Nat) (x : List Lf) : Option (Sum (Ty6) (Ty9)) := L23x0x24 N (R := (Sum (Ty6) (Ty9))) (ll L 2) (li L 3) (ll L 6) (ll L 19) m (lb x 0) (li x 1) (ls x 2) (li x 3) (li x 4) (fun p => some (.inl p)) (fun p => some (.inr p))
def sh23x0x24 : Sh := { tmps := [(1, .c (.p 1 0)), (2, .c (.p 2 0)), (5, .c (.p 5 0)), (6, .c (.p 6 0)), (7, .c (.b)), (37, .c (.sl 94)), (38, .c (.i .i64)), (39, .c (.i .i64))], mem := [(1, .box ([.sl 96])), (2, .box (.s :: [.i .i64, .i .i64, .sl 69, .sl 130, .sl 9])), (5, .box ([.sl 94, .sl 3])), (6, .box (.s :: [.i .i64, .i .i64, .o 50006003, .o 50006004, .o 50006005])), (50006003, .row 69 true), (50006004, .row 130 true), (50006005, .row 9 true)] }
def K23x0x24w0 (L : List Lf) (p : Ty6) : Ex × St := (.ret, mg (ofSh sh23x0x24 L) [2, 3] [(3, .c (.i .i64 4))] [1, 2, 5, 6, 50006003, 50006004, 50006005] [(2, .box [.s p.1, .i .i64 0, .i .i64 0, .sl 69 true [], .sl 130 true [], .sl 9 true []]), (6, .box [.s p.2.1, .i .i64 p.2.2.1, .i .i64 p.2.2.2, .o 50006003, .o 50006004, .o 50006005])])
def K23x0x24w1 (L : List Lf) (p : Ty9) : Ex × St := ((.exit 0), mg (ofSh sh23x0x24 L) [1, 2, 5, 6, 7] [(7, .c (.b p.1))] [1, 2, 5, 6, 50006003, 50006004, 50006005] [(6, .box [.s p.2.1, .i .i64 p.2.2.1, .i .i64 p.2.2.2, .o 50006003, .o 50006004, .o 50006005])])
def A23x0x24 (L : List Lf) : List (Bool × (Ex × St)) := bnd (Q23x0x24 N L N (pk sh23x0x24 [0, 4, 20, 21, 22] L)) fun q => [((inlB q), K23x0x24w0 L (inlV q)), ((inrQ q).isSome, K23x0x24w1 L ((inrQ q).getD default))]
theorem step23x0x24 (m : Nat) (kn : St → Option (Ex × St)) (L x : List Lf) : lpB Tryz.prog (T69x0 N) (h23x0s0 N).h 0 23 24 sh23x0x24 [0, 4, 20, 21, 22] [2, 3, 7, 5, 1, 6] [2, 50006005, 50006004, 50006003, 6, 5, 1] (m + 100) kn L x = J23x0x24 N L x (fun y => kn (ofSh sh23x0x24 (mx sh23x0x24 [0, 4, 20, 21, 22] L y))) (fun p => some (K23x0x24w0 L p)) (fun p => some (K23x0x24w1 L p)) := by kernel_rfl
theorem ql23x0x24 (L : List Lf) (m : Nat) (x : List Lf) : Q23x0x24 N L (m + 1) x = J23x0x24 N L x (Q23x0x24 N L m) (fun p => some (.inl p)) (fun p => some (.inr p)) := by kernel_rfl
def h23x0s1 : Sg Tryz.prog 0 23 :=
 (h23x0s0 N).lp (A23x0x24 N) N progOk (T69x0_ok N) (fun m kn L x => (step23x0x24 N m kn L x).trans (sb23x0x24 N L x _ _ _)) (fun L m x => (ql23x0x24 N L m x).trans (sb23x0x24 N L x (Q23x0x24 N L m) (fun p => some (.inl p)) (fun p => some (.inr p)))) fun L x hx => (altS alt1) x hx
def F23x0x119 (w1 : LD) (w6 : Bool) (w30 : LD) (k0 : LB → Option R) (k1 : LD → Option R) (k2 : Unit → Option R) : Option R :=
 bif w6 then
  bnd (G67x0 N w1 1) fun y0 =>
  bif y0.isSome then
   bif ((y0.getD default) == ([] : List UInt8)) then
    k0 ([] : List UInt8)
   else
    bif (decide ((w30.length + 1) * 16 ≤ room) && decide ((w30.length + 1) ≤ strMax)) then
     k1 (w30 ++ [(.s (y0.getD default))])
    else
     none
  else
   none
 else
  k2 ()
def G23x0x119 (w1 : LD) (w6 : Bool) (w30 : LD) : Option (Sum (LB) (Sum (LD) (Unit))) := F23x0x119 N w1 w6 w30 (fun p => some (.inl p)) (fun p => some (.inr (.inl p))) (fun p => some (.inr (.inr p)))
theorem bind23x0x119 (w1 : LD) (w6 : Bool) (w30 : LD) (k0 : LB → Option R) (k1 : LD → Option R) (k2 : Unit → Option R) : F23x0x119 N w1 w6 w30 k0 k1 k2 = (G23x0x119 N w1 w6 w30).bind (sumE k0 (sumE k1 k2)) := by
 unfold G23x0x119 F23x0x119
 repeat' (first | with_reducible apply cond_b | (with_reducible apply bnd_b; intro _) | rfl)
def sh23x0x119 : Sh := { tmps := [(1, .c (.p 1 0)), (2, .c (.p 2 0)), (5, .c (.p 5 0)), (6, .c (.p 6 0)), (15, .c (.sl 185)), (100, .c (.sl 94)), (101, .c (.i .i64)), (102, .c (.i .i64)), (209, .c (.b))], mem := [(1, .box ([.sl 96])), (2, .box (.s :: [.i .i64, .i .i64, .sl 69, .sl 130, .sl 9])), (5, .box ([.sl 94, .sl 3])), (6, .box (.s :: [.i .i64, .i .i64, .o 50006003, .o 50006004, .o 50006005])), (50006003, .row 69 true), (50006004, .row 130 true), (50006005, .row 9 true)] }
def K23x0x119w0 (L : List Lf) (p : LB) : Ex × St := (.ret, mg (ofSh sh23x0x119 L) [2, 3] [(3, .c (.i .i64 2))] [1, 2, 5, 6, 50006003, 50006004, 50006005] [(2, .box [.s p, .i .i64 0, .i .i64 0, .sl 69 true [], .sl 130 true [], .sl 9 true []])])
def K23x0x119w1 (L : List Lf) (p : LD) : Ex × St := (.normal, mg (ofSh sh23x0x119 L) [1, 2, 5, 6, 100, 101, 102] [] [1, 2, 5, 6, 220, 50006003, 50006004] [(6, .box [.s (ls L 22), .i .i64 (li L 23), .i .i64 (li L 24), .o 50006003, .o 50006004, .o 220]), (220, .row 9 true false p)])
def K23x0x119w2 (L : List Lf) (_ : Unit) : Ex × St := (.normal, mg (ofSh sh23x0x119 L) [1, 2, 5, 6, 100, 101, 102] [] [1, 2, 5, 6, 50006003, 50006004, 50006005] [])
def A23x0x119 (L : List Lf) : List (Bool × (Ex × St)) := bnd (F23x0x119 N (ll L 1) (lb L 6) (ll L 30) (fun p => some (.inl p)) (fun p => some (.inr (.inl p))) (fun p => some (.inr (.inr p)))) fun q => [((inlB q), K23x0x119w0 L (inlV q)), ((inlB (inrQ q)), K23x0x119w1 L (inlV (inrQ q))), ((inrQ (inrQ q)).isSome, K23x0x119w2 L ())]
theorem raw23x0x119 (L : List Lf) : pc Tryz.prog (T69x0 N) (h23x0s1 N).h 0 100 23 119 sh23x0x119 L [102, 101, 100, 1, 5, 2, 6, 3] [2, 220, 50006004, 50006003, 6, 5, 1, 50006005] = F23x0x119 N (ll L 1) (lb L 6) (ll L 30) (fun p => some (K23x0x119w0 L p)) (fun p => some (K23x0x119w1 L p)) (fun _ => some (K23x0x119w2 L ())) := by kernel_rfl
def h23x0s2 : Sg Tryz.prog 0 23 :=
 (h23x0s1 N).cut (A23x0x119 N) progOk (T69x0_ok N) fun L x hx => (raw23x0x119 N L).trans ((bind23x0x119 N ..).trans ((altS (altS alt1)) x hx))
def F23x0x114104 (w1 : LD) (w2 w7 : Int) (w8 : Bool) (w26 : Int) (w30 w32 : LD) (k0 : LB → Option R) (k1 : LD → Option R) (k2 : LD → Option R) (k3 : Unit → Option R) : Option R :=
 bif w8 then
  bnd (G66x0 N w1 1 0) fun y0 =>
  bif y0.isSome then
   bnd (bif (decide (w2 < 0)) then true else (!(y0.getD default).2)) fun y1 =>
   bif y1 then
    k0 ([] : List UInt8)
   else
    bnd (G67x0 N w1 2) fun y2 =>
    bif y2.isSome then
     bif (decide ((w30.length + 1) * 32 ≤ room) && decide ((w30.length + 1) ≤ strMax)) then
      bnd ((w30 ++ [(.a [(.i (IntKind.wrap .i64 (w2 - w26))), (.i (IntKind.wrap .i64 ((y0.getD default).1 - w26))), (.s (y2.getD default))])]) : List D) fun y3 =>
      k1 y3
     else
      none
    else
     none
  else
   none
 else
  bnd (G23x0x119 N w1 (w7 == 30) w32) fun y4 =>
  bif (inlB y4) then
   k0 (inlV y4)
  else
   bif (inlB (inrQ y4)) then
    k2 (inlV (inrQ y4))
   else
    bif (inrQ (inrQ y4)).isSome then
     k3 ()
    else
     none
def G23x0x114104 (w1 : LD) (w2 w7 : Int) (w8 : Bool) (w26 : Int) (w30 w32 : LD) : Option (Sum (LB) (Sum (LD) (Sum (LD) (Unit)))) := F23x0x114104 N w1 w2 w7 w8 w26 w30 w32 (fun p => some (.inl p)) (fun p => some (.inr (.inl p))) (fun p => some (.inr (.inr (.inl p)))) (fun p => some (.inr (.inr (.inr p))))
theorem bind23x0x114104 (w1 : LD) (w2 w7 : Int) (w8 : Bool) (w26 : Int) (w30 w32 : LD) (k0 : LB → Option R) (k1 : LD → Option R) (k2 : LD → Option R) (k3 : Unit → Option R) : F23x0x114104 N w1 w2 w7 w8 w26 w30 w32 k0 k1 k2 k3 = (G23x0x114104 N w1 w2 w7 w8 w26 w30 w32).bind (sumE k0 (sumE k1 (sumE k2 k3))) := by
 unfold G23x0x114104 F23x0x114104
 repeat' (first | with_reducible apply cond_b | (with_reducible apply bnd_b; intro _) | rfl)
def J23x0x114104 (L : List Lf) (k0 : LB → Option R) (k1 : LD → Option R) (k2 : LD → Option R) (k3 : Unit → Option R) : Option R := F23x0x114104 N (ll L 1) (li L 2) (li L 7) (lb L 8) (li L 26) (ll L 30) (ll L 32) k0 k1 k2 k3
def sh23x0x114104 : Sh := { tmps := [(1, .c (.p 1 0)), (2, .c (.p 2 0)), (5, .c (.p 5 0)), (6, .c (.p 6 0)), (15, .c (.sl 185)), (16, .c (.i .i64)), (100, .c (.sl 94)), (101, .c (.i .i64)), (102, .c (.i .i64)), (127, .c (.i .i64)), (179, .c (.b))], mem := [(1, .box ([.sl 96])), (2, .box (.s :: [.i .i64, .i .i64, .sl 69, .sl 130, .sl 9])), (5, .box ([.sl 94, .sl 3])), (6, .box (.s :: [.i .i64, .i .i64, .o 50006003, .o 50006004, .o 50006005])), (50006003, .row 69 true), (50006004, .row 130 true), (50006005, .row 9 true)] }
def K23x0x114104w0 (L : List Lf) (p : LB) : Ex × St := (.ret, mg (ofSh sh23x0x114104 L) [2, 3] [(3, .c (.i .i64 2))] [1, 2, 5, 6, 50006003, 50006004, 50006005] [(2, .box [.s p, .i .i64 0, .i .i64 0, .sl 69 true [], .sl 130 true [], .sl 9 true []])])
def K23x0x114104w1 (L : List Lf) (p : LD) : Ex × St := (.normal, mg (ofSh sh23x0x114104 L) [1, 2, 5, 6, 100, 101, 102] [] [1, 2, 5, 6, 207, 50006003, 50006005] [(6, .box [.s (ls L 24), .i .i64 (li L 25), .i .i64 (li L 26), .o 50006003, .o 207, .o 50006005]), (207, .row 130 true false p)])
def K23x0x114104w2 (L : List Lf) (p : LD) : Ex × St := (.normal, mg (ofSh sh23x0x114104 L) [1, 2, 5, 6, 100, 101, 102] [] [1, 2, 5, 6, 220, 50006003, 50006004] [(6, .box [.s (ls L 24), .i .i64 (li L 25), .i .i64 (li L 26), .o 50006003, .o 50006004, .o 220]), (220, .row 9 true false p)])
def K23x0x114104w3 (L : List Lf) (_ : Unit) : Ex × St := (.normal, mg (ofSh sh23x0x114104 L) [1, 2, 5, 6, 100, 101, 102] [] [1, 2, 5, 6, 50006003, 50006004, 50006005] [])
def A23x0x114104 (L : List Lf) : List (Bool × (Ex × St)) := bnd (J23x0x114104 N L (fun p => some (.inl p)) (fun p => some (.inr (.inl p))) (fun p => some (.inr (.inr (.inl p)))) (fun p => some (.inr (.inr (.inr p))))) fun q => [((inlB q), K23x0x114104w0 L (inlV q)), ((inlB (inrQ q)), K23x0x114104w1 L (inlV (inrQ q))), ((inlB (inrQ (inrQ q))), K23x0x114104w2 L (inlV (inrQ (inrQ q)))), ((inrQ (inrQ (inrQ q))).isSome, K23x0x114104w3 L ())]
theorem raw23x0x114104 (L : List Lf) : pc Tryz.prog (T69x0 N) (h23x0s2 N).h 0 100 23 114104 sh23x0x114104 L [102, 101, 100, 1, 5, 2, 6, 3] [2, 50006005, 207, 50006003, 6, 5, 1, 220, 50006004] = J23x0x114104 N L (fun p => some (K23x0x114104w0 L p)) (fun p => some (K23x0x114104w1 L p)) (fun p => some (K23x0x114104w2 L p)) (fun _ => some (K23x0x114104w3 L ())) := by kernel_rfl
def h23x0s3 : Sg Tryz.prog 0 23 :=
 (h23x0s2 N).cut (A23x0x114104 N) progOk (T69x0_ok N) fun L x hx => (raw23x0x114104 N L).trans ((bind23x0x114104 N ..).trans ((altS (altS (altS alt1))) x hx))
def F23x0x99083 (w1 : LD) (w2 w7 : Int) (w8 : Bool) (w26 : Int) (w28 w30 w32 : LD) (k0 : LB → Option R) (k1 : LD → Option R) (k2 : LD → Option R) (k3 : LD → Option R) (k4 : Unit → Option R) : Option R :=
 bif w8 then
  bnd (G66x0 N w1 0 1) fun y0 =>
  bif y0.isSome then
   bnd (G66x0 N w1 1 1) fun y1 =>
   bif y1.isSome then
    bnd (G66x0 N w1 2 1) fun y2 =>
    bif y2.isSome then
     bnd (bif (decide (w2 < 0)) then true else (!(y0.getD default).2)) fun y3 =>
     bnd (bif (bif y3 then true else (!(y1.getD default).2)) then true else (!(y2.getD default).2)) fun y4 =>
     bif y4 then
      k0 ([] : List UInt8)
     else
      bnd (G68x0 N w1 3) fun y5 =>
      bif y5.isSome then
       bnd (G68x0 N w1 4) fun y6 =>
       bif y6.isSome then
        bnd (G68x0 N w1 5) fun y7 =>
        bif y7.isSome then
         bif (decide ((w28.length + 1) * 56 ≤ room) && decide ((w28.length + 1) ≤ strMax)) then
          bnd ((w28 ++ [(.a [(.i (IntKind.wrap .i64 (w2 - w26))), (.i (y0.getD default).1), (.i (y1.getD default).1), (.i (y2.getD default).1), (.i (y5.getD default)), (.i (y6.getD default)), (.i (y7.getD default))])]) : List D) fun y8 =>
          k1 y8
         else
          none
        else
         none
       else
        none
      else
       none
    else
     none
   else
    none
  else
   none
 else
  bnd (G23x0x114104 N w1 w2 w7 (w7 == 19) w26 w30 w32) fun y9 =>
  bif (inlB y9) then
   k0 (inlV y9)
  else
   bif (inlB (inrQ y9)) then
    k2 (inlV (inrQ y9))
   else
    bif (inlB (inrQ (inrQ y9))) then
     k3 (inlV (inrQ (inrQ y9)))
    else
     bif (inrQ (inrQ (inrQ y9))).isSome then
      k4 ()
     else
      none
def G23x0x99083 (w1 : LD) (w2 w7 : Int) (w8 : Bool) (w26 : Int) (w28 w30 w32 : LD) : Option (Sum (LB) (Sum (LD) (Sum (LD) (Sum (LD) (Unit))))) := F23x0x99083 N w1 w2 w7 w8 w26 w28 w30 w32 (fun p => some (.inl p)) (fun p => some (.inr (.inl p))) (fun p => some (.inr (.inr (.inl p)))) (fun p => some (.inr (.inr (.inr (.inl p))))) (fun p => some (.inr (.inr (.inr (.inr p)))))
theorem bind23x0x99083 (w1 : LD) (w2 w7 : Int) (w8 : Bool) (w26 : Int) (w28 w30 w32 : LD) (k0 : LB → Option R) (k1 : LD → Option R) (k2 : LD → Option R) (k3 : LD → Option R) (k4 : Unit → Option R) : F23x0x99083 N w1 w2 w7 w8 w26 w28 w30 w32 k0 k1 k2 k3 k4 = (G23x0x99083 N w1 w2 w7 w8 w26 w28 w30 w32).bind (sumE k0 (sumE k1 (sumE k2 (sumE k3 k4)))) := by
 unfold G23x0x99083 F23x0x99083
 repeat' (first | with_reducible apply cond_b | (with_reducible apply bnd_b; intro _) | rfl)
def J23x0x99083 (L : List Lf) (k0 : LB → Option R) (k1 : LD → Option R) (k2 : LD → Option R) (k3 : LD → Option R) (k4 : Unit → Option R) : Option R := F23x0x99083 N (ll L 1) (li L 2) (li L 7) (lb L 8) (li L 26) (ll L 28) (ll L 30) (ll L 32) k0 k1 k2 k3 k4
def sh23x0x99083 : Sh := { tmps := [(1, .c (.p 1 0)), (2, .c (.p 2 0)), (5, .c (.p 5 0)), (6, .c (.p 6 0)), (15, .c (.sl 185)), (16, .c (.i .i64)), (100, .c (.sl 94)), (101, .c (.i .i64)), (102, .c (.i .i64)), (127, .c (.i .i64)), (128, .c (.b))], mem := [(1, .box ([.sl 96])), (2, .box (.s :: [.i .i64, .i .i64, .sl 69, .sl 130, .sl 9])), (5, .box ([.sl 94, .sl 3])), (6, .box (.s :: [.i .i64, .i .i64, .o 50006003, .o 50006004, .o 50006005])), (50006003, .row 69 true), (50006004, .row 130 true), (50006005, .row 9 true)] }
def K23x0x99083w0 (L : List Lf) (p : LB) : Ex × St := (.ret, mg (ofSh sh23x0x99083 L) [2, 3] [(3, .c (.i .i64 2))] [1, 2, 5, 6, 50006003, 50006004, 50006005] [(2, .box [.s p, .i .i64 0, .i .i64 0, .sl 69 true [], .sl 130 true [], .sl 9 true []])])
def K23x0x99083w1 (L : List Lf) (p : LD) : Ex × St := (.normal, mg (ofSh sh23x0x99083 L) [1, 2, 5, 6, 100, 101, 102] [] [1, 2, 5, 6, 177, 50006004, 50006005] [(6, .box [.s (ls L 24), .i .i64 (li L 25), .i .i64 (li L 26), .o 177, .o 50006004, .o 50006005]), (177, .row 69 true false p)])
def K23x0x99083w2 (L : List Lf) (p : LD) : Ex × St := (.normal, mg (ofSh sh23x0x99083 L) [1, 2, 5, 6, 100, 101, 102] [] [1, 2, 5, 6, 207, 50006003, 50006005] [(6, .box [.s (ls L 24), .i .i64 (li L 25), .i .i64 (li L 26), .o 50006003, .o 207, .o 50006005]), (207, .row 130 true false p)])
def K23x0x99083w3 (L : List Lf) (p : LD) : Ex × St := (.normal, mg (ofSh sh23x0x99083 L) [1, 2, 5, 6, 100, 101, 102] [] [1, 2, 5, 6, 220, 50006003, 50006004] [(6, .box [.s (ls L 24), .i .i64 (li L 25), .i .i64 (li L 26), .o 50006003, .o 50006004, .o 220]), (220, .row 9 true false p)])
def K23x0x99083w4 (L : List Lf) (_ : Unit) : Ex × St := (.normal, mg (ofSh sh23x0x99083 L) [1, 2, 5, 6, 100, 101, 102] [] [1, 2, 5, 6, 50006003, 50006004, 50006005] [])
def A23x0x99083 (L : List Lf) : List (Bool × (Ex × St)) := bnd (J23x0x99083 N L (fun p => some (.inl p)) (fun p => some (.inr (.inl p))) (fun p => some (.inr (.inr (.inl p)))) (fun p => some (.inr (.inr (.inr (.inl p))))) (fun p => some (.inr (.inr (.inr (.inr p)))))) fun q => [((inlB q), K23x0x99083w0 L (inlV q)), ((inlB (inrQ q)), K23x0x99083w1 L (inlV (inrQ q))), ((inlB (inrQ (inrQ q))), K23x0x99083w2 L (inlV (inrQ (inrQ q)))), ((inlB (inrQ (inrQ (inrQ q)))), K23x0x99083w3 L (inlV (inrQ (inrQ (inrQ q))))), ((inrQ (inrQ (inrQ (inrQ q)))).isSome, K23x0x99083w4 L ())]
theorem raw23x0x99083 (L : List Lf) : pc Tryz.prog (T69x0 N) (h23x0s3 N).h 0 100 23 99083 sh23x0x99083 L [102, 101, 100, 1, 5, 2, 6, 3] [2, 50006005, 50006004, 177, 6, 5, 1, 207, 50006003, 220] = J23x0x99083 N L (fun p => some (K23x0x99083w0 L p)) (fun p => some (K23x0x99083w1 L p)) (fun p => some (K23x0x99083w2 L p)) (fun p => some (K23x0x99083w3 L p)) (fun _ => some (K23x0x99083w4 L ())) := by kernel_rfl
def h23x0s4 : Sg Tryz.prog 0 23 :=
 (h23x0s3 N).cut (A23x0x99083 N) progOk (T69x0_ok N) fun L x hx => (raw23x0x99083 N L).trans ((bind23x0x99083 N ..).trans ((altS (altS (altS (altS alt1)))) x hx))
def S23x0x63 (w1 : LD) (w2 : Int) (w5 w18 : LD) (w21 : Int) (w3 : Int) (w22 : Bool) (w23 : LD) (w24 : Bool) (w25 : LD) (w26 : Bool) (w27 : LD) (kr : Int → Bool → LD → Bool → LD → Bool → LD → Option R) (k0 : Ty2 → Option R) (k1 : Ty4 → Option R) : Option R :=
 bif (decide (w3 < w2)) then
  bif (inB w3 w1.length) then
   bif (((w1.getD w3.toNat (.i 0)).items.length : Int) == 0) then
    kr (IntKind.wrap .i64 (w3 + 1)) w22 w23 w24 w25 w26 w27
   else
    bif (inB 0 (w1.getD w3.toNat (.i 0)).items.length) then
     bnd (((w1.getD w3.toNat (.i 0)).items.getD 0 (.i 0)).cell 2).isNil fun y0 =>
     bnd ((((w1.getD w3.toNat (.i 0)).items.getD 0 (.i 0)).cell 2).items : List D) fun y1 =>
     bif (inB w3 w5.length) then
      bnd (G65x0 N (((w1.getD w3.toNat (.i 0)).items.getD 0 (.i 0)).cell 0).toB y1 ((w5.getD w3.toNat (.i 0)).cell 0).toI ((w5.getD w3.toNat (.i 0)).cell 4).items) fun y2 =>
      bif y2.isSome then
       bif (inB w3 w18.length) then
        bif (inB 0 (w1.getD w3.toNat (.i 0)).items.length) then
         bnd ((((w1.getD w3.toNat (.i 0)).items.getD 0 (.i 0)).cell 1).toI == 20) fun y3 =>
         bnd (G23x0x99083 N (y2.getD default).2 (w18.getD w3.toNat (.i 0)).toI (((w1.getD w3.toNat (.i 0)).items.getD 0 (.i 0)).cell 1).toI y3 w21 w23 w25 w27) fun y4 =>
         bif (inlB y4) then
          k0 ((inlV y4), w22, w23, w24, w25, w26, w27)
         else
          bif (inlB (inrQ y4)) then
           kr (IntKind.wrap .i64 (w3 + 1)) false (inlV (inrQ y4)) w24 w25 w26 w27
          else
           bif (inlB (inrQ (inrQ y4))) then
            kr (IntKind.wrap .i64 (w3 + 1)) w22 w23 false (inlV (inrQ (inrQ y4))) w26 w27
           else
            bif (inlB (inrQ (inrQ (inrQ y4)))) then
             kr (IntKind.wrap .i64 (w3 + 1)) w22 w23 w24 w25 false (inlV (inrQ (inrQ (inrQ y4))))
            else
             bif (inrQ (inrQ (inrQ (inrQ y4)))).isSome then
              kr (IntKind.wrap .i64 (w3 + 1)) w22 w23 w24 w25 w26 w27
             else
              none
        else
         none
       else
        none
      else
       none
     else
      none
    else
     none
  else
   none
 else
  k1 (w22, w23, w24, w25, w26, w27)
def L23x0x63 (N : Nat) {R : Type} (w1 : LD) (w2 : Int) (w5 w18 : LD) (w21 : Int) : Nat → Int → Bool → LD → Bool → LD → Bool → LD → (Ty2 → Option R) → (Ty4 → Option R) → Option R
 | 0, _, _, _, _, _, _, _, _, _ => none
 | m + 1, w3, w22, w23, w24, w25, w26, w27, k0, k1 => S23x0x63 N w1 w2 w5 w18 w21 w3 w22 w23 w24 w25 w26 w27 (fun w3 w22 w23 w24 w25 w26 w27 => L23x0x63 N w1 w2 w5 w18 w21 m w3 w22 w23 w24 w25 w26 w27 k0 k1) k0 k1
def G23x0x63 (w1 : LD) (w2 : Int) (w5 w18 : LD) (w21 : Int) (w3 : Int) (w22 : Bool) (w23 : LD) (w24 : Bool) (w25 : LD) (w26 : Bool) (w27 : LD) : Option (Sum (Ty2) (Ty4)) := L23x0x63 N (R := (Sum (Ty2) (Ty4))) w1 w2 w5 w18 w21 N w3 w22 w23 w24 w25 w26 w27 (fun p => some (.inl p)) (fun p => some (.inr p))
def J23x0x63 (L x : List Lf) (kr : List Lf → Option R) (k0 : Ty2 → Option R) (k1 : Ty4 → Option R) : Option R := S23x0x63 N (ll L 1) (li L 2) (ll L 5) (ll L 18) (li L 21) (li x 0) (lb x 1) (ll x 2) (lb x 3) (ll x 4) (lb x 5) (ll x 6) (fun w3 w22 w23 w24 w25 w26 w27 => kr [.i w3, .b w22, .l w23, .b w24, .l w25, .b w26, .l w27]) k0 k1
theorem sb23x0x63 (L x : List Lf) (kr : List Lf → Option R) (k0 : Ty2 → Option R) (k1 : Ty4 → Option R) : J23x0x63 N L x kr k0 k1 = (J23x0x63 N L x (fun y => some (.inl y)) (fun p => some (.inr (.inl p))) (fun p => some (.inr (.inr p)))).bind (sumE kr (sumE k0 k1)) := by
 unfold J23x0x63 S23x0x63
 repeat' (first | with_reducible apply cond_b | (with_reducible apply bnd_b; intro _) | rfl)
def Q23x0x63 (L : List Lf) (m : Nat) (x : List Lf) : Option (Sum (Ty2) (Ty4)) := L23x0x63 N (R := (Sum (Ty2) (Ty4))) (ll L 1) (li L 2) (ll L 5) (ll L 18) (li L 21) m (li x 0) (lb x 1) (ll x 2) (lb x 3) (ll x 4) (lb x 5) (ll x 6) (fun p => some (.inl p)) (fun p => some (.inr p))
def sh23x0x63 : Sh := { tmps := [(1, .c (.p 1 0)), (2, .c (.p 2 0)), (5, .c (.p 5 0)), (6, .c (.p 6 0)), (100, .c (.sl 94)), (101, .c (.i .i64)), (102, .c (.i .i64))], mem := [(1, .box ([.sl 96])), (2, .box (.s :: [.i .i64, .i .i64, .sl 69, .sl 130, .sl 9])), (5, .box ([.sl 94, .sl 3])), (6, .box (.s :: [.i .i64, .i .i64, .o 50006003, .o 50006004, .o 50006005])), (50006003, .row 69 true), (50006004, .row 130 true), (50006005, .row 9 true)] }
def K23x0x63w0 (L : List Lf) (p : Ty2) : Ex × St := let p1 := p.2; let p2 := p1.2; let p3 := p2.2; let p4 := p3.2; let p5 := p4.2; let p6 := p5.2; (.ret, mg (ofSh sh23x0x63 L) [2, 3] [(3, .c (.i .i64 2))] [2, 6, 50006003, 50006004, 50006005] [(2, .box [.s p.1, .i .i64 0, .i .i64 0, .sl 69 true [], .sl 130 true [], .sl 9 true []]), (50006003, .row 69 true p1.1 p2.1), (50006004, .row 130 true p3.1 p4.1), (50006005, .row 9 true p5.1 p6)])
def K23x0x63w1 (L : List Lf) (p : Ty4) : Ex × St := let p1 := p.2; let p2 := p1.2; let p3 := p2.2; let p4 := p3.2; let p5 := p4.2; ((.exit 2), mg (ofSh sh23x0x63 L) [2, 6] [] [2, 6, 50006003, 50006004, 50006005] [(50006003, .row 69 true p.1 p1.1), (50006004, .row 130 true p2.1 p3.1), (50006005, .row 9 true p4.1 p5)])
def A23x0x63 (L : List Lf) : List (Bool × (Ex × St)) := bnd (Q23x0x63 N L N (pk sh23x0x63 [3, 22, 23, 24, 25, 26, 27] L)) fun q => [((inlB q), K23x0x63w0 L (inlV q)), ((inrQ q).isSome, K23x0x63w1 L ((inrQ q).getD default))]
theorem step23x0x63 (m : Nat) (kn : St → Option (Ex × St)) (L x : List Lf) : lpB Tryz.prog (T69x0 N) (h23x0s4 N).h 0 23 63 sh23x0x63 [3, 22, 23, 24, 25, 26, 27] [2, 3, 6] [2, 50006005, 50006004, 50006003, 6] (m + 100) kn L x = J23x0x63 N L x (fun y => kn (ofSh sh23x0x63 (mx sh23x0x63 [3, 22, 23, 24, 25, 26, 27] L y))) (fun p => some (K23x0x63w0 L p)) (fun p => some (K23x0x63w1 L p)) := by kernel_rfl
theorem ql23x0x63 (L : List Lf) (m : Nat) (x : List Lf) : Q23x0x63 N L (m + 1) x = J23x0x63 N L x (Q23x0x63 N L m) (fun p => some (.inl p)) (fun p => some (.inr p)) := by kernel_rfl
def h23x0s5 : Sg Tryz.prog 0 23 :=
 (h23x0s4 N).lp (A23x0x63 N) N progOk (T69x0_ok N) (fun m kn L x => (step23x0x63 N m kn L x).trans (sb23x0x63 N L x _ _ _)) (fun L m x => (ql23x0x63 N L m x).trans (sb23x0x63 N L x (Q23x0x63 N L m) (fun p => some (.inl p)) (fun p => some (.inr p)))) fun L x hx => (altS alt1) x hx
def F23x0 (v1 : LD) (k0 : Ty0 → Option R) : Option R :=
 bnd (G63x0 N v1) fun y0 =>
 bif y0.isSome then
  bif ((y0.getD default) != 0) then
   k0 (([] : List UInt8), 0, 0, true, [], true, [], true, [], (y0.getD default))
  else
   bnd (G64x0 N v1) fun y1 =>
   bif y1.isSome then
    bnd (G23x0x24 N (y1.getD default).2.1 ((y1.getD default).2.1.length : Int) v1 (y1.getD default).2.2.2 false 0 ([] : List UInt8) 0 0) fun y2 =>
    bif (inlB y2) then
     k0 ((inlV y2).1, 0, 0, true, [], true, [], true, [], 4)
    else
     bif (inrQ y2).isSome then
      bif (!((inrQ y2).getD default).1) then
       k0 (([] : List UInt8), 0, 0, true, [], true, [], true, [], 4)
      else
       bnd (G23x0x63 N (y1.getD default).2.1 ((y1.getD default).2.1.length : Int) v1 (y1.getD default).2.2.2 ((inrQ y2).getD default).2.2.2 0 true [] true [] true []) fun y3 =>
       bif (inlB y3) then
        k0 ((inlV y3).1, 0, 0, true, [], true, [], true, [], 2)
       else
        bif (inrQ y3).isSome then
         bnd (G69x0 N ((inrQ y2).getD default).2.1 ((inrQ y2).getD default).2.2.1 ((inrQ y2).getD default).2.2.2 ((inrQ y3).getD default).2.1 ((inrQ y3).getD default).2.2.2.1 ((inrQ y3).getD default).2.2.2.2.2) fun y4 =>
         bif y4.isSome then
          bif ((y4.getD default) != 0) then
           k0 (([] : List UInt8), 0, 0, true, [], true, [], true, [], (y4.getD default))
          else
           k0 (((inrQ y2).getD default).2.1, ((inrQ y2).getD default).2.2.1, ((inrQ y2).getD default).2.2.2, ((inrQ y3).getD default).1, ((inrQ y3).getD default).2.1, ((inrQ y3).getD default).2.2.1, ((inrQ y3).getD default).2.2.2.1, ((inrQ y3).getD default).2.2.2.2.1, ((inrQ y3).getD default).2.2.2.2.2, 0)
         else
          none
        else
         none
     else
      none
   else
    none
 else
  none
def G23x0 (v1 : LD) : Option (Ty0) := F23x0 N v1 (fun p => some p)
theorem bind23x0 (v1 : LD) (k0 : Ty0 → Option R) : F23x0 N v1 k0 = (G23x0 N v1).bind k0 := by
 unfold G23x0 F23x0
 repeat' (first | with_reducible apply cond_b | (with_reducible apply bnd_b; intro _) | rfl)
def sh23x0 : Sh := { tmps := [(0, .g ([.sl 96]))], mem := [] }
def K23x0w0 (L : List Lf) (p : Ty0) : Res := let p1 := p.2; let p2 := p1.2; let p3 := p2.2; let p4 := p3.2; let p5 := p4.2; let p6 := p5.2; let p7 := p6.2; let p8 := p7.2; let p9 := p8.2; ([.g [.s p.1, .i .i64 p1.1, .i .i64 p2.1, .sl 69 p3.1 p4.1, .sl 130 p5.1 p6.1, .sl 9 p7.1 p8.1], .c (.i .i64 p9)], [])
def A23x0 (L : List Lf) : List (Bool × Res) := bnd (F23x0 N (ll L 1) (fun p => some p)) fun q => [(q.isSome, K23x0w0 L (q.getD default))]
theorem raw23x0 (L : List Lf) : bd Tryz.prog (T69x0 N) (h23x0s5 N).h 23 sh23x0 L = F23x0 N (ll L 1) (fun p => some (K23x0w0 L p)) := by kernel_rfl
theorem ok23x0 : FnOk Tryz.prog 23 sh23x0 (A23x0 N) :=
 (h23x0s5 N).fn progOk (T69x0_ok N) fun L x hx => ((raw23x0 N L).trans ((bind23x0 N ..).trans (alt1 x hx)))
def T23x0 : Oracle := ext 23 (spSh sh23x0 (A23x0 N)) (T69x0 N)
theorem T23x0_ok : OracleOk Tryz.prog (T23x0 N) := FnOk.to (ok23x0 N) (T69x0_ok N)
def rg7x0 : List (Nat × List Nat) := [(0, [0]), (1, [0]), (2, []), (3, [0]), (4, [0, 4]), (5, [0, 4]), (6, []), (7, [0, 4]), (8, [5, 0, 4]), (9, []), (10, [0, 5, 4]), (11, [8, 6, 4, 0, 5]), (12, [8]), (13, [6, 4, 0, 5]), (14, [8, 4, 9, 0, 5]), (15, [8]), (16, [4, 9, 0, 5]), (17, [0, 5, 4]), (18, [4])]
def hd7x0 : Hints := [(12, [0, 4], [4], [4])]
def h7x0s0 (N : Nat) : Sg Tryz.prog 0 7 := .start hd7x0 rg7x0
def S7x0x12 (w1 : LD) (w2 : Bool) (w3 : LD) (kr : LD → Bool → LD → Option R) (k0 : Int × Bool × LD → Option R) (k1 : Bool × LD → Option R) : Option R :=
 bif (decide ((w1.length : Int) > 0)) then
  bif (decide ((w1.length : Int) < 4)) then
   k0 (6, w2, w3)
  else
   bif (inB 0 w1.length) then
    bnd (IntKind.wrap .i64 ((IntKind.wrap .i64 (w1.getD 0 (.i 0)).toI) * 2 ^ 24)) fun y0 =>
    bif (inB 1 w1.length) then
     bnd (IntKind.wrap .i64 ((IntKind.wrap .i64 (w1.getD 1 (.i 0)).toI) * 2 ^ 16)) fun y1 =>
     bif (inB 2 w1.length) then
      bnd (IntKind.wrap .i64 ((IntKind.wrap .i64 (w1.getD 2 (.i 0)).toI) * 2 ^ 8)) fun y2 =>
      bnd ((bitsV .or .i64 ((bitsV .or .i64 y0 y1).getD 0) y2).getD 0) fun y3 =>
      bif (inB 3 w1.length) then
       bnd ((bitsV .or .i64 y3 (IntKind.wrap .i64 (w1.getD 3 (.i 0)).toI)).getD 0) fun y4 =>
       bnd (decide (y4 > (IntKind.wrap .i64 ((w1.length : Int) - 4)))) fun y5 =>
       bif y5 then
        k0 (6, w2, w3)
       else
        bif ((decide (4 ≤ (IntKind.wrap .i64 (4 + y4)))) && (decide ((IntKind.wrap .i64 (4 + y4)) ≤ (w1.length : Int)))) then
         bnd (G22x0 N ((w1.take (IntKind.wrap .i64 (4 + y4)).toNat).drop 4)) fun y6 =>
         bif y6.isSome then
          bif ((y6.getD default).2.2.2 != 0) then
           k0 ((y6.getD default).2.2.2, w2, w3)
          else
           bnd (G23x0 N (y6.getD default).2.1) fun y7 =>
           bif y7.isSome then
            bif ((y7.getD default).2.2.2.2.2.2.2.2.2 != 0) then
             k0 ((y7.getD default).2.2.2.2.2.2.2.2.2, w2, w3)
            else
             bif (decide ((w3.length + 1) * 104 ≤ room) && decide ((w3.length + 1) ≤ strMax)) then
              bnd ((w3 ++ [(.a [(.s (y7.getD default).1), (.i (y7.getD default).2.1), (.i (y7.getD default).2.2.1), (.l (y7.getD default).2.2.2.1 (y7.getD default).2.2.2.2.1), (.l (y7.getD default).2.2.2.2.2.1 (y7.getD default).2.2.2.2.2.2.1), (.l (y7.getD default).2.2.2.2.2.2.2.1 (y7.getD default).2.2.2.2.2.2.2.2.1)])]) : List D) fun y8 =>
              bif (((decide (0 ≤ (IntKind.wrap .i64 (4 + y4)))) && (decide ((IntKind.wrap .i64 (4 + y4)) ≤ (w1.length : Int)))) && (decide ((w1.length : Int) ≤ (w1.length : Int)))) then
               bnd (((w1.take (w1.length : Int).toNat).drop (IntKind.wrap .i64 (4 + y4)).toNat) : List D) fun y9 =>
               kr y9 false y8
              else
               none
             else
              none
           else
            none
         else
          none
        else
         none
      else
       none
     else
      none
    else
     none
   else
    none
 else
  k1 (w2, w3)
def L7x0x12 (N : Nat) {R : Type} : Nat → LD → Bool → LD → (Int × Bool × LD → Option R) → (Bool × LD → Option R) → Option R
 | 0, _, _, _, _, _ => none
 | m + 1, w1, w2, w3, k0, k1 => S7x0x12 N w1 w2 w3 (fun w1 w2 w3 => L7x0x12 N m w1 w2 w3 k0 k1) k0 k1
def G7x0x12 (w1 : LD) (w2 : Bool) (w3 : LD) : Option (Sum (Int × Bool × LD) (Bool × LD)) := L7x0x12 N (R := (Sum (Int × Bool × LD) (Bool × LD))) N w1 w2 w3 (fun p => some (.inl p)) (fun p => some (.inr p))
def J7x0x12 (L x : List Lf) (kr : List Lf → Option R) (k0 : Int × Bool × LD → Option R) (k1 : Bool × LD → Option R) : Option R := S7x0x12 N (ll x 0) (lb x 1) (ll x 2) (fun w1 w2 w3 => kr [.l w1, .b w2, .l w3]) k0 k1
theorem sb7x0x12 (L x : List Lf) (kr : List Lf → Option R) (k0 : Int × Bool × LD → Option R) (k1 : Bool × LD → Option R) : J7x0x12 N L x kr k0 k1 = (J7x0x12 N L x (fun y => some (.inl y)) (fun p => some (.inr (.inl p))) (fun p => some (.inr (.inr p)))).bind (sumE kr (sumE k0 k1)) := by
 unfold J7x0x12 S7x0x12
 repeat' (first | with_reducible apply cond_b | (with_reducible apply bnd_b; intro _) | rfl)
def Q7x0x12 (L : List Lf) (m : Nat) (x : List Lf) : Option (Sum (Int × Bool × LD) (Bool × LD)) := L7x0x12 N (R := (Sum (Int × Bool × LD) (Bool × LD))) m (ll x 0) (lb x 1) (ll x 2) (fun p => some (.inl p)) (fun p => some (.inr p))
def sh7x0x12 : Sh := { tmps := [(0, .c (.sl 5)), (4, .c (.o 4))], mem := [(4, .row 60 true)] }
def K7x0x12w0 (L : List Lf) (p : Int × Bool × LD) : Ex × St := (.ret, ⟨[(2, .c (.sl 60 true [])), (3, .c (.i .i64 p.1))], [(4, .row 60 true p.2.1 p.2.2)]⟩)
def A7x0x12 (L : List Lf) : List (Bool × (Ex × St)) := bnd (Q7x0x12 N L N (pk sh7x0x12 [1, 2, 3] L)) fun q => [((inlB q), K7x0x12w0 L (inlV q)), ((inrQ q).isSome, ((.exit 0), ⟨[(4, .c (.o 4))], [(4, .row 60 true ((inrQ q).getD default).1 ((inrQ q).getD default).2)]⟩))]
theorem step7x0x12 (m : Nat) (kn : St → Option (Ex × St)) (L x : List Lf) : lpB Tryz.prog (T23x0 N) (h7x0s0 N).h 0 7 12 sh7x0x12 [1, 2, 3] [2, 3, 4] [4] (m + 100) kn L x = J7x0x12 N L x (fun y => kn (ofSh sh7x0x12 (mx sh7x0x12 [1, 2, 3] L y))) (fun p => some (K7x0x12w0 L p)) (fun p => some ((.exit 0), ⟨[(4, .c (.o 4))], [(4, .row 60 true p.1 p.2)]⟩)) := by kernel_rfl
theorem ql7x0x12 (L : List Lf) (m : Nat) (x : List Lf) : Q7x0x12 N L (m + 1) x = J7x0x12 N L x (Q7x0x12 N L m) (fun p => some (.inl p)) (fun p => some (.inr p)) := by kernel_rfl
def h7x0s1 : Sg Tryz.prog 0 7 :=
 (h7x0s0 N).lp (A7x0x12 N) N progOk (T23x0_ok N) (fun m kn L x => (step7x0x12 N m kn L x).trans (sb7x0x12 N L x _ _ _)) (fun L m x => (ql7x0x12 N L m x).trans (sb7x0x12 N L x (Q7x0x12 N L m) (fun p => some (.inl p)) (fun p => some (.inr p)))) fun L x hx => (altS alt1) x hx
def F7x0 (v1 : LD) (k0 : Bool × LD × Int → Option R) : Option R :=
 bif (decide ((v1.length : Int) > 100000000)) then
  k0 (true, [], 3)
 else
  bnd (G7x0x12 N v1 true []) fun y0 =>
  bif (inlB y0) then
   k0 (true, [], (inlV y0).1)
  else
   bif (inrQ y0).isSome then
    k0 (((inrQ y0).getD default).1, ((inrQ y0).getD default).2, 0)
   else
    none
def G7x0 (v1 : LD) : Option (Bool × LD × Int) := F7x0 N v1 (fun p => some p)
theorem bind7x0 (v1 : LD) (k0 : Bool × LD × Int → Option R) : F7x0 N v1 k0 = (G7x0 N v1).bind k0 := by
 unfold G7x0 F7x0
 repeat' (first | with_reducible apply cond_b | (with_reducible apply bnd_b; intro _) | rfl)
def sh7x0 : Sh := { tmps := [(0, .c (.sl 5))], mem := [] }
def A7x0 (L : List Lf) : List (Bool × Res) := bnd (F7x0 N (ll L 1) (fun p => some p)) fun q => [(q.isSome, ([.c (.sl 60 (q.getD default).1 (q.getD default).2.1), .c (.i .i64 (q.getD default).2.2)], []))]
theorem raw7x0 (L : List Lf) : bd Tryz.prog (T23x0 N) (h7x0s1 N).h 7 sh7x0 L = F7x0 N (ll L 1) (fun p => some ([.c (.sl 60 p.1 p.2.1), .c (.i .i64 p.2.2)], [])) := by kernel_rfl
theorem ok7x0 : FnOk Tryz.prog 7 sh7x0 (A7x0 N) :=
 (h7x0s1 N).fn progOk (T23x0_ok N) fun L x hx => ((raw7x0 N L).trans ((bind7x0 N ..).trans (alt1 x hx)))
def T7x0 : Oracle := ext 7 (spSh sh7x0 (A7x0 N)) (T23x0 N)
theorem T7x0_ok : OracleOk Tryz.prog (T7x0 N) := FnOk.to (ok7x0 N) (T23x0_ok N)
def rg24x0 : List (Nat × List Nat) := [(0, [0, 1]), (1, [2, 3]), (2, []), (3, [2, 3]), (4, [57, 56, 2, 3]), (5, [57, 2, 3, 56]), (6, [2, 5, 3, 57, 56]), (7, []), (8, [57, 56, 2, 3]), (9, [2, 3]), (10, [75, 74, 2, 3]), (11, [75, 2, 3, 74]), (12, [2, 6, 3, 75, 74]), (13, []), (14, [75, 74, 2, 3]), (15, [2, 3]), (16, [93, 92, 2, 3]), (17, [93, 2, 3, 92]), (18, [2, 7, 3, 93, 92]), (19, []), (20, [93, 92, 2, 3]), (21, [])]
def hd24x0 : Hints := [(12, [57, 56, 2, 3], [3, 2], []), (30, [75, 74, 2, 3], [3, 2], []), (48, [93, 92, 2, 3], [3, 2], [])]
def h24x0s0 (N : Nat) : Sg Tryz.prog 0 24 := .start hd24x0 rg24x0
def S24x0x12 (N : Nat) (w0 : Int) (w6 w15 : LD) (w1 : Int) (kr : Int → Option R) (k0 : Unit → Option R) (k1 : Unit → Option R) : Option R :=
 bif (decide (w1 < w0)) then
  bif (inB w1 w6.length) then
   bif (inB w1 w15.length) then
    bnd (!((((w6.getD w1.toNat (.i 0)).cell 0).toI == ((w15.getD w1.toNat (.i 0)).cell 0).toI) && ((((w6.getD w1.toNat (.i 0)).cell 1).toI == ((w15.getD w1.toNat (.i 0)).cell 1).toI) && ((((w6.getD w1.toNat (.i 0)).cell 2).toI == ((w15.getD w1.toNat (.i 0)).cell 2).toI) && ((((w6.getD w1.toNat (.i 0)).cell 3).toI == ((w15.getD w1.toNat (.i 0)).cell 3).toI) && ((((w6.getD w1.toNat (.i 0)).cell 4).toI == ((w15.getD w1.toNat (.i 0)).cell 4).toI) && ((((w6.getD w1.toNat (.i 0)).cell 5).toI == ((w15.getD w1.toNat (.i 0)).cell 5).toI) && ((((w6.getD w1.toNat (.i 0)).cell 6).toI == ((w15.getD w1.toNat (.i 0)).cell 6).toI) && true)))))))) fun y0 =>
    bif y0 then
     k0 ()
    else
     kr (IntKind.wrap .i64 (w1 + 1))
   else
    none
  else
   none
 else
  k1 ()
def L24x0x12 (N : Nat) {R : Type} (w0 : Int) (w6 w15 : LD) : Nat → Int → (Unit → Option R) → (Unit → Option R) → Option R
 | 0, _, _, _ => none
 | m + 1, w1, k0, k1 => S24x0x12 N w0 w6 w15 w1 (fun w1 => L24x0x12 N w0 w6 w15 m w1 k0 k1) k0 k1
def G24x0x12 (w0 : Int) (w6 w15 : LD) (w1 : Int) : Option (Sum (Unit) (Unit)) := L24x0x12 N (R := (Sum (Unit) (Unit))) w0 w6 w15 N w1 (fun p => some (.inl p)) (fun p => some (.inr p))
def J24x0x12 (L x : List Lf) (kr : List Lf → Option R) (k0 : Unit → Option R) (k1 : Unit → Option R) : Option R := S24x0x12 N (li L 0) (ll L 6) (ll L 15) (li x 0) (fun w1 => kr [.i w1]) k0 k1
theorem sb24x0x12 (L x : List Lf) (kr : List Lf → Option R) (k0 : Unit → Option R) (k1 : Unit → Option R) : J24x0x12 N L x kr k0 k1 = (J24x0x12 N L x (fun y => some (.inl y)) (fun p => some (.inr (.inl p))) (fun p => some (.inr (.inr p)))).bind (sumE kr (sumE k0 k1)) := by
 unfold J24x0x12 S24x0x12
 repeat' (first | with_reducible apply cond_b | (with_reducible apply bnd_b; intro _) | rfl)
def Q24x0x12 (L : List Lf) (m : Nat) (x : List Lf) : Option (Sum (Unit) (Unit)) := L24x0x12 N (R := (Sum (Unit) (Unit))) (li L 0) (ll L 6) (ll L 15) m (li x 0) (fun p => some (.inl p)) (fun p => some (.inr p))
def sh24x0x12 : Sh := { tmps := [(2, .c (.p 2 0)), (3, .c (.p 3 0)), (56, .c (.i .i64)), (57, .c (.i .i64))], mem := [(2, .box (.s :: [.i .i64, .i .i64, .sl 69, .sl 130, .sl 9])), (3, .box (.s :: [.i .i64, .i .i64, .sl 69, .sl 130, .sl 9]))] }
def K24x0x12w0 (L : List Lf) (_ : Unit) : Ex × St := (.ret, mg (ofSh sh24x0x12 L) [4] [(4, .c (.b false))] [2, 3] [])
def A24x0x12 (L : List Lf) : List (Bool × (Ex × St)) := bnd (Q24x0x12 N L N (pk sh24x0x12 [1] L)) fun q => [((inlB q), K24x0x12w0 L ()), ((inrQ q).isSome, ((.exit 0), mg (ofSh sh24x0x12 L) [2, 3] [] [2, 3] []))]
theorem step24x0x12 (m : Nat) (kn : St → Option (Ex × St)) (L x : List Lf) : lpB Tryz.prog (T7x0 N) (h24x0s0 N).h 0 24 12 sh24x0x12 [1] [4, 2, 3] [3, 2] (m + 100) kn L x = J24x0x12 N L x (fun y => kn (ofSh sh24x0x12 (mx sh24x0x12 [1] L y))) (fun _ => some (K24x0x12w0 L ())) (fun _ => some ((.exit 0), mg (ofSh sh24x0x12 L) [2, 3] [] [2, 3] [])) := by kernel_rfl
theorem ql24x0x12 (L : List Lf) (m : Nat) (x : List Lf) : Q24x0x12 N L (m + 1) x = J24x0x12 N L x (Q24x0x12 N L m) (fun p => some (.inl p)) (fun p => some (.inr p)) := by kernel_rfl
def h24x0s1 : Sg Tryz.prog 0 24 :=
 (h24x0s0 N).lp (A24x0x12 N) N progOk (T7x0_ok N) (fun m kn L x => (step24x0x12 N m kn L x).trans (sb24x0x12 N L x _ _ _)) (fun L m x => (ql24x0x12 N L m x).trans (sb24x0x12 N L x (Q24x0x12 N L m) (fun p => some (.inl p)) (fun p => some (.inr p)))) fun L x hx => (altS alt1) x hx
def S24x0x30 (N : Nat) (w0 : Int) (w8 w17 : LD) (w1 : Int) (kr : Int → Option R) (k0 : Unit → Option R) (k1 : Unit → Option R) : Option R :=
 bif (decide (w1 < w0)) then
  bif (inB w1 w8.length) then
   bif (inB w1 w17.length) then
    bnd (!((((w8.getD w1.toNat (.i 0)).cell 0).toI == ((w17.getD w1.toNat (.i 0)).cell 0).toI) && ((((w8.getD w1.toNat (.i 0)).cell 1).toI == ((w17.getD w1.toNat (.i 0)).cell 1).toI) && ((((w8.getD w1.toNat (.i 0)).cell 2).toS == ((w17.getD w1.toNat (.i 0)).cell 2).toS) && true)))) fun y0 =>
    bif y0 then
     k0 ()
    else
     kr (IntKind.wrap .i64 (w1 + 1))
   else
    none
  else
   none
 else
  k1 ()
def L24x0x30 (N : Nat) {R : Type} (w0 : Int) (w8 w17 : LD) : Nat → Int → (Unit → Option R) → (Unit → Option R) → Option R
 | 0, _, _, _ => none
 | m + 1, w1, k0, k1 => S24x0x30 N w0 w8 w17 w1 (fun w1 => L24x0x30 N w0 w8 w17 m w1 k0 k1) k0 k1
def G24x0x30 (w0 : Int) (w8 w17 : LD) (w1 : Int) : Option (Sum (Unit) (Unit)) := L24x0x30 N (R := (Sum (Unit) (Unit))) w0 w8 w17 N w1 (fun p => some (.inl p)) (fun p => some (.inr p))
def J24x0x30 (L x : List Lf) (kr : List Lf → Option R) (k0 : Unit → Option R) (k1 : Unit → Option R) : Option R := S24x0x30 N (li L 0) (ll L 8) (ll L 17) (li x 0) (fun w1 => kr [.i w1]) k0 k1
theorem sb24x0x30 (L x : List Lf) (kr : List Lf → Option R) (k0 : Unit → Option R) (k1 : Unit → Option R) : J24x0x30 N L x kr k0 k1 = (J24x0x30 N L x (fun y => some (.inl y)) (fun p => some (.inr (.inl p))) (fun p => some (.inr (.inr p)))).bind (sumE kr (sumE k0 k1)) := by
 unfold J24x0x30 S24x0x30
 repeat' (first | with_reducible apply cond_b | (with_reducible apply bnd_b; intro _) | rfl)
def Q24x0x30 (L : List Lf) (m : Nat) (x : List Lf) : Option (Sum (Unit) (Unit)) := L24x0x30 N (R := (Sum (Unit) (Unit))) (li L 0) (ll L 8) (ll L 17) m (li x 0) (fun p => some (.inl p)) (fun p => some (.inr p))
def sh24x0x30 : Sh := { tmps := [(2, .c (.p 2 0)), (3, .c (.p 3 0)), (74, .c (.i .i64)), (75, .c (.i .i64))], mem := [(2, .box (.s :: [.i .i64, .i .i64, .sl 69, .sl 130, .sl 9])), (3, .box (.s :: [.i .i64, .i .i64, .sl 69, .sl 130, .sl 9]))] }
def K24x0x30w0 (L : List Lf) (_ : Unit) : Ex × St := (.ret, mg (ofSh sh24x0x30 L) [4] [(4, .c (.b false))] [2, 3] [])
def A24x0x30 (L : List Lf) : List (Bool × (Ex × St)) := bnd (Q24x0x30 N L N (pk sh24x0x30 [1] L)) fun q => [((inlB q), K24x0x30w0 L ()), ((inrQ q).isSome, ((.exit 2), mg (ofSh sh24x0x30 L) [2, 3] [] [2, 3] []))]
theorem step24x0x30 (m : Nat) (kn : St → Option (Ex × St)) (L x : List Lf) : lpB Tryz.prog (T7x0 N) (h24x0s1 N).h 0 24 30 sh24x0x30 [1] [4, 2, 3] [3, 2] (m + 100) kn L x = J24x0x30 N L x (fun y => kn (ofSh sh24x0x30 (mx sh24x0x30 [1] L y))) (fun _ => some (K24x0x30w0 L ())) (fun _ => some ((.exit 2), mg (ofSh sh24x0x30 L) [2, 3] [] [2, 3] [])) := by kernel_rfl
theorem ql24x0x30 (L : List Lf) (m : Nat) (x : List Lf) : Q24x0x30 N L (m + 1) x = J24x0x30 N L x (Q24x0x30 N L m) (fun p => some (.inl p)) (fun p => some (.inr p)) := by kernel_rfl
def h24x0s2 : Sg Tryz.prog 0 24 :=
 (h24x0s1 N).lp (A24x0x30 N) N progOk (T7x0_ok N) (fun m kn L x => (step24x0x30 N m kn L x).trans (sb24x0x30 N L x _ _ _)) (fun L m x => (ql24x0x30 N L m x).trans (sb24x0x30 N L x (Q24x0x30 N L m) (fun p => some (.inl p)) (fun p => some (.inr p)))) fun L x hx => (altS alt1) x hx
def S24x0x48 (N : Nat) (w0 : Int) (w10 w19 : LD) (w1 : Int) (kr : Int → Option R) (k0 : Unit → Option R) (k1 : Unit → Option R) : Option R :=
 bif (decide (w1 < w0)) then
  bif (inB w1 w10.length) then
   bif (inB w1 w19.length) then
    bnd (!((w10.getD w1.toNat (.i 0)).toS == (w19.getD w1.toNat (.i 0)).toS)) fun y0 =>
    bif y0 then
     k0 ()
    else
     kr (IntKind.wrap .i64 (w1 + 1))
   else
    none
  else
   none
 else
  k1 ()
def L24x0x48 (N : Nat) {R : Type} (w0 : Int) (w10 w19 : LD) : Nat → Int → (Unit → Option R) → (Unit → Option R) → Option R
 | 0, _, _, _ => none
 | m + 1, w1, k0, k1 => S24x0x48 N w0 w10 w19 w1 (fun w1 => L24x0x48 N w0 w10 w19 m w1 k0 k1) k0 k1
def G24x0x48 (w0 : Int) (w10 w19 : LD) (w1 : Int) : Option (Sum (Unit) (Unit)) := L24x0x48 N (R := (Sum (Unit) (Unit))) w0 w10 w19 N w1 (fun p => some (.inl p)) (fun p => some (.inr p))
def J24x0x48 (L x : List Lf) (kr : List Lf → Option R) (k0 : Unit → Option R) (k1 : Unit → Option R) : Option R := S24x0x48 N (li L 0) (ll L 10) (ll L 19) (li x 0) (fun w1 => kr [.i w1]) k0 k1
theorem sb24x0x48 (L x : List Lf) (kr : List Lf → Option R) (k0 : Unit → Option R) (k1 : Unit → Option R) : J24x0x48 N L x kr k0 k1 = (J24x0x48 N L x (fun y => some (.inl y)) (fun p => some (.inr (.inl p))) (fun p => some (.inr (.inr p)))).bind (sumE kr (sumE k0 k1)) := by
 unfold J24x0x48 S24x0x48
 repeat' (first | with_reducible apply cond_b | (with_reducible apply bnd_b; intro _) | rfl)
def Q24x0x48 (L : List Lf) (m : Nat) (x : List Lf) : Option (Sum (Unit) (Unit)) := L24x0x48 N (R := (Sum (Unit) (Unit))) (li L 0) (ll L 10) (ll L 19) m (li x 0) (fun p => some (.inl p)) (fun p => some (.inr p))
def sh24x0x48 : Sh := { tmps := [(2, .c (.p 2 0)), (3, .c (.p 3 0)), (92, .c (.i .i64)), (93, .c (.i .i64))], mem := [(2, .box (.s :: [.i .i64, .i .i64, .sl 69, .sl 130, .sl 9])), (3, .box (.s :: [.i .i64, .i .i64, .sl 69, .sl 130, .sl 9]))] }
def A24x0x48 (L : List Lf) : List (Bool × (Ex × St)) := bnd (Q24x0x48 N L N (pk sh24x0x48 [1] L)) fun q => [((inlB q), (.ret, ⟨[(4, .c (.b false))], []⟩)), ((inrQ q).isSome, ((.exit 4), ⟨[], []⟩))]
theorem step24x0x48 (m : Nat) (kn : St → Option (Ex × St)) (L x : List Lf) : lpB Tryz.prog (T7x0 N) (h24x0s2 N).h 0 24 48 sh24x0x48 [1] [4] [] (m + 100) kn L x = J24x0x48 N L x (fun y => kn (ofSh sh24x0x48 (mx sh24x0x48 [1] L y))) (fun _ => some (.ret, ⟨[(4, .c (.b false))], []⟩)) (fun _ => some ((.exit 4), ⟨[], []⟩)) := by kernel_rfl
theorem ql24x0x48 (L : List Lf) (m : Nat) (x : List Lf) : Q24x0x48 N L (m + 1) x = J24x0x48 N L x (Q24x0x48 N L m) (fun p => some (.inl p)) (fun p => some (.inr p)) := by kernel_rfl
def h24x0s3 : Sg Tryz.prog 0 24 :=
 (h24x0s2 N).lp (A24x0x48 N) N progOk (T7x0_ok N) (fun m kn L x => (step24x0x48 N m kn L x).trans (sb24x0x48 N L x _ _ _)) (fun L m x => (ql24x0x48 N L m x).trans (sb24x0x48 N L x (Q24x0x48 N L m) (fun p => some (.inl p)) (fun p => some (.inr p)))) fun L x hx => (altS alt1) x hx
def F24x0 (v0 : LB) (v1 v2 : Int) (v4 v6 v8 : LD) (v9 : LB) (v10 v11 : Int) (v13 v15 v17 : LD) (k0 : Bool → Option R) : Option R :=
 bnd (bif (bif (!(v0 == v9)) then true else (v1 != v10)) then true else (v2 != v11)) fun y0 =>
 bnd (bif y0 then true else ((v4.length : Int) != (v13.length : Int))) fun y1 =>
 bnd (bif y1 then true else ((v6.length : Int) != (v15.length : Int))) fun y2 =>
 bnd (bif y2 then true else ((v8.length : Int) != (v17.length : Int))) fun y3 =>
 bif y3 then
  k0 false
 else
  bnd (G24x0x12 N (v4.length : Int) v4 v13 0) fun y4 =>
  bif (inlB y4) then
   k0 false
  else
   bif (inrQ y4).isSome then
    bnd (G24x0x30 N (v6.length : Int) v6 v15 0) fun y5 =>
    bif (inlB y5) then
     k0 false
    else
     bif (inrQ y5).isSome then
      bnd (G24x0x48 N (v8.length : Int) v8 v17 0) fun y6 =>
      bif (inlB y6) then
       k0 false
      else
       bif (inrQ y6).isSome then
        k0 true
       else
        none
     else
      none
   else
    none
def G24x0 (v0 : LB) (v1 v2 : Int) (v4 v6 v8 : LD) (v9 : LB) (v10 v11 : Int) (v13 v15 v17 : LD) : Option (Bool) := F24x0 N v0 v1 v2 v4 v6 v8 v9 v10 v11 v13 v15 v17 (fun p => some p)
theorem bind24x0 (v0 : LB) (v1 v2 : Int) (v4 v6 v8 : LD) (v9 : LB) (v10 v11 : Int) (v13 v15 v17 : LD) (k0 : Bool → Option R) : F24x0 N v0 v1 v2 v4 v6 v8 v9 v10 v11 v13 v15 v17 k0 = (G24x0 N v0 v1 v2 v4 v6 v8 v9 v10 v11 v13 v15 v17).bind k0 := by
 unfold G24x0 F24x0
 repeat' (first | with_reducible apply cond_b | (with_reducible apply bnd_b; intro _) | rfl)
def J24x0 (L : List Lf) (k0 : Bool → Option R) : Option R := F24x0 N (ls L 0) (li L 1) (li L 2) (ll L 4) (ll L 6) (ll L 8) (ls L 9) (li L 10) (li L 11) (ll L 13) (ll L 15) (ll L 17) k0
def sh24x0 : Sh := { tmps := [(0, .g (.s :: [.i .i64, .i .i64, .sl 69, .sl 130, .sl 9])), (1, .g (.s :: [.i .i64, .i .i64, .sl 69, .sl 130, .sl 9]))], mem := [] }
def A24x0 (L : List Lf) : List (Bool × Res) := bnd (J24x0 N L (fun p => some p)) fun q => [(q.isSome, ([.c (.b (q.getD default))], []))]
theorem raw24x0 (L : List Lf) : bd Tryz.prog (T7x0 N) (h24x0s3 N).h 24 sh24x0 L = J24x0 N L (fun p => some ([.c (.b p)], [])) := by kernel_rfl
theorem ok24x0 : FnOk Tryz.prog 24 sh24x0 (A24x0 N) :=
 (h24x0s3 N).fn progOk (T7x0_ok N) fun L x hx => ((raw24x0 N L).trans ((bind24x0 N ..).trans (alt1 x hx)))
def T24x0 : Oracle := ext 24 (spSh sh24x0 (A24x0 N)) (T7x0 N)
theorem T24x0_ok : OracleOk Tryz.prog (T24x0 N) := FnOk.to (ok24x0 N) (T7x0_ok N)
def rg8x0 : List (Nat × List Nat) := [(0, [0, 1]), (1, [0, 1]), (2, []), (3, [0, 1]), (4, [13, 12, 0, 1]), (5, [13, 0, 1, 12]), (6, [0, 5, 1, 13, 12]), (7, []), (8, [13, 12, 0, 1]), (9, [])]
def hd8x0 : Hints := [(12, [13, 12, 0, 1], [], [])]
def h8x0s0 (N : Nat) : Sg Tryz.prog 0 8 := .start hd8x0 rg8x0
def S8x0x12 (w1 w3 : LD) (w4 : Int) (w5 : Int) (kr : Int → Option R) (k0 : Unit → Option R) (k1 : Unit → Option R) : Option R :=
 bif (decide (w5 < w4)) then
  bif (inB w5 w1.length) then
   bif (inB w5 w3.length) then
    bnd (G24x0 N ((w1.getD w5.toNat (.i 0)).cell 0).toS ((w1.getD w5.toNat (.i 0)).cell 1).toI ((w1.getD w5.toNat (.i 0)).cell 2).toI ((w1.getD w5.toNat (.i 0)).cell 3).items ((w1.getD w5.toNat (.i 0)).cell 4).items ((w1.getD w5.toNat (.i 0)).cell 5).items ((w3.getD w5.toNat (.i 0)).cell 0).toS ((w3.getD w5.toNat (.i 0)).cell 1).toI ((w3.getD w5.toNat (.i 0)).cell 2).toI ((w3.getD w5.toNat (.i 0)).cell 3).items ((w3.getD w5.toNat (.i 0)).cell 4).items ((w3.getD w5.toNat (.i 0)).cell 5).items) fun y0 =>
    bif y0.isSome then
     bif (!(y0.getD default)) then
      k0 ()
     else
      kr (IntKind.wrap .i64 (w5 + 1))
    else
     none
   else
    none
  else
   none
 else
  k1 ()
def L8x0x12 (N : Nat) {R : Type} (w1 w3 : LD) (w4 : Int) : Nat → Int → (Unit → Option R) → (Unit → Option R) → Option R
 | 0, _, _, _ => none
 | m + 1, w5, k0, k1 => S8x0x12 N w1 w3 w4 w5 (fun w5 => L8x0x12 N w1 w3 w4 m w5 k0 k1) k0 k1
def G8x0x12 (w1 w3 : LD) (w4 : Int) (w5 : Int) : Option (Sum (Unit) (Unit)) := L8x0x12 N (R := (Sum (Unit) (Unit))) w1 w3 w4 N w5 (fun p => some (.inl p)) (fun p => some (.inr p))
def J8x0x12 (L x : List Lf) (kr : List Lf → Option R) (k0 : Unit → Option R) (k1 : Unit → Option R) : Option R := S8x0x12 N (ll L 1) (ll L 3) (li L 4) (li x 0) (fun w5 => kr [.i w5]) k0 k1
theorem sb8x0x12 (L x : List Lf) (kr : List Lf → Option R) (k0 : Unit → Option R) (k1 : Unit → Option R) : J8x0x12 N L x kr k0 k1 = (J8x0x12 N L x (fun y => some (.inl y)) (fun p => some (.inr (.inl p))) (fun p => some (.inr (.inr p)))).bind (sumE kr (sumE k0 k1)) := by
 unfold J8x0x12 S8x0x12
 repeat' (first | with_reducible apply cond_b | (with_reducible apply bnd_b; intro _) | rfl)
def Q8x0x12 (L : List Lf) (m : Nat) (x : List Lf) : Option (Sum (Unit) (Unit)) := L8x0x12 N (R := (Sum (Unit) (Unit))) (ll L 1) (ll L 3) (li L 4) m (li x 0) (fun p => some (.inl p)) (fun p => some (.inr p))
def sh8x0x12 : Sh := { tmps := [(0, .c (.sl 60)), (1, .c (.sl 60)), (12, .c (.i .i64)), (13, .c (.i .i64))], mem := [] }
def A8x0x12 (L : List Lf) : List (Bool × (Ex × St)) := bnd (Q8x0x12 N L N (pk sh8x0x12 [5] L)) fun q => [((inlB q), (.ret, ⟨[(4, .c (.b false))], []⟩)), ((inrQ q).isSome, ((.exit 0), ⟨[], []⟩))]
theorem step8x0x12 (m : Nat) (kn : St → Option (Ex × St)) (L x : List Lf) : lpB Tryz.prog (T24x0 N) (h8x0s0 N).h 0 8 12 sh8x0x12 [5] [4] [] (m + 100) kn L x = J8x0x12 N L x (fun y => kn (ofSh sh8x0x12 (mx sh8x0x12 [5] L y))) (fun _ => some (.ret, ⟨[(4, .c (.b false))], []⟩)) (fun _ => some ((.exit 0), ⟨[], []⟩)) := by kernel_rfl
theorem ql8x0x12 (L : List Lf) (m : Nat) (x : List Lf) : Q8x0x12 N L (m + 1) x = J8x0x12 N L x (Q8x0x12 N L m) (fun p => some (.inl p)) (fun p => some (.inr p)) := by kernel_rfl
def h8x0s1 : Sg Tryz.prog 0 8 :=
 (h8x0s0 N).lp (A8x0x12 N) N progOk (T24x0_ok N) (fun m kn L x => (step8x0x12 N m kn L x).trans (sb8x0x12 N L x _ _ _)) (fun L m x => (ql8x0x12 N L m x).trans (sb8x0x12 N L x (Q8x0x12 N L m) (fun p => some (.inl p)) (fun p => some (.inr p)))) fun L x hx => (altS alt1) x hx
def F8x0 (v1 v3 : LD) (k0 : Bool → Option R) : Option R :=
 bif ((v1.length : Int) != (v3.length : Int)) then
  k0 false
 else
  bnd (G8x0x12 N v1 v3 (v1.length : Int) 0) fun y0 =>
  bif (inlB y0) then
   k0 false
  else
   bif (inrQ y0).isSome then
    k0 true
   else
    none
def G8x0 (v1 v3 : LD) : Option (Bool) := F8x0 N v1 v3 (fun p => some p)
theorem bind8x0 (v1 v3 : LD) (k0 : Bool → Option R) : F8x0 N v1 v3 k0 = (G8x0 N v1 v3).bind k0 := by
 unfold G8x0 F8x0
 repeat' (first | with_reducible apply cond_b | (with_reducible apply bnd_b; intro _) | rfl)
def sh8x0 : Sh := { tmps := [(0, .c (.sl 60)), (1, .c (.sl 60))], mem := [] }
def A8x0 (L : List Lf) : List (Bool × Res) := bnd (F8x0 N (ll L 1) (ll L 3) (fun p => some p)) fun q => [(q.isSome, ([.c (.b (q.getD default))], []))]
theorem raw8x0 (L : List Lf) : bd Tryz.prog (T24x0 N) (h8x0s1 N).h 8 sh8x0 L = F8x0 N (ll L 1) (ll L 3) (fun p => some ([.c (.b p)], [])) := by kernel_rfl
theorem ok8x0 : FnOk Tryz.prog 8 sh8x0 (A8x0 N) :=
 (h8x0s1 N).fn progOk (T24x0_ok N) fun L x hx => ((raw8x0 N L).trans ((bind8x0 N ..).trans (alt1 x hx)))
def T8x0 : Oracle := ext 8 (spSh sh8x0 (A8x0 N)) (T24x0 N)
theorem T8x0_ok : OracleOk Tryz.prog (T8x0 N) := FnOk.to (ok8x0 N) (T24x0_ok N)
def sh9x0 : Sh := toldSh
def A9x0 (N : Nat) (L : List Lf) : List (Bool × Res) := toldA L
theorem ok9x0 : FnOk Tryz.prog 9 sh9x0 (A9x0 N) := told_fn
def T9x0 : Oracle := ext 9 (spSh sh9x0 (A9x0 N)) (T8x0 N)
theorem T9x0_ok : OracleOk Tryz.prog (T9x0 N) := FnOk.to (ok9x0 N) (T8x0_ok N)
def rg3x0 : List (Nat × List Nat) := [(0, [0]), (1, [0]), (2, [0, 3, 4]), (3, [3, 5, 4, 6])]
def hd3x0 : Hints := [(10, [3, 5, 4, 6], [], [])]
def h3x0s0 (N : Nat) : Sg Tryz.prog 0 3 := .start hd3x0 rg3x0
def F3x0x10 (w1 : LD) (w2 : Int) (w4 : LD) (w5 : Int) (k0 : Bool → Option R) : Option R :=
 bnd (G8x0 N w1 w4) fun y0 =>
 bif y0.isSome then
  bif (bif (y0.getD default) then (w2 == w5) else false) then
   k0 true
  else
   k0 false
 else
  none
def G3x0x10 (w1 : LD) (w2 : Int) (w4 : LD) (w5 : Int) : Option (Bool) := F3x0x10 N w1 w2 w4 w5 (fun p => some p)
theorem bind3x0x10 (w1 : LD) (w2 : Int) (w4 : LD) (w5 : Int) (k0 : Bool → Option R) : F3x0x10 N w1 w2 w4 w5 k0 = (G3x0x10 N w1 w2 w4 w5).bind k0 := by
 unfold G3x0x10 F3x0x10
 repeat' (first | with_reducible apply cond_b | (with_reducible apply bnd_b; intro _) | rfl)
def J3x0x10 (L : List Lf) (k0 : Bool → Option R) : Option R := F3x0x10 N (ll L 1) (li L 2) (ll L 4) (li L 5) k0
def sh3x0x10 : Sh := { tmps := [(3, .c (.sl 60)), (4, .c (.i .i64)), (5, .c (.sl 60)), (6, .c (.i .i64))], mem := [] }
def A3x0x10 (L : List Lf) : List (Bool × (Ex × St)) := bnd (J3x0x10 N L (fun p => some p)) fun q => [(q.isSome, (.normal, ⟨[(2, .c (.b (q.getD default)))], []⟩))]
theorem raw3x0x10 (L : List Lf) : pc Tryz.prog (T9x0 N) (h3x0s0 N).h 0 100 3 10 sh3x0x10 L [2] [] = J3x0x10 N L (fun p => some (.normal, ⟨[(2, .c (.b p))], []⟩)) := by kernel_rfl
def h3x0s1 : Sg Tryz.prog 0 3 :=
 (h3x0s0 N).cut (A3x0x10 N) progOk (T9x0_ok N) fun L x hx => (raw3x0x10 N L).trans ((bind3x0x10 N ..).trans (alt1 x hx))
def F3x0 (v0 : Bool) (v1 : LD) (k0 : Bool → Option R) : Option R :=
 bnd (G6x0 N v0 v1) fun y0 =>
 bif y0.isSome then
  bnd (G7x0 N v1) fun y1 =>
  bif y1.isSome then
   bnd (G3x0x10 N (y0.getD default).2.1 (y0.getD default).2.2 (y1.getD default).2.1 (y1.getD default).2.2) fun y2 =>
   bif y2.isSome then
    k0 (y2.getD default)
   else
    none
  else
   none
 else
  none
def G3x0 (v0 : Bool) (v1 : LD) : Option (Bool) := F3x0 N v0 v1 (fun p => some p)
theorem bind3x0 (v0 : Bool) (v1 : LD) (k0 : Bool → Option R) : F3x0 N v0 v1 k0 = (G3x0 N v0 v1).bind k0 := by
 unfold G3x0 F3x0
 repeat' (first | with_reducible apply cond_b | (with_reducible apply bnd_b; intro _) | rfl)
def sh3x0 : Sh := { tmps := [(0, .c (.sl 5))], mem := [] }
def A3x0 (L : List Lf) : List (Bool × Res) := bnd (F3x0 N (lb L 0) (ll L 1) (fun p => some p)) fun q => [(q.isSome, ([.c (.b (q.getD default))], []))]
theorem raw3x0 (L : List Lf) : bd Tryz.prog (T9x0 N) (h3x0s1 N).h 3 sh3x0 L = F3x0 N (lb L 0) (ll L 1) (fun p => some ([.c (.b p)], [])) := by kernel_rfl
theorem ok3x0 : FnOk Tryz.prog 3 sh3x0 (A3x0 N) :=
 (h3x0s1 N).fn progOk (T9x0_ok N) fun L x hx => ((raw3x0 N L).trans ((bind3x0 N ..).trans (alt1 x hx)))
def T3x0 : Oracle := ext 3 (spSh sh3x0 (A3x0 N)) (T9x0 N)
theorem T3x0_ok : OracleOk Tryz.prog (T3x0 N) := FnOk.to (ok3x0 N) (T9x0_ok N)
end
end Go.Proofs.YtngnemeafkmaoaaGreat
