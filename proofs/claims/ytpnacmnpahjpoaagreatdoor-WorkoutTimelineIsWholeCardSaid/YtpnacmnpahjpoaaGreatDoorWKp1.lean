/- Functions of the program as plain Lean definitions, each with the proof that the program computes it. No condition. Printed by a program of the prover, part 1. -/
import Derived.Test.YtpnacmnpahjpoaaGreatDoorHk1
import Derived.Test.YtpnacmnpahjpoaaGreatDoorChecked
import Derived.KernelRfl
set_option linter.all false
set_option maxRecDepth 100000
namespace Go.Proofs.YtpnacmnpahjpoaaGreatDoor
open Go Go.AM
noncomputable section
variable (N : Nat) {R : Type}
abbrev LD : Type := List D
abbrev LB : Type := List UInt8
abbrev Ty0 : Type := LB × Bool × LD × Int
abbrev Ty1 : Type := Int × Int × Int × Int × Int
def rg56x0 : List (Nat × List Nat) := [(0, [0]), (1, [0])]
def hd56x0 : Hints := []
def h56x0s0 (N : Nat) : Sg Tryz.prog 0 56 := .start hd56x0 rg56x0
def F56x0 (N : Nat) (v0 : Int) (k0 : Bool → R) : R :=
 k0 (bif (decide (v0 ≥ 48)) then (decide (v0 ≤ 57)) else false)
def V56x0 (v0 : Int) : Bool := F56x0 N v0 (fun p => p)
theorem tot56x0 (v0 : Int) (k0 : Bool → R) : F56x0 N v0 k0 = k0 (V56x0 N v0) := by
 unfold V56x0 F56x0
 repeat' (first | rfl | apply cond_k | (apply bnd_k; intro _))
def sh56x0 : Sh := { tmps := [(0, .c (.i .u8))], mem := [] }
def A56x0 (L : List Lf) : List (Bool × Res) := bnd (F56x0 N (li L 0) (fun p => p)) fun q => [(true, ([.c (.b q)], []))]
theorem raw56x0 (L : List Lf) : bd Tryz.prog noOracle (h56x0s0 N).h 56 sh56x0 L = F56x0 N (li L 0) (fun p => some ([.c (.b p)], [])) := by kernel_rfl
theorem ok56x0 : FnOk Tryz.prog 56 sh56x0 (A56x0 N) :=
 (h56x0s0 N).fn progOk noOracle_ok fun L x hx => ((raw56x0 N L).trans ((tot56x0 N ..).trans (alt0 _ _ hx)))
def T56x0 : Oracle := ext 56 (spSh sh56x0 (A56x0 N)) noOracle
theorem T56x0_ok : OracleOk Tryz.prog (T56x0 N) := FnOk.to (ok56x0 N) noOracle_ok
def rg30x0 : List (Nat × List Nat) := [(0, [0]), (1, [0]), (2, [8, 7, 0]), (3, [8, 0, 7]), (4, [0, 3, 8, 7]), (5, [4, 8, 7, 0]), (6, [5, 4, 8, 7, 0]), (7, []), (8, [8, 7, 0]), (9, [0])]
def hd30x0 : Hints := [(6, [0, 7, 8], [], []), (19, [0, 4, 5, 7, 8], [], [])]
def h30x0s0 (N : Nat) : Sg Tryz.prog 0 30 := .start hd30x0 rg30x0
def F30x0x19 (w1 : Int) (w2 : Bool) (k0 : Bool → R) : R :=
 bif (!w2) then
  bnd (V56x0 N w1) fun y0 =>
  bnd (bif (bif (!y0) then (w1 != 45) else false) then (w1 != 95) else false) fun y1 =>
  k0 (bif y1 then (w1 != 46) else false)
 else
  k0 false
def V30x0x19 (w1 : Int) (w2 : Bool) : Bool := F30x0x19 N w1 w2 (fun p => p)
theorem tot30x0x19 (w1 : Int) (w2 : Bool) (k0 : Bool → R) : F30x0x19 N w1 w2 k0 = k0 (V30x0x19 N w1 w2) := by
 unfold V30x0x19 F30x0x19
 repeat' (first | rfl | apply cond_k | (apply bnd_k; intro _))
def sh30x0x19 : Sh := { tmps := [(0, .c (.s)), (4, .c (.i .u8)), (5, .c (.b)), (7, .c (.i .i64)), (8, .c (.i .i64))], mem := [] }
def K30x0x19w0 (L : List Lf) (p : Bool) : Ex × St := (.normal, mg (ofSh sh30x0x19 L) [8, 7, 0, 46] [(46, .c (.b p))] [] [])
def A30x0x19 (L : List Lf) : List (Bool × (Ex × St)) := bnd (F30x0x19 N (li L 1) (lb L 2) (fun p => p)) fun q => [(true, K30x0x19w0 L q)]
theorem raw30x0x19 (L : List Lf) : pc Tryz.prog (T56x0 N) (h30x0s0 N).h 0 100 30 19 sh30x0x19 L [8, 7, 0, 46] [] = F30x0x19 N (li L 1) (lb L 2) (fun p => some (K30x0x19w0 L p)) := by kernel_rfl
def h30x0s1 : Sg Tryz.prog 0 30 :=
 (h30x0s0 N).cut (A30x0x19 N) progOk (T56x0_ok N) fun L x hx => (raw30x0x19 N L).trans ((tot30x0x19 N ..).trans (alt0 _ _ hx))
def S30x0x6 (w0 : LB) (w1 : Int) (w2 : Int) (kr : Int → Option R) (k0 : Unit → Option R) (k1 : Unit → Option R) : Option R :=
 bif (decide (w2 < w1)) then
  bif (inB w2 w0.length) then
   bnd (bif (decide (((w0.getD w2.toNat 0).toNat : Int) ≥ 97)) then (decide (((w0.getD w2.toNat 0).toNat : Int) ≤ 122)) else false) fun y0 =>
   bnd (bif y0 then true else (bif (decide (((w0.getD w2.toNat 0).toNat : Int) ≥ 65)) then (decide (((w0.getD w2.toNat 0).toNat : Int) ≤ 90)) else false)) fun y1 =>
   bnd (V30x0x19 N ((w0.getD w2.toNat 0).toNat : Int) y1) fun y2 =>
   bif y2 then
    k0 ()
   else
    kr (IntKind.wrap .i64 (w2 + 1))
  else
   none
 else
  k1 ()
def L30x0x6 (N : Nat) {R : Type} (w0 : LB) (w1 : Int) : Nat → Int → (Unit → Option R) → (Unit → Option R) → Option R
 | 0, _, _, _ => none
 | m + 1, w2, k0, k1 => S30x0x6 N w0 w1 w2 (fun w2 => L30x0x6 N w0 w1 m w2 k0 k1) k0 k1
def G30x0x6 (w0 : LB) (w1 : Int) (w2 : Int) : Option (Sum (Unit) (Unit)) := L30x0x6 N (R := (Sum (Unit) (Unit))) w0 w1 N w2 (fun p => some (.inl p)) (fun p => some (.inr p))
def J30x0x6 (L x : List Lf) (kr : List Lf → Option R) (k0 : Unit → Option R) (k1 : Unit → Option R) : Option R := S30x0x6 N (ls L 0) (li L 1) (li x 0) (fun w2 => kr [.i w2]) k0 k1
theorem sb30x0x6 (L x : List Lf) (kr : List Lf → Option R) (k0 : Unit → Option R) (k1 : Unit → Option R) : J30x0x6 N L x kr k0 k1 = (J30x0x6 N L x (fun y => some (.inl y)) (fun p => some (.inr (.inl p))) (fun p => some (.inr (.inr p)))).bind (sumE kr (sumE k0 k1)) := by
 unfold J30x0x6 S30x0x6
 repeat' (first | with_reducible apply cond_b | (with_reducible apply bnd_b; intro _) | rfl)
def Q30x0x6 (L : List Lf) (m : Nat) (x : List Lf) : Option (Sum (Unit) (Unit)) := L30x0x6 N (R := (Sum (Unit) (Unit))) (ls L 0) (li L 1) m (li x 0) (fun p => some (.inl p)) (fun p => some (.inr p))
def sh30x0x6 : Sh := { tmps := [(0, .c (.s)), (7, .c (.i .i64)), (8, .c (.i .i64))], mem := [] }
def A30x0x6 (L : List Lf) : List (Bool × (Ex × St)) := bnd (Q30x0x6 N L N (pk sh30x0x6 [2] L)) fun q => [((inlB q), (.ret, ⟨[(2, .c (.b false))], []⟩)), ((inrQ q).isSome, ((.exit 0), ⟨[(0, .c (.s (ls L 0)))], []⟩))]
theorem step30x0x6 (m : Nat) (kn : St → Option (Ex × St)) (L x : List Lf) : lpB Tryz.prog (T56x0 N) (h30x0s1 N).h 0 30 6 sh30x0x6 [2] [2, 0] [] (m + 100) kn L x = J30x0x6 N L x (fun y => kn (ofSh sh30x0x6 (mx sh30x0x6 [2] L y))) (fun _ => some (.ret, ⟨[(2, .c (.b false))], []⟩)) (fun _ => some ((.exit 0), ⟨[(0, .c (.s (ls L 0)))], []⟩)) := by kernel_rfl
theorem ql30x0x6 (L : List Lf) (m : Nat) (x : List Lf) : Q30x0x6 N L (m + 1) x = J30x0x6 N L x (Q30x0x6 N L m) (fun p => some (.inl p)) (fun p => some (.inr p)) := by kernel_rfl
def h30x0s2 : Sg Tryz.prog 0 30 :=
 (h30x0s1 N).lp (A30x0x6 N) N progOk (T56x0_ok N) (fun m kn L x => (step30x0x6 N m kn L x).trans (sb30x0x6 N L x _ _ _)) (fun L m x => (ql30x0x6 N L m x).trans (sb30x0x6 N L x (Q30x0x6 N L m) (fun p => some (.inl p)) (fun p => some (.inr p)))) fun L x hx => (altS alt1) x hx
def F30x0 (v0 : LB) (k0 : Bool → Option R) : Option R :=
 bnd (G30x0x6 N v0 (v0.length : Int) 0) fun y0 =>
 bif (inlB y0) then
  k0 false
 else
  bif (inrQ y0).isSome then
   bnd (bif (decide ((v0.length : Int) ≥ 1)) then (decide ((v0.length : Int) ≤ 60)) else false) fun y1 =>
   k0 y1
  else
   none
def G30x0 (v0 : LB) : Option (Bool) := F30x0 N v0 (fun p => some p)
theorem bind30x0 (v0 : LB) (k0 : Bool → Option R) : F30x0 N v0 k0 = (G30x0 N v0).bind k0 := by
 unfold G30x0 F30x0
 repeat' (first | with_reducible apply cond_b | (with_reducible apply bnd_b; intro _) | rfl)
def sh30x0 : Sh := { tmps := [(0, .c (.s))], mem := [] }
def A30x0 (L : List Lf) : List (Bool × Res) := bnd (F30x0 N (ls L 0) (fun p => some p)) fun q => [(q.isSome, ([.c (.b (q.getD default))], []))]
theorem raw30x0 (L : List Lf) : bd Tryz.prog (T56x0 N) (h30x0s2 N).h 30 sh30x0 L = F30x0 N (ls L 0) (fun p => some ([.c (.b p)], [])) := by kernel_rfl
theorem ok30x0 : FnOk Tryz.prog 30 sh30x0 (A30x0 N) :=
 (h30x0s2 N).fn progOk (T56x0_ok N) fun L x hx => ((raw30x0 N L).trans ((bind30x0 N ..).trans (alt1 x hx)))
def T30x0 : Oracle := ext 30 (spSh sh30x0 (A30x0 N)) (T56x0 N)
theorem T30x0_ok : OracleOk Tryz.prog (T30x0 N) := FnOk.to (ok30x0 N) (T56x0_ok N)
def rg48x0 : List (Nat × List Nat) := [(0, [0, 1, 2]), (1, [0, 1, 2])]
def hd48x0 : Hints := []
def h48x0s0 (N : Nat) : Sg Tryz.prog 0 48 := .start hd48x0 rg48x0
def F48x0 (N : Nat) (v0 v1 v2 : Int) (k0 : Bool → R) : R :=
 k0 (bif (decide (v0 ≥ v1)) then (decide (v0 ≤ v2)) else false)
def V48x0 (v0 v1 v2 : Int) : Bool := F48x0 N v0 v1 v2 (fun p => p)
theorem tot48x0 (v0 v1 v2 : Int) (k0 : Bool → R) : F48x0 N v0 v1 v2 k0 = k0 (V48x0 N v0 v1 v2) := by
 unfold V48x0 F48x0
 repeat' (first | rfl | apply cond_k | (apply bnd_k; intro _))
def sh48x0 : Sh := { tmps := [(0, .c (.i .i64)), (1, .c (.i .i64)), (2, .c (.i .i64))], mem := [] }
def A48x0 (L : List Lf) : List (Bool × Res) := bnd (F48x0 N (li L 0) (li L 1) (li L 2) (fun p => p)) fun q => [(true, ([.c (.b q)], []))]
theorem raw48x0 (L : List Lf) : bd Tryz.prog (T30x0 N) (h48x0s0 N).h 48 sh48x0 L = F48x0 N (li L 0) (li L 1) (li L 2) (fun p => some ([.c (.b p)], [])) := by kernel_rfl
theorem ok48x0 : FnOk Tryz.prog 48 sh48x0 (A48x0 N) :=
 (h48x0s0 N).fn progOk (T30x0_ok N) fun L x hx => ((raw48x0 N L).trans ((tot48x0 N ..).trans (alt0 _ _ hx)))
def T48x0 : Oracle := ext 48 (spSh sh48x0 (A48x0 N)) (T30x0 N)
theorem T48x0_ok : OracleOk Tryz.prog (T48x0 N) := FnOk.to (ok48x0 N) (T30x0_ok N)
def rg82x0 : List (Nat × List Nat) := [(0, [0]), (1, [0])]
def hd82x0 : Hints := []
def h82x0s0 (N : Nat) : Sg Tryz.prog 0 82 := .start hd82x0 rg82x0
def F82x0 (N : Nat) (v0 : Int) (k0 : Int → Option R) : Option R :=
 bif (inB v0 5) then
  bnd (bif (Nat.beq v0.toNat 0) then 0 else (bif (Nat.beq v0.toNat 1) then 3000 else (bif (Nat.beq v0.toNat 2) then 300 else (bif (Nat.beq v0.toNat 3) then 300 else 36000)))) fun y0 =>
  k0 y0
 else
  none
def G82x0 (v0 : Int) : Option (Int) := F82x0 N v0 (fun p => some p)
theorem bind82x0 (v0 : Int) (k0 : Int → Option R) : F82x0 N v0 k0 = (G82x0 N v0).bind k0 := by
 unfold G82x0 F82x0
 repeat' (first | with_reducible apply cond_b | (with_reducible apply bnd_b; intro _) | rfl)
def sh82x0 : Sh := { tmps := [(0, .c (.i .i64))], mem := [] }
def A82x0 (L : List Lf) : List (Bool × Res) := bnd (F82x0 N (li L 0) (fun p => some p)) fun q => [(q.isSome, ([.c (.i .i64 (q.getD default))], []))]
theorem raw82x0 (L : List Lf) : bd Tryz.prog (T48x0 N) (h82x0s0 N).h 82 sh82x0 L = F82x0 N (li L 0) (fun p => some ([.c (.i .i64 p)], [])) := by kernel_rfl
theorem ok82x0 : FnOk Tryz.prog 82 sh82x0 (A82x0 N) :=
 (h82x0s0 N).fn progOk (T48x0_ok N) fun L x hx => ((raw82x0 N L).trans ((bind82x0 N ..).trans (alt1 x hx)))
def T82x0 : Oracle := ext 82 (spSh sh82x0 (A82x0 N)) (T48x0 N)
theorem T82x0_ok : OracleOk Tryz.prog (T82x0 N) := FnOk.to (ok82x0 N) (T48x0_ok N)
def rg57x0 : List (Nat × List Nat) := [(0, [0]), (1, [1]), (3, [1]), (4, [1]), (6, [1]), (7, []), (5, []), (2, []), (8, [1]), (9, [3, 1]), (11, [3, 1]), (12, [3, 1]), (14, [3, 1]), (15, []), (13, []), (10, []), (16, [3, 1]), (17, [3, 1, 4]), (18, [3, 1]), (19, [3, 4, 1]), (21, [3, 1]), (22, []), (20, []), (23, [])]
def hd57x0 : Hints := [(12002, [1, 10], [1], []), (19, [1], [1], []), (36002, [1, 3, 45], [1, 3], []), (56, [1, 3, 4, 74], [1, 3], []), (58, [1, 3, 4], [1, 3], [])]
def h57x0s0 (N : Nat) : Sg Tryz.prog 0 57 := .start hd57x0 rg57x0
def F57x0x12002 (N : Nat) (w0 : Bool) (w3 w4 : Int) (k0 : Bool → R) : R :=
 bif w0 then
  k0 true
 else
  k0 ((w3 == 0) == (w4 == 0))
def V57x0x12002 (w0 : Bool) (w3 w4 : Int) : Bool := F57x0x12002 N w0 w3 w4 (fun p => p)
theorem tot57x0x12002 (w0 : Bool) (w3 w4 : Int) (k0 : Bool → R) : F57x0x12002 N w0 w3 w4 k0 = k0 (V57x0x12002 N w0 w3 w4) := by
 unfold V57x0x12002 F57x0x12002
 repeat' (first | rfl | apply cond_k | (apply bnd_k; intro _))
def sh57x0x12002 : Sh := { tmps := [(1, .c (.p 1 0)), (10, .c (.b))], mem := [(1, .box (.i .i64 :: .s :: .i .i64 :: .i .i64 :: .i .i64 :: [.b, .i .i64, .i .i64, .i .i64, .sl 64]))] }
def K57x0x12002w0 (L : List Lf) (p : Bool) : Ex × St := (.normal, mg (ofSh sh57x0x12002 L) [1, 10] [(10, .c (.b p))] [1] [])
def A57x0x12002 (L : List Lf) : List (Bool × (Ex × St)) := bnd (F57x0x12002 N (lb L 0) (li L 3) (li L 4) (fun p => p)) fun q => [(true, K57x0x12002w0 L q)]
theorem raw57x0x12002 (L : List Lf) : pc Tryz.prog (T82x0 N) (h57x0s0 N).h 0 100 57 12002 sh57x0x12002 L [1, 10] [1] = F57x0x12002 N (lb L 0) (li L 3) (li L 4) (fun p => some (K57x0x12002w0 L p)) := by kernel_rfl
def h57x0s1 : Sg Tryz.prog 0 57 :=
 (h57x0s0 N).cut (A57x0x12002 N) progOk (T82x0_ok N) fun L x hx => (raw57x0x12002 N L).trans ((tot57x0x12002 N ..).trans (alt0 _ _ hx))
def F57x0x19 (w2 w3 : Int) (k0 : Bool → R) : R :=
 bnd (V48x0 N w2 0 3599999) fun y0 =>
 bif (!y0) then
  k0 true
 else
  bnd (V48x0 N w3 0 1000000000) fun y1 =>
  k0 (!y1)
def V57x0x19 (w2 w3 : Int) : Bool := F57x0x19 N w2 w3 (fun p => p)
theorem tot57x0x19 (w2 w3 : Int) (k0 : Bool → R) : F57x0x19 N w2 w3 k0 = k0 (V57x0x19 N w2 w3) := by
 unfold V57x0x19 F57x0x19
 repeat' (first | rfl | apply cond_k | (apply bnd_k; intro _))
def sh57x0x19 : Sh := { tmps := [(1, .c (.p 1 0))], mem := [(1, .box (.i .i64 :: .s :: .i .i64 :: .i .i64 :: .i .i64 :: [.b, .i .i64, .i .i64, .i .i64, .sl 64]))] }
def K57x0x19w0 (L : List Lf) (p : Bool) : Ex × St := (.normal, mg (ofSh sh57x0x19 L) [1, 27] [(27, .c (.b p))] [1] [])
def A57x0x19 (L : List Lf) : List (Bool × (Ex × St)) := bnd (F57x0x19 N (li L 2) (li L 3) (fun p => p)) fun q => [(true, K57x0x19w0 L q)]
theorem raw57x0x19 (L : List Lf) : pc Tryz.prog (T82x0 N) (h57x0s1 N).h 0 100 57 19 sh57x0x19 L [1, 27] [1] = F57x0x19 N (li L 2) (li L 3) (fun p => some (K57x0x19w0 L p)) := by kernel_rfl
def h57x0s2 : Sg Tryz.prog 0 57 :=
 (h57x0s1 N).cut (A57x0x19 N) progOk (T82x0_ok N) fun L x hx => (raw57x0x19 N L).trans ((tot57x0x19 N ..).trans (alt0 _ _ hx))
def F57x0x36002 (N : Nat) (w0 : Bool) (w12 : Int) (w13 : Bool) (k0 : Bool → R) : R :=
 bif w0 then
  k0 true
 else
  k0 (bif w13 then (w12 == 3) else false)
def V57x0x36002 (w0 : Bool) (w12 : Int) (w13 : Bool) : Bool := F57x0x36002 N w0 w12 w13 (fun p => p)
theorem tot57x0x36002 (w0 : Bool) (w12 : Int) (w13 : Bool) (k0 : Bool → R) : F57x0x36002 N w0 w12 w13 k0 = k0 (V57x0x36002 N w0 w12 w13) := by
 unfold V57x0x36002 F57x0x36002
 repeat' (first | rfl | apply cond_k | (apply bnd_k; intro _))
def sh57x0x36002 : Sh := { tmps := [(1, .c (.p 1 0)), (3, .c (.p 3 0)), (45, .c (.b))], mem := [(1, .box (.i .i64 :: .s :: .i .i64 :: .i .i64 :: .i .i64 :: [.b, .i .i64, .i .i64, .i .i64, .sl 64])), (3, .box ([.i .i64, .b, .i .i64, .i .i64]))] }
def K57x0x36002w0 (L : List Lf) (p : Bool) : Ex × St := (.normal, mg (ofSh sh57x0x36002 L) [3, 1, 45] [(45, .c (.b p))] [3, 1] [])
def A57x0x36002 (L : List Lf) : List (Bool × (Ex × St)) := bnd (F57x0x36002 N (lb L 0) (li L 12) (lb L 13) (fun p => p)) fun q => [(true, K57x0x36002w0 L q)]
theorem raw57x0x36002 (L : List Lf) : pc Tryz.prog (T82x0 N) (h57x0s2 N).h 0 100 57 36002 sh57x0x36002 L [3, 1, 45] [3, 1] = F57x0x36002 N (lb L 0) (li L 12) (lb L 13) (fun p => some (K57x0x36002w0 L p)) := by kernel_rfl
def h57x0s3 : Sg Tryz.prog 0 57 :=
 (h57x0s2 N).cut (A57x0x36002 N) progOk (T82x0_ok N) fun L x hx => (raw57x0x36002 N L).trans ((tot57x0x36002 N ..).trans (alt0 _ _ hx))
def F57x0x56 (N : Nat) (w0 : Int) (w1 : Bool) (k0 : Int → R) : R :=
 bif w1 then
  k0 300
 else
  k0 w0
def V57x0x56 (w0 : Int) (w1 : Bool) : Int := F57x0x56 N w0 w1 (fun p => p)
theorem tot57x0x56 (w0 : Int) (w1 : Bool) (k0 : Int → R) : F57x0x56 N w0 w1 k0 = k0 (V57x0x56 N w0 w1) := by
 unfold V57x0x56 F57x0x56
 repeat' (first | rfl | apply cond_k | (apply bnd_k; intro _))
def sh57x0x56 : Sh := { tmps := [(1, .c (.p 1 0)), (3, .c (.p 3 0)), (4, .c (.i .i64)), (74, .c (.b))], mem := [(1, .box (.i .i64 :: .s :: .i .i64 :: .i .i64 :: .i .i64 :: [.b, .i .i64, .i .i64, .i .i64, .sl 64])), (3, .box ([.i .i64, .b, .i .i64, .i .i64]))] }
def K57x0x56w0 (L : List Lf) (p : Int) : Ex × St := (.normal, mg (ofSh sh57x0x56 L) [3, 4, 1] [(4, .c (.i .i64 p))] [3, 1] [])
def A57x0x56 (L : List Lf) : List (Bool × (Ex × St)) := bnd (F57x0x56 N (li L 0) (lb L 1) (fun p => p)) fun q => [(true, K57x0x56w0 L q)]
theorem raw57x0x56 (L : List Lf) : pc Tryz.prog (T82x0 N) (h57x0s3 N).h 0 100 57 56 sh57x0x56 L [3, 4, 1] [3, 1] = F57x0x56 N (li L 0) (lb L 1) (fun p => some (K57x0x56w0 L p)) := by kernel_rfl
def h57x0s4 : Sg Tryz.prog 0 57 :=
 (h57x0s3 N).cut (A57x0x56 N) progOk (T82x0_ok N) fun L x hx => (raw57x0x56 N L).trans ((tot57x0x56 N ..).trans (alt0 _ _ hx))
def F57x0x58 (w0 w14 w15 : Int) (k0 : Bool → R) : R :=
 bnd (V48x0 N w14 1 w0) fun y0 =>
 bif (!y0) then
  k0 true
 else
  bnd (V48x0 N w15 1 w0) fun y1 =>
  k0 (!y1)
def V57x0x58 (w0 w14 w15 : Int) : Bool := F57x0x58 N w0 w14 w15 (fun p => p)
theorem tot57x0x58 (w0 w14 w15 : Int) (k0 : Bool → R) : F57x0x58 N w0 w14 w15 k0 = k0 (V57x0x58 N w0 w14 w15) := by
 unfold V57x0x58 F57x0x58
 repeat' (first | rfl | apply cond_k | (apply bnd_k; intro _))
def sh57x0x58 : Sh := { tmps := [(1, .c (.p 1 0)), (3, .c (.p 3 0)), (4, .c (.i .i64))], mem := [(1, .box (.i .i64 :: .s :: .i .i64 :: .i .i64 :: .i .i64 :: [.b, .i .i64, .i .i64, .i .i64, .sl 64])), (3, .box ([.i .i64, .b, .i .i64, .i .i64]))] }
def K57x0x58w0 (L : List Lf) (p : Bool) : Ex × St := (.normal, mg (ofSh sh57x0x58 L) [3, 1, 75] [(75, .c (.b p))] [3, 1] [])
def A57x0x58 (L : List Lf) : List (Bool × (Ex × St)) := bnd (F57x0x58 N (li L 0) (li L 14) (li L 15) (fun p => p)) fun q => [(true, K57x0x58w0 L q)]
theorem raw57x0x58 (L : List Lf) : pc Tryz.prog (T82x0 N) (h57x0s4 N).h 0 100 57 58 sh57x0x58 L [3, 1, 75] [3, 1] = F57x0x58 N (li L 0) (li L 14) (li L 15) (fun p => some (K57x0x58w0 L p)) := by kernel_rfl
def h57x0s5 : Sg Tryz.prog 0 57 :=
 (h57x0s4 N).cut (A57x0x58 N) progOk (T82x0_ok N) fun L x hx => (raw57x0x58 N L).trans ((tot57x0x58 N ..).trans (alt0 _ _ hx))
def F57x0 (v0 : Int) (v1 : LB) (v2 v3 v4 : Int) (v5 : Bool) (v6 v7 v8 : Int) (v10 : LD) (k0 : Int → Option R) : Option R :=
 bnd (G30x0 N v1) fun y0 =>
 bif y0.isSome then
  bif (!(y0.getD default)) then
   k0 8
  else
   bnd (bif (v8 != 0) then true else (decide ((v10.length : Int) > 0))) fun y1 =>
   bnd (V57x0x12002 N y1 v2 v3) fun y2 =>
   bif y2 then
    k0 2
   else
    bnd (V57x0x19 N v2 v3) fun y3 =>
    bif y3 then
     k0 9
    else
     bnd (V48x0 N v4 0 4) fun y4 =>
     bif (!y4) then
      k0 7
     else
      bnd (bif (v4 == 0) then (bif (!((v4 == 0) && ((v5 == false) && ((v6 == 0) && ((v7 == 0) && true))))) then true else (v0 == 2)) else false) fun y5 =>
      bnd (V57x0x36002 N y5 v4 v5) fun y6 =>
      bif y6 then
       k0 2
      else
       bif (v4 == 0) then
        k0 0
       else
        bnd (G82x0 N v4) fun y7 =>
        bif y7.isSome then
         bnd (V57x0x56 N (y7.getD default) v5) fun y8 =>
         bnd (V57x0x58 N y8 v6 v7) fun y9 =>
         bif y9 then
          k0 9
         else
          bif (bif (decide (v6 > v7)) then (v0 == 1) else false) then
           k0 10
          else
           k0 0
        else
         none
 else
  none
def G57x0 (v0 : Int) (v1 : LB) (v2 v3 v4 : Int) (v5 : Bool) (v6 v7 v8 : Int) (v10 : LD) : Option (Int) := F57x0 N v0 v1 v2 v3 v4 v5 v6 v7 v8 v10 (fun p => some p)
theorem bind57x0 (v0 : Int) (v1 : LB) (v2 v3 v4 : Int) (v5 : Bool) (v6 v7 v8 : Int) (v10 : LD) (k0 : Int → Option R) : F57x0 N v0 v1 v2 v3 v4 v5 v6 v7 v8 v10 k0 = (G57x0 N v0 v1 v2 v3 v4 v5 v6 v7 v8 v10).bind k0 := by
 unfold G57x0 F57x0
 repeat' (first | with_reducible apply cond_b | (with_reducible apply bnd_b; intro _) | rfl)
def J57x0 (L : List Lf) (k0 : Int → Option R) : Option R := F57x0 N (li L 0) (ls L 1) (li L 2) (li L 3) (li L 4) (lb L 5) (li L 6) (li L 7) (li L 8) (ll L 10) k0
def sh57x0 : Sh := { tmps := [(0, .g (.i .i64 :: .s :: .i .i64 :: .i .i64 :: .i .i64 :: [.b, .i .i64, .i .i64, .i .i64, .sl 64]))], mem := [] }
def A57x0 (L : List Lf) : List (Bool × Res) := bnd (J57x0 N L (fun p => some p)) fun q => [(q.isSome, ([.c (.i .i64 (q.getD default))], []))]
theorem raw57x0 (L : List Lf) : bd Tryz.prog (T82x0 N) (h57x0s5 N).h 57 sh57x0 L = J57x0 N L (fun p => some ([.c (.i .i64 p)], [])) := by kernel_rfl
theorem ok57x0 : FnOk Tryz.prog 57 sh57x0 (A57x0 N) :=
 (h57x0s5 N).fn progOk (T82x0_ok N) fun L x hx => ((raw57x0 N L).trans ((bind57x0 N ..).trans (alt1 x hx)))
def T57x0 : Oracle := ext 57 (spSh sh57x0 (A57x0 N)) (T82x0 N)
theorem T57x0_ok : OracleOk Tryz.prog (T57x0 N) := FnOk.to (ok57x0 N) (T82x0_ok N)
def rg58x0 : List (Nat × List Nat) := [(0, [0]), (1, [1]), (3, [1]), (5, [1]), (6, []), (4, []), (2, []), (7, [])]
def hd58x0 : Hints := []
def h58x0s0 (N : Nat) : Sg Tryz.prog 0 58 := .start hd58x0 rg58x0
def F58x0 (v1 : LB) (v2 v3 v4 : Int) (v5 : Bool) (v6 v7 v8 : Int) (v10 : LD) (k0 : Int → R) : R :=
 bnd (bif (bif (!(v1 == ([] : List UInt8))) then true else (v2 != 0)) then true else (v3 != 0)) fun y0 =>
 bnd (bif y0 then true else (!((v4 == 0) && ((v5 == false) && ((v6 == 0) && ((v7 == 0) && true)))))) fun y1 =>
 bif y1 then
  k0 2
 else
  bnd (V48x0 N v8 1 99) fun y2 =>
  bif (!y2) then
   k0 9
  else
   bif ((v10.length : Int) == 0) then
    k0 13
   else
    k0 0
def V58x0 (v1 : LB) (v2 v3 v4 : Int) (v5 : Bool) (v6 v7 v8 : Int) (v10 : LD) : Int := F58x0 N v1 v2 v3 v4 v5 v6 v7 v8 v10 (fun p => p)
theorem tot58x0 (v1 : LB) (v2 v3 v4 : Int) (v5 : Bool) (v6 v7 v8 : Int) (v10 : LD) (k0 : Int → R) : F58x0 N v1 v2 v3 v4 v5 v6 v7 v8 v10 k0 = k0 (V58x0 N v1 v2 v3 v4 v5 v6 v7 v8 v10) := by
 unfold V58x0 F58x0
 repeat' (first | rfl | apply cond_k | (apply bnd_k; intro _))
def J58x0 (L : List Lf) (k0 : Int → R) : R := F58x0 N (ls L 1) (li L 2) (li L 3) (li L 4) (lb L 5) (li L 6) (li L 7) (li L 8) (ll L 10) k0
def sh58x0 : Sh := { tmps := [(0, .g (.i .i64 :: .s :: .i .i64 :: .i .i64 :: .i .i64 :: [.b, .i .i64, .i .i64, .i .i64, .sl 64]))], mem := [] }
def A58x0 (L : List Lf) : List (Bool × Res) := bnd (J58x0 N L (fun p => p)) fun q => [(true, ([.c (.i .i64 q)], []))]
theorem raw58x0 (L : List Lf) : bd Tryz.prog (T57x0 N) (h58x0s0 N).h 58 sh58x0 L = J58x0 N L (fun p => some ([.c (.i .i64 p)], [])) := by kernel_rfl
theorem ok58x0 : FnOk Tryz.prog 58 sh58x0 (A58x0 N) :=
 (h58x0s0 N).fn progOk (T57x0_ok N) fun L x hx => ((raw58x0 N L).trans ((tot58x0 N ..).trans (alt0 _ _ hx)))
def T58x0 : Oracle := ext 58 (spSh sh58x0 (A58x0 N)) (T57x0 N)
theorem T58x0_ok : OracleOk Tryz.prog (T58x0 N) := FnOk.to (ok58x0 N) (T57x0_ok N)
abbrev Rc31x1 : Type := Bool → LD → Int → Int → Option (Int × Int)
def sh31x1 : Sh := { tmps := [(0, .c (.sl 64)), (1, .c (.i .i64)), (2, .c (.p 0 0))], mem := [(0, .box ([.i .i64]))] }
def B31x1 (N : Nat) (rc31x1 : Rc31x1) (L : List Lf) : List (Bool × Res) := bnd (rc31x1 (lb L 0) (ll L 1) (li L 2) (li L 3)) fun q => [(q.isSome, ([.c (.i .i64 (q.getD default).1)], [(0, .box [.i .i64 (q.getD default).2])]))]
def O31x1 (rc31x1 : Rc31x1) : Oracle := ext 31 (spSh sh31x1 ((B31x1 N) rc31x1)) (T58x0 N)
def rg31x1 : List (Nat × List Nat) := [(0, [0, 2, 1]), (1, [0, 2, 1]), (2, [12, 11, 10, 2, 1]), (3, [10, 12, 2, 1, 11]), (4, [2, 1, 8, 12, 11, 10]), (5, [2, 1, 8, 12, 11, 10]), (6, []), (7, [8, 12, 11, 10, 2, 1]), (8, [8, 12, 11, 10, 2, 1]), (10, [30, 8, 12, 11, 10, 2, 1]), (11, [30, 8, 12, 11, 10, 2, 1]), (13, [30, 8, 1, 2, 12, 11, 10]), (9, [12, 11, 10, 2, 1]), (14, [8, 1, 2, 12, 11, 10]), (15, [9, 8, 1, 2, 12, 11, 10]), (16, [8, 1, 2, 12, 11, 10]), (12, [8, 12, 11, 10, 2, 1]), (17, [9, 12, 11, 10, 2, 1]), (18, [9]), (19, [12, 11, 10, 2, 1]), (20, [])]
def hd31x1 : Hints := [(6, [1, 2, 10, 11, 12], [0], []), (33002, [1, 2, 8, 10, 11, 12, 30, 31], [0, 9], []), (50, [1, 2, 8, 9, 10, 11, 12, 41], [0, 9], []), (27044, [1, 2, 8, 10, 11, 12, 36], [0, 9], []), (39038, [1, 2, 8, 10, 11, 12, 30, 31], [0, 9], [])]
def h31x1s0 (rc31x1 : Rc31x1) (hR31x1 : OracleOk Tryz.prog ((O31x1 N) rc31x1)) : Sg Tryz.prog 1 31 := .start hd31x1 rg31x1
def F31x1x33002 (N : Nat) (rc31x1 : Rc31x1) (w5 : Int) (w6 : Bool) (k0 : Bool → R) : R :=
 bif w6 then
  k0 true
 else
  k0 (w5 == 2)
def V31x1x33002 (rc31x1 : Rc31x1) (w5 : Int) (w6 : Bool) : Bool := F31x1x33002 N rc31x1 w5 w6 (fun p => p)
theorem tot31x1x33002 (rc31x1 : Rc31x1) (w5 : Int) (w6 : Bool) (k0 : Bool → R) : F31x1x33002 N rc31x1 w5 w6 k0 = k0 (V31x1x33002 N rc31x1 w5 w6) := by
 unfold V31x1x33002 F31x1x33002
 repeat' (first | rfl | apply cond_k | (apply bnd_k; intro _))
def sh31x1x33002 : Sh := { tmps := [(1, .c (.i .i64)), (2, .c (.p 0 0)), (8, .c (.p 9 0)), (10, .c (.sl 64)), (11, .c (.i .i64)), (12, .c (.i .i64)), (30, .c (.i .i64)), (31, .c (.b))], mem := [(0, .box ([.i .i64])), (9, .box (.i .i64 :: .s :: .i .i64 :: .i .i64 :: .i .i64 :: [.b, .i .i64, .i .i64, .i .i64, .sl 64]))] }
def K31x1x33002w0 (L : List Lf) (p : Bool) : Ex × St := (.normal, mg (ofSh sh31x1x33002 L) [8, 12, 11, 10, 2, 1, 30, 31] [(31, .c (.b p))] [9, 0] [])
def A31x1x33002 (rc31x1 : Rc31x1) (L : List Lf) : List (Bool × (Ex × St)) := bnd (F31x1x33002 N rc31x1 (li L 5) (lb L 6) (fun p => p)) fun q => [(true, K31x1x33002w0 L q)]
theorem raw31x1x33002 (rc31x1 : Rc31x1) (hR31x1 : OracleOk Tryz.prog ((O31x1 N) rc31x1)) (L : List Lf) : pc Tryz.prog ((O31x1 N) rc31x1) ((h31x1s0 N) rc31x1 hR31x1).h 1 100 31 33002 sh31x1x33002 L [8, 12, 11, 10, 2, 1, 30, 31] [9, 0] = F31x1x33002 N rc31x1 (li L 5) (lb L 6) (fun p => some (K31x1x33002w0 L p)) := by kernel_rfl
def h31x1s1 (rc31x1 : Rc31x1) (hR31x1 : OracleOk Tryz.prog ((O31x1 N) rc31x1)) : Sg Tryz.prog 1 31 :=
 ((h31x1s0 N) rc31x1 hR31x1).cut ((A31x1x33002 N) rc31x1) progOk hR31x1 fun L x hx => (raw31x1x33002 N rc31x1 hR31x1 L).trans ((tot31x1x33002 N rc31x1 ..).trans (alt0 _ _ hx))
def F31x1x50 (N : Nat) (rc31x1 : Rc31x1) (w0 w1 : Int) (w6 : Bool) (w7 : Int) (w17 : Bool) (w18 : LD) (k0 : Int × Int → Option R) : Option R :=
 bif w6 then
  bnd (rc31x1 w17 w18 (IntKind.wrap .i64 (w0 + 1)) w7) fun y0 =>
  bif y0.isSome then
   k0 (y0.getD default)
  else
   none
 else
  k0 (w1, w7)
def G31x1x50 (rc31x1 : Rc31x1) (w0 w1 : Int) (w6 : Bool) (w7 : Int) (w17 : Bool) (w18 : LD) : Option (Int × Int) := F31x1x50 N rc31x1 w0 w1 w6 w7 w17 w18 (fun p => some p)
theorem bind31x1x50 (rc31x1 : Rc31x1) (w0 w1 : Int) (w6 : Bool) (w7 : Int) (w17 : Bool) (w18 : LD) (k0 : Int × Int → Option R) : F31x1x50 N rc31x1 w0 w1 w6 w7 w17 w18 k0 = (G31x1x50 N rc31x1 w0 w1 w6 w7 w17 w18).bind k0 := by
 unfold G31x1x50 F31x1x50
 repeat' (first | with_reducible apply cond_b | (with_reducible apply bnd_b; intro _) | rfl)
def J31x1x50 (rc31x1 : Rc31x1) (L : List Lf) (k0 : Int × Int → Option R) : Option R := F31x1x50 N rc31x1 (li L 0) (li L 1) (lb L 6) (li L 7) (lb L 17) (ll L 18) k0
def sh31x1x50 : Sh := { tmps := [(1, .c (.i .i64)), (2, .c (.p 0 0)), (8, .c (.p 9 0)), (9, .c (.i .i64)), (10, .c (.sl 64)), (11, .c (.i .i64)), (12, .c (.i .i64)), (41, .c (.b))], mem := [(0, .box ([.i .i64])), (9, .box (.i .i64 :: .s :: .i .i64 :: .i .i64 :: .i .i64 :: [.b, .i .i64, .i .i64, .i .i64, .sl 64]))] }
def K31x1x50w0 (L : List Lf) (p : Int × Int) : Ex × St := (.normal, mg (ofSh sh31x1x50 L) [9, 12, 11, 10, 2, 1] [(9, .c (.i .i64 p.1))] [0] [(0, .box [.i .i64 p.2])])
def A31x1x50 (rc31x1 : Rc31x1) (L : List Lf) : List (Bool × (Ex × St)) := bnd (J31x1x50 N rc31x1 L (fun p => some p)) fun q => [(q.isSome, K31x1x50w0 L (q.getD default))]
theorem raw31x1x50 (rc31x1 : Rc31x1) (hR31x1 : OracleOk Tryz.prog ((O31x1 N) rc31x1)) (L : List Lf) : pc Tryz.prog ((O31x1 N) rc31x1) ((h31x1s1 N) rc31x1 hR31x1).h 1 100 31 50 sh31x1x50 L [9, 12, 11, 10, 2, 1] [0] = J31x1x50 N rc31x1 L (fun p => some (K31x1x50w0 L p)) := by kernel_rfl
def h31x1s2 (rc31x1 : Rc31x1) (hR31x1 : OracleOk Tryz.prog ((O31x1 N) rc31x1)) : Sg Tryz.prog 1 31 :=
 ((h31x1s1 N) rc31x1 hR31x1).cut ((A31x1x50 N) rc31x1) progOk hR31x1 fun L x hx => (raw31x1x50 N rc31x1 hR31x1 L).trans ((bind31x1x50 N rc31x1 ..).trans (alt1 x hx))
def F31x1x27044 (rc31x1 : Rc31x1) (w0 : Int) (w5 : Bool) (w6 : Int) (w8 : LB) (w9 w10 w11 : Int) (w12 : Bool) (w13 w14 w15 : Int) (w16 : Bool) (w17 : LD) (k0 : Int × Int → Option R) : Option R :=
 bif w5 then
  bnd (V58x0 N w8 w9 w10 w11 w12 w13 w14 w15 w17) fun y0 =>
  bnd (G31x1x50 N rc31x1 w0 y0 (y0 == 0) w6 w16 w17) fun y1 =>
  bif y1.isSome then
   k0 (y1.getD default)
  else
   none
 else
  k0 (7, w6)
def G31x1x27044 (rc31x1 : Rc31x1) (w0 : Int) (w5 : Bool) (w6 : Int) (w8 : LB) (w9 w10 w11 : Int) (w12 : Bool) (w13 w14 w15 : Int) (w16 : Bool) (w17 : LD) : Option (Int × Int) := F31x1x27044 N rc31x1 w0 w5 w6 w8 w9 w10 w11 w12 w13 w14 w15 w16 w17 (fun p => some p)
theorem bind31x1x27044 (rc31x1 : Rc31x1) (w0 : Int) (w5 : Bool) (w6 : Int) (w8 : LB) (w9 w10 w11 : Int) (w12 : Bool) (w13 w14 w15 : Int) (w16 : Bool) (w17 : LD) (k0 : Int × Int → Option R) : F31x1x27044 N rc31x1 w0 w5 w6 w8 w9 w10 w11 w12 w13 w14 w15 w16 w17 k0 = (G31x1x27044 N rc31x1 w0 w5 w6 w8 w9 w10 w11 w12 w13 w14 w15 w16 w17).bind k0 := by
 unfold G31x1x27044 F31x1x27044
 repeat' (first | with_reducible apply cond_b | (with_reducible apply bnd_b; intro _) | rfl)
def J31x1x27044 (rc31x1 : Rc31x1) (L : List Lf) (k0 : Int × Int → Option R) : Option R := F31x1x27044 N rc31x1 (li L 0) (lb L 5) (li L 6) (ls L 8) (li L 9) (li L 10) (li L 11) (lb L 12) (li L 13) (li L 14) (li L 15) (lb L 16) (ll L 17) k0
def sh31x1x27044 : Sh := { tmps := [(1, .c (.i .i64)), (2, .c (.p 0 0)), (8, .c (.p 9 0)), (10, .c (.sl 64)), (11, .c (.i .i64)), (12, .c (.i .i64)), (36, .c (.b))], mem := [(0, .box ([.i .i64])), (9, .box (.i .i64 :: .s :: .i .i64 :: .i .i64 :: .i .i64 :: [.b, .i .i64, .i .i64, .i .i64, .sl 64]))] }
def K31x1x27044w0 (L : List Lf) (p : Int × Int) : Ex × St := (.normal, mg (ofSh sh31x1x27044 L) [9, 12, 11, 10, 2, 1] [(9, .c (.i .i64 p.1))] [0] [(0, .box [.i .i64 p.2])])
def A31x1x27044 (rc31x1 : Rc31x1) (L : List Lf) : List (Bool × (Ex × St)) := bnd (J31x1x27044 N rc31x1 L (fun p => some p)) fun q => [(q.isSome, K31x1x27044w0 L (q.getD default))]
theorem raw31x1x27044 (rc31x1 : Rc31x1) (hR31x1 : OracleOk Tryz.prog ((O31x1 N) rc31x1)) (L : List Lf) : pc Tryz.prog ((O31x1 N) rc31x1) ((h31x1s2 N) rc31x1 hR31x1).h 1 100 31 27044 sh31x1x27044 L [9, 12, 11, 10, 2, 1] [0] = J31x1x27044 N rc31x1 L (fun p => some (K31x1x27044w0 L p)) := by kernel_rfl
def h31x1s3 (rc31x1 : Rc31x1) (hR31x1 : OracleOk Tryz.prog ((O31x1 N) rc31x1)) : Sg Tryz.prog 1 31 :=
 ((h31x1s2 N) rc31x1 hR31x1).cut ((A31x1x27044 N) rc31x1) progOk hR31x1 fun L x hx => (raw31x1x27044 N rc31x1 hR31x1 L).trans ((bind31x1x27044 N rc31x1 ..).trans (alt1 x hx))
def F31x1x39038 (rc31x1 : Rc31x1) (w0 w5 : Int) (w6 : Bool) (w7 w8 : Int) (w9 : LB) (w10 w11 w12 : Int) (w13 : Bool) (w14 w15 w16 : Int) (w17 : Bool) (w18 : LD) (k0 : Int × Int → Option R) : Option R :=
 bif w6 then
  bnd (G57x0 N w8 w9 w10 w11 w12 w13 w14 w15 w16 w18) fun y0 =>
  bif y0.isSome then
   k0 ((y0.getD default), w7)
  else
   none
 else
  bnd (G31x1x27044 N rc31x1 w0 (w5 == 3) w7 w9 w10 w11 w12 w13 w14 w15 w16 w17 w18) fun y1 =>
  bif y1.isSome then
   k0 (y1.getD default)
  else
   none
def G31x1x39038 (rc31x1 : Rc31x1) (w0 w5 : Int) (w6 : Bool) (w7 w8 : Int) (w9 : LB) (w10 w11 w12 : Int) (w13 : Bool) (w14 w15 w16 : Int) (w17 : Bool) (w18 : LD) : Option (Int × Int) := F31x1x39038 N rc31x1 w0 w5 w6 w7 w8 w9 w10 w11 w12 w13 w14 w15 w16 w17 w18 (fun p => some p)
theorem bind31x1x39038 (rc31x1 : Rc31x1) (w0 w5 : Int) (w6 : Bool) (w7 w8 : Int) (w9 : LB) (w10 w11 w12 : Int) (w13 : Bool) (w14 w15 w16 : Int) (w17 : Bool) (w18 : LD) (k0 : Int × Int → Option R) : F31x1x39038 N rc31x1 w0 w5 w6 w7 w8 w9 w10 w11 w12 w13 w14 w15 w16 w17 w18 k0 = (G31x1x39038 N rc31x1 w0 w5 w6 w7 w8 w9 w10 w11 w12 w13 w14 w15 w16 w17 w18).bind k0 := by
 unfold G31x1x39038 F31x1x39038
 repeat' (first | with_reducible apply cond_b | (with_reducible apply bnd_b; intro _) | rfl)
def J31x1x39038 (rc31x1 : Rc31x1) (L : List Lf) (k0 : Int × Int → Option R) : Option R := F31x1x39038 N rc31x1 (li L 0) (li L 5) (lb L 6) (li L 7) (li L 8) (ls L 9) (li L 10) (li L 11) (li L 12) (lb L 13) (li L 14) (li L 15) (li L 16) (lb L 17) (ll L 18) k0
def sh31x1x39038 : Sh := { tmps := [(1, .c (.i .i64)), (2, .c (.p 0 0)), (8, .c (.p 9 0)), (10, .c (.sl 64)), (11, .c (.i .i64)), (12, .c (.i .i64)), (30, .c (.i .i64)), (31, .c (.b))], mem := [(0, .box ([.i .i64])), (9, .box (.i .i64 :: .s :: .i .i64 :: .i .i64 :: .i .i64 :: [.b, .i .i64, .i .i64, .i .i64, .sl 64]))] }
def K31x1x39038w0 (L : List Lf) (p : Int × Int) : Ex × St := (.normal, mg (ofSh sh31x1x39038 L) [9, 12, 11, 10, 2, 1] [(9, .c (.i .i64 p.1))] [0] [(0, .box [.i .i64 p.2])])
def A31x1x39038 (rc31x1 : Rc31x1) (L : List Lf) : List (Bool × (Ex × St)) := bnd (J31x1x39038 N rc31x1 L (fun p => some p)) fun q => [(q.isSome, K31x1x39038w0 L (q.getD default))]
theorem raw31x1x39038 (rc31x1 : Rc31x1) (hR31x1 : OracleOk Tryz.prog ((O31x1 N) rc31x1)) (L : List Lf) : pc Tryz.prog ((O31x1 N) rc31x1) ((h31x1s3 N) rc31x1 hR31x1).h 1 100 31 39038 sh31x1x39038 L [9, 12, 11, 10, 2, 1] [0] = J31x1x39038 N rc31x1 L (fun p => some (K31x1x39038w0 L p)) := by kernel_rfl
def h31x1s4 (rc31x1 : Rc31x1) (hR31x1 : OracleOk Tryz.prog ((O31x1 N) rc31x1)) : Sg Tryz.prog 1 31 :=
 ((h31x1s3 N) rc31x1 hR31x1).cut ((A31x1x39038 N) rc31x1) progOk hR31x1 fun L x hx => (raw31x1x39038 N rc31x1 hR31x1 L).trans ((bind31x1x39038 N rc31x1 ..).trans (alt1 x hx))
def S31x1x6 (rc31x1 : Rc31x1) (w0 : Int) (w2 : LD) (w3 : Int) (w4 w5 : Int) (kr : Int → Int → Option R) (k0 : Int × Int → Option R) (k1 : Int → Option R) : Option R :=
 bif (decide (w4 < w3)) then
  bif (inB w4 w2.length) then
   bnd (bif (decide ((IntKind.wrap .i64 (w5 + 1)) > 200)) then true else (decide (w0 > 3))) fun y0 =>
   bif y0 then
    k0 (3, (IntKind.wrap .i64 (w5 + 1)))
   else
    bnd (V31x1x33002 N rc31x1 ((w2.getD w4.toNat (.i 0)).cell 0).toI (((w2.getD w4.toNat (.i 0)).cell 0).toI == 1)) fun y1 =>
    bnd (G31x1x39038 N rc31x1 w0 ((w2.getD w4.toNat (.i 0)).cell 0).toI y1 (IntKind.wrap .i64 (w5 + 1)) ((w2.getD w4.toNat (.i 0)).cell 0).toI ((w2.getD w4.toNat (.i 0)).cell 1).toS ((w2.getD w4.toNat (.i 0)).cell 2).toI ((w2.getD w4.toNat (.i 0)).cell 3).toI ((w2.getD w4.toNat (.i 0)).cell 4).toI ((w2.getD w4.toNat (.i 0)).cell 5).toB ((w2.getD w4.toNat (.i 0)).cell 6).toI ((w2.getD w4.toNat (.i 0)).cell 7).toI ((w2.getD w4.toNat (.i 0)).cell 8).toI ((w2.getD w4.toNat (.i 0)).cell 9).isNil ((w2.getD w4.toNat (.i 0)).cell 9).items) fun y2 =>
    bif y2.isSome then
     bif ((y2.getD default).1 != 0) then
      k0 (y2.getD default)
     else
      kr (IntKind.wrap .i64 (w4 + 1)) (y2.getD default).2
    else
     none
  else
   none
 else
  k1 w5
def L31x1x6 (N : Nat) (rc31x1 : Rc31x1) {R : Type} (w0 : Int) (w2 : LD) (w3 : Int) : Nat → Int → Int → (Int × Int → Option R) → (Int → Option R) → Option R
 | 0, _, _, _, _ => none
 | m + 1, w4, w5, k0, k1 => S31x1x6 N rc31x1 w0 w2 w3 w4 w5 (fun w4 w5 => L31x1x6 N rc31x1 w0 w2 w3 m w4 w5 k0 k1) k0 k1
def G31x1x6 (rc31x1 : Rc31x1) (w0 : Int) (w2 : LD) (w3 : Int) (w4 w5 : Int) : Option (Sum (Int × Int) (Int)) := L31x1x6 N rc31x1 (R := (Sum (Int × Int) (Int))) w0 w2 w3 N w4 w5 (fun p => some (.inl p)) (fun p => some (.inr p))
def J31x1x6 (rc31x1 : Rc31x1) (L x : List Lf) (kr : List Lf → Option R) (k0 : Int × Int → Option R) (k1 : Int → Option R) : Option R := S31x1x6 N rc31x1 (li L 0) (ll L 2) (li L 3) (li x 0) (li x 1) (fun w4 w5 => kr [.i w4, .i w5]) k0 k1
theorem sb31x1x6 (rc31x1 : Rc31x1) (L x : List Lf) (kr : List Lf → Option R) (k0 : Int × Int → Option R) (k1 : Int → Option R) : J31x1x6 N rc31x1 L x kr k0 k1 = (J31x1x6 N rc31x1 L x (fun y => some (.inl y)) (fun p => some (.inr (.inl p))) (fun p => some (.inr (.inr p)))).bind (sumE kr (sumE k0 k1)) := by
 unfold J31x1x6 S31x1x6
 repeat' (first | with_reducible apply cond_b | (with_reducible apply bnd_b; intro _) | rfl)
def Q31x1x6 (rc31x1 : Rc31x1) (L : List Lf) (m : Nat) (x : List Lf) : Option (Sum (Int × Int) (Int)) := L31x1x6 N rc31x1 (R := (Sum (Int × Int) (Int))) (li L 0) (ll L 2) (li L 3) m (li x 0) (li x 1) (fun p => some (.inl p)) (fun p => some (.inr p))
def sh31x1x6 : Sh := { tmps := [(1, .c (.i .i64)), (2, .c (.p 0 0)), (10, .c (.sl 64)), (11, .c (.i .i64)), (12, .c (.i .i64))], mem := [(0, .box ([.i .i64]))] }
def A31x1x6 (rc31x1 : Rc31x1) (L : List Lf) : List (Bool × (Ex × St)) := bnd (Q31x1x6 N rc31x1 L N (pk sh31x1x6 [4, 5] L)) fun q => [((inlB q), (.ret, ⟨[(6, .c (.i .i64 (inlV q).1))], [(0, .box [.i .i64 (inlV q).2])]⟩)), ((inrQ q).isSome, ((.exit 0), ⟨[], [(0, .box [.i .i64 ((inrQ q).getD default)])]⟩))]
theorem step31x1x6 (rc31x1 : Rc31x1) (hR31x1 : OracleOk Tryz.prog ((O31x1 N) rc31x1)) (m : Nat) (kn : St → Option (Ex × St)) (L x : List Lf) : lpB Tryz.prog ((O31x1 N) rc31x1) ((h31x1s4 N) rc31x1 hR31x1).h 1 31 6 sh31x1x6 [4, 5] [6] [0] (m + 100) kn L x = J31x1x6 N rc31x1 L x (fun y => kn (ofSh sh31x1x6 (mx sh31x1x6 [4, 5] L y))) (fun p => some (.ret, ⟨[(6, .c (.i .i64 p.1))], [(0, .box [.i .i64 p.2])]⟩)) (fun p => some ((.exit 0), ⟨[], [(0, .box [.i .i64 p])]⟩)) := by kernel_rfl
theorem ql31x1x6 (rc31x1 : Rc31x1) (L : List Lf) (m : Nat) (x : List Lf) : Q31x1x6 N rc31x1 L (m + 1) x = J31x1x6 N rc31x1 L x (Q31x1x6 N rc31x1 L m) (fun p => some (.inl p)) (fun p => some (.inr p)) := by kernel_rfl
def h31x1s5 (rc31x1 : Rc31x1) (hR31x1 : OracleOk Tryz.prog ((O31x1 N) rc31x1)) : Sg Tryz.prog 1 31 :=
 ((h31x1s4 N) rc31x1 hR31x1).lp ((A31x1x6 N) rc31x1) N progOk hR31x1 (fun m kn L x => (step31x1x6 N rc31x1 hR31x1 m kn L x).trans (sb31x1x6 N rc31x1 L x _ _ _)) (fun L m x => (ql31x1x6 N rc31x1 L m x).trans (sb31x1x6 N rc31x1 L x (Q31x1x6 N rc31x1 L m) (fun p => some (.inl p)) (fun p => some (.inr p)))) fun L x hx => (altS alt1) x hx
def F31x1 (rc31x1 : Rc31x1) (v0 : Bool) (v1 : LD) (v2 v3 : Int) (k0 : Int × Int → Option R) : Option R :=
 bnd (G31x1x6 N rc31x1 v2 v1 (v1.length : Int) 0 v3) fun y0 =>
 bif (inlB y0) then
  k0 (inlV y0)
 else
  bif (inrQ y0).isSome then
   k0 (0, ((inrQ y0).getD default))
  else
   none
def G31x1 (rc31x1 : Rc31x1) (v0 : Bool) (v1 : LD) (v2 v3 : Int) : Option (Int × Int) := F31x1 N rc31x1 v0 v1 v2 v3 (fun p => some p)
theorem bind31x1 (rc31x1 : Rc31x1) (v0 : Bool) (v1 : LD) (v2 v3 : Int) (k0 : Int × Int → Option R) : F31x1 N rc31x1 v0 v1 v2 v3 k0 = (G31x1 N rc31x1 v0 v1 v2 v3).bind k0 := by
 unfold G31x1 F31x1
 repeat' (first | with_reducible apply cond_b | (with_reducible apply bnd_b; intro _) | rfl)
def J31x1 (rc31x1 : Rc31x1) (L : List Lf) (k0 : Int × Int → Option R) : Option R := F31x1 N rc31x1 (lb L 0) (ll L 1) (li L 2) (li L 3) k0
theorem raw31x1 (rc31x1 : Rc31x1) (hR31x1 : OracleOk Tryz.prog ((O31x1 N) rc31x1)) (L : List Lf) : bd Tryz.prog ((O31x1 N) rc31x1) ((h31x1s5 N) rc31x1 hR31x1).h 31 sh31x1 L = J31x1 N rc31x1 L (fun p => some ([.c (.i .i64 p.1)], [(0, .box [.i .i64 p.2])])) := by kernel_rfl
theorem fin31x1 (rc31x1 : Rc31x1) (hR31x1 : OracleOk Tryz.prog ((O31x1 N) rc31x1)) (L : List Lf) (x : Res) (hx : altK ((B31x1 N) (fun v0 v1 v2 v3 => G31x1 N rc31x1 v0 v1 v2 v3) L) some = some x) : CallOk Tryz.prog 31 (valsOf (ofSh sh31x1 L).tmps) (ofSh sh31x1 L).mem x :=
 callOk_of (n := 200) progOk hR31x1 ((h31x1s5 N) rc31x1 hR31x1).ok rfl ((raw31x1 N rc31x1 hR31x1 L).trans ((bind31x1 N rc31x1 ..).trans (alt1 x hx)))
def R31x1 (N : Nat) : Nat → Rc31x1
 | 0 => fun _ _ _ _ => none
 | m + 1 => fun v0 v1 v2 v3 => G31x1 N (R31x1 N m) v0 v1 v2 v3
theorem Rok31x1 (N : Nat) : ∀ m, OracleOk Tryz.prog ((O31x1 N) (R31x1 N m))
 | 0 => ext_ok (T58x0_ok N) (AM.enters_of (by kernel_rfl)) (spSh_law fun L x hx => by
  have h : (none : Option Res) = some x := hx
  cases h)
 | m + 1 => ext_ok (T58x0_ok N) (AM.enters_of (by kernel_rfl)) (spSh_law fun L x hx => fin31x1 N (R31x1 N m) (Rok31x1 N m) L x hx)
def T31x1 : Oracle := (O31x1 N) (R31x1 N N)
theorem T31x1_ok : OracleOk Tryz.prog (T31x1 N) := Rok31x1 N N
abbrev Rc32x1 : Type := Bool → LD → Option (Int)
def sh32x1 : Sh := { tmps := [(0, .c (.sl 64))], mem := [] }
def B32x1 (N : Nat) (rc32x1 : Rc32x1) (L : List Lf) : List (Bool × Res) := bnd (rc32x1 (lb L 0) (ll L 1)) fun q => [(q.isSome, ([.c (.i .i64 (q.getD default))], []))]
def O32x1 (rc32x1 : Rc32x1) : Oracle := ext 32 (spSh sh32x1 ((B32x1 N) rc32x1)) (T31x1 N)
def rg32x1 : List (Nat × List Nat) := [(0, [0]), (1, [0]), (2, [0, 3]), (3, [8, 7, 6, 3]), (4, [6, 8, 3, 7]), (5, [5, 3, 8, 7, 6]), (7, [3, 8, 7, 6]), (6, [3, 5, 8, 7, 6]), (8, [8, 7, 6, 3]), (9, [3])]
def hd32x1 : Hints := [(9, [3, 6, 7, 8], [], []), (21020, [3, 5, 6, 7, 8, 14], [5], [])]
def h32x1s0 (rc32x1 : Rc32x1) (hR32x1 : OracleOk Tryz.prog ((O32x1 N) rc32x1)) : Sg Tryz.prog 0 32 := .start hd32x1 rg32x1
def F32x1x21020 (N : Nat) (rc32x1 : Rc32x1) (w0 : Int) (w5 : Bool) (w14 : Int) (w15 : Bool) (w16 : LD) (k0 : Int → Option R) : Option R :=
 bif w5 then
  bnd (rc32x1 w15 w16) fun y0 =>
  bif y0.isSome then
   bnd (IntKind.wrap .i64 (w0 + (IntKind.wrap .i64 (w14 * (y0.getD default))))) fun y1 =>
   k0 y1
  else
   none
 else
  k0 (IntKind.wrap .i64 (w0 + 1))
def G32x1x21020 (rc32x1 : Rc32x1) (w0 : Int) (w5 : Bool) (w14 : Int) (w15 : Bool) (w16 : LD) : Option (Int) := F32x1x21020 N rc32x1 w0 w5 w14 w15 w16 (fun p => some p)
theorem bind32x1x21020 (rc32x1 : Rc32x1) (w0 : Int) (w5 : Bool) (w14 : Int) (w15 : Bool) (w16 : LD) (k0 : Int → Option R) : F32x1x21020 N rc32x1 w0 w5 w14 w15 w16 k0 = (G32x1x21020 N rc32x1 w0 w5 w14 w15 w16).bind k0 := by
 unfold G32x1x21020 F32x1x21020
 repeat' (first | with_reducible apply cond_b | (with_reducible apply bnd_b; intro _) | rfl)
def J32x1x21020 (rc32x1 : Rc32x1) (L : List Lf) (k0 : Int → Option R) : Option R := F32x1x21020 N rc32x1 (li L 0) (lb L 5) (li L 14) (lb L 15) (ll L 16) k0
def sh32x1x21020 : Sh := { tmps := [(3, .c (.i .i64)), (5, .c (.p 5 0)), (6, .c (.sl 64)), (7, .c (.i .i64)), (8, .c (.i .i64)), (14, .c (.b))], mem := [(5, .box (.i .i64 :: .s :: .i .i64 :: .i .i64 :: .i .i64 :: [.b, .i .i64, .i .i64, .i .i64, .sl 64]))] }
def K32x1x21020w0 (L : List Lf) (p : Int) : Ex × St := (.normal, mg (ofSh sh32x1x21020 L) [8, 7, 6, 3] [(3, .c (.i .i64 p))] [] [])
def A32x1x21020 (rc32x1 : Rc32x1) (L : List Lf) : List (Bool × (Ex × St)) := bnd (J32x1x21020 N rc32x1 L (fun p => some p)) fun q => [(q.isSome, K32x1x21020w0 L (q.getD default))]
theorem raw32x1x21020 (rc32x1 : Rc32x1) (hR32x1 : OracleOk Tryz.prog ((O32x1 N) rc32x1)) (L : List Lf) : pc Tryz.prog ((O32x1 N) rc32x1) ((h32x1s0 N) rc32x1 hR32x1).h 0 100 32 21020 sh32x1x21020 L [8, 7, 6, 3] [] = J32x1x21020 N rc32x1 L (fun p => some (K32x1x21020w0 L p)) := by kernel_rfl
def h32x1s1 (rc32x1 : Rc32x1) (hR32x1 : OracleOk Tryz.prog ((O32x1 N) rc32x1)) : Sg Tryz.prog 0 32 :=
 ((h32x1s0 N) rc32x1 hR32x1).cut ((A32x1x21020 N) rc32x1) progOk hR32x1 fun L x hx => (raw32x1x21020 N rc32x1 hR32x1 L).trans ((bind32x1x21020 N rc32x1 ..).trans (alt1 x hx))
def S32x1x9 (rc32x1 : Rc32x1) (w2 : LD) (w3 : Int) (w0 w4 : Int) (kr : Int → Int → Option R) (k0 : Int → Option R) : Option R :=
 bif (decide (w4 < w3)) then
  bif (inB w4 w2.length) then
   bnd (G32x1x21020 N rc32x1 w0 (((w2.getD w4.toNat (.i 0)).cell 0).toI == 3) ((w2.getD w4.toNat (.i 0)).cell 8).toI ((w2.getD w4.toNat (.i 0)).cell 9).isNil ((w2.getD w4.toNat (.i 0)).cell 9).items) fun y0 =>
   bif y0.isSome then
    kr (y0.getD default) (IntKind.wrap .i64 (w4 + 1))
   else
    none
  else
   none
 else
  k0 w0
def L32x1x9 (N : Nat) (rc32x1 : Rc32x1) {R : Type} (w2 : LD) (w3 : Int) : Nat → Int → Int → (Int → Option R) → Option R
 | 0, _, _, _ => none
 | m + 1, w0, w4, k0 => S32x1x9 N rc32x1 w2 w3 w0 w4 (fun w0 w4 => L32x1x9 N rc32x1 w2 w3 m w0 w4 k0) k0
def G32x1x9 (rc32x1 : Rc32x1) (w2 : LD) (w3 : Int) (w0 w4 : Int) : Option (Int) := L32x1x9 N rc32x1 (R := (Int)) w2 w3 N w0 w4 (fun p => some p)
def J32x1x9 (rc32x1 : Rc32x1) (L x : List Lf) (kr : List Lf → Option R) (k0 : Int → Option R) : Option R := S32x1x9 N rc32x1 (ll L 2) (li L 3) (li x 0) (li x 1) (fun w0 w4 => kr [.i w0, .i w4]) k0
theorem sb32x1x9 (rc32x1 : Rc32x1) (L x : List Lf) (kr : List Lf → Option R) (k0 : Int → Option R) : J32x1x9 N rc32x1 L x kr k0 = (J32x1x9 N rc32x1 L x (fun y => some (.inl y)) (fun p => some (.inr p))).bind (sumE kr k0) := by
 unfold J32x1x9 S32x1x9
 repeat' (first | with_reducible apply cond_b | (with_reducible apply bnd_b; intro _) | rfl)
def Q32x1x9 (rc32x1 : Rc32x1) (L : List Lf) (m : Nat) (x : List Lf) : Option (Int) := L32x1x9 N rc32x1 (R := (Int)) (ll L 2) (li L 3) m (li x 0) (li x 1) (fun p => some p)
def sh32x1x9 : Sh := { tmps := [(3, .c (.i .i64)), (6, .c (.sl 64)), (7, .c (.i .i64)), (8, .c (.i .i64))], mem := [] }
def A32x1x9 (rc32x1 : Rc32x1) (L : List Lf) : List (Bool × (Ex × St)) := bnd (Q32x1x9 N rc32x1 L N (pk sh32x1x9 [0, 4] L)) fun q => [(q.isSome, ((.exit 0), ⟨[(3, .c (.i .i64 (q.getD default)))], []⟩))]
theorem step32x1x9 (rc32x1 : Rc32x1) (hR32x1 : OracleOk Tryz.prog ((O32x1 N) rc32x1)) (m : Nat) (kn : St → Option (Ex × St)) (L x : List Lf) : lpB Tryz.prog ((O32x1 N) rc32x1) ((h32x1s1 N) rc32x1 hR32x1).h 0 32 9 sh32x1x9 [0, 4] [2, 3] [] (m + 100) kn L x = J32x1x9 N rc32x1 L x (fun y => kn (ofSh sh32x1x9 (mx sh32x1x9 [0, 4] L y))) (fun p => some ((.exit 0), ⟨[(3, .c (.i .i64 p))], []⟩)) := by kernel_rfl
theorem ql32x1x9 (rc32x1 : Rc32x1) (L : List Lf) (m : Nat) (x : List Lf) : Q32x1x9 N rc32x1 L (m + 1) x = J32x1x9 N rc32x1 L x (Q32x1x9 N rc32x1 L m) some := by kernel_rfl
def h32x1s2 (rc32x1 : Rc32x1) (hR32x1 : OracleOk Tryz.prog ((O32x1 N) rc32x1)) : Sg Tryz.prog 0 32 :=
 ((h32x1s1 N) rc32x1 hR32x1).lp ((A32x1x9 N) rc32x1) N progOk hR32x1 (fun m kn L x => (step32x1x9 N rc32x1 hR32x1 m kn L x).trans (sb32x1x9 N rc32x1 L x _ _)) (fun L m x => (ql32x1x9 N rc32x1 L m x).trans (sb32x1x9 N rc32x1 L x (Q32x1x9 N rc32x1 L m) some)) fun L x hx => alt1 x hx
def F32x1 (rc32x1 : Rc32x1) (v0 : Bool) (v1 : LD) (k0 : Int → Option R) : Option R :=
 bnd (G32x1x9 N rc32x1 v1 (v1.length : Int) 0 0) fun y0 =>
 bif y0.isSome then
  k0 (y0.getD default)
 else
  none
def G32x1 (rc32x1 : Rc32x1) (v0 : Bool) (v1 : LD) : Option (Int) := F32x1 N rc32x1 v0 v1 (fun p => some p)
theorem bind32x1 (rc32x1 : Rc32x1) (v0 : Bool) (v1 : LD) (k0 : Int → Option R) : F32x1 N rc32x1 v0 v1 k0 = (G32x1 N rc32x1 v0 v1).bind k0 := by
 unfold G32x1 F32x1
 repeat' (first | with_reducible apply cond_b | (with_reducible apply bnd_b; intro _) | rfl)
theorem raw32x1 (rc32x1 : Rc32x1) (hR32x1 : OracleOk Tryz.prog ((O32x1 N) rc32x1)) (L : List Lf) : bd Tryz.prog ((O32x1 N) rc32x1) ((h32x1s2 N) rc32x1 hR32x1).h 32 sh32x1 L = F32x1 N rc32x1 (lb L 0) (ll L 1) (fun p => some ([.c (.i .i64 p)], [])) := by kernel_rfl
theorem fin32x1 (rc32x1 : Rc32x1) (hR32x1 : OracleOk Tryz.prog ((O32x1 N) rc32x1)) (L : List Lf) (x : Res) (hx : altK ((B32x1 N) (fun v0 v1 => G32x1 N rc32x1 v0 v1) L) some = some x) : CallOk Tryz.prog 32 (valsOf (ofSh sh32x1 L).tmps) (ofSh sh32x1 L).mem x :=
 callOk_of (n := 200) progOk hR32x1 ((h32x1s2 N) rc32x1 hR32x1).ok rfl ((raw32x1 N rc32x1 hR32x1 L).trans ((bind32x1 N rc32x1 ..).trans (alt1 x hx)))
def R32x1 (N : Nat) : Nat → Rc32x1
 | 0 => fun _ _ => none
 | m + 1 => fun v0 v1 => G32x1 N (R32x1 N m) v0 v1
theorem Rok32x1 (N : Nat) : ∀ m, OracleOk Tryz.prog ((O32x1 N) (R32x1 N m))
 | 0 => ext_ok (T31x1_ok N) (AM.enters_of (by kernel_rfl)) (spSh_law fun L x hx => by
  have h : (none : Option Res) = some x := hx
  cases h)
 | m + 1 => ext_ok (T31x1_ok N) (AM.enters_of (by kernel_rfl)) (spSh_law fun L x hx => fin32x1 N (R32x1 N m) (Rok32x1 N m) L x hx)
def T32x1 : Oracle := (O32x1 N) (R32x1 N N)
theorem T32x1_ok : OracleOk Tryz.prog (T32x1 N) := Rok32x1 N N
def rg10x0 : List (Nat × List Nat) := [(0, [0]), (1, [1]), (3, [1]), (4, []), (2, []), (5, [1]), (6, [1, 3]), (7, [4, 1]), (8, [4]), (9, [1]), (10, []), (11, [])]
def hd10x0 : Hints := []
def h10x0s0 (N : Nat) : Sg Tryz.prog 0 10 := .start hd10x0 rg10x0
def F10x0 (v0 : LB) (v1 : Bool) (v2 : LD) (k0 : Int → Option R) : Option R :=
 bnd (G30x0 N v0) fun y0 =>
 bif y0.isSome then
  bif (!(y0.getD default)) then
   k0 8
  else
   bif ((v2.length : Int) == 0) then
    k0 13
   else
    bnd (R31x1 N N v1 v2 0 0) fun y1 =>
    bif y1.isSome then
     bif ((y1.getD default).1 != 0) then
      k0 (y1.getD default).1
     else
      bnd (R32x1 N N v1 v2) fun y2 =>
      bif y2.isSome then
       bif (decide ((y2.getD default) > 1000)) then
        k0 3
       else
        k0 0
      else
       none
    else
     none
 else
  none
def G10x0 (v0 : LB) (v1 : Bool) (v2 : LD) : Option (Int) := F10x0 N v0 v1 v2 (fun p => some p)
theorem bind10x0 (v0 : LB) (v1 : Bool) (v2 : LD) (k0 : Int → Option R) : F10x0 N v0 v1 v2 k0 = (G10x0 N v0 v1 v2).bind k0 := by
 unfold G10x0 F10x0
 repeat' (first | with_reducible apply cond_b | (with_reducible apply bnd_b; intro _) | rfl)
def sh10x0 : Sh := { tmps := [(0, .g ([.s, .sl 64]))], mem := [] }
def A10x0 (L : List Lf) : List (Bool × Res) := bnd (F10x0 N (ls L 0) (lb L 1) (ll L 2) (fun p => some p)) fun q => [(q.isSome, ([.c (.i .i64 (q.getD default))], []))]
theorem raw10x0 (L : List Lf) : bd Tryz.prog (T32x1 N) (h10x0s0 N).h 10 sh10x0 L = F10x0 N (ls L 0) (lb L 1) (ll L 2) (fun p => some ([.c (.i .i64 p)], [])) := by kernel_rfl
theorem ok10x0 : FnOk Tryz.prog 10 sh10x0 (A10x0 N) :=
 (h10x0s0 N).fn progOk (T32x1_ok N) fun L x hx => ((raw10x0 N L).trans ((bind10x0 N ..).trans (alt1 x hx)))
def T10x0 : Oracle := ext 10 (spSh sh10x0 (A10x0 N)) (T32x1 N)
theorem T10x0_ok : OracleOk Tryz.prog (T10x0 N) := FnOk.to (ok10x0 N) (T32x1_ok N)
def rg19x0 : List (Nat × List Nat) := [(0, [0]), (1, [1]), (2, []), (3, [])]
def hd19x0 : Hints := [(4, [1], [1], [])]
def h19x0s0 (N : Nat) : Sg Tryz.prog 0 19 := .start hd19x0 rg19x0
def F19x0x4 (w0 w1 w2 : Int) (k0 : Bool → R) : R :=
 bnd (V48x0 N w0 1 3000) fun y0 =>
 bif (!y0) then
  k0 true
 else
  bnd (V48x0 N w1 1 300) fun y1 =>
  bif (!y1) then
   k0 true
  else
   bnd (V48x0 N w2 1 36000) fun y2 =>
   k0 (!y2)
def V19x0x4 (w0 w1 w2 : Int) : Bool := F19x0x4 N w0 w1 w2 (fun p => p)
theorem tot19x0x4 (w0 w1 w2 : Int) (k0 : Bool → R) : F19x0x4 N w0 w1 w2 k0 = k0 (V19x0x4 N w0 w1 w2) := by
 unfold V19x0x4 F19x0x4
 repeat' (first | rfl | apply cond_k | (apply bnd_k; intro _))
def sh19x0x4 : Sh := { tmps := [(1, .c (.p 1 0))], mem := [(1, .box ([.i .i64, .i .i64, .i .i64]))] }
def A19x0x4 (L : List Lf) : List (Bool × (Ex × St)) := bnd (F19x0x4 N (li L 0) (li L 1) (li L 2) (fun p => p)) fun q => [(true, (.normal, ⟨[(18, .c (.b q))], []⟩))]
theorem raw19x0x4 (L : List Lf) : pc Tryz.prog (T10x0 N) (h19x0s0 N).h 0 100 19 4 sh19x0x4 L [18] [] = F19x0x4 N (li L 0) (li L 1) (li L 2) (fun p => some (.normal, ⟨[(18, .c (.b p))], []⟩)) := by kernel_rfl
def h19x0s1 : Sg Tryz.prog 0 19 :=
 (h19x0s0 N).cut (A19x0x4 N) progOk (T10x0_ok N) fun L x hx => (raw19x0x4 N L).trans ((tot19x0x4 N ..).trans (alt0 _ _ hx))
def F19x0 (v0 v1 v2 : Int) (k0 : Int → R) : R :=
 bnd (V19x0x4 N v0 v1 v2) fun y0 =>
 bif y0 then
  k0 9
 else
  k0 0
def V19x0 (v0 v1 v2 : Int) : Int := F19x0 N v0 v1 v2 (fun p => p)
theorem tot19x0 (v0 v1 v2 : Int) (k0 : Int → R) : F19x0 N v0 v1 v2 k0 = k0 (V19x0 N v0 v1 v2) := by
 unfold V19x0 F19x0
 repeat' (first | rfl | apply cond_k | (apply bnd_k; intro _))
def sh19x0 : Sh := { tmps := [(0, .g ([.i .i64, .i .i64, .i .i64]))], mem := [] }
def A19x0 (L : List Lf) : List (Bool × Res) := bnd (F19x0 N (li L 0) (li L 1) (li L 2) (fun p => p)) fun q => [(true, ([.c (.i .i64 q)], []))]
theorem raw19x0 (L : List Lf) : bd Tryz.prog (T10x0 N) (h19x0s1 N).h 19 sh19x0 L = F19x0 N (li L 0) (li L 1) (li L 2) (fun p => some ([.c (.i .i64 p)], [])) := by kernel_rfl
theorem ok19x0 : FnOk Tryz.prog 19 sh19x0 (A19x0 N) :=
 (h19x0s1 N).fn progOk (T10x0_ok N) fun L x hx => ((raw19x0 N L).trans ((tot19x0 N ..).trans (alt0 _ _ hx)))
def T19x0 : Oracle := ext 19 (spSh sh19x0 (A19x0 N)) (T10x0 N)
theorem T19x0_ok : OracleOk Tryz.prog (T19x0 N) := FnOk.to (ok19x0 N) (T10x0_ok N)
def rg39x0 : List (Nat × List Nat) := [(0, [0]), (1, [0]), (2, [0, 3]), (3, [8, 7, 6, 3]), (4, [6, 8, 3, 7]), (5, [5, 3, 8, 7, 6]), (6, [5]), (7, [8, 7, 6, 3]), (8, [3])]
def hd39x0 : Hints := [(9, [3, 6, 7, 8], [], [])]
def h39x0s0 (N : Nat) : Sg Tryz.prog 0 39 := .start hd39x0 rg39x0
def S39x0x9 (N : Nat) (w0 : Int) (w2 : LD) (w3 : Int) (w4 : Int) (kr : Int → Option R) (k0 : Int → Option R) (k1 : Unit → Option R) : Option R :=
 bif (decide (w4 < w3)) then
  bif (inB w4 w2.length) then
   bif ((w2.getD w4.toNat (.i 0)).toI != w0) then
    k0 (w2.getD w4.toNat (.i 0)).toI
   else
    kr (IntKind.wrap .i64 (w4 + 1))
  else
   none
 else
  k1 ()
def L39x0x9 (N : Nat) {R : Type} (w0 : Int) (w2 : LD) (w3 : Int) : Nat → Int → (Int → Option R) → (Unit → Option R) → Option R
 | 0, _, _, _ => none
 | m + 1, w4, k0, k1 => S39x0x9 N w0 w2 w3 w4 (fun w4 => L39x0x9 N w0 w2 w3 m w4 k0 k1) k0 k1
def G39x0x9 (w0 : Int) (w2 : LD) (w3 : Int) (w4 : Int) : Option (Sum (Int) (Unit)) := L39x0x9 N (R := (Sum (Int) (Unit))) w0 w2 w3 N w4 (fun p => some (.inl p)) (fun p => some (.inr p))
def J39x0x9 (L x : List Lf) (kr : List Lf → Option R) (k0 : Int → Option R) (k1 : Unit → Option R) : Option R := S39x0x9 N (li L 0) (ll L 2) (li L 3) (li x 0) (fun w4 => kr [.i w4]) k0 k1
theorem sb39x0x9 (L x : List Lf) (kr : List Lf → Option R) (k0 : Int → Option R) (k1 : Unit → Option R) : J39x0x9 N L x kr k0 k1 = (J39x0x9 N L x (fun y => some (.inl y)) (fun p => some (.inr (.inl p))) (fun p => some (.inr (.inr p)))).bind (sumE kr (sumE k0 k1)) := by
 unfold J39x0x9 S39x0x9
 repeat' (first | with_reducible apply cond_b | (with_reducible apply bnd_b; intro _) | rfl)
def Q39x0x9 (L : List Lf) (m : Nat) (x : List Lf) : Option (Sum (Int) (Unit)) := L39x0x9 N (R := (Sum (Int) (Unit))) (li L 0) (ll L 2) (li L 3) m (li x 0) (fun p => some (.inl p)) (fun p => some (.inr p))
def sh39x0x9 : Sh := { tmps := [(3, .c (.i .i64)), (6, .c (.sl 25)), (7, .c (.i .i64)), (8, .c (.i .i64))], mem := [] }
def A39x0x9 (L : List Lf) : List (Bool × (Ex × St)) := bnd (Q39x0x9 N L N (pk sh39x0x9 [4] L)) fun q => [((inlB q), (.ret, ⟨[(2, .c (.i .i64 (inlV q)))], []⟩)), ((inrQ q).isSome, ((.exit 0), mg (ofSh sh39x0x9 L) [3] [] [] []))]
theorem step39x0x9 (m : Nat) (kn : St → Option (Ex × St)) (L x : List Lf) : lpB Tryz.prog (T19x0 N) (h39x0s0 N).h 0 39 9 sh39x0x9 [4] [2, 3] [] (m + 100) kn L x = J39x0x9 N L x (fun y => kn (ofSh sh39x0x9 (mx sh39x0x9 [4] L y))) (fun p => some (.ret, ⟨[(2, .c (.i .i64 p))], []⟩)) (fun _ => some ((.exit 0), mg (ofSh sh39x0x9 L) [3] [] [] [])) := by kernel_rfl
theorem ql39x0x9 (L : List Lf) (m : Nat) (x : List Lf) : Q39x0x9 N L (m + 1) x = J39x0x9 N L x (Q39x0x9 N L m) (fun p => some (.inl p)) (fun p => some (.inr p)) := by kernel_rfl
def h39x0s1 : Sg Tryz.prog 0 39 :=
 (h39x0s0 N).lp (A39x0x9 N) N progOk (T19x0_ok N) (fun m kn L x => (step39x0x9 N m kn L x).trans (sb39x0x9 N L x _ _ _)) (fun L m x => (ql39x0x9 N L m x).trans (sb39x0x9 N L x (Q39x0x9 N L m) (fun p => some (.inl p)) (fun p => some (.inr p)))) fun L x hx => (altS alt1) x hx
def F39x0 (v1 : LD) (k0 : Int → Option R) : Option R :=
 bnd (G39x0x9 N 0 v1 (v1.length : Int) 0) fun y0 =>
 bif (inlB y0) then
  k0 (inlV y0)
 else
  bif (inrQ y0).isSome then
   k0 0
  else
   none
def G39x0 (v1 : LD) : Option (Int) := F39x0 N v1 (fun p => some p)
theorem bind39x0 (v1 : LD) (k0 : Int → Option R) : F39x0 N v1 k0 = (G39x0 N v1).bind k0 := by
 unfold G39x0 F39x0
 repeat' (first | with_reducible apply cond_b | (with_reducible apply bnd_b; intro _) | rfl)
def sh39x0 : Sh := { tmps := [(0, .c (.sl 25))], mem := [] }
def A39x0 (L : List Lf) : List (Bool × Res) := bnd (F39x0 N (ll L 1) (fun p => some p)) fun q => [(q.isSome, ([.c (.i .i64 (q.getD default))], []))]
theorem raw39x0 (L : List Lf) : bd Tryz.prog (T19x0 N) (h39x0s1 N).h 39 sh39x0 L = F39x0 N (ll L 1) (fun p => some ([.c (.i .i64 p)], [])) := by kernel_rfl
theorem ok39x0 : FnOk Tryz.prog 39 sh39x0 (A39x0 N) :=
 (h39x0s1 N).fn progOk (T19x0_ok N) fun L x hx => ((raw39x0 N L).trans ((bind39x0 N ..).trans (alt1 x hx)))
def T39x0 : Oracle := ext 39 (spSh sh39x0 (A39x0 N)) (T19x0 N)
theorem T39x0_ok : OracleOk Tryz.prog (T39x0 N) := FnOk.to (ok39x0 N) (T19x0_ok N)
abbrev Rc40x1 : Type := Bool → LD → Option (Bool × LD)
def sh40x1 : Sh := { tmps := [(0, .c (.sl 64))], mem := [] }
def B40x1 (N : Nat) (rc40x1 : Rc40x1) (L : List Lf) : List (Bool × Res) := bnd (rc40x1 (lb L 0) (ll L 1)) fun q => [(q.isSome, ([.c (.sl 64 (q.getD default).1 (q.getD default).2)], []))]
def O40x1 (rc40x1 : Rc40x1) : Oracle := ext 40 (spSh sh40x1 ((B40x1 N) rc40x1)) (T39x0 N)
def rg40x1 : List (Nat × List Nat) := [(0, [0]), (1, [0]), (2, [0, 3]), (3, [9, 8, 7, 3]), (4, [7, 9, 3, 8]), (5, [5, 3, 9, 8, 7]), (6, [3, 5, 9, 8, 7]), (7, [5, 3, 9, 8, 7]), (8, [5, 3, 6, 9, 8, 7]), (9, [25, 24, 3, 6, 9, 8, 7]), (10, [3, 6, 25, 24, 9, 8, 7]), (11, [25, 24, 3, 6, 9, 8, 7]), (12, [9, 8, 7, 3]), (13, [3])]
def hd40x1 : Hints := [(9, [3, 7, 8, 9], [3], [3]), (27, [3, 6, 7, 8, 9, 24, 25], [3], [3])]
def h40x1s0 (rc40x1 : Rc40x1) (hR40x1 : OracleOk Tryz.prog ((O40x1 N) rc40x1)) : Sg Tryz.prog 0 40 := .start hd40x1 rg40x1
def S40x1x27 (N : Nat) (rc40x1 : Rc40x1) (w1 : LD) (w6 : Int) (w7 : Int) (w8 : Bool) (w9 : LD) (kr : Int → Bool → LD → Option R) (k0 : Bool × LD → Option R) : Option R :=
 bif (decide (w7 < w6)) then
  bif (decide ((w9.length + w1.length) * 104 ≤ room) && decide ((w9.length + w1.length) ≤ strMax)) then
   kr (IntKind.wrap .i64 (w7 + 1)) (w1.isEmpty && w8) (w9 ++ w1)
  else
   none
 else
  k0 (w8, w9)
def L40x1x27 (N : Nat) (rc40x1 : Rc40x1) {R : Type} (w1 : LD) (w6 : Int) : Nat → Int → Bool → LD → (Bool × LD → Option R) → Option R
 | 0, _, _, _, _ => none
 | m + 1, w7, w8, w9, k0 => S40x1x27 N rc40x1 w1 w6 w7 w8 w9 (fun w7 w8 w9 => L40x1x27 N rc40x1 w1 w6 m w7 w8 w9 k0) k0
def G40x1x27 (rc40x1 : Rc40x1) (w1 : LD) (w6 : Int) (w7 : Int) (w8 : Bool) (w9 : LD) : Option (Bool × LD) := L40x1x27 N rc40x1 (R := (Bool × LD)) w1 w6 N w7 w8 w9 (fun p => some p)
def J40x1x27 (rc40x1 : Rc40x1) (L x : List Lf) (kr : List Lf → Option R) (k0 : Bool × LD → Option R) : Option R := S40x1x27 N rc40x1 (ll L 1) (li L 6) (li x 0) (lb x 1) (ll x 2) (fun w7 w8 w9 => kr [.i w7, .b w8, .l w9]) k0
theorem sb40x1x27 (rc40x1 : Rc40x1) (L x : List Lf) (kr : List Lf → Option R) (k0 : Bool × LD → Option R) : J40x1x27 N rc40x1 L x kr k0 = (J40x1x27 N rc40x1 L x (fun y => some (.inl y)) (fun p => some (.inr p))).bind (sumE kr k0) := by
 unfold J40x1x27 S40x1x27
 repeat' (first | with_reducible apply cond_b | (with_reducible apply bnd_b; intro _) | rfl)
def Q40x1x27 (rc40x1 : Rc40x1) (L : List Lf) (m : Nat) (x : List Lf) : Option (Bool × LD) := L40x1x27 N rc40x1 (R := (Bool × LD)) (ll L 1) (li L 6) m (li x 0) (lb x 1) (ll x 2) (fun p => some p)
def sh40x1x27 : Sh := { tmps := [(3, .c (.o 3)), (6, .c (.sl 64)), (7, .c (.sl 64)), (8, .c (.i .i64)), (9, .c (.i .i64)), (24, .c (.i .i64)), (25, .c (.i .i64))], mem := [(3, .row 64 true)] }
def K40x1x27w0 (L : List Lf) (p : Bool × LD) : Ex × St := ((.exit 2), mg (ofSh sh40x1x27 L) [9, 8, 7, 3] [] [3] [(3, .row 64 true p.1 p.2)])
def A40x1x27 (rc40x1 : Rc40x1) (L : List Lf) : List (Bool × (Ex × St)) := bnd (Q40x1x27 N rc40x1 L N (pk sh40x1x27 [7, 8, 9] L)) fun q => [(q.isSome, K40x1x27w0 L (q.getD default))]
theorem step40x1x27 (rc40x1 : Rc40x1) (hR40x1 : OracleOk Tryz.prog ((O40x1 N) rc40x1)) (m : Nat) (kn : St → Option (Ex × St)) (L x : List Lf) : lpB Tryz.prog ((O40x1 N) rc40x1) ((h40x1s0 N) rc40x1 hR40x1).h 0 40 27 sh40x1x27 [7, 8, 9] [2, 9, 8, 7, 3] [3] (m + 100) kn L x = J40x1x27 N rc40x1 L x (fun y => kn (ofSh sh40x1x27 (mx sh40x1x27 [7, 8, 9] L y))) (fun p => some (K40x1x27w0 L p)) := by kernel_rfl
theorem ql40x1x27 (rc40x1 : Rc40x1) (L : List Lf) (m : Nat) (x : List Lf) : Q40x1x27 N rc40x1 L (m + 1) x = J40x1x27 N rc40x1 L x (Q40x1x27 N rc40x1 L m) some := by kernel_rfl
def h40x1s1 (rc40x1 : Rc40x1) (hR40x1 : OracleOk Tryz.prog ((O40x1 N) rc40x1)) : Sg Tryz.prog 0 40 :=
 ((h40x1s0 N) rc40x1 hR40x1).lp ((A40x1x27 N) rc40x1) N progOk hR40x1 (fun m kn L x => (step40x1x27 N rc40x1 hR40x1 m kn L x).trans (sb40x1x27 N rc40x1 L x _ _)) (fun L m x => (ql40x1x27 N rc40x1 L m x).trans (sb40x1x27 N rc40x1 L x (Q40x1x27 N rc40x1 L m) some)) fun L x hx => alt1 x hx
def S40x1x9 (rc40x1 : Rc40x1) (w1 : LD) (w2 : Int) (w3 : Int) (w4 : Bool) (w5 : LD) (kr : Int → Bool → LD → Option R) (k0 : Bool × LD → Option R) : Option R :=
 bif (decide (w3 < w2)) then
  bif (inB w3 w1.length) then
   bif (((w1.getD w3.toNat (.i 0)).cell 0).toI != 3) then
    bif (decide ((w5.length + 1) * 104 ≤ room) && decide ((w5.length + 1) ≤ strMax)) then
     bnd ((w5 ++ [(.a [(.i ((w1.getD w3.toNat (.i 0)).cell 0).toI), (.s ((w1.getD w3.toNat (.i 0)).cell 1).toS), (.i ((w1.getD w3.toNat (.i 0)).cell 2).toI), (.i ((w1.getD w3.toNat (.i 0)).cell 3).toI), (.i ((w1.getD w3.toNat (.i 0)).cell 4).toI), (.b ((w1.getD w3.toNat (.i 0)).cell 5).toB), (.i ((w1.getD w3.toNat (.i 0)).cell 6).toI), (.i ((w1.getD w3.toNat (.i 0)).cell 7).toI), (.i ((w1.getD w3.toNat (.i 0)).cell 8).toI), (.l ((w1.getD w3.toNat (.i 0)).cell 9).isNil ((w1.getD w3.toNat (.i 0)).cell 9).items)])]) : List D) fun y0 =>
     kr (IntKind.wrap .i64 (w3 + 1)) false y0
    else
     none
   else
    bnd (rc40x1 ((w1.getD w3.toNat (.i 0)).cell 9).isNil ((w1.getD w3.toNat (.i 0)).cell 9).items) fun y1 =>
    bif y1.isSome then
     bnd (G40x1x27 N rc40x1 (y1.getD default).2 ((w1.getD w3.toNat (.i 0)).cell 8).toI 0 w4 w5) fun y2 =>
     bif y2.isSome then
      kr (IntKind.wrap .i64 (w3 + 1)) (y2.getD default).1 (y2.getD default).2
     else
      none
    else
     none
  else
   none
 else
  k0 (w4, w5)
def L40x1x9 (N : Nat) (rc40x1 : Rc40x1) {R : Type} (w1 : LD) (w2 : Int) : Nat → Int → Bool → LD → (Bool × LD → Option R) → Option R
 | 0, _, _, _, _ => none
 | m + 1, w3, w4, w5, k0 => S40x1x9 N rc40x1 w1 w2 w3 w4 w5 (fun w3 w4 w5 => L40x1x9 N rc40x1 w1 w2 m w3 w4 w5 k0) k0
def G40x1x9 (rc40x1 : Rc40x1) (w1 : LD) (w2 : Int) (w3 : Int) (w4 : Bool) (w5 : LD) : Option (Bool × LD) := L40x1x9 N rc40x1 (R := (Bool × LD)) w1 w2 N w3 w4 w5 (fun p => some p)
def J40x1x9 (rc40x1 : Rc40x1) (L x : List Lf) (kr : List Lf → Option R) (k0 : Bool × LD → Option R) : Option R := S40x1x9 N rc40x1 (ll L 1) (li L 2) (li x 0) (lb x 1) (ll x 2) (fun w3 w4 w5 => kr [.i w3, .b w4, .l w5]) k0
theorem sb40x1x9 (rc40x1 : Rc40x1) (L x : List Lf) (kr : List Lf → Option R) (k0 : Bool × LD → Option R) : J40x1x9 N rc40x1 L x kr k0 = (J40x1x9 N rc40x1 L x (fun y => some (.inl y)) (fun p => some (.inr p))).bind (sumE kr k0) := by
 unfold J40x1x9 S40x1x9
 repeat' (first | with_reducible apply cond_b | (with_reducible apply bnd_b; intro _) | rfl)
def Q40x1x9 (rc40x1 : Rc40x1) (L : List Lf) (m : Nat) (x : List Lf) : Option (Bool × LD) := L40x1x9 N rc40x1 (R := (Bool × LD)) (ll L 1) (li L 2) m (li x 0) (lb x 1) (ll x 2) (fun p => some p)
def sh40x1x9 : Sh := { tmps := [(3, .c (.o 3)), (7, .c (.sl 64)), (8, .c (.i .i64)), (9, .c (.i .i64))], mem := [(3, .row 64 true)] }
def A40x1x9 (rc40x1 : Rc40x1) (L : List Lf) : List (Bool × (Ex × St)) := bnd (Q40x1x9 N rc40x1 L N (pk sh40x1x9 [3, 4, 5] L)) fun q => [(q.isSome, ((.exit 0), ⟨[(3, .c (.o 3))], [(3, .row 64 true (q.getD default).1 (q.getD default).2)]⟩))]
theorem step40x1x9 (rc40x1 : Rc40x1) (hR40x1 : OracleOk Tryz.prog ((O40x1 N) rc40x1)) (m : Nat) (kn : St → Option (Ex × St)) (L x : List Lf) : lpB Tryz.prog ((O40x1 N) rc40x1) ((h40x1s1 N) rc40x1 hR40x1).h 0 40 9 sh40x1x9 [3, 4, 5] [2, 3] [3] (m + 100) kn L x = J40x1x9 N rc40x1 L x (fun y => kn (ofSh sh40x1x9 (mx sh40x1x9 [3, 4, 5] L y))) (fun p => some ((.exit 0), ⟨[(3, .c (.o 3))], [(3, .row 64 true p.1 p.2)]⟩)) := by kernel_rfl
theorem ql40x1x9 (rc40x1 : Rc40x1) (L : List Lf) (m : Nat) (x : List Lf) : Q40x1x9 N rc40x1 L (m + 1) x = J40x1x9 N rc40x1 L x (Q40x1x9 N rc40x1 L m) some := by kernel_rfl
def h40x1s2 (rc40x1 : Rc40x1) (hR40x1 : OracleOk Tryz.prog ((O40x1 N) rc40x1)) : Sg Tryz.prog 0 40 :=
 ((h40x1s1 N) rc40x1 hR40x1).lp ((A40x1x9 N) rc40x1) N progOk hR40x1 (fun m kn L x => (step40x1x9 N rc40x1 hR40x1 m kn L x).trans (sb40x1x9 N rc40x1 L x _ _)) (fun L m x => (ql40x1x9 N rc40x1 L m x).trans (sb40x1x9 N rc40x1 L x (Q40x1x9 N rc40x1 L m) some)) fun L x hx => alt1 x hx
def F40x1 (rc40x1 : Rc40x1) (v0 : Bool) (v1 : LD) (k0 : Bool × LD → Option R) : Option R :=
 bnd (G40x1x9 N rc40x1 v1 (v1.length : Int) 0 true []) fun y0 =>
 bif y0.isSome then
  k0 (y0.getD default)
 else
  none
def G40x1 (rc40x1 : Rc40x1) (v0 : Bool) (v1 : LD) : Option (Bool × LD) := F40x1 N rc40x1 v0 v1 (fun p => some p)
theorem bind40x1 (rc40x1 : Rc40x1) (v0 : Bool) (v1 : LD) (k0 : Bool × LD → Option R) : F40x1 N rc40x1 v0 v1 k0 = (G40x1 N rc40x1 v0 v1).bind k0 := by
 unfold G40x1 F40x1
 repeat' (first | with_reducible apply cond_b | (with_reducible apply bnd_b; intro _) | rfl)
theorem raw40x1 (rc40x1 : Rc40x1) (hR40x1 : OracleOk Tryz.prog ((O40x1 N) rc40x1)) (L : List Lf) : bd Tryz.prog ((O40x1 N) rc40x1) ((h40x1s2 N) rc40x1 hR40x1).h 40 sh40x1 L = F40x1 N rc40x1 (lb L 0) (ll L 1) (fun p => some ([.c (.sl 64 p.1 p.2)], [])) := by kernel_rfl
theorem fin40x1 (rc40x1 : Rc40x1) (hR40x1 : OracleOk Tryz.prog ((O40x1 N) rc40x1)) (L : List Lf) (x : Res) (hx : altK ((B40x1 N) (fun v0 v1 => G40x1 N rc40x1 v0 v1) L) some = some x) : CallOk Tryz.prog 40 (valsOf (ofSh sh40x1 L).tmps) (ofSh sh40x1 L).mem x :=
 callOk_of (n := 200) progOk hR40x1 ((h40x1s2 N) rc40x1 hR40x1).ok rfl ((raw40x1 N rc40x1 hR40x1 L).trans ((bind40x1 N rc40x1 ..).trans (alt1 x hx)))
def R40x1 (N : Nat) : Nat → Rc40x1
 | 0 => fun _ _ => none
 | m + 1 => fun v0 v1 => G40x1 N (R40x1 N m) v0 v1
theorem Rok40x1 (N : Nat) : ∀ m, OracleOk Tryz.prog ((O40x1 N) (R40x1 N m))
 | 0 => ext_ok (T39x0_ok N) (AM.enters_of (by kernel_rfl)) (spSh_law fun L x hx => by
  have h : (none : Option Res) = some x := hx
  cases h)
 | m + 1 => ext_ok (T39x0_ok N) (AM.enters_of (by kernel_rfl)) (spSh_law fun L x hx => fin40x1 N (R40x1 N m) (Rok40x1 N m) L x hx)
def T40x1 : Oracle := (O40x1 N) (R40x1 N N)
theorem T40x1_ok : OracleOk Tryz.prog (T40x1 N) := Rok40x1 N N
def rg69x0 : List (Nat × List Nat) := [(0, []), (1, [])]
def hd69x0 : Hints := []
def h69x0s0 (N : Nat) : Sg Tryz.prog 0 69 := .start hd69x0 rg69x0
def F69x0 (N : Nat) (k0 : Unit → R) : R :=
 k0 ()
def V69x0 : Unit := F69x0 N (fun p => p)
theorem tot69x0 (k0 : Unit → R) : F69x0 N k0 = k0 (V69x0 N) := by
 unfold V69x0 F69x0
 repeat' (first | rfl | apply cond_k | (apply bnd_k; intro _))
def sh69x0 : Sh := { tmps := [], mem := [] }
def K69x0w0 (L : List Lf) (_ : Unit) : Res := ([.c (.sl 93 false [(.a [(.i 1), (.i 90)]), (.a [(.i 2), (.i 91)]), (.a [(.i 3), (.i 92)]), (.a [(.i 4), (.i 93)]), (.a [(.i 5), (.i 94)])])], [])
def A69x0 (N : Nat) (L : List Lf) : List (Bool × Res) := [(true, K69x0w0 L ())]
theorem raw69x0 (L : List Lf) : bd Tryz.prog (T40x1 N) (h69x0s0 N).h 69 sh69x0 L = F69x0 N (fun _ => some (K69x0w0 L ())) := by kernel_rfl
theorem ok69x0 : FnOk Tryz.prog 69 sh69x0 (A69x0 N) :=
 (h69x0s0 N).fn progOk (T40x1_ok N) fun L x hx => ((raw69x0 N L).trans ((tot69x0 N ..).trans (alt0 _ _ hx)))
def T69x0 : Oracle := ext 69 (spSh sh69x0 (A69x0 N)) (T40x1 N)
theorem T69x0_ok : OracleOk Tryz.prog (T69x0 N) := FnOk.to (ok69x0 N) (T40x1_ok N)
def rg71x0 : List (Nat × List Nat) := [(0, [0, 1]), (1, [2, 1])]
def hd71x0 : Hints := []
def h71x0s0 (N : Nat) : Sg Tryz.prog 1 71 := .start hd71x0 rg71x0
def F71x0 (N : Nat) (v0 v1 : Int) (k0 : Bool → R) : R :=
 k0 (v0 == v1)
def V71x0 (v0 v1 : Int) : Bool := F71x0 N v0 v1 (fun p => p)
theorem tot71x0 (v0 v1 : Int) (k0 : Bool → R) : F71x0 N v0 v1 k0 = k0 (V71x0 N v0 v1) := by
 unfold V71x0 F71x0
 repeat' (first | rfl | apply cond_k | (apply bnd_k; intro _))
def sh71x0 : Sh := { tmps := [(0, .g ([.i .i64, .f 90 []])), (1, .c (.p 0 0))], mem := [(0, .box ([.i .i64]))] }
def A71x0 (L : List Lf) : List (Bool × Res) := bnd (F71x0 N (li L 0) (li L 1) (fun p => p)) fun q => [(true, ([.c (.b q)], [(0, .box [.i .i64 (li L 1)])]))]
theorem raw71x0 (L : List Lf) : bd Tryz.prog (T69x0 N) (h71x0s0 N).h 71 sh71x0 L = F71x0 N (li L 0) (li L 1) (fun p => some ([.c (.b p)], [(0, .box [.i .i64 (li L 1)])])) := by kernel_rfl
theorem ok71x0 : FnOk Tryz.prog 71 sh71x0 (A71x0 N) :=
 (h71x0s0 N).fn progOk (T69x0_ok N) fun L x hx => ((raw71x0 N L).trans ((tot71x0 N ..).trans (alt0 _ _ hx)))
def T71x0 : Oracle := ext 71 (spSh sh71x0 (A71x0 N)) (T69x0 N)
theorem T71x0_ok : OracleOk Tryz.prog (T71x0 N) := FnOk.to (ok71x0 N) (T69x0_ok N)
def rg71x1 : List (Nat × List Nat) := [(0, [0, 1]), (1, [2, 1])]
def hd71x1 : Hints := []
def h71x1s0 (N : Nat) : Sg Tryz.prog 1 71 := .start hd71x1 rg71x1
def F71x1 (N : Nat) (v0 v1 : Int) (k0 : Bool → R) : R :=
 k0 (v0 == v1)
def V71x1 (v0 v1 : Int) : Bool := F71x1 N v0 v1 (fun p => p)
theorem tot71x1 (v0 v1 : Int) (k0 : Bool → R) : F71x1 N v0 v1 k0 = k0 (V71x1 N v0 v1) := by
 unfold V71x1 F71x1
 repeat' (first | rfl | apply cond_k | (apply bnd_k; intro _))
def sh71x1 : Sh := { tmps := [(0, .g ([.i .i64, .f 91 []])), (1, .c (.p 0 0))], mem := [(0, .box ([.i .i64]))] }
def A71x1 (L : List Lf) : List (Bool × Res) := bnd (F71x1 N (li L 0) (li L 1) (fun p => p)) fun q => [(true, ([.c (.b q)], [(0, .box [.i .i64 (li L 1)])]))]
theorem raw71x1 (L : List Lf) : bd Tryz.prog (T71x0 N) (h71x1s0 N).h 71 sh71x1 L = F71x1 N (li L 0) (li L 1) (fun p => some ([.c (.b p)], [(0, .box [.i .i64 (li L 1)])])) := by kernel_rfl
theorem ok71x1 : FnOk Tryz.prog 71 sh71x1 (A71x1 N) :=
 (h71x1s0 N).fn progOk (T71x0_ok N) fun L x hx => ((raw71x1 N L).trans ((tot71x1 N ..).trans (alt0 _ _ hx)))
def T71x1 : Oracle := ext 71 (spSh sh71x1 (A71x1 N)) (T71x0 N)
theorem T71x1_ok : OracleOk Tryz.prog (T71x1 N) := FnOk.to (ok71x1 N) (T71x0_ok N)
def rg71x2 : List (Nat × List Nat) := [(0, [0, 1]), (1, [2, 1])]
def hd71x2 : Hints := []
def h71x2s0 (N : Nat) : Sg Tryz.prog 1 71 := .start hd71x2 rg71x2
def F71x2 (N : Nat) (v0 v1 : Int) (k0 : Bool → R) : R :=
 k0 (v0 == v1)
def V71x2 (v0 v1 : Int) : Bool := F71x2 N v0 v1 (fun p => p)
theorem tot71x2 (v0 v1 : Int) (k0 : Bool → R) : F71x2 N v0 v1 k0 = k0 (V71x2 N v0 v1) := by
 unfold V71x2 F71x2
 repeat' (first | rfl | apply cond_k | (apply bnd_k; intro _))
def sh71x2 : Sh := { tmps := [(0, .g ([.i .i64, .f 92 []])), (1, .c (.p 0 0))], mem := [(0, .box ([.i .i64]))] }
def A71x2 (L : List Lf) : List (Bool × Res) := bnd (F71x2 N (li L 0) (li L 1) (fun p => p)) fun q => [(true, ([.c (.b q)], [(0, .box [.i .i64 (li L 1)])]))]
theorem raw71x2 (L : List Lf) : bd Tryz.prog (T71x1 N) (h71x2s0 N).h 71 sh71x2 L = F71x2 N (li L 0) (li L 1) (fun p => some ([.c (.b p)], [(0, .box [.i .i64 (li L 1)])])) := by kernel_rfl
theorem ok71x2 : FnOk Tryz.prog 71 sh71x2 (A71x2 N) :=
 (h71x2s0 N).fn progOk (T71x1_ok N) fun L x hx => ((raw71x2 N L).trans ((tot71x2 N ..).trans (alt0 _ _ hx)))
def T71x2 : Oracle := ext 71 (spSh sh71x2 (A71x2 N)) (T71x1 N)
theorem T71x2_ok : OracleOk Tryz.prog (T71x2 N) := FnOk.to (ok71x2 N) (T71x1_ok N)
def rg71x3 : List (Nat × List Nat) := [(0, [0, 1]), (1, [2, 1])]
def hd71x3 : Hints := []
def h71x3s0 (N : Nat) : Sg Tryz.prog 1 71 := .start hd71x3 rg71x3
def F71x3 (N : Nat) (v0 v1 : Int) (k0 : Bool → R) : R :=
 k0 (v0 == v1)
def V71x3 (v0 v1 : Int) : Bool := F71x3 N v0 v1 (fun p => p)
theorem tot71x3 (v0 v1 : Int) (k0 : Bool → R) : F71x3 N v0 v1 k0 = k0 (V71x3 N v0 v1) := by
 unfold V71x3 F71x3
 repeat' (first | rfl | apply cond_k | (apply bnd_k; intro _))
def sh71x3 : Sh := { tmps := [(0, .g ([.i .i64, .f 93 []])), (1, .c (.p 0 0))], mem := [(0, .box ([.i .i64]))] }
def A71x3 (L : List Lf) : List (Bool × Res) := bnd (F71x3 N (li L 0) (li L 1) (fun p => p)) fun q => [(true, ([.c (.b q)], [(0, .box [.i .i64 (li L 1)])]))]
theorem raw71x3 (L : List Lf) : bd Tryz.prog (T71x2 N) (h71x3s0 N).h 71 sh71x3 L = F71x3 N (li L 0) (li L 1) (fun p => some ([.c (.b p)], [(0, .box [.i .i64 (li L 1)])])) := by kernel_rfl
theorem ok71x3 : FnOk Tryz.prog 71 sh71x3 (A71x3 N) :=
 (h71x3s0 N).fn progOk (T71x2_ok N) fun L x hx => ((raw71x3 N L).trans ((tot71x3 N ..).trans (alt0 _ _ hx)))
def T71x3 : Oracle := ext 71 (spSh sh71x3 (A71x3 N)) (T71x2 N)
theorem T71x3_ok : OracleOk Tryz.prog (T71x3 N) := FnOk.to (ok71x3 N) (T71x2_ok N)
def rg71x4 : List (Nat × List Nat) := [(0, [0, 1]), (1, [2, 1])]
def hd71x4 : Hints := []
def h71x4s0 (N : Nat) : Sg Tryz.prog 1 71 := .start hd71x4 rg71x4
def F71x4 (N : Nat) (v0 v1 : Int) (k0 : Bool → R) : R :=
 k0 (v0 == v1)
def V71x4 (v0 v1 : Int) : Bool := F71x4 N v0 v1 (fun p => p)
theorem tot71x4 (v0 v1 : Int) (k0 : Bool → R) : F71x4 N v0 v1 k0 = k0 (V71x4 N v0 v1) := by
 unfold V71x4 F71x4
 repeat' (first | rfl | apply cond_k | (apply bnd_k; intro _))
def sh71x4 : Sh := { tmps := [(0, .g ([.i .i64, .f 94 []])), (1, .c (.p 0 0))], mem := [(0, .box ([.i .i64]))] }
def A71x4 (L : List Lf) : List (Bool × Res) := bnd (F71x4 N (li L 0) (li L 1) (fun p => p)) fun q => [(true, ([.c (.b q)], [(0, .box [.i .i64 (li L 1)])]))]
theorem raw71x4 (L : List Lf) : bd Tryz.prog (T71x3 N) (h71x4s0 N).h 71 sh71x4 L = F71x4 N (li L 0) (li L 1) (fun p => some ([.c (.b p)], [(0, .box [.i .i64 (li L 1)])])) := by kernel_rfl
theorem ok71x4 : FnOk Tryz.prog 71 sh71x4 (A71x4 N) :=
 (h71x4s0 N).fn progOk (T71x3_ok N) fun L x hx => ((raw71x4 N L).trans ((tot71x4 N ..).trans (alt0 _ _ hx)))
def T71x4 : Oracle := ext 71 (spSh sh71x4 (A71x4 N)) (T71x3 N)
theorem T71x4_ok : OracleOk Tryz.prog (T71x4 N) := FnOk.to (ok71x4 N) (T71x3_ok N)
def rg70x0 : List (Nat × List Nat) := [(0, [0, 1]), (1, [0, 1]), (2, [8, 7, 1, 0]), (3, [8, 1, 0, 7]), (4, [1, 0, 5, 8, 7]), (5, [5]), (6, [8, 7, 1, 0]), (7, [])]
def hd70x0 : Hints := [(6, [0, 1, 7, 8], [0], []), (13, [0, 1, 5, 7, 8], [0], [])]
def h70x0s0 (N : Nat) : Sg Tryz.prog 1 70 := .start hd70x0 rg70x0
def F70x0x13 (w2 w5 : Int) (k0 : Bool → Option R) : Option R :=
 bif (w2 == 0) then
  bnd (V71x0 N 1 w5) fun y0 =>
  k0 y0
 else
  bif (w2 == 1) then
   bnd (V71x1 N 2 w5) fun y1 =>
   k0 y1
  else
   bif (w2 == 2) then
    bnd (V71x2 N 3 w5) fun y2 =>
    k0 y2
   else
    bif (w2 == 3) then
     bnd (V71x3 N 4 w5) fun y3 =>
     k0 y3
    else
     bif (w2 == 4) then
      bnd (V71x4 N 5 w5) fun y4 =>
      k0 y4
     else
      none
def G70x0x13 (w2 w5 : Int) : Option (Bool) := F70x0x13 N w2 w5 (fun p => some p)
theorem bind70x0x13 (w2 w5 : Int) (k0 : Bool → Option R) : F70x0x13 N w2 w5 k0 = (G70x0x13 N w2 w5).bind k0 := by
 unfold G70x0x13 F70x0x13
 repeat' (first | with_reducible apply cond_b | (with_reducible apply bnd_b; intro _) | rfl)
def sh70x0x13 : Sh := { tmps := [(0, .c (.ksl 93 [(.a [(.i 1), (.i 90)]), (.a [(.i 2), (.i 91)]), (.a [(.i 3), (.i 92)]), (.a [(.i 4), (.i 93)]), (.a [(.i 5), (.i 94)])])), (1, .c (.f 71 [(0, 0)])), (5, .c (.i .i64)), (7, .c (.i .i64)), (8, .c (.i .i64))], mem := [(0, .box ([.i .i64]))] }
def K70x0x13w0 (L : List Lf) (p : Bool) : Ex × St := (.normal, mg (ofSh sh70x0x13 L) [5, 8, 7, 1, 0, 16] [(16, .c (.b p))] [0] [])
def A70x0x13 (L : List Lf) : List (Bool × (Ex × St)) := bnd (F70x0x13 N (li L 2) (li L 5) (fun p => some p)) fun q => [(q.isSome, K70x0x13w0 L (q.getD default))]
theorem raw70x0x13 (L : List Lf) : pc Tryz.prog (T71x4 N) (h70x0s0 N).h 1 100 70 13 sh70x0x13 L [5, 8, 7, 1, 0, 16] [0] = F70x0x13 N (li L 2) (li L 5) (fun p => some (K70x0x13w0 L p)) := by kernel_rfl
def h70x0s1 : Sg Tryz.prog 1 70 :=
 (h70x0s0 N).cut (A70x0x13 N) progOk (T71x4_ok N) fun L x hx => (raw70x0x13 N L).trans ((bind70x0x13 N ..).trans (alt1 x hx))
def S70x0x6 (w2 w4 : Int) (w3 : Int) (kr : Int → Option R) (k0 : Int → Option R) (k1 : Unit → Option R) : Option R :=
 bif (decide (w3 < w2)) then
  bnd (G70x0x13 N w3 w4) fun y0 =>
  bif y0.isSome then
   bif (y0.getD default) then
    k0 w3
   else
    kr (IntKind.wrap .i64 (w3 + 1))
  else
   none
 else
  k1 ()
def L70x0x6 (N : Nat) {R : Type} (w2 w4 : Int) : Nat → Int → (Int → Option R) → (Unit → Option R) → Option R
 | 0, _, _, _ => none
 | m + 1, w3, k0, k1 => S70x0x6 N w2 w4 w3 (fun w3 => L70x0x6 N w2 w4 m w3 k0 k1) k0 k1
def G70x0x6 (w2 w4 : Int) (w3 : Int) : Option (Sum (Int) (Unit)) := L70x0x6 N (R := (Sum (Int) (Unit))) w2 w4 N w3 (fun p => some (.inl p)) (fun p => some (.inr p))
def J70x0x6 (L x : List Lf) (kr : List Lf → Option R) (k0 : Int → Option R) (k1 : Unit → Option R) : Option R := S70x0x6 N (li L 2) (li L 4) (li x 0) (fun w3 => kr [.i w3]) k0 k1
theorem sb70x0x6 (L x : List Lf) (kr : List Lf → Option R) (k0 : Int → Option R) (k1 : Unit → Option R) : J70x0x6 N L x kr k0 k1 = (J70x0x6 N L x (fun y => some (.inl y)) (fun p => some (.inr (.inl p))) (fun p => some (.inr (.inr p)))).bind (sumE kr (sumE k0 k1)) := by
 unfold J70x0x6 S70x0x6
 repeat' (first | with_reducible apply cond_b | (with_reducible apply bnd_b; intro _) | rfl)
def Q70x0x6 (L : List Lf) (m : Nat) (x : List Lf) : Option (Sum (Int) (Unit)) := L70x0x6 N (R := (Sum (Int) (Unit))) (li L 2) (li L 4) m (li x 0) (fun p => some (.inl p)) (fun p => some (.inr p))
def sh70x0x6 : Sh := { tmps := [(0, .c (.ksl 93 [(.a [(.i 1), (.i 90)]), (.a [(.i 2), (.i 91)]), (.a [(.i 3), (.i 92)]), (.a [(.i 4), (.i 93)]), (.a [(.i 5), (.i 94)])])), (1, .c (.f 71 [(0, 0)])), (7, .c (.i .i64)), (8, .c (.i .i64))], mem := [(0, .box ([.i .i64]))] }
def K70x0x6w0 (L : List Lf) (p : Int) : Ex × St := (.ret, mg (ofSh sh70x0x6 L) [4] [(4, .c (.i .i64 p))] [0] [])
def A70x0x6 (L : List Lf) : List (Bool × (Ex × St)) := bnd (Q70x0x6 N L N (pk sh70x0x6 [3] L)) fun q => [((inlB q), K70x0x6w0 L (inlV q)), ((inrQ q).isSome, ((.exit 0), mg (ofSh sh70x0x6 L) [] [] [0] []))]
theorem step70x0x6 (m : Nat) (kn : St → Option (Ex × St)) (L x : List Lf) : lpB Tryz.prog (T71x4 N) (h70x0s1 N).h 1 70 6 sh70x0x6 [3] [4] [0] (m + 100) kn L x = J70x0x6 N L x (fun y => kn (ofSh sh70x0x6 (mx sh70x0x6 [3] L y))) (fun p => some (K70x0x6w0 L p)) (fun _ => some ((.exit 0), mg (ofSh sh70x0x6 L) [] [] [0] [])) := by kernel_rfl
theorem ql70x0x6 (L : List Lf) (m : Nat) (x : List Lf) : Q70x0x6 N L (m + 1) x = J70x0x6 N L x (Q70x0x6 N L m) (fun p => some (.inl p)) (fun p => some (.inr p)) := by kernel_rfl
def h70x0s2 : Sg Tryz.prog 1 70 :=
 (h70x0s1 N).lp (A70x0x6 N) N progOk (T71x4_ok N) (fun m kn L x => (step70x0x6 N m kn L x).trans (sb70x0x6 N L x _ _ _)) (fun L m x => (ql70x0x6 N L m x).trans (sb70x0x6 N L x (Q70x0x6 N L m) (fun p => some (.inl p)) (fun p => some (.inr p)))) fun L x hx => (altS alt1) x hx
def F70x0 (v2 : Int) (k0 : Int → Option R) : Option R :=
 bnd (G70x0x6 N 5 v2 0) fun y0 =>
 bif (inlB y0) then
  k0 (inlV y0)
 else
  bif (inrQ y0).isSome then
   k0 (-1)
  else
   none
def G70x0 (v2 : Int) : Option (Int) := F70x0 N v2 (fun p => some p)
theorem bind70x0 (v2 : Int) (k0 : Int → Option R) : F70x0 N v2 k0 = (G70x0 N v2).bind k0 := by
 unfold G70x0 F70x0
 repeat' (first | with_reducible apply cond_b | (with_reducible apply bnd_b; intro _) | rfl)
def sh70x0 : Sh := { tmps := [(0, .c (.ksl 93 [(.a [(.i 1), (.i 90)]), (.a [(.i 2), (.i 91)]), (.a [(.i 3), (.i 92)]), (.a [(.i 4), (.i 93)]), (.a [(.i 5), (.i 94)])])), (1, .c (.f 71 [(0, 0)]))], mem := [(0, .box ([.i .i64]))] }
def A70x0 (L : List Lf) : List (Bool × Res) := bnd (F70x0 N (li L 2) (fun p => some p)) fun q => [(q.isSome, ([.c (.i .i64 (q.getD default))], [(0, .box [.i .i64 (li L 2)])]))]
theorem raw70x0 (L : List Lf) : bd Tryz.prog (T71x4 N) (h70x0s2 N).h 70 sh70x0 L = F70x0 N (li L 2) (fun p => some ([.c (.i .i64 p)], [(0, .box [.i .i64 (li L 2)])])) := by kernel_rfl
theorem ok70x0 : FnOk Tryz.prog 70 sh70x0 (A70x0 N) :=
 (h70x0s2 N).fn progOk (T71x4_ok N) fun L x hx => ((raw70x0 N L).trans ((bind70x0 N ..).trans (alt1 x hx)))
def T70x0 : Oracle := ext 70 (spSh sh70x0 (A70x0 N)) (T71x4 N)
theorem T70x0_ok : OracleOk Tryz.prog (T70x0 N) := FnOk.to (ok70x0 N) (T71x4_ok N)
def rg72x0 : List (Nat × List Nat) := [(0, [0, 1]), (1, [0, 1]), (2, [0, 1, 6]), (3, [1, 6, 7, 0]), (4, [1, 6, 8, 7, 0]), (5, [6, 8, 7, 9, 0, 1]), (6, [7, 8, 10, 6, 9, 0, 1]), (7, [11, 6, 9, 7, 0, 1]), (8, [11, 12, 6, 9, 7, 0, 1]), (9, [12, 6, 9, 7, 13, 0, 1]), (10, [7, 9, 13, 12, 0, 1]), (11, [0, 1, 4])]
def hd72x0 : Hints := []
def h72x0s0 (N : Nat) : Sg Tryz.prog 0 72 := .start hd72x0 rg72x0
def F72x0 (N : Nat) (v0 v1 : Int) (k0 : Int × Int → R) : R :=
 bnd (IntKind.wrap .u64 (((bitsV .and .u64 v0 4294967295).getD 0) * ((bitsV .and .u64 v1 4294967295).getD 0))) fun y0 =>
 bnd (IntKind.wrap .u64 ((v0.fdiv (2 ^ 32)) * ((bitsV .and .u64 v1 4294967295).getD 0))) fun y1 =>
 bnd ((bitsV .and .u64 (IntKind.wrap .u64 (y1 + (y0.fdiv (2 ^ 32)))) 4294967295).getD 0) fun y2 =>
 bnd ((IntKind.wrap .u64 (y1 + (y0.fdiv (2 ^ 32)))).fdiv (2 ^ 32)) fun y3 =>
 bnd (IntKind.wrap .u64 (((bitsV .and .u64 v0 4294967295).getD 0) * (v1.fdiv (2 ^ 32)))) fun y4 =>
 bnd (IntKind.wrap .u64 ((v0.fdiv (2 ^ 32)) * (v1.fdiv (2 ^ 32)))) fun y5 =>
 bnd (IntKind.wrap .u64 ((IntKind.wrap .u64 (y5 + y3)) + ((IntKind.wrap .u64 (y2 + y4)).fdiv (2 ^ 32)))) fun y6 =>
 k0 (y6, (IntKind.wrap .u64 (v0 * v1)))
def V72x0 (v0 v1 : Int) : Int × Int := F72x0 N v0 v1 (fun p => p)
theorem tot72x0 (v0 v1 : Int) (k0 : Int × Int → R) : F72x0 N v0 v1 k0 = k0 (V72x0 N v0 v1) := by
 unfold V72x0 F72x0
 repeat' (first | rfl | apply cond_k | (apply bnd_k; intro _))
def sh72x0 : Sh := { tmps := [(0, .c (.i .u64)), (1, .c (.i .u64))], mem := [] }
def A72x0 (L : List Lf) : List (Bool × Res) := bnd (F72x0 N (li L 0) (li L 1) (fun p => p)) fun q => [(true, ([.c (.i .u64 q.1), .c (.i .u64 q.2)], []))]
theorem raw72x0 (L : List Lf) : bd Tryz.prog (T70x0 N) (h72x0s0 N).h 72 sh72x0 L = F72x0 N (li L 0) (li L 1) (fun p => some ([.c (.i .u64 p.1), .c (.i .u64 p.2)], [])) := by kernel_rfl
theorem ok72x0 : FnOk Tryz.prog 72 sh72x0 (A72x0 N) :=
 (h72x0s0 N).fn progOk (T70x0_ok N) fun L x hx => ((raw72x0 N L).trans ((tot72x0 N ..).trans (alt0 _ _ hx)))
def T72x0 : Oracle := ext 72 (spSh sh72x0 (A72x0 N)) (T70x0 N)
theorem T72x0_ok : OracleOk Tryz.prog (T72x0 N) := FnOk.to (ok72x0 N) (T70x0_ok N)
def rg107x0 : List (Nat × List Nat) := [(0, [0]), (1, [0, 2]), (2, [0]), (3, [0]), (4, [0, 2]), (5, [0, 2]), (6, [2, 0]), (7, [0, 2]), (8, [0, 2]), (9, [2, 0]), (10, [2, 0])]
def hd107x0 : Hints := [(8, [0, 2, 4], [], []), (17, [0, 2, 8], [], []), (26, [0, 2, 14], [], [])]
def h107x0s0 (N : Nat) : Sg Tryz.prog 0 107 := .start hd107x0 rg107x0
def F107x0x8 (N : Nat) (w0 w1 : Int) (w2 : Bool) (k0 : Int × Int → R) : R :=
 bif w2 then
  k0 ((w0.fdiv (2 ^ 32)), 32)
 else
  k0 (w0, w1)
def V107x0x8 (w0 w1 : Int) (w2 : Bool) : Int × Int := F107x0x8 N w0 w1 w2 (fun p => p)
theorem tot107x0x8 (w0 w1 : Int) (w2 : Bool) (k0 : Int × Int → R) : F107x0x8 N w0 w1 w2 k0 = k0 (V107x0x8 N w0 w1 w2) := by
 unfold V107x0x8 F107x0x8
 repeat' (first | rfl | apply cond_k | (apply bnd_k; intro _))
def sh107x0x8 : Sh := { tmps := [(0, .c (.i .u64)), (2, .c (.i .i64)), (4, .c (.b))], mem := [] }
def K107x0x8w0 (L : List Lf) (p : Int × Int) : Ex × St := (.normal, ⟨[(0, .c (.i .u64 p.1)), (2, .c (.i .i64 p.2))], []⟩)
def A107x0x8 (L : List Lf) : List (Bool × (Ex × St)) := bnd (F107x0x8 N (li L 0) (li L 1) (lb L 2) (fun p => p)) fun q => [(true, K107x0x8w0 L q)]
theorem raw107x0x8 (L : List Lf) : pc Tryz.prog (T72x0 N) (h107x0s0 N).h 0 100 107 8 sh107x0x8 L [0, 2] [] = F107x0x8 N (li L 0) (li L 1) (lb L 2) (fun p => some (K107x0x8w0 L p)) := by kernel_rfl
def h107x0s1 : Sg Tryz.prog 0 107 :=
 (h107x0s0 N).cut (A107x0x8 N) progOk (T72x0_ok N) fun L x hx => (raw107x0x8 N L).trans ((tot107x0x8 N ..).trans (alt0 _ _ hx))
def F107x0x17 (N : Nat) (w0 w1 : Int) (w2 : Bool) (k0 : Int × Int → R) : R :=
 bif w2 then
  k0 ((w0.fdiv (2 ^ 16)), (IntKind.wrap .i64 (w1 + 16)))
 else
  k0 (w0, w1)
def V107x0x17 (w0 w1 : Int) (w2 : Bool) : Int × Int := F107x0x17 N w0 w1 w2 (fun p => p)
theorem tot107x0x17 (w0 w1 : Int) (w2 : Bool) (k0 : Int × Int → R) : F107x0x17 N w0 w1 w2 k0 = k0 (V107x0x17 N w0 w1 w2) := by
 unfold V107x0x17 F107x0x17
 repeat' (first | rfl | apply cond_k | (apply bnd_k; intro _))
def sh107x0x17 : Sh := { tmps := [(0, .c (.i .u64)), (2, .c (.i .i64)), (8, .c (.b))], mem := [] }
def K107x0x17w0 (L : List Lf) (p : Int × Int) : Ex × St := (.normal, ⟨[(0, .c (.i .u64 p.1)), (2, .c (.i .i64 p.2))], []⟩)
def A107x0x17 (L : List Lf) : List (Bool × (Ex × St)) := bnd (F107x0x17 N (li L 0) (li L 1) (lb L 2) (fun p => p)) fun q => [(true, K107x0x17w0 L q)]
theorem raw107x0x17 (L : List Lf) : pc Tryz.prog (T72x0 N) (h107x0s1 N).h 0 100 107 17 sh107x0x17 L [0, 2] [] = F107x0x17 N (li L 0) (li L 1) (lb L 2) (fun p => some (K107x0x17w0 L p)) := by kernel_rfl
def h107x0s2 : Sg Tryz.prog 0 107 :=
 (h107x0s1 N).cut (A107x0x17 N) progOk (T72x0_ok N) fun L x hx => (raw107x0x17 N L).trans ((tot107x0x17 N ..).trans (alt0 _ _ hx))
def F107x0x26 (N : Nat) (w0 w1 : Int) (w2 : Bool) (k0 : Int × Int → R) : R :=
 bif w2 then
  k0 ((IntKind.wrap .i64 (w1 + 8)), (w0.fdiv (2 ^ 8)))
 else
  k0 (w1, w0)
def V107x0x26 (w0 w1 : Int) (w2 : Bool) : Int × Int := F107x0x26 N w0 w1 w2 (fun p => p)
theorem tot107x0x26 (w0 w1 : Int) (w2 : Bool) (k0 : Int × Int → R) : F107x0x26 N w0 w1 w2 k0 = k0 (V107x0x26 N w0 w1 w2) := by
 unfold V107x0x26 F107x0x26
 repeat' (first | rfl | apply cond_k | (apply bnd_k; intro _))
def sh107x0x26 : Sh := { tmps := [(0, .c (.i .u64)), (2, .c (.i .i64)), (14, .c (.b))], mem := [] }
def K107x0x26w0 (L : List Lf) (p : Int × Int) : Ex × St := (.normal, ⟨[(2, .c (.i .i64 p.1)), (0, .c (.i .u64 p.2))], []⟩)
def A107x0x26 (L : List Lf) : List (Bool × (Ex × St)) := bnd (F107x0x26 N (li L 0) (li L 1) (lb L 2) (fun p => p)) fun q => [(true, K107x0x26w0 L q)]
theorem raw107x0x26 (L : List Lf) : pc Tryz.prog (T72x0 N) (h107x0s2 N).h 0 100 107 26 sh107x0x26 L [2, 0] [] = F107x0x26 N (li L 0) (li L 1) (lb L 2) (fun p => some (K107x0x26w0 L p)) := by kernel_rfl
def h107x0s3 : Sg Tryz.prog 0 107 :=
 (h107x0s2 N).cut (A107x0x26 N) progOk (T72x0_ok N) fun L x hx => (raw107x0x26 N L).trans ((tot107x0x26 N ..).trans (alt0 _ _ hx))
def F107x0 (v0 : Int) (k0 : Int → Option R) : Option R :=
 bnd (V107x0x8 N v0 0 (decide (v0 ≥ 4294967296))) fun y0 =>
 bnd (V107x0x17 N y0.1 y0.2 (decide (y0.1 ≥ 65536))) fun y1 =>
 bnd (V107x0x26 N y1.1 y1.2 (decide (y1.1 ≥ 256))) fun y2 =>
 bif (inB (IntKind.wrap .u8 y2.2) 256) then
  bnd ((([0, 1, 2, 2, 3, 3, 3, 3, 4, 4, 4, 4, 4, 4, 4, 4, 5, 5, 5, 5, 5, 5, 5, 5, 5, 5, 5, 5, 5, 5, 5, 5, 6, 6, 6, 6, 6, 6, 6, 6,
 6, 6, 6, 6, 6, 6, 6, 6, 6, 6, 6, 6, 6, 6, 6, 6, 6, 6, 6, 6, 6, 6, 6, 6, 7, 7, 7, 7, 7, 7, 7, 7, 7, 7, 7, 7, 7, 7, 7, 7,
 7, 7, 7, 7, 7, 7, 7, 7, 7, 7, 7, 7, 7, 7, 7, 7, 7, 7, 7, 7, 7, 7, 7, 7, 7, 7, 7, 7, 7, 7, 7, 7, 7, 7, 7, 7, 7, 7, 7, 7,
 7, 7, 7, 7, 7, 7, 7, 7, 8, 8, 8, 8, 8, 8, 8, 8, 8, 8, 8, 8, 8, 8, 8, 8, 8, 8, 8, 8, 8, 8, 8, 8, 8, 8, 8, 8, 8, 8, 8, 8,
 8, 8, 8, 8, 8, 8, 8, 8, 8, 8, 8, 8, 8, 8, 8, 8, 8, 8, 8, 8, 8, 8, 8, 8, 8, 8, 8, 8, 8, 8, 8, 8, 8, 8, 8, 8, 8, 8, 8, 8,
 8, 8, 8, 8, 8, 8, 8, 8, 8, 8, 8, 8, 8, 8, 8, 8, 8, 8, 8, 8, 8, 8, 8, 8, 8, 8, 8, 8, 8, 8, 8, 8, 8, 8, 8, 8, 8, 8, 8, 8,
 8, 8, 8, 8, 8, 8, 8, 8, 8, 8, 8, 8, 8, 8, 8, 8] : List UInt8).getD (IntKind.wrap .u8 y2.2).toNat 0).toNat : Int) fun y3 =>
  bnd (IntKind.wrap .i64 (y2.1 + (IntKind.wrap .i64 y3))) fun y4 =>
  k0 y4
 else
  none
def G107x0 (v0 : Int) : Option (Int) := F107x0 N v0 (fun p => some p)
theorem bind107x0 (v0 : Int) (k0 : Int → Option R) : F107x0 N v0 k0 = (G107x0 N v0).bind k0 := by
 unfold G107x0 F107x0
 repeat' (first | with_reducible apply cond_b | (with_reducible apply bnd_b; intro _) | rfl)
def sh107x0 : Sh := { tmps := [(0, .c (.i .u64))], mem := [] }
def A107x0 (L : List Lf) : List (Bool × Res) := bnd (F107x0 N (li L 0) (fun p => some p)) fun q => [(q.isSome, ([.c (.i .i64 (q.getD default))], []))]
theorem raw107x0 (L : List Lf) : bd Tryz.prog (T72x0 N) (h107x0s3 N).h 107 sh107x0 L = F107x0 N (li L 0) (fun p => some ([.c (.i .i64 p)], [])) := by kernel_rfl
theorem ok107x0 : FnOk Tryz.prog 107 sh107x0 (A107x0 N) :=
 (h107x0s3 N).fn progOk (T72x0_ok N) fun L x hx => ((raw107x0 N L).trans ((bind107x0 N ..).trans (alt1 x hx)))
def T107x0 : Oracle := ext 107 (spSh sh107x0 (A107x0 N)) (T72x0 N)
theorem T107x0_ok : OracleOk Tryz.prog (T107x0 N) := FnOk.to (ok107x0 N) (T72x0_ok N)
def rg95x0 : List (Nat × List Nat) := [(0, [0]), (1, [0])]
def hd95x0 : Hints := []
def h95x0s0 (N : Nat) : Sg Tryz.prog 0 95 := .start hd95x0 rg95x0
def F95x0 (v0 : Int) (k0 : Int → Option R) : Option R :=
 bnd (G107x0 N v0) fun y0 =>
 bif y0.isSome then
  k0 (IntKind.wrap .i64 (64 - (y0.getD default)))
 else
  none
def G95x0 (v0 : Int) : Option (Int) := F95x0 N v0 (fun p => some p)
theorem bind95x0 (v0 : Int) (k0 : Int → Option R) : F95x0 N v0 k0 = (G95x0 N v0).bind k0 := by
 unfold G95x0 F95x0
 repeat' (first | with_reducible apply cond_b | (with_reducible apply bnd_b; intro _) | rfl)
def sh95x0 : Sh := { tmps := [(0, .c (.i .u64))], mem := [] }
def A95x0 (L : List Lf) : List (Bool × Res) := bnd (F95x0 N (li L 0) (fun p => some p)) fun q => [(q.isSome, ([.c (.i .i64 (q.getD default))], []))]
theorem raw95x0 (L : List Lf) : bd Tryz.prog (T107x0 N) (h95x0s0 N).h 95 sh95x0 L = F95x0 N (li L 0) (fun p => some ([.c (.i .i64 p)], [])) := by kernel_rfl
theorem ok95x0 : FnOk Tryz.prog 95 sh95x0 (A95x0 N) :=
 (h95x0s0 N).fn progOk (T107x0_ok N) fun L x hx => ((raw95x0 N L).trans ((bind95x0 N ..).trans (alt1 x hx)))
def T95x0 : Oracle := ext 95 (spSh sh95x0 (A95x0 N)) (T107x0 N)
theorem T95x0_ok : OracleOk Tryz.prog (T95x0 N) := FnOk.to (ok95x0 N) (T107x0_ok N)
def rg73x0 : List (Nat × List Nat) := [(0, [2, 0, 1]), (1, [2, 0, 1]), (2, [2, 0, 1]), (3, [2, 0, 1]), (4, [0, 1, 2]), (5, [0, 1, 2]), (6, [1, 2]), (7, [2, 0, 1]), (8, [2, 8, 0, 1]), (9, [2, 0, 8, 1]), (10, [2, 0, 8, 1, 9]), (11, [0, 8, 1, 9, 10, 2]), (12, [1, 8, 11, 9, 10, 2]), (13, [12, 11, 9, 10, 2, 8]), (14, [12, 11, 9, 10, 13, 2, 8]), (15, [11, 9, 10, 13, 2, 14, 8]), (16, [11, 15, 9, 10, 13, 2, 14, 8]), (17, [15, 10, 16, 13, 9, 11, 2, 14, 8]), (18, [15, 16, 9, 11, 13, 2, 10, 14, 8]), (19, [16, 9, 11, 13, 15, 2, 10, 14, 8]), (20, [16, 11, 13, 15, 2, 9, 10, 14, 8]), (21, [11, 13, 15, 2, 9, 10, 14, 8]), (22, [17, 9, 10, 14, 15, 2, 8]), (23, [17, 18, 9, 10, 14, 15, 2, 8]), (24, [18, 10, 16, 14, 9, 15, 17, 2, 8]), (25, [18, 16, 9, 15, 17, 14, 2, 8, 10]), (26, [16, 9, 15, 18, 17, 14, 2, 8, 10]), (27, [16, 15, 18, 17, 14, 2, 8, 10, 9]), (28, [15, 18, 17, 14, 2, 8])]
def hd73x0 : Hints := [(51, [2, 8, 9, 10, 11, 13, 14, 15, 16], [], []), (72, [2, 8, 9, 10, 14, 15, 16, 17, 18], [], [])]
def h73x0s0 (N : Nat) : Sg Tryz.prog 0 73 := .start hd73x0 rg73x0
def S73x0x51 (N : Nat) (w2 w3 w5 : Int) (w7 w8 : Int) (kr : Int → Int → Option R) (k0 : Int → Option R) : Option R :=
 bnd (bif (decide (w7 ≥ 4294967296)) then true else (decide ((IntKind.wrap .u64 (w7 * w3)) > (IntKind.wrap .u64 ((IntKind.wrap .u64 (4294967296 * w8)) + w5))))) fun y0 =>
 bif y0 then
  bif (decide ((IntKind.wrap .u64 (w8 + w2)) ≥ 4294967296)) then
   k0 (IntKind.wrap .u64 (w7 - 1))
  else
   kr (IntKind.wrap .u64 (w7 - 1)) (IntKind.wrap .u64 (w8 + w2))
 else
  k0 w7
def L73x0x51 (N : Nat) {R : Type} (w2 w3 w5 : Int) : Nat → Int → Int → (Int → Option R) → Option R
 | 0, _, _, _ => none
 | m + 1, w7, w8, k0 => S73x0x51 N w2 w3 w5 w7 w8 (fun w7 w8 => L73x0x51 N w2 w3 w5 m w7 w8 k0) k0
def G73x0x51 (w2 w3 w5 : Int) (w7 w8 : Int) : Option (Int) := L73x0x51 N (R := (Int)) w2 w3 w5 N w7 w8 (fun p => some p)
def J73x0x51 (L x : List Lf) (kr : List Lf → Option R) (k0 : Int → Option R) : Option R := S73x0x51 N (li L 2) (li L 3) (li L 5) (li x 0) (li x 1) (fun w7 w8 => kr [.i w7, .i w8]) k0
theorem sb73x0x51 (L x : List Lf) (kr : List Lf → Option R) (k0 : Int → Option R) : J73x0x51 N L x kr k0 = (J73x0x51 N L x (fun y => some (.inl y)) (fun p => some (.inr p))).bind (sumE kr k0) := by
 unfold J73x0x51 S73x0x51
 repeat' (first | with_reducible apply cond_b | (with_reducible apply bnd_b; intro _) | rfl)
def Q73x0x51 (L : List Lf) (m : Nat) (x : List Lf) : Option (Int) := L73x0x51 N (R := (Int)) (li L 2) (li L 3) (li L 5) m (li x 0) (li x 1) (fun p => some p)
def sh73x0x51 : Sh := { tmps := [(2, .c (.i .u64)), (8, .c (.i .u64)), (9, .c (.i .u64)), (10, .c (.i .u64)), (11, .c (.i .u64)), (13, .c (.i .u64)), (14, .c (.i .u64)), (15, .c (.i .u64)), (16, .c (.i .u64))], mem := [] }
def K73x0x51w0 (L : List Lf) (p : Int) : Ex × St := ((.exit 0), mg (ofSh sh73x0x51 L) [11, 13, 15, 2, 9, 10, 14, 8] [(15, .c (.i .u64 p))] [] [])
def A73x0x51 (L : List Lf) : List (Bool × (Ex × St)) := bnd (Q73x0x51 N L N (pk sh73x0x51 [7, 8] L)) fun q => [(q.isSome, K73x0x51w0 L (q.getD default))]
theorem step73x0x51 (m : Nat) (kn : St → Option (Ex × St)) (L x : List Lf) : lpB Tryz.prog (T95x0 N) (h73x0s0 N).h 0 73 51 sh73x0x51 [7, 8] [6, 7, 11, 13, 15, 2, 9, 10, 14, 8] [] (m + 100) kn L x = J73x0x51 N L x (fun y => kn (ofSh sh73x0x51 (mx sh73x0x51 [7, 8] L y))) (fun p => some (K73x0x51w0 L p)) := by kernel_rfl
theorem ql73x0x51 (L : List Lf) (m : Nat) (x : List Lf) : Q73x0x51 N L (m + 1) x = J73x0x51 N L x (Q73x0x51 N L m) some := by kernel_rfl
def h73x0s1 : Sg Tryz.prog 0 73 :=
 (h73x0s0 N).lp (A73x0x51 N) N progOk (T95x0_ok N) (fun m kn L x => (step73x0x51 N m kn L x).trans (sb73x0x51 N L x _ _)) (fun L m x => (ql73x0x51 N L m x).trans (sb73x0x51 N L x (Q73x0x51 N L m) some)) fun L x hx => alt1 x hx
def S73x0x72 (N : Nat) (w2 w3 w4 : Int) (w6 w8 : Int) (kr : Int → Int → Option R) (k0 : Int → Option R) : Option R :=
 bnd (bif (decide (w8 ≥ 4294967296)) then true else (decide ((IntKind.wrap .u64 (w8 * w3)) > (IntKind.wrap .u64 ((IntKind.wrap .u64 (4294967296 * w6)) + w4))))) fun y0 =>
 bif y0 then
  bif (decide ((IntKind.wrap .u64 (w6 + w2)) ≥ 4294967296)) then
   k0 (IntKind.wrap .u64 (w8 - 1))
  else
   kr (IntKind.wrap .u64 (w6 + w2)) (IntKind.wrap .u64 (w8 - 1))
 else
  k0 w8
def L73x0x72 (N : Nat) {R : Type} (w2 w3 w4 : Int) : Nat → Int → Int → (Int → Option R) → Option R
 | 0, _, _, _ => none
 | m + 1, w6, w8, k0 => S73x0x72 N w2 w3 w4 w6 w8 (fun w6 w8 => L73x0x72 N w2 w3 w4 m w6 w8 k0) k0
def G73x0x72 (w2 w3 w4 : Int) (w6 w8 : Int) : Option (Int) := L73x0x72 N (R := (Int)) w2 w3 w4 N w6 w8 (fun p => some p)
def J73x0x72 (L x : List Lf) (kr : List Lf → Option R) (k0 : Int → Option R) : Option R := S73x0x72 N (li L 2) (li L 3) (li L 4) (li x 0) (li x 1) (fun w6 w8 => kr [.i w6, .i w8]) k0
theorem sb73x0x72 (L x : List Lf) (kr : List Lf → Option R) (k0 : Int → Option R) : J73x0x72 N L x kr k0 = (J73x0x72 N L x (fun y => some (.inl y)) (fun p => some (.inr p))).bind (sumE kr k0) := by
 unfold J73x0x72 S73x0x72
 repeat' (first | with_reducible apply cond_b | (with_reducible apply bnd_b; intro _) | rfl)
def Q73x0x72 (L : List Lf) (m : Nat) (x : List Lf) : Option (Int) := L73x0x72 N (R := (Int)) (li L 2) (li L 3) (li L 4) m (li x 0) (li x 1) (fun p => some p)
def sh73x0x72 : Sh := { tmps := [(2, .c (.i .u64)), (8, .c (.i .u64)), (9, .c (.i .u64)), (10, .c (.i .u64)), (14, .c (.i .u64)), (15, .c (.i .u64)), (16, .c (.i .u64)), (17, .c (.i .u64)), (18, .c (.i .u64))], mem := [] }
def K73x0x72w0 (L : List Lf) (p : Int) : Ex × St := ((.exit 2), mg (ofSh sh73x0x72 L) [15, 18, 17, 14, 2, 8] [(18, .c (.i .u64 p))] [] [])
def A73x0x72 (L : List Lf) : List (Bool × (Ex × St)) := bnd (Q73x0x72 N L N (pk sh73x0x72 [6, 8] L)) fun q => [(q.isSome, K73x0x72w0 L (q.getD default))]
theorem step73x0x72 (m : Nat) (kn : St → Option (Ex × St)) (L x : List Lf) : lpB Tryz.prog (T95x0 N) (h73x0s1 N).h 0 73 72 sh73x0x72 [6, 8] [6, 7, 15, 18, 17, 14, 2, 8] [] (m + 100) kn L x = J73x0x72 N L x (fun y => kn (ofSh sh73x0x72 (mx sh73x0x72 [6, 8] L y))) (fun p => some (K73x0x72w0 L p)) := by kernel_rfl
theorem ql73x0x72 (L : List Lf) (m : Nat) (x : List Lf) : Q73x0x72 N L (m + 1) x = J73x0x72 N L x (Q73x0x72 N L m) some := by kernel_rfl
def h73x0s2 : Sg Tryz.prog 0 73 :=
 (h73x0s1 N).lp (A73x0x72 N) N progOk (T95x0_ok N) (fun m kn L x => (step73x0x72 N m kn L x).trans (sb73x0x72 N L x _ _)) (fun L m x => (ql73x0x72 N L m x).trans (sb73x0x72 N L x (Q73x0x72 N L m) some)) fun L x hx => alt1 x hx
def F73x0 (v0 v1 v2 : Int) (k0 : Int × Int → Option R) : Option R :=
 bif (v2 == 0) then
  none
 else
  bif (decide (v2 ≤ v0)) then
   none
  else
   bif (v0 == 0) then
    bif (!(v2 == 0)) then
     bif (!(v2 == 0)) then
      k0 ((IntKind.wrap .u64 (v1.tdiv v2)), (v1.tmod v2))
     else
      none
    else
     none
   else
    bnd (G95x0 N v2) fun y0 =>
    bif y0.isSome then
     bif (decide (0 ≤ (IntKind.wrap .u64 (y0.getD default)))) then
      bnd (IntKind.wrap .u64 (v2 * 2 ^ (min (IntKind.wrap .u64 (y0.getD default)).toNat 64))) fun y1 =>
      bif (decide (0 ≤ (IntKind.wrap .u64 (y0.getD default)))) then
       bnd (IntKind.wrap .u64 (v0 * 2 ^ (min (IntKind.wrap .u64 (y0.getD default)).toNat 64))) fun y2 =>
       bnd (IntKind.wrap .u64 (64 - (IntKind.wrap .u64 (y0.getD default)))) fun y3 =>
       bif (decide (0 ≤ y3)) then
        bnd ((bitsV .or .u64 y2 (v1.fdiv (2 ^ (min y3.toNat 64)))).getD 0) fun y4 =>
        bif (decide (0 ≤ (IntKind.wrap .u64 (y0.getD default)))) then
         bnd (IntKind.wrap .u64 (v1 * 2 ^ (min (IntKind.wrap .u64 (y0.getD default)).toNat 64))) fun y5 =>
         bif (!((y1.fdiv (2 ^ 32)) == 0)) then
          bnd (IntKind.wrap .u64 (y4.tdiv (y1.fdiv (2 ^ 32)))) fun y6 =>
          bnd (IntKind.wrap .u64 (y4 - (IntKind.wrap .u64 (y6 * (y1.fdiv (2 ^ 32)))))) fun y7 =>
          bnd (G73x0x51 N (y1.fdiv (2 ^ 32)) ((bitsV .and .u64 y1 4294967295).getD 0) (y5.fdiv (2 ^ 32)) y6 y7) fun y8 =>
          bif y8.isSome then
           bnd (IntKind.wrap .u64 ((IntKind.wrap .u64 (y4 * 4294967296)) + (y5.fdiv (2 ^ 32)))) fun y9 =>
           bnd (IntKind.wrap .u64 (y9 - (IntKind.wrap .u64 ((y8.getD default) * y1)))) fun y10 =>
           bif (!((y1.fdiv (2 ^ 32)) == 0)) then
            bnd (IntKind.wrap .u64 (y10.tdiv (y1.fdiv (2 ^ 32)))) fun y11 =>
            bnd (IntKind.wrap .u64 (y10 - (IntKind.wrap .u64 (y11 * (y1.fdiv (2 ^ 32)))))) fun y12 =>
            bnd (G73x0x72 N (y1.fdiv (2 ^ 32)) ((bitsV .and .u64 y1 4294967295).getD 0) ((bitsV .and .u64 y5 4294967295).getD 0) y12 y11) fun y13 =>
            bif y13.isSome then
             bnd (IntKind.wrap .u64 ((IntKind.wrap .u64 ((y8.getD default) * 4294967296)) + (y13.getD default))) fun y14 =>
             bnd (IntKind.wrap .u64 ((IntKind.wrap .u64 (y10 * 4294967296)) + ((bitsV .and .u64 y5 4294967295).getD 0))) fun y15 =>
             bnd (IntKind.wrap .u64 (y15 - (IntKind.wrap .u64 ((y13.getD default) * y1)))) fun y16 =>
             bif (decide (0 ≤ (IntKind.wrap .u64 (y0.getD default)))) then
              bnd (y16.fdiv (2 ^ (min (IntKind.wrap .u64 (y0.getD default)).toNat 64))) fun y17 =>
              k0 (y14, y17)
             else
              none
            else
             none
           else
            none
          else
           none
         else
          none
        else
         none
       else
        none
      else
       none
     else
      none
    else
     none
def G73x0 (v0 v1 v2 : Int) : Option (Int × Int) := F73x0 N v0 v1 v2 (fun p => some p)
theorem bind73x0 (v0 v1 v2 : Int) (k0 : Int × Int → Option R) : F73x0 N v0 v1 v2 k0 = (G73x0 N v0 v1 v2).bind k0 := by
 unfold G73x0 F73x0
 repeat' (first | with_reducible apply cond_b | (with_reducible apply bnd_b; intro _) | rfl)
def sh73x0 : Sh := { tmps := [(0, .c (.i .u64)), (1, .c (.i .u64)), (2, .c (.i .u64))], mem := [] }
def A73x0 (L : List Lf) : List (Bool × Res) := bnd (F73x0 N (li L 0) (li L 1) (li L 2) (fun p => some p)) fun q => [(q.isSome, ([.c (.i .u64 (q.getD default).1), .c (.i .u64 (q.getD default).2)], []))]
theorem raw73x0 (L : List Lf) : bd Tryz.prog (T95x0 N) (h73x0s2 N).h 73 sh73x0 L = F73x0 N (li L 0) (li L 1) (li L 2) (fun p => some ([.c (.i .u64 p.1), .c (.i .u64 p.2)], [])) := by kernel_rfl
theorem ok73x0 : FnOk Tryz.prog 73 sh73x0 (A73x0 N) :=
 (h73x0s2 N).fn progOk (T95x0_ok N) fun L x hx => ((raw73x0 N L).trans ((bind73x0 N ..).trans (alt1 x hx)))
def T73x0 : Oracle := ext 73 (spSh sh73x0 (A73x0 N)) (T95x0 N)
theorem T73x0_ok : OracleOk Tryz.prog (T73x0 N) := FnOk.to (ok73x0 N) (T95x0_ok N)
def rg96x0 : List (Nat × List Nat) := [(0, [0]), (1, [0])]
def hd96x0 : Hints := []
def h96x0s0 (N : Nat) : Sg Tryz.prog 0 96 := .start hd96x0 rg96x0
def F96x0 (N : Nat) (v0 : Int) (k0 : Bool → R) : R :=
 k0 (v0 != v0)
def V96x0 (v0 : Int) : Bool := F96x0 N v0 (fun p => p)
theorem tot96x0 (v0 : Int) (k0 : Bool → R) : F96x0 N v0 k0 = k0 (V96x0 N v0) := by
 unfold V96x0 F96x0
 repeat' (first | rfl | apply cond_k | (apply bnd_k; intro _))
def sh96x0 : Sh := { tmps := [(0, .c (.i .u64))], mem := [] }
def A96x0 (L : List Lf) : List (Bool × Res) := bnd (F96x0 N (li L 0) (fun p => p)) fun q => [(true, ([.c (.b q)], []))]
theorem raw96x0 (L : List Lf) : bd Tryz.prog (T73x0 N) (h96x0s0 N).h 96 sh96x0 L = F96x0 N (li L 0) (fun p => some ([.c (.b p)], [])) := by kernel_rfl
theorem ok96x0 : FnOk Tryz.prog 96 sh96x0 (A96x0 N) :=
 (h96x0s0 N).fn progOk (T73x0_ok N) fun L x hx => ((raw96x0 N L).trans ((tot96x0 N ..).trans (alt0 _ _ hx)))
def T96x0 : Oracle := ext 96 (spSh sh96x0 (A96x0 N)) (T73x0 N)
theorem T96x0_ok : OracleOk Tryz.prog (T96x0 N) := FnOk.to (ok96x0 N) (T73x0_ok N)
def rg74x0 : List (Nat × List Nat) := [(0, [0, 1]), (1, [0, 1]), (2, [1, 5, 0]), (3, [5, 6, 0, 1]), (4, [6]), (5, []), (6, []), (7, [6, 0, 1]), (8, []), (9, [0, 1]), (10, []), (11, [0, 1]), (12, []), (13, [])]
def hd74x0 : Hints := []
def h74x0s0 (N : Nat) : Sg Tryz.prog 0 74 := .start hd74x0 rg74x0
def F74x0 (v0 v1 : Int) (k0 : Int → R) : R :=
 bnd (V96x0 N v0) fun y0 =>
 bnd (V96x0 N v1) fun y1 =>
 bif y0 then
  bif y1 then
   k0 0
  else
   k0 (-1)
 else
  bif y1 then
   k0 1
  else
   bif (decide (v0 < v1)) then
    k0 (-1)
   else
    bif (decide (v0 > v1)) then
     k0 1
    else
     k0 0
def V74x0 (v0 v1 : Int) : Int := F74x0 N v0 v1 (fun p => p)
theorem tot74x0 (v0 v1 : Int) (k0 : Int → R) : F74x0 N v0 v1 k0 = k0 (V74x0 N v0 v1) := by
 unfold V74x0 F74x0
 repeat' (first | rfl | apply cond_k | (apply bnd_k; intro _))
def sh74x0 : Sh := { tmps := [(0, .c (.i .u64)), (1, .c (.i .u64))], mem := [] }
def A74x0 (L : List Lf) : List (Bool × Res) := bnd (F74x0 N (li L 0) (li L 1) (fun p => p)) fun q => [(true, ([.c (.i .i64 q)], []))]
theorem raw74x0 (L : List Lf) : bd Tryz.prog (T96x0 N) (h74x0s0 N).h 74 sh74x0 L = F74x0 N (li L 0) (li L 1) (fun p => some ([.c (.i .i64 p)], [])) := by kernel_rfl
theorem ok74x0 : FnOk Tryz.prog 74 sh74x0 (A74x0 N) :=
 (h74x0s0 N).fn progOk (T96x0_ok N) fun L x hx => ((raw74x0 N L).trans ((tot74x0 N ..).trans (alt0 _ _ hx)))
def T74x0 : Oracle := ext 74 (spSh sh74x0 (A74x0 N)) (T96x0 N)
theorem T74x0_ok : OracleOk Tryz.prog (T74x0 N) := FnOk.to (ok74x0 N) (T96x0_ok N)
def rg90x0 : List (Nat × List Nat) := [(0, [0]), (1, [0])]
def hd90x0 : Hints := []
def h90x0s0 (N : Nat) : Sg Tryz.prog 0 90 := .start hd90x0 rg90x0
def F90x0 (N : Nat) (k0 : Unit → R) : R :=
 k0 ()
def V90x0 : Unit := F90x0 N (fun p => p)
theorem tot90x0 (k0 : Unit → R) : F90x0 N k0 = k0 (V90x0 N) := by
 unfold V90x0 F90x0
 repeat' (first | rfl | apply cond_k | (apply bnd_k; intro _))
def sh90x0 : Sh := { tmps := [(0, .c (.b)), (1, .c (.i .u64)), (2, .c (.i .i64))], mem := [] }
def A90x0 (N : Nat) (L : List Lf) : List (Bool × Res) := [(true, ([.c (.b (lb L 0))], []))]
theorem raw90x0 (L : List Lf) : bd Tryz.prog (T74x0 N) (h90x0s0 N).h 90 sh90x0 L = F90x0 N (fun _ => some ([.c (.b (lb L 0))], [])) := by kernel_rfl
theorem ok90x0 : FnOk Tryz.prog 90 sh90x0 (A90x0 N) :=
 (h90x0s0 N).fn progOk (T74x0_ok N) fun L x hx => ((raw90x0 N L).trans ((tot90x0 N ..).trans (alt0 _ _ hx)))
def T90x0 : Oracle := ext 90 (spSh sh90x0 (A90x0 N)) (T74x0 N)
theorem T90x0_ok : OracleOk Tryz.prog (T90x0 N) := FnOk.to (ok90x0 N) (T74x0_ok N)
def rg91x0 : List (Nat × List Nat) := [(0, [0]), (1, [0])]
def hd91x0 : Hints := []
def h91x0s0 (N : Nat) : Sg Tryz.prog 0 91 := .start hd91x0 rg91x0
def F91x0 (N : Nat) (v0 : Bool) (k0 : Bool → R) : R :=
 k0 (!v0)
def V91x0 (v0 : Bool) : Bool := F91x0 N v0 (fun p => p)
theorem tot91x0 (v0 : Bool) (k0 : Bool → R) : F91x0 N v0 k0 = k0 (V91x0 N v0) := by
 unfold V91x0 F91x0
 repeat' (first | rfl | apply cond_k | (apply bnd_k; intro _))
def sh91x0 : Sh := { tmps := [(0, .c (.b)), (1, .c (.i .u64)), (2, .c (.i .i64))], mem := [] }
def A91x0 (L : List Lf) : List (Bool × Res) := bnd (F91x0 N (lb L 0) (fun p => p)) fun q => [(true, ([.c (.b q)], []))]
theorem raw91x0 (L : List Lf) : bd Tryz.prog (T90x0 N) (h91x0s0 N).h 91 sh91x0 L = F91x0 N (lb L 0) (fun p => some ([.c (.b p)], [])) := by kernel_rfl
theorem ok91x0 : FnOk Tryz.prog 91 sh91x0 (A91x0 N) :=
 (h91x0s0 N).fn progOk (T90x0_ok N) fun L x hx => ((raw91x0 N L).trans ((tot91x0 N ..).trans (alt0 _ _ hx)))
def T91x0 : Oracle := ext 91 (spSh sh91x0 (A91x0 N)) (T90x0 N)
theorem T91x0_ok : OracleOk Tryz.prog (T91x0 N) := FnOk.to (ok91x0 N) (T90x0_ok N)
def rg92x0 : List (Nat × List Nat) := [(0, []), (1, [])]
def hd92x0 : Hints := []
def h92x0s0 (N : Nat) : Sg Tryz.prog 0 92 := .start hd92x0 rg92x0
def F92x0 (N : Nat) (k0 : Unit → R) : R :=
 k0 ()
def V92x0 : Unit := F92x0 N (fun p => p)
theorem tot92x0 (k0 : Unit → R) : F92x0 N k0 = k0 (V92x0 N) := by
 unfold V92x0 F92x0
 repeat' (first | rfl | apply cond_k | (apply bnd_k; intro _))
def sh92x0 : Sh := { tmps := [(0, .c (.b)), (1, .c (.i .u64)), (2, .c (.i .i64))], mem := [] }
def A92x0 (N : Nat) (L : List Lf) : List (Bool × Res) := [(true, ([.c (.b false)], []))]
theorem raw92x0 (L : List Lf) : bd Tryz.prog (T91x0 N) (h92x0s0 N).h 92 sh92x0 L = F92x0 N (fun _ => some ([.c (.b false)], [])) := by kernel_rfl
theorem ok92x0 : FnOk Tryz.prog 92 sh92x0 (A92x0 N) :=
 (h92x0s0 N).fn progOk (T91x0_ok N) fun L x hx => ((raw92x0 N L).trans ((tot92x0 N ..).trans (alt0 _ _ hx)))
def T92x0 : Oracle := ext 92 (spSh sh92x0 (A92x0 N)) (T91x0 N)
theorem T92x0_ok : OracleOk Tryz.prog (T92x0 N) := FnOk.to (ok92x0 N) (T91x0_ok N)
def rg93x0 : List (Nat × List Nat) := [(0, [2, 0]), (1, [2, 0])]
def hd93x0 : Hints := []
def h93x0s0 (N : Nat) : Sg Tryz.prog 0 93 := .start hd93x0 rg93x0
def F93x0 (N : Nat) (v0 : Bool) (v2 : Int) (k0 : Bool → R) : R :=
 bnd (bif (decide (v2 > 0)) then true else (bif (v2 == 0) then (!v0) else false)) fun y0 =>
 k0 y0
def V93x0 (v0 : Bool) (v2 : Int) : Bool := F93x0 N v0 v2 (fun p => p)
theorem tot93x0 (v0 : Bool) (v2 : Int) (k0 : Bool → R) : F93x0 N v0 v2 k0 = k0 (V93x0 N v0 v2) := by
 unfold V93x0 F93x0
 repeat' (first | rfl | apply cond_k | (apply bnd_k; intro _))
def sh93x0 : Sh := { tmps := [(0, .c (.b)), (1, .c (.i .u64)), (2, .c (.i .i64))], mem := [] }
def A93x0 (L : List Lf) : List (Bool × Res) := bnd (F93x0 N (lb L 0) (li L 2) (fun p => p)) fun q => [(true, ([.c (.b q)], []))]
theorem raw93x0 (L : List Lf) : bd Tryz.prog (T92x0 N) (h93x0s0 N).h 93 sh93x0 L = F93x0 N (lb L 0) (li L 2) (fun p => some ([.c (.b p)], [])) := by kernel_rfl
theorem ok93x0 : FnOk Tryz.prog 93 sh93x0 (A93x0 N) :=
 (h93x0s0 N).fn progOk (T92x0_ok N) fun L x hx => ((raw93x0 N L).trans ((tot93x0 N ..).trans (alt0 _ _ hx)))
def T93x0 : Oracle := ext 93 (spSh sh93x0 (A93x0 N)) (T92x0 N)
theorem T93x0_ok : OracleOk Tryz.prog (T93x0 N) := FnOk.to (ok93x0 N) (T92x0_ok N)
def rg94x0 : List (Nat × List Nat) := [(0, [2, 1]), (1, [2, 1])]
def hd94x0 : Hints := []
def h94x0s0 (N : Nat) : Sg Tryz.prog 0 94 := .start hd94x0 rg94x0
def F94x0 (N : Nat) (v1 v2 : Int) (k0 : Bool → R) : R :=
 bnd (bif (decide (v2 > 0)) then true else (bif (v2 == 0) then ((v1.tmod 2) == 1) else false)) fun y0 =>
 k0 y0
def V94x0 (v1 v2 : Int) : Bool := F94x0 N v1 v2 (fun p => p)
theorem tot94x0 (v1 v2 : Int) (k0 : Bool → R) : F94x0 N v1 v2 k0 = k0 (V94x0 N v1 v2) := by
 unfold V94x0 F94x0
 repeat' (first | rfl | apply cond_k | (apply bnd_k; intro _))
def sh94x0 : Sh := { tmps := [(0, .c (.b)), (1, .c (.i .u64)), (2, .c (.i .i64))], mem := [] }
def A94x0 (L : List Lf) : List (Bool × Res) := bnd (F94x0 N (li L 1) (li L 2) (fun p => p)) fun q => [(true, ([.c (.b q)], []))]
theorem raw94x0 (L : List Lf) : bd Tryz.prog (T93x0 N) (h94x0s0 N).h 94 sh94x0 L = F94x0 N (li L 1) (li L 2) (fun p => some ([.c (.b p)], [])) := by kernel_rfl
theorem ok94x0 : FnOk Tryz.prog 94 sh94x0 (A94x0 N) :=
 (h94x0s0 N).fn progOk (T93x0_ok N) fun L x hx => ((raw94x0 N L).trans ((tot94x0 N ..).trans (alt0 _ _ hx)))
def T94x0 : Oracle := ext 94 (spSh sh94x0 (A94x0 N)) (T93x0 N)
theorem T94x0_ok : OracleOk Tryz.prog (T94x0 N) := FnOk.to (ok94x0 N) (T93x0_ok N)
def rg46x0 : List (Nat × List Nat) := [(0, [3, 2, 1, 0]), (1, [7, 2, 1, 0]), (2, [10, 7, 2, 1, 0]), (3, [11, 2, 1, 0, 10]), (4, []), (5, [2, 1, 0, 10, 11]), (6, []), (7, [0, 1, 2, 10, 11]), (8, [0, 12, 1, 2, 10, 11]), (9, [12, 13, 1, 2, 10, 11]), (10, [13, 1, 2, 10, 11, 12]), (11, [13, 1, 2, 10, 11, 12]), (12, [14, 2, 15, 10, 11, 12]), (13, []), (14, [14, 15, 2, 10, 11, 12]), (15, [17, 16, 10, 11, 12, 2]), (16, [16, 12]), (17, [16, 12]), (18, []), (19, [12, 16]), (20, [16]), (21, [16])]
def hd46x0 : Hints := [(32, [1, 2, 10, 11, 12, 13, 34], [], []), (46, [2, 10, 11, 12, 16, 17], [], []), (50, [12, 16, 77], [], [])]
def h46x0s0 (N : Nat) : Sg Tryz.prog 0 46 := .start hd46x0 rg46x0
def F46x0x32 (N : Nat) (w6 : Int) (w7 : Bool) (k0 : Int → R) : R :=
 bif w7 then
  k0 (IntKind.wrap .u64 (0 - w6))
 else
  k0 w6
def V46x0x32 (w6 : Int) (w7 : Bool) : Int := F46x0x32 N w6 w7 (fun p => p)
theorem tot46x0x32 (w6 : Int) (w7 : Bool) (k0 : Int → R) : F46x0x32 N w6 w7 k0 = k0 (V46x0x32 N w6 w7) := by
 unfold V46x0x32 F46x0x32
 repeat' (first | rfl | apply cond_k | (apply bnd_k; intro _))
def sh46x0x32 : Sh := { tmps := [(1, .c (.i .i64)), (2, .c (.i .i64)), (10, .c (.ksl 93 [(.a [(.i 1), (.i 90)]), (.a [(.i 2), (.i 91)]), (.a [(.i 3), (.i 92)]), (.a [(.i 4), (.i 93)]), (.a [(.i 5), (.i 94)])])), (11, .c (.i .i64)), (12, .c (.b)), (13, .c (.i .u64)), (34, .c (.b))], mem := [] }
def K46x0x32w0 (L : List Lf) (p : Int) : Ex × St := (.normal, mg (ofSh sh46x0x32 L) [13, 1, 2, 10, 11, 12] [(13, .c (.i .u64 p))] [] [])
def A46x0x32 (L : List Lf) : List (Bool × (Ex × St)) := bnd (F46x0x32 N (li L 6) (lb L 7) (fun p => p)) fun q => [(true, K46x0x32w0 L q)]
theorem raw46x0x32 (L : List Lf) : pc Tryz.prog (T94x0 N) (h46x0s0 N).h 0 100 46 32 sh46x0x32 L [13, 1, 2, 10, 11, 12] [] = F46x0x32 N (li L 6) (lb L 7) (fun p => some (K46x0x32w0 L p)) := by kernel_rfl
def h46x0s1 : Sg Tryz.prog 0 46 :=
 (h46x0s0 N).cut (A46x0x32 N) progOk (T94x0_ok N) fun L x hx => (raw46x0x32 N L).trans ((tot46x0x32 N ..).trans (alt0 _ _ hx))
def F46x0x46 (w0 w3 : Int) (w4 : Bool) (w5 w6 : Int) (k0 : Bool → Option R) : Option R :=
 bif (decide (w6 > 0)) then
  bif (decide (w5 ≤ 4611686018427387904)) then
   bif (w3 == 0) then
    bnd (V74x0 N w6 (IntKind.wrap .u64 ((IntKind.wrap .u64 w0) - w6))) fun y0 =>
    k0 w4
   else
    bif (w3 == 1) then
     bnd (V74x0 N w6 (IntKind.wrap .u64 ((IntKind.wrap .u64 w0) - w6))) fun y0 =>
     bnd (V91x0 N w4) fun y1 =>
     k0 y1
    else
     bif (w3 == 2) then
      bnd (V74x0 N w6 (IntKind.wrap .u64 ((IntKind.wrap .u64 w0) - w6))) fun y0 =>
      k0 false
     else
      bif (w3 == 3) then
       bnd (V74x0 N w6 (IntKind.wrap .u64 ((IntKind.wrap .u64 w0) - w6))) fun y0 =>
       bnd (V93x0 N w4 y0) fun y2 =>
       k0 y2
      else
       bif (w3 == 4) then
        bnd (V74x0 N w6 (IntKind.wrap .u64 ((IntKind.wrap .u64 w0) - w6))) fun y0 =>
        bnd (V94x0 N w5 y0) fun y3 =>
        k0 y3
       else
        none
  else
   k0 false
 else
  k0 false
def G46x0x46 (w0 w3 : Int) (w4 : Bool) (w5 w6 : Int) : Option (Bool) := F46x0x46 N w0 w3 w4 w5 w6 (fun p => some p)
theorem bind46x0x46 (w0 w3 : Int) (w4 : Bool) (w5 w6 : Int) (k0 : Bool → Option R) : F46x0x46 N w0 w3 w4 w5 w6 k0 = (G46x0x46 N w0 w3 w4 w5 w6).bind k0 := by
 unfold G46x0x46 F46x0x46
 repeat' (first | with_reducible apply cond_b | (with_reducible apply bnd_b; intro _) | rfl)
def J46x0x46 (L : List Lf) (k0 : Bool → Option R) : Option R := F46x0x46 N (li L 0) (li L 3) (lb L 4) (li L 5) (li L 6) k0
def sh46x0x46 : Sh := { tmps := [(2, .c (.i .i64)), (10, .c (.ksl 93 [(.a [(.i 1), (.i 90)]), (.a [(.i 2), (.i 91)]), (.a [(.i 3), (.i 92)]), (.a [(.i 4), (.i 93)]), (.a [(.i 5), (.i 94)])])), (11, .c (.i .i64)), (12, .c (.b)), (16, .c (.i .u64)), (17, .c (.i .u64))], mem := [] }
def K46x0x46w0 (L : List Lf) (p : Bool) : Ex × St := (.normal, mg (ofSh sh46x0x46 L) [16, 12, 77] [(77, .c (.b p))] [] [])
def A46x0x46 (L : List Lf) : List (Bool × (Ex × St)) := bnd (J46x0x46 N L (fun p => some p)) fun q => [(q.isSome, K46x0x46w0 L (q.getD default))]
theorem raw46x0x46 (L : List Lf) : pc Tryz.prog (T94x0 N) (h46x0s1 N).h 0 100 46 46 sh46x0x46 L [16, 12, 77] [] = J46x0x46 N L (fun p => some (K46x0x46w0 L p)) := by kernel_rfl
def h46x0s2 : Sg Tryz.prog 0 46 :=
 (h46x0s1 N).cut (A46x0x46 N) progOk (T94x0_ok N) fun L x hx => (raw46x0x46 N L).trans ((bind46x0x46 N ..).trans (alt1 x hx))
def F46x0x50 (N : Nat) (w1 : Int) (w2 : Bool) (k0 : Int → R) : R :=
 bif w2 then
  k0 (IntKind.wrap .u64 (w1 + 1))
 else
  k0 w1
def V46x0x50 (w1 : Int) (w2 : Bool) : Int := F46x0x50 N w1 w2 (fun p => p)
theorem tot46x0x50 (w1 : Int) (w2 : Bool) (k0 : Int → R) : F46x0x50 N w1 w2 k0 = k0 (V46x0x50 N w1 w2) := by
 unfold V46x0x50 F46x0x50
 repeat' (first | rfl | apply cond_k | (apply bnd_k; intro _))
def sh46x0x50 : Sh := { tmps := [(12, .c (.b)), (16, .c (.i .u64)), (77, .c (.b))], mem := [] }
def K46x0x50w0 (L : List Lf) (p : Int) : Ex × St := (.normal, ⟨[(16, .c (.i .u64 p)), (12, .c (.b (lb L 0)))], []⟩)
def A46x0x50 (L : List Lf) : List (Bool × (Ex × St)) := bnd (F46x0x50 N (li L 1) (lb L 2) (fun p => p)) fun q => [(true, K46x0x50w0 L q)]
theorem raw46x0x50 (L : List Lf) : pc Tryz.prog (T94x0 N) (h46x0s2 N).h 0 100 46 50 sh46x0x50 L [16, 12] [] = F46x0x50 N (li L 1) (lb L 2) (fun p => some (K46x0x50w0 L p)) := by kernel_rfl
def h46x0s3 : Sg Tryz.prog 0 46 :=
 (h46x0s2 N).cut (A46x0x50 N) progOk (T94x0_ok N) fun L x hx => (raw46x0x50 N L).trans ((tot46x0x50 N ..).trans (alt0 _ _ hx))
def F46x0 (v0 v1 v2 v3 : Int) (k0 : Int × Int → Option R) : Option R :=
 bnd (G70x0 N v3) fun y0 =>
 bif y0.isSome then
  bif (decide ((y0.getD default) < 0)) then
   k0 (0, 7)
  else
   bif (bif (decide (v2 ≤ 0)) then true else (decide (v1 < 0))) then
    k0 (0, 1)
   else
    bnd (V46x0x32 N (IntKind.wrap .u64 v0) (decide (v0 < 0))) fun y1 =>
    bnd (V72x0 N y1 (IntKind.wrap .u64 v1)) fun y2 =>
    bif (decide (y2.1 ≥ (IntKind.wrap .u64 v2))) then
     k0 (0, 9)
    else
     bnd (G73x0 N y2.1 y2.2 (IntKind.wrap .u64 v2)) fun y3 =>
     bif y3.isSome then
      bnd (G46x0x46 N v2 (y0.getD default) (decide (v0 < 0)) (y3.getD default).1 (y3.getD default).2) fun y4 =>
      bif y4.isSome then
       bnd (V46x0x50 N (y3.getD default).1 (y4.getD default)) fun y5 =>
       bif (decide (y5 > 4611686018427387904)) then
        k0 (0, 9)
       else
        bif (decide (v0 < 0)) then
         k0 ((IntKind.wrap .i64 (0 - (IntKind.wrap .i64 y5))), 0)
        else
         k0 ((IntKind.wrap .i64 y5), 0)
      else
       none
     else
      none
 else
  none
def G46x0 (v0 v1 v2 v3 : Int) : Option (Int × Int) := F46x0 N v0 v1 v2 v3 (fun p => some p)
theorem bind46x0 (v0 v1 v2 v3 : Int) (k0 : Int × Int → Option R) : F46x0 N v0 v1 v2 v3 k0 = (G46x0 N v0 v1 v2 v3).bind k0 := by
 unfold G46x0 F46x0
 repeat' (first | with_reducible apply cond_b | (with_reducible apply bnd_b; intro _) | rfl)
def J46x0 (L : List Lf) (k0 : Int × Int → Option R) : Option R := F46x0 N (li L 0) (li L 1) (li L 2) (li L 3) k0
def sh46x0 : Sh := { tmps := [(0, .c (.i .i64)), (1, .c (.i .i64)), (2, .c (.i .i64)), (3, .c (.i .i64))], mem := [] }
def A46x0 (L : List Lf) : List (Bool × Res) := bnd (J46x0 N L (fun p => some p)) fun q => [(q.isSome, ([.c (.i .i64 (q.getD default).1), .c (.i .i64 (q.getD default).2)], []))]
theorem raw46x0 (L : List Lf) : bd Tryz.prog (T94x0 N) (h46x0s3 N).h 46 sh46x0 L = J46x0 N L (fun p => some ([.c (.i .i64 p.1), .c (.i .i64 p.2)], [])) := by kernel_rfl
theorem ok46x0 : FnOk Tryz.prog 46 sh46x0 (A46x0 N) :=
 (h46x0s3 N).fn progOk (T94x0_ok N) fun L x hx => ((raw46x0 N L).trans ((bind46x0 N ..).trans (alt1 x hx)))
def T46x0 : Oracle := ext 46 (spSh sh46x0 (A46x0 N)) (T94x0 N)
theorem T46x0_ok : OracleOk Tryz.prog (T46x0 N) := FnOk.to (ok46x0 N) (T94x0_ok N)
def rg65x0 : List (Nat × List Nat) := [(0, [0, 2, 1]), (1, [3, 1, 5]), (2, [1]), (3, [3, 5, 1]), (4, [3, 5, 1]), (6, [13, 5, 1, 3]), (8, [13, 5, 1, 3]), (5, [5, 1, 3]), (9, [5, 1, 3]), (7, [5, 1, 3]), (10, [7, 3])]
def hd65x0 : Hints := [(15029, [1, 3, 5, 30], [3, 5], []), (24023, [1, 3, 5, 13, 21], [3, 5], [])]
def h65x0s0 (N : Nat) : Sg Tryz.prog 0 65 := .start hd65x0 rg65x0
def F65x0x15029 (w0 : Int) (w1 : Bool) (w7 w8 : Int) (k0 : Int → Option R) : Option R :=
 bif w1 then
  bnd (G46x0 N w7 w0 100 4) fun y0 =>
  bif y0.isSome then
   k0 (y0.getD default).1
  else
   none
 else
  bnd (G46x0 N 100 w8 w0 4) fun y1 =>
  bif y1.isSome then
   k0 (y1.getD default).1
  else
   none
def G65x0x15029 (w0 : Int) (w1 : Bool) (w7 w8 : Int) : Option (Int) := F65x0x15029 N w0 w1 w7 w8 (fun p => some p)
theorem bind65x0x15029 (w0 : Int) (w1 : Bool) (w7 w8 : Int) (k0 : Int → Option R) : F65x0x15029 N w0 w1 w7 w8 k0 = (G65x0x15029 N w0 w1 w7 w8).bind k0 := by
 unfold G65x0x15029 F65x0x15029
 repeat' (first | with_reducible apply cond_b | (with_reducible apply bnd_b; intro _) | rfl)
def J65x0x15029 (L : List Lf) (k0 : Int → Option R) : Option R := F65x0x15029 N (li L 0) (lb L 1) (li L 7) (li L 8) k0
def sh65x0x15029 : Sh := { tmps := [(1, .c (.i .i64)), (3, .c (.p 3 0)), (5, .c (.p 5 0)), (30, .c (.b))], mem := [(3, .box ([.i .i64, .b, .i .i64, .i .i64])), (5, .box ([.i .i64, .i .i64, .i .i64]))] }
def K65x0x15029w0 (L : List Lf) (p : Int) : Ex × St := (.normal, mg (ofSh sh65x0x15029 L) [7, 3] [(7, .c (.i .i64 p))] [3] [])
def A65x0x15029 (L : List Lf) : List (Bool × (Ex × St)) := bnd (J65x0x15029 N L (fun p => some p)) fun q => [(q.isSome, K65x0x15029w0 L (q.getD default))]
theorem raw65x0x15029 (L : List Lf) : pc Tryz.prog (T46x0 N) (h65x0s0 N).h 0 100 65 15029 sh65x0x15029 L [7, 3] [3] = J65x0x15029 N L (fun p => some (K65x0x15029w0 L p)) := by kernel_rfl
def h65x0s1 : Sg Tryz.prog 0 65 :=
 (h65x0s0 N).cut (A65x0x15029 N) progOk (T46x0_ok N) fun L x hx => (raw65x0x15029 N L).trans ((bind65x0x15029 N ..).trans (alt1 x hx))
def F65x0x24023 (w0 w1 : Int) (w2 : Bool) (w7 w8 w9 : Int) (k0 : Int → Option R) : Option R :=
 bif w2 then
  bnd (G46x0 N w7 w0 100 4) fun y0 =>
  bif y0.isSome then
   k0 (y0.getD default).1
  else
   none
 else
  bnd (G65x0x15029 N w0 (w1 == 2) w8 w9) fun y1 =>
  bif y1.isSome then
   k0 (y1.getD default)
  else
   none
def G65x0x24023 (w0 w1 : Int) (w2 : Bool) (w7 w8 w9 : Int) : Option (Int) := F65x0x24023 N w0 w1 w2 w7 w8 w9 (fun p => some p)
theorem bind65x0x24023 (w0 w1 : Int) (w2 : Bool) (w7 w8 w9 : Int) (k0 : Int → Option R) : F65x0x24023 N w0 w1 w2 w7 w8 w9 k0 = (G65x0x24023 N w0 w1 w2 w7 w8 w9).bind k0 := by
 unfold G65x0x24023 F65x0x24023
 repeat' (first | with_reducible apply cond_b | (with_reducible apply bnd_b; intro _) | rfl)
def J65x0x24023 (L : List Lf) (k0 : Int → Option R) : Option R := F65x0x24023 N (li L 0) (li L 1) (lb L 2) (li L 7) (li L 8) (li L 9) k0
def sh65x0x24023 : Sh := { tmps := [(1, .c (.i .i64)), (3, .c (.p 3 0)), (5, .c (.p 5 0)), (13, .c (.i .i64)), (21, .c (.b))], mem := [(3, .box ([.i .i64, .b, .i .i64, .i .i64])), (5, .box ([.i .i64, .i .i64, .i .i64]))] }
def K65x0x24023w0 (L : List Lf) (p : Int) : Ex × St := (.normal, mg (ofSh sh65x0x24023 L) [7, 3] [(7, .c (.i .i64 p))] [3] [])
def A65x0x24023 (L : List Lf) : List (Bool × (Ex × St)) := bnd (J65x0x24023 N L (fun p => some p)) fun q => [(q.isSome, K65x0x24023w0 L (q.getD default))]
theorem raw65x0x24023 (L : List Lf) : pc Tryz.prog (T46x0 N) (h65x0s1 N).h 0 100 65 24023 sh65x0x24023 L [7, 3] [3] = J65x0x24023 N L (fun p => some (K65x0x24023w0 L p)) := by kernel_rfl
def h65x0s2 : Sg Tryz.prog 0 65 :=
 (h65x0s1 N).cut (A65x0x24023 N) progOk (T46x0_ok N) fun L x hx => (raw65x0x24023 N L).trans ((bind65x0x24023 N ..).trans (alt1 x hx))
def F65x0 (v0 : Int) (v1 : Bool) (v4 v5 v6 v7 : Int) (k0 : Int → Option R) : Option R :=
 bif (!v1) then
  k0 v4
 else
  bnd (G65x0x24023 N v4 v0 (v0 == 1) v5 v6 v7) fun y0 =>
  bif y0.isSome then
   bnd (G82x0 N v0) fun y1 =>
   bif y1.isSome then
    bnd (min2 (max2 (y0.getD default) 1) (y1.getD default)) fun y2 =>
    k0 y2
   else
    none
  else
   none
def G65x0 (v0 : Int) (v1 : Bool) (v4 v5 v6 v7 : Int) : Option (Int) := F65x0 N v0 v1 v4 v5 v6 v7 (fun p => some p)
theorem bind65x0 (v0 : Int) (v1 : Bool) (v4 v5 v6 v7 : Int) (k0 : Int → Option R) : F65x0 N v0 v1 v4 v5 v6 v7 k0 = (G65x0 N v0 v1 v4 v5 v6 v7).bind k0 := by
 unfold G65x0 F65x0
 repeat' (first | with_reducible apply cond_b | (with_reducible apply bnd_b; intro _) | rfl)
def J65x0 (L : List Lf) (k0 : Int → Option R) : Option R := F65x0 N (li L 0) (lb L 1) (li L 4) (li L 5) (li L 6) (li L 7) k0
def sh65x0 : Sh := { tmps := [(0, .g ([.i .i64, .b, .i .i64, .i .i64])), (1, .c (.i .i64)), (2, .g ([.i .i64, .i .i64, .i .i64]))], mem := [] }
def A65x0 (L : List Lf) : List (Bool × Res) := bnd (J65x0 N L (fun p => some p)) fun q => [(q.isSome, ([.c (.i .i64 (q.getD default))], []))]
theorem raw65x0 (L : List Lf) : bd Tryz.prog (T46x0 N) (h65x0s2 N).h 65 sh65x0 L = J65x0 N L (fun p => some ([.c (.i .i64 p)], [])) := by kernel_rfl
theorem ok65x0 : FnOk Tryz.prog 65 sh65x0 (A65x0 N) :=
 (h65x0s2 N).fn progOk (T46x0_ok N) fun L x hx => ((raw65x0 N L).trans ((bind65x0 N ..).trans (alt1 x hx)))
def T65x0 : Oracle := ext 65 (spSh sh65x0 (A65x0 N)) (T46x0 N)
theorem T65x0_ok : OracleOk Tryz.prog (T65x0 N) := FnOk.to (ok65x0 N) (T46x0_ok N)
def rg87x0 : List (Nat × List Nat) := [(0, [0]), (1, [0])]
def hd87x0 : Hints := []
def h87x0s0 (N : Nat) : Sg Tryz.prog 0 87 := .start hd87x0 rg87x0
def F87x0 (N : Nat) (v0 : Int) (k0 : Bool → R) : R :=
 bnd (bif (decide (v0 ≥ 1)) then (decide (v0 ≤ 36000)) else false) fun y0 =>
 k0 y0
def V87x0 (v0 : Int) : Bool := F87x0 N v0 (fun p => p)
theorem tot87x0 (v0 : Int) (k0 : Bool → R) : F87x0 N v0 k0 = k0 (V87x0 N v0) := by
 unfold V87x0 F87x0
 repeat' (first | rfl | apply cond_k | (apply bnd_k; intro _))
def sh87x0 : Sh := { tmps := [(0, .c (.i .i64))], mem := [] }
def A87x0 (L : List Lf) : List (Bool × Res) := bnd (F87x0 N (li L 0) (fun p => p)) fun q => [(true, ([.c (.b q)], []))]
theorem raw87x0 (L : List Lf) : bd Tryz.prog (T65x0 N) (h87x0s0 N).h 87 sh87x0 L = F87x0 N (li L 0) (fun p => some ([.c (.b p)], [])) := by kernel_rfl
theorem ok87x0 : FnOk Tryz.prog 87 sh87x0 (A87x0 N) :=
 (h87x0s0 N).fn progOk (T65x0_ok N) fun L x hx => ((raw87x0 N L).trans ((tot87x0 N ..).trans (alt0 _ _ hx)))
def T87x0 : Oracle := ext 87 (spSh sh87x0 (A87x0 N)) (T65x0 N)
theorem T87x0_ok : OracleOk Tryz.prog (T87x0 N) := FnOk.to (ok87x0 N) (T65x0_ok N)
def rg66x0 : List (Nat × List Nat) := [(0, [0, 1]), (1, [0, 1]), (2, []), (3, [0, 1])]
def hd66x0 : Hints := [(4, [0, 1], [], [])]
def h66x0s0 (N : Nat) : Sg Tryz.prog 0 66 := .start hd66x0 rg66x0
def F66x0x4 (w0 w1 : Int) (k0 : Bool → R) : R :=
 bnd (bif (decide (w0 < 0)) then true else (decide (w0 > 1000000000))) fun y0 =>
 bif y0 then
  k0 true
 else
  bnd (V87x0 N w1) fun y1 =>
  k0 (!y1)
def V66x0x4 (w0 w1 : Int) : Bool := F66x0x4 N w0 w1 (fun p => p)
theorem tot66x0x4 (w0 w1 : Int) (k0 : Bool → R) : F66x0x4 N w0 w1 k0 = k0 (V66x0x4 N w0 w1) := by
 unfold V66x0x4 F66x0x4
 repeat' (first | rfl | apply cond_k | (apply bnd_k; intro _))
def sh66x0x4 : Sh := { tmps := [(0, .c (.i .i64)), (1, .c (.i .i64))], mem := [] }
def K66x0x4w0 (L : List Lf) (p : Bool) : Ex × St := (.normal, mg (ofSh sh66x0x4 L) [0, 1, 16] [(16, .c (.b p))] [] [])
def A66x0x4 (L : List Lf) : List (Bool × (Ex × St)) := bnd (F66x0x4 N (li L 0) (li L 1) (fun p => p)) fun q => [(true, K66x0x4w0 L q)]
theorem raw66x0x4 (L : List Lf) : pc Tryz.prog (T87x0 N) (h66x0s0 N).h 0 100 66 4 sh66x0x4 L [0, 1, 16] [] = F66x0x4 N (li L 0) (li L 1) (fun p => some (K66x0x4w0 L p)) := by kernel_rfl
def h66x0s1 : Sg Tryz.prog 0 66 :=
 (h66x0s0 N).cut (A66x0x4 N) progOk (T87x0_ok N) fun L x hx => (raw66x0x4 N L).trans ((tot66x0x4 N ..).trans (alt0 _ _ hx))
def F66x0 (v0 v1 : Int) (k0 : Int × Int → Option R) : Option R :=
 bnd (V66x0x4 N v0 v1) fun y0 =>
 bif y0 then
  k0 (0, 9)
 else
  bnd (G46x0 N v0 v1 10000 4) fun y1 =>
  bif y1.isSome then
   k0 (y1.getD default)
  else
   none
def G66x0 (v0 v1 : Int) : Option (Int × Int) := F66x0 N v0 v1 (fun p => some p)
theorem bind66x0 (v0 v1 : Int) (k0 : Int × Int → Option R) : F66x0 N v0 v1 k0 = (G66x0 N v0 v1).bind k0 := by
 unfold G66x0 F66x0
 repeat' (first | with_reducible apply cond_b | (with_reducible apply bnd_b; intro _) | rfl)
def sh66x0 : Sh := { tmps := [(0, .c (.i .i64)), (1, .c (.i .i64))], mem := [] }
def A66x0 (L : List Lf) : List (Bool × Res) := bnd (F66x0 N (li L 0) (li L 1) (fun p => some p)) fun q => [(q.isSome, ([.c (.i .i64 (q.getD default).1), .c (.i .i64 (q.getD default).2)], []))]
theorem raw66x0 (L : List Lf) : bd Tryz.prog (T87x0 N) (h66x0s1 N).h 66 sh66x0 L = F66x0 N (li L 0) (li L 1) (fun p => some ([.c (.i .i64 p.1), .c (.i .i64 p.2)], [])) := by kernel_rfl
theorem ok66x0 : FnOk Tryz.prog 66 sh66x0 (A66x0 N) :=
 (h66x0s1 N).fn progOk (T87x0_ok N) fun L x hx => ((raw66x0 N L).trans ((bind66x0 N ..).trans (alt1 x hx)))
def T66x0 : Oracle := ext 66 (spSh sh66x0 (A66x0 N)) (T87x0 N)
theorem T66x0_ok : OracleOk Tryz.prog (T66x0 N) := FnOk.to (ok66x0 N) (T87x0_ok N)
def rg41x0 : List (Nat × List Nat) := [(0, [0, 1, 2]), (1, [2, 3, 4, 6]), (2, [7, 3, 4, 2, 6]), (3, [3, 4, 7, 2, 6]), (4, [8, 9, 7, 3, 4, 2, 6]), (5, [3, 8, 9, 7, 4, 2, 6]), (6, [8, 9, 7, 3, 4, 2, 6]), (7, [3, 4, 7, 2, 6]), (8, [10, 4, 7, 3, 2, 6]), (9, [4, 7, 3, 2, 6]), (10, [7, 3, 2, 6, 11]), (11, [7, 3, 2, 6]), (12, [3, 11, 2, 7, 6]), (13, [12, 2, 7, 6]), (14, [2, 10, 7, 6]), (15, [7, 6])]
def hd41x0 : Hints := [(20, [2, 3, 4, 6, 7, 8, 9, 48], [3, 4, 6, 7], []), (11, [2, 3, 4, 6, 7, 23], [3, 4, 6, 7], []), (35, [2, 3, 6, 7, 11, 61], [3, 6, 7], []), (29, [2, 3, 4, 6, 7, 10, 56], [3, 4, 6, 7], [])]
def h41x0s0 (N : Nat) : Sg Tryz.prog 0 41 := .start hd41x0 rg41x0
def F41x0x20 (N : Nat) (w1 w2 : Int) (w3 : Bool) (w32 w33 : Int) (k0 : Int × Int → R) : R :=
 bif w3 then
  k0 (w1, w2)
 else
  k0 (w32, w33)
def V41x0x20 (w1 w2 : Int) (w3 : Bool) (w32 w33 : Int) : Int × Int := F41x0x20 N w1 w2 w3 w32 w33 (fun p => p)
theorem tot41x0x20 (w1 w2 : Int) (w3 : Bool) (w32 w33 : Int) (k0 : Int × Int → R) : F41x0x20 N w1 w2 w3 w32 w33 k0 = k0 (V41x0x20 N w1 w2 w3 w32 w33) := by
 unfold V41x0x20 F41x0x20
 repeat' (first | rfl | apply cond_k | (apply bnd_k; intro _))
def J41x0x20 (L : List Lf) (k0 : Int × Int → R) : R := F41x0x20 N (li L 1) (li L 2) (lb L 3) (li L 32) (li L 33) k0
def sh41x0x20 : Sh := { tmps := [(2, .c (.i .i64)), (3, .c (.p 3 0)), (4, .c (.p 4 0)), (6, .c (.p 6 0)), (7, .c (.p 7 0)), (8, .c (.i .i64)), (9, .c (.i .i64)), (48, .c (.b))], mem := [(3, .box (.i .i64 :: .s :: .i .i64 :: .i .i64 :: .i .i64 :: [.b, .i .i64, .i .i64, .i .i64, .sl 64])), (4, .box ([.i .i64, .i .i64, .i .i64])), (6, .box (.i .i64 :: .i .i64 :: .s :: rI 5 ([]))), (7, .box (.i .i64 :: .i .i64 :: .s :: rI 5 ([])))] }
def K41x0x20w0 (L : List Lf) (p : Int × Int) : Ex × St := (.normal, mg (ofSh sh41x0x20 L) [3, 4, 7, 2, 6] [] [7, 6, 4, 3] [(7, .box [.i .i64 (li L 26), .i .i64 (li L 27), .s (ls L 28), .i .i64 (li L 29), .i .i64 (li L 30), .i .i64 (li L 31), .i .i64 p.1, .i .i64 p.2])])
def A41x0x20 (L : List Lf) : List (Bool × (Ex × St)) := bnd (J41x0x20 N L (fun p => p)) fun q => [(true, K41x0x20w0 L q)]
theorem raw41x0x20 (L : List Lf) : pc Tryz.prog (T66x0 N) (h41x0s0 N).h 0 100 41 20 sh41x0x20 L [3, 4, 7, 2, 6] [7, 6, 4, 3] = J41x0x20 N L (fun p => some (K41x0x20w0 L p)) := by kernel_rfl
def h41x0s1 : Sg Tryz.prog 0 41 :=
 (h41x0s0 N).cut (A41x0x20 N) progOk (T66x0_ok N) fun L x hx => (raw41x0x20 N L).trans ((tot41x0x20 N ..).trans (alt0 _ _ hx))
def F41x0x11 (w1 : Bool) (w2 w6 : Int) (w7 : Bool) (w8 w9 w13 w14 w15 w28 w29 w30 w31 : Int) (k0 : Int × Int × Int × Int → Option R) : Option R :=
 bif w1 then
  bnd (G65x0 N w6 w7 w8 w13 w14 w15) fun y0 =>
  bif y0.isSome then
   bnd (G65x0 N w6 w7 w9 w13 w14 w15) fun y1 =>
   bif y1.isSome then
    bnd (V41x0x20 N (y0.getD default) (y1.getD default) (w2 == 2) w30 w31) fun y2 =>
    k0 ((min2 (y0.getD default) (y1.getD default)), (max2 (y0.getD default) (y1.getD default)), y2.1, y2.2)
   else
    none
  else
   none
 else
  k0 (w28, w29, w30, w31)
def G41x0x11 (w1 : Bool) (w2 w6 : Int) (w7 : Bool) (w8 w9 w13 w14 w15 w28 w29 w30 w31 : Int) : Option (Int × Int × Int × Int) := F41x0x11 N w1 w2 w6 w7 w8 w9 w13 w14 w15 w28 w29 w30 w31 (fun p => some p)
theorem bind41x0x11 (w1 : Bool) (w2 w6 : Int) (w7 : Bool) (w8 w9 w13 w14 w15 w28 w29 w30 w31 : Int) (k0 : Int × Int × Int × Int → Option R) : F41x0x11 N w1 w2 w6 w7 w8 w9 w13 w14 w15 w28 w29 w30 w31 k0 = (G41x0x11 N w1 w2 w6 w7 w8 w9 w13 w14 w15 w28 w29 w30 w31).bind k0 := by
 unfold G41x0x11 F41x0x11
 repeat' (first | with_reducible apply cond_b | (with_reducible apply bnd_b; intro _) | rfl)
def J41x0x11 (L : List Lf) (k0 : Int × Int × Int × Int → Option R) : Option R := F41x0x11 N (lb L 1) (li L 2) (li L 6) (lb L 7) (li L 8) (li L 9) (li L 13) (li L 14) (li L 15) (li L 28) (li L 29) (li L 30) (li L 31) k0
def sh41x0x11 : Sh := { tmps := [(2, .c (.i .i64)), (3, .c (.p 3 0)), (4, .c (.p 4 0)), (6, .c (.p 6 0)), (7, .c (.p 7 0)), (23, .c (.b))], mem := [(3, .box (.i .i64 :: .s :: .i .i64 :: .i .i64 :: .i .i64 :: [.b, .i .i64, .i .i64, .i .i64, .sl 64])), (4, .box ([.i .i64, .i .i64, .i .i64])), (6, .box (.i .i64 :: .i .i64 :: .s :: rI 5 ([]))), (7, .box (.i .i64 :: .i .i64 :: .s :: rI 5 ([])))] }
def K41x0x11w0 (L : List Lf) (p : Int × Int × Int × Int) : Ex × St := (.normal, mg (ofSh sh41x0x11 L) [3, 4, 7, 2, 6] [] [6, 7, 4, 3] [(7, .box [.i .i64 (li L 24), .i .i64 (li L 25), .s (ls L 26), .i .i64 (li L 27), .i .i64 p.1, .i .i64 p.2.1, .i .i64 p.2.2.1, .i .i64 p.2.2.2])])
def A41x0x11 (L : List Lf) : List (Bool × (Ex × St)) := bnd (J41x0x11 N L (fun p => some p)) fun q => [(q.isSome, K41x0x11w0 L (q.getD default))]
theorem raw41x0x11 (L : List Lf) : pc Tryz.prog (T66x0 N) (h41x0s1 N).h 0 100 41 11 sh41x0x11 L [3, 4, 7, 2, 6] [6, 7, 4, 3] = J41x0x11 N L (fun p => some (K41x0x11w0 L p)) := by kernel_rfl
def h41x0s2 : Sg Tryz.prog 0 41 :=
 (h41x0s1 N).cut (A41x0x11 N) progOk (T66x0_ok N) fun L x hx => (raw41x0x11 N L).trans ((bind41x0x11 N ..).trans (alt1 x hx))
def F41x0x35 (N : Nat) (w1 : Int) (w2 : Bool) (w26 w27 : Int) (k0 : Int → R) : R :=
 bif w2 then
  k0 (IntKind.wrap .i64 ((IntKind.wrap .i64 (w26 + w27)).tdiv 2))
 else
  k0 w1
def V41x0x35 (w1 : Int) (w2 : Bool) (w26 w27 : Int) : Int := F41x0x35 N w1 w2 w26 w27 (fun p => p)
theorem tot41x0x35 (w1 : Int) (w2 : Bool) (w26 w27 : Int) (k0 : Int → R) : F41x0x35 N w1 w2 w26 w27 k0 = k0 (V41x0x35 N w1 w2 w26 w27) := by
 unfold V41x0x35 F41x0x35
 repeat' (first | rfl | apply cond_k | (apply bnd_k; intro _))
def J41x0x35 (L : List Lf) (k0 : Int → R) : R := F41x0x35 N (li L 1) (lb L 2) (li L 26) (li L 27) k0
def sh41x0x35 : Sh := { tmps := [(2, .c (.i .i64)), (3, .c (.p 3 0)), (6, .c (.p 6 0)), (7, .c (.p 7 0)), (11, .c (.i .i64)), (61, .c (.b))], mem := [(3, .box (.i .i64 :: .s :: .i .i64 :: .i .i64 :: .i .i64 :: [.b, .i .i64, .i .i64, .i .i64, .sl 64])), (6, .box (.i .i64 :: .i .i64 :: .s :: rI 5 ([]))), (7, .box (.i .i64 :: .i .i64 :: .s :: rI 5 ([])))] }
def K41x0x35w0 (L : List Lf) (p : Int) : Ex × St := (.normal, mg (ofSh sh41x0x35 L) [3, 11, 2, 7, 6] [(11, .c (.i .i64 p))] [7, 6, 3] [])
def A41x0x35 (L : List Lf) : List (Bool × (Ex × St)) := bnd (J41x0x35 N L (fun p => p)) fun q => [(true, K41x0x35w0 L q)]
theorem raw41x0x35 (L : List Lf) : pc Tryz.prog (T66x0 N) (h41x0s2 N).h 0 100 41 35 sh41x0x35 L [3, 11, 2, 7, 6] [7, 6, 3] = J41x0x35 N L (fun p => some (K41x0x35w0 L p)) := by kernel_rfl
def h41x0s3 : Sg Tryz.prog 0 41 :=
 (h41x0s2 N).cut (A41x0x35 N) progOk (T66x0_ok N) fun L x hx => (raw41x0x35 N L).trans ((tot41x0x35 N ..).trans (alt0 _ _ hx))
def F41x0x29 (w1 : Int) (w2 : Bool) (w6 w16 w28 w29 w30 : Int) (k0 : Int → Option R) : Option R :=
 bif w2 then
  bnd (V41x0x35 N w16 (w28 == 4) w29 w30) fun y0 =>
  bnd (G66x0 N w6 y0) fun y1 =>
  bif y1.isSome then
   k0 (max2 (y1.getD default).1 1)
  else
   none
 else
  k0 w1
def G41x0x29 (w1 : Int) (w2 : Bool) (w6 w16 w28 w29 w30 : Int) : Option (Int) := F41x0x29 N w1 w2 w6 w16 w28 w29 w30 (fun p => some p)
theorem bind41x0x29 (w1 : Int) (w2 : Bool) (w6 w16 w28 w29 w30 : Int) (k0 : Int → Option R) : F41x0x29 N w1 w2 w6 w16 w28 w29 w30 k0 = (G41x0x29 N w1 w2 w6 w16 w28 w29 w30).bind k0 := by
 unfold G41x0x29 F41x0x29
 repeat' (first | with_reducible apply cond_b | (with_reducible apply bnd_b; intro _) | rfl)
def J41x0x29 (L : List Lf) (k0 : Int → Option R) : Option R := F41x0x29 N (li L 1) (lb L 2) (li L 6) (li L 16) (li L 28) (li L 29) (li L 30) k0
def sh41x0x29 : Sh := { tmps := [(2, .c (.i .i64)), (3, .c (.p 3 0)), (4, .c (.p 4 0)), (6, .c (.p 6 0)), (7, .c (.p 7 0)), (10, .c (.i .i64)), (56, .c (.b))], mem := [(3, .box (.i .i64 :: .s :: .i .i64 :: .i .i64 :: .i .i64 :: [.b, .i .i64, .i .i64, .i .i64, .sl 64])), (4, .box ([.i .i64, .i .i64, .i .i64])), (6, .box (.i .i64 :: .i .i64 :: .s :: rI 5 ([]))), (7, .box (.i .i64 :: .i .i64 :: .s :: rI 5 ([])))] }
def K41x0x29w0 (L : List Lf) (p : Int) : Ex × St := (.normal, mg (ofSh sh41x0x29 L) [2, 10, 7, 6] [(10, .c (.i .i64 p))] [6, 7] [])
def A41x0x29 (L : List Lf) : List (Bool × (Ex × St)) := bnd (J41x0x29 N L (fun p => some p)) fun q => [(q.isSome, K41x0x29w0 L (q.getD default))]
theorem raw41x0x29 (L : List Lf) : pc Tryz.prog (T66x0 N) (h41x0s3 N).h 0 100 41 29 sh41x0x29 L [2, 10, 7, 6] [6, 7] = J41x0x29 N L (fun p => some (K41x0x29w0 L p)) := by kernel_rfl
def h41x0s4 : Sg Tryz.prog 0 41 :=
 (h41x0s3 N).cut (A41x0x29 N) progOk (T66x0_ok N) fun L x hx => (raw41x0x29 N L).trans ((bind41x0x29 N ..).trans (alt1 x hx))
def F41x0 (v0 v2 v3 v4 : Int) (v5 : Bool) (v6 v7 v11 v12 v13 v14 : Int) (k0 : Ty1 → Option R) : Option R :=
 bnd (G41x0x11 N (v4 != 0) v0 v4 v5 v6 v7 v11 v12 v13 0 0 0 0) fun y0 =>
 bif y0.isSome then
  bnd (G41x0x29 N v2 (v2 == 0) v3 v13 v4 (y0.getD default).1 (y0.getD default).2.1) fun y1 =>
  bif y1.isSome then
   k0 ((IntKind.wrap .i64 (v14 + (y1.getD default))), (y0.getD default).1, (y0.getD default).2.1, (y0.getD default).2.2.1, (y0.getD default).2.2.2)
  else
   none
 else
  none
def G41x0 (v0 v2 v3 v4 : Int) (v5 : Bool) (v6 v7 v11 v12 v13 v14 : Int) : Option (Ty1) := F41x0 N v0 v2 v3 v4 v5 v6 v7 v11 v12 v13 v14 (fun p => some p)
theorem bind41x0 (v0 v2 v3 v4 : Int) (v5 : Bool) (v6 v7 v11 v12 v13 v14 : Int) (k0 : Ty1 → Option R) : F41x0 N v0 v2 v3 v4 v5 v6 v7 v11 v12 v13 v14 k0 = (G41x0 N v0 v2 v3 v4 v5 v6 v7 v11 v12 v13 v14).bind k0 := by
 unfold G41x0 F41x0
 repeat' (first | with_reducible apply cond_b | (with_reducible apply bnd_b; intro _) | rfl)
def J41x0 (L : List Lf) (k0 : Ty1 → Option R) : Option R := F41x0 N (li L 0) (li L 2) (li L 3) (li L 4) (lb L 5) (li L 6) (li L 7) (li L 11) (li L 12) (li L 13) (li L 14) k0
def sh41x0 : Sh := { tmps := [(0, .g (.i .i64 :: .s :: .i .i64 :: .i .i64 :: .i .i64 :: [.b, .i .i64, .i .i64, .i .i64, .sl 64])), (1, .g ([.i .i64, .i .i64, .i .i64])), (2, .c (.i .i64))], mem := [] }
def K41x0w0 (L : List Lf) (p : Ty1) : Res := ([.g [.i .i64 (li L 14), .i .i64 p.1, .s (ls L 1), .i .i64 (li L 4), .i .i64 p.2.1, .i .i64 p.2.2.1, .i .i64 p.2.2.2.1, .i .i64 p.2.2.2.2]], [])
def A41x0 (L : List Lf) : List (Bool × Res) := bnd (J41x0 N L (fun p => some p)) fun q => [(q.isSome, K41x0w0 L (q.getD default))]
theorem raw41x0 (L : List Lf) : bd Tryz.prog (T66x0 N) (h41x0s4 N).h 41 sh41x0 L = J41x0 N L (fun p => some (K41x0w0 L p)) := by kernel_rfl
theorem ok41x0 : FnOk Tryz.prog 41 sh41x0 (A41x0 N) :=
 (h41x0s4 N).fn progOk (T66x0_ok N) fun L x hx => ((raw41x0 N L).trans ((bind41x0 N ..).trans (alt1 x hx)))
def T41x0 : Oracle := ext 41 (spSh sh41x0 (A41x0 N)) (T66x0 N)
theorem T41x0_ok : OracleOk Tryz.prog (T41x0 N) := FnOk.to (ok41x0 N) (T66x0_ok N)
def rg15x0 : List (Nat × List Nat) := [(0, [0, 1]), (1, [2, 3]), (2, [6, 2, 3]), (3, [6]), (4, [2, 3]), (5, [2, 3, 7]), (6, [2, 3, 8, 7]), (7, [25, 24, 23, 3, 8, 7]), (8, [23, 25, 3, 8, 7, 24]), (9, [10, 3, 8, 7, 25, 24, 23]), (10, [7, 11, 25, 24, 23, 3]), (11, [25, 24, 23, 3, 8, 7]), (12, [8, 7]), (13, []), (14, [7])]
def hd15x0 : Hints := [(21, [3, 7, 8, 23, 24, 25], [3, 7], [7])]
def h15x0s0 (N : Nat) : Sg Tryz.prog 0 15 := .start hd15x0 rg15x0
def S15x0x21 (w2 : LD) (w3 w5 w6 w7 : Int) (w0 w4 : Int) (w8 : Bool) (w9 : LD) (kr : Int → Int → Bool → LD → Option R) (k0 : Int × Bool × LD → Option R) : Option R :=
 bif (decide (w4 < w3)) then
  bif (inB w4 w2.length) then
   bnd (G41x0 N ((w2.getD w4.toNat (.i 0)).cell 0).toI ((w2.getD w4.toNat (.i 0)).cell 2).toI ((w2.getD w4.toNat (.i 0)).cell 3).toI ((w2.getD w4.toNat (.i 0)).cell 4).toI ((w2.getD w4.toNat (.i 0)).cell 5).toB ((w2.getD w4.toNat (.i 0)).cell 6).toI ((w2.getD w4.toNat (.i 0)).cell 7).toI w5 w6 w7 w0) fun y0 =>
   bif y0.isSome then
    bif (decide ((w9.length + 1) * 72 ≤ room) && decide ((w9.length + 1) ≤ strMax)) then
     bnd ((w9 ++ [(.a [(.i w0), (.i (y0.getD default).1), (.s ((w2.getD w4.toNat (.i 0)).cell 1).toS), (.i ((w2.getD w4.toNat (.i 0)).cell 4).toI), (.i (y0.getD default).2.1), (.i (y0.getD default).2.2.1), (.i (y0.getD default).2.2.2.1), (.i (y0.getD default).2.2.2.2)])]) : List D) fun y1 =>
     kr (y0.getD default).1 (IntKind.wrap .i64 (w4 + 1)) false y1
    else
     none
   else
    none
  else
   none
 else
  k0 (w0, w8, w9)
def L15x0x21 (N : Nat) {R : Type} (w2 : LD) (w3 w5 w6 w7 : Int) : Nat → Int → Int → Bool → LD → (Int × Bool × LD → Option R) → Option R
 | 0, _, _, _, _, _ => none
 | m + 1, w0, w4, w8, w9, k0 => S15x0x21 N w2 w3 w5 w6 w7 w0 w4 w8 w9 (fun w0 w4 w8 w9 => L15x0x21 N w2 w3 w5 w6 w7 m w0 w4 w8 w9 k0) k0
def G15x0x21 (w2 : LD) (w3 w5 w6 w7 : Int) (w0 w4 : Int) (w8 : Bool) (w9 : LD) : Option (Int × Bool × LD) := L15x0x21 N (R := (Int × Bool × LD)) w2 w3 w5 w6 w7 N w0 w4 w8 w9 (fun p => some p)
def J15x0x21 (L x : List Lf) (kr : List Lf → Option R) (k0 : Int × Bool × LD → Option R) : Option R := S15x0x21 N (ll L 2) (li L 3) (li L 5) (li L 6) (li L 7) (li x 0) (li x 1) (lb x 2) (ll x 3) (fun w0 w4 w8 w9 => kr [.i w0, .i w4, .b w8, .l w9]) k0
theorem sb15x0x21 (L x : List Lf) (kr : List Lf → Option R) (k0 : Int × Bool × LD → Option R) : J15x0x21 N L x kr k0 = (J15x0x21 N L x (fun y => some (.inl y)) (fun p => some (.inr p))).bind (sumE kr k0) := by
 unfold J15x0x21 S15x0x21
 repeat' (first | with_reducible apply cond_b | (with_reducible apply bnd_b; intro _) | rfl)
def Q15x0x21 (L : List Lf) (m : Nat) (x : List Lf) : Option (Int × Bool × LD) := L15x0x21 N (R := (Int × Bool × LD)) (ll L 2) (li L 3) (li L 5) (li L 6) (li L 7) m (li x 0) (li x 1) (lb x 2) (ll x 3) (fun p => some p)
def sh15x0x21 : Sh := { tmps := [(3, .c (.p 3 0)), (7, .c (.o 7)), (8, .c (.i .i64)), (23, .c (.sl 64)), (24, .c (.i .i64)), (25, .c (.i .i64))], mem := [(3, .box ([.i .i64, .i .i64, .i .i64])), (7, .row 39 true)] }
def K15x0x21w0 (L : List Lf) (p : Int × Bool × LD) : Ex × St := ((.exit 0), ⟨[(8, .c (.i .i64 p.1)), (7, .c (.o 7))], [(7, .row 39 true p.2.1 p.2.2)]⟩)
def A15x0x21 (L : List Lf) : List (Bool × (Ex × St)) := bnd (Q15x0x21 N L N (pk sh15x0x21 [0, 4, 8, 9] L)) fun q => [(q.isSome, K15x0x21w0 L (q.getD default))]
theorem step15x0x21 (m : Nat) (kn : St → Option (Ex × St)) (L x : List Lf) : lpB Tryz.prog (T41x0 N) (h15x0s0 N).h 0 15 21 sh15x0x21 [0, 4, 8, 9] [4, 5, 8, 7] [7] (m + 100) kn L x = J15x0x21 N L x (fun y => kn (ofSh sh15x0x21 (mx sh15x0x21 [0, 4, 8, 9] L y))) (fun p => some (K15x0x21w0 L p)) := by kernel_rfl
theorem ql15x0x21 (L : List Lf) (m : Nat) (x : List Lf) : Q15x0x21 N L (m + 1) x = J15x0x21 N L x (Q15x0x21 N L m) some := by kernel_rfl
def h15x0s1 : Sg Tryz.prog 0 15 :=
 (h15x0s0 N).lp (A15x0x21 N) N progOk (T41x0_ok N) (fun m kn L x => (step15x0x21 N m kn L x).trans (sb15x0x21 N L x _ _)) (fun L m x => (ql15x0x21 N L m x).trans (sb15x0x21 N L x (Q15x0x21 N L m) some)) fun L x hx => alt1 x hx
def F15x0 (v0 : LB) (v1 : Bool) (v2 : LD) (v3 v4 v5 : Int) (k0 : Bool × LD × Int → Option R) : Option R :=
 bnd (G10x0 N v0 v1 v2) fun y0 =>
 bif y0.isSome then
  bnd (V19x0 N v3 v4 v5) fun y1 =>
  bnd (G39x0 N [(.i (y0.getD default)), (.i y1)]) fun y2 =>
  bif y2.isSome then
   bif ((y2.getD default) != 0) then
    k0 (true, [], (y2.getD default))
   else
    bnd (R40x1 N N v1 v2) fun y3 =>
    bif y3.isSome then
     bnd (G15x0x21 N (y3.getD default).2 ((y3.getD default).2.length : Int) v3 v4 v5 0 0 true []) fun y4 =>
     bif y4.isSome then
      bif (decide ((y4.getD default).1 > 1000000)) then
       k0 (true, [], 3)
      else
       k0 ((y4.getD default).2.1, (y4.getD default).2.2, 0)
     else
      none
    else
     none
  else
   none
 else
  none
def G15x0 (v0 : LB) (v1 : Bool) (v2 : LD) (v3 v4 v5 : Int) : Option (Bool × LD × Int) := F15x0 N v0 v1 v2 v3 v4 v5 (fun p => some p)
theorem bind15x0 (v0 : LB) (v1 : Bool) (v2 : LD) (v3 v4 v5 : Int) (k0 : Bool × LD × Int → Option R) : F15x0 N v0 v1 v2 v3 v4 v5 k0 = (G15x0 N v0 v1 v2 v3 v4 v5).bind k0 := by
 unfold G15x0 F15x0
 repeat' (first | with_reducible apply cond_b | (with_reducible apply bnd_b; intro _) | rfl)
def J15x0 (L : List Lf) (k0 : Bool × LD × Int → Option R) : Option R := F15x0 N (ls L 0) (lb L 1) (ll L 2) (li L 3) (li L 4) (li L 5) k0
def sh15x0 : Sh := { tmps := [(0, .g ([.s, .sl 64])), (1, .g ([.i .i64, .i .i64, .i .i64]))], mem := [] }
def A15x0 (L : List Lf) : List (Bool × Res) := bnd (J15x0 N L (fun p => some p)) fun q => [(q.isSome, ([.c (.sl 39 (q.getD default).1 (q.getD default).2.1), .c (.i .i64 (q.getD default).2.2)], []))]
theorem raw15x0 (L : List Lf) : bd Tryz.prog (T41x0 N) (h15x0s1 N).h 15 sh15x0 L = J15x0 N L (fun p => some ([.c (.sl 39 p.1 p.2.1), .c (.i .i64 p.2.2)], [])) := by kernel_rfl
theorem ok15x0 : FnOk Tryz.prog 15 sh15x0 (A15x0 N) :=
 (h15x0s1 N).fn progOk (T41x0_ok N) fun L x hx => ((raw15x0 N L).trans ((bind15x0 N ..).trans (alt1 x hx)))
def T15x0 : Oracle := ext 15 (spSh sh15x0 (A15x0 N)) (T41x0 N)
theorem T15x0_ok : OracleOk Tryz.prog (T15x0 N) := FnOk.to (ok15x0 N) (T41x0_ok N)
def sh14x0 : Sh := toldSh
def A14x0 (N : Nat) (L : List Lf) : List (Bool × Res) := toldA L
theorem ok14x0 : FnOk Tryz.prog 14 sh14x0 (A14x0 N) := told_fn
def T14x0 : Oracle := ext 14 (spSh sh14x0 (A14x0 N)) (T15x0 N)
theorem T14x0_ok : OracleOk Tryz.prog (T14x0 N) := FnOk.to (ok14x0 N) (T15x0_ok N)
def rg45x0 : List (Nat × List Nat) := [(0, [0, 1]), (1, [2, 1])]
def hd45x0 : Hints := []
def h45x0s0 (N : Nat) : Sg Tryz.prog 1 45 := .start hd45x0 rg45x0
def F45x0 (N : Nat) (v0 v1 v8 : Int) (k0 : Bool → R) : R :=
 k0 (bif (decide (v0 ≤ v8)) then (decide (v8 < v1)) else false)
def V45x0 (v0 v1 v8 : Int) : Bool := F45x0 N v0 v1 v8 (fun p => p)
theorem tot45x0 (v0 v1 v8 : Int) (k0 : Bool → R) : F45x0 N v0 v1 v8 k0 = k0 (V45x0 N v0 v1 v8) := by
 unfold V45x0 F45x0
 repeat' (first | rfl | apply cond_k | (apply bnd_k; intro _))
def sh45x0 : Sh := { tmps := [(0, .g (.i .i64 :: .i .i64 :: .s :: rI 5 ([]))), (1, .c (.p 0 0))], mem := [(0, .box ([.i .i64]))] }
def A45x0 (L : List Lf) : List (Bool × Res) := bnd (F45x0 N (li L 0) (li L 1) (li L 8) (fun p => p)) fun q => [(true, ([.c (.b q)], [(0, .box [.i .i64 (li L 8)])]))]
theorem raw45x0 (L : List Lf) : bd Tryz.prog (T14x0 N) (h45x0s0 N).h 45 sh45x0 L = F45x0 N (li L 0) (li L 1) (li L 8) (fun p => some ([.c (.b p)], [(0, .box [.i .i64 (li L 8)])])) := by kernel_rfl
theorem ok45x0 : FnOk Tryz.prog 45 sh45x0 (A45x0 N) :=
 (h45x0s0 N).fn progOk (T14x0_ok N) fun L x hx => ((raw45x0 N L).trans ((tot45x0 N ..).trans (alt0 _ _ hx)))
def T45x0 : Oracle := ext 45 (spSh sh45x0 (A45x0 N)) (T14x0 N)
theorem T45x0_ok : OracleOk Tryz.prog (T45x0 N) := FnOk.to (ok45x0 N) (T14x0_ok N)
def rg44x0 : List (Nat × List Nat) := [(0, [0, 1]), (1, [0, 1]), (2, [8, 7, 1, 0]), (3, [8, 1, 0, 7]), (4, [1, 0, 5, 8, 7]), (5, [5]), (6, [8, 7, 1, 0]), (7, [])]
def hd44x0 : Hints := [(6, [0, 1, 7, 8], [0], [])]
def h44x0s0 (N : Nat) : Sg Tryz.prog 1 44 := .start hd44x0 rg44x0
def S44x0x6 (w1 : LD) (w2 w4 : Int) (w3 : Int) (kr : Int → Option R) (k0 : Int → Option R) (k1 : Unit → Option R) : Option R :=
 bif (decide (w3 < w2)) then
  bif (inB w3 w1.length) then
   bnd (V45x0 N ((w1.getD w3.toNat (.i 0)).cell 0).toI ((w1.getD w3.toNat (.i 0)).cell 1).toI w4) fun y0 =>
   bif y0 then
    k0 w3
   else
    kr (IntKind.wrap .i64 (w3 + 1))
  else
   none
 else
  k1 ()
def L44x0x6 (N : Nat) {R : Type} (w1 : LD) (w2 w4 : Int) : Nat → Int → (Int → Option R) → (Unit → Option R) → Option R
 | 0, _, _, _ => none
 | m + 1, w3, k0, k1 => S44x0x6 N w1 w2 w4 w3 (fun w3 => L44x0x6 N w1 w2 w4 m w3 k0 k1) k0 k1
def G44x0x6 (w1 : LD) (w2 w4 : Int) (w3 : Int) : Option (Sum (Int) (Unit)) := L44x0x6 N (R := (Sum (Int) (Unit))) w1 w2 w4 N w3 (fun p => some (.inl p)) (fun p => some (.inr p))
def J44x0x6 (L x : List Lf) (kr : List Lf → Option R) (k0 : Int → Option R) (k1 : Unit → Option R) : Option R := S44x0x6 N (ll L 1) (li L 2) (li L 4) (li x 0) (fun w3 => kr [.i w3]) k0 k1
theorem sb44x0x6 (L x : List Lf) (kr : List Lf → Option R) (k0 : Int → Option R) (k1 : Unit → Option R) : J44x0x6 N L x kr k0 k1 = (J44x0x6 N L x (fun y => some (.inl y)) (fun p => some (.inr (.inl p))) (fun p => some (.inr (.inr p)))).bind (sumE kr (sumE k0 k1)) := by
 unfold J44x0x6 S44x0x6
 repeat' (first | with_reducible apply cond_b | (with_reducible apply bnd_b; intro _) | rfl)
def Q44x0x6 (L : List Lf) (m : Nat) (x : List Lf) : Option (Sum (Int) (Unit)) := L44x0x6 N (R := (Sum (Int) (Unit))) (ll L 1) (li L 2) (li L 4) m (li x 0) (fun p => some (.inl p)) (fun p => some (.inr p))
def sh44x0x6 : Sh := { tmps := [(0, .c (.sl 39)), (1, .c (.f 45 [(0, 0)])), (7, .c (.i .i64)), (8, .c (.i .i64))], mem := [(0, .box ([.i .i64]))] }
def K44x0x6w0 (L : List Lf) (p : Int) : Ex × St := (.ret, mg (ofSh sh44x0x6 L) [4] [(4, .c (.i .i64 p))] [0] [])
def A44x0x6 (L : List Lf) : List (Bool × (Ex × St)) := bnd (Q44x0x6 N L N (pk sh44x0x6 [3] L)) fun q => [((inlB q), K44x0x6w0 L (inlV q)), ((inrQ q).isSome, ((.exit 0), mg (ofSh sh44x0x6 L) [] [] [0] []))]
theorem step44x0x6 (m : Nat) (kn : St → Option (Ex × St)) (L x : List Lf) : lpB Tryz.prog (T45x0 N) (h44x0s0 N).h 1 44 6 sh44x0x6 [3] [4] [0] (m + 100) kn L x = J44x0x6 N L x (fun y => kn (ofSh sh44x0x6 (mx sh44x0x6 [3] L y))) (fun p => some (K44x0x6w0 L p)) (fun _ => some ((.exit 0), mg (ofSh sh44x0x6 L) [] [] [0] [])) := by kernel_rfl
theorem ql44x0x6 (L : List Lf) (m : Nat) (x : List Lf) : Q44x0x6 N L (m + 1) x = J44x0x6 N L x (Q44x0x6 N L m) (fun p => some (.inl p)) (fun p => some (.inr p)) := by kernel_rfl
def h44x0s1 : Sg Tryz.prog 1 44 :=
 (h44x0s0 N).lp (A44x0x6 N) N progOk (T45x0_ok N) (fun m kn L x => (step44x0x6 N m kn L x).trans (sb44x0x6 N L x _ _ _)) (fun L m x => (ql44x0x6 N L m x).trans (sb44x0x6 N L x (Q44x0x6 N L m) (fun p => some (.inl p)) (fun p => some (.inr p)))) fun L x hx => (altS alt1) x hx
def F44x0 (v1 : LD) (v2 : Int) (k0 : Int → Option R) : Option R :=
 bnd (G44x0x6 N v1 (v1.length : Int) v2 0) fun y0 =>
 bif (inlB y0) then
  k0 (inlV y0)
 else
  bif (inrQ y0).isSome then
   k0 (-1)
  else
   none
def G44x0 (v1 : LD) (v2 : Int) : Option (Int) := F44x0 N v1 v2 (fun p => some p)
theorem bind44x0 (v1 : LD) (v2 : Int) (k0 : Int → Option R) : F44x0 N v1 v2 k0 = (G44x0 N v1 v2).bind k0 := by
 unfold G44x0 F44x0
 repeat' (first | with_reducible apply cond_b | (with_reducible apply bnd_b; intro _) | rfl)
def sh44x0 : Sh := { tmps := [(0, .c (.sl 39)), (1, .c (.f 45 [(0, 0)]))], mem := [(0, .box ([.i .i64]))] }
def A44x0 (L : List Lf) : List (Bool × Res) := bnd (F44x0 N (ll L 1) (li L 2) (fun p => some p)) fun q => [(q.isSome, ([.c (.i .i64 (q.getD default))], [(0, .box [.i .i64 (li L 2)])]))]
theorem raw44x0 (L : List Lf) : bd Tryz.prog (T45x0 N) (h44x0s1 N).h 44 sh44x0 L = F44x0 N (ll L 1) (li L 2) (fun p => some ([.c (.i .i64 p)], [(0, .box [.i .i64 (li L 2)])])) := by kernel_rfl
theorem ok44x0 : FnOk Tryz.prog 44 sh44x0 (A44x0 N) :=
 (h44x0s1 N).fn progOk (T45x0_ok N) fun L x hx => ((raw44x0 N L).trans ((bind44x0 N ..).trans (alt1 x hx)))
def T44x0 : Oracle := ext 44 (spSh sh44x0 (A44x0 N)) (T45x0 N)
theorem T44x0_ok : OracleOk Tryz.prog (T44x0 N) := FnOk.to (ok44x0 N) (T45x0_ok N)
def rg17x0 : List (Nat × List Nat) := [(0, [0, 1, 2]), (1, [3, 4, 5]), (2, [8, 9, 5]), (3, [8]), (4, [9, 5]), (5, [10, 9, 5]), (6, []), (7, [9, 10, 5]), (8, [11, 5]), (9, [11]), (10, [11, 5]), (11, [11, 12])]
def hd17x0 : Hints := []
def h17x0s0 (N : Nat) : Sg Tryz.prog 0 17 := .start hd17x0 rg17x0
def F17x0 (v0 : LB) (v1 : Bool) (v2 : LD) (v3 v4 v5 v6 : Int) (k0 : Int × Int × Int → Option R) : Option R :=
 bnd (G15x0 N v0 v1 v2 v3 v4 v5) fun y0 =>
 bif y0.isSome then
  bif ((y0.getD default).2.2 != 0) then
   k0 (0, 0, (y0.getD default).2.2)
  else
   bnd (G44x0 N (y0.getD default).2.1 v6) fun y1 =>
   bif y1.isSome then
    bif (decide ((y1.getD default) < 0)) then
     k0 (0, 0, 9)
    else
     bif (inB (y1.getD default) (y0.getD default).2.1.length) then
      bnd (((y0.getD default).2.1.getD (y1.getD default).toNat (.i 0)) : D) fun y2 =>
      bif ((y2.cell 6).toI == 0) then
       k0 ((y2.cell 4).toI, (y2.cell 5).toI, 0)
      else
       bnd (IntKind.wrap .i64 ((y2.cell 7).toI - (y2.cell 6).toI)) fun y3 =>
       bnd (IntKind.wrap .i64 (2 * (IntKind.wrap .i64 (v6 - (y2.cell 0).toI)))) fun y4 =>
       bnd (IntKind.wrap .i64 ((y2.cell 1).toI - (y2.cell 0).toI)) fun y5 =>
       bnd (G46x0 N y3 (IntKind.wrap .i64 (y4 + 1)) (IntKind.wrap .i64 (2 * y5)) 4) fun y6 =>
       bif y6.isSome then
        bnd (IntKind.wrap .i64 ((y2.cell 6).toI + (y6.getD default).1)) fun y7 =>
        bnd (IntKind.wrap .i64 ((y2.cell 6).toI + (y6.getD default).1)) fun y7 =>
        k0 (y7, y7, 0)
       else
        none
     else
      none
   else
    none
 else
  none
def G17x0 (v0 : LB) (v1 : Bool) (v2 : LD) (v3 v4 v5 v6 : Int) : Option (Int × Int × Int) := F17x0 N v0 v1 v2 v3 v4 v5 v6 (fun p => some p)
theorem bind17x0 (v0 : LB) (v1 : Bool) (v2 : LD) (v3 v4 v5 v6 : Int) (k0 : Int × Int × Int → Option R) : F17x0 N v0 v1 v2 v3 v4 v5 v6 k0 = (G17x0 N v0 v1 v2 v3 v4 v5 v6).bind k0 := by
 unfold G17x0 F17x0
 repeat' (first | with_reducible apply cond_b | (with_reducible apply bnd_b; intro _) | rfl)
def J17x0 (L : List Lf) (k0 : Int × Int × Int → Option R) : Option R := F17x0 N (ls L 0) (lb L 1) (ll L 2) (li L 3) (li L 4) (li L 5) (li L 6) k0
def sh17x0 : Sh := { tmps := [(0, .g ([.s, .sl 64])), (1, .g ([.i .i64, .i .i64, .i .i64])), (2, .c (.i .i64))], mem := [] }
def K17x0w0 (L : List Lf) (p : Int × Int × Int) : Res := ([.c (.i .i64 p.1), .c (.i .i64 p.2.1), .c (.i .i64 p.2.2)], [])
def A17x0 (L : List Lf) : List (Bool × Res) := bnd (J17x0 N L (fun p => some p)) fun q => [(q.isSome, K17x0w0 L (q.getD default))]
theorem raw17x0 (L : List Lf) : bd Tryz.prog (T44x0 N) (h17x0s0 N).h 17 sh17x0 L = J17x0 N L (fun p => some (K17x0w0 L p)) := by kernel_rfl
theorem ok17x0 : FnOk Tryz.prog 17 sh17x0 (A17x0 N) :=
 (h17x0s0 N).fn progOk (T44x0_ok N) fun L x hx => ((raw17x0 N L).trans ((bind17x0 N ..).trans (alt1 x hx)))
def T17x0 : Oracle := ext 17 (spSh sh17x0 (A17x0 N)) (T44x0 N)
theorem T17x0_ok : OracleOk Tryz.prog (T17x0 N) := FnOk.to (ok17x0 N) (T44x0_ok N)
def rg25x0 : List (Nat × List Nat) := [(0, [0]), (1, [1, 2]), (2, [4, 2, 1]), (3, [4, 2]), (4, [1, 2]), (5, [5, 2]), (6, [2]), (7, [5, 2])]
def hd25x0 : Hints := []
def h25x0s0 (N : Nat) : Sg Tryz.prog 0 25 := .start hd25x0 rg25x0
def F25x0 (v0 : LB) (v1 : Bool) (v2 : LD) (k0 : Ty0 → Option R) : Option R :=
 bnd (G10x0 N v0 v1 v2) fun y0 =>
 bif y0.isSome then
  bif ((y0.getD default) != 0) then
   k0 (([] : List UInt8), true, [], (y0.getD default))
  else
   bnd (R40x1 N N v1 v2) fun y1 =>
   bif y1.isSome then
    bif (decide (((y1.getD default).2.length : Int) > 200)) then
     k0 (([] : List UInt8), true, [], 3)
    else
     k0 (v0, (y1.getD default).1, (y1.getD default).2, 0)
   else
    none
 else
  none
def G25x0 (v0 : LB) (v1 : Bool) (v2 : LD) : Option (Ty0) := F25x0 N v0 v1 v2 (fun p => some p)
theorem bind25x0 (v0 : LB) (v1 : Bool) (v2 : LD) (k0 : Ty0 → Option R) : F25x0 N v0 v1 v2 k0 = (G25x0 N v0 v1 v2).bind k0 := by
 unfold G25x0 F25x0
 repeat' (first | with_reducible apply cond_b | (with_reducible apply bnd_b; intro _) | rfl)
def sh25x0 : Sh := { tmps := [(0, .g ([.s, .sl 64]))], mem := [] }
def K25x0w0 (L : List Lf) (p : Ty0) : Res := ([.g [.s p.1, .sl 64 p.2.1 p.2.2.1], .c (.i .i64 p.2.2.2)], [])
def A25x0 (L : List Lf) : List (Bool × Res) := bnd (F25x0 N (ls L 0) (lb L 1) (ll L 2) (fun p => some p)) fun q => [(q.isSome, K25x0w0 L (q.getD default))]
theorem raw25x0 (L : List Lf) : bd Tryz.prog (T17x0 N) (h25x0s0 N).h 25 sh25x0 L = F25x0 N (ls L 0) (lb L 1) (ll L 2) (fun p => some (K25x0w0 L p)) := by kernel_rfl
theorem ok25x0 : FnOk Tryz.prog 25 sh25x0 (A25x0 N) :=
 (h25x0s0 N).fn progOk (T17x0_ok N) fun L x hx => ((raw25x0 N L).trans ((bind25x0 N ..).trans (alt1 x hx)))
def T25x0 : Oracle := ext 25 (spSh sh25x0 (A25x0 N)) (T17x0 N)
theorem T25x0_ok : OracleOk Tryz.prog (T25x0 N) := FnOk.to (ok25x0 N) (T17x0_ok N)
def rg79x0 : List (Nat × List Nat) := [(0, [0]), (1, [0]), (2, []), (3, [0])]
def hd79x0 : Hints := []
def h79x0s0 (N : Nat) : Sg Tryz.prog 0 79 := .start hd79x0 rg79x0 true
def F79x0 (N : Nat) (v0 : Bool) (v1 : LD) (k0 : Unit → Option R) (k1 : Bool → Option R) : Option R :=
 bif v0 then
  k0 ()
 else
  bif (decide ((0 + v1.length) * 104 ≤ room) && decide ((0 + v1.length) ≤ strMax)) then
   k1 (v1.isEmpty && false)
  else
   none
def G79x0 (v0 : Bool) (v1 : LD) : Option (Sum (Unit) (Bool)) := F79x0 N v0 v1 (fun p => some (.inl p)) (fun p => some (.inr p))
theorem bind79x0 (v0 : Bool) (v1 : LD) (k0 : Unit → Option R) (k1 : Bool → Option R) : F79x0 N v0 v1 k0 k1 = (G79x0 N v0 v1).bind (sumE k0 k1) := by
 unfold G79x0 F79x0
 repeat' (first | with_reducible apply cond_b | (with_reducible apply bnd_b; intro _) | rfl)
def sh79x0 : Sh := { tmps := [(0, .c (.sl 64))], mem := [] }
def A79x0 (L : List Lf) : List (Bool × Res) := bnd (F79x0 N (lb L 0) (ll L 1) (fun p => some (.inl p)) (fun p => some (.inr p))) fun q => [((inlB q), ([.c (.sl 64 true [])], [])), ((inrQ q).isSome, ([.c (.o 7)], [(7, .row 64 true ((inrQ q).getD default) (ll L 1))]))]
theorem raw79x0 (L : List Lf) : bd Tryz.prog (T25x0 N) (h79x0s0 N).h 79 sh79x0 L = F79x0 N (lb L 0) (ll L 1) (fun _ => some ([.c (.sl 64 true [])], [])) (fun p => some ([.c (.o 7)], [(7, .row 64 true p (ll L 1))])) := by kernel_rfl
theorem ok79x0 : FnOk Tryz.prog 79 sh79x0 (A79x0 N) :=
 (h79x0s0 N).fn progOk (T25x0_ok N) fun L x hx => ((raw79x0 N L).trans ((bind79x0 N ..).trans ((altS alt1) x hx)))
def T79x0 : Oracle := ext 79 (spSh sh79x0 (A79x0 N)) (T25x0 N)
theorem T79x0_ok : OracleOk Tryz.prog (T79x0 N) := FnOk.to (ok79x0 N) (T25x0_ok N)
abbrev Rc36x1 : Type := Bool → LD → Bool → LD → Option (Bool)
def sh36x1 : Sh := { tmps := [(0, .c (.sl 64)), (1, .c (.sl 64))], mem := [] }
def B36x1 (N : Nat) (rc36x1 : Rc36x1) (L : List Lf) : List (Bool × Res) := bnd (rc36x1 (lb L 0) (ll L 1) (lb L 2) (ll L 3)) fun q => [(q.isSome, ([.c (.b (q.getD default))], []))]
def O36x1 (rc36x1 : Rc36x1) : Oracle := ext 36 (spSh sh36x1 ((B36x1 N) rc36x1)) (T79x0 N)
def rg62x0 : List (Nat × List Nat) := [(0, [0, 1]), (1, [2, 3])]
def hd62x0 : Hints := [(4, [2, 3], [2, 3], [])]
def h62x0s0 (rc36x1 : Rc36x1) (hR36x1 : OracleOk Tryz.prog ((O36x1 N) rc36x1)) : Sg Tryz.prog 0 62 := .start hd62x0 rg62x0
def F62x0x4 (N : Nat) (rc36x1 : Rc36x1) (w0 : Int) (w1 : LB) (w2 w3 w4 : Int) (w5 : Bool) (w6 w7 w8 : Int) (w9 : Bool) (w10 : LD) (w11 : Int) (w12 : LB) (w13 w14 w15 : Int) (w16 : Bool) (w17 w18 w19 : Int) (w20 : Bool) (w21 : LD) (k0 : Bool → Option R) : Option R :=
 bnd (bif (bif (w0 == w11) then (w1 == w12) else false) then (w2 == w13) else false) fun y0 =>
 bnd (bif (bif y0 then (w3 == w14) else false) then ((w4 == w15) && ((w5 == w16) && ((w6 == w17) && ((w7 == w18) && true)))) else false) fun y1 =>
 bif (bif y1 then (w8 == w19) else false) then
  bnd (rc36x1 w9 w10 w20 w21) fun y2 =>
  bif y2.isSome then
   k0 (y2.getD default)
  else
   none
 else
  k0 false
def G62x0x4 (rc36x1 : Rc36x1) (w0 : Int) (w1 : LB) (w2 w3 w4 : Int) (w5 : Bool) (w6 w7 w8 : Int) (w9 : Bool) (w10 : LD) (w11 : Int) (w12 : LB) (w13 w14 w15 : Int) (w16 : Bool) (w17 w18 w19 : Int) (w20 : Bool) (w21 : LD) : Option (Bool) := F62x0x4 N rc36x1 w0 w1 w2 w3 w4 w5 w6 w7 w8 w9 w10 w11 w12 w13 w14 w15 w16 w17 w18 w19 w20 w21 (fun p => some p)
theorem bind62x0x4 (rc36x1 : Rc36x1) (w0 : Int) (w1 : LB) (w2 w3 w4 : Int) (w5 : Bool) (w6 w7 w8 : Int) (w9 : Bool) (w10 : LD) (w11 : Int) (w12 : LB) (w13 w14 w15 : Int) (w16 : Bool) (w17 w18 w19 : Int) (w20 : Bool) (w21 : LD) (k0 : Bool → Option R) : F62x0x4 N rc36x1 w0 w1 w2 w3 w4 w5 w6 w7 w8 w9 w10 w11 w12 w13 w14 w15 w16 w17 w18 w19 w20 w21 k0 = (G62x0x4 N rc36x1 w0 w1 w2 w3 w4 w5 w6 w7 w8 w9 w10 w11 w12 w13 w14 w15 w16 w17 w18 w19 w20 w21).bind k0 := by
 unfold G62x0x4 F62x0x4
 repeat' (first | with_reducible apply cond_b | (with_reducible apply bnd_b; intro _) | rfl)
def J62x0x4 (rc36x1 : Rc36x1) (L : List Lf) (k0 : Bool → Option R) : Option R := F62x0x4 N rc36x1 (li L 0) (ls L 1) (li L 2) (li L 3) (li L 4) (lb L 5) (li L 6) (li L 7) (li L 8) (lb L 9) (ll L 10) (li L 11) (ls L 12) (li L 13) (li L 14) (li L 15) (lb L 16) (li L 17) (li L 18) (li L 19) (lb L 20) (ll L 21) k0
def sh62x0x4 : Sh := { tmps := [(2, .c (.p 2 0)), (3, .c (.p 3 0))], mem := [(2, .box (.i .i64 :: .s :: .i .i64 :: .i .i64 :: .i .i64 :: [.b, .i .i64, .i .i64, .i .i64, .sl 64])), (3, .box (.i .i64 :: .s :: .i .i64 :: .i .i64 :: .i .i64 :: [.b, .i .i64, .i .i64, .i .i64, .sl 64]))] }
def A62x0x4 (rc36x1 : Rc36x1) (L : List Lf) : List (Bool × (Ex × St)) := bnd (J62x0x4 N rc36x1 L (fun p => some p)) fun q => [(q.isSome, (.normal, ⟨[(4, .c (.b (q.getD default)))], []⟩))]
theorem raw62x0x4 (rc36x1 : Rc36x1) (hR36x1 : OracleOk Tryz.prog ((O36x1 N) rc36x1)) (L : List Lf) : pc Tryz.prog ((O36x1 N) rc36x1) ((h62x0s0 N) rc36x1 hR36x1).h 0 100 62 4 sh62x0x4 L [4] [] = J62x0x4 N rc36x1 L (fun p => some (.normal, ⟨[(4, .c (.b p))], []⟩)) := by kernel_rfl
def h62x0s1 (rc36x1 : Rc36x1) (hR36x1 : OracleOk Tryz.prog ((O36x1 N) rc36x1)) : Sg Tryz.prog 0 62 :=
 ((h62x0s0 N) rc36x1 hR36x1).cut ((A62x0x4 N) rc36x1) progOk hR36x1 fun L x hx => (raw62x0x4 N rc36x1 hR36x1 L).trans ((bind62x0x4 N rc36x1 ..).trans (alt1 x hx))
def F62x0 (rc36x1 : Rc36x1) (v0 : Int) (v1 : LB) (v2 v3 v4 : Int) (v5 : Bool) (v6 v7 v8 : Int) (v9 : Bool) (v10 : LD) (v11 : Int) (v12 : LB) (v13 v14 v15 : Int) (v16 : Bool) (v17 v18 v19 : Int) (v20 : Bool) (v21 : LD) (k0 : Bool → Option R) : Option R :=
 bnd (G62x0x4 N rc36x1 v0 v1 v2 v3 v4 v5 v6 v7 v8 v9 v10 v11 v12 v13 v14 v15 v16 v17 v18 v19 v20 v21) fun y0 =>
 bif y0.isSome then
  k0 (y0.getD default)
 else
  none
def G62x0 (rc36x1 : Rc36x1) (v0 : Int) (v1 : LB) (v2 v3 v4 : Int) (v5 : Bool) (v6 v7 v8 : Int) (v9 : Bool) (v10 : LD) (v11 : Int) (v12 : LB) (v13 v14 v15 : Int) (v16 : Bool) (v17 v18 v19 : Int) (v20 : Bool) (v21 : LD) : Option (Bool) := F62x0 N rc36x1 v0 v1 v2 v3 v4 v5 v6 v7 v8 v9 v10 v11 v12 v13 v14 v15 v16 v17 v18 v19 v20 v21 (fun p => some p)
theorem bind62x0 (rc36x1 : Rc36x1) (v0 : Int) (v1 : LB) (v2 v3 v4 : Int) (v5 : Bool) (v6 v7 v8 : Int) (v9 : Bool) (v10 : LD) (v11 : Int) (v12 : LB) (v13 v14 v15 : Int) (v16 : Bool) (v17 v18 v19 : Int) (v20 : Bool) (v21 : LD) (k0 : Bool → Option R) : F62x0 N rc36x1 v0 v1 v2 v3 v4 v5 v6 v7 v8 v9 v10 v11 v12 v13 v14 v15 v16 v17 v18 v19 v20 v21 k0 = (G62x0 N rc36x1 v0 v1 v2 v3 v4 v5 v6 v7 v8 v9 v10 v11 v12 v13 v14 v15 v16 v17 v18 v19 v20 v21).bind k0 := by
 unfold G62x0 F62x0
 repeat' (first | with_reducible apply cond_b | (with_reducible apply bnd_b; intro _) | rfl)
def J62x0 (rc36x1 : Rc36x1) (L : List Lf) (k0 : Bool → Option R) : Option R := F62x0 N rc36x1 (li L 0) (ls L 1) (li L 2) (li L 3) (li L 4) (lb L 5) (li L 6) (li L 7) (li L 8) (lb L 9) (ll L 10) (li L 11) (ls L 12) (li L 13) (li L 14) (li L 15) (lb L 16) (li L 17) (li L 18) (li L 19) (lb L 20) (ll L 21) k0
def sh62x0 : Sh := { tmps := [(0, .g (.i .i64 :: .s :: .i .i64 :: .i .i64 :: .i .i64 :: [.b, .i .i64, .i .i64, .i .i64, .sl 64])), (1, .g (.i .i64 :: .s :: .i .i64 :: .i .i64 :: .i .i64 :: [.b, .i .i64, .i .i64, .i .i64, .sl 64]))], mem := [] }
def A62x0 (rc36x1 : Rc36x1) (L : List Lf) : List (Bool × Res) := bnd (J62x0 N rc36x1 L (fun p => some p)) fun q => [(q.isSome, ([.c (.b (q.getD default))], []))]
theorem raw62x0 (rc36x1 : Rc36x1) (hR36x1 : OracleOk Tryz.prog ((O36x1 N) rc36x1)) (L : List Lf) : bd Tryz.prog ((O36x1 N) rc36x1) ((h62x0s1 N) rc36x1 hR36x1).h 62 sh62x0 L = J62x0 N rc36x1 L (fun p => some ([.c (.b p)], [])) := by kernel_rfl
theorem ok62x0 (rc36x1 : Rc36x1) (hR36x1 : OracleOk Tryz.prog ((O36x1 N) rc36x1)) : FnOk Tryz.prog 62 sh62x0 ((A62x0 N) rc36x1) :=
 ((h62x0s1 N) rc36x1 hR36x1).fn progOk hR36x1 fun L x hx => ((raw62x0 N rc36x1 hR36x1 L).trans ((bind62x0 N rc36x1 ..).trans (alt1 x hx)))
def T62x0 (rc36x1 : Rc36x1) : Oracle := ext 62 (spSh sh62x0 ((A62x0 N) rc36x1)) ((O36x1 N) rc36x1)
theorem T62x0_ok (rc36x1 : Rc36x1) (hR36x1 : OracleOk Tryz.prog ((O36x1 N) rc36x1)) : OracleOk Tryz.prog ((T62x0 N) rc36x1) := FnOk.to ((ok62x0 N) rc36x1 hR36x1) hR36x1
def rg61x0 : List (Nat × List Nat) := [(0, [0, 1, 2]), (1, [0, 1, 2]), (2, []), (3, [0, 1, 2]), (4, [17, 16, 15, 1, 2]), (5, [17, 15, 1, 2, 16]), (6, [1, 7, 2, 8, 17, 16, 15]), (7, [2, 8, 9, 17, 16, 15, 1]), (8, []), (9, [17, 16, 15, 1, 2]), (10, [])]
def hd61x0 : Hints := [(12, [1, 2, 15, 16, 17], [], [])]
def h61x0s0 (rc36x1 : Rc36x1) (hR36x1 : OracleOk Tryz.prog ((O36x1 N) rc36x1)) : Sg Tryz.prog 0 61 := .start hd61x0 rg61x0
def S61x0x12 (rc36x1 : Rc36x1) (w1 w3 : LD) (w4 : Int) (w5 : Int) (kr : Int → Option R) (k0 : Unit → Option R) (k1 : Unit → Option R) : Option R :=
 bif (decide (w5 < w4)) then
  bif (inB w5 w3.length) then
   bif (inB w5 w1.length) then
    bnd (G62x0 N rc36x1 ((w3.getD w5.toNat (.i 0)).cell 0).toI ((w3.getD w5.toNat (.i 0)).cell 1).toS ((w3.getD w5.toNat (.i 0)).cell 2).toI ((w3.getD w5.toNat (.i 0)).cell 3).toI ((w3.getD w5.toNat (.i 0)).cell 4).toI ((w3.getD w5.toNat (.i 0)).cell 5).toB ((w3.getD w5.toNat (.i 0)).cell 6).toI ((w3.getD w5.toNat (.i 0)).cell 7).toI ((w3.getD w5.toNat (.i 0)).cell 8).toI ((w3.getD w5.toNat (.i 0)).cell 9).isNil ((w3.getD w5.toNat (.i 0)).cell 9).items ((w1.getD w5.toNat (.i 0)).cell 0).toI ((w1.getD w5.toNat (.i 0)).cell 1).toS ((w1.getD w5.toNat (.i 0)).cell 2).toI ((w1.getD w5.toNat (.i 0)).cell 3).toI ((w1.getD w5.toNat (.i 0)).cell 4).toI ((w1.getD w5.toNat (.i 0)).cell 5).toB ((w1.getD w5.toNat (.i 0)).cell 6).toI ((w1.getD w5.toNat (.i 0)).cell 7).toI ((w1.getD w5.toNat (.i 0)).cell 8).toI ((w1.getD w5.toNat (.i 0)).cell 9).isNil ((w1.getD w5.toNat (.i 0)).cell 9).items) fun y0 =>
    bif y0.isSome then
     bif (!(y0.getD default)) then
      k0 ()
     else
      kr (IntKind.wrap .i64 (w5 + 1))
    else
     none
   else
    none
  else
   none
 else
  k1 ()
def L61x0x12 (N : Nat) (rc36x1 : Rc36x1) {R : Type} (w1 w3 : LD) (w4 : Int) : Nat → Int → (Unit → Option R) → (Unit → Option R) → Option R
 | 0, _, _, _ => none
 | m + 1, w5, k0, k1 => S61x0x12 N rc36x1 w1 w3 w4 w5 (fun w5 => L61x0x12 N rc36x1 w1 w3 w4 m w5 k0 k1) k0 k1
def G61x0x12 (rc36x1 : Rc36x1) (w1 w3 : LD) (w4 : Int) (w5 : Int) : Option (Sum (Unit) (Unit)) := L61x0x12 N rc36x1 (R := (Sum (Unit) (Unit))) w1 w3 w4 N w5 (fun p => some (.inl p)) (fun p => some (.inr p))
def J61x0x12 (rc36x1 : Rc36x1) (L x : List Lf) (kr : List Lf → Option R) (k0 : Unit → Option R) (k1 : Unit → Option R) : Option R := S61x0x12 N rc36x1 (ll L 1) (ll L 3) (li L 4) (li x 0) (fun w5 => kr [.i w5]) k0 k1
theorem sb61x0x12 (rc36x1 : Rc36x1) (L x : List Lf) (kr : List Lf → Option R) (k0 : Unit → Option R) (k1 : Unit → Option R) : J61x0x12 N rc36x1 L x kr k0 k1 = (J61x0x12 N rc36x1 L x (fun y => some (.inl y)) (fun p => some (.inr (.inl p))) (fun p => some (.inr (.inr p)))).bind (sumE kr (sumE k0 k1)) := by
 unfold J61x0x12 S61x0x12
 repeat' (first | with_reducible apply cond_b | (with_reducible apply bnd_b; intro _) | rfl)
def Q61x0x12 (rc36x1 : Rc36x1) (L : List Lf) (m : Nat) (x : List Lf) : Option (Sum (Unit) (Unit)) := L61x0x12 N rc36x1 (R := (Sum (Unit) (Unit))) (ll L 1) (ll L 3) (li L 4) m (li x 0) (fun p => some (.inl p)) (fun p => some (.inr p))
def sh61x0x12 : Sh := { tmps := [(1, .c (.sl 64)), (2, .c (.f 62 [])), (15, .c (.sl 64)), (16, .c (.i .i64)), (17, .c (.i .i64))], mem := [] }
def A61x0x12 (rc36x1 : Rc36x1) (L : List Lf) : List (Bool × (Ex × St)) := bnd (Q61x0x12 N rc36x1 L N (pk sh61x0x12 [5] L)) fun q => [((inlB q), (.ret, ⟨[(6, .c (.b false))], []⟩)), ((inrQ q).isSome, ((.exit 0), ⟨[], []⟩))]
theorem step61x0x12 (rc36x1 : Rc36x1) (hR36x1 : OracleOk Tryz.prog ((O36x1 N) rc36x1)) (m : Nat) (kn : St → Option (Ex × St)) (L x : List Lf) : lpB Tryz.prog ((T62x0 N) rc36x1) ((h61x0s0 N) rc36x1 hR36x1).h 0 61 12 sh61x0x12 [5] [6] [] (m + 100) kn L x = J61x0x12 N rc36x1 L x (fun y => kn (ofSh sh61x0x12 (mx sh61x0x12 [5] L y))) (fun _ => some (.ret, ⟨[(6, .c (.b false))], []⟩)) (fun _ => some ((.exit 0), ⟨[], []⟩)) := by kernel_rfl
theorem ql61x0x12 (rc36x1 : Rc36x1) (L : List Lf) (m : Nat) (x : List Lf) : Q61x0x12 N rc36x1 L (m + 1) x = J61x0x12 N rc36x1 L x (Q61x0x12 N rc36x1 L m) (fun p => some (.inl p)) (fun p => some (.inr p)) := by kernel_rfl
def h61x0s1 (rc36x1 : Rc36x1) (hR36x1 : OracleOk Tryz.prog ((O36x1 N) rc36x1)) : Sg Tryz.prog 0 61 :=
 ((h61x0s0 N) rc36x1 hR36x1).lp ((A61x0x12 N) rc36x1) N progOk ((T62x0_ok N) rc36x1 hR36x1) (fun m kn L x => (step61x0x12 N rc36x1 hR36x1 m kn L x).trans (sb61x0x12 N rc36x1 L x _ _ _)) (fun L m x => (ql61x0x12 N rc36x1 L m x).trans (sb61x0x12 N rc36x1 L x (Q61x0x12 N rc36x1 L m) (fun p => some (.inl p)) (fun p => some (.inr p)))) fun L x hx => (altS alt1) x hx
def F61x0 (rc36x1 : Rc36x1) (v1 v3 : LD) (k0 : Bool → Option R) : Option R :=
 bif ((v1.length : Int) != (v3.length : Int)) then
  k0 false
 else
  bnd (G61x0x12 N rc36x1 v3 v1 (v1.length : Int) 0) fun y0 =>
  bif (inlB y0) then
   k0 false
  else
   bif (inrQ y0).isSome then
    k0 true
   else
    none
def G61x0 (rc36x1 : Rc36x1) (v1 v3 : LD) : Option (Bool) := F61x0 N rc36x1 v1 v3 (fun p => some p)
theorem bind61x0 (rc36x1 : Rc36x1) (v1 v3 : LD) (k0 : Bool → Option R) : F61x0 N rc36x1 v1 v3 k0 = (G61x0 N rc36x1 v1 v3).bind k0 := by
 unfold G61x0 F61x0
 repeat' (first | with_reducible apply cond_b | (with_reducible apply bnd_b; intro _) | rfl)
def sh61x0 : Sh := { tmps := [(0, .c (.sl 64)), (1, .c (.sl 64)), (2, .c (.f 62 []))], mem := [] }
def A61x0 (rc36x1 : Rc36x1) (L : List Lf) : List (Bool × Res) := bnd (F61x0 N rc36x1 (ll L 1) (ll L 3) (fun p => some p)) fun q => [(q.isSome, ([.c (.b (q.getD default))], []))]
theorem raw61x0 (rc36x1 : Rc36x1) (hR36x1 : OracleOk Tryz.prog ((O36x1 N) rc36x1)) (L : List Lf) : bd Tryz.prog ((T62x0 N) rc36x1) ((h61x0s1 N) rc36x1 hR36x1).h 61 sh61x0 L = F61x0 N rc36x1 (ll L 1) (ll L 3) (fun p => some ([.c (.b p)], [])) := by kernel_rfl
theorem ok61x0 (rc36x1 : Rc36x1) (hR36x1 : OracleOk Tryz.prog ((O36x1 N) rc36x1)) : FnOk Tryz.prog 61 sh61x0 ((A61x0 N) rc36x1) :=
 ((h61x0s1 N) rc36x1 hR36x1).fn progOk ((T62x0_ok N) rc36x1 hR36x1) fun L x hx => ((raw61x0 N rc36x1 hR36x1 L).trans ((bind61x0 N rc36x1 ..).trans (alt1 x hx)))
def T61x0 (rc36x1 : Rc36x1) : Oracle := ext 61 (spSh sh61x0 ((A61x0 N) rc36x1)) ((T62x0 N) rc36x1)
theorem T61x0_ok (rc36x1 : Rc36x1) (hR36x1 : OracleOk Tryz.prog ((O36x1 N) rc36x1)) : OracleOk Tryz.prog ((T61x0 N) rc36x1) := FnOk.to ((ok61x0 N) rc36x1 hR36x1) ((T62x0_ok N) rc36x1 hR36x1)
def rg36x1 : List (Nat × List Nat) := [(0, [0, 1]), (1, [0, 1])]
def hd36x1 : Hints := []
def h36x1s0 (rc36x1 : Rc36x1) (hR36x1 : OracleOk Tryz.prog ((O36x1 N) rc36x1)) : Sg Tryz.prog 0 36 := .start hd36x1 rg36x1
def F36x1 (rc36x1 : Rc36x1) (v0 : Bool) (v1 : LD) (v2 : Bool) (v3 : LD) (k0 : Bool → Option R) : Option R :=
 bnd (G61x0 N rc36x1 v1 v3) fun y0 =>
 bif y0.isSome then
  k0 (y0.getD default)
 else
  none
def G36x1 (rc36x1 : Rc36x1) (v0 : Bool) (v1 : LD) (v2 : Bool) (v3 : LD) : Option (Bool) := F36x1 N rc36x1 v0 v1 v2 v3 (fun p => some p)
theorem bind36x1 (rc36x1 : Rc36x1) (v0 : Bool) (v1 : LD) (v2 : Bool) (v3 : LD) (k0 : Bool → Option R) : F36x1 N rc36x1 v0 v1 v2 v3 k0 = (G36x1 N rc36x1 v0 v1 v2 v3).bind k0 := by
 unfold G36x1 F36x1
 repeat' (first | with_reducible apply cond_b | (with_reducible apply bnd_b; intro _) | rfl)
def J36x1 (rc36x1 : Rc36x1) (L : List Lf) (k0 : Bool → Option R) : Option R := F36x1 N rc36x1 (lb L 0) (ll L 1) (lb L 2) (ll L 3) k0
theorem raw36x1 (rc36x1 : Rc36x1) (hR36x1 : OracleOk Tryz.prog ((O36x1 N) rc36x1)) (L : List Lf) : bd Tryz.prog ((T61x0 N) rc36x1) ((h36x1s0 N) rc36x1 hR36x1).h 36 sh36x1 L = J36x1 N rc36x1 L (fun p => some ([.c (.b p)], [])) := by kernel_rfl
theorem fin36x1 (rc36x1 : Rc36x1) (hR36x1 : OracleOk Tryz.prog ((O36x1 N) rc36x1)) (L : List Lf) (x : Res) (hx : altK ((B36x1 N) (fun v0 v1 v2 v3 => G36x1 N rc36x1 v0 v1 v2 v3) L) some = some x) : CallOk Tryz.prog 36 (valsOf (ofSh sh36x1 L).tmps) (ofSh sh36x1 L).mem x :=
 callOk_of (n := 200) progOk ((T61x0_ok N) rc36x1 hR36x1) ((h36x1s0 N) rc36x1 hR36x1).ok rfl ((raw36x1 N rc36x1 hR36x1 L).trans ((bind36x1 N rc36x1 ..).trans (alt1 x hx)))
def R36x1 (N : Nat) : Nat → Rc36x1
 | 0 => fun _ _ _ _ => none
 | m + 1 => fun v0 v1 v2 v3 => G36x1 N (R36x1 N m) v0 v1 v2 v3
theorem Rok36x1 (N : Nat) : ∀ m, OracleOk Tryz.prog ((O36x1 N) (R36x1 N m))
 | 0 => ext_ok (T79x0_ok N) (AM.enters_of (by kernel_rfl)) (spSh_law fun L x hx => by
  have h : (none : Option Res) = some x := hx
  cases h)
 | m + 1 => ext_ok (T79x0_ok N) (AM.enters_of (by kernel_rfl)) (spSh_law fun L x hx => fin36x1 N (R36x1 N m) (Rok36x1 N m) L x hx)
def T36x1 : Oracle := (O36x1 N) (R36x1 N N)
theorem T36x1_ok : OracleOk Tryz.prog (T36x1 N) := Rok36x1 N N
def rg80x0 : List (Nat × List Nat) := [(0, [1, 0]), (1, [1, 0]), (2, [5, 1, 0]), (3, [5, 1, 0]), (4, [5])]
def hd80x0 : Hints := [(6, [0, 1, 5], [], []), (7, [0, 1, 5], [], [])]
def h80x0s0 (N : Nat) : Sg Tryz.prog 0 80 := .start hd80x0 rg80x0
def F80x0x7 (w0 : Bool) (w1 : LD) (w2 w3 : Int) (k0 : Bool → Option R) : Option R :=
 bif (decide (w3 < 99)) then
  bnd (decide ((IntKind.wrap .i64 ((IntKind.wrap .i64 (w3 + 1)) * w2)) ≤ (w1.length : Int))) fun y0 =>
  bif y0 then
   bif ((decide (0 ≤ w2)) && (decide (w2 ≤ (w1.length : Int)))) then
    bif (((decide (0 ≤ (IntKind.wrap .i64 (w3 * w2)))) && (decide ((IntKind.wrap .i64 (w3 * w2)) ≤ (IntKind.wrap .i64 ((IntKind.wrap .i64 (w3 + 1)) * w2))))) && (decide ((IntKind.wrap .i64 ((IntKind.wrap .i64 (w3 + 1)) * w2)) ≤ (w1.length : Int)))) then
     bnd (((w1.take (IntKind.wrap .i64 ((IntKind.wrap .i64 (w3 + 1)) * w2)).toNat).drop (IntKind.wrap .i64 (w3 * w2)).toNat) : List D) fun y1 =>
     bnd (R36x1 N N w0 ((w1.take w2.toNat).drop 0) w0 y1) fun y2 =>
     bif y2.isSome then
      k0 (y2.getD default)
     else
      none
    else
     none
   else
    none
  else
   k0 false
 else
  k0 false
def G80x0x7 (w0 : Bool) (w1 : LD) (w2 w3 : Int) : Option (Bool) := F80x0x7 N w0 w1 w2 w3 (fun p => some p)
theorem bind80x0x7 (w0 : Bool) (w1 : LD) (w2 w3 : Int) (k0 : Bool → Option R) : F80x0x7 N w0 w1 w2 w3 k0 = (G80x0x7 N w0 w1 w2 w3).bind k0 := by
 unfold G80x0x7 F80x0x7
 repeat' (first | with_reducible apply cond_b | (with_reducible apply bnd_b; intro _) | rfl)
def J80x0x7 (L : List Lf) (k0 : Bool → Option R) : Option R := F80x0x7 N (lb L 0) (ll L 1) (li L 2) (li L 3) k0
def sh80x0x7 : Sh := { tmps := [(0, .c (.sl 64)), (1, .c (.i .i64)), (5, .c (.i .i64))], mem := [] }
def K80x0x7w0 (L : List Lf) (p : Bool) : Ex × St := (.normal, mg (ofSh sh80x0x7 L) [5, 1, 0, 31] [(31, .c (.b p))] [] [])
def A80x0x7 (L : List Lf) : List (Bool × (Ex × St)) := bnd (J80x0x7 N L (fun p => some p)) fun q => [(q.isSome, K80x0x7w0 L (q.getD default))]
theorem raw80x0x7 (L : List Lf) : pc Tryz.prog (T36x1 N) (h80x0s0 N).h 0 100 80 7 sh80x0x7 L [5, 1, 0, 31] [] = J80x0x7 N L (fun p => some (K80x0x7w0 L p)) := by kernel_rfl
def h80x0s1 : Sg Tryz.prog 0 80 :=
 (h80x0s0 N).cut (A80x0x7 N) progOk (T36x1_ok N) fun L x hx => (raw80x0x7 N L).trans ((bind80x0x7 N ..).trans (alt1 x hx))
def S80x0x6 (w0 : Bool) (w1 : LD) (w2 : Int) (w3 : Int) (kr : Int → Option R) (k0 : Int → Option R) : Option R :=
 bnd (G80x0x7 N w0 w1 w2 w3) fun y0 =>
 bif y0.isSome then
  bif (y0.getD default) then
   kr (IntKind.wrap .i64 (w3 + 1))
  else
   k0 w3
 else
  none
def L80x0x6 (N : Nat) {R : Type} (w0 : Bool) (w1 : LD) (w2 : Int) : Nat → Int → (Int → Option R) → Option R
 | 0, _, _ => none
 | m + 1, w3, k0 => S80x0x6 N w0 w1 w2 w3 (fun w3 => L80x0x6 N w0 w1 w2 m w3 k0) k0
def G80x0x6 (w0 : Bool) (w1 : LD) (w2 : Int) (w3 : Int) : Option (Int) := L80x0x6 N (R := (Int)) w0 w1 w2 N w3 (fun p => some p)
def J80x0x6 (L x : List Lf) (kr : List Lf → Option R) (k0 : Int → Option R) : Option R := S80x0x6 N (lb L 0) (ll L 1) (li L 2) (li x 0) (fun w3 => kr [.i w3]) k0
theorem sb80x0x6 (L x : List Lf) (kr : List Lf → Option R) (k0 : Int → Option R) : J80x0x6 N L x kr k0 = (J80x0x6 N L x (fun y => some (.inl y)) (fun p => some (.inr p))).bind (sumE kr k0) := by
 unfold J80x0x6 S80x0x6
 repeat' (first | with_reducible apply cond_b | (with_reducible apply bnd_b; intro _) | rfl)
def Q80x0x6 (L : List Lf) (m : Nat) (x : List Lf) : Option (Int) := L80x0x6 N (R := (Int)) (lb L 0) (ll L 1) (li L 2) m (li x 0) (fun p => some p)
def sh80x0x6 : Sh := { tmps := [(0, .c (.sl 64)), (1, .c (.i .i64)), (5, .c (.i .i64))], mem := [] }
def A80x0x6 (L : List Lf) : List (Bool × (Ex × St)) := bnd (Q80x0x6 N L N (pk sh80x0x6 [3] L)) fun q => [(q.isSome, ((.exit 0), ⟨[(5, .c (.i .i64 (q.getD default)))], []⟩))]
theorem step80x0x6 (m : Nat) (kn : St → Option (Ex × St)) (L x : List Lf) : lpB Tryz.prog (T36x1 N) (h80x0s1 N).h 0 80 6 sh80x0x6 [3] [4, 5] [] (m + 100) kn L x = J80x0x6 N L x (fun y => kn (ofSh sh80x0x6 (mx sh80x0x6 [3] L y))) (fun p => some ((.exit 0), ⟨[(5, .c (.i .i64 p))], []⟩)) := by kernel_rfl
theorem ql80x0x6 (L : List Lf) (m : Nat) (x : List Lf) : Q80x0x6 N L (m + 1) x = J80x0x6 N L x (Q80x0x6 N L m) some := by kernel_rfl
def h80x0s2 : Sg Tryz.prog 0 80 :=
 (h80x0s1 N).lp (A80x0x6 N) N progOk (T36x1_ok N) (fun m kn L x => (step80x0x6 N m kn L x).trans (sb80x0x6 N L x _ _)) (fun L m x => (ql80x0x6 N L m x).trans (sb80x0x6 N L x (Q80x0x6 N L m) some)) fun L x hx => alt1 x hx
def F80x0 (v0 : Bool) (v1 : LD) (v2 : Int) (k0 : Int → Option R) : Option R :=
 bnd (G80x0x6 N v0 v1 v2 1) fun y0 =>
 bif y0.isSome then
  k0 (y0.getD default)
 else
  none
def G80x0 (v0 : Bool) (v1 : LD) (v2 : Int) : Option (Int) := F80x0 N v0 v1 v2 (fun p => some p)
theorem bind80x0 (v0 : Bool) (v1 : LD) (v2 : Int) (k0 : Int → Option R) : F80x0 N v0 v1 v2 k0 = (G80x0 N v0 v1 v2).bind k0 := by
 unfold G80x0 F80x0
 repeat' (first | with_reducible apply cond_b | (with_reducible apply bnd_b; intro _) | rfl)
def sh80x0 : Sh := { tmps := [(0, .c (.sl 64)), (1, .c (.i .i64))], mem := [] }
def A80x0 (L : List Lf) : List (Bool × Res) := bnd (F80x0 N (lb L 0) (ll L 1) (li L 2) (fun p => some p)) fun q => [(q.isSome, ([.c (.i .i64 (q.getD default))], []))]
theorem raw80x0 (L : List Lf) : bd Tryz.prog (T36x1 N) (h80x0s2 N).h 80 sh80x0 L = F80x0 N (lb L 0) (ll L 1) (li L 2) (fun p => some ([.c (.i .i64 p)], [])) := by kernel_rfl
theorem ok80x0 : FnOk Tryz.prog 80 sh80x0 (A80x0 N) :=
 (h80x0s2 N).fn progOk (T36x1_ok N) fun L x hx => ((raw80x0 N L).trans ((bind80x0 N ..).trans (alt1 x hx)))
def T80x0 : Oracle := ext 80 (spSh sh80x0 (A80x0 N)) (T36x1 N)
theorem T80x0_ok : OracleOk Tryz.prog (T80x0 N) := FnOk.to (ok80x0 N) (T36x1_ok N)
abbrev Rc54x1 : Type := Bool → LD → Int → Option (Bool × LD)
def sh54x1 : Sh := { tmps := [(0, .c (.sl 64)), (1, .c (.i .i64))], mem := [] }
def B54x1 (N : Nat) (rc54x1 : Rc54x1) (L : List Lf) : List (Bool × Res) := bnd (rc54x1 (lb L 0) (ll L 1) (li L 2)) fun q => [(q.isSome, ([.c (.sl 64 (q.getD default).1 (q.getD default).2)], []))]
def O54x1 (rc54x1 : Rc54x1) : Oracle := ext 54 (spSh sh54x1 ((B54x1 N) rc54x1)) (T80x0 N)
def rg54x1 : List (Nat × List Nat) := [(0, [1, 0]), (1, [1, 0]), (2, [0]), (3, [0, 1]), (4, [0, 5, 1]), (5, [0, 5, 1]), (6, [0, 6, 5, 8, 7, 1]), (7, [9, 0, 6, 5, 1, 8, 7]), (9, [0, 9, 6, 5, 1, 8, 7]), (10, [9, 10, 6, 0, 5, 1, 8, 7]), (11, [9, 10, 0, 5, 1]), (8, [9, 0, 6, 5, 8, 7, 1]), (12, [6, 5, 8, 0, 7, 1]), (14, [5, 0, 7, 8, 1]), (13, [5, 8, 0, 7, 1]), (15, [0, 7, 8, 5, 1]), (16, [5])]
def hd54x1 : Hints := [(7, [0], [], []), (12, [0, 1, 5], [5], [5]), (21, [0, 1, 5, 6, 7, 8, 9], [5], [5]), (35, [0, 1, 5, 6, 7, 8, 9, 10, 35], [5], []), (42041, [0, 1, 5, 7, 8, 45], [5], [])]
def h54x1s0 (rc54x1 : Rc54x1) (hR54x1 : OracleOk Tryz.prog ((O54x1 N) rc54x1)) : Sg Tryz.prog 0 54 := .start hd54x1 rg54x1
def F54x1x7 (rc54x1 : Rc54x1) (w0 : Bool) (w1 : LD) (k0 : Unit → Option R) (k1 : Bool → Option R) : Option R :=
 bnd (G79x0 N w0 w1) fun y0 =>
 bif (inlB y0) then
  k0 ()
 else
  bif (inrQ y0).isSome then
   k1 ((inrQ y0).getD default)
  else
   none
def G54x1x7 (rc54x1 : Rc54x1) (w0 : Bool) (w1 : LD) : Option (Sum (Unit) (Bool)) := F54x1x7 N rc54x1 w0 w1 (fun p => some (.inl p)) (fun p => some (.inr p))
theorem bind54x1x7 (rc54x1 : Rc54x1) (w0 : Bool) (w1 : LD) (k0 : Unit → Option R) (k1 : Bool → Option R) : F54x1x7 N rc54x1 w0 w1 k0 k1 = (G54x1x7 N rc54x1 w0 w1).bind (sumE k0 k1) := by
 unfold G54x1x7 F54x1x7
 repeat' (first | with_reducible apply cond_b | (with_reducible apply bnd_b; intro _) | rfl)
def sh54x1x7 : Sh := { tmps := [(0, .c (.sl 64))], mem := [] }
def K54x1x7w1 (L : List Lf) (p : Bool) : Ex × St := (.normal, ⟨[(4, .c (.o 15000000007))], [(15000000007, .row 64 true p (ll L 1))]⟩)
def A54x1x7 (rc54x1 : Rc54x1) (L : List Lf) : List (Bool × (Ex × St)) := bnd (F54x1x7 N rc54x1 (lb L 0) (ll L 1) (fun p => some (.inl p)) (fun p => some (.inr p))) fun q => [((inlB q), (.normal, ⟨[(4, .c (.sl 64 true []))], []⟩)), ((inrQ q).isSome, K54x1x7w1 L ((inrQ q).getD default))]
theorem raw54x1x7 (rc54x1 : Rc54x1) (hR54x1 : OracleOk Tryz.prog ((O54x1 N) rc54x1)) (L : List Lf) : pc Tryz.prog ((O54x1 N) rc54x1) ((h54x1s0 N) rc54x1 hR54x1).h 0 100 54 7 sh54x1x7 L [4] [15000000007] = F54x1x7 N rc54x1 (lb L 0) (ll L 1) (fun _ => some (.normal, ⟨[(4, .c (.sl 64 true []))], []⟩)) (fun p => some (K54x1x7w1 L p)) := by kernel_rfl
def h54x1s1 (rc54x1 : Rc54x1) (hR54x1 : OracleOk Tryz.prog ((O54x1 N) rc54x1)) : Sg Tryz.prog 0 54 :=
 ((h54x1s0 N) rc54x1 hR54x1).cut ((A54x1x7 N) rc54x1) progOk hR54x1 fun L x hx => (raw54x1x7 N rc54x1 hR54x1 L).trans ((bind54x1x7 N rc54x1 ..).trans ((altS alt1) x hx))
def F54x1x35 (N : Nat) (rc54x1 : Rc54x1) (w3 w4 w5 w6 w7 : Int) (w8 : Bool) (k0 : Int × Int × Int → R) : R :=
 bif w8 then
  bnd (IntKind.wrap .i64 ((IntKind.wrap .i64 ((IntKind.wrap .i64 (w6 * w7)) - w6)) - 1)) fun y0 =>
  k0 (y0, w7, w6)
 else
  k0 (w3, w5, w4)
def V54x1x35 (rc54x1 : Rc54x1) (w3 w4 w5 w6 w7 : Int) (w8 : Bool) : Int × Int × Int := F54x1x35 N rc54x1 w3 w4 w5 w6 w7 w8 (fun p => p)
theorem tot54x1x35 (rc54x1 : Rc54x1) (w3 w4 w5 w6 w7 : Int) (w8 : Bool) (k0 : Int × Int × Int → R) : F54x1x35 N rc54x1 w3 w4 w5 w6 w7 w8 k0 = k0 (V54x1x35 N rc54x1 w3 w4 w5 w6 w7 w8) := by
 unfold V54x1x35 F54x1x35
 repeat' (first | rfl | apply cond_k | (apply bnd_k; intro _))
def J54x1x35 (rc54x1 : Rc54x1) (L : List Lf) (k0 : Int × Int × Int → R) : R := F54x1x35 N rc54x1 (li L 3) (li L 4) (li L 5) (li L 6) (li L 7) (lb L 8) k0
def sh54x1x35 : Sh := { tmps := [(0, .c (.sl 64)), (1, .c (.i .i64)), (5, .c (.o 5)), (6, .c (.i .i64)), (7, .c (.i .i64)), (8, .c (.i .i64)), (9, .c (.i .i64)), (10, .c (.i .i64)), (35, .c (.b))], mem := [(5, .row 64 true)] }
def K54x1x35w0 (L : List Lf) (p : Int × Int × Int) : Ex × St := (.normal, mg (ofSh sh54x1x35 L) [9, 0, 6, 5, 8, 7, 1] [(6, .c (.i .i64 p.1)), (8, .c (.i .i64 p.2.1)), (7, .c (.i .i64 p.2.2))] [5] [])
def A54x1x35 (rc54x1 : Rc54x1) (L : List Lf) : List (Bool × (Ex × St)) := bnd (J54x1x35 N rc54x1 L (fun p => p)) fun q => [(true, K54x1x35w0 L q)]
theorem raw54x1x35 (rc54x1 : Rc54x1) (hR54x1 : OracleOk Tryz.prog ((O54x1 N) rc54x1)) (L : List Lf) : pc Tryz.prog ((O54x1 N) rc54x1) ((h54x1s1 N) rc54x1 hR54x1).h 0 100 54 35 sh54x1x35 L [9, 0, 6, 5, 8, 7, 1] [5] = J54x1x35 N rc54x1 L (fun p => some (K54x1x35w0 L p)) := by kernel_rfl
def h54x1s2 (rc54x1 : Rc54x1) (hR54x1 : OracleOk Tryz.prog ((O54x1 N) rc54x1)) : Sg Tryz.prog 0 54 :=
 ((h54x1s1 N) rc54x1 hR54x1).cut ((A54x1x35 N) rc54x1) progOk hR54x1 fun L x hx => (raw54x1x35 N rc54x1 hR54x1 L).trans ((tot54x1x35 N rc54x1 ..).trans (alt0 _ _ hx))
def S54x1x21 (rc54x1 : Rc54x1) (w0 : Bool) (w1 : LD) (w3 w4 w5 w6 : Int) (kr : Int → Int → Int → Int → Option R) (k0 : Int × Int × Int → Option R) : Option R :=
 bif (decide ((IntKind.wrap .i64 (2 * w6)) ≤ (w1.length : Int))) then
  bnd (G80x0 N w0 w1 w6) fun y0 =>
  bif y0.isSome then
   bnd (IntKind.wrap .i64 ((IntKind.wrap .i64 (w6 * (y0.getD default))) - w6)) fun y1 =>
   bnd (V54x1x35 N rc54x1 w3 w4 w5 w6 (y0.getD default) (decide ((IntKind.wrap .i64 (y1 - 1)) > w3))) fun y2 =>
   kr y2.1 y2.2.2 y2.2.1 (IntKind.wrap .i64 (w6 + 1))
  else
   none
 else
  k0 (w3, w5, w4)
def L54x1x21 (N : Nat) (rc54x1 : Rc54x1) {R : Type} (w0 : Bool) (w1 : LD) : Nat → Int → Int → Int → Int → (Int × Int × Int → Option R) → Option R
 | 0, _, _, _, _, _ => none
 | m + 1, w3, w4, w5, w6, k0 => S54x1x21 N rc54x1 w0 w1 w3 w4 w5 w6 (fun w3 w4 w5 w6 => L54x1x21 N rc54x1 w0 w1 m w3 w4 w5 w6 k0) k0
def G54x1x21 (rc54x1 : Rc54x1) (w0 : Bool) (w1 : LD) (w3 w4 w5 w6 : Int) : Option (Int × Int × Int) := L54x1x21 N rc54x1 (R := (Int × Int × Int)) w0 w1 N w3 w4 w5 w6 (fun p => some p)
def J54x1x21 (rc54x1 : Rc54x1) (L x : List Lf) (kr : List Lf → Option R) (k0 : Int × Int × Int → Option R) : Option R := S54x1x21 N rc54x1 (lb L 0) (ll L 1) (li x 0) (li x 1) (li x 2) (li x 3) (fun w3 w4 w5 w6 => kr [.i w3, .i w4, .i w5, .i w6]) k0
theorem sb54x1x21 (rc54x1 : Rc54x1) (L x : List Lf) (kr : List Lf → Option R) (k0 : Int × Int × Int → Option R) : J54x1x21 N rc54x1 L x kr k0 = (J54x1x21 N rc54x1 L x (fun y => some (.inl y)) (fun p => some (.inr p))).bind (sumE kr k0) := by
 unfold J54x1x21 S54x1x21
 repeat' (first | with_reducible apply cond_b | (with_reducible apply bnd_b; intro _) | rfl)
def Q54x1x21 (rc54x1 : Rc54x1) (L : List Lf) (m : Nat) (x : List Lf) : Option (Int × Int × Int) := L54x1x21 N rc54x1 (R := (Int × Int × Int)) (lb L 0) (ll L 1) m (li x 0) (li x 1) (li x 2) (li x 3) (fun p => some p)
def sh54x1x21 : Sh := { tmps := [(0, .c (.sl 64)), (1, .c (.i .i64)), (5, .c (.o 5)), (6, .c (.i .i64)), (7, .c (.i .i64)), (8, .c (.i .i64)), (9, .c (.i .i64))], mem := [(5, .row 64 true)] }
def K54x1x21w0 (L : List Lf) (p : Int × Int × Int) : Ex × St := ((.exit 2), mg (ofSh sh54x1x21 L) [6, 5, 8, 0, 7, 1] [(6, .c (.i .i64 p.1)), (8, .c (.i .i64 p.2.1)), (7, .c (.i .i64 p.2.2))] [5] [])
def A54x1x21 (rc54x1 : Rc54x1) (L : List Lf) : List (Bool × (Ex × St)) := bnd (Q54x1x21 N rc54x1 L N (pk sh54x1x21 [3, 4, 5, 6] L)) fun q => [(q.isSome, K54x1x21w0 L (q.getD default))]
theorem step54x1x21 (rc54x1 : Rc54x1) (hR54x1 : OracleOk Tryz.prog ((O54x1 N) rc54x1)) (m : Nat) (kn : St → Option (Ex × St)) (L x : List Lf) : lpB Tryz.prog ((O54x1 N) rc54x1) ((h54x1s2 N) rc54x1 hR54x1).h 0 54 21 sh54x1x21 [3, 4, 5, 6] [4, 6, 5, 8, 0, 7, 1] [5] (m + 100) kn L x = J54x1x21 N rc54x1 L x (fun y => kn (ofSh sh54x1x21 (mx sh54x1x21 [3, 4, 5, 6] L y))) (fun p => some (K54x1x21w0 L p)) := by kernel_rfl
theorem ql54x1x21 (rc54x1 : Rc54x1) (L : List Lf) (m : Nat) (x : List Lf) : Q54x1x21 N rc54x1 L (m + 1) x = J54x1x21 N rc54x1 L x (Q54x1x21 N rc54x1 L m) some := by kernel_rfl
def h54x1s3 (rc54x1 : Rc54x1) (hR54x1 : OracleOk Tryz.prog ((O54x1 N) rc54x1)) : Sg Tryz.prog 0 54 :=
 ((h54x1s2 N) rc54x1 hR54x1).lp ((A54x1x21 N) rc54x1) N progOk hR54x1 (fun m kn L x => (step54x1x21 N rc54x1 hR54x1 m kn L x).trans (sb54x1x21 N rc54x1 L x _ _)) (fun L m x => (ql54x1x21 N rc54x1 L m x).trans (sb54x1x21 N rc54x1 L x (Q54x1x21 N rc54x1 L m) some)) fun L x hx => alt1 x hx
def F54x1x42041 (N : Nat) (rc54x1 : Rc54x1) (w0 : Bool) (w1 : LD) (w2 w3 w4 : Int) (w5 : Bool) (w7 : LD) (k0 : LD → Option R) (k1 : LD → Option R) : Option R :=
 bif w5 then
  bif ((decide (0 ≤ w3)) && (decide (w3 ≤ (w1.length : Int)))) then
   bnd (rc54x1 w0 ((w1.take w3.toNat).drop 0) (IntKind.wrap .i64 (w2 + 1))) fun y0 =>
   bif y0.isSome then
    bif (decide ((w7.length + 1) * 104 ≤ room) && decide ((w7.length + 1) ≤ strMax)) then
     bnd ((w7 ++ [(.a [(.i 3), (.s ([] : List UInt8)), (.i 0), (.i 0), (.i 0), (.b false), (.i 0), (.i 0), (.i w4), (.l (y0.getD default).1 (y0.getD default).2)])]) : List D) fun y1 =>
     k0 y1
    else
     none
   else
    none
  else
   none
 else
  bif (inB 0 w1.length) then
   bif (decide ((w7.length + 1) * 104 ≤ room) && decide ((w7.length + 1) ≤ strMax)) then
    bnd ((w7 ++ [(.a [(.i ((w1.getD 0 (.i 0)).cell 0).toI), (.s ((w1.getD 0 (.i 0)).cell 1).toS), (.i ((w1.getD 0 (.i 0)).cell 2).toI), (.i ((w1.getD 0 (.i 0)).cell 3).toI), (.i ((w1.getD 0 (.i 0)).cell 4).toI), (.b ((w1.getD 0 (.i 0)).cell 5).toB), (.i ((w1.getD 0 (.i 0)).cell 6).toI), (.i ((w1.getD 0 (.i 0)).cell 7).toI), (.i ((w1.getD 0 (.i 0)).cell 8).toI), (.l ((w1.getD 0 (.i 0)).cell 9).isNil ((w1.getD 0 (.i 0)).cell 9).items)])]) : List D) fun y2 =>
    k1 y2
   else
    none
  else
   none
def G54x1x42041 (rc54x1 : Rc54x1) (w0 : Bool) (w1 : LD) (w2 w3 w4 : Int) (w5 : Bool) (w7 : LD) : Option (Sum (LD) (LD)) := F54x1x42041 N rc54x1 w0 w1 w2 w3 w4 w5 w7 (fun p => some (.inl p)) (fun p => some (.inr p))
theorem bind54x1x42041 (rc54x1 : Rc54x1) (w0 : Bool) (w1 : LD) (w2 w3 w4 : Int) (w5 : Bool) (w7 : LD) (k0 : LD → Option R) (k1 : LD → Option R) : F54x1x42041 N rc54x1 w0 w1 w2 w3 w4 w5 w7 k0 k1 = (G54x1x42041 N rc54x1 w0 w1 w2 w3 w4 w5 w7).bind (sumE k0 k1) := by
 unfold G54x1x42041 F54x1x42041
 repeat' (first | with_reducible apply cond_b | (with_reducible apply bnd_b; intro _) | rfl)
def J54x1x42041 (rc54x1 : Rc54x1) (L : List Lf) (k0 : LD → Option R) (k1 : LD → Option R) : Option R := F54x1x42041 N rc54x1 (lb L 0) (ll L 1) (li L 2) (li L 3) (li L 4) (lb L 5) (ll L 7) k0 k1
def sh54x1x42041 : Sh := { tmps := [(0, .c (.sl 64)), (1, .c (.i .i64)), (5, .c (.o 5)), (7, .c (.i .i64)), (8, .c (.i .i64)), (45, .c (.b))], mem := [(5, .row 64 true)] }
def K54x1x42041w0 (L : List Lf) (p : LD) : Ex × St := (.normal, mg (ofSh sh54x1x42041 L) [0, 7, 8, 5, 1] [(5, .c (.o 56))] [56] [(56, .row 64 true false p)])
def K54x1x42041w1 (L : List Lf) (p : LD) : Ex × St := (.normal, mg (ofSh sh54x1x42041 L) [0, 7, 8, 5, 1] [(5, .c (.o 62))] [62] [(62, .row 64 true false p)])
def A54x1x42041 (rc54x1 : Rc54x1) (L : List Lf) : List (Bool × (Ex × St)) := bnd (J54x1x42041 N rc54x1 L (fun p => some (.inl p)) (fun p => some (.inr p))) fun q => [((inlB q), K54x1x42041w0 L (inlV q)), ((inrQ q).isSome, K54x1x42041w1 L ((inrQ q).getD default))]
theorem raw54x1x42041 (rc54x1 : Rc54x1) (hR54x1 : OracleOk Tryz.prog ((O54x1 N) rc54x1)) (L : List Lf) : pc Tryz.prog ((O54x1 N) rc54x1) ((h54x1s3 N) rc54x1 hR54x1).h 0 100 54 42041 sh54x1x42041 L [0, 7, 8, 5, 1] [56, 62] = J54x1x42041 N rc54x1 L (fun p => some (K54x1x42041w0 L p)) (fun p => some (K54x1x42041w1 L p)) := by kernel_rfl
def h54x1s4 (rc54x1 : Rc54x1) (hR54x1 : OracleOk Tryz.prog ((O54x1 N) rc54x1)) : Sg Tryz.prog 0 54 :=
 ((h54x1s3 N) rc54x1 hR54x1).cut ((A54x1x42041 N) rc54x1) progOk hR54x1 fun L x hx => (raw54x1x42041 N rc54x1 hR54x1 L).trans ((bind54x1x42041 N rc54x1 ..).trans ((altS alt1) x hx))
def S54x1x12 (rc54x1 : Rc54x1) (w0 : Bool) (w2 : Int) (w1 : LD) (w3 : Bool) (w4 : LD) (kr : LD → Bool → LD → Option R) (k0 : Bool × LD → Option R) : Option R :=
 bif (decide ((w1.length : Int) > 0)) then
  bnd (G54x1x21 N rc54x1 w0 w1 0 1 1 1) fun y0 =>
  bif y0.isSome then
   bnd (G54x1x42041 N rc54x1 w0 w1 w2 (y0.getD default).2.2 (y0.getD default).2.1 (decide ((y0.getD default).1 > 0)) w4) fun y1 =>
   bif (inlB y1) then
    bnd (IntKind.wrap .i64 ((y0.getD default).2.2 * (y0.getD default).2.1)) fun y2 =>
    bif (((decide (0 ≤ y2)) && (decide (y2 ≤ (w1.length : Int)))) && (decide ((w1.length : Int) ≤ (w1.length : Int)))) then
     kr ((w1.take (w1.length : Int).toNat).drop y2.toNat) false (inlV y1)
    else
     none
   else
    bif (inrQ y1).isSome then
     bnd (IntKind.wrap .i64 ((y0.getD default).2.2 * (y0.getD default).2.1)) fun y2 =>
     bif (((decide (0 ≤ y2)) && (decide (y2 ≤ (w1.length : Int)))) && (decide ((w1.length : Int) ≤ (w1.length : Int)))) then
      kr ((w1.take (w1.length : Int).toNat).drop y2.toNat) false ((inrQ y1).getD default)
     else
      none
    else
     none
  else
   none
 else
  k0 (w3, w4)
def L54x1x12 (N : Nat) (rc54x1 : Rc54x1) {R : Type} (w0 : Bool) (w2 : Int) : Nat → LD → Bool → LD → (Bool × LD → Option R) → Option R
 | 0, _, _, _, _ => none
 | m + 1, w1, w3, w4, k0 => S54x1x12 N rc54x1 w0 w2 w1 w3 w4 (fun w1 w3 w4 => L54x1x12 N rc54x1 w0 w2 m w1 w3 w4 k0) k0
def G54x1x12 (rc54x1 : Rc54x1) (w0 : Bool) (w2 : Int) (w1 : LD) (w3 : Bool) (w4 : LD) : Option (Bool × LD) := L54x1x12 N rc54x1 (R := (Bool × LD)) w0 w2 N w1 w3 w4 (fun p => some p)
def J54x1x12 (rc54x1 : Rc54x1) (L x : List Lf) (kr : List Lf → Option R) (k0 : Bool × LD → Option R) : Option R := S54x1x12 N rc54x1 (lb L 0) (li L 2) (ll x 0) (lb x 1) (ll x 2) (fun w1 w3 w4 => kr [.l w1, .b w3, .l w4]) k0
theorem sb54x1x12 (rc54x1 : Rc54x1) (L x : List Lf) (kr : List Lf → Option R) (k0 : Bool × LD → Option R) : J54x1x12 N rc54x1 L x kr k0 = (J54x1x12 N rc54x1 L x (fun y => some (.inl y)) (fun p => some (.inr p))).bind (sumE kr k0) := by
 unfold J54x1x12 S54x1x12
 repeat' (first | with_reducible apply cond_b | (with_reducible apply bnd_b; intro _) | rfl)
def Q54x1x12 (rc54x1 : Rc54x1) (L : List Lf) (m : Nat) (x : List Lf) : Option (Bool × LD) := L54x1x12 N rc54x1 (R := (Bool × LD)) (lb L 0) (li L 2) m (ll x 0) (lb x 1) (ll x 2) (fun p => some p)
def sh54x1x12 : Sh := { tmps := [(0, .c (.sl 64)), (1, .c (.i .i64)), (5, .c (.o 5))], mem := [(5, .row 64 true)] }
def A54x1x12 (rc54x1 : Rc54x1) (L : List Lf) : List (Bool × (Ex × St)) := bnd (Q54x1x12 N rc54x1 L N (pk sh54x1x12 [1, 3, 4] L)) fun q => [(q.isSome, ((.exit 0), ⟨[(5, .c (.o 5))], [(5, .row 64 true (q.getD default).1 (q.getD default).2)]⟩))]
theorem step54x1x12 (rc54x1 : Rc54x1) (hR54x1 : OracleOk Tryz.prog ((O54x1 N) rc54x1)) (m : Nat) (kn : St → Option (Ex × St)) (L x : List Lf) : lpB Tryz.prog ((O54x1 N) rc54x1) ((h54x1s4 N) rc54x1 hR54x1).h 0 54 12 sh54x1x12 [1, 3, 4] [4, 5] [5] (m + 100) kn L x = J54x1x12 N rc54x1 L x (fun y => kn (ofSh sh54x1x12 (mx sh54x1x12 [1, 3, 4] L y))) (fun p => some ((.exit 0), ⟨[(5, .c (.o 5))], [(5, .row 64 true p.1 p.2)]⟩)) := by kernel_rfl
theorem ql54x1x12 (rc54x1 : Rc54x1) (L : List Lf) (m : Nat) (x : List Lf) : Q54x1x12 N rc54x1 L (m + 1) x = J54x1x12 N rc54x1 L x (Q54x1x12 N rc54x1 L m) some := by kernel_rfl
def h54x1s5 (rc54x1 : Rc54x1) (hR54x1 : OracleOk Tryz.prog ((O54x1 N) rc54x1)) : Sg Tryz.prog 0 54 :=
 ((h54x1s4 N) rc54x1 hR54x1).lp ((A54x1x12 N) rc54x1) N progOk hR54x1 (fun m kn L x => (step54x1x12 N rc54x1 hR54x1 m kn L x).trans (sb54x1x12 N rc54x1 L x _ _)) (fun L m x => (ql54x1x12 N rc54x1 L m x).trans (sb54x1x12 N rc54x1 L x (Q54x1x12 N rc54x1 L m) some)) fun L x hx => alt1 x hx
def F54x1 (rc54x1 : Rc54x1) (v0 : Bool) (v1 : LD) (v2 : Int) (k0 : Bool × LD → Option R) : Option R :=
 bif (v2 == 3) then
  bnd (G54x1x7 N rc54x1 v0 v1) fun y0 =>
  bif (inlB y0) then
   k0 (true, [])
  else
   bif (inrQ y0).isSome then
    k0 (((inrQ y0).getD default), v1)
   else
    none
 else
  bnd (G54x1x12 N rc54x1 v0 v2 v1 true []) fun y1 =>
  bif y1.isSome then
   k0 (y1.getD default)
  else
   none
def G54x1 (rc54x1 : Rc54x1) (v0 : Bool) (v1 : LD) (v2 : Int) : Option (Bool × LD) := F54x1 N rc54x1 v0 v1 v2 (fun p => some p)
theorem bind54x1 (rc54x1 : Rc54x1) (v0 : Bool) (v1 : LD) (v2 : Int) (k0 : Bool × LD → Option R) : F54x1 N rc54x1 v0 v1 v2 k0 = (G54x1 N rc54x1 v0 v1 v2).bind k0 := by
 unfold G54x1 F54x1
 repeat' (first | with_reducible apply cond_b | (with_reducible apply bnd_b; intro _) | rfl)
theorem raw54x1 (rc54x1 : Rc54x1) (hR54x1 : OracleOk Tryz.prog ((O54x1 N) rc54x1)) (L : List Lf) : bd Tryz.prog ((O54x1 N) rc54x1) ((h54x1s5 N) rc54x1 hR54x1).h 54 sh54x1 L = F54x1 N rc54x1 (lb L 0) (ll L 1) (li L 2) (fun p => some ([.c (.sl 64 p.1 p.2)], [])) := by kernel_rfl
theorem fin54x1 (rc54x1 : Rc54x1) (hR54x1 : OracleOk Tryz.prog ((O54x1 N) rc54x1)) (L : List Lf) (x : Res) (hx : altK ((B54x1 N) (fun v0 v1 v2 => G54x1 N rc54x1 v0 v1 v2) L) some = some x) : CallOk Tryz.prog 54 (valsOf (ofSh sh54x1 L).tmps) (ofSh sh54x1 L).mem x :=
 callOk_of (n := 200) progOk hR54x1 ((h54x1s5 N) rc54x1 hR54x1).ok rfl ((raw54x1 N rc54x1 hR54x1 L).trans ((bind54x1 N rc54x1 ..).trans (alt1 x hx)))
def R54x1 (N : Nat) : Nat → Rc54x1
 | 0 => fun _ _ _ => none
 | m + 1 => fun v0 v1 v2 => G54x1 N (R54x1 N m) v0 v1 v2
theorem Rok54x1 (N : Nat) : ∀ m, OracleOk Tryz.prog ((O54x1 N) (R54x1 N m))
 | 0 => ext_ok (T80x0_ok N) (AM.enters_of (by kernel_rfl)) (spSh_law fun L x hx => by
  have h : (none : Option Res) = some x := hx
  cases h)
 | m + 1 => ext_ok (T80x0_ok N) (AM.enters_of (by kernel_rfl)) (spSh_law fun L x hx => fin54x1 N (R54x1 N m) (Rok54x1 N m) L x hx)
def T54x1 : Oracle := (O54x1 N) (R54x1 N N)
theorem T54x1_ok : OracleOk Tryz.prog (T54x1 N) := Rok54x1 N N
def rg27x0 : List (Nat × List Nat) := [(0, [0]), (1, [1, 2]), (2, [5, 2, 4]), (3, [5, 2]), (4, [4, 2])]
def hd27x0 : Hints := []
def h27x0s0 (N : Nat) : Sg Tryz.prog 0 27 := .start hd27x0 rg27x0
def F27x0 (v0 : LB) (v1 : Bool) (v2 : LD) (k0 : Ty0 → Option R) : Option R :=
 bnd (G25x0 N v0 v1 v2) fun y0 =>
 bif y0.isSome then
  bif ((y0.getD default).2.2.2 != 0) then
   k0 (([] : List UInt8), true, [], (y0.getD default).2.2.2)
  else
   bnd (R54x1 N N (y0.getD default).2.1 (y0.getD default).2.2.1 0) fun y1 =>
   bif y1.isSome then
    k0 ((y0.getD default).1, (y1.getD default).1, (y1.getD default).2, 0)
   else
    none
 else
  none
def G27x0 (v0 : LB) (v1 : Bool) (v2 : LD) : Option (Ty0) := F27x0 N v0 v1 v2 (fun p => some p)
theorem bind27x0 (v0 : LB) (v1 : Bool) (v2 : LD) (k0 : Ty0 → Option R) : F27x0 N v0 v1 v2 k0 = (G27x0 N v0 v1 v2).bind k0 := by
 unfold G27x0 F27x0
 repeat' (first | with_reducible apply cond_b | (with_reducible apply bnd_b; intro _) | rfl)
def sh27x0 : Sh := { tmps := [(0, .g ([.s, .sl 64]))], mem := [] }
def K27x0w0 (L : List Lf) (p : Ty0) : Res := ([.g [.s p.1, .sl 64 p.2.1 p.2.2.1], .c (.i .i64 p.2.2.2)], [])
def A27x0 (L : List Lf) : List (Bool × Res) := bnd (F27x0 N (ls L 0) (lb L 1) (ll L 2) (fun p => some p)) fun q => [(q.isSome, K27x0w0 L (q.getD default))]
theorem raw27x0 (L : List Lf) : bd Tryz.prog (T54x1 N) (h27x0s0 N).h 27 sh27x0 L = F27x0 N (ls L 0) (lb L 1) (ll L 2) (fun p => some (K27x0w0 L p)) := by kernel_rfl
theorem ok27x0 : FnOk Tryz.prog 27 sh27x0 (A27x0 N) :=
 (h27x0s0 N).fn progOk (T54x1_ok N) fun L x hx => ((raw27x0 N L).trans ((bind27x0 N ..).trans (alt1 x hx)))
def T27x0 : Oracle := ext 27 (spSh sh27x0 (A27x0 N)) (T54x1 N)
theorem T27x0_ok : OracleOk Tryz.prog (T27x0 N) := FnOk.to (ok27x0 N) (T54x1_ok N)
def rg21x0 : List (Nat × List Nat) := [(0, [0, 1]), (1, [0, 1]), (2, []), (3, [0, 1]), (4, [13, 12, 0, 1]), (5, [13, 0, 1, 12]), (6, [0, 5, 1, 13, 12]), (7, []), (8, [13, 12, 0, 1]), (9, [])]
def hd21x0 : Hints := [(12, [0, 1, 12, 13], [], [])]
def h21x0s0 (N : Nat) : Sg Tryz.prog 0 21 := .start hd21x0 rg21x0
def S21x0x12 (N : Nat) (w1 w3 : LD) (w4 : Int) (w5 : Int) (kr : Int → Option R) (k0 : Unit → Option R) (k1 : Unit → Option R) : Option R :=
 bif (decide (w5 < w4)) then
  bif (inB w5 w1.length) then
   bif (inB w5 w3.length) then
    bnd (!((((w1.getD w5.toNat (.i 0)).cell 0).toI == ((w3.getD w5.toNat (.i 0)).cell 0).toI) && ((((w1.getD w5.toNat (.i 0)).cell 1).toI == ((w3.getD w5.toNat (.i 0)).cell 1).toI) && ((((w1.getD w5.toNat (.i 0)).cell 2).toS == ((w3.getD w5.toNat (.i 0)).cell 2).toS) && ((((w1.getD w5.toNat (.i 0)).cell 3).toI == ((w3.getD w5.toNat (.i 0)).cell 3).toI) && ((((w1.getD w5.toNat (.i 0)).cell 4).toI == ((w3.getD w5.toNat (.i 0)).cell 4).toI) && ((((w1.getD w5.toNat (.i 0)).cell 5).toI == ((w3.getD w5.toNat (.i 0)).cell 5).toI) && ((((w1.getD w5.toNat (.i 0)).cell 6).toI == ((w3.getD w5.toNat (.i 0)).cell 6).toI) && ((((w1.getD w5.toNat (.i 0)).cell 7).toI == ((w3.getD w5.toNat (.i 0)).cell 7).toI) && true))))))))) fun y0 =>
    bif y0 then
     k0 ()
    else
     kr (IntKind.wrap .i64 (w5 + 1))
   else
    none
  else
   none
 else
  k1 ()
def L21x0x12 (N : Nat) {R : Type} (w1 w3 : LD) (w4 : Int) : Nat → Int → (Unit → Option R) → (Unit → Option R) → Option R
 | 0, _, _, _ => none
 | m + 1, w5, k0, k1 => S21x0x12 N w1 w3 w4 w5 (fun w5 => L21x0x12 N w1 w3 w4 m w5 k0 k1) k0 k1
def G21x0x12 (w1 w3 : LD) (w4 : Int) (w5 : Int) : Option (Sum (Unit) (Unit)) := L21x0x12 N (R := (Sum (Unit) (Unit))) w1 w3 w4 N w5 (fun p => some (.inl p)) (fun p => some (.inr p))
def J21x0x12 (L x : List Lf) (kr : List Lf → Option R) (k0 : Unit → Option R) (k1 : Unit → Option R) : Option R := S21x0x12 N (ll L 1) (ll L 3) (li L 4) (li x 0) (fun w5 => kr [.i w5]) k0 k1
theorem sb21x0x12 (L x : List Lf) (kr : List Lf → Option R) (k0 : Unit → Option R) (k1 : Unit → Option R) : J21x0x12 N L x kr k0 k1 = (J21x0x12 N L x (fun y => some (.inl y)) (fun p => some (.inr (.inl p))) (fun p => some (.inr (.inr p)))).bind (sumE kr (sumE k0 k1)) := by
 unfold J21x0x12 S21x0x12
 repeat' (first | with_reducible apply cond_b | (with_reducible apply bnd_b; intro _) | rfl)
def Q21x0x12 (L : List Lf) (m : Nat) (x : List Lf) : Option (Sum (Unit) (Unit)) := L21x0x12 N (R := (Sum (Unit) (Unit))) (ll L 1) (ll L 3) (li L 4) m (li x 0) (fun p => some (.inl p)) (fun p => some (.inr p))
def sh21x0x12 : Sh := { tmps := [(0, .c (.sl 39)), (1, .c (.sl 39)), (12, .c (.i .i64)), (13, .c (.i .i64))], mem := [] }
def A21x0x12 (L : List Lf) : List (Bool × (Ex × St)) := bnd (Q21x0x12 N L N (pk sh21x0x12 [5] L)) fun q => [((inlB q), (.ret, ⟨[(4, .c (.b false))], []⟩)), ((inrQ q).isSome, ((.exit 0), ⟨[], []⟩))]
theorem step21x0x12 (m : Nat) (kn : St → Option (Ex × St)) (L x : List Lf) : lpB Tryz.prog (T27x0 N) (h21x0s0 N).h 0 21 12 sh21x0x12 [5] [4] [] (m + 100) kn L x = J21x0x12 N L x (fun y => kn (ofSh sh21x0x12 (mx sh21x0x12 [5] L y))) (fun _ => some (.ret, ⟨[(4, .c (.b false))], []⟩)) (fun _ => some ((.exit 0), ⟨[], []⟩)) := by kernel_rfl
theorem ql21x0x12 (L : List Lf) (m : Nat) (x : List Lf) : Q21x0x12 N L (m + 1) x = J21x0x12 N L x (Q21x0x12 N L m) (fun p => some (.inl p)) (fun p => some (.inr p)) := by kernel_rfl
def h21x0s1 : Sg Tryz.prog 0 21 :=
 (h21x0s0 N).lp (A21x0x12 N) N progOk (T27x0_ok N) (fun m kn L x => (step21x0x12 N m kn L x).trans (sb21x0x12 N L x _ _ _)) (fun L m x => (ql21x0x12 N L m x).trans (sb21x0x12 N L x (Q21x0x12 N L m) (fun p => some (.inl p)) (fun p => some (.inr p)))) fun L x hx => (altS alt1) x hx
def F21x0 (v1 v3 : LD) (k0 : Bool → Option R) : Option R :=
 bif ((v1.length : Int) != (v3.length : Int)) then
  k0 false
 else
  bnd (G21x0x12 N v1 v3 (v1.length : Int) 0) fun y0 =>
  bif (inlB y0) then
   k0 false
  else
   bif (inrQ y0).isSome then
    k0 true
   else
    none
def G21x0 (v1 v3 : LD) : Option (Bool) := F21x0 N v1 v3 (fun p => some p)
theorem bind21x0 (v1 v3 : LD) (k0 : Bool → Option R) : F21x0 N v1 v3 k0 = (G21x0 N v1 v3).bind k0 := by
 unfold G21x0 F21x0
 repeat' (first | with_reducible apply cond_b | (with_reducible apply bnd_b; intro _) | rfl)
def sh21x0 : Sh := { tmps := [(0, .c (.sl 39)), (1, .c (.sl 39))], mem := [] }
def A21x0 (L : List Lf) : List (Bool × Res) := bnd (F21x0 N (ll L 1) (ll L 3) (fun p => some p)) fun q => [(q.isSome, ([.c (.b (q.getD default))], []))]
theorem raw21x0 (L : List Lf) : bd Tryz.prog (T27x0 N) (h21x0s1 N).h 21 sh21x0 L = F21x0 N (ll L 1) (ll L 3) (fun p => some ([.c (.b p)], [])) := by kernel_rfl
theorem ok21x0 : FnOk Tryz.prog 21 sh21x0 (A21x0 N) :=
 (h21x0s1 N).fn progOk (T27x0_ok N) fun L x hx => ((raw21x0 N L).trans ((bind21x0 N ..).trans (alt1 x hx)))
def T21x0 : Oracle := ext 21 (spSh sh21x0 (A21x0 N)) (T27x0 N)
theorem T21x0_ok : OracleOk Tryz.prog (T21x0 N) := FnOk.to (ok21x0 N) (T27x0_ok N)
def rg9x0 : List (Nat × List Nat) := [(0, [0, 1, 2]), (1, [3, 4, 2]), (2, [8, 7, 2, 3, 4]), (3, []), (4, [7, 2, 3, 4]), (5, [7, 9, 2, 3, 4]), (6, [30, 29, 28, 9, 2, 3, 4, 7]), (7, [28, 30, 9, 2, 3, 4, 29, 7]), (8, [11, 9, 2, 3, 4, 30, 29, 28, 7]), (9, []), (10, [11, 2, 3, 4, 30, 29, 28, 7]), (11, [2, 11, 3, 4, 30, 29, 28, 9, 7]), (12, [3, 4, 2, 11, 30, 29, 28, 9, 7]), (13, [14, 12, 11, 13, 30, 29, 28, 9, 2, 3, 4, 7]), (14, []), (15, [30, 29, 28, 9, 2, 3, 4, 7]), (16, [3, 4, 7]), (17, [16, 15, 4, 7]), (18, [15, 4, 7]), (19, [18, 7, 17]), (20, []), (21, [])]
def hd9x0 : Hints := [(18, [2, 3, 4, 7, 9, 28, 29, 30], [3, 4], []), (38, [2, 3, 4, 7, 9, 11, 28, 29, 30, 88], [3, 4, 11], []), (58, [7, 17, 18], [], []), (56, [4, 7, 15, 118], [4, 15], [])]
def h9x0s0 (N : Nat) : Sg Tryz.prog 0 9 := .start hd9x0 rg9x0
def F9x0x38 (w0 : Int) (w8 : Bool) (w9 : LB) (w10 : Bool) (w11 : LD) (w12 w13 w14 w19 w20 : Int) (k0 : Unit → Option R) (k1 : Unit → Option R) : Option R :=
 bif w8 then
  bnd (G17x0 N w9 w10 w11 w12 w13 w14 w0) fun y0 =>
  bif y0.isSome then
   bnd (bif ((y0.getD default).2.2 != 0) then true else (decide ((y0.getD default).1 < w19))) fun y1 =>
   bnd (bif y1 then true else (decide ((y0.getD default).2.1 > w20))) fun y2 =>
   bif y2 then
    k0 ()
   else
    k1 ()
  else
   none
 else
  k1 ()
def G9x0x38 (w0 : Int) (w8 : Bool) (w9 : LB) (w10 : Bool) (w11 : LD) (w12 w13 w14 w19 w20 : Int) : Option (Sum (Unit) (Unit)) := F9x0x38 N w0 w8 w9 w10 w11 w12 w13 w14 w19 w20 (fun p => some (.inl p)) (fun p => some (.inr p))
theorem bind9x0x38 (w0 : Int) (w8 : Bool) (w9 : LB) (w10 : Bool) (w11 : LD) (w12 w13 w14 w19 w20 : Int) (k0 : Unit → Option R) (k1 : Unit → Option R) : F9x0x38 N w0 w8 w9 w10 w11 w12 w13 w14 w19 w20 k0 k1 = (G9x0x38 N w0 w8 w9 w10 w11 w12 w13 w14 w19 w20).bind (sumE k0 k1) := by
 unfold G9x0x38 F9x0x38
 repeat' (first | with_reducible apply cond_b | (with_reducible apply bnd_b; intro _) | rfl)
def J9x0x38 (L : List Lf) (k0 : Unit → Option R) (k1 : Unit → Option R) : Option R := F9x0x38 N (li L 0) (lb L 8) (ls L 9) (lb L 10) (ll L 11) (li L 12) (li L 13) (li L 14) (li L 19) (li L 20) k0 k1
def sh9x0x38 : Sh := { tmps := [(2, .c (.i .i64)), (3, .c (.p 3 0)), (4, .c (.p 4 0)), (7, .c (.sl 39)), (9, .c (.i .i64)), (11, .c (.p 11 0)), (28, .c (.sl 39)), (29, .c (.i .i64)), (30, .c (.i .i64)), (88, .c (.b))], mem := [(3, .box ([.s, .sl 64])), (4, .box ([.i .i64, .i .i64, .i .i64])), (11, .box (.i .i64 :: .i .i64 :: .s :: rI 5 ([])))] }
def K9x0x38w0 (L : List Lf) (_ : Unit) : Ex × St := (.ret, mg (ofSh sh9x0x38 L) [6] [(6, .c (.b false))] [4, 3] [])
def K9x0x38w1 (L : List Lf) (_ : Unit) : Ex × St := (.normal, mg (ofSh sh9x0x38 L) [30, 29, 28, 9, 2, 3, 4, 7] [] [4, 3] [])
def A9x0x38 (L : List Lf) : List (Bool × (Ex × St)) := bnd (J9x0x38 N L (fun p => some (.inl p)) (fun p => some (.inr p))) fun q => [((inlB q), K9x0x38w0 L ()), ((inrQ q).isSome, K9x0x38w1 L ())]
theorem raw9x0x38 (L : List Lf) : pc Tryz.prog (T21x0 N) (h9x0s0 N).h 0 100 9 38 sh9x0x38 L [30, 29, 28, 9, 2, 3, 4, 7, 6] [4, 3] = J9x0x38 N L (fun _ => some (K9x0x38w0 L ())) (fun _ => some (K9x0x38w1 L ())) := by kernel_rfl
def h9x0s1 : Sg Tryz.prog 0 9 :=
 (h9x0s0 N).cut (A9x0x38 N) progOk (T21x0_ok N) fun L x hx => (raw9x0x38 N L).trans ((bind9x0x38 N ..).trans ((altS alt1) x hx))
def S9x0x18 (w0 : Int) (w5 : LD) (w6 : Int) (w8 : LB) (w9 : Bool) (w10 : LD) (w11 w12 w13 : Int) (w3 w7 : Int) (kr : Int → Int → Option R) (k0 : Unit → Option R) (k1 : Unit → Option R) : Option R :=
 bif (decide (w7 < w6)) then
  bif (inB w7 w5.length) then
   bnd (bif (((w5.getD w7.toNat (.i 0)).cell 0).toI != w3) then true else (decide (((w5.getD w7.toNat (.i 0)).cell 1).toI ≤ ((w5.getD w7.toNat (.i 0)).cell 0).toI))) fun y0 =>
   bnd (bif y0 then true else (decide (((w5.getD w7.toNat (.i 0)).cell 4).toI > ((w5.getD w7.toNat (.i 0)).cell 5).toI))) fun y1 =>
   bnd (bif y1 then true else (bif (((w5.getD w7.toNat (.i 0)).cell 6).toI != 0) then (bif ((min2 ((w5.getD w7.toNat (.i 0)).cell 6).toI ((w5.getD w7.toNat (.i 0)).cell 7).toI) != ((w5.getD w7.toNat (.i 0)).cell 4).toI) then true else ((max2 ((w5.getD w7.toNat (.i 0)).cell 6).toI ((w5.getD w7.toNat (.i 0)).cell 7).toI) != ((w5.getD w7.toNat (.i 0)).cell 5).toI)) else false)) fun y2 =>
   bif y2 then
    k0 ()
   else
    bnd (bif (decide (w0 ≥ ((w5.getD w7.toNat (.i 0)).cell 0).toI)) then (decide (w0 < ((w5.getD w7.toNat (.i 0)).cell 1).toI)) else false) fun y3 =>
    bnd (G9x0x38 N w0 y3 w8 w9 w10 w11 w12 w13 ((w5.getD w7.toNat (.i 0)).cell 4).toI ((w5.getD w7.toNat (.i 0)).cell 5).toI) fun y4 =>
    bif (inlB y4) then
     k0 ()
    else
     bif (inrQ y4).isSome then
      kr ((w5.getD w7.toNat (.i 0)).cell 1).toI (IntKind.wrap .i64 (w7 + 1))
     else
      none
  else
   none
 else
  k1 ()
def L9x0x18 (N : Nat) {R : Type} (w0 : Int) (w5 : LD) (w6 : Int) (w8 : LB) (w9 : Bool) (w10 : LD) (w11 w12 w13 : Int) : Nat → Int → Int → (Unit → Option R) → (Unit → Option R) → Option R
 | 0, _, _, _, _ => none
 | m + 1, w3, w7, k0, k1 => S9x0x18 N w0 w5 w6 w8 w9 w10 w11 w12 w13 w3 w7 (fun w3 w7 => L9x0x18 N w0 w5 w6 w8 w9 w10 w11 w12 w13 m w3 w7 k0 k1) k0 k1
def G9x0x18 (w0 : Int) (w5 : LD) (w6 : Int) (w8 : LB) (w9 : Bool) (w10 : LD) (w11 w12 w13 : Int) (w3 w7 : Int) : Option (Sum (Unit) (Unit)) := L9x0x18 N (R := (Sum (Unit) (Unit))) w0 w5 w6 w8 w9 w10 w11 w12 w13 N w3 w7 (fun p => some (.inl p)) (fun p => some (.inr p))
def J9x0x18 (L x : List Lf) (kr : List Lf → Option R) (k0 : Unit → Option R) (k1 : Unit → Option R) : Option R := S9x0x18 N (li L 0) (ll L 5) (li L 6) (ls L 8) (lb L 9) (ll L 10) (li L 11) (li L 12) (li L 13) (li x 0) (li x 1) (fun w3 w7 => kr [.i w3, .i w7]) k0 k1
theorem sb9x0x18 (L x : List Lf) (kr : List Lf → Option R) (k0 : Unit → Option R) (k1 : Unit → Option R) : J9x0x18 N L x kr k0 k1 = (J9x0x18 N L x (fun y => some (.inl y)) (fun p => some (.inr (.inl p))) (fun p => some (.inr (.inr p)))).bind (sumE kr (sumE k0 k1)) := by
 unfold J9x0x18 S9x0x18
 repeat' (first | with_reducible apply cond_b | (with_reducible apply bnd_b; intro _) | rfl)
def Q9x0x18 (L : List Lf) (m : Nat) (x : List Lf) : Option (Sum (Unit) (Unit)) := L9x0x18 N (R := (Sum (Unit) (Unit))) (li L 0) (ll L 5) (li L 6) (ls L 8) (lb L 9) (ll L 10) (li L 11) (li L 12) (li L 13) m (li x 0) (li x 1) (fun p => some (.inl p)) (fun p => some (.inr p))
def sh9x0x18 : Sh := { tmps := [(2, .c (.i .i64)), (3, .c (.p 3 0)), (4, .c (.p 4 0)), (7, .c (.sl 39)), (9, .c (.i .i64)), (28, .c (.sl 39)), (29, .c (.i .i64)), (30, .c (.i .i64))], mem := [(3, .box ([.s, .sl 64])), (4, .box ([.i .i64, .i .i64, .i .i64]))] }
def K9x0x18w0 (L : List Lf) (_ : Unit) : Ex × St := (.ret, mg (ofSh sh9x0x18 L) [6] [(6, .c (.b false))] [4, 3] [])
def A9x0x18 (L : List Lf) : List (Bool × (Ex × St)) := bnd (Q9x0x18 N L N (pk sh9x0x18 [3, 7] L)) fun q => [((inlB q), K9x0x18w0 L ()), ((inrQ q).isSome, ((.exit 0), mg (ofSh sh9x0x18 L) [3, 4, 7] [] [4, 3] []))]
theorem step9x0x18 (m : Nat) (kn : St → Option (Ex × St)) (L x : List Lf) : lpB Tryz.prog (T21x0 N) (h9x0s1 N).h 0 9 18 sh9x0x18 [3, 7] [6, 3, 4, 7] [4, 3] (m + 100) kn L x = J9x0x18 N L x (fun y => kn (ofSh sh9x0x18 (mx sh9x0x18 [3, 7] L y))) (fun _ => some (K9x0x18w0 L ())) (fun _ => some ((.exit 0), mg (ofSh sh9x0x18 L) [3, 4, 7] [] [4, 3] [])) := by kernel_rfl
theorem ql9x0x18 (L : List Lf) (m : Nat) (x : List Lf) : Q9x0x18 N L (m + 1) x = J9x0x18 N L x (Q9x0x18 N L m) (fun p => some (.inl p)) (fun p => some (.inr p)) := by kernel_rfl
def h9x0s2 : Sg Tryz.prog 0 9 :=
 (h9x0s1 N).lp (A9x0x18 N) N progOk (T21x0_ok N) (fun m kn L x => (step9x0x18 N m kn L x).trans (sb9x0x18 N L x _ _ _)) (fun L m x => (ql9x0x18 N L m x).trans (sb9x0x18 N L x (Q9x0x18 N L m) (fun p => some (.inl p)) (fun p => some (.inr p)))) fun L x hx => (altS alt1) x hx
def F9x0x58 (w1 w3 : LD) (w4 : Int) (k0 : Bool → Option R) : Option R :=
 bif (w4 != 0) then
  k0 true
 else
  bnd (G21x0 N w1 w3) fun y0 =>
  bif y0.isSome then
   k0 (!(y0.getD default))
  else
   none
def G9x0x58 (w1 w3 : LD) (w4 : Int) : Option (Bool) := F9x0x58 N w1 w3 w4 (fun p => some p)
theorem bind9x0x58 (w1 w3 : LD) (w4 : Int) (k0 : Bool → Option R) : F9x0x58 N w1 w3 w4 k0 = (G9x0x58 N w1 w3 w4).bind k0 := by
 unfold G9x0x58 F9x0x58
 repeat' (first | with_reducible apply cond_b | (with_reducible apply bnd_b; intro _) | rfl)
def sh9x0x58 : Sh := { tmps := [(7, .c (.sl 39)), (17, .c (.sl 39)), (18, .c (.i .i64))], mem := [] }
def A9x0x58 (L : List Lf) : List (Bool × (Ex × St)) := bnd (F9x0x58 N (ll L 1) (ll L 3) (li L 4) (fun p => some p)) fun q => [(q.isSome, (.normal, ⟨[(132, .c (.b (q.getD default)))], []⟩))]
theorem raw9x0x58 (L : List Lf) : pc Tryz.prog (T21x0 N) (h9x0s2 N).h 0 100 9 58 sh9x0x58 L [132] [] = F9x0x58 N (ll L 1) (ll L 3) (li L 4) (fun p => some (.normal, ⟨[(132, .c (.b p))], []⟩)) := by kernel_rfl
def h9x0s3 : Sg Tryz.prog 0 9 :=
 (h9x0s2 N).cut (A9x0x58 N) progOk (T21x0_ok N) fun L x hx => (raw9x0x58 N L).trans ((bind9x0x58 N ..).trans (alt1 x hx))
def F9x0x56 (w1 : LD) (w2 : Bool) (w3 w4 w5 : Int) (w6 : LB) (w7 : Bool) (w8 : LD) (k0 : Unit → Option R) (k1 : Unit → Option R) : Option R :=
 bif w2 then
  bnd (G15x0 N w6 w7 w8 w3 w4 w5) fun y0 =>
  bif y0.isSome then
   bnd (G9x0x58 N w1 (y0.getD default).2.1 (y0.getD default).2.2) fun y1 =>
   bif y1.isSome then
    bif (y1.getD default) then
     k0 ()
    else
     k1 ()
   else
    none
  else
   none
 else
  k1 ()
def G9x0x56 (w1 : LD) (w2 : Bool) (w3 w4 w5 : Int) (w6 : LB) (w7 : Bool) (w8 : LD) : Option (Sum (Unit) (Unit)) := F9x0x56 N w1 w2 w3 w4 w5 w6 w7 w8 (fun p => some (.inl p)) (fun p => some (.inr p))
theorem bind9x0x56 (w1 : LD) (w2 : Bool) (w3 w4 w5 : Int) (w6 : LB) (w7 : Bool) (w8 : LD) (k0 : Unit → Option R) (k1 : Unit → Option R) : F9x0x56 N w1 w2 w3 w4 w5 w6 w7 w8 k0 k1 = (G9x0x56 N w1 w2 w3 w4 w5 w6 w7 w8).bind (sumE k0 k1) := by
 unfold G9x0x56 F9x0x56
 repeat' (first | with_reducible apply cond_b | (with_reducible apply bnd_b; intro _) | rfl)
def J9x0x56 (L : List Lf) (k0 : Unit → Option R) (k1 : Unit → Option R) : Option R := F9x0x56 N (ll L 1) (lb L 2) (li L 3) (li L 4) (li L 5) (ls L 6) (lb L 7) (ll L 8) k0 k1
def sh9x0x56 : Sh := { tmps := [(4, .c (.p 4 0)), (7, .c (.sl 39)), (15, .c (.p 15 0)), (118, .c (.b))], mem := [(4, .box ([.i .i64, .i .i64, .i .i64])), (15, .box ([.s, .sl 64]))] }
def A9x0x56 (L : List Lf) : List (Bool × (Ex × St)) := bnd (J9x0x56 N L (fun p => some (.inl p)) (fun p => some (.inr p))) fun q => [((inlB q), (.ret, ⟨[(6, .c (.b false))], []⟩)), ((inrQ q).isSome, (.normal, ⟨[], []⟩))]
theorem raw9x0x56 (L : List Lf) : pc Tryz.prog (T21x0 N) (h9x0s3 N).h 0 100 9 56 sh9x0x56 L [6] [] = J9x0x56 N L (fun _ => some (.ret, ⟨[(6, .c (.b false))], []⟩)) (fun _ => some (.normal, ⟨[], []⟩)) := by kernel_rfl
def h9x0s4 : Sg Tryz.prog 0 9 :=
 (h9x0s3 N).cut (A9x0x56 N) progOk (T21x0_ok N) fun L x hx => (raw9x0x56 N L).trans ((bind9x0x56 N ..).trans ((altS alt1) x hx))
def F9x0 (v0 : LB) (v1 : Bool) (v2 : LD) (v3 v4 v5 v6 : Int) (k0 : Bool → Option R) : Option R :=
 bnd (G15x0 N v0 v1 v2 v3 v4 v5) fun y0 =>
 bif y0.isSome then
  bif ((y0.getD default).2.2 != 0) then
   k0 true
  else
   bnd (G9x0x18 N v6 (y0.getD default).2.1 ((y0.getD default).2.1.length : Int) v0 v1 v2 v3 v4 v5 0 0) fun y1 =>
   bif (inlB y1) then
    k0 false
   else
    bif (inrQ y1).isSome then
     bnd (G27x0 N v0 v1 v2) fun y2 =>
     bif y2.isSome then
      bnd (G9x0x56 N (y0.getD default).2.1 ((y2.getD default).2.2.2 == 0) v3 v4 v5 (y2.getD default).1 (y2.getD default).2.1 (y2.getD default).2.2.1) fun y3 =>
      bif (inlB y3) then
       k0 false
      else
       bif (inrQ y3).isSome then
        k0 true
       else
        none
     else
      none
    else
     none
 else
  none
def G9x0 (v0 : LB) (v1 : Bool) (v2 : LD) (v3 v4 v5 v6 : Int) : Option (Bool) := F9x0 N v0 v1 v2 v3 v4 v5 v6 (fun p => some p)
theorem bind9x0 (v0 : LB) (v1 : Bool) (v2 : LD) (v3 v4 v5 v6 : Int) (k0 : Bool → Option R) : F9x0 N v0 v1 v2 v3 v4 v5 v6 k0 = (G9x0 N v0 v1 v2 v3 v4 v5 v6).bind k0 := by
 unfold G9x0 F9x0
 repeat' (first | with_reducible apply cond_b | (with_reducible apply bnd_b; intro _) | rfl)
def J9x0 (L : List Lf) (k0 : Bool → Option R) : Option R := F9x0 N (ls L 0) (lb L 1) (ll L 2) (li L 3) (li L 4) (li L 5) (li L 6) k0
def sh9x0 : Sh := { tmps := [(0, .g ([.s, .sl 64])), (1, .g ([.i .i64, .i .i64, .i .i64])), (2, .c (.i .i64))], mem := [] }
def A9x0 (L : List Lf) : List (Bool × Res) := bnd (J9x0 N L (fun p => some p)) fun q => [(q.isSome, ([.c (.b (q.getD default))], []))]
theorem raw9x0 (L : List Lf) : bd Tryz.prog (T21x0 N) (h9x0s4 N).h 9 sh9x0 L = J9x0 N L (fun p => some ([.c (.b p)], [])) := by kernel_rfl
theorem ok9x0 : FnOk Tryz.prog 9 sh9x0 (A9x0 N) :=
 (h9x0s4 N).fn progOk (T21x0_ok N) fun L x hx => ((raw9x0 N L).trans ((bind9x0 N ..).trans (alt1 x hx)))
def T9x0 : Oracle := ext 9 (spSh sh9x0 (A9x0 N)) (T21x0 N)
theorem T9x0_ok : OracleOk Tryz.prog (T9x0 N) := FnOk.to (ok9x0 N) (T21x0_ok N)
def rg59x0 : List (Nat × List Nat) := [(0, [0]), (1, [0])]
def hd59x0 : Hints := []
def h59x0s0 (N : Nat) : Sg Tryz.prog 0 59 := .start hd59x0 rg59x0
def F59x0 (N : Nat) (v0 : Int) (k0 : Bool → R) : R :=
 k0 (bif (decide (v0 ≥ 48)) then (decide (v0 ≤ 57)) else false)
def V59x0 (v0 : Int) : Bool := F59x0 N v0 (fun p => p)
theorem tot59x0 (v0 : Int) (k0 : Bool → R) : F59x0 N v0 k0 = k0 (V59x0 N v0) := by
 unfold V59x0 F59x0
 repeat' (first | rfl | apply cond_k | (apply bnd_k; intro _))
def sh59x0 : Sh := { tmps := [(0, .c (.i .u8))], mem := [] }
def A59x0 (L : List Lf) : List (Bool × Res) := bnd (F59x0 N (li L 0) (fun p => p)) fun q => [(true, ([.c (.b q)], []))]
theorem raw59x0 (L : List Lf) : bd Tryz.prog (T9x0 N) (h59x0s0 N).h 59 sh59x0 L = F59x0 N (li L 0) (fun p => some ([.c (.b p)], [])) := by kernel_rfl
theorem ok59x0 : FnOk Tryz.prog 59 sh59x0 (A59x0 N) :=
 (h59x0s0 N).fn progOk (T9x0_ok N) fun L x hx => ((raw59x0 N L).trans ((tot59x0 N ..).trans (alt0 _ _ hx)))
def T59x0 : Oracle := ext 59 (spSh sh59x0 (A59x0 N)) (T9x0 N)
theorem T59x0_ok : OracleOk Tryz.prog (T59x0 N) := FnOk.to (ok59x0 N) (T9x0_ok N)
def rg33x0 : List (Nat × List Nat) := [(0, [0]), (1, [0]), (2, []), (3, [0]), (4, [3, 0]), (6, [0, 3]), (7, [4, 3, 0]), (8, [5, 6, 4, 3, 0]), (9, []), (5, [3, 0]), (10, [])]
def hd33x0 : Hints := [(12, [0, 3], [], []), (25, [0, 3, 4, 5, 6], [], [])]
def h33x0s0 (N : Nat) : Sg Tryz.prog 0 33 := .start hd33x0 rg33x0
def F33x0x25 (w2 : Int) (w3 w4 : Bool) (k0 : Bool → R) : R :=
 bif (bif (!w3) then (!w4) else false) then
  bnd (V59x0 N w2) fun y0 =>
  bnd (bif (bif (!y0) then (w2 != 45) else false) then (w2 != 95) else false) fun y1 =>
  k0 (bif y1 then (w2 != 46) else false)
 else
  k0 false
def V33x0x25 (w2 : Int) (w3 w4 : Bool) : Bool := F33x0x25 N w2 w3 w4 (fun p => p)
theorem tot33x0x25 (w2 : Int) (w3 w4 : Bool) (k0 : Bool → R) : F33x0x25 N w2 w3 w4 k0 = k0 (V33x0x25 N w2 w3 w4) := by
 unfold V33x0x25 F33x0x25
 repeat' (first | rfl | apply cond_k | (apply bnd_k; intro _))
def sh33x0x25 : Sh := { tmps := [(0, .c (.s)), (3, .c (.i .i64)), (4, .c (.i .u8)), (5, .c (.b)), (6, .c (.b))], mem := [] }
def K33x0x25w0 (L : List Lf) (p : Bool) : Ex × St := (.normal, mg (ofSh sh33x0x25 L) [3, 0, 58] [(58, .c (.b p))] [] [])
def A33x0x25 (L : List Lf) : List (Bool × (Ex × St)) := bnd (F33x0x25 N (li L 2) (lb L 3) (lb L 4) (fun p => p)) fun q => [(true, K33x0x25w0 L q)]
theorem raw33x0x25 (L : List Lf) : pc Tryz.prog (T59x0 N) (h33x0s0 N).h 0 100 33 25 sh33x0x25 L [3, 0, 58] [] = F33x0x25 N (li L 2) (lb L 3) (lb L 4) (fun p => some (K33x0x25w0 L p)) := by kernel_rfl
def h33x0s1 : Sg Tryz.prog 0 33 :=
 (h33x0s0 N).cut (A33x0x25 N) progOk (T59x0_ok N) fun L x hx => (raw33x0x25 N L).trans ((tot33x0x25 N ..).trans (alt0 _ _ hx))
def S33x0x12 (w0 : LB) (w1 : Int) (kr : Int → Option R) (k0 : Unit → Option R) (k1 : Unit → Option R) : Option R :=
 bif (decide (w1 < (w0.length : Int))) then
  bif (inB w1 w0.length) then
   bnd (bif (decide (((w0.getD w1.toNat 0).toNat : Int) ≥ 97)) then (decide (((w0.getD w1.toNat 0).toNat : Int) ≤ 122)) else false) fun y0 =>
   bnd (bif (decide (((w0.getD w1.toNat 0).toNat : Int) ≥ 65)) then (decide (((w0.getD w1.toNat 0).toNat : Int) ≤ 90)) else false) fun y1 =>
   bnd (V33x0x25 N ((w0.getD w1.toNat 0).toNat : Int) y0 y1) fun y2 =>
   bif y2 then
    k0 ()
   else
    kr (IntKind.wrap .i64 (w1 + 1))
  else
   none
 else
  k1 ()
def L33x0x12 (N : Nat) {R : Type} (w0 : LB) : Nat → Int → (Unit → Option R) → (Unit → Option R) → Option R
 | 0, _, _, _ => none
 | m + 1, w1, k0, k1 => S33x0x12 N w0 w1 (fun w1 => L33x0x12 N w0 m w1 k0 k1) k0 k1
def G33x0x12 (w0 : LB) (w1 : Int) : Option (Sum (Unit) (Unit)) := L33x0x12 N (R := (Sum (Unit) (Unit))) w0 N w1 (fun p => some (.inl p)) (fun p => some (.inr p))
def J33x0x12 (L x : List Lf) (kr : List Lf → Option R) (k0 : Unit → Option R) (k1 : Unit → Option R) : Option R := S33x0x12 N (ls L 0) (li x 0) (fun w1 => kr [.i w1]) k0 k1
theorem sb33x0x12 (L x : List Lf) (kr : List Lf → Option R) (k0 : Unit → Option R) (k1 : Unit → Option R) : J33x0x12 N L x kr k0 k1 = (J33x0x12 N L x (fun y => some (.inl y)) (fun p => some (.inr (.inl p))) (fun p => some (.inr (.inr p)))).bind (sumE kr (sumE k0 k1)) := by
 unfold J33x0x12 S33x0x12
 repeat' (first | with_reducible apply cond_b | (with_reducible apply bnd_b; intro _) | rfl)
def Q33x0x12 (L : List Lf) (m : Nat) (x : List Lf) : Option (Sum (Unit) (Unit)) := L33x0x12 N (R := (Sum (Unit) (Unit))) (ls L 0) m (li x 0) (fun p => some (.inl p)) (fun p => some (.inr p))
def sh33x0x12 : Sh := { tmps := [(0, .c (.s)), (3, .c (.i .i64))], mem := [] }
def A33x0x12 (L : List Lf) : List (Bool × (Ex × St)) := bnd (Q33x0x12 N L N (pk sh33x0x12 [1] L)) fun q => [((inlB q), (.ret, ⟨[(2, .c (.b false))], []⟩)), ((inrQ q).isSome, ((.exit 0), ⟨[], []⟩))]
theorem step33x0x12 (m : Nat) (kn : St → Option (Ex × St)) (L x : List Lf) : lpB Tryz.prog (T59x0 N) (h33x0s1 N).h 0 33 12 sh33x0x12 [1] [2] [] (m + 100) kn L x = J33x0x12 N L x (fun y => kn (ofSh sh33x0x12 (mx sh33x0x12 [1] L y))) (fun _ => some (.ret, ⟨[(2, .c (.b false))], []⟩)) (fun _ => some ((.exit 0), ⟨[], []⟩)) := by kernel_rfl
theorem ql33x0x12 (L : List Lf) (m : Nat) (x : List Lf) : Q33x0x12 N L (m + 1) x = J33x0x12 N L x (Q33x0x12 N L m) (fun p => some (.inl p)) (fun p => some (.inr p)) := by kernel_rfl
def h33x0s2 : Sg Tryz.prog 0 33 :=
 (h33x0s1 N).lp (A33x0x12 N) N progOk (T59x0_ok N) (fun m kn L x => (step33x0x12 N m kn L x).trans (sb33x0x12 N L x _ _ _)) (fun L m x => (ql33x0x12 N L m x).trans (sb33x0x12 N L x (Q33x0x12 N L m) (fun p => some (.inl p)) (fun p => some (.inr p)))) fun L x hx => (altS alt1) x hx
def F33x0 (v0 : LB) (k0 : Bool → Option R) : Option R :=
 bnd (bif (decide ((v0.length : Int) < 1)) then true else (decide ((v0.length : Int) > 60))) fun y0 =>
 bif y0 then
  k0 false
 else
  bnd (G33x0x12 N v0 0) fun y1 =>
  bif (inlB y1) then
   k0 false
  else
   bif (inrQ y1).isSome then
    k0 true
   else
    none
def G33x0 (v0 : LB) : Option (Bool) := F33x0 N v0 (fun p => some p)
theorem bind33x0 (v0 : LB) (k0 : Bool → Option R) : F33x0 N v0 k0 = (G33x0 N v0).bind k0 := by
 unfold G33x0 F33x0
 repeat' (first | with_reducible apply cond_b | (with_reducible apply bnd_b; intro _) | rfl)
def sh33x0 : Sh := { tmps := [(0, .c (.s))], mem := [] }
def A33x0 (L : List Lf) : List (Bool × Res) := bnd (F33x0 N (ls L 0) (fun p => some p)) fun q => [(q.isSome, ([.c (.b (q.getD default))], []))]
theorem raw33x0 (L : List Lf) : bd Tryz.prog (T59x0 N) (h33x0s2 N).h 33 sh33x0 L = F33x0 N (ls L 0) (fun p => some ([.c (.b p)], [])) := by kernel_rfl
theorem ok33x0 : FnOk Tryz.prog 33 sh33x0 (A33x0 N) :=
 (h33x0s2 N).fn progOk (T59x0_ok N) fun L x hx => ((raw33x0 N L).trans ((bind33x0 N ..).trans (alt1 x hx)))
def T33x0 : Oracle := ext 33 (spSh sh33x0 (A33x0 N)) (T59x0 N)
theorem T33x0_ok : OracleOk Tryz.prog (T33x0 N) := FnOk.to (ok33x0 N) (T59x0_ok N)
def rg49x0 : List (Nat × List Nat) := [(0, [0, 1, 2]), (1, [0, 1, 2])]
def hd49x0 : Hints := []
def h49x0s0 (N : Nat) : Sg Tryz.prog 0 49 := .start hd49x0 rg49x0
def F49x0 (N : Nat) (v0 v1 v2 : Int) (k0 : Bool → R) : R :=
 k0 (bif (decide (v0 < v1)) then true else (decide (v0 > v2)))
def V49x0 (v0 v1 v2 : Int) : Bool := F49x0 N v0 v1 v2 (fun p => p)
theorem tot49x0 (v0 v1 v2 : Int) (k0 : Bool → R) : F49x0 N v0 v1 v2 k0 = k0 (V49x0 N v0 v1 v2) := by
 unfold V49x0 F49x0
 repeat' (first | rfl | apply cond_k | (apply bnd_k; intro _))
def sh49x0 : Sh := { tmps := [(0, .c (.i .i64)), (1, .c (.i .i64)), (2, .c (.i .i64))], mem := [] }
def A49x0 (L : List Lf) : List (Bool × Res) := bnd (F49x0 N (li L 0) (li L 1) (li L 2) (fun p => p)) fun q => [(true, ([.c (.b q)], []))]
theorem raw49x0 (L : List Lf) : bd Tryz.prog (T33x0 N) (h49x0s0 N).h 49 sh49x0 L = F49x0 N (li L 0) (li L 1) (li L 2) (fun p => some ([.c (.b p)], [])) := by kernel_rfl
theorem ok49x0 : FnOk Tryz.prog 49 sh49x0 (A49x0 N) :=
 (h49x0s0 N).fn progOk (T33x0_ok N) fun L x hx => ((raw49x0 N L).trans ((tot49x0 N ..).trans (alt0 _ _ hx)))
def T49x0 : Oracle := ext 49 (spSh sh49x0 (A49x0 N)) (T33x0 N)
theorem T49x0_ok : OracleOk Tryz.prog (T49x0 N) := FnOk.to (ok49x0 N) (T33x0_ok N)
def rg88x0 : List (Nat × List Nat) := [(0, [0]), (1, [0]), (2, [3]), (4, [3]), (6, [3]), (7, []), (5, []), (3, []), (8, [])]
def hd88x0 : Hints := []
def h88x0s0 (N : Nat) : Sg Tryz.prog 0 88 := .start hd88x0 rg88x0
def F88x0 (N : Nat) (v0 : Int) (k0 : Int → R) : R :=
 bif (v0 == 1) then
  k0 3000
 else
  bif (v0 == 2) then
   k0 300
  else
   bif (v0 == 3) then
    k0 300
   else
    k0 36000
def V88x0 (v0 : Int) : Int := F88x0 N v0 (fun p => p)
theorem tot88x0 (v0 : Int) (k0 : Int → R) : F88x0 N v0 k0 = k0 (V88x0 N v0) := by
 unfold V88x0 F88x0
 repeat' (first | rfl | apply cond_k | (apply bnd_k; intro _))
def sh88x0 : Sh := { tmps := [(0, .c (.i .i64))], mem := [] }
def A88x0 (L : List Lf) : List (Bool × Res) := bnd (F88x0 N (li L 0) (fun p => p)) fun q => [(true, ([.c (.i .i64 q)], []))]
theorem raw88x0 (L : List Lf) : bd Tryz.prog (T49x0 N) (h88x0s0 N).h 88 sh88x0 L = F88x0 N (li L 0) (fun p => some ([.c (.i .i64 p)], [])) := by kernel_rfl
theorem ok88x0 : FnOk Tryz.prog 88 sh88x0 (A88x0 N) :=
 (h88x0s0 N).fn progOk (T49x0_ok N) fun L x hx => ((raw88x0 N L).trans ((tot88x0 N ..).trans (alt0 _ _ hx)))
def T88x0 : Oracle := ext 88 (spSh sh88x0 (A88x0 N)) (T49x0 N)
theorem T88x0_ok : OracleOk Tryz.prog (T88x0 N) := FnOk.to (ok88x0 N) (T49x0_ok N)
def rg83x0 : List (Nat × List Nat) := [(0, [0]), (1, [1]), (2, [3, 1]), (3, []), (4, [3, 1]), (5, [3, 1]), (6, []), (7, []), (8, [3, 1]), (9, []), (10, [3, 1]), (11, [3, 1, 4]), (12, [3, 1]), (13, [3, 4, 1]), (14, []), (15, [3, 1]), (16, []), (17, [])]
def hd83x0 : Hints := [(38, [1, 3, 4, 32], [1, 3], []), (40, [1, 3, 4], [1, 3], [])]
def h83x0s0 (N : Nat) : Sg Tryz.prog 0 83 := .start hd83x0 rg83x0
def F83x0x38 (N : Nat) (w0 : Int) (w1 : Bool) (k0 : Int → R) : R :=
 bif w1 then
  k0 300
 else
  k0 w0
def V83x0x38 (w0 : Int) (w1 : Bool) : Int := F83x0x38 N w0 w1 (fun p => p)
theorem tot83x0x38 (w0 : Int) (w1 : Bool) (k0 : Int → R) : F83x0x38 N w0 w1 k0 = k0 (V83x0x38 N w0 w1) := by
 unfold V83x0x38 F83x0x38
 repeat' (first | rfl | apply cond_k | (apply bnd_k; intro _))
def sh83x0x38 : Sh := { tmps := [(1, .c (.p 1 0)), (3, .c (.p 3 0)), (4, .c (.i .i64)), (32, .c (.b))], mem := [(1, .box (.i .i64 :: .s :: .i .i64 :: .i .i64 :: .i .i64 :: [.b, .i .i64, .i .i64, .i .i64, .sl 64])), (3, .box ([.i .i64, .b, .i .i64, .i .i64]))] }
def K83x0x38w0 (L : List Lf) (p : Int) : Ex × St := (.normal, mg (ofSh sh83x0x38 L) [3, 4, 1] [(4, .c (.i .i64 p))] [3, 1] [])
def A83x0x38 (L : List Lf) : List (Bool × (Ex × St)) := bnd (F83x0x38 N (li L 0) (lb L 1) (fun p => p)) fun q => [(true, K83x0x38w0 L q)]
theorem raw83x0x38 (L : List Lf) : pc Tryz.prog (T88x0 N) (h83x0s0 N).h 0 100 83 38 sh83x0x38 L [3, 4, 1] [3, 1] = F83x0x38 N (li L 0) (lb L 1) (fun p => some (K83x0x38w0 L p)) := by kernel_rfl
def h83x0s1 : Sg Tryz.prog 0 83 :=
 (h83x0s0 N).cut (A83x0x38 N) progOk (T88x0_ok N) fun L x hx => (raw83x0x38 N L).trans ((tot83x0x38 N ..).trans (alt0 _ _ hx))
def F83x0x40 (w0 w14 w15 : Int) (k0 : Bool → R) : R :=
 bnd (V49x0 N w14 1 w0) fun y0 =>
 bif y0 then
  k0 true
 else
  bnd (V49x0 N w15 1 w0) fun y1 =>
  k0 y1
def V83x0x40 (w0 w14 w15 : Int) : Bool := F83x0x40 N w0 w14 w15 (fun p => p)
theorem tot83x0x40 (w0 w14 w15 : Int) (k0 : Bool → R) : F83x0x40 N w0 w14 w15 k0 = k0 (V83x0x40 N w0 w14 w15) := by
 unfold V83x0x40 F83x0x40
 repeat' (first | rfl | apply cond_k | (apply bnd_k; intro _))
def sh83x0x40 : Sh := { tmps := [(1, .c (.p 1 0)), (3, .c (.p 3 0)), (4, .c (.i .i64))], mem := [(1, .box (.i .i64 :: .s :: .i .i64 :: .i .i64 :: .i .i64 :: [.b, .i .i64, .i .i64, .i .i64, .sl 64])), (3, .box ([.i .i64, .b, .i .i64, .i .i64]))] }
def K83x0x40w0 (L : List Lf) (p : Bool) : Ex × St := (.normal, mg (ofSh sh83x0x40 L) [3, 1, 42] [(42, .c (.b p))] [3, 1] [])
def A83x0x40 (L : List Lf) : List (Bool × (Ex × St)) := bnd (F83x0x40 N (li L 0) (li L 14) (li L 15) (fun p => p)) fun q => [(true, K83x0x40w0 L q)]
theorem raw83x0x40 (L : List Lf) : pc Tryz.prog (T88x0 N) (h83x0s1 N).h 0 100 83 40 sh83x0x40 L [3, 1, 42] [3, 1] = F83x0x40 N (li L 0) (li L 14) (li L 15) (fun p => some (K83x0x40w0 L p)) := by kernel_rfl
def h83x0s2 : Sg Tryz.prog 0 83 :=
 (h83x0s1 N).cut (A83x0x40 N) progOk (T88x0_ok N) fun L x hx => (raw83x0x40 N L).trans ((tot83x0x40 N ..).trans (alt0 _ _ hx))
def F83x0 (v0 v4 : Int) (v5 : Bool) (v6 v7 : Int) (k0 : Int → R) : R :=
 bnd (V49x0 N v4 0 4) fun y0 =>
 bif y0 then
  k0 7
 else
  bif (v4 == 0) then
   bnd (!((v4 == 0) && ((v5 == false) && ((v6 == 0) && ((v7 == 0) && true))))) fun y1 =>
   bif (bif y1 then true else (v0 == 2)) then
    k0 2
   else
    k0 0
  else
   bif (bif v5 then (v4 == 3) else false) then
    k0 2
   else
    bnd (V88x0 N v4) fun y2 =>
    bnd (V83x0x38 N y2 v5) fun y3 =>
    bnd (V83x0x40 N y3 v6 v7) fun y4 =>
    bif y4 then
     k0 9
    else
     bif (bif (decide (v6 > v7)) then (v0 != 2) else false) then
      k0 10
     else
      k0 0
def V83x0 (v0 v4 : Int) (v5 : Bool) (v6 v7 : Int) : Int := F83x0 N v0 v4 v5 v6 v7 (fun p => p)
theorem tot83x0 (v0 v4 : Int) (v5 : Bool) (v6 v7 : Int) (k0 : Int → R) : F83x0 N v0 v4 v5 v6 v7 k0 = k0 (V83x0 N v0 v4 v5 v6 v7) := by
 unfold V83x0 F83x0
 repeat' (first | rfl | apply cond_k | (apply bnd_k; intro _))
def J83x0 (L : List Lf) (k0 : Int → R) : R := F83x0 N (li L 0) (li L 4) (lb L 5) (li L 6) (li L 7) k0
def sh83x0 : Sh := { tmps := [(0, .g (.i .i64 :: .s :: .i .i64 :: .i .i64 :: .i .i64 :: [.b, .i .i64, .i .i64, .i .i64, .sl 64]))], mem := [] }
def A83x0 (L : List Lf) : List (Bool × Res) := bnd (J83x0 N L (fun p => p)) fun q => [(true, ([.c (.i .i64 q)], []))]
theorem raw83x0 (L : List Lf) : bd Tryz.prog (T88x0 N) (h83x0s2 N).h 83 sh83x0 L = J83x0 N L (fun p => some ([.c (.i .i64 p)], [])) := by kernel_rfl
theorem ok83x0 : FnOk Tryz.prog 83 sh83x0 (A83x0 N) :=
 (h83x0s2 N).fn progOk (T88x0_ok N) fun L x hx => ((raw83x0 N L).trans ((tot83x0 N ..).trans (alt0 _ _ hx)))
def T83x0 : Oracle := ext 83 (spSh sh83x0 (A83x0 N)) (T88x0 N)
theorem T83x0_ok : OracleOk Tryz.prog (T83x0 N) := FnOk.to (ok83x0 N) (T88x0_ok N)
def rg60x0 : List (Nat × List Nat) := [(0, [0]), (1, [1]), (2, []), (3, [1]), (4, []), (5, [1]), (6, []), (7, [1])]
def hd60x0 : Hints := [(16, [1], [1], [])]
def h60x0s0 (N : Nat) : Sg Tryz.prog 0 60 := .start hd60x0 rg60x0
def F60x0x16 (w2 w3 : Int) (k0 : Bool → R) : R :=
 bnd (V49x0 N w2 0 3599999) fun y0 =>
 bif y0 then
  k0 true
 else
  bnd (V49x0 N w3 0 1000000000) fun y1 =>
  k0 y1
def V60x0x16 (w2 w3 : Int) : Bool := F60x0x16 N w2 w3 (fun p => p)
theorem tot60x0x16 (w2 w3 : Int) (k0 : Bool → R) : F60x0x16 N w2 w3 k0 = k0 (V60x0x16 N w2 w3) := by
 unfold V60x0x16 F60x0x16
 repeat' (first | rfl | apply cond_k | (apply bnd_k; intro _))
def sh60x0x16 : Sh := { tmps := [(1, .c (.p 1 0))], mem := [(1, .box (.i .i64 :: .s :: .i .i64 :: .i .i64 :: .i .i64 :: [.b, .i .i64, .i .i64, .i .i64, .sl 64]))] }
def K60x0x16w0 (L : List Lf) (p : Bool) : Ex × St := (.normal, mg (ofSh sh60x0x16 L) [1, 32] [(32, .c (.b p))] [1] [])
def A60x0x16 (L : List Lf) : List (Bool × (Ex × St)) := bnd (F60x0x16 N (li L 2) (li L 3) (fun p => p)) fun q => [(true, K60x0x16w0 L q)]
theorem raw60x0x16 (L : List Lf) : pc Tryz.prog (T83x0 N) (h60x0s0 N).h 0 100 60 16 sh60x0x16 L [1, 32] [1] = F60x0x16 N (li L 2) (li L 3) (fun p => some (K60x0x16w0 L p)) := by kernel_rfl
def h60x0s1 : Sg Tryz.prog 0 60 :=
 (h60x0s0 N).cut (A60x0x16 N) progOk (T83x0_ok N) fun L x hx => (raw60x0x16 N L).trans ((tot60x0x16 N ..).trans (alt0 _ _ hx))
def F60x0 (v0 : Int) (v1 : LB) (v2 v3 v4 : Int) (v5 : Bool) (v6 v7 v8 : Int) (v10 : LD) (k0 : Int → Option R) : Option R :=
 bnd (G33x0 N v1) fun y0 =>
 bif y0.isSome then
  bif (!(y0.getD default)) then
   k0 8
  else
   bnd (bif (v8 != 0) then true else (decide ((v10.length : Int) > 0))) fun y1 =>
   bif (bif y1 then true else ((v2 == 0) == (v3 == 0))) then
    k0 2
   else
    bnd (V60x0x16 N v2 v3) fun y2 =>
    bif y2 then
     k0 9
    else
     bnd (V83x0 N v0 v4 v5 v6 v7) fun y3 =>
     k0 y3
 else
  none
def G60x0 (v0 : Int) (v1 : LB) (v2 v3 v4 : Int) (v5 : Bool) (v6 v7 v8 : Int) (v10 : LD) : Option (Int) := F60x0 N v0 v1 v2 v3 v4 v5 v6 v7 v8 v10 (fun p => some p)
theorem bind60x0 (v0 : Int) (v1 : LB) (v2 v3 v4 : Int) (v5 : Bool) (v6 v7 v8 : Int) (v10 : LD) (k0 : Int → Option R) : F60x0 N v0 v1 v2 v3 v4 v5 v6 v7 v8 v10 k0 = (G60x0 N v0 v1 v2 v3 v4 v5 v6 v7 v8 v10).bind k0 := by
 unfold G60x0 F60x0
 repeat' (first | with_reducible apply cond_b | (with_reducible apply bnd_b; intro _) | rfl)
def J60x0 (L : List Lf) (k0 : Int → Option R) : Option R := F60x0 N (li L 0) (ls L 1) (li L 2) (li L 3) (li L 4) (lb L 5) (li L 6) (li L 7) (li L 8) (ll L 10) k0
def sh60x0 : Sh := { tmps := [(0, .g (.i .i64 :: .s :: .i .i64 :: .i .i64 :: .i .i64 :: [.b, .i .i64, .i .i64, .i .i64, .sl 64]))], mem := [] }
def A60x0 (L : List Lf) : List (Bool × Res) := bnd (J60x0 N L (fun p => some p)) fun q => [(q.isSome, ([.c (.i .i64 (q.getD default))], []))]
theorem raw60x0 (L : List Lf) : bd Tryz.prog (T83x0 N) (h60x0s1 N).h 60 sh60x0 L = J60x0 N L (fun p => some ([.c (.i .i64 p)], [])) := by kernel_rfl
theorem ok60x0 : FnOk Tryz.prog 60 sh60x0 (A60x0 N) :=
 (h60x0s1 N).fn progOk (T83x0_ok N) fun L x hx => ((raw60x0 N L).trans ((bind60x0 N ..).trans (alt1 x hx)))
def T60x0 : Oracle := ext 60 (spSh sh60x0 (A60x0 N)) (T83x0 N)
theorem T60x0_ok : OracleOk Tryz.prog (T60x0 N) := FnOk.to (ok60x0 N) (T83x0_ok N)
abbrev Rc34x1 : Type := Bool → LD → Int → Int → Option (Int × Int)
def sh34x1 : Sh := { tmps := [(0, .c (.sl 64)), (1, .c (.i .i64)), (2, .c (.i .i64))], mem := [] }
def B34x1 (N : Nat) (rc34x1 : Rc34x1) (L : List Lf) : List (Bool × Res) := bnd (rc34x1 (lb L 0) (ll L 1) (li L 2) (li L 3)) fun q => [(q.isSome, ([.c (.i .i64 (q.getD default).1), .c (.i .i64 (q.getD default).2)], []))]
def O34x1 (rc34x1 : Rc34x1) : Oracle := ext 34 (spSh sh34x1 ((B34x1 N) rc34x1)) (T60x0 N)
def rg34x1 : List (Nat × List Nat) := [(0, [0, 2, 1]), (1, [0, 2, 1]), (2, [15, 14, 13, 2, 1]), (3, [13, 15, 2, 1, 14]), (4, [2, 1, 9, 15, 14, 13]), (5, [2, 1, 9, 15, 14, 13]), (6, []), (7, [9, 15, 14, 13, 2, 1]), (9, [28, 9, 15, 14, 13, 2, 1]), (10, [28, 9, 15, 14, 13, 2, 1]), (14, [28, 9, 1, 2, 15, 14, 13]), (8, []), (11, [9, 15, 14, 13, 2, 1]), (12, [10, 15, 14, 13, 2, 1]), (13, [10]), (15, [9, 1, 2, 15, 14, 13]), (16, []), (17, [9, 1, 2, 15, 14, 13]), (18, []), (19, [9, 1, 2, 15, 14, 13]), (20, []), (21, [9, 1, 2, 15, 14, 13]), (22, [12, 11, 15, 14, 13, 1]), (23, [12]), (24, [11, 15, 14, 13, 1]), (25, [15, 14, 13, 2, 1]), (26, [2])]
def hd34x1 : Hints := [(6, [1, 2, 13, 14, 15], [], []), (30002, [1, 2, 9, 13, 14, 15, 28, 29], [9], [])]
def h34x1s0 (rc34x1 : Rc34x1) (hR34x1 : OracleOk Tryz.prog ((O34x1 N) rc34x1)) : Sg Tryz.prog 0 34 := .start hd34x1 rg34x1
def F34x1x30002 (N : Nat) (rc34x1 : Rc34x1) (w6 : Int) (w7 : Bool) (k0 : Bool → R) : R :=
 bif w7 then
  k0 true
 else
  k0 (w6 == 2)
def V34x1x30002 (rc34x1 : Rc34x1) (w6 : Int) (w7 : Bool) : Bool := F34x1x30002 N rc34x1 w6 w7 (fun p => p)
theorem tot34x1x30002 (rc34x1 : Rc34x1) (w6 : Int) (w7 : Bool) (k0 : Bool → R) : F34x1x30002 N rc34x1 w6 w7 k0 = k0 (V34x1x30002 N rc34x1 w6 w7) := by
 unfold V34x1x30002 F34x1x30002
 repeat' (first | rfl | apply cond_k | (apply bnd_k; intro _))
def sh34x1x30002 : Sh := { tmps := [(1, .c (.i .i64)), (2, .c (.i .i64)), (9, .c (.p 9 0)), (13, .c (.sl 64)), (14, .c (.i .i64)), (15, .c (.i .i64)), (28, .c (.i .i64)), (29, .c (.b))], mem := [(9, .box (.i .i64 :: .s :: .i .i64 :: .i .i64 :: .i .i64 :: [.b, .i .i64, .i .i64, .i .i64, .sl 64]))] }
def K34x1x30002w0 (L : List Lf) (p : Bool) : Ex × St := (.normal, mg (ofSh sh34x1x30002 L) [9, 15, 14, 13, 2, 1, 28, 29] [(29, .c (.b p))] [9] [])
def A34x1x30002 (rc34x1 : Rc34x1) (L : List Lf) : List (Bool × (Ex × St)) := bnd (F34x1x30002 N rc34x1 (li L 6) (lb L 7) (fun p => p)) fun q => [(true, K34x1x30002w0 L q)]
theorem raw34x1x30002 (rc34x1 : Rc34x1) (hR34x1 : OracleOk Tryz.prog ((O34x1 N) rc34x1)) (L : List Lf) : pc Tryz.prog ((O34x1 N) rc34x1) ((h34x1s0 N) rc34x1 hR34x1).h 0 100 34 30002 sh34x1x30002 L [9, 15, 14, 13, 2, 1, 28, 29] [9] = F34x1x30002 N rc34x1 (li L 6) (lb L 7) (fun p => some (K34x1x30002w0 L p)) := by kernel_rfl
def h34x1s1 (rc34x1 : Rc34x1) (hR34x1 : OracleOk Tryz.prog ((O34x1 N) rc34x1)) : Sg Tryz.prog 0 34 :=
 ((h34x1s0 N) rc34x1 hR34x1).cut ((A34x1x30002 N) rc34x1) progOk hR34x1 fun L x hx => (raw34x1x30002 N rc34x1 hR34x1 L).trans ((tot34x1x30002 N rc34x1 ..).trans (alt0 _ _ hx))
def S34x1x6 (rc34x1 : Rc34x1) (w0 : Int) (w3 : LD) (w4 : Int) (w1 w5 : Int) (kr : Int → Int → Option R) (k0 : Int → Option R) (k1 : Int → Option R) : Option R :=
 bif (decide (w5 < w4)) then
  bif (inB w5 w3.length) then
   bnd (bif (decide ((IntKind.wrap .i64 (w1 + 1)) > 200)) then true else (decide (w0 > 3))) fun y0 =>
   bif y0 then
    k0 3
   else
    bnd (V34x1x30002 N rc34x1 ((w3.getD w5.toNat (.i 0)).cell 0).toI (((w3.getD w5.toNat (.i 0)).cell 0).toI == 1)) fun y1 =>
    bif y1 then
     bnd (G60x0 N ((w3.getD w5.toNat (.i 0)).cell 0).toI ((w3.getD w5.toNat (.i 0)).cell 1).toS ((w3.getD w5.toNat (.i 0)).cell 2).toI ((w3.getD w5.toNat (.i 0)).cell 3).toI ((w3.getD w5.toNat (.i 0)).cell 4).toI ((w3.getD w5.toNat (.i 0)).cell 5).toB ((w3.getD w5.toNat (.i 0)).cell 6).toI ((w3.getD w5.toNat (.i 0)).cell 7).toI ((w3.getD w5.toNat (.i 0)).cell 8).toI ((w3.getD w5.toNat (.i 0)).cell 9).items) fun y2 =>
     bif y2.isSome then
      bif ((y2.getD default) != 0) then
       k0 (y2.getD default)
      else
       kr (IntKind.wrap .i64 (w1 + 1)) (IntKind.wrap .i64 (w5 + 1))
     else
      none
    else
     bif (((w3.getD w5.toNat (.i 0)).cell 0).toI == 3) then
      bnd (!(((w3.getD w5.toNat (.i 0)).cell 1).toS == ([] : List UInt8))) fun y3 =>
      bnd (bif y3 then true else (((w3.getD w5.toNat (.i 0)).cell 2).toI != 0)) fun y4 =>
      bnd (bif y4 then true else (((w3.getD w5.toNat (.i 0)).cell 3).toI != 0)) fun y5 =>
      bnd (bif y5 then true else (!((((w3.getD w5.toNat (.i 0)).cell 4).toI == 0) && ((((w3.getD w5.toNat (.i 0)).cell 5).toB == false) && ((((w3.getD w5.toNat (.i 0)).cell 6).toI == 0) && ((((w3.getD w5.toNat (.i 0)).cell 7).toI == 0) && true)))))) fun y6 =>
      bif y6 then
       k0 2
      else
       bnd (V49x0 N ((w3.getD w5.toNat (.i 0)).cell 8).toI 1 99) fun y7 =>
       bif y7 then
        k0 9
       else
        bnd ((((w3.getD w5.toNat (.i 0)).cell 9).items.length : Int) == 0) fun y8 =>
        bif y8 then
         k0 13
        else
         bnd (rc34x1 ((w3.getD w5.toNat (.i 0)).cell 9).isNil ((w3.getD w5.toNat (.i 0)).cell 9).items (IntKind.wrap .i64 (w0 + 1)) (IntKind.wrap .i64 (w1 + 1))) fun y9 =>
         bif y9.isSome then
          bif ((y9.getD default).2 != 0) then
           k0 (y9.getD default).2
          else
           kr (y9.getD default).1 (IntKind.wrap .i64 (w5 + 1))
         else
          none
     else
      k0 7
  else
   none
 else
  k1 w1
def L34x1x6 (N : Nat) (rc34x1 : Rc34x1) {R : Type} (w0 : Int) (w3 : LD) (w4 : Int) : Nat → Int → Int → (Int → Option R) → (Int → Option R) → Option R
 | 0, _, _, _, _ => none
 | m + 1, w1, w5, k0, k1 => S34x1x6 N rc34x1 w0 w3 w4 w1 w5 (fun w1 w5 => L34x1x6 N rc34x1 w0 w3 w4 m w1 w5 k0 k1) k0 k1
def G34x1x6 (rc34x1 : Rc34x1) (w0 : Int) (w3 : LD) (w4 : Int) (w1 w5 : Int) : Option (Sum (Int) (Int)) := L34x1x6 N rc34x1 (R := (Sum (Int) (Int))) w0 w3 w4 N w1 w5 (fun p => some (.inl p)) (fun p => some (.inr p))
def J34x1x6 (rc34x1 : Rc34x1) (L x : List Lf) (kr : List Lf → Option R) (k0 : Int → Option R) (k1 : Int → Option R) : Option R := S34x1x6 N rc34x1 (li L 0) (ll L 3) (li L 4) (li x 0) (li x 1) (fun w1 w5 => kr [.i w1, .i w5]) k0 k1
theorem sb34x1x6 (rc34x1 : Rc34x1) (L x : List Lf) (kr : List Lf → Option R) (k0 : Int → Option R) (k1 : Int → Option R) : J34x1x6 N rc34x1 L x kr k0 k1 = (J34x1x6 N rc34x1 L x (fun y => some (.inl y)) (fun p => some (.inr (.inl p))) (fun p => some (.inr (.inr p)))).bind (sumE kr (sumE k0 k1)) := by
 unfold J34x1x6 S34x1x6
 repeat' (first | with_reducible apply cond_b | (with_reducible apply bnd_b; intro _) | rfl)
def Q34x1x6 (rc34x1 : Rc34x1) (L : List Lf) (m : Nat) (x : List Lf) : Option (Sum (Int) (Int)) := L34x1x6 N rc34x1 (R := (Sum (Int) (Int))) (li L 0) (ll L 3) (li L 4) m (li x 0) (li x 1) (fun p => some (.inl p)) (fun p => some (.inr p))
def sh34x1x6 : Sh := { tmps := [(1, .c (.i .i64)), (2, .c (.i .i64)), (13, .c (.sl 64)), (14, .c (.i .i64)), (15, .c (.i .i64))], mem := [] }
def A34x1x6 (rc34x1 : Rc34x1) (L : List Lf) : List (Bool × (Ex × St)) := bnd (Q34x1x6 N rc34x1 L N (pk sh34x1x6 [1, 5] L)) fun q => [((inlB q), (.ret, ⟨[(6, .c (.i .i64 0)), (7, .c (.i .i64 (inlV q)))], []⟩)), ((inrQ q).isSome, ((.exit 0), ⟨[(2, .c (.i .i64 ((inrQ q).getD default)))], []⟩))]
theorem step34x1x6 (rc34x1 : Rc34x1) (hR34x1 : OracleOk Tryz.prog ((O34x1 N) rc34x1)) (m : Nat) (kn : St → Option (Ex × St)) (L x : List Lf) : lpB Tryz.prog ((O34x1 N) rc34x1) ((h34x1s1 N) rc34x1 hR34x1).h 0 34 6 sh34x1x6 [1, 5] [6, 7, 2] [] (m + 100) kn L x = J34x1x6 N rc34x1 L x (fun y => kn (ofSh sh34x1x6 (mx sh34x1x6 [1, 5] L y))) (fun p => some (.ret, ⟨[(6, .c (.i .i64 0)), (7, .c (.i .i64 p))], []⟩)) (fun p => some ((.exit 0), ⟨[(2, .c (.i .i64 p))], []⟩)) := by kernel_rfl
theorem ql34x1x6 (rc34x1 : Rc34x1) (L : List Lf) (m : Nat) (x : List Lf) : Q34x1x6 N rc34x1 L (m + 1) x = J34x1x6 N rc34x1 L x (Q34x1x6 N rc34x1 L m) (fun p => some (.inl p)) (fun p => some (.inr p)) := by kernel_rfl
def h34x1s2 (rc34x1 : Rc34x1) (hR34x1 : OracleOk Tryz.prog ((O34x1 N) rc34x1)) : Sg Tryz.prog 0 34 :=
 ((h34x1s1 N) rc34x1 hR34x1).lp ((A34x1x6 N) rc34x1) N progOk hR34x1 (fun m kn L x => (step34x1x6 N rc34x1 hR34x1 m kn L x).trans (sb34x1x6 N rc34x1 L x _ _ _)) (fun L m x => (ql34x1x6 N rc34x1 L m x).trans (sb34x1x6 N rc34x1 L x (Q34x1x6 N rc34x1 L m) (fun p => some (.inl p)) (fun p => some (.inr p)))) fun L x hx => (altS alt1) x hx
def F34x1 (rc34x1 : Rc34x1) (v0 : Bool) (v1 : LD) (v2 v3 : Int) (k0 : Int × Int → Option R) : Option R :=
 bnd (G34x1x6 N rc34x1 v2 v1 (v1.length : Int) v3 0) fun y0 =>
 bif (inlB y0) then
  k0 (0, (inlV y0))
 else
  bif (inrQ y0).isSome then
   k0 (((inrQ y0).getD default), 0)
  else
   none
def G34x1 (rc34x1 : Rc34x1) (v0 : Bool) (v1 : LD) (v2 v3 : Int) : Option (Int × Int) := F34x1 N rc34x1 v0 v1 v2 v3 (fun p => some p)
theorem bind34x1 (rc34x1 : Rc34x1) (v0 : Bool) (v1 : LD) (v2 v3 : Int) (k0 : Int × Int → Option R) : F34x1 N rc34x1 v0 v1 v2 v3 k0 = (G34x1 N rc34x1 v0 v1 v2 v3).bind k0 := by
 unfold G34x1 F34x1
 repeat' (first | with_reducible apply cond_b | (with_reducible apply bnd_b; intro _) | rfl)
def J34x1 (rc34x1 : Rc34x1) (L : List Lf) (k0 : Int × Int → Option R) : Option R := F34x1 N rc34x1 (lb L 0) (ll L 1) (li L 2) (li L 3) k0
theorem raw34x1 (rc34x1 : Rc34x1) (hR34x1 : OracleOk Tryz.prog ((O34x1 N) rc34x1)) (L : List Lf) : bd Tryz.prog ((O34x1 N) rc34x1) ((h34x1s2 N) rc34x1 hR34x1).h 34 sh34x1 L = J34x1 N rc34x1 L (fun p => some ([.c (.i .i64 p.1), .c (.i .i64 p.2)], [])) := by kernel_rfl
theorem fin34x1 (rc34x1 : Rc34x1) (hR34x1 : OracleOk Tryz.prog ((O34x1 N) rc34x1)) (L : List Lf) (x : Res) (hx : altK ((B34x1 N) (fun v0 v1 v2 v3 => G34x1 N rc34x1 v0 v1 v2 v3) L) some = some x) : CallOk Tryz.prog 34 (valsOf (ofSh sh34x1 L).tmps) (ofSh sh34x1 L).mem x :=
 callOk_of (n := 200) progOk hR34x1 ((h34x1s2 N) rc34x1 hR34x1).ok rfl ((raw34x1 N rc34x1 hR34x1 L).trans ((bind34x1 N rc34x1 ..).trans (alt1 x hx)))
def R34x1 (N : Nat) : Nat → Rc34x1
 | 0 => fun _ _ _ _ => none
 | m + 1 => fun v0 v1 v2 v3 => G34x1 N (R34x1 N m) v0 v1 v2 v3
theorem Rok34x1 (N : Nat) : ∀ m, OracleOk Tryz.prog ((O34x1 N) (R34x1 N m))
 | 0 => ext_ok (T60x0_ok N) (AM.enters_of (by kernel_rfl)) (spSh_law fun L x hx => by
  have h : (none : Option Res) = some x := hx
  cases h)
 | m + 1 => ext_ok (T60x0_ok N) (AM.enters_of (by kernel_rfl)) (spSh_law fun L x hx => fin34x1 N (R34x1 N m) (Rok34x1 N m) L x hx)
def T34x1 : Oracle := (O34x1 N) (R34x1 N N)
theorem T34x1_ok : OracleOk Tryz.prog (T34x1 N) := Rok34x1 N N
abbrev Rc35x1 : Type := Bool → LD → Option (Int)
def sh35x1 : Sh := { tmps := [(0, .c (.sl 64))], mem := [] }
def B35x1 (N : Nat) (rc35x1 : Rc35x1) (L : List Lf) : List (Bool × Res) := bnd (rc35x1 (lb L 0) (ll L 1)) fun q => [(q.isSome, ([.c (.i .i64 (q.getD default))], []))]
def O35x1 (rc35x1 : Rc35x1) : Oracle := ext 35 (spSh sh35x1 ((B35x1 N) rc35x1)) (T34x1 N)
def rg35x1 : List (Nat × List Nat) := [(0, [0]), (1, [0]), (2, [0, 3]), (3, [8, 7, 6, 3]), (4, [6, 8, 3, 7]), (5, [5, 3, 8, 7, 6]), (7, [3, 8, 7, 6]), (6, [3, 5, 8, 7, 6]), (8, [8, 7, 6, 3]), (9, [3])]
def hd35x1 : Hints := [(9, [3, 6, 7, 8], [], []), (21020, [3, 5, 6, 7, 8, 14], [5], [])]
def h35x1s0 (rc35x1 : Rc35x1) (hR35x1 : OracleOk Tryz.prog ((O35x1 N) rc35x1)) : Sg Tryz.prog 0 35 := .start hd35x1 rg35x1
def F35x1x21020 (N : Nat) (rc35x1 : Rc35x1) (w0 : Int) (w5 : Bool) (w14 : Int) (w15 : Bool) (w16 : LD) (k0 : Int → Option R) : Option R :=
 bif w5 then
  bnd (rc35x1 w15 w16) fun y0 =>
  bif y0.isSome then
   bnd (IntKind.wrap .i64 (w0 + (IntKind.wrap .i64 (w14 * (y0.getD default))))) fun y1 =>
   k0 y1
  else
   none
 else
  k0 (IntKind.wrap .i64 (w0 + 1))
def G35x1x21020 (rc35x1 : Rc35x1) (w0 : Int) (w5 : Bool) (w14 : Int) (w15 : Bool) (w16 : LD) : Option (Int) := F35x1x21020 N rc35x1 w0 w5 w14 w15 w16 (fun p => some p)
theorem bind35x1x21020 (rc35x1 : Rc35x1) (w0 : Int) (w5 : Bool) (w14 : Int) (w15 : Bool) (w16 : LD) (k0 : Int → Option R) : F35x1x21020 N rc35x1 w0 w5 w14 w15 w16 k0 = (G35x1x21020 N rc35x1 w0 w5 w14 w15 w16).bind k0 := by
 unfold G35x1x21020 F35x1x21020
 repeat' (first | with_reducible apply cond_b | (with_reducible apply bnd_b; intro _) | rfl)
def J35x1x21020 (rc35x1 : Rc35x1) (L : List Lf) (k0 : Int → Option R) : Option R := F35x1x21020 N rc35x1 (li L 0) (lb L 5) (li L 14) (lb L 15) (ll L 16) k0
def sh35x1x21020 : Sh := { tmps := [(3, .c (.i .i64)), (5, .c (.p 5 0)), (6, .c (.sl 64)), (7, .c (.i .i64)), (8, .c (.i .i64)), (14, .c (.b))], mem := [(5, .box (.i .i64 :: .s :: .i .i64 :: .i .i64 :: .i .i64 :: [.b, .i .i64, .i .i64, .i .i64, .sl 64]))] }
def K35x1x21020w0 (L : List Lf) (p : Int) : Ex × St := (.normal, mg (ofSh sh35x1x21020 L) [8, 7, 6, 3] [(3, .c (.i .i64 p))] [] [])
def A35x1x21020 (rc35x1 : Rc35x1) (L : List Lf) : List (Bool × (Ex × St)) := bnd (J35x1x21020 N rc35x1 L (fun p => some p)) fun q => [(q.isSome, K35x1x21020w0 L (q.getD default))]
theorem raw35x1x21020 (rc35x1 : Rc35x1) (hR35x1 : OracleOk Tryz.prog ((O35x1 N) rc35x1)) (L : List Lf) : pc Tryz.prog ((O35x1 N) rc35x1) ((h35x1s0 N) rc35x1 hR35x1).h 0 100 35 21020 sh35x1x21020 L [8, 7, 6, 3] [] = J35x1x21020 N rc35x1 L (fun p => some (K35x1x21020w0 L p)) := by kernel_rfl
def h35x1s1 (rc35x1 : Rc35x1) (hR35x1 : OracleOk Tryz.prog ((O35x1 N) rc35x1)) : Sg Tryz.prog 0 35 :=
 ((h35x1s0 N) rc35x1 hR35x1).cut ((A35x1x21020 N) rc35x1) progOk hR35x1 fun L x hx => (raw35x1x21020 N rc35x1 hR35x1 L).trans ((bind35x1x21020 N rc35x1 ..).trans (alt1 x hx))
def S35x1x9 (rc35x1 : Rc35x1) (w2 : LD) (w3 : Int) (w0 w4 : Int) (kr : Int → Int → Option R) (k0 : Int → Option R) : Option R :=
 bif (decide (w4 < w3)) then
  bif (inB w4 w2.length) then
   bnd (G35x1x21020 N rc35x1 w0 (((w2.getD w4.toNat (.i 0)).cell 0).toI == 3) ((w2.getD w4.toNat (.i 0)).cell 8).toI ((w2.getD w4.toNat (.i 0)).cell 9).isNil ((w2.getD w4.toNat (.i 0)).cell 9).items) fun y0 =>
   bif y0.isSome then
    kr (y0.getD default) (IntKind.wrap .i64 (w4 + 1))
   else
    none
  else
   none
 else
  k0 w0
def L35x1x9 (N : Nat) (rc35x1 : Rc35x1) {R : Type} (w2 : LD) (w3 : Int) : Nat → Int → Int → (Int → Option R) → Option R
 | 0, _, _, _ => none
 | m + 1, w0, w4, k0 => S35x1x9 N rc35x1 w2 w3 w0 w4 (fun w0 w4 => L35x1x9 N rc35x1 w2 w3 m w0 w4 k0) k0
def G35x1x9 (rc35x1 : Rc35x1) (w2 : LD) (w3 : Int) (w0 w4 : Int) : Option (Int) := L35x1x9 N rc35x1 (R := (Int)) w2 w3 N w0 w4 (fun p => some p)
def J35x1x9 (rc35x1 : Rc35x1) (L x : List Lf) (kr : List Lf → Option R) (k0 : Int → Option R) : Option R := S35x1x9 N rc35x1 (ll L 2) (li L 3) (li x 0) (li x 1) (fun w0 w4 => kr [.i w0, .i w4]) k0
theorem sb35x1x9 (rc35x1 : Rc35x1) (L x : List Lf) (kr : List Lf → Option R) (k0 : Int → Option R) : J35x1x9 N rc35x1 L x kr k0 = (J35x1x9 N rc35x1 L x (fun y => some (.inl y)) (fun p => some (.inr p))).bind (sumE kr k0) := by
 unfold J35x1x9 S35x1x9
 repeat' (first | with_reducible apply cond_b | (with_reducible apply bnd_b; intro _) | rfl)
def Q35x1x9 (rc35x1 : Rc35x1) (L : List Lf) (m : Nat) (x : List Lf) : Option (Int) := L35x1x9 N rc35x1 (R := (Int)) (ll L 2) (li L 3) m (li x 0) (li x 1) (fun p => some p)
def sh35x1x9 : Sh := { tmps := [(3, .c (.i .i64)), (6, .c (.sl 64)), (7, .c (.i .i64)), (8, .c (.i .i64))], mem := [] }
def A35x1x9 (rc35x1 : Rc35x1) (L : List Lf) : List (Bool × (Ex × St)) := bnd (Q35x1x9 N rc35x1 L N (pk sh35x1x9 [0, 4] L)) fun q => [(q.isSome, ((.exit 0), ⟨[(3, .c (.i .i64 (q.getD default)))], []⟩))]
theorem step35x1x9 (rc35x1 : Rc35x1) (hR35x1 : OracleOk Tryz.prog ((O35x1 N) rc35x1)) (m : Nat) (kn : St → Option (Ex × St)) (L x : List Lf) : lpB Tryz.prog ((O35x1 N) rc35x1) ((h35x1s1 N) rc35x1 hR35x1).h 0 35 9 sh35x1x9 [0, 4] [2, 3] [] (m + 100) kn L x = J35x1x9 N rc35x1 L x (fun y => kn (ofSh sh35x1x9 (mx sh35x1x9 [0, 4] L y))) (fun p => some ((.exit 0), ⟨[(3, .c (.i .i64 p))], []⟩)) := by kernel_rfl
theorem ql35x1x9 (rc35x1 : Rc35x1) (L : List Lf) (m : Nat) (x : List Lf) : Q35x1x9 N rc35x1 L (m + 1) x = J35x1x9 N rc35x1 L x (Q35x1x9 N rc35x1 L m) some := by kernel_rfl
def h35x1s2 (rc35x1 : Rc35x1) (hR35x1 : OracleOk Tryz.prog ((O35x1 N) rc35x1)) : Sg Tryz.prog 0 35 :=
 ((h35x1s1 N) rc35x1 hR35x1).lp ((A35x1x9 N) rc35x1) N progOk hR35x1 (fun m kn L x => (step35x1x9 N rc35x1 hR35x1 m kn L x).trans (sb35x1x9 N rc35x1 L x _ _)) (fun L m x => (ql35x1x9 N rc35x1 L m x).trans (sb35x1x9 N rc35x1 L x (Q35x1x9 N rc35x1 L m) some)) fun L x hx => alt1 x hx
def F35x1 (rc35x1 : Rc35x1) (v0 : Bool) (v1 : LD) (k0 : Int → Option R) : Option R :=
 bnd (G35x1x9 N rc35x1 v1 (v1.length : Int) 0 0) fun y0 =>
 bif y0.isSome then
  k0 (y0.getD default)
 else
  none
def G35x1 (rc35x1 : Rc35x1) (v0 : Bool) (v1 : LD) : Option (Int) := F35x1 N rc35x1 v0 v1 (fun p => some p)
theorem bind35x1 (rc35x1 : Rc35x1) (v0 : Bool) (v1 : LD) (k0 : Int → Option R) : F35x1 N rc35x1 v0 v1 k0 = (G35x1 N rc35x1 v0 v1).bind k0 := by
 unfold G35x1 F35x1
 repeat' (first | with_reducible apply cond_b | (with_reducible apply bnd_b; intro _) | rfl)
theorem raw35x1 (rc35x1 : Rc35x1) (hR35x1 : OracleOk Tryz.prog ((O35x1 N) rc35x1)) (L : List Lf) : bd Tryz.prog ((O35x1 N) rc35x1) ((h35x1s2 N) rc35x1 hR35x1).h 35 sh35x1 L = F35x1 N rc35x1 (lb L 0) (ll L 1) (fun p => some ([.c (.i .i64 p)], [])) := by kernel_rfl
theorem fin35x1 (rc35x1 : Rc35x1) (hR35x1 : OracleOk Tryz.prog ((O35x1 N) rc35x1)) (L : List Lf) (x : Res) (hx : altK ((B35x1 N) (fun v0 v1 => G35x1 N rc35x1 v0 v1) L) some = some x) : CallOk Tryz.prog 35 (valsOf (ofSh sh35x1 L).tmps) (ofSh sh35x1 L).mem x :=
 callOk_of (n := 200) progOk hR35x1 ((h35x1s2 N) rc35x1 hR35x1).ok rfl ((raw35x1 N rc35x1 hR35x1 L).trans ((bind35x1 N rc35x1 ..).trans (alt1 x hx)))
def R35x1 (N : Nat) : Nat → Rc35x1
 | 0 => fun _ _ => none
 | m + 1 => fun v0 v1 => G35x1 N (R35x1 N m) v0 v1
theorem Rok35x1 (N : Nat) : ∀ m, OracleOk Tryz.prog ((O35x1 N) (R35x1 N m))
 | 0 => ext_ok (T34x1_ok N) (AM.enters_of (by kernel_rfl)) (spSh_law fun L x hx => by
  have h : (none : Option Res) = some x := hx
  cases h)
 | m + 1 => ext_ok (T34x1_ok N) (AM.enters_of (by kernel_rfl)) (spSh_law fun L x hx => fin35x1 N (R35x1 N m) (Rok35x1 N m) L x hx)
def T35x1 : Oracle := (O35x1 N) (R35x1 N N)
theorem T35x1_ok : OracleOk Tryz.prog (T35x1 N) := Rok35x1 N N
def rg11x0 : List (Nat × List Nat) := [(0, [0]), (1, [1]), (2, []), (3, [1]), (4, []), (5, [1]), (6, [4, 1]), (7, [4]), (8, [1]), (9, []), (10, [])]
def hd11x0 : Hints := []
def h11x0s0 (N : Nat) : Sg Tryz.prog 0 11 := .start hd11x0 rg11x0
def F11x0 (v0 : LB) (v1 : Bool) (v2 : LD) (k0 : Int → Option R) : Option R :=
 bnd (G33x0 N v0) fun y0 =>
 bif y0.isSome then
  bif (!(y0.getD default)) then
   k0 8
  else
   bif ((v2.length : Int) == 0) then
    k0 13
   else
    bnd (R34x1 N N v1 v2 0 0) fun y1 =>
    bif y1.isSome then
     bif ((y1.getD default).2 != 0) then
      k0 (y1.getD default).2
     else
      bnd (R35x1 N N v1 v2) fun y2 =>
      bif y2.isSome then
       bif (decide ((y2.getD default) > 1000)) then
        k0 3
       else
        k0 0
      else
       none
    else
     none
 else
  none
def G11x0 (v0 : LB) (v1 : Bool) (v2 : LD) : Option (Int) := F11x0 N v0 v1 v2 (fun p => some p)
theorem bind11x0 (v0 : LB) (v1 : Bool) (v2 : LD) (k0 : Int → Option R) : F11x0 N v0 v1 v2 k0 = (G11x0 N v0 v1 v2).bind k0 := by
 unfold G11x0 F11x0
 repeat' (first | with_reducible apply cond_b | (with_reducible apply bnd_b; intro _) | rfl)
def sh11x0 : Sh := { tmps := [(0, .g ([.s, .sl 64]))], mem := [] }
def A11x0 (L : List Lf) : List (Bool × Res) := bnd (F11x0 N (ls L 0) (lb L 1) (ll L 2) (fun p => some p)) fun q => [(q.isSome, ([.c (.i .i64 (q.getD default))], []))]
theorem raw11x0 (L : List Lf) : bd Tryz.prog (T35x1 N) (h11x0s0 N).h 11 sh11x0 L = F11x0 N (ls L 0) (lb L 1) (ll L 2) (fun p => some ([.c (.i .i64 p)], [])) := by kernel_rfl
theorem ok11x0 : FnOk Tryz.prog 11 sh11x0 (A11x0 N) :=
 (h11x0s0 N).fn progOk (T35x1_ok N) fun L x hx => ((raw11x0 N L).trans ((bind11x0 N ..).trans (alt1 x hx)))
def T11x0 : Oracle := ext 11 (spSh sh11x0 (A11x0 N)) (T35x1 N)
theorem T11x0_ok : OracleOk Tryz.prog (T11x0 N) := FnOk.to (ok11x0 N) (T35x1_ok N)
def rg20x0 : List (Nat × List Nat) := [(0, [0]), (1, [1]), (2, []), (3, [])]
def hd20x0 : Hints := [(4, [1], [1], [])]
def h20x0s0 (N : Nat) : Sg Tryz.prog 0 20 := .start hd20x0 rg20x0
def F20x0x4 (w0 w1 w2 : Int) (k0 : Bool → R) : R :=
 bnd (V49x0 N w0 1 3000) fun y0 =>
 bif y0 then
  k0 true
 else
  bnd (V49x0 N w1 1 300) fun y1 =>
  bif y1 then
   k0 true
  else
   bnd (V49x0 N w2 1 36000) fun y2 =>
   k0 y2
def V20x0x4 (w0 w1 w2 : Int) : Bool := F20x0x4 N w0 w1 w2 (fun p => p)
theorem tot20x0x4 (w0 w1 w2 : Int) (k0 : Bool → R) : F20x0x4 N w0 w1 w2 k0 = k0 (V20x0x4 N w0 w1 w2) := by
 unfold V20x0x4 F20x0x4
 repeat' (first | rfl | apply cond_k | (apply bnd_k; intro _))
def sh20x0x4 : Sh := { tmps := [(1, .c (.p 1 0))], mem := [(1, .box ([.i .i64, .i .i64, .i .i64]))] }
def A20x0x4 (L : List Lf) : List (Bool × (Ex × St)) := bnd (F20x0x4 N (li L 0) (li L 1) (li L 2) (fun p => p)) fun q => [(true, (.normal, ⟨[(15, .c (.b q))], []⟩))]
theorem raw20x0x4 (L : List Lf) : pc Tryz.prog (T11x0 N) (h20x0s0 N).h 0 100 20 4 sh20x0x4 L [15] [] = F20x0x4 N (li L 0) (li L 1) (li L 2) (fun p => some (.normal, ⟨[(15, .c (.b p))], []⟩)) := by kernel_rfl
def h20x0s1 : Sg Tryz.prog 0 20 :=
 (h20x0s0 N).cut (A20x0x4 N) progOk (T11x0_ok N) fun L x hx => (raw20x0x4 N L).trans ((tot20x0x4 N ..).trans (alt0 _ _ hx))
def F20x0 (v0 v1 v2 : Int) (k0 : Int → R) : R :=
 bnd (V20x0x4 N v0 v1 v2) fun y0 =>
 bif y0 then
  k0 9
 else
  k0 0
def V20x0 (v0 v1 v2 : Int) : Int := F20x0 N v0 v1 v2 (fun p => p)
theorem tot20x0 (v0 v1 v2 : Int) (k0 : Int → R) : F20x0 N v0 v1 v2 k0 = k0 (V20x0 N v0 v1 v2) := by
 unfold V20x0 F20x0
 repeat' (first | rfl | apply cond_k | (apply bnd_k; intro _))
def sh20x0 : Sh := { tmps := [(0, .g ([.i .i64, .i .i64, .i .i64]))], mem := [] }
def A20x0 (L : List Lf) : List (Bool × Res) := bnd (F20x0 N (li L 0) (li L 1) (li L 2) (fun p => p)) fun q => [(true, ([.c (.i .i64 q)], []))]
theorem raw20x0 (L : List Lf) : bd Tryz.prog (T11x0 N) (h20x0s1 N).h 20 sh20x0 L = F20x0 N (li L 0) (li L 1) (li L 2) (fun p => some ([.c (.i .i64 p)], [])) := by kernel_rfl
theorem ok20x0 : FnOk Tryz.prog 20 sh20x0 (A20x0 N) :=
 (h20x0s1 N).fn progOk (T11x0_ok N) fun L x hx => ((raw20x0 N L).trans ((tot20x0 N ..).trans (alt0 _ _ hx)))
def T20x0 : Oracle := ext 20 (spSh sh20x0 (A20x0 N)) (T11x0 N)
theorem T20x0_ok : OracleOk Tryz.prog (T20x0 N) := FnOk.to (ok20x0 N) (T11x0_ok N)
abbrev Rc42x1 : Type := Bool → LD → Option (Bool × LD)
def sh42x1 : Sh := { tmps := [(0, .c (.sl 64))], mem := [] }
def B42x1 (N : Nat) (rc42x1 : Rc42x1) (L : List Lf) : List (Bool × Res) := bnd (rc42x1 (lb L 0) (ll L 1)) fun q => [(q.isSome, ([.c (.sl 64 (q.getD default).1 (q.getD default).2)], []))]
def O42x1 (rc42x1 : Rc42x1) : Oracle := ext 42 (spSh sh42x1 ((B42x1 N) rc42x1)) (T20x0 N)
def rg42x1 : List (Nat × List Nat) := [(0, [0]), (1, [0]), (2, [0, 3]), (3, [10, 9, 8, 3]), (4, [8, 10, 3, 9]), (5, [5, 3, 10, 9, 8]), (6, [3, 5, 10, 9, 8]), (7, [5, 3, 10, 9, 8]), (8, [5, 3, 6, 10, 9, 8]), (9, [7, 5, 3, 6, 10, 9, 8]), (11, [3, 6, 7, 5, 10, 9, 8]), (10, [7, 5, 3, 6, 10, 9, 8]), (12, [10, 9, 8, 3]), (13, [3])]
def hd42x1 : Hints := [(9, [3, 8, 9, 10], [3], [3]), (27, [3, 5, 6, 7, 8, 9, 10], [3, 5], [3])]
def h42x1s0 (rc42x1 : Rc42x1) (hR42x1 : OracleOk Tryz.prog ((O42x1 N) rc42x1)) : Sg Tryz.prog 0 42 := .start hd42x1 rg42x1
def S42x1x27 (N : Nat) (rc42x1 : Rc42x1) (w1 : LD) (w17 : Int) (w2 : Int) (w7 : Bool) (w8 : LD) (kr : Int → Bool → LD → Option R) (k0 : Bool × LD → Option R) : Option R :=
 bif (decide (w2 < w17)) then
  bif (decide ((w8.length + w1.length) * 104 ≤ room) && decide ((w8.length + w1.length) ≤ strMax)) then
   kr (IntKind.wrap .i64 (w2 + 1)) (w1.isEmpty && w7) (w8 ++ w1)
  else
   none
 else
  k0 (w7, w8)
def L42x1x27 (N : Nat) (rc42x1 : Rc42x1) {R : Type} (w1 : LD) (w17 : Int) : Nat → Int → Bool → LD → (Bool × LD → Option R) → Option R
 | 0, _, _, _, _ => none
 | m + 1, w2, w7, w8, k0 => S42x1x27 N rc42x1 w1 w17 w2 w7 w8 (fun w2 w7 w8 => L42x1x27 N rc42x1 w1 w17 m w2 w7 w8 k0) k0
def G42x1x27 (rc42x1 : Rc42x1) (w1 : LD) (w17 : Int) (w2 : Int) (w7 : Bool) (w8 : LD) : Option (Bool × LD) := L42x1x27 N rc42x1 (R := (Bool × LD)) w1 w17 N w2 w7 w8 (fun p => some p)
def J42x1x27 (rc42x1 : Rc42x1) (L x : List Lf) (kr : List Lf → Option R) (k0 : Bool × LD → Option R) : Option R := S42x1x27 N rc42x1 (ll L 1) (li L 17) (li x 0) (lb x 1) (ll x 2) (fun w2 w7 w8 => kr [.i w2, .b w7, .l w8]) k0
theorem sb42x1x27 (rc42x1 : Rc42x1) (L x : List Lf) (kr : List Lf → Option R) (k0 : Bool × LD → Option R) : J42x1x27 N rc42x1 L x kr k0 = (J42x1x27 N rc42x1 L x (fun y => some (.inl y)) (fun p => some (.inr p))).bind (sumE kr k0) := by
 unfold J42x1x27 S42x1x27
 repeat' (first | with_reducible apply cond_b | (with_reducible apply bnd_b; intro _) | rfl)
def Q42x1x27 (rc42x1 : Rc42x1) (L : List Lf) (m : Nat) (x : List Lf) : Option (Bool × LD) := L42x1x27 N rc42x1 (R := (Bool × LD)) (ll L 1) (li L 17) m (li x 0) (lb x 1) (ll x 2) (fun p => some p)
def sh42x1x27 : Sh := { tmps := [(3, .c (.o 3)), (5, .c (.p 5 0)), (6, .c (.sl 64)), (7, .c (.i .i64)), (8, .c (.sl 64)), (9, .c (.i .i64)), (10, .c (.i .i64))], mem := [(3, .row 64 true), (5, .box (.i .i64 :: .s :: .i .i64 :: .i .i64 :: .i .i64 :: [.b, .i .i64, .i .i64, .i .i64, .sl 64]))] }
def K42x1x27w0 (L : List Lf) (p : Bool × LD) : Ex × St := ((.exit 2), mg (ofSh sh42x1x27 L) [10, 9, 8, 3] [] [3] [(3, .row 64 true p.1 p.2)])
def A42x1x27 (rc42x1 : Rc42x1) (L : List Lf) : List (Bool × (Ex × St)) := bnd (Q42x1x27 N rc42x1 L N (pk sh42x1x27 [2, 7, 8] L)) fun q => [(q.isSome, K42x1x27w0 L (q.getD default))]
theorem step42x1x27 (rc42x1 : Rc42x1) (hR42x1 : OracleOk Tryz.prog ((O42x1 N) rc42x1)) (m : Nat) (kn : St → Option (Ex × St)) (L x : List Lf) : lpB Tryz.prog ((O42x1 N) rc42x1) ((h42x1s0 N) rc42x1 hR42x1).h 0 42 27 sh42x1x27 [2, 7, 8] [2, 10, 9, 8, 3] [3] (m + 100) kn L x = J42x1x27 N rc42x1 L x (fun y => kn (ofSh sh42x1x27 (mx sh42x1x27 [2, 7, 8] L y))) (fun p => some (K42x1x27w0 L p)) := by kernel_rfl
theorem ql42x1x27 (rc42x1 : Rc42x1) (L : List Lf) (m : Nat) (x : List Lf) : Q42x1x27 N rc42x1 L (m + 1) x = J42x1x27 N rc42x1 L x (Q42x1x27 N rc42x1 L m) some := by kernel_rfl
def h42x1s1 (rc42x1 : Rc42x1) (hR42x1 : OracleOk Tryz.prog ((O42x1 N) rc42x1)) : Sg Tryz.prog 0 42 :=
 ((h42x1s0 N) rc42x1 hR42x1).lp ((A42x1x27 N) rc42x1) N progOk hR42x1 (fun m kn L x => (step42x1x27 N rc42x1 hR42x1 m kn L x).trans (sb42x1x27 N rc42x1 L x _ _)) (fun L m x => (ql42x1x27 N rc42x1 L m x).trans (sb42x1x27 N rc42x1 L x (Q42x1x27 N rc42x1 L m) some)) fun L x hx => alt1 x hx
def S42x1x9 (rc42x1 : Rc42x1) (w1 : LD) (w2 : Int) (w3 : Int) (w4 : Bool) (w5 : LD) (kr : Int → Bool → LD → Option R) (k0 : Bool × LD → Option R) : Option R :=
 bif (decide (w3 < w2)) then
  bif (inB w3 w1.length) then
   bif (((w1.getD w3.toNat (.i 0)).cell 0).toI != 3) then
    bif (decide ((w5.length + 1) * 104 ≤ room) && decide ((w5.length + 1) ≤ strMax)) then
     bnd ((w5 ++ [(.a [(.i ((w1.getD w3.toNat (.i 0)).cell 0).toI), (.s ((w1.getD w3.toNat (.i 0)).cell 1).toS), (.i ((w1.getD w3.toNat (.i 0)).cell 2).toI), (.i ((w1.getD w3.toNat (.i 0)).cell 3).toI), (.i ((w1.getD w3.toNat (.i 0)).cell 4).toI), (.b ((w1.getD w3.toNat (.i 0)).cell 5).toB), (.i ((w1.getD w3.toNat (.i 0)).cell 6).toI), (.i ((w1.getD w3.toNat (.i 0)).cell 7).toI), (.i ((w1.getD w3.toNat (.i 0)).cell 8).toI), (.l ((w1.getD w3.toNat (.i 0)).cell 9).isNil ((w1.getD w3.toNat (.i 0)).cell 9).items)])]) : List D) fun y0 =>
     kr (IntKind.wrap .i64 (w3 + 1)) false y0
    else
     none
   else
    bnd (rc42x1 ((w1.getD w3.toNat (.i 0)).cell 9).isNil ((w1.getD w3.toNat (.i 0)).cell 9).items) fun y1 =>
    bif y1.isSome then
     bnd (G42x1x27 N rc42x1 (y1.getD default).2 ((w1.getD w3.toNat (.i 0)).cell 8).toI 0 w4 w5) fun y2 =>
     bif y2.isSome then
      kr (IntKind.wrap .i64 (w3 + 1)) (y2.getD default).1 (y2.getD default).2
     else
      none
    else
     none
  else
   none
 else
  k0 (w4, w5)
def L42x1x9 (N : Nat) (rc42x1 : Rc42x1) {R : Type} (w1 : LD) (w2 : Int) : Nat → Int → Bool → LD → (Bool × LD → Option R) → Option R
 | 0, _, _, _, _ => none
 | m + 1, w3, w4, w5, k0 => S42x1x9 N rc42x1 w1 w2 w3 w4 w5 (fun w3 w4 w5 => L42x1x9 N rc42x1 w1 w2 m w3 w4 w5 k0) k0
def G42x1x9 (rc42x1 : Rc42x1) (w1 : LD) (w2 : Int) (w3 : Int) (w4 : Bool) (w5 : LD) : Option (Bool × LD) := L42x1x9 N rc42x1 (R := (Bool × LD)) w1 w2 N w3 w4 w5 (fun p => some p)
def J42x1x9 (rc42x1 : Rc42x1) (L x : List Lf) (kr : List Lf → Option R) (k0 : Bool × LD → Option R) : Option R := S42x1x9 N rc42x1 (ll L 1) (li L 2) (li x 0) (lb x 1) (ll x 2) (fun w3 w4 w5 => kr [.i w3, .b w4, .l w5]) k0
theorem sb42x1x9 (rc42x1 : Rc42x1) (L x : List Lf) (kr : List Lf → Option R) (k0 : Bool × LD → Option R) : J42x1x9 N rc42x1 L x kr k0 = (J42x1x9 N rc42x1 L x (fun y => some (.inl y)) (fun p => some (.inr p))).bind (sumE kr k0) := by
 unfold J42x1x9 S42x1x9
 repeat' (first | with_reducible apply cond_b | (with_reducible apply bnd_b; intro _) | rfl)
def Q42x1x9 (rc42x1 : Rc42x1) (L : List Lf) (m : Nat) (x : List Lf) : Option (Bool × LD) := L42x1x9 N rc42x1 (R := (Bool × LD)) (ll L 1) (li L 2) m (li x 0) (lb x 1) (ll x 2) (fun p => some p)
def sh42x1x9 : Sh := { tmps := [(3, .c (.o 3)), (8, .c (.sl 64)), (9, .c (.i .i64)), (10, .c (.i .i64))], mem := [(3, .row 64 true)] }
def A42x1x9 (rc42x1 : Rc42x1) (L : List Lf) : List (Bool × (Ex × St)) := bnd (Q42x1x9 N rc42x1 L N (pk sh42x1x9 [3, 4, 5] L)) fun q => [(q.isSome, ((.exit 0), ⟨[(3, .c (.o 3))], [(3, .row 64 true (q.getD default).1 (q.getD default).2)]⟩))]
theorem step42x1x9 (rc42x1 : Rc42x1) (hR42x1 : OracleOk Tryz.prog ((O42x1 N) rc42x1)) (m : Nat) (kn : St → Option (Ex × St)) (L x : List Lf) : lpB Tryz.prog ((O42x1 N) rc42x1) ((h42x1s1 N) rc42x1 hR42x1).h 0 42 9 sh42x1x9 [3, 4, 5] [2, 3] [3] (m + 100) kn L x = J42x1x9 N rc42x1 L x (fun y => kn (ofSh sh42x1x9 (mx sh42x1x9 [3, 4, 5] L y))) (fun p => some ((.exit 0), ⟨[(3, .c (.o 3))], [(3, .row 64 true p.1 p.2)]⟩)) := by kernel_rfl
theorem ql42x1x9 (rc42x1 : Rc42x1) (L : List Lf) (m : Nat) (x : List Lf) : Q42x1x9 N rc42x1 L (m + 1) x = J42x1x9 N rc42x1 L x (Q42x1x9 N rc42x1 L m) some := by kernel_rfl
def h42x1s2 (rc42x1 : Rc42x1) (hR42x1 : OracleOk Tryz.prog ((O42x1 N) rc42x1)) : Sg Tryz.prog 0 42 :=
 ((h42x1s1 N) rc42x1 hR42x1).lp ((A42x1x9 N) rc42x1) N progOk hR42x1 (fun m kn L x => (step42x1x9 N rc42x1 hR42x1 m kn L x).trans (sb42x1x9 N rc42x1 L x _ _)) (fun L m x => (ql42x1x9 N rc42x1 L m x).trans (sb42x1x9 N rc42x1 L x (Q42x1x9 N rc42x1 L m) some)) fun L x hx => alt1 x hx
def F42x1 (rc42x1 : Rc42x1) (v0 : Bool) (v1 : LD) (k0 : Bool × LD → Option R) : Option R :=
 bnd (G42x1x9 N rc42x1 v1 (v1.length : Int) 0 true []) fun y0 =>
 bif y0.isSome then
  k0 (y0.getD default)
 else
  none
def G42x1 (rc42x1 : Rc42x1) (v0 : Bool) (v1 : LD) : Option (Bool × LD) := F42x1 N rc42x1 v0 v1 (fun p => some p)
theorem bind42x1 (rc42x1 : Rc42x1) (v0 : Bool) (v1 : LD) (k0 : Bool × LD → Option R) : F42x1 N rc42x1 v0 v1 k0 = (G42x1 N rc42x1 v0 v1).bind k0 := by
 unfold G42x1 F42x1
 repeat' (first | with_reducible apply cond_b | (with_reducible apply bnd_b; intro _) | rfl)
theorem raw42x1 (rc42x1 : Rc42x1) (hR42x1 : OracleOk Tryz.prog ((O42x1 N) rc42x1)) (L : List Lf) : bd Tryz.prog ((O42x1 N) rc42x1) ((h42x1s2 N) rc42x1 hR42x1).h 42 sh42x1 L = F42x1 N rc42x1 (lb L 0) (ll L 1) (fun p => some ([.c (.sl 64 p.1 p.2)], [])) := by kernel_rfl
theorem fin42x1 (rc42x1 : Rc42x1) (hR42x1 : OracleOk Tryz.prog ((O42x1 N) rc42x1)) (L : List Lf) (x : Res) (hx : altK ((B42x1 N) (fun v0 v1 => G42x1 N rc42x1 v0 v1) L) some = some x) : CallOk Tryz.prog 42 (valsOf (ofSh sh42x1 L).tmps) (ofSh sh42x1 L).mem x :=
 callOk_of (n := 200) progOk hR42x1 ((h42x1s2 N) rc42x1 hR42x1).ok rfl ((raw42x1 N rc42x1 hR42x1 L).trans ((bind42x1 N rc42x1 ..).trans (alt1 x hx)))
def R42x1 (N : Nat) : Nat → Rc42x1
 | 0 => fun _ _ => none
 | m + 1 => fun v0 v1 => G42x1 N (R42x1 N m) v0 v1
theorem Rok42x1 (N : Nat) : ∀ m, OracleOk Tryz.prog ((O42x1 N) (R42x1 N m))
 | 0 => ext_ok (T20x0_ok N) (AM.enters_of (by kernel_rfl)) (spSh_law fun L x hx => by
  have h : (none : Option Res) = some x := hx
  cases h)
 | m + 1 => ext_ok (T20x0_ok N) (AM.enters_of (by kernel_rfl)) (spSh_law fun L x hx => fin42x1 N (R42x1 N m) (Rok42x1 N m) L x hx)
def T42x1 : Oracle := (O42x1 N) (R42x1 N N)
theorem T42x1_ok : OracleOk Tryz.prog (T42x1 N) := Rok42x1 N N
def rg75x0 : List (Nat × List Nat) := [(0, [0, 1, 2]), (1, [0, 1, 2])]
def hd75x0 : Hints := []
def h75x0s0 (N : Nat) : Sg Tryz.prog 0 75 := .start hd75x0 rg75x0
def F75x0 (N : Nat) (v0 v1 v2 : Int) (k0 : Bool → R) : R :=
 k0 (bif (decide (v0 < v1)) then true else (decide (v0 > v2)))
def V75x0 (v0 v1 v2 : Int) : Bool := F75x0 N v0 v1 v2 (fun p => p)
theorem tot75x0 (v0 v1 v2 : Int) (k0 : Bool → R) : F75x0 N v0 v1 v2 k0 = k0 (V75x0 N v0 v1 v2) := by
 unfold V75x0 F75x0
 repeat' (first | rfl | apply cond_k | (apply bnd_k; intro _))
def sh75x0 : Sh := { tmps := [(0, .c (.i .i64)), (1, .c (.i .i64)), (2, .c (.i .i64))], mem := [] }
def A75x0 (L : List Lf) : List (Bool × Res) := bnd (F75x0 N (li L 0) (li L 1) (li L 2) (fun p => p)) fun q => [(true, ([.c (.b q)], []))]
theorem raw75x0 (L : List Lf) : bd Tryz.prog (T42x1 N) (h75x0s0 N).h 75 sh75x0 L = F75x0 N (li L 0) (li L 1) (li L 2) (fun p => some ([.c (.b p)], [])) := by kernel_rfl
theorem ok75x0 : FnOk Tryz.prog 75 sh75x0 (A75x0 N) :=
 (h75x0s0 N).fn progOk (T42x1_ok N) fun L x hx => ((raw75x0 N L).trans ((tot75x0 N ..).trans (alt0 _ _ hx)))
def T75x0 : Oracle := ext 75 (spSh sh75x0 (A75x0 N)) (T42x1 N)
theorem T75x0_ok : OracleOk Tryz.prog (T75x0 N) := FnOk.to (ok75x0 N) (T42x1_ok N)
def rg76x0 : List (Nat × List Nat) := [(0, [0]), (1, [0]), (2, [0]), (3, [0])]
def hd76x0 : Hints := []
def h76x0s0 (N : Nat) : Sg Tryz.prog 0 76 := .start hd76x0 rg76x0
def F76x0 (N : Nat) (v0 : Int) (k0 : Int → R) : R :=
 bif (decide (v0 < 0)) then
  k0 (IntKind.wrap .u64 (0 - (IntKind.wrap .u64 v0)))
 else
  k0 (IntKind.wrap .u64 v0)
def V76x0 (v0 : Int) : Int := F76x0 N v0 (fun p => p)
theorem tot76x0 (v0 : Int) (k0 : Int → R) : F76x0 N v0 k0 = k0 (V76x0 N v0) := by
 unfold V76x0 F76x0
 repeat' (first | rfl | apply cond_k | (apply bnd_k; intro _))
def sh76x0 : Sh := { tmps := [(0, .c (.i .i64))], mem := [] }
def A76x0 (L : List Lf) : List (Bool × Res) := bnd (F76x0 N (li L 0) (fun p => p)) fun q => [(true, ([.c (.i .u64 q)], []))]
theorem raw76x0 (L : List Lf) : bd Tryz.prog (T75x0 N) (h76x0s0 N).h 76 sh76x0 L = F76x0 N (li L 0) (fun p => some ([.c (.i .u64 p)], [])) := by kernel_rfl
theorem ok76x0 : FnOk Tryz.prog 76 sh76x0 (A76x0 N) :=
 (h76x0s0 N).fn progOk (T75x0_ok N) fun L x hx => ((raw76x0 N L).trans ((tot76x0 N ..).trans (alt0 _ _ hx)))
def T76x0 : Oracle := ext 76 (spSh sh76x0 (A76x0 N)) (T75x0 N)
theorem T76x0_ok : OracleOk Tryz.prog (T76x0 N) := FnOk.to (ok76x0 N) (T75x0_ok N)
def rg77x0 : List (Nat × List Nat) := [(0, [1, 4, 3, 2, 0]), (1, [1, 4, 3, 2, 0]), (2, []), (3, [4, 3, 1, 2, 0]), (4, [13, 3, 1, 2, 4, 0]), (6, [13, 3, 1, 2, 4, 0]), (8, [13, 1, 2, 4, 3, 0]), (9, []), (7, [3]), (5, [3]), (10, [1, 2, 4, 3, 0]), (11, [1, 2]), (12, [4, 3, 0]), (13, [3]), (14, [0])]
def hd77x0 : Hints := []
def h77x0s0 (N : Nat) : Sg Tryz.prog 0 77 := .start hd77x0 rg77x0
def F77x0 (N : Nat) (v0 v1 v2 : Int) (v3 : Bool) (v4 : Int) (k0 : Bool → R) : R :=
 bif (v1 == 0) then
  k0 false
 else
  bif (v4 == 1) then
   k0 v3
  else
   bif (v4 == 2) then
    k0 (!v3)
   else
    bif (v4 == 3) then
     k0 false
    else
     bif (v1 != (IntKind.wrap .u64 (v2 - v1))) then
      k0 (decide (v1 > (IntKind.wrap .u64 (v2 - v1))))
     else
      bif (v4 == 4) then
       k0 (!v3)
      else
       k0 ((v0.tmod 2) == 1)
def V77x0 (v0 v1 v2 : Int) (v3 : Bool) (v4 : Int) : Bool := F77x0 N v0 v1 v2 v3 v4 (fun p => p)
theorem tot77x0 (v0 v1 v2 : Int) (v3 : Bool) (v4 : Int) (k0 : Bool → R) : F77x0 N v0 v1 v2 v3 v4 k0 = k0 (V77x0 N v0 v1 v2 v3 v4) := by
 unfold V77x0 F77x0
 repeat' (first | rfl | apply cond_k | (apply bnd_k; intro _))
def J77x0 (L : List Lf) (k0 : Bool → R) : R := F77x0 N (li L 0) (li L 1) (li L 2) (lb L 3) (li L 4) k0
def sh77x0 : Sh := { tmps := [(0, .c (.i .u64)), (1, .c (.i .u64)), (2, .c (.i .u64)), (3, .c (.b)), (4, .c (.i .i64))], mem := [] }
def A77x0 (L : List Lf) : List (Bool × Res) := bnd (J77x0 N L (fun p => p)) fun q => [(true, ([.c (.b q)], []))]
theorem raw77x0 (L : List Lf) : bd Tryz.prog (T76x0 N) (h77x0s0 N).h 77 sh77x0 L = J77x0 N L (fun p => some ([.c (.b p)], [])) := by kernel_rfl
theorem ok77x0 : FnOk Tryz.prog 77 sh77x0 (A77x0 N) :=
 (h77x0s0 N).fn progOk (T76x0_ok N) fun L x hx => ((raw77x0 N L).trans ((tot77x0 N ..).trans (alt0 _ _ hx)))
def T77x0 : Oracle := ext 77 (spSh sh77x0 (A77x0 N)) (T76x0 N)
theorem T77x0_ok : OracleOk Tryz.prog (T77x0 N) := FnOk.to (ok77x0 N) (T76x0_ok N)
def rg47x0 : List (Nat × List Nat) := [(0, [3, 2, 1, 0]), (1, [3, 2, 1, 0]), (2, []), (3, [2, 1, 0, 3]), (4, []), (5, [0, 1, 2, 3]), (6, [2, 10, 11, 0, 3]), (7, [10, 12, 11, 0, 3]), (8, []), (9, [10, 11, 12, 0, 3]), (10, [0, 13, 14, 12, 3]), (11, [13, 14, 12, 15, 3]), (12, [13, 15]), (13, [13, 15]), (14, []), (15, [13, 15]), (16, []), (17, [15, 13]), (18, [13]), (19, [13])]
def hd47x0 : Hints := [(38, [13, 15, 51], [], [])]
def h47x0s0 (N : Nat) : Sg Tryz.prog 0 47 := .start hd47x0 rg47x0
def F47x0x38 (N : Nat) (w0 : Int) (w2 : Bool) (k0 : Unit → Option R) (k1 : Int → Option R) : Option R :=
 bif w2 then
  bif ((IntKind.wrap .u64 (w0 + 1)) == 0) then
   k0 ()
  else
   k1 (IntKind.wrap .u64 (w0 + 1))
 else
  k1 w0
def G47x0x38 (w0 : Int) (w2 : Bool) : Option (Sum (Unit) (Int)) := F47x0x38 N w0 w2 (fun p => some (.inl p)) (fun p => some (.inr p))
theorem bind47x0x38 (w0 : Int) (w2 : Bool) (k0 : Unit → Option R) (k1 : Int → Option R) : F47x0x38 N w0 w2 k0 k1 = (G47x0x38 N w0 w2).bind (sumE k0 k1) := by
 unfold G47x0x38 F47x0x38
 repeat' (first | with_reducible apply cond_b | (with_reducible apply bnd_b; intro _) | rfl)
def sh47x0x38 : Sh := { tmps := [(13, .c (.i .u64)), (15, .c (.b)), (51, .c (.b))], mem := [] }
def K47x0x38w1 (L : List Lf) (p : Int) : Ex × St := (.normal, ⟨[(13, .c (.i .u64 p)), (15, .c (.b (lb L 1)))], []⟩)
def A47x0x38 (L : List Lf) : List (Bool × (Ex × St)) := bnd (F47x0x38 N (li L 0) (lb L 2) (fun p => some (.inl p)) (fun p => some (.inr p))) fun q => [((inlB q), (.ret, ⟨[(8, .c (.i .i64 0)), (9, .c (.i .i64 9))], []⟩)), ((inrQ q).isSome, K47x0x38w1 L ((inrQ q).getD default))]
theorem raw47x0x38 (L : List Lf) : pc Tryz.prog (T77x0 N) (h47x0s0 N).h 0 100 47 38 sh47x0x38 L [13, 15, 8, 9] [] = F47x0x38 N (li L 0) (lb L 2) (fun _ => some (.ret, ⟨[(8, .c (.i .i64 0)), (9, .c (.i .i64 9))], []⟩)) (fun p => some (K47x0x38w1 L p)) := by kernel_rfl
def h47x0s1 : Sg Tryz.prog 0 47 :=
 (h47x0s0 N).cut (A47x0x38 N) progOk (T77x0_ok N) fun L x hx => (raw47x0x38 N L).trans ((bind47x0x38 N ..).trans ((altS alt1) x hx))
def F47x0 (v0 v1 v2 v3 : Int) (k0 : Int × Int → Option R) : Option R :=
 bnd (V75x0 N v3 1 5) fun y0 =>
 bif y0 then
  k0 (0, 7)
 else
  bif (bif (decide (v2 < 1)) then true else (decide (v1 < 0))) then
   k0 (0, 1)
  else
   bnd (V76x0 N v0) fun y1 =>
   bnd (V72x0 N y1 (IntKind.wrap .u64 v1)) fun y2 =>
   bif (decide (y2.1 ≥ (IntKind.wrap .u64 v2))) then
    k0 (0, 9)
   else
    bnd (G73x0 N y2.1 y2.2 (IntKind.wrap .u64 v2)) fun y3 =>
    bif y3.isSome then
     bnd (V77x0 N (y3.getD default).1 (y3.getD default).2 (IntKind.wrap .u64 v2) (decide (v0 < 0)) v3) fun y4 =>
     bnd (G47x0x38 N (y3.getD default).1 y4) fun y5 =>
     bif (inlB y5) then
      k0 (0, 9)
     else
      bif (inrQ y5).isSome then
       bnd (decide (((inrQ y5).getD default) > 4611686018427387904)) fun y6 =>
       bif y6 then
        k0 (0, 9)
       else
        bif (decide (v0 < 0)) then
         bnd (IntKind.wrap .i64 (0 - (IntKind.wrap .i64 ((inrQ y5).getD default)))) fun y7 =>
         k0 (y7, 0)
        else
         k0 ((IntKind.wrap .i64 ((inrQ y5).getD default)), 0)
      else
       none
    else
     none
def G47x0 (v0 v1 v2 v3 : Int) : Option (Int × Int) := F47x0 N v0 v1 v2 v3 (fun p => some p)
theorem bind47x0 (v0 v1 v2 v3 : Int) (k0 : Int × Int → Option R) : F47x0 N v0 v1 v2 v3 k0 = (G47x0 N v0 v1 v2 v3).bind k0 := by
 unfold G47x0 F47x0
 repeat' (first | with_reducible apply cond_b | (with_reducible apply bnd_b; intro _) | rfl)
def J47x0 (L : List Lf) (k0 : Int × Int → Option R) : Option R := F47x0 N (li L 0) (li L 1) (li L 2) (li L 3) k0
def sh47x0 : Sh := { tmps := [(0, .c (.i .i64)), (1, .c (.i .i64)), (2, .c (.i .i64)), (3, .c (.i .i64))], mem := [] }
def A47x0 (L : List Lf) : List (Bool × Res) := bnd (J47x0 N L (fun p => some p)) fun q => [(q.isSome, ([.c (.i .i64 (q.getD default).1), .c (.i .i64 (q.getD default).2)], []))]
theorem raw47x0 (L : List Lf) : bd Tryz.prog (T77x0 N) (h47x0s1 N).h 47 sh47x0 L = J47x0 N L (fun p => some ([.c (.i .i64 p.1), .c (.i .i64 p.2)], [])) := by kernel_rfl
theorem ok47x0 : FnOk Tryz.prog 47 sh47x0 (A47x0 N) :=
 (h47x0s1 N).fn progOk (T77x0_ok N) fun L x hx => ((raw47x0 N L).trans ((bind47x0 N ..).trans (alt1 x hx)))
def T47x0 : Oracle := ext 47 (spSh sh47x0 (A47x0 N)) (T77x0 N)
theorem T47x0_ok : OracleOk Tryz.prog (T47x0 N) := FnOk.to (ok47x0 N) (T77x0_ok N)
def rg67x0 : List (Nat × List Nat) := [(0, [0, 2, 1]), (1, [3, 1, 5]), (2, []), (3, [3, 1, 5]), (4, [1]), (5, [3, 5, 1]), (6, [15, 5, 1, 3]), (8, [15, 5, 1, 3]), (10, [15, 5, 1, 3]), (11, [5, 1, 3]), (9, [5, 1, 3]), (7, [5, 1, 3]), (12, [1, 3])]
def hd67x0 : Hints := [(35, [1, 3, 5, 34], [3, 5], []), (30029, [1, 3, 5, 15, 25], [3, 5], []), (24023, [1, 3, 5, 15, 16], [3, 5], [])]
def h67x0s0 (N : Nat) : Sg Tryz.prog 0 67 := .start hd67x0 rg67x0
def F67x0x35 (w0 : Int) (w1 : Bool) (w8 : Int) (k0 : Int → Option R) : Option R :=
 bif w1 then
  bnd (G47x0 N 100 w8 w0 4) fun y0 =>
  bif y0.isSome then
   k0 (y0.getD default).1
  else
   none
 else
  k0 w0
def G67x0x35 (w0 : Int) (w1 : Bool) (w8 : Int) : Option (Int) := F67x0x35 N w0 w1 w8 (fun p => some p)
theorem bind67x0x35 (w0 : Int) (w1 : Bool) (w8 : Int) (k0 : Int → Option R) : F67x0x35 N w0 w1 w8 k0 = (G67x0x35 N w0 w1 w8).bind k0 := by
 unfold G67x0x35 F67x0x35
 repeat' (first | with_reducible apply cond_b | (with_reducible apply bnd_b; intro _) | rfl)
def sh67x0x35 : Sh := { tmps := [(1, .c (.i .i64)), (3, .c (.p 3 0)), (5, .c (.p 5 0)), (34, .c (.b))], mem := [(3, .box ([.i .i64, .b, .i .i64, .i .i64])), (5, .box ([.i .i64, .i .i64, .i .i64]))] }
def K67x0x35w0 (L : List Lf) (p : Int) : Ex × St := (.normal, mg (ofSh sh67x0x35 L) [1, 3] [(1, .c (.i .i64 p))] [3] [])
def A67x0x35 (L : List Lf) : List (Bool × (Ex × St)) := bnd (F67x0x35 N (li L 0) (lb L 1) (li L 8) (fun p => some p)) fun q => [(q.isSome, K67x0x35w0 L (q.getD default))]
theorem raw67x0x35 (L : List Lf) : pc Tryz.prog (T47x0 N) (h67x0s0 N).h 0 100 67 35 sh67x0x35 L [1, 3] [3] = F67x0x35 N (li L 0) (lb L 1) (li L 8) (fun p => some (K67x0x35w0 L p)) := by kernel_rfl
def h67x0s1 : Sg Tryz.prog 0 67 :=
 (h67x0s0 N).cut (A67x0x35 N) progOk (T47x0_ok N) fun L x hx => (raw67x0x35 N L).trans ((bind67x0x35 N ..).trans (alt1 x hx))
def F67x0x30029 (w0 w1 : Int) (w2 : Bool) (w8 w9 : Int) (k0 : Int → Option R) : Option R :=
 bif w2 then
  bnd (G47x0 N w8 w0 100 4) fun y0 =>
  bif y0.isSome then
   k0 (y0.getD default).1
  else
   none
 else
  bnd (G67x0x35 N w0 (w1 == 4) w9) fun y1 =>
  bif y1.isSome then
   k0 (y1.getD default)
  else
   none
def G67x0x30029 (w0 w1 : Int) (w2 : Bool) (w8 w9 : Int) : Option (Int) := F67x0x30029 N w0 w1 w2 w8 w9 (fun p => some p)
theorem bind67x0x30029 (w0 w1 : Int) (w2 : Bool) (w8 w9 : Int) (k0 : Int → Option R) : F67x0x30029 N w0 w1 w2 w8 w9 k0 = (G67x0x30029 N w0 w1 w2 w8 w9).bind k0 := by
 unfold G67x0x30029 F67x0x30029
 repeat' (first | with_reducible apply cond_b | (with_reducible apply bnd_b; intro _) | rfl)
def J67x0x30029 (L : List Lf) (k0 : Int → Option R) : Option R := F67x0x30029 N (li L 0) (li L 1) (lb L 2) (li L 8) (li L 9) k0
def sh67x0x30029 : Sh := { tmps := [(1, .c (.i .i64)), (3, .c (.p 3 0)), (5, .c (.p 5 0)), (15, .c (.i .i64)), (25, .c (.b))], mem := [(3, .box ([.i .i64, .b, .i .i64, .i .i64])), (5, .box ([.i .i64, .i .i64, .i .i64]))] }
def K67x0x30029w0 (L : List Lf) (p : Int) : Ex × St := (.normal, mg (ofSh sh67x0x30029 L) [1, 3] [(1, .c (.i .i64 p))] [3] [])
def A67x0x30029 (L : List Lf) : List (Bool × (Ex × St)) := bnd (J67x0x30029 N L (fun p => some p)) fun q => [(q.isSome, K67x0x30029w0 L (q.getD default))]
theorem raw67x0x30029 (L : List Lf) : pc Tryz.prog (T47x0 N) (h67x0s1 N).h 0 100 67 30029 sh67x0x30029 L [1, 3] [3] = J67x0x30029 N L (fun p => some (K67x0x30029w0 L p)) := by kernel_rfl
def h67x0s2 : Sg Tryz.prog 0 67 :=
 (h67x0s1 N).cut (A67x0x30029 N) progOk (T47x0_ok N) fun L x hx => (raw67x0x30029 N L).trans ((bind67x0x30029 N ..).trans (alt1 x hx))
def F67x0x24023 (w0 w1 : Int) (w2 : Bool) (w7 w8 w9 : Int) (k0 : Int → Option R) : Option R :=
 bif w2 then
  bnd (G47x0 N w7 w0 100 4) fun y0 =>
  bif y0.isSome then
   k0 (y0.getD default).1
  else
   none
 else
  bnd (G67x0x30029 N w0 w1 (w1 == 2) w8 w9) fun y1 =>
  bif y1.isSome then
   k0 (y1.getD default)
  else
   none
def G67x0x24023 (w0 w1 : Int) (w2 : Bool) (w7 w8 w9 : Int) : Option (Int) := F67x0x24023 N w0 w1 w2 w7 w8 w9 (fun p => some p)
theorem bind67x0x24023 (w0 w1 : Int) (w2 : Bool) (w7 w8 w9 : Int) (k0 : Int → Option R) : F67x0x24023 N w0 w1 w2 w7 w8 w9 k0 = (G67x0x24023 N w0 w1 w2 w7 w8 w9).bind k0 := by
 unfold G67x0x24023 F67x0x24023
 repeat' (first | with_reducible apply cond_b | (with_reducible apply bnd_b; intro _) | rfl)
def J67x0x24023 (L : List Lf) (k0 : Int → Option R) : Option R := F67x0x24023 N (li L 0) (li L 1) (lb L 2) (li L 7) (li L 8) (li L 9) k0
def sh67x0x24023 : Sh := { tmps := [(1, .c (.i .i64)), (3, .c (.p 3 0)), (5, .c (.p 5 0)), (15, .c (.i .i64)), (16, .c (.b))], mem := [(3, .box ([.i .i64, .b, .i .i64, .i .i64])), (5, .box ([.i .i64, .i .i64, .i .i64]))] }
def K67x0x24023w0 (L : List Lf) (p : Int) : Ex × St := (.normal, mg (ofSh sh67x0x24023 L) [1, 3] [(1, .c (.i .i64 p))] [3] [])
def A67x0x24023 (L : List Lf) : List (Bool × (Ex × St)) := bnd (J67x0x24023 N L (fun p => some p)) fun q => [(q.isSome, K67x0x24023w0 L (q.getD default))]
theorem raw67x0x24023 (L : List Lf) : pc Tryz.prog (T47x0 N) (h67x0s2 N).h 0 100 67 24023 sh67x0x24023 L [1, 3] [3] = J67x0x24023 N L (fun p => some (K67x0x24023w0 L p)) := by kernel_rfl
def h67x0s3 : Sg Tryz.prog 0 67 :=
 (h67x0s2 N).cut (A67x0x24023 N) progOk (T47x0_ok N) fun L x hx => (raw67x0x24023 N L).trans ((bind67x0x24023 N ..).trans (alt1 x hx))
def F67x0 (v0 : Int) (v1 : Bool) (v4 v5 v6 v7 : Int) (k0 : Int → Option R) : Option R :=
 bif (v0 == 0) then
  k0 0
 else
  bif (!v1) then
   k0 v4
  else
   bnd (G67x0x24023 N v4 v0 (v0 == 1) v5 v6 v7) fun y0 =>
   bif y0.isSome then
    bnd (V88x0 N v0) fun y1 =>
    k0 (min2 (max2 (y0.getD default) 1) y1)
   else
    none
def G67x0 (v0 : Int) (v1 : Bool) (v4 v5 v6 v7 : Int) : Option (Int) := F67x0 N v0 v1 v4 v5 v6 v7 (fun p => some p)
theorem bind67x0 (v0 : Int) (v1 : Bool) (v4 v5 v6 v7 : Int) (k0 : Int → Option R) : F67x0 N v0 v1 v4 v5 v6 v7 k0 = (G67x0 N v0 v1 v4 v5 v6 v7).bind k0 := by
 unfold G67x0 F67x0
 repeat' (first | with_reducible apply cond_b | (with_reducible apply bnd_b; intro _) | rfl)
def J67x0 (L : List Lf) (k0 : Int → Option R) : Option R := F67x0 N (li L 0) (lb L 1) (li L 4) (li L 5) (li L 6) (li L 7) k0
def sh67x0 : Sh := { tmps := [(0, .g ([.i .i64, .b, .i .i64, .i .i64])), (1, .c (.i .i64)), (2, .g ([.i .i64, .i .i64, .i .i64]))], mem := [] }
def A67x0 (L : List Lf) : List (Bool × Res) := bnd (J67x0 N L (fun p => some p)) fun q => [(q.isSome, ([.c (.i .i64 (q.getD default))], []))]
theorem raw67x0 (L : List Lf) : bd Tryz.prog (T47x0 N) (h67x0s3 N).h 67 sh67x0 L = J67x0 N L (fun p => some ([.c (.i .i64 p)], [])) := by kernel_rfl
theorem ok67x0 : FnOk Tryz.prog 67 sh67x0 (A67x0 N) :=
 (h67x0s3 N).fn progOk (T47x0_ok N) fun L x hx => ((raw67x0 N L).trans ((bind67x0 N ..).trans (alt1 x hx)))
def T67x0 : Oracle := ext 67 (spSh sh67x0 (A67x0 N)) (T47x0 N)
theorem T67x0_ok : OracleOk Tryz.prog (T67x0 N) := FnOk.to (ok67x0 N) (T47x0_ok N)
def rg89x0 : List (Nat × List Nat) := [(0, [0]), (1, [0])]
def hd89x0 : Hints := []
def h89x0s0 (N : Nat) : Sg Tryz.prog 0 89 := .start hd89x0 rg89x0
def F89x0 (v0 : Int) (k0 : Bool → R) : R :=
 bnd (V75x0 N v0 1 36000) fun y0 =>
 k0 (!y0)
def V89x0 (v0 : Int) : Bool := F89x0 N v0 (fun p => p)
theorem tot89x0 (v0 : Int) (k0 : Bool → R) : F89x0 N v0 k0 = k0 (V89x0 N v0) := by
 unfold V89x0 F89x0
 repeat' (first | rfl | apply cond_k | (apply bnd_k; intro _))
def sh89x0 : Sh := { tmps := [(0, .c (.i .i64))], mem := [] }
def A89x0 (L : List Lf) : List (Bool × Res) := bnd (F89x0 N (li L 0) (fun p => p)) fun q => [(true, ([.c (.b q)], []))]
theorem raw89x0 (L : List Lf) : bd Tryz.prog (T67x0 N) (h89x0s0 N).h 89 sh89x0 L = F89x0 N (li L 0) (fun p => some ([.c (.b p)], [])) := by kernel_rfl
theorem ok89x0 : FnOk Tryz.prog 89 sh89x0 (A89x0 N) :=
 (h89x0s0 N).fn progOk (T67x0_ok N) fun L x hx => ((raw89x0 N L).trans ((tot89x0 N ..).trans (alt0 _ _ hx)))
def T89x0 : Oracle := ext 89 (spSh sh89x0 (A89x0 N)) (T67x0 N)
theorem T89x0_ok : OracleOk Tryz.prog (T89x0 N) := FnOk.to (ok89x0 N) (T67x0_ok N)
def rg68x0 : List (Nat × List Nat) := [(0, [0, 1]), (1, [0, 1]), (2, []), (3, [0, 1])]
def hd68x0 : Hints := [(4, [0, 1], [], [])]
def h68x0s0 (N : Nat) : Sg Tryz.prog 0 68 := .start hd68x0 rg68x0
def F68x0x4 (w0 w1 : Int) (k0 : Bool → R) : R :=
 bnd (V75x0 N w0 0 1000000000) fun y0 =>
 bif y0 then
  k0 true
 else
  bnd (V89x0 N w1) fun y1 =>
  k0 (!y1)
def V68x0x4 (w0 w1 : Int) : Bool := F68x0x4 N w0 w1 (fun p => p)
theorem tot68x0x4 (w0 w1 : Int) (k0 : Bool → R) : F68x0x4 N w0 w1 k0 = k0 (V68x0x4 N w0 w1) := by
 unfold V68x0x4 F68x0x4
 repeat' (first | rfl | apply cond_k | (apply bnd_k; intro _))
def sh68x0x4 : Sh := { tmps := [(0, .c (.i .i64)), (1, .c (.i .i64))], mem := [] }
def K68x0x4w0 (L : List Lf) (p : Bool) : Ex × St := (.normal, mg (ofSh sh68x0x4 L) [0, 1, 12] [(12, .c (.b p))] [] [])
def A68x0x4 (L : List Lf) : List (Bool × (Ex × St)) := bnd (F68x0x4 N (li L 0) (li L 1) (fun p => p)) fun q => [(true, K68x0x4w0 L q)]
theorem raw68x0x4 (L : List Lf) : pc Tryz.prog (T89x0 N) (h68x0s0 N).h 0 100 68 4 sh68x0x4 L [0, 1, 12] [] = F68x0x4 N (li L 0) (li L 1) (fun p => some (K68x0x4w0 L p)) := by kernel_rfl
def h68x0s1 : Sg Tryz.prog 0 68 :=
 (h68x0s0 N).cut (A68x0x4 N) progOk (T89x0_ok N) fun L x hx => (raw68x0x4 N L).trans ((tot68x0x4 N ..).trans (alt0 _ _ hx))
def F68x0 (v0 v1 : Int) (k0 : Int × Int → Option R) : Option R :=
 bnd (V68x0x4 N v0 v1) fun y0 =>
 bif y0 then
  k0 (0, 9)
 else
  bnd (G47x0 N v0 v1 10000 4) fun y1 =>
  bif y1.isSome then
   k0 (y1.getD default)
  else
   none
def G68x0 (v0 v1 : Int) : Option (Int × Int) := F68x0 N v0 v1 (fun p => some p)
theorem bind68x0 (v0 v1 : Int) (k0 : Int × Int → Option R) : F68x0 N v0 v1 k0 = (G68x0 N v0 v1).bind k0 := by
 unfold G68x0 F68x0
 repeat' (first | with_reducible apply cond_b | (with_reducible apply bnd_b; intro _) | rfl)
def sh68x0 : Sh := { tmps := [(0, .c (.i .i64)), (1, .c (.i .i64))], mem := [] }
def A68x0 (L : List Lf) : List (Bool × Res) := bnd (F68x0 N (li L 0) (li L 1) (fun p => some p)) fun q => [(q.isSome, ([.c (.i .i64 (q.getD default).1), .c (.i .i64 (q.getD default).2)], []))]
theorem raw68x0 (L : List Lf) : bd Tryz.prog (T89x0 N) (h68x0s1 N).h 68 sh68x0 L = F68x0 N (li L 0) (li L 1) (fun p => some ([.c (.i .i64 p.1), .c (.i .i64 p.2)], [])) := by kernel_rfl
theorem ok68x0 : FnOk Tryz.prog 68 sh68x0 (A68x0 N) :=
 (h68x0s1 N).fn progOk (T89x0_ok N) fun L x hx => ((raw68x0 N L).trans ((bind68x0 N ..).trans (alt1 x hx)))
def T68x0 : Oracle := ext 68 (spSh sh68x0 (A68x0 N)) (T89x0 N)
theorem T68x0_ok : OracleOk Tryz.prog (T68x0 N) := FnOk.to (ok68x0 N) (T89x0_ok N)
def rg43x0 : List (Nat × List Nat) := [(0, [0, 1, 2]), (1, [3, 4, 2, 6]), (2, [2, 3, 7, 8, 4, 6]), (3, [3, 7, 8, 9, 4, 2, 6]), (4, [7, 8, 9, 3, 4, 2, 6]), (5, [3, 4, 9, 2, 6]), (6, [3, 4, 9, 2, 6, 10]), (7, [4, 3, 9, 2, 6]), (8, [3, 9, 2, 6, 11]), (9, [9, 3, 2, 6]), (10, [3, 11, 2, 9, 6]), (11, [2, 10, 9, 6]), (12, [9, 6])]
def hd43x0 : Hints := [(14, [2, 3, 4, 6, 7, 8, 9, 41], [3, 4, 6, 9], []), (29, [2, 3, 6, 9, 11, 56], [3, 6, 9], []), (23, [2, 3, 4, 6, 9, 10, 50], [3, 4, 6, 9], [])]
def h43x0s0 (N : Nat) : Sg Tryz.prog 0 43 := .start hd43x0 rg43x0
def F43x0x14 (N : Nat) (w1 w2 : Int) (w3 : Bool) (w32 w33 : Int) (k0 : Int × Int → R) : R :=
 bif w3 then
  k0 (w1, w2)
 else
  k0 (w32, w33)
def V43x0x14 (w1 w2 : Int) (w3 : Bool) (w32 w33 : Int) : Int × Int := F43x0x14 N w1 w2 w3 w32 w33 (fun p => p)
theorem tot43x0x14 (w1 w2 : Int) (w3 : Bool) (w32 w33 : Int) (k0 : Int × Int → R) : F43x0x14 N w1 w2 w3 w32 w33 k0 = k0 (V43x0x14 N w1 w2 w3 w32 w33) := by
 unfold V43x0x14 F43x0x14
 repeat' (first | rfl | apply cond_k | (apply bnd_k; intro _))
def J43x0x14 (L : List Lf) (k0 : Int × Int → R) : R := F43x0x14 N (li L 1) (li L 2) (lb L 3) (li L 32) (li L 33) k0
def sh43x0x14 : Sh := { tmps := [(2, .c (.i .i64)), (3, .c (.p 3 0)), (4, .c (.p 4 0)), (6, .c (.p 6 0)), (7, .c (.i .i64)), (8, .c (.i .i64)), (9, .c (.p 9 0)), (41, .c (.b))], mem := [(3, .box (.i .i64 :: .s :: .i .i64 :: .i .i64 :: .i .i64 :: [.b, .i .i64, .i .i64, .i .i64, .sl 64])), (4, .box ([.i .i64, .i .i64, .i .i64])), (6, .box (.i .i64 :: .i .i64 :: .s :: rI 5 ([]))), (9, .box (.i .i64 :: .i .i64 :: .s :: rI 5 ([])))] }
def K43x0x14w0 (L : List Lf) (p : Int × Int) : Ex × St := (.normal, mg (ofSh sh43x0x14 L) [3, 4, 9, 2, 6] [] [9, 6, 4, 3] [(9, .box [.i .i64 (li L 26), .i .i64 (li L 27), .s (ls L 28), .i .i64 (li L 29), .i .i64 (li L 30), .i .i64 (li L 31), .i .i64 p.1, .i .i64 p.2])])
end
end Go.Proofs.YtpnacmnpahjpoaaGreatDoor
