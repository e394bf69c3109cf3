/- Functions of the program as plain Lean definitions, each with the proof that the program computes it. No condition. Printed by a program of the prover, part 1. -/
import Derived.Test.YtpnacmnpahjpoaaGreatDoorHk1
import Derived.Test.YtpnacmnpahjpoaaGreatDoorChecked
import Derived.KernelRfl
set_option linter.all false
set_option maxRecDepth 100000
namespace Go.Proofs.YtpnacmnpahjpoaaGreatDoor
open Go Go.AM
noncomputable section
variable (N : Nat) {R : Type}
abbrev LD : Type := List D
abbrev LB : Type := List UInt8
abbrev Ty0 : Type := LB × Bool × LD × Int
def rg56x0 : List (Nat × List Nat) := [(0, [0]), (1, [0])]
def hd56x0 : Hints := []
def h56x0s0 (N : Nat) : Sg Tryz.prog 0 56 := .start hd56x0 rg56x0
def F56x0 (N : Nat) (v0 : Int) (k0 : Bool → R) : R :=
 k0 (bif (decide (v0 ≥ 48)) then (decide (v0 ≤ 57)) else false)
def V56x0 (v0 : Int) : Bool := F56x0 N v0 (fun p => p)
theorem tot56x0 (v0 : Int) (k0 : Bool → R) : F56x0 N v0 k0 = k0 (V56x0 N v0) := by
 unfold V56x0 F56x0
 repeat' (first | rfl | apply cond_k | (apply bnd_k; intro _))
def sh56x0 : Sh := { tmps := [(0, .c (.i .u8))], mem := [] }
def A56x0 (L : List Lf) : List (Bool × Res) := bnd (F56x0 N (li L 0) (fun p => p)) fun q => [(true, ([.c (.b q)], []))]
theorem raw56x0 (L : List Lf) : bd Tryz.prog noOracle (h56x0s0 N).h 56 sh56x0 L = F56x0 N (li L 0) (fun p => some ([.c (.b p)], [])) := by kernel_rfl
theorem ok56x0 : FnOk Tryz.prog 56 sh56x0 (A56x0 N) :=
 (h56x0s0 N).fn progOk noOracle_ok fun L x hx => ((raw56x0 N L).trans ((tot56x0 N ..).trans (alt0 _ _ hx)))
def T56x0 : Oracle := ext 56 (spSh sh56x0 (A56x0 N)) noOracle
theorem T56x0_ok : OracleOk Tryz.prog (T56x0 N) := FnOk.to (ok56x0 N) noOracle_ok
def rg30x0 : List (Nat × List Nat) := [(0, [0]), (1, [0]), (2, [8, 7, 0]), (3, [8, 0, 7]), (4, [0, 3, 8, 7]), (5, [4, 8, 7, 0]), (6, [5, 4, 8, 7, 0]), (7, []), (8, [8, 7, 0]), (9, [0])]
def hd30x0 : Hints := [(6, [0, 7, 8], [], []), (19, [0, 4, 5, 7, 8], [], [])]
def h30x0s0 (N : Nat) : Sg Tryz.prog 0 30 := .start hd30x0 rg30x0
def F30x0x19 (w1 : Int) (w2 : Bool) (k0 : Bool → R) : R :=
 bif (!w2) then
  bnd (V56x0 N w1) fun y0 =>
  bnd (bif (bif (!y0) then (w1 != 45) else false) then (w1 != 95) else false) fun y1 =>
  k0 (bif y1 then (w1 != 46) else false)
 else
  k0 false
def V30x0x19 (w1 : Int) (w2 : Bool) : Bool := F30x0x19 N w1 w2 (fun p => p)
theorem tot30x0x19 (w1 : Int) (w2 : Bool) (k0 : Bool → R) : F30x0x19 N w1 w2 k0 = k0 (V30x0x19 N w1 w2) := by
 unfold V30x0x19 F30x0x19
 repeat' (first | rfl | apply cond_k | (apply bnd_k; intro _))
def sh30x0x19 : Sh := { tmps := [(0, .c (.s)), (4, .c (.i .u8)), (5, .c (.b)), (7, .c (.i .i64)), (8, .c (.i .i64))], mem := [] }
def K30x0x19w0 (L : List Lf) (p : Bool) : Ex × St := (.normal, mg (ofSh sh30x0x19 L) [8, 7, 0, 46] [(46, .c (.b p))] [] [])
def A30x0x19 (L : List Lf) : List (Bool × (Ex × St)) := bnd (F30x0x19 N (li L 1) (lb L 2) (fun p => p)) fun q => [(true, K30x0x19w0 L q)]
theorem raw30x0x19 (L : List Lf) : pc Tryz.prog (T56x0 N) (h30x0s0 N).h 0 100 30 19 sh30x0x19 L [8, 7, 0, 46] [] = F30x0x19 N (li L 1) (lb L 2) (fun p => some (K30x0x19w0 L p)) := by kernel_rfl
def h30x0s1 : Sg Tryz.prog 0 30 :=
 (h30x0s0 N).cut (A30x0x19 N) progOk (T56x0_ok N) fun L x hx => (raw30x0x19 N L).trans ((tot30x0x19 N ..).trans (alt0 _ _ hx))
def S30x0x6 (w0 : LB) (w1 : Int) (w2 : Int) (kr : Int → Option R) (k0 : Unit → Option R) (k1 : Unit → Option R) : Option R :=
 bif (decide (w2 < w1)) then
  bif (inB w2 w0.length) then
   bnd (bif (decide (((w0.getD w2.toNat 0).toNat : Int) ≥ 97)) then (decide (((w0.getD w2.toNat 0).toNat : Int) ≤ 122)) else false) fun y0 =>
   bnd (bif y0 then true else (bif (decide (((w0.getD w2.toNat 0).toNat : Int) ≥ 65)) then (decide (((w0.getD w2.toNat 0).toNat : Int) ≤ 90)) else false)) fun y1 =>
   bnd (V30x0x19 N ((w0.getD w2.toNat 0).toNat : Int) y1) fun y2 =>
   bif y2 then
    k0 ()
   else
    kr (IntKind.wrap .i64 (w2 + 1))
  else
   none
 else
  k1 ()
def L30x0x6 (N : Nat) {R : Type} (w0 : LB) (w1 : Int) : Nat → Int → (Unit → Option R) → (Unit → Option R) → Option R
 | 0, _, _, _ => none
 | m + 1, w2, k0, k1 => S30x0x6 N w0 w1 w2 (fun w2 => L30x0x6 N w0 w1 m w2 k0 k1) k0 k1
def G30x0x6 (w0 : LB) (w1 : Int) (w2 : Int) : Option (Sum (Unit) (Unit)) := L30x0x6 N (R := (Sum (Unit) (Unit))) w0 w1 N w2 (fun p => some (.inl p)) (fun p => some (.inr p))
def J30x0x6 (L x : List Lf) (kr : List Lf → Option R) (k0 : Unit → Option R) (k1 : Unit → Option R) : Option R := S30x0x6 N (ls L 0) (li L 1) (li x 0) (fun w2 => kr [.i w2]) k0 k1
theorem sb30x0x6 (L x : List Lf) (kr : List Lf → Option R) (k0 : Unit → Option R) (k1 : Unit → Option R) : J30x0x6 N L x kr k0 k1 = (J30x0x6 N L x (fun y => some (.inl y)) (fun p => some (.inr (.inl p))) (fun p => some (.inr (.inr p)))).bind (sumE kr (sumE k0 k1)) := by
 unfold J30x0x6 S30x0x6
 repeat' (first | with_reducible apply cond_b | (with_reducible apply bnd_b; intro _) | rfl)
def Q30x0x6 (L : List Lf) (m : Nat) (x : List Lf) : Option (Sum (Unit) (Unit)) := L30x0x6 N (R := (Sum (Unit) (Unit))) (ls L 0) (li L 1) m (li x 0) (fun p => some (.inl p)) (fun p => some (.inr p))
def sh30x0x6 : Sh := { tmps := [(0, .c (.s)), (7, .c (.i .i64)), (8, .c (.i .i64))], mem := [] }
def A30x0x6 (L : List Lf) : List (Bool × (Ex × St)) := bnd (Q30x0x6 N L N (pk sh30x0x6 [2] L)) fun q => [((inlB q), (.ret, ⟨[(2, .c (.b false))], []⟩)), ((inrQ q).isSome, ((.exit 0), ⟨[(0, .c (.s (ls L 0)))], []⟩))]
theorem step30x0x6 (m : Nat) (kn : St → Option (Ex × St)) (L x : List Lf) : lpB Tryz.prog (T56x0 N) (h30x0s1 N).h 0 30 6 sh30x0x6 [2] [2, 0] [] (m + 100) kn L x = J30x0x6 N L x (fun y => kn (ofSh sh30x0x6 (mx sh30x0x6 [2] L y))) (fun _ => some (.ret, ⟨[(2, .c (.b false))], []⟩)) (fun _ => some ((.exit 0), ⟨[(0, .c (.s (ls L 0)))], []⟩)) := by kernel_rfl
theorem ql30x0x6 (L : List Lf) (m : Nat) (x : List Lf) : Q30x0x6 N L (m + 1) x = J30x0x6 N L x (Q30x0x6 N L m) (fun p => some (.inl p)) (fun p => some (.inr p)) := by kernel_rfl
def h30x0s2 : Sg Tryz.prog 0 30 :=
 (h30x0s1 N).lp (A30x0x6 N) N progOk (T56x0_ok N) (fun m kn L x => (step30x0x6 N m kn L x).trans (sb30x0x6 N L x _ _ _)) (fun L m x => (ql30x0x6 N L m x).trans (sb30x0x6 N L x (Q30x0x6 N L m) (fun p => some (.inl p)) (fun p => some (.inr p)))) fun L x hx => (altS alt1) x hx
def F30x0 (v0 : LB) (k0 : Bool → Option R) : Option R :=
 bnd (G30x0x6 N v0 (v0.length : Int) 0) fun y0 =>
 bif (inlB y0) then
  k0 false
 else
  bif (inrQ y0).isSome then
   bnd (bif (decide ((v0.length : Int) ≥ 1)) then (decide ((v0.length : Int) ≤ 60)) else false) fun y1 =>
   k0 y1
  else
   none
def G30x0 (v0 : LB) : Option (Bool) := F30x0 N v0 (fun p => some p)
theorem bind30x0 (v0 : LB) (k0 : Bool → Option R) : F30x0 N v0 k0 = (G30x0 N v0).bind k0 := by
 unfold G30x0 F30x0
 repeat' (first | with_reducible apply cond_b | (with_reducible apply bnd_b; intro _) | rfl)
def sh30x0 : Sh := { tmps := [(0, .c (.s))], mem := [] }
def A30x0 (L : List Lf) : List (Bool × Res) := bnd (F30x0 N (ls L 0) (fun p => some p)) fun q => [(q.isSome, ([.c (.b (q.getD default))], []))]
theorem raw30x0 (L : List Lf) : bd Tryz.prog (T56x0 N) (h30x0s2 N).h 30 sh30x0 L = F30x0 N (ls L 0) (fun p => some ([.c (.b p)], [])) := by kernel_rfl
theorem ok30x0 : FnOk Tryz.prog 30 sh30x0 (A30x0 N) :=
 (h30x0s2 N).fn progOk (T56x0_ok N) fun L x hx => ((raw30x0 N L).trans ((bind30x0 N ..).trans (alt1 x hx)))
def T30x0 : Oracle := ext 30 (spSh sh30x0 (A30x0 N)) (T56x0 N)
theorem T30x0_ok : OracleOk Tryz.prog (T30x0 N) := FnOk.to (ok30x0 N) (T56x0_ok N)
def rg48x0 : List (Nat × List Nat) := [(0, [0, 1, 2]), (1, [0, 1, 2])]
def hd48x0 : Hints := []
def h48x0s0 (N : Nat) : Sg Tryz.prog 0 48 := .start hd48x0 rg48x0
def F48x0 (N : Nat) (v0 v1 v2 : Int) (k0 : Bool → R) : R :=
 k0 (bif (decide (v0 ≥ v1)) then (decide (v0 ≤ v2)) else false)
def V48x0 (v0 v1 v2 : Int) : Bool := F48x0 N v0 v1 v2 (fun p => p)
theorem tot48x0 (v0 v1 v2 : Int) (k0 : Bool → R) : F48x0 N v0 v1 v2 k0 = k0 (V48x0 N v0 v1 v2) := by
 unfold V48x0 F48x0
 repeat' (first | rfl | apply cond_k | (apply bnd_k; intro _))
def sh48x0 : Sh := { tmps := [(0, .c (.i .i64)), (1, .c (.i .i64)), (2, .c (.i .i64))], mem := [] }
def A48x0 (L : List Lf) : List (Bool × Res) := bnd (F48x0 N (li L 0) (li L 1) (li L 2) (fun p => p)) fun q => [(true, ([.c (.b q)], []))]
theorem raw48x0 (L : List Lf) : bd Tryz.prog (T30x0 N) (h48x0s0 N).h 48 sh48x0 L = F48x0 N (li L 0) (li L 1) (li L 2) (fun p => some ([.c (.b p)], [])) := by kernel_rfl
theorem ok48x0 : FnOk Tryz.prog 48 sh48x0 (A48x0 N) :=
 (h48x0s0 N).fn progOk (T30x0_ok N) fun L x hx => ((raw48x0 N L).trans ((tot48x0 N ..).trans (alt0 _ _ hx)))
def T48x0 : Oracle := ext 48 (spSh sh48x0 (A48x0 N)) (T30x0 N)
theorem T48x0_ok : OracleOk Tryz.prog (T48x0 N) := FnOk.to (ok48x0 N) (T30x0_ok N)
def rg82x0 : List (Nat × List Nat) := [(0, [0]), (1, [0])]
def hd82x0 : Hints := []
def h82x0s0 (N : Nat) : Sg Tryz.prog 0 82 := .start hd82x0 rg82x0
def F82x0 (N : Nat) (v0 : Int) (k0 : Int → Option R) : Option R :=
 bif (inB v0 5) then
  bnd (bif (Nat.beq v0.toNat 0) then 0 else (bif (Nat.beq v0.toNat 1) then 3000 else (bif (Nat.beq v0.toNat 2) then 300 else (bif (Nat.beq v0.toNat 3) then 300 else 36000)))) fun y0 =>
  k0 y0
 else
  none
def G82x0 (v0 : Int) : Option (Int) := F82x0 N v0 (fun p => some p)
theorem bind82x0 (v0 : Int) (k0 : Int → Option R) : F82x0 N v0 k0 = (G82x0 N v0).bind k0 := by
 unfold G82x0 F82x0
 repeat' (first | with_reducible apply cond_b | (with_reducible apply bnd_b; intro _) | rfl)
def sh82x0 : Sh := { tmps := [(0, .c (.i .i64))], mem := [] }
def A82x0 (L : List Lf) : List (Bool × Res) := bnd (F82x0 N (li L 0) (fun p => some p)) fun q => [(q.isSome, ([.c (.i .i64 (q.getD default))], []))]
theorem raw82x0 (L : List Lf) : bd Tryz.prog (T48x0 N) (h82x0s0 N).h 82 sh82x0 L = F82x0 N (li L 0) (fun p => some ([.c (.i .i64 p)], [])) := by kernel_rfl
theorem ok82x0 : FnOk Tryz.prog 82 sh82x0 (A82x0 N) :=
 (h82x0s0 N).fn progOk (T48x0_ok N) fun L x hx => ((raw82x0 N L).trans ((bind82x0 N ..).trans (alt1 x hx)))
def T82x0 : Oracle := ext 82 (spSh sh82x0 (A82x0 N)) (T48x0 N)
theorem T82x0_ok : OracleOk Tryz.prog (T82x0 N) := FnOk.to (ok82x0 N) (T48x0_ok N)
def rg57x0 : List (Nat × List Nat) := [(0, [0]), (1, [1]), (3, [1]), (4, [1]), (6, [1]), (7, []), (5, []), (2, []), (8, [1]), (9, [3, 1]), (11, [3, 1]), (12, [3, 1]), (14, [3, 1]), (15, []), (13, []), (10, []), (16, [3, 1]), (17, [3, 1, 4]), (18, [3, 1]), (19, [3, 4, 1]), (21, [3, 1]), (22, []), (20, []), (23, [])]
def hd57x0 : Hints := [(12002, [1, 10], [1], []), (19, [1], [1], []), (36002, [1, 3, 45], [1, 3], []), (56, [1, 3, 4, 74], [1, 3], []), (58, [1, 3, 4], [1, 3], [])]
def h57x0s0 (N : Nat) : Sg Tryz.prog 0 57 := .start hd57x0 rg57x0
def F57x0x12002 (N : Nat) (w0 : Bool) (w3 w4 : Int) (k0 : Bool → R) : R :=
 bif w0 then
  k0 true
 else
  k0 ((w3 == 0) == (w4 == 0))
def V57x0x12002 (w0 : Bool) (w3 w4 : Int) : Bool := F57x0x12002 N w0 w3 w4 (fun p => p)
theorem tot57x0x12002 (w0 : Bool) (w3 w4 : Int) (k0 : Bool → R) : F57x0x12002 N w0 w3 w4 k0 = k0 (V57x0x12002 N w0 w3 w4) := by
 unfold V57x0x12002 F57x0x12002
 repeat' (first | rfl | apply cond_k | (apply bnd_k; intro _))
def sh57x0x12002 : Sh := { tmps := [(1, .c (.p 1 0)), (10, .c (.b))], mem := [(1, .box (.i .i64 :: .s :: .i .i64 :: .i .i64 :: .i .i64 :: [.b, .i .i64, .i .i64, .i .i64, .sl 64]))] }
def K57x0x12002w0 (L : List Lf) (p : Bool) : Ex × St := (.normal, mg (ofSh sh57x0x12002 L) [1, 10] [(10, .c (.b p))] [1] [])
def A57x0x12002 (L : List Lf) : List (Bool × (Ex × St)) := bnd (F57x0x12002 N (lb L 0) (li L 3) (li L 4) (fun p => p)) fun q => [(true, K57x0x12002w0 L q)]
theorem raw57x0x12002 (L : List Lf) : pc Tryz.prog (T82x0 N) (h57x0s0 N).h 0 100 57 12002 sh57x0x12002 L [1, 10] [1] = F57x0x12002 N (lb L 0) (li L 3) (li L 4) (fun p => some (K57x0x12002w0 L p)) := by kernel_rfl
def h57x0s1 : Sg Tryz.prog 0 57 :=
 (h57x0s0 N).cut (A57x0x12002 N) progOk (T82x0_ok N) fun L x hx => (raw57x0x12002 N L).trans ((tot57x0x12002 N ..).trans (alt0 _ _ hx))
def F57x0x19 (w2 w3 : Int) (k0 : Bool → R) : R :=
 bnd (V48x0 N w2 0 3599999) fun y0 =>
 bif (!y0) then
  k0 true
 else
  bnd (V48x0 N w3 0 1000000000) fun y1 =>
  k0 (!y1)
def V57x0x19 (w2 w3 : Int) : Bool := F57x0x19 N w2 w3 (fun p => p)
theorem tot57x0x19 (w2 w3 : Int) (k0 : Bool → R) : F57x0x19 N w2 w3 k0 = k0 (V57x0x19 N w2 w3) := by
 unfold V57x0x19 F57x0x19
 repeat' (first | rfl | apply cond_k | (apply bnd_k; intro _))
def sh57x0x19 : Sh := { tmps := [(1, .c (.p 1 0))], mem := [(1, .box (.i .i64 :: .s :: .i .i64 :: .i .i64 :: .i .i64 :: [.b, .i .i64, .i .i64, .i .i64, .sl 64]))] }
def K57x0x19w0 (L : List Lf) (p : Bool) : Ex × St := (.normal, mg (ofSh sh57x0x19 L) [1, 27] [(27, .c (.b p))] [1] [])
def A57x0x19 (L : List Lf) : List (Bool × (Ex × St)) := bnd (F57x0x19 N (li L 2) (li L 3) (fun p => p)) fun q => [(true, K57x0x19w0 L q)]
theorem raw57x0x19 (L : List Lf) : pc Tryz.prog (T82x0 N) (h57x0s1 N).h 0 100 57 19 sh57x0x19 L [1, 27] [1] = F57x0x19 N (li L 2) (li L 3) (fun p => some (K57x0x19w0 L p)) := by kernel_rfl
def h57x0s2 : Sg Tryz.prog 0 57 :=
 (h57x0s1 N).cut (A57x0x19 N) progOk (T82x0_ok N) fun L x hx => (raw57x0x19 N L).trans ((tot57x0x19 N ..).trans (alt0 _ _ hx))
def F57x0x36002 (N : Nat) (w0 : Bool) (w12 : Int) (w13 : Bool) (k0 : Bool → R) : R :=
 bif w0 then
  k0 true
 else
  k0 (bif w13 then (w12 == 3) else false)
def V57x0x36002 (w0 : Bool) (w12 : Int) (w13 : Bool) : Bool := F57x0x36002 N w0 w12 w13 (fun p => p)
theorem tot57x0x36002 (w0 : Bool) (w12 : Int) (w13 : Bool) (k0 : Bool → R) : F57x0x36002 N w0 w12 w13 k0 = k0 (V57x0x36002 N w0 w12 w13) := by
 unfold V57x0x36002 F57x0x36002
 repeat' (first | rfl | apply cond_k | (apply bnd_k; intro _))
def sh57x0x36002 : Sh := { tmps := [(1, .c (.p 1 0)), (3, .c (.p 3 0)), (45, .c (.b))], mem := [(1, .box (.i .i64 :: .s :: .i .i64 :: .i .i64 :: .i .i64 :: [.b, .i .i64, .i .i64, .i .i64, .sl 64])), (3, .box ([.i .i64, .b, .i .i64, .i .i64]))] }
def K57x0x36002w0 (L : List Lf) (p : Bool) : Ex × St := (.normal, mg (ofSh sh57x0x36002 L) [3, 1, 45] [(45, .c (.b p))] [3, 1] [])
def A57x0x36002 (L : List Lf) : List (Bool × (Ex × St)) := bnd (F57x0x36002 N (lb L 0) (li L 12) (lb L 13) (fun p => p)) fun q => [(true, K57x0x36002w0 L q)]
theorem raw57x0x36002 (L : List Lf) : pc Tryz.prog (T82x0 N) (h57x0s2 N).h 0 100 57 36002 sh57x0x36002 L [3, 1, 45] [3, 1] = F57x0x36002 N (lb L 0) (li L 12) (lb L 13) (fun p => some (K57x0x36002w0 L p)) := by kernel_rfl
def h57x0s3 : Sg Tryz.prog 0 57 :=
 (h57x0s2 N).cut (A57x0x36002 N) progOk (T82x0_ok N) fun L x hx => (raw57x0x36002 N L).trans ((tot57x0x36002 N ..).trans (alt0 _ _ hx))
def F57x0x56 (N : Nat) (w0 : Int) (w1 : Bool) (k0 : Int → R) : R :=
 bif w1 then
  k0 300
 else
  k0 w0
def V57x0x56 (w0 : Int) (w1 : Bool) : Int := F57x0x56 N w0 w1 (fun p => p)
theorem tot57x0x56 (w0 : Int) (w1 : Bool) (k0 : Int → R) : F57x0x56 N w0 w1 k0 = k0 (V57x0x56 N w0 w1) := by
 unfold V57x0x56 F57x0x56
 repeat' (first | rfl | apply cond_k | (apply bnd_k; intro _))
def sh57x0x56 : Sh := { tmps := [(1, .c (.p 1 0)), (3, .c (.p 3 0)), (4, .c (.i .i64)), (74, .c (.b))], mem := [(1, .box (.i .i64 :: .s :: .i .i64 :: .i .i64 :: .i .i64 :: [.b, .i .i64, .i .i64, .i .i64, .sl 64])), (3, .box ([.i .i64, .b, .i .i64, .i .i64]))] }
def K57x0x56w0 (L : List Lf) (p : Int) : Ex × St := (.normal, mg (ofSh sh57x0x56 L) [3, 4, 1] [(4, .c (.i .i64 p))] [3, 1] [])
def A57x0x56 (L : List Lf) : List (Bool × (Ex × St)) := bnd (F57x0x56 N (li L 0) (lb L 1) (fun p => p)) fun q => [(true, K57x0x56w0 L q)]
theorem raw57x0x56 (L : List Lf) : pc Tryz.prog (T82x0 N) (h57x0s3 N).h 0 100 57 56 sh57x0x56 L [3, 4, 1] [3, 1] = F57x0x56 N (li L 0) (lb L 1) (fun p => some (K57x0x56w0 L p)) := by kernel_rfl
def h57x0s4 : Sg Tryz.prog 0 57 :=
 (h57x0s3 N).cut (A57x0x56 N) progOk (T82x0_ok N) fun L x hx => (raw57x0x56 N L).trans ((tot57x0x56 N ..).trans (alt0 _ _ hx))
def F57x0x58 (w0 w14 w15 : Int) (k0 : Bool → R) : R :=
 bnd (V48x0 N w14 1 w0) fun y0 =>
 bif (!y0) then
  k0 true
 else
  bnd (V48x0 N w15 1 w0) fun y1 =>
  k0 (!y1)
def V57x0x58 (w0 w14 w15 : Int) : Bool := F57x0x58 N w0 w14 w15 (fun p => p)
theorem tot57x0x58 (w0 w14 w15 : Int) (k0 : Bool → R) : F57x0x58 N w0 w14 w15 k0 = k0 (V57x0x58 N w0 w14 w15) := by
 unfold V57x0x58 F57x0x58
 repeat' (first | rfl | apply cond_k | (apply bnd_k; intro _))
def sh57x0x58 : Sh := { tmps := [(1, .c (.p 1 0)), (3, .c (.p 3 0)), (4, .c (.i .i64))], mem := [(1, .box (.i .i64 :: .s :: .i .i64 :: .i .i64 :: .i .i64 :: [.b, .i .i64, .i .i64, .i .i64, .sl 64])), (3, .box ([.i .i64, .b, .i .i64, .i .i64]))] }
def K57x0x58w0 (L : List Lf) (p : Bool) : Ex × St := (.normal, mg (ofSh sh57x0x58 L) [3, 1, 75] [(75, .c (.b p))] [3, 1] [])
def A57x0x58 (L : List Lf) : List (Bool × (Ex × St)) := bnd (F57x0x58 N (li L 0) (li L 14) (li L 15) (fun p => p)) fun q => [(true, K57x0x58w0 L q)]
theorem raw57x0x58 (L : List Lf) : pc Tryz.prog (T82x0 N) (h57x0s4 N).h 0 100 57 58 sh57x0x58 L [3, 1, 75] [3, 1] = F57x0x58 N (li L 0) (li L 14) (li L 15) (fun p => some (K57x0x58w0 L p)) := by kernel_rfl
def h57x0s5 : Sg Tryz.prog 0 57 :=
 (h57x0s4 N).cut (A57x0x58 N) progOk (T82x0_ok N) fun L x hx => (raw57x0x58 N L).trans ((tot57x0x58 N ..).trans (alt0 _ _ hx))
def F57x0 (v0 : Int) (v1 : LB) (v2 v3 v4 : Int) (v5 : Bool) (v6 v7 v8 : Int) (v10 : LD) (k0 : Int → Option R) : Option R :=
 bnd (G30x0 N v1) fun y0 =>
 bif y0.isSome then
  bif (!(y0.getD default)) then
   k0 8
  else
   bnd (bif (v8 != 0) then true else (decide ((v10.length : Int) > 0))) fun y1 =>
   bnd (V57x0x12002 N y1 v2 v3) fun y2 =>
   bif y2 then
    k0 2
   else
    bnd (V57x0x19 N v2 v3) fun y3 =>
    bif y3 then
     k0 9
    else
     bnd (V48x0 N v4 0 4) fun y4 =>
     bif (!y4) then
      k0 7
     else
      bnd (bif (v4 == 0) then (bif (!((v4 == 0) && ((v5 == false) && ((v6 == 0) && ((v7 == 0) && true))))) then true else (v0 == 2)) else false) fun y5 =>
      bnd (V57x0x36002 N y5 v4 v5) fun y6 =>
      bif y6 then
       k0 2
      else
       bif (v4 == 0) then
        k0 0
       else
        bnd (G82x0 N v4) fun y7 =>
        bif y7.isSome then
         bnd (V57x0x56 N (y7.getD default) v5) fun y8 =>
         bnd (V57x0x58 N y8 v6 v7) fun y9 =>
         bif y9 then
          k0 9
         else
          bif (bif (decide (v6 > v7)) then (v0 == 1) else false) then
           k0 10
          else
           k0 0
        else
         none
 else
  none
def G57x0 (v0 : Int) (v1 : LB) (v2 v3 v4 : Int) (v5 : Bool) (v6 v7 v8 : Int) (v10 : LD) : Option (Int) := F57x0 N v0 v1 v2 v3 v4 v5 v6 v7 v8 v10 (fun p => some p)
theorem bind57x0 (v0 : Int) (v1 : LB) (v2 v3 v4 : Int) (v5 : Bool) (v6 v7 v8 : Int) (v10 : LD) (k0 : Int → Option R) : F57x0 N v0 v1 v2 v3 v4 v5 v6 v7 v8 v10 k0 = (G57x0 N v0 v1 v2 v3 v4 v5 v6 v7 v8 v10).bind k0 := by
 unfold G57x0 F57x0
 repeat' (first | with_reducible apply cond_b | (with_reducible apply bnd_b; intro _) | rfl)
def J57x0 (L : List Lf) (k0 : Int → Option R) : Option R := F57x0 N (li L 0) (ls L 1) (li L 2) (li L 3) (li L 4) (lb L 5) (li L 6) (li L 7) (li L 8) (ll L 10) k0
def sh57x0 : Sh := { tmps := [(0, .g (.i .i64 :: .s :: .i .i64 :: .i .i64 :: .i .i64 :: [.b, .i .i64, .i .i64, .i .i64, .sl 64]))], mem := [] }
def A57x0 (L : List Lf) : List (Bool × Res) := bnd (J57x0 N L (fun p => some p)) fun q => [(q.isSome, ([.c (.i .i64 (q.getD default))], []))]
theorem raw57x0 (L : List Lf) : bd Tryz.prog (T82x0 N) (h57x0s5 N).h 57 sh57x0 L = J57x0 N L (fun p => some ([.c (.i .i64 p)], [])) := by kernel_rfl
theorem ok57x0 : FnOk Tryz.prog 57 sh57x0 (A57x0 N) :=
 (h57x0s5 N).fn progOk (T82x0_ok N) fun L x hx => ((raw57x0 N L).trans ((bind57x0 N ..).trans (alt1 x hx)))
def T57x0 : Oracle := ext 57 (spSh sh57x0 (A57x0 N)) (T82x0 N)
theorem T57x0_ok : OracleOk Tryz.prog (T57x0 N) := FnOk.to (ok57x0 N) (T82x0_ok N)
def rg58x0 : List (Nat × List Nat) := [(0, [0]), (1, [1]), (3, [1]), (5, [1]), (6, []), (4, []), (2, []), (7, [])]
def hd58x0 : Hints := []
def h58x0s0 (N : Nat) : Sg Tryz.prog 0 58 := .start hd58x0 rg58x0
def F58x0 (v1 : LB) (v2 v3 v4 : Int) (v5 : Bool) (v6 v7 v8 : Int) (v10 : LD) (k0 : Int → R) : R :=
 bnd (bif (bif (!(v1 == ([] : List UInt8))) then true else (v2 != 0)) then true else (v3 != 0)) fun y0 =>
 bnd (bif y0 then true else (!((v4 == 0) && ((v5 == false) && ((v6 == 0) && ((v7 == 0) && true)))))) fun y1 =>
 bif y1 then
  k0 2
 else
  bnd (V48x0 N v8 1 99) fun y2 =>
  bif (!y2) then
   k0 9
  else
   bif ((v10.length : Int) == 0) then
    k0 13
   else
    k0 0
def V58x0 (v1 : LB) (v2 v3 v4 : Int) (v5 : Bool) (v6 v7 v8 : Int) (v10 : LD) : Int := F58x0 N v1 v2 v3 v4 v5 v6 v7 v8 v10 (fun p => p)
theorem tot58x0 (v1 : LB) (v2 v3 v4 : Int) (v5 : Bool) (v6 v7 v8 : Int) (v10 : LD) (k0 : Int → R) : F58x0 N v1 v2 v3 v4 v5 v6 v7 v8 v10 k0 = k0 (V58x0 N v1 v2 v3 v4 v5 v6 v7 v8 v10) := by
 unfold V58x0 F58x0
 repeat' (first | rfl | apply cond_k | (apply bnd_k; intro _))
def J58x0 (L : List Lf) (k0 : Int → R) : R := F58x0 N (ls L 1) (li L 2) (li L 3) (li L 4) (lb L 5) (li L 6) (li L 7) (li L 8) (ll L 10) k0
def sh58x0 : Sh := { tmps := [(0, .g (.i .i64 :: .s :: .i .i64 :: .i .i64 :: .i .i64 :: [.b, .i .i64, .i .i64, .i .i64, .sl 64]))], mem := [] }
def A58x0 (L : List Lf) : List (Bool × Res) := bnd (J58x0 N L (fun p => p)) fun q => [(true, ([.c (.i .i64 q)], []))]
theorem raw58x0 (L : List Lf) : bd Tryz.prog (T57x0 N) (h58x0s0 N).h 58 sh58x0 L = J58x0 N L (fun p => some ([.c (.i .i64 p)], [])) := by kernel_rfl
theorem ok58x0 : FnOk Tryz.prog 58 sh58x0 (A58x0 N) :=
 (h58x0s0 N).fn progOk (T57x0_ok N) fun L x hx => ((raw58x0 N L).trans ((tot58x0 N ..).trans (alt0 _ _ hx)))
def T58x0 : Oracle := ext 58 (spSh sh58x0 (A58x0 N)) (T57x0 N)
theorem T58x0_ok : OracleOk Tryz.prog (T58x0 N) := FnOk.to (ok58x0 N) (T57x0_ok N)
abbrev Rc31x1 : Type := Bool → LD → Int → Int → Option (Int × Int)
def sh31x1 : Sh := { tmps := [(0, .c (.sl 64)), (1, .c (.i .i64)), (2, .c (.p 0 0))], mem := [(0, .box ([.i .i64]))] }
def B31x1 (N : Nat) (rc : Rc31x1) (L : List Lf) : List (Bool × Res) := bnd (rc (lb L 0) (ll L 1) (li L 2) (li L 3)) fun q => [(q.isSome, ([.c (.i .i64 (q.getD default).1)], [(0, .box [.i .i64 (q.getD default).2])]))]
def O31x1 (rc : Rc31x1) : Oracle := ext 31 (spSh sh31x1 ((B31x1 N) rc)) (T58x0 N)
def rg31x1 : List (Nat × List Nat) := [(0, [0, 2, 1]), (1, [0, 2, 1]), (2, [12, 11, 10, 2, 1]), (3, [10, 12, 2, 1, 11]), (4, [2, 1, 8, 12, 11, 10]), (5, [2, 1, 8, 12, 11, 10]), (6, []), (7, [8, 12, 11, 10, 2, 1]), (8, [8, 12, 11, 10, 2, 1]), (10, [30, 8, 12, 11, 10, 2, 1]), (11, [30, 8, 12, 11, 10, 2, 1]), (13, [30, 8, 1, 2, 12, 11, 10]), (9, [12, 11, 10, 2, 1]), (14, [8, 1, 2, 12, 11, 10]), (15, [9, 8, 1, 2, 12, 11, 10]), (16, [8, 1, 2, 12, 11, 10]), (12, [8, 12, 11, 10, 2, 1]), (17, [9, 12, 11, 10, 2, 1]), (18, [9]), (19, [12, 11, 10, 2, 1]), (20, [])]
def hd31x1 : Hints := [(6, [1, 2, 10, 11, 12], [0], []), (33002, [1, 2, 8, 10, 11, 12, 30, 31], [0, 9], []), (50, [1, 2, 8, 9, 10, 11, 12, 41], [0, 9], []), (27044, [1, 2, 8, 10, 11, 12, 36], [0, 9], []), (39038, [1, 2, 8, 10, 11, 12, 30, 31], [0, 9], [])]
def h31x1s0 (rc : Rc31x1) (hR : OracleOk Tryz.prog ((O31x1 N) rc)) : Sg Tryz.prog 1 31 := .start hd31x1 rg31x1
def F31x1x33002 (N : Nat) (rc : Rc31x1) (w5 : Int) (w6 : Bool) (k0 : Bool → R) : R :=
 bif w6 then
  k0 true
 else
  k0 (w5 == 2)
def V31x1x33002 (rc : Rc31x1) (w5 : Int) (w6 : Bool) : Bool := F31x1x33002 N rc w5 w6 (fun p => p)
theorem tot31x1x33002 (rc : Rc31x1) (w5 : Int) (w6 : Bool) (k0 : Bool → R) : F31x1x33002 N rc w5 w6 k0 = k0 (V31x1x33002 N rc w5 w6) := by
 unfold V31x1x33002 F31x1x33002
 repeat' (first | rfl | apply cond_k | (apply bnd_k; intro _))
def sh31x1x33002 : Sh := { tmps := [(1, .c (.i .i64)), (2, .c (.p 0 0)), (8, .c (.p 9 0)), (10, .c (.sl 64)), (11, .c (.i .i64)), (12, .c (.i .i64)), (30, .c (.i .i64)), (31, .c (.b))], mem := [(0, .box ([.i .i64])), (9, .box (.i .i64 :: .s :: .i .i64 :: .i .i64 :: .i .i64 :: [.b, .i .i64, .i .i64, .i .i64, .sl 64]))] }
def K31x1x33002w0 (L : List Lf) (p : Bool) : Ex × St := (.normal, mg (ofSh sh31x1x33002 L) [8, 12, 11, 10, 2, 1, 30, 31] [(31, .c (.b p))] [9, 0] [])
def A31x1x33002 (rc : Rc31x1) (L : List Lf) : List (Bool × (Ex × St)) := bnd (F31x1x33002 N rc (li L 5) (lb L 6) (fun p => p)) fun q => [(true, K31x1x33002w0 L q)]
theorem raw31x1x33002 (rc : Rc31x1) (hR : OracleOk Tryz.prog ((O31x1 N) rc)) (L : List Lf) : pc Tryz.prog ((O31x1 N) rc) ((h31x1s0 N) rc hR).h 1 100 31 33002 sh31x1x33002 L [8, 12, 11, 10, 2, 1, 30, 31] [9, 0] = F31x1x33002 N rc (li L 5) (lb L 6) (fun p => some (K31x1x33002w0 L p)) := by kernel_rfl
def h31x1s1 (rc : Rc31x1) (hR : OracleOk Tryz.prog ((O31x1 N) rc)) : Sg Tryz.prog 1 31 :=
 ((h31x1s0 N) rc hR).cut ((A31x1x33002 N) rc) progOk hR fun L x hx => (raw31x1x33002 N rc hR L).trans ((tot31x1x33002 N rc ..).trans (alt0 _ _ hx))
def F31x1x50 (N : Nat) (rc : Rc31x1) (w0 w1 : Int) (w6 : Bool) (w7 : Int) (w17 : Bool) (w18 : LD) (k0 : Int × Int → Option R) : Option R :=
 bif w6 then
  bnd (rc w17 w18 (IntKind.wrap .i64 (w0 + 1)) w7) fun y0 =>
  bif y0.isSome then
   k0 (y0.getD default)
  else
   none
 else
  k0 (w1, w7)
def G31x1x50 (rc : Rc31x1) (w0 w1 : Int) (w6 : Bool) (w7 : Int) (w17 : Bool) (w18 : LD) : Option (Int × Int) := F31x1x50 N rc w0 w1 w6 w7 w17 w18 (fun p => some p)
theorem bind31x1x50 (rc : Rc31x1) (w0 w1 : Int) (w6 : Bool) (w7 : Int) (w17 : Bool) (w18 : LD) (k0 : Int × Int → Option R) : F31x1x50 N rc w0 w1 w6 w7 w17 w18 k0 = (G31x1x50 N rc w0 w1 w6 w7 w17 w18).bind k0 := by
 unfold G31x1x50 F31x1x50
 repeat' (first | with_reducible apply cond_b | (with_reducible apply bnd_b; intro _) | rfl)
def J31x1x50 (rc : Rc31x1) (L : List Lf) (k0 : Int × Int → Option R) : Option R := F31x1x50 N rc (li L 0) (li L 1) (lb L 6) (li L 7) (lb L 17) (ll L 18) k0
def sh31x1x50 : Sh := { tmps := [(1, .c (.i .i64)), (2, .c (.p 0 0)), (8, .c (.p 9 0)), (9, .c (.i .i64)), (10, .c (.sl 64)), (11, .c (.i .i64)), (12, .c (.i .i64)), (41, .c (.b))], mem := [(0, .box ([.i .i64])), (9, .box (.i .i64 :: .s :: .i .i64 :: .i .i64 :: .i .i64 :: [.b, .i .i64, .i .i64, .i .i64, .sl 64]))] }
def K31x1x50w0 (L : List Lf) (p : Int × Int) : Ex × St := (.normal, mg (ofSh sh31x1x50 L) [9, 12, 11, 10, 2, 1] [(9, .c (.i .i64 p.1))] [0] [(0, .box [.i .i64 p.2])])
def A31x1x50 (rc : Rc31x1) (L : List Lf) : List (Bool × (Ex × St)) := bnd (J31x1x50 N rc L (fun p => some p)) fun q => [(q.isSome, K31x1x50w0 L (q.getD default))]
theorem raw31x1x50 (rc : Rc31x1) (hR : OracleOk Tryz.prog ((O31x1 N) rc)) (L : List Lf) : pc Tryz.prog ((O31x1 N) rc) ((h31x1s1 N) rc hR).h 1 100 31 50 sh31x1x50 L [9, 12, 11, 10, 2, 1] [0] = J31x1x50 N rc L (fun p => some (K31x1x50w0 L p)) := by kernel_rfl
def h31x1s2 (rc : Rc31x1) (hR : OracleOk Tryz.prog ((O31x1 N) rc)) : Sg Tryz.prog 1 31 :=
 ((h31x1s1 N) rc hR).cut ((A31x1x50 N) rc) progOk hR fun L x hx => (raw31x1x50 N rc hR L).trans ((bind31x1x50 N rc ..).trans (alt1 x hx))
def F31x1x27044 (rc : Rc31x1) (w0 : Int) (w5 : Bool) (w6 : Int) (w8 : LB) (w9 w10 w11 : Int) (w12 : Bool) (w13 w14 w15 : Int) (w16 : Bool) (w17 : LD) (k0 : Int × Int → Option R) : Option R :=
 bif w5 then
  bnd (V58x0 N w8 w9 w10 w11 w12 w13 w14 w15 w17) fun y0 =>
  bnd (G31x1x50 N rc w0 y0 (y0 == 0) w6 w16 w17) fun y1 =>
  bif y1.isSome then
   k0 (y1.getD default)
  else
   none
 else
  k0 (7, w6)
def G31x1x27044 (rc : Rc31x1) (w0 : Int) (w5 : Bool) (w6 : Int) (w8 : LB) (w9 w10 w11 : Int) (w12 : Bool) (w13 w14 w15 : Int) (w16 : Bool) (w17 : LD) : Option (Int × Int) := F31x1x27044 N rc w0 w5 w6 w8 w9 w10 w11 w12 w13 w14 w15 w16 w17 (fun p => some p)
theorem bind31x1x27044 (rc : Rc31x1) (w0 : Int) (w5 : Bool) (w6 : Int) (w8 : LB) (w9 w10 w11 : Int) (w12 : Bool) (w13 w14 w15 : Int) (w16 : Bool) (w17 : LD) (k0 : Int × Int → Option R) : F31x1x27044 N rc w0 w5 w6 w8 w9 w10 w11 w12 w13 w14 w15 w16 w17 k0 = (G31x1x27044 N rc w0 w5 w6 w8 w9 w10 w11 w12 w13 w14 w15 w16 w17).bind k0 := by
 unfold G31x1x27044 F31x1x27044
 repeat' (first | with_reducible apply cond_b | (with_reducible apply bnd_b; intro _) | rfl)
def J31x1x27044 (rc : Rc31x1) (L : List Lf) (k0 : Int × Int → Option R) : Option R := F31x1x27044 N rc (li L 0) (lb L 5) (li L 6) (ls L 8) (li L 9) (li L 10) (li L 11) (lb L 12) (li L 13) (li L 14) (li L 15) (lb L 16) (ll L 17) k0
def sh31x1x27044 : Sh := { tmps := [(1, .c (.i .i64)), (2, .c (.p 0 0)), (8, .c (.p 9 0)), (10, .c (.sl 64)), (11, .c (.i .i64)), (12, .c (.i .i64)), (36, .c (.b))], mem := [(0, .box ([.i .i64])), (9, .box (.i .i64 :: .s :: .i .i64 :: .i .i64 :: .i .i64 :: [.b, .i .i64, .i .i64, .i .i64, .sl 64]))] }
def K31x1x27044w0 (L : List Lf) (p : Int × Int) : Ex × St := (.normal, mg (ofSh sh31x1x27044 L) [9, 12, 11, 10, 2, 1] [(9, .c (.i .i64 p.1))] [0] [(0, .box [.i .i64 p.2])])
def A31x1x27044 (rc : Rc31x1) (L : List Lf) : List (Bool × (Ex × St)) := bnd (J31x1x27044 N rc L (fun p => some p)) fun q => [(q.isSome, K31x1x27044w0 L (q.getD default))]
theorem raw31x1x27044 (rc : Rc31x1) (hR : OracleOk Tryz.prog ((O31x1 N) rc)) (L : List Lf) : pc Tryz.prog ((O31x1 N) rc) ((h31x1s2 N) rc hR).h 1 100 31 27044 sh31x1x27044 L [9, 12, 11, 10, 2, 1] [0] = J31x1x27044 N rc L (fun p => some (K31x1x27044w0 L p)) := by kernel_rfl
def h31x1s3 (rc : Rc31x1) (hR : OracleOk Tryz.prog ((O31x1 N) rc)) : Sg Tryz.prog 1 31 :=
 ((h31x1s2 N) rc hR).cut ((A31x1x27044 N) rc) progOk hR fun L x hx => (raw31x1x27044 N rc hR L).trans ((bind31x1x27044 N rc ..).trans (alt1 x hx))
def F31x1x39038 (rc : Rc31x1) (w0 w5 : Int) (w6 : Bool) (w7 w8 : Int) (w9 : LB) (w10 w11 w12 : Int) (w13 : Bool) (w14 w15 w16 : Int) (w17 : Bool) (w18 : LD) (k0 : Int × Int → Option R) : Option R :=
 bif w6 then
  bnd (G57x0 N w8 w9 w10 w11 w12 w13 w14 w15 w16 w18) fun y0 =>
  bif y0.isSome then
   k0 ((y0.getD default), w7)
  else
   none
 else
  bnd (G31x1x27044 N rc w0 (w5 == 3) w7 w9 w10 w11 w12 w13 w14 w15 w16 w17 w18) fun y1 =>
  bif y1.isSome then
   k0 (y1.getD default)
  else
   none
def G31x1x39038 (rc : Rc31x1) (w0 w5 : Int) (w6 : Bool) (w7 w8 : Int) (w9 : LB) (w10 w11 w12 : Int) (w13 : Bool) (w14 w15 w16 : Int) (w17 : Bool) (w18 : LD) : Option (Int × Int) := F31x1x39038 N rc w0 w5 w6 w7 w8 w9 w10 w11 w12 w13 w14 w15 w16 w17 w18 (fun p => some p)
theorem bind31x1x39038 (rc : Rc31x1) (w0 w5 : Int) (w6 : Bool) (w7 w8 : Int) (w9 : LB) (w10 w11 w12 : Int) (w13 : Bool) (w14 w15 w16 : Int) (w17 : Bool) (w18 : LD) (k0 : Int × Int → Option R) : F31x1x39038 N rc w0 w5 w6 w7 w8 w9 w10 w11 w12 w13 w14 w15 w16 w17 w18 k0 = (G31x1x39038 N rc w0 w5 w6 w7 w8 w9 w10 w11 w12 w13 w14 w15 w16 w17 w18).bind k0 := by
 unfold G31x1x39038 F31x1x39038
 repeat' (first | with_reducible apply cond_b | (with_reducible apply bnd_b; intro _) | rfl)
def J31x1x39038 (rc : Rc31x1) (L : List Lf) (k0 : Int × Int → Option R) : Option R := F31x1x39038 N rc (li L 0) (li L 5) (lb L 6) (li L 7) (li L 8) (ls L 9) (li L 10) (li L 11) (li L 12) (lb L 13) (li L 14) (li L 15) (li L 16) (lb L 17) (ll L 18) k0
def sh31x1x39038 : Sh := { tmps := [(1, .c (.i .i64)), (2, .c (.p 0 0)), (8, .c (.p 9 0)), (10, .c (.sl 64)), (11, .c (.i .i64)), (12, .c (.i .i64)), (30, .c (.i .i64)), (31, .c (.b))], mem := [(0, .box ([.i .i64])), (9, .box (.i .i64 :: .s :: .i .i64 :: .i .i64 :: .i .i64 :: [.b, .i .i64, .i .i64, .i .i64, .sl 64]))] }
def K31x1x39038w0 (L : List Lf) (p : Int × Int) : Ex × St := (.normal, mg (ofSh sh31x1x39038 L) [9, 12, 11, 10, 2, 1] [(9, .c (.i .i64 p.1))] [0] [(0, .box [.i .i64 p.2])])
def A31x1x39038 (rc : Rc31x1) (L : List Lf) : List (Bool × (Ex × St)) := bnd (J31x1x39038 N rc L (fun p => some p)) fun q => [(q.isSome, K31x1x39038w0 L (q.getD default))]
theorem raw31x1x39038 (rc : Rc31x1) (hR : OracleOk Tryz.prog ((O31x1 N) rc)) (L : List Lf) : pc Tryz.prog ((O31x1 N) rc) ((h31x1s3 N) rc hR).h 1 100 31 39038 sh31x1x39038 L [9, 12, 11, 10, 2, 1] [0] = J31x1x39038 N rc L (fun p => some (K31x1x39038w0 L p)) := by kernel_rfl
def h31x1s4 (rc : Rc31x1) (hR : OracleOk Tryz.prog ((O31x1 N) rc)) : Sg Tryz.prog 1 31 :=
 ((h31x1s3 N) rc hR).cut ((A31x1x39038 N) rc) progOk hR fun L x hx => (raw31x1x39038 N rc hR L).trans ((bind31x1x39038 N rc ..).trans (alt1 x hx))
def S31x1x6 (rc : Rc31x1) (w0 : Int) (w2 : LD) (w3 : Int) (w4 w5 : Int) (kr : Int → Int → Option R) (k0 : Int × Int → Option R) (k1 : Int → Option R) : Option R :=
 bif (decide (w4 < w3)) then
  bif (inB w4 w2.length) then
   bnd (bif (decide ((IntKind.wrap .i64 (w5 + 1)) > 200)) then true else (decide (w0 > 3))) fun y0 =>
   bif y0 then
    k0 (3, (IntKind.wrap .i64 (w5 + 1)))
   else
    bnd (V31x1x33002 N rc ((w2.getD w4.toNat (.i 0)).cell 0).toI (((w2.getD w4.toNat (.i 0)).cell 0).toI == 1)) fun y1 =>
    bnd (G31x1x39038 N rc w0 ((w2.getD w4.toNat (.i 0)).cell 0).toI y1 (IntKind.wrap .i64 (w5 + 1)) ((w2.getD w4.toNat (.i 0)).cell 0).toI ((w2.getD w4.toNat (.i 0)).cell 1).toS ((w2.getD w4.toNat (.i 0)).cell 2).toI ((w2.getD w4.toNat (.i 0)).cell 3).toI ((w2.getD w4.toNat (.i 0)).cell 4).toI ((w2.getD w4.toNat (.i 0)).cell 5).toB ((w2.getD w4.toNat (.i 0)).cell 6).toI ((w2.getD w4.toNat (.i 0)).cell 7).toI ((w2.getD w4.toNat (.i 0)).cell 8).toI ((w2.getD w4.toNat (.i 0)).cell 9).isNil ((w2.getD w4.toNat (.i 0)).cell 9).items) fun y2 =>
    bif y2.isSome then
     bif ((y2.getD default).1 != 0) then
      k0 (y2.getD default)
     else
      kr (IntKind.wrap .i64 (w4 + 1)) (y2.getD default).2
    else
     none
  else
   none
 else
  k1 w5
def L31x1x6 (N : Nat) (rc : Rc31x1) {R : Type} (w0 : Int) (w2 : LD) (w3 : Int) : Nat → Int → Int → (Int × Int → Option R) → (Int → Option R) → Option R
 | 0, _, _, _, _ => none
 | m + 1, w4, w5, k0, k1 => S31x1x6 N rc w0 w2 w3 w4 w5 (fun w4 w5 => L31x1x6 N rc w0 w2 w3 m w4 w5 k0 k1) k0 k1
def G31x1x6 (rc : Rc31x1) (w0 : Int) (w2 : LD) (w3 : Int) (w4 w5 : Int) : Option (Sum (Int × Int) (Int)) := L31x1x6 N rc (R := (Sum (Int × Int) (Int))) w0 w2 w3 N w4 w5 (fun p => some (.inl p)) (fun p => some (.inr p))
def J31x1x6 (rc : Rc31x1) (L x : List Lf) (kr : List Lf → Option R) (k0 : Int × Int → Option R) (k1 : Int → Option R) : Option R := S31x1x6 N rc (li L 0) (ll L 2) (li L 3) (li x 0) (li x 1) (fun w4 w5 => kr [.i w4, .i w5]) k0 k1
theorem sb31x1x6 (rc : Rc31x1) (L x : List Lf) (kr : List Lf → Option R) (k0 : Int × Int → Option R) (k1 : Int → Option R) : J31x1x6 N rc L x kr k0 k1 = (J31x1x6 N rc L x (fun y => some (.inl y)) (fun p => some (.inr (.inl p))) (fun p => some (.inr (.inr p)))).bind (sumE kr (sumE k0 k1)) := by
 unfold J31x1x6 S31x1x6
 repeat' (first | with_reducible apply cond_b | (with_reducible apply bnd_b; intro _) | rfl)
def Q31x1x6 (rc : Rc31x1) (L : List Lf) (m : Nat) (x : List Lf) : Option (Sum (Int × Int) (Int)) := L31x1x6 N rc (R := (Sum (Int × Int) (Int))) (li L 0) (ll L 2) (li L 3) m (li x 0) (li x 1) (fun p => some (.inl p)) (fun p => some (.inr p))
def sh31x1x6 : Sh := { tmps := [(1, .c (.i .i64)), (2, .c (.p 0 0)), (10, .c (.sl 64)), (11, .c (.i .i64)), (12, .c (.i .i64))], mem := [(0, .box ([.i .i64]))] }
def A31x1x6 (rc : Rc31x1) (L : List Lf) : List (Bool × (Ex × St)) := bnd (Q31x1x6 N rc L N (pk sh31x1x6 [4, 5] L)) fun q => [((inlB q), (.ret, ⟨[(6, .c (.i .i64 (inlV q).1))], [(0, .box [.i .i64 (inlV q).2])]⟩)), ((inrQ q).isSome, ((.exit 0), ⟨[], [(0, .box [.i .i64 ((inrQ q).getD default)])]⟩))]
theorem step31x1x6 (rc : Rc31x1) (hR : OracleOk Tryz.prog ((O31x1 N) rc)) (m : Nat) (kn : St → Option (Ex × St)) (L x : List Lf) : lpB Tryz.prog ((O31x1 N) rc) ((h31x1s4 N) rc hR).h 1 31 6 sh31x1x6 [4, 5] [6] [0] (m + 100) kn L x = J31x1x6 N rc L x (fun y => kn (ofSh sh31x1x6 (mx sh31x1x6 [4, 5] L y))) (fun p => some (.ret, ⟨[(6, .c (.i .i64 p.1))], [(0, .box [.i .i64 p.2])]⟩)) (fun p => some ((.exit 0), ⟨[], [(0, .box [.i .i64 p])]⟩)) := by kernel_rfl
theorem ql31x1x6 (rc : Rc31x1) (L : List Lf) (m : Nat) (x : List Lf) : Q31x1x6 N rc L (m + 1) x = J31x1x6 N rc L x (Q31x1x6 N rc L m) (fun p => some (.inl p)) (fun p => some (.inr p)) := by kernel_rfl
def h31x1s5 (rc : Rc31x1) (hR : OracleOk Tryz.prog ((O31x1 N) rc)) : Sg Tryz.prog 1 31 :=
 ((h31x1s4 N) rc hR).lp ((A31x1x6 N) rc) N progOk hR (fun m kn L x => (step31x1x6 N rc hR m kn L x).trans (sb31x1x6 N rc L x _ _ _)) (fun L m x => (ql31x1x6 N rc L m x).trans (sb31x1x6 N rc L x (Q31x1x6 N rc L m) (fun p => some (.inl p)) (fun p => some (.inr p)))) fun L x hx => (altS alt1) x hx
def F31x1 (rc : Rc31x1) (v0 : Bool) (v1 : LD) (v2 v3 : Int) (k0 : Int × Int → Option R) : Option R :=
 bnd (G31x1x6 N rc v2 v1 (v1.length : Int) 0 v3) fun y0 =>
 bif (inlB y0) then
  k0 (inlV y0)
 else
  bif (inrQ y0).isSome then
   k0 (0, ((inrQ y0).getD default))
  else
   none
def G31x1 (rc : Rc31x1) (v0 : Bool) (v1 : LD) (v2 v3 : Int) : Option (Int × Int) := F31x1 N rc v0 v1 v2 v3 (fun p => some p)
theorem bind31x1 (rc : Rc31x1) (v0 : Bool) (v1 : LD) (v2 v3 : Int) (k0 : Int × Int → Option R) : F31x1 N rc v0 v1 v2 v3 k0 = (G31x1 N rc v0 v1 v2 v3).bind k0 := by
 unfold G31x1 F31x1
 repeat' (first | with_reducible apply cond_b | (with_reducible apply bnd_b; intro _) | rfl)
def J31x1 (rc : Rc31x1) (L : List Lf) (k0 : Int × Int → Option R) : Option R := F31x1 N rc (lb L 0) (ll L 1) (li L 2) (li L 3) k0
theorem raw31x1 (rc : Rc31x1) (hR : OracleOk Tryz.prog ((O31x1 N) rc)) (L : List Lf) : bd Tryz.prog ((O31x1 N) rc) ((h31x1s5 N) rc hR).h 31 sh31x1 L = J31x1 N rc L (fun p => some ([.c (.i .i64 p.1)], [(0, .box [.i .i64 p.2])])) := by kernel_rfl
theorem fin31x1 (rc : Rc31x1) (hR : OracleOk Tryz.prog ((O31x1 N) rc)) (L : List Lf) (x : Res) (hx : altK ((B31x1 N) (fun v0 v1 v2 v3 => G31x1 N rc v0 v1 v2 v3) L) some = some x) : CallOk Tryz.prog 31 (valsOf (ofSh sh31x1 L).tmps) (ofSh sh31x1 L).mem x :=
 callOk_of (n := 200) progOk hR ((h31x1s5 N) rc hR).ok rfl ((raw31x1 N rc hR L).trans ((bind31x1 N rc ..).trans (alt1 x hx)))
def R31x1 (N : Nat) : Nat → Rc31x1
 | 0 => fun _ _ _ _ => none
 | m + 1 => fun v0 v1 v2 v3 => G31x1 N (R31x1 N m) v0 v1 v2 v3
theorem Rok31x1 (N : Nat) : ∀ m, OracleOk Tryz.prog ((O31x1 N) (R31x1 N m))
 | 0 => ext_ok (T58x0_ok N) (AM.enters_of (by kernel_rfl)) (spSh_law fun L x hx => by
  have h : (none : Option Res) = some x := hx
  cases h)
 | m + 1 => ext_ok (T58x0_ok N) (AM.enters_of (by kernel_rfl)) (spSh_law fun L x hx => fin31x1 N (R31x1 N m) (Rok31x1 N m) L x hx)
def T31x1 : Oracle := (O31x1 N) (R31x1 N N)
theorem T31x1_ok : OracleOk Tryz.prog (T31x1 N) := Rok31x1 N N
abbrev Rc32x1 : Type := Bool → LD → Option (Int)
def sh32x1 : Sh := { tmps := [(0, .c (.sl 64))], mem := [] }
def B32x1 (N : Nat) (rc : Rc32x1) (L : List Lf) : List (Bool × Res) := bnd (rc (lb L 0) (ll L 1)) fun q => [(q.isSome, ([.c (.i .i64 (q.getD default))], []))]
def O32x1 (rc : Rc32x1) : Oracle := ext 32 (spSh sh32x1 ((B32x1 N) rc)) (T31x1 N)
def rg32x1 : List (Nat × List Nat) := [(0, [0]), (1, [0]), (2, [0, 3]), (3, [8, 7, 6, 3]), (4, [6, 8, 3, 7]), (5, [5, 3, 8, 7, 6]), (7, [3, 8, 7, 6]), (6, [3, 5, 8, 7, 6]), (8, [8, 7, 6, 3]), (9, [3])]
def hd32x1 : Hints := [(9, [3, 6, 7, 8], [], []), (21020, [3, 5, 6, 7, 8, 14], [5], [])]
def h32x1s0 (rc : Rc32x1) (hR : OracleOk Tryz.prog ((O32x1 N) rc)) : Sg Tryz.prog 0 32 := .start hd32x1 rg32x1
def F32x1x21020 (N : Nat) (rc : Rc32x1) (w0 : Int) (w5 : Bool) (w14 : Int) (w15 : Bool) (w16 : LD) (k0 : Int → Option R) : Option R :=
 bif w5 then
  bnd (rc w15 w16) fun y0 =>
  bif y0.isSome then
   bnd (IntKind.wrap .i64 (w0 + (IntKind.wrap .i64 (w14 * (y0.getD default))))) fun y1 =>
   k0 y1
  else
   none
 else
  k0 (IntKind.wrap .i64 (w0 + 1))
def G32x1x21020 (rc : Rc32x1) (w0 : Int) (w5 : Bool) (w14 : Int) (w15 : Bool) (w16 : LD) : Option (Int) := F32x1x21020 N rc w0 w5 w14 w15 w16 (fun p => some p)
theorem bind32x1x21020 (rc : Rc32x1) (w0 : Int) (w5 : Bool) (w14 : Int) (w15 : Bool) (w16 : LD) (k0 : Int → Option R) : F32x1x21020 N rc w0 w5 w14 w15 w16 k0 = (G32x1x21020 N rc w0 w5 w14 w15 w16).bind k0 := by
 unfold G32x1x21020 F32x1x21020
 repeat' (first | with_reducible apply cond_b | (with_reducible apply bnd_b; intro _) | rfl)
def J32x1x21020 (rc : Rc32x1) (L : List Lf) (k0 : Int → Option R) : Option R := F32x1x21020 N rc (li L 0) (lb L 5) (li L 14) (lb L 15) (ll L 16) k0
def sh32x1x21020 : Sh := { tmps := [(3, .c (.i .i64)), (5, .c (.p 5 0)), (6, .c (.sl 64)), (7, .c (.i .i64)), (8, .c (.i .i64)), (14, .c (.b))], mem := [(5, .box (.i .i64 :: .s :: .i .i64 :: .i .i64 :: .i .i64 :: [.b, .i .i64, .i .i64, .i .i64, .sl 64]))] }
def K32x1x21020w0 (L : List Lf) (p : Int) : Ex × St := (.normal, mg (ofSh sh32x1x21020 L) [8, 7, 6, 3] [(3, .c (.i .i64 p))] [] [])
def A32x1x21020 (rc : Rc32x1) (L : List Lf) : List (Bool × (Ex × St)) := bnd (J32x1x21020 N rc L (fun p => some p)) fun q => [(q.isSome, K32x1x21020w0 L (q.getD default))]
theorem raw32x1x21020 (rc : Rc32x1) (hR : OracleOk Tryz.prog ((O32x1 N) rc)) (L : List Lf) : pc Tryz.prog ((O32x1 N) rc) ((h32x1s0 N) rc hR).h 0 100 32 21020 sh32x1x21020 L [8, 7, 6, 3] [] = J32x1x21020 N rc L (fun p => some (K32x1x21020w0 L p)) := by kernel_rfl
def h32x1s1 (rc : Rc32x1) (hR : OracleOk Tryz.prog ((O32x1 N) rc)) : Sg Tryz.prog 0 32 :=
 ((h32x1s0 N) rc hR).cut ((A32x1x21020 N) rc) progOk hR fun L x hx => (raw32x1x21020 N rc hR L).trans ((bind32x1x21020 N rc ..).trans (alt1 x hx))
def S32x1x9 (rc : Rc32x1) (w2 : LD) (w3 : Int) (w0 w4 : Int) (kr : Int → Int → Option R) (k0 : Int → Option R) : Option R :=
 bif (decide (w4 < w3)) then
  bif (inB w4 w2.length) then
   bnd (G32x1x21020 N rc w0 (((w2.getD w4.toNat (.i 0)).cell 0).toI == 3) ((w2.getD w4.toNat (.i 0)).cell 8).toI ((w2.getD w4.toNat (.i 0)).cell 9).isNil ((w2.getD w4.toNat (.i 0)).cell 9).items) fun y0 =>
   bif y0.isSome then
    kr (y0.getD default) (IntKind.wrap .i64 (w4 + 1))
   else
    none
  else
   none
 else
  k0 w0
def L32x1x9 (N : Nat) (rc : Rc32x1) {R : Type} (w2 : LD) (w3 : Int) : Nat → Int → Int → (Int → Option R) → Option R
 | 0, _, _, _ => none
 | m + 1, w0, w4, k0 => S32x1x9 N rc w2 w3 w0 w4 (fun w0 w4 => L32x1x9 N rc w2 w3 m w0 w4 k0) k0
def G32x1x9 (rc : Rc32x1) (w2 : LD) (w3 : Int) (w0 w4 : Int) : Option (Int) := L32x1x9 N rc (R := (Int)) w2 w3 N w0 w4 (fun p => some p)
def J32x1x9 (rc : Rc32x1) (L x : List Lf) (kr : List Lf → Option R) (k0 : Int → Option R) : Option R := S32x1x9 N rc (ll L 2) (li L 3) (li x 0) (li x 1) (fun w0 w4 => kr [.i w0, .i w4]) k0
theorem sb32x1x9 (rc : Rc32x1) (L x : List Lf) (kr : List Lf → Option R) (k0 : Int → Option R) : J32x1x9 N rc L x kr k0 = (J32x1x9 N rc L x (fun y => some (.inl y)) (fun p => some (.inr p))).bind (sumE kr k0) := by
 unfold J32x1x9 S32x1x9
 repeat' (first | with_reducible apply cond_b | (with_reducible apply bnd_b; intro _) | rfl)
def Q32x1x9 (rc : Rc32x1) (L : List Lf) (m : Nat) (x : List Lf) : Option (Int) := L32x1x9 N rc (R := (Int)) (ll L 2) (li L 3) m (li x 0) (li x 1) (fun p => some p)
def sh32x1x9 : Sh := { tmps := [(3, .c (.i .i64)), (6, .c (.sl 64)), (7, .c (.i .i64)), (8, .c (.i .i64))], mem := [] }
def A32x1x9 (rc : Rc32x1) (L : List Lf) : List (Bool × (Ex × St)) := bnd (Q32x1x9 N rc L N (pk sh32x1x9 [0, 4] L)) fun q => [(q.isSome, ((.exit 0), ⟨[(3, .c (.i .i64 (q.getD default)))], []⟩))]
theorem step32x1x9 (rc : Rc32x1) (hR : OracleOk Tryz.prog ((O32x1 N) rc)) (m : Nat) (kn : St → Option (Ex × St)) (L x : List Lf) : lpB Tryz.prog ((O32x1 N) rc) ((h32x1s1 N) rc hR).h 0 32 9 sh32x1x9 [0, 4] [2, 3] [] (m + 100) kn L x = J32x1x9 N rc L x (fun y => kn (ofSh sh32x1x9 (mx sh32x1x9 [0, 4] L y))) (fun p => some ((.exit 0), ⟨[(3, .c (.i .i64 p))], []⟩)) := by kernel_rfl
theorem ql32x1x9 (rc : Rc32x1) (L : List Lf) (m : Nat) (x : List Lf) : Q32x1x9 N rc L (m + 1) x = J32x1x9 N rc L x (Q32x1x9 N rc L m) some := by kernel_rfl
def h32x1s2 (rc : Rc32x1) (hR : OracleOk Tryz.prog ((O32x1 N) rc)) : Sg Tryz.prog 0 32 :=
 ((h32x1s1 N) rc hR).lp ((A32x1x9 N) rc) N progOk hR (fun m kn L x => (step32x1x9 N rc hR m kn L x).trans (sb32x1x9 N rc L x _ _)) (fun L m x => (ql32x1x9 N rc L m x).trans (sb32x1x9 N rc L x (Q32x1x9 N rc L m) some)) fun L x hx => alt1 x hx
def F32x1 (rc : Rc32x1) (v0 : Bool) (v1 : LD) (k0 : Int → Option R) : Option R :=
 bnd (G32x1x9 N rc v1 (v1.length : Int) 0 0) fun y0 =>
 bif y0.isSome then
  k0 (y0.getD default)
 else
  none
def G32x1 (rc : Rc32x1) (v0 : Bool) (v1 : LD) : Option (Int) := F32x1 N rc v0 v1 (fun p => some p)
theorem bind32x1 (rc : Rc32x1) (v0 : Bool) (v1 : LD) (k0 : Int → Option R) : F32x1 N rc v0 v1 k0 = (G32x1 N rc v0 v1).bind k0 := by
 unfold G32x1 F32x1
 repeat' (first | with_reducible apply cond_b | (with_reducible apply bnd_b; intro _) | rfl)
theorem raw32x1 (rc : Rc32x1) (hR : OracleOk Tryz.prog ((O32x1 N) rc)) (L : List Lf) : bd Tryz.prog ((O32x1 N) rc) ((h32x1s2 N) rc hR).h 32 sh32x1 L = F32x1 N rc (lb L 0) (ll L 1) (fun p => some ([.c (.i .i64 p)], [])) := by kernel_rfl
theorem fin32x1 (rc : Rc32x1) (hR : OracleOk Tryz.prog ((O32x1 N) rc)) (L : List Lf) (x : Res) (hx : altK ((B32x1 N) (fun v0 v1 => G32x1 N rc v0 v1) L) some = some x) : CallOk Tryz.prog 32 (valsOf (ofSh sh32x1 L).tmps) (ofSh sh32x1 L).mem x :=
 callOk_of (n := 200) progOk hR ((h32x1s2 N) rc hR).ok rfl ((raw32x1 N rc hR L).trans ((bind32x1 N rc ..).trans (alt1 x hx)))
def R32x1 (N : Nat) : Nat → Rc32x1
 | 0 => fun _ _ => none
 | m + 1 => fun v0 v1 => G32x1 N (R32x1 N m) v0 v1
theorem Rok32x1 (N : Nat) : ∀ m, OracleOk Tryz.prog ((O32x1 N) (R32x1 N m))
 | 0 => ext_ok (T31x1_ok N) (AM.enters_of (by kernel_rfl)) (spSh_law fun L x hx => by
  have h : (none : Option Res) = some x := hx
  cases h)
 | m + 1 => ext_ok (T31x1_ok N) (AM.enters_of (by kernel_rfl)) (spSh_law fun L x hx => fin32x1 N (R32x1 N m) (Rok32x1 N m) L x hx)
def T32x1 : Oracle := (O32x1 N) (R32x1 N N)
theorem T32x1_ok : OracleOk Tryz.prog (T32x1 N) := Rok32x1 N N
def rg10x0 : List (Nat × List Nat) := [(0, [0]), (1, [1]), (3, [1]), (4, []), (2, []), (5, [1]), (6, [1, 3]), (7, [4, 1]), (8, [4]), (9, [1]), (10, []), (11, [])]
def hd10x0 : Hints := []
def h10x0s0 (N : Nat) : Sg Tryz.prog 0 10 := .start hd10x0 rg10x0
def F10x0 (v0 : LB) (v1 : Bool) (v2 : LD) (k0 : Int → Option R) : Option R :=
 bnd (G30x0 N v0) fun y0 =>
 bif y0.isSome then
  bif (!(y0.getD default)) then
   k0 8
  else
   bif ((v2.length : Int) == 0) then
    k0 13
   else
    bnd (R31x1 N N v1 v2 0 0) fun y1 =>
    bif y1.isSome then
     bif ((y1.getD default).1 != 0) then
      k0 (y1.getD default).1
     else
      bnd (R32x1 N N v1 v2) fun y2 =>
      bif y2.isSome then
       bif (decide ((y2.getD default) > 1000)) then
        k0 3
       else
        k0 0
      else
       none
    else
     none
 else
  none
def G10x0 (v0 : LB) (v1 : Bool) (v2 : LD) : Option (Int) := F10x0 N v0 v1 v2 (fun p => some p)
theorem bind10x0 (v0 : LB) (v1 : Bool) (v2 : LD) (k0 : Int → Option R) : F10x0 N v0 v1 v2 k0 = (G10x0 N v0 v1 v2).bind k0 := by
 unfold G10x0 F10x0
 repeat' (first | with_reducible apply cond_b | (with_reducible apply bnd_b; intro _) | rfl)
def sh10x0 : Sh := { tmps := [(0, .g ([.s, .sl 64]))], mem := [] }
def A10x0 (L : List Lf) : List (Bool × Res) := bnd (F10x0 N (ls L 0) (lb L 1) (ll L 2) (fun p => some p)) fun q => [(q.isSome, ([.c (.i .i64 (q.getD default))], []))]
theorem raw10x0 (L : List Lf) : bd Tryz.prog (T32x1 N) (h10x0s0 N).h 10 sh10x0 L = F10x0 N (ls L 0) (lb L 1) (ll L 2) (fun p => some ([.c (.i .i64 p)], [])) := by kernel_rfl
theorem ok10x0 : FnOk Tryz.prog 10 sh10x0 (A10x0 N) :=
 (h10x0s0 N).fn progOk (T32x1_ok N) fun L x hx => ((raw10x0 N L).trans ((bind10x0 N ..).trans (alt1 x hx)))
def T10x0 : Oracle := ext 10 (spSh sh10x0 (A10x0 N)) (T32x1 N)
theorem T10x0_ok : OracleOk Tryz.prog (T10x0 N) := FnOk.to (ok10x0 N) (T32x1_ok N)
abbrev Rc40x1 : Type := Bool → LD → Option (Bool × LD)
def sh40x1 : Sh := { tmps := [(0, .c (.sl 64))], mem := [] }
def B40x1 (N : Nat) (rc : Rc40x1) (L : List Lf) : List (Bool × Res) := bnd (rc (lb L 0) (ll L 1)) fun q => [(q.isSome, ([.c (.sl 64 (q.getD default).1 (q.getD default).2)], []))]
def O40x1 (rc : Rc40x1) : Oracle := ext 40 (spSh sh40x1 ((B40x1 N) rc)) (T10x0 N)
def rg40x1 : List (Nat × List Nat) := [(0, [0]), (1, [0]), (2, [0, 3]), (3, [9, 8, 7, 3]), (4, [7, 9, 3, 8]), (5, [5, 3, 9, 8, 7]), (6, [3, 5, 9, 8, 7]), (7, [5, 3, 9, 8, 7]), (8, [5, 3, 6, 9, 8, 7]), (9, [25, 24, 3, 6, 9, 8, 7]), (10, [3, 6, 25, 24, 9, 8, 7]), (11, [25, 24, 3, 6, 9, 8, 7]), (12, [9, 8, 7, 3]), (13, [3])]
def hd40x1 : Hints := [(9, [3, 7, 8, 9], [3], [3]), (27, [3, 6, 7, 8, 9, 24, 25], [3], [3])]
def h40x1s0 (rc : Rc40x1) (hR : OracleOk Tryz.prog ((O40x1 N) rc)) : Sg Tryz.prog 0 40 := .start hd40x1 rg40x1
def S40x1x27 (N : Nat) (rc : Rc40x1) (w1 : LD) (w6 : Int) (w7 : Int) (w8 : Bool) (w9 : LD) (kr : Int → Bool → LD → Option R) (k0 : Bool × LD → Option R) : Option R :=
 bif (decide (w7 < w6)) then
  bif (decide ((w9.length + w1.length) * 104 ≤ room) && decide ((w9.length + w1.length) ≤ strMax)) then
   kr (IntKind.wrap .i64 (w7 + 1)) (w1.isEmpty && w8) (w9 ++ w1)
  else
   none
 else
  k0 (w8, w9)
def L40x1x27 (N : Nat) (rc : Rc40x1) {R : Type} (w1 : LD) (w6 : Int) : Nat → Int → Bool → LD → (Bool × LD → Option R) → Option R
 | 0, _, _, _, _ => none
 | m + 1, w7, w8, w9, k0 => S40x1x27 N rc w1 w6 w7 w8 w9 (fun w7 w8 w9 => L40x1x27 N rc w1 w6 m w7 w8 w9 k0) k0
def G40x1x27 (rc : Rc40x1) (w1 : LD) (w6 : Int) (w7 : Int) (w8 : Bool) (w9 : LD) : Option (Bool × LD) := L40x1x27 N rc (R := (Bool × LD)) w1 w6 N w7 w8 w9 (fun p => some p)
def J40x1x27 (rc : Rc40x1) (L x : List Lf) (kr : List Lf → Option R) (k0 : Bool × LD → Option R) : Option R := S40x1x27 N rc (ll L 1) (li L 6) (li x 0) (lb x 1) (ll x 2) (fun w7 w8 w9 => kr [.i w7, .b w8, .l w9]) k0
theorem sb40x1x27 (rc : Rc40x1) (L x : List Lf) (kr : List Lf → Option R) (k0 : Bool × LD → Option R) : J40x1x27 N rc L x kr k0 = (J40x1x27 N rc L x (fun y => some (.inl y)) (fun p => some (.inr p))).bind (sumE kr k0) := by
 unfold J40x1x27 S40x1x27
 repeat' (first | with_reducible apply cond_b | (with_reducible apply bnd_b; intro _) | rfl)
def Q40x1x27 (rc : Rc40x1) (L : List Lf) (m : Nat) (x : List Lf) : Option (Bool × LD) := L40x1x27 N rc (R := (Bool × LD)) (ll L 1) (li L 6) m (li x 0) (lb x 1) (ll x 2) (fun p => some p)
def sh40x1x27 : Sh := { tmps := [(3, .c (.o 3)), (6, .c (.sl 64)), (7, .c (.sl 64)), (8, .c (.i .i64)), (9, .c (.i .i64)), (24, .c (.i .i64)), (25, .c (.i .i64))], mem := [(3, .row 64 true)] }
def K40x1x27w0 (L : List Lf) (p : Bool × LD) : Ex × St := ((.exit 2), mg (ofSh sh40x1x27 L) [9, 8, 7, 3] [] [3] [(3, .row 64 true p.1 p.2)])
def A40x1x27 (rc : Rc40x1) (L : List Lf) : List (Bool × (Ex × St)) := bnd (Q40x1x27 N rc L N (pk sh40x1x27 [7, 8, 9] L)) fun q => [(q.isSome, K40x1x27w0 L (q.getD default))]
theorem step40x1x27 (rc : Rc40x1) (hR : OracleOk Tryz.prog ((O40x1 N) rc)) (m : Nat) (kn : St → Option (Ex × St)) (L x : List Lf) : lpB Tryz.prog ((O40x1 N) rc) ((h40x1s0 N) rc hR).h 0 40 27 sh40x1x27 [7, 8, 9] [2, 9, 8, 7, 3] [3] (m + 100) kn L x = J40x1x27 N rc L x (fun y => kn (ofSh sh40x1x27 (mx sh40x1x27 [7, 8, 9] L y))) (fun p => some (K40x1x27w0 L p)) := by kernel_rfl
theorem ql40x1x27 (rc : Rc40x1) (L : List Lf) (m : Nat) (x : List Lf) : Q40x1x27 N rc L (m + 1) x = J40x1x27 N rc L x (Q40x1x27 N rc L m) some := by kernel_rfl
def h40x1s1 (rc : Rc40x1) (hR : OracleOk Tryz.prog ((O40x1 N) rc)) : Sg Tryz.prog 0 40 :=
 ((h40x1s0 N) rc hR).lp ((A40x1x27 N) rc) N progOk hR (fun m kn L x => (step40x1x27 N rc hR m kn L x).trans (sb40x1x27 N rc L x _ _)) (fun L m x => (ql40x1x27 N rc L m x).trans (sb40x1x27 N rc L x (Q40x1x27 N rc L m) some)) fun L x hx => alt1 x hx
def S40x1x9 (rc : Rc40x1) (w1 : LD) (w2 : Int) (w3 : Int) (w4 : Bool) (w5 : LD) (kr : Int → Bool → LD → Option R) (k0 : Bool × LD → Option R) : Option R :=
 bif (decide (w3 < w2)) then
  bif (inB w3 w1.length) then
   bif (((w1.getD w3.toNat (.i 0)).cell 0).toI != 3) then
    bif (decide ((w5.length + 1) * 104 ≤ room) && decide ((w5.length + 1) ≤ strMax)) then
     bnd ((w5 ++ [(.a [(.i ((w1.getD w3.toNat (.i 0)).cell 0).toI), (.s ((w1.getD w3.toNat (.i 0)).cell 1).toS), (.i ((w1.getD w3.toNat (.i 0)).cell 2).toI), (.i ((w1.getD w3.toNat (.i 0)).cell 3).toI), (.i ((w1.getD w3.toNat (.i 0)).cell 4).toI), (.b ((w1.getD w3.toNat (.i 0)).cell 5).toB), (.i ((w1.getD w3.toNat (.i 0)).cell 6).toI), (.i ((w1.getD w3.toNat (.i 0)).cell 7).toI), (.i ((w1.getD w3.toNat (.i 0)).cell 8).toI), (.l ((w1.getD w3.toNat (.i 0)).cell 9).isNil ((w1.getD w3.toNat (.i 0)).cell 9).items)])]) : List D) fun y0 =>
     kr (IntKind.wrap .i64 (w3 + 1)) false y0
    else
     none
   else
    bnd (rc ((w1.getD w3.toNat (.i 0)).cell 9).isNil ((w1.getD w3.toNat (.i 0)).cell 9).items) fun y1 =>
    bif y1.isSome then
     bnd (G40x1x27 N rc (y1.getD default).2 ((w1.getD w3.toNat (.i 0)).cell 8).toI 0 w4 w5) fun y2 =>
     bif y2.isSome then
      kr (IntKind.wrap .i64 (w3 + 1)) (y2.getD default).1 (y2.getD default).2
     else
      none
    else
     none
  else
   none
 else
  k0 (w4, w5)
def L40x1x9 (N : Nat) (rc : Rc40x1) {R : Type} (w1 : LD) (w2 : Int) : Nat → Int → Bool → LD → (Bool × LD → Option R) → Option R
 | 0, _, _, _, _ => none
 | m + 1, w3, w4, w5, k0 => S40x1x9 N rc w1 w2 w3 w4 w5 (fun w3 w4 w5 => L40x1x9 N rc w1 w2 m w3 w4 w5 k0) k0
def G40x1x9 (rc : Rc40x1) (w1 : LD) (w2 : Int) (w3 : Int) (w4 : Bool) (w5 : LD) : Option (Bool × LD) := L40x1x9 N rc (R := (Bool × LD)) w1 w2 N w3 w4 w5 (fun p => some p)
def J40x1x9 (rc : Rc40x1) (L x : List Lf) (kr : List Lf → Option R) (k0 : Bool × LD → Option R) : Option R := S40x1x9 N rc (ll L 1) (li L 2) (li x 0) (lb x 1) (ll x 2) (fun w3 w4 w5 => kr [.i w3, .b w4, .l w5]) k0
theorem sb40x1x9 (rc : Rc40x1) (L x : List Lf) (kr : List Lf → Option R) (k0 : Bool × LD → Option R) : J40x1x9 N rc L x kr k0 = (J40x1x9 N rc L x (fun y => some (.inl y)) (fun p => some (.inr p))).bind (sumE kr k0) := by
 unfold J40x1x9 S40x1x9
 repeat' (first | with_reducible apply cond_b | (with_reducible apply bnd_b; intro _) | rfl)
def Q40x1x9 (rc : Rc40x1) (L : List Lf) (m : Nat) (x : List Lf) : Option (Bool × LD) := L40x1x9 N rc (R := (Bool × LD)) (ll L 1) (li L 2) m (li x 0) (lb x 1) (ll x 2) (fun p => some p)
def sh40x1x9 : Sh := { tmps := [(3, .c (.o 3)), (7, .c (.sl 64)), (8, .c (.i .i64)), (9, .c (.i .i64))], mem := [(3, .row 64 true)] }
def A40x1x9 (rc : Rc40x1) (L : List Lf) : List (Bool × (Ex × St)) := bnd (Q40x1x9 N rc L N (pk sh40x1x9 [3, 4, 5] L)) fun q => [(q.isSome, ((.exit 0), ⟨[(3, .c (.o 3))], [(3, .row 64 true (q.getD default).1 (q.getD default).2)]⟩))]
theorem step40x1x9 (rc : Rc40x1) (hR : OracleOk Tryz.prog ((O40x1 N) rc)) (m : Nat) (kn : St → Option (Ex × St)) (L x : List Lf) : lpB Tryz.prog ((O40x1 N) rc) ((h40x1s1 N) rc hR).h 0 40 9 sh40x1x9 [3, 4, 5] [2, 3] [3] (m + 100) kn L x = J40x1x9 N rc L x (fun y => kn (ofSh sh40x1x9 (mx sh40x1x9 [3, 4, 5] L y))) (fun p => some ((.exit 0), ⟨[(3, .c (.o 3))], [(3, .row 64 true p.1 p.2)]⟩)) := by kernel_rfl
theorem ql40x1x9 (rc : Rc40x1) (L : List Lf) (m : Nat) (x : List Lf) : Q40x1x9 N rc L (m + 1) x = J40x1x9 N rc L x (Q40x1x9 N rc L m) some := by kernel_rfl
def h40x1s2 (rc : Rc40x1) (hR : OracleOk Tryz.prog ((O40x1 N) rc)) : Sg Tryz.prog 0 40 :=
 ((h40x1s1 N) rc hR).lp ((A40x1x9 N) rc) N progOk hR (fun m kn L x => (step40x1x9 N rc hR m kn L x).trans (sb40x1x9 N rc L x _ _)) (fun L m x => (ql40x1x9 N rc L m x).trans (sb40x1x9 N rc L x (Q40x1x9 N rc L m) some)) fun L x hx => alt1 x hx
def F40x1 (rc : Rc40x1) (v0 : Bool) (v1 : LD) (k0 : Bool × LD → Option R) : Option R :=
 bnd (G40x1x9 N rc v1 (v1.length : Int) 0 true []) fun y0 =>
 bif y0.isSome then
  k0 (y0.getD default)
 else
  none
def G40x1 (rc : Rc40x1) (v0 : Bool) (v1 : LD) : Option (Bool × LD) := F40x1 N rc v0 v1 (fun p => some p)
theorem bind40x1 (rc : Rc40x1) (v0 : Bool) (v1 : LD) (k0 : Bool × LD → Option R) : F40x1 N rc v0 v1 k0 = (G40x1 N rc v0 v1).bind k0 := by
 unfold G40x1 F40x1
 repeat' (first | with_reducible apply cond_b | (with_reducible apply bnd_b; intro _) | rfl)
theorem raw40x1 (rc : Rc40x1) (hR : OracleOk Tryz.prog ((O40x1 N) rc)) (L : List Lf) : bd Tryz.prog ((O40x1 N) rc) ((h40x1s2 N) rc hR).h 40 sh40x1 L = F40x1 N rc (lb L 0) (ll L 1) (fun p => some ([.c (.sl 64 p.1 p.2)], [])) := by kernel_rfl
theorem fin40x1 (rc : Rc40x1) (hR : OracleOk Tryz.prog ((O40x1 N) rc)) (L : List Lf) (x : Res) (hx : altK ((B40x1 N) (fun v0 v1 => G40x1 N rc v0 v1) L) some = some x) : CallOk Tryz.prog 40 (valsOf (ofSh sh40x1 L).tmps) (ofSh sh40x1 L).mem x :=
 callOk_of (n := 200) progOk hR ((h40x1s2 N) rc hR).ok rfl ((raw40x1 N rc hR L).trans ((bind40x1 N rc ..).trans (alt1 x hx)))
def R40x1 (N : Nat) : Nat → Rc40x1
 | 0 => fun _ _ => none
 | m + 1 => fun v0 v1 => G40x1 N (R40x1 N m) v0 v1
theorem Rok40x1 (N : Nat) : ∀ m, OracleOk Tryz.prog ((O40x1 N) (R40x1 N m))
 | 0 => ext_ok (T10x0_ok N) (AM.enters_of (by kernel_rfl)) (spSh_law fun L x hx => by
  have h : (none : Option Res) = some x := hx
  cases h)
 | m + 1 => ext_ok (T10x0_ok N) (AM.enters_of (by kernel_rfl)) (spSh_law fun L x hx => fin40x1 N (R40x1 N m) (Rok40x1 N m) L x hx)
def T40x1 : Oracle := (O40x1 N) (R40x1 N N)
theorem T40x1_ok : OracleOk Tryz.prog (T40x1 N) := Rok40x1 N N
def rg25x0 : List (Nat × List Nat) := [(0, [0]), (1, [1, 2]), (2, [4, 2, 1]), (3, [4, 2]), (4, [1, 2]), (5, [5, 2]), (6, [2]), (7, [5, 2])]
def hd25x0 : Hints := []
def h25x0s0 (N : Nat) : Sg Tryz.prog 0 25 := .start hd25x0 rg25x0
def F25x0 (v0 : LB) (v1 : Bool) (v2 : LD) (k0 : Ty0 → Option R) : Option R :=
 bnd (G10x0 N v0 v1 v2) fun y0 =>
 bif y0.isSome then
  bif ((y0.getD default) != 0) then
   k0 (([] : List UInt8), true, [], (y0.getD default))
  else
   bnd (R40x1 N N v1 v2) fun y1 =>
   bif y1.isSome then
    bif (decide (((y1.getD default).2.length : Int) > 200)) then
     k0 (([] : List UInt8), true, [], 3)
    else
     k0 (v0, (y1.getD default).1, (y1.getD default).2, 0)
   else
    none
 else
  none
def G25x0 (v0 : LB) (v1 : Bool) (v2 : LD) : Option (Ty0) := F25x0 N v0 v1 v2 (fun p => some p)
theorem bind25x0 (v0 : LB) (v1 : Bool) (v2 : LD) (k0 : Ty0 → Option R) : F25x0 N v0 v1 v2 k0 = (G25x0 N v0 v1 v2).bind k0 := by
 unfold G25x0 F25x0
 repeat' (first | with_reducible apply cond_b | (with_reducible apply bnd_b; intro _) | rfl)
def sh25x0 : Sh := { tmps := [(0, .g ([.s, .sl 64]))], mem := [] }
def K25x0w0 (L : List Lf) (p : Ty0) : Res := ([.g [.s p.1, .sl 64 p.2.1 p.2.2.1], .c (.i .i64 p.2.2.2)], [])
def A25x0 (L : List Lf) : List (Bool × Res) := bnd (F25x0 N (ls L 0) (lb L 1) (ll L 2) (fun p => some p)) fun q => [(q.isSome, K25x0w0 L (q.getD default))]
theorem raw25x0 (L : List Lf) : bd Tryz.prog (T40x1 N) (h25x0s0 N).h 25 sh25x0 L = F25x0 N (ls L 0) (lb L 1) (ll L 2) (fun p => some (K25x0w0 L p)) := by kernel_rfl
theorem ok25x0 : FnOk Tryz.prog 25 sh25x0 (A25x0 N) :=
 (h25x0s0 N).fn progOk (T40x1_ok N) fun L x hx => ((raw25x0 N L).trans ((bind25x0 N ..).trans (alt1 x hx)))
def T25x0 : Oracle := ext 25 (spSh sh25x0 (A25x0 N)) (T40x1 N)
theorem T25x0_ok : OracleOk Tryz.prog (T25x0 N) := FnOk.to (ok25x0 N) (T40x1_ok N)
def rg59x0 : List (Nat × List Nat) := [(0, [0]), (1, [0])]
def hd59x0 : Hints := []
def h59x0s0 (N : Nat) : Sg Tryz.prog 0 59 := .start hd59x0 rg59x0
def F59x0 (N : Nat) (v0 : Int) (k0 : Bool → R) : R :=
 k0 (bif (decide (v0 ≥ 48)) then (decide (v0 ≤ 57)) else false)
def V59x0 (v0 : Int) : Bool := F59x0 N v0 (fun p => p)
theorem tot59x0 (v0 : Int) (k0 : Bool → R) : F59x0 N v0 k0 = k0 (V59x0 N v0) := by
 unfold V59x0 F59x0
 repeat' (first | rfl | apply cond_k | (apply bnd_k; intro _))
def sh59x0 : Sh := { tmps := [(0, .c (.i .u8))], mem := [] }
def A59x0 (L : List Lf) : List (Bool × Res) := bnd (F59x0 N (li L 0) (fun p => p)) fun q => [(true, ([.c (.b q)], []))]
theorem raw59x0 (L : List Lf) : bd Tryz.prog (T25x0 N) (h59x0s0 N).h 59 sh59x0 L = F59x0 N (li L 0) (fun p => some ([.c (.b p)], [])) := by kernel_rfl
theorem ok59x0 : FnOk Tryz.prog 59 sh59x0 (A59x0 N) :=
 (h59x0s0 N).fn progOk (T25x0_ok N) fun L x hx => ((raw59x0 N L).trans ((tot59x0 N ..).trans (alt0 _ _ hx)))
def T59x0 : Oracle := ext 59 (spSh sh59x0 (A59x0 N)) (T25x0 N)
theorem T59x0_ok : OracleOk Tryz.prog (T59x0 N) := FnOk.to (ok59x0 N) (T25x0_ok N)
def rg33x0 : List (Nat × List Nat) := [(0, [0]), (1, [0]), (2, []), (3, [0]), (4, [3, 0]), (6, [0, 3]), (7, [4, 3, 0]), (8, [5, 6, 4, 3, 0]), (9, []), (5, [3, 0]), (10, [])]
def hd33x0 : Hints := [(12, [0, 3], [], []), (25, [0, 3, 4, 5, 6], [], [])]
def h33x0s0 (N : Nat) : Sg Tryz.prog 0 33 := .start hd33x0 rg33x0
def F33x0x25 (w2 : Int) (w3 w4 : Bool) (k0 : Bool → R) : R :=
 bif (bif (!w3) then (!w4) else false) then
  bnd (V59x0 N w2) fun y0 =>
  bnd (bif (bif (!y0) then (w2 != 45) else false) then (w2 != 95) else false) fun y1 =>
  k0 (bif y1 then (w2 != 46) else false)
 else
  k0 false
def V33x0x25 (w2 : Int) (w3 w4 : Bool) : Bool := F33x0x25 N w2 w3 w4 (fun p => p)
theorem tot33x0x25 (w2 : Int) (w3 w4 : Bool) (k0 : Bool → R) : F33x0x25 N w2 w3 w4 k0 = k0 (V33x0x25 N w2 w3 w4) := by
 unfold V33x0x25 F33x0x25
 repeat' (first | rfl | apply cond_k | (apply bnd_k; intro _))
def sh33x0x25 : Sh := { tmps := [(0, .c (.s)), (3, .c (.i .i64)), (4, .c (.i .u8)), (5, .c (.b)), (6, .c (.b))], mem := [] }
def K33x0x25w0 (L : List Lf) (p : Bool) : Ex × St := (.normal, mg (ofSh sh33x0x25 L) [3, 0, 58] [(58, .c (.b p))] [] [])
def A33x0x25 (L : List Lf) : List (Bool × (Ex × St)) := bnd (F33x0x25 N (li L 2) (lb L 3) (lb L 4) (fun p => p)) fun q => [(true, K33x0x25w0 L q)]
theorem raw33x0x25 (L : List Lf) : pc Tryz.prog (T59x0 N) (h33x0s0 N).h 0 100 33 25 sh33x0x25 L [3, 0, 58] [] = F33x0x25 N (li L 2) (lb L 3) (lb L 4) (fun p => some (K33x0x25w0 L p)) := by kernel_rfl
def h33x0s1 : Sg Tryz.prog 0 33 :=
 (h33x0s0 N).cut (A33x0x25 N) progOk (T59x0_ok N) fun L x hx => (raw33x0x25 N L).trans ((tot33x0x25 N ..).trans (alt0 _ _ hx))
def S33x0x12 (w0 : LB) (w1 : Int) (kr : Int → Option R) (k0 : Unit → Option R) (k1 : Unit → Option R) : Option R :=
 bif (decide (w1 < (w0.length : Int))) then
  bif (inB w1 w0.length) then
   bnd (bif (decide (((w0.getD w1.toNat 0).toNat : Int) ≥ 97)) then (decide (((w0.getD w1.toNat 0).toNat : Int) ≤ 122)) else false) fun y0 =>
   bnd (bif (decide (((w0.getD w1.toNat 0).toNat : Int) ≥ 65)) then (decide (((w0.getD w1.toNat 0).toNat : Int) ≤ 90)) else false) fun y1 =>
   bnd (V33x0x25 N ((w0.getD w1.toNat 0).toNat : Int) y0 y1) fun y2 =>
   bif y2 then
    k0 ()
   else
    kr (IntKind.wrap .i64 (w1 + 1))
  else
   none
 else
  k1 ()
def L33x0x12 (N : Nat) {R : Type} (w0 : LB) : Nat → Int → (Unit → Option R) → (Unit → Option R) → Option R
 | 0, _, _, _ => none
 | m + 1, w1, k0, k1 => S33x0x12 N w0 w1 (fun w1 => L33x0x12 N w0 m w1 k0 k1) k0 k1
def G33x0x12 (w0 : LB) (w1 : Int) : Option (Sum (Unit) (Unit)) := L33x0x12 N (R := (Sum (Unit) (Unit))) w0 N w1 (fun p => some (.inl p)) (fun p => some (.inr p))
def J33x0x12 (L x : List Lf) (kr : List Lf → Option R) (k0 : Unit → Option R) (k1 : Unit → Option R) : Option R := S33x0x12 N (ls L 0) (li x 0) (fun w1 => kr [.i w1]) k0 k1
theorem sb33x0x12 (L x : List Lf) (kr : List Lf → Option R) (k0 : Unit → Option R) (k1 : Unit → Option R) : J33x0x12 N L x kr k0 k1 = (J33x0x12 N L x (fun y => some (.inl y)) (fun p => some (.inr (.inl p))) (fun p => some (.inr (.inr p)))).bind (sumE kr (sumE k0 k1)) := by
 unfold J33x0x12 S33x0x12
 repeat' (first | with_reducible apply cond_b | (with_reducible apply bnd_b; intro _) | rfl)
def Q33x0x12 (L : List Lf) (m : Nat) (x : List Lf) : Option (Sum (Unit) (Unit)) := L33x0x12 N (R := (Sum (Unit) (Unit))) (ls L 0) m (li x 0) (fun p => some (.inl p)) (fun p => some (.inr p))
def sh33x0x12 : Sh := { tmps := [(0, .c (.s)), (3, .c (.i .i64))], mem := [] }
def A33x0x12 (L : List Lf) : List (Bool × (Ex × St)) := bnd (Q33x0x12 N L N (pk sh33x0x12 [1] L)) fun q => [((inlB q), (.ret, ⟨[(2, .c (.b false))], []⟩)), ((inrQ q).isSome, ((.exit 0), ⟨[], []⟩))]
theorem step33x0x12 (m : Nat) (kn : St → Option (Ex × St)) (L x : List Lf) : lpB Tryz.prog (T59x0 N) (h33x0s1 N).h 0 33 12 sh33x0x12 [1] [2] [] (m + 100) kn L x = J33x0x12 N L x (fun y => kn (ofSh sh33x0x12 (mx sh33x0x12 [1] L y))) (fun _ => some (.ret, ⟨[(2, .c (.b false))], []⟩)) (fun _ => some ((.exit 0), ⟨[], []⟩)) := by kernel_rfl
theorem ql33x0x12 (L : List Lf) (m : Nat) (x : List Lf) : Q33x0x12 N L (m + 1) x = J33x0x12 N L x (Q33x0x12 N L m) (fun p => some (.inl p)) (fun p => some (.inr p)) := by kernel_rfl
def h33x0s2 : Sg Tryz.prog 0 33 :=
 (h33x0s1 N).lp (A33x0x12 N) N progOk (T59x0_ok N) (fun m kn L x => (step33x0x12 N m kn L x).trans (sb33x0x12 N L x _ _ _)) (fun L m x => (ql33x0x12 N L m x).trans (sb33x0x12 N L x (Q33x0x12 N L m) (fun p => some (.inl p)) (fun p => some (.inr p)))) fun L x hx => (altS alt1) x hx
def F33x0 (v0 : LB) (k0 : Bool → Option R) : Option R :=
 bnd (bif (decide ((v0.length : Int) < 1)) then true else (decide ((v0.length : Int) > 60))) fun y0 =>
 bif y0 then
  k0 false
 else
  bnd (G33x0x12 N v0 0) fun y1 =>
  bif (inlB y1) then
   k0 false
  else
   bif (inrQ y1).isSome then
    k0 true
   else
    none
def G33x0 (v0 : LB) : Option (Bool) := F33x0 N v0 (fun p => some p)
theorem bind33x0 (v0 : LB) (k0 : Bool → Option R) : F33x0 N v0 k0 = (G33x0 N v0).bind k0 := by
 unfold G33x0 F33x0
 repeat' (first | with_reducible apply cond_b | (with_reducible apply bnd_b; intro _) | rfl)
def sh33x0 : Sh := { tmps := [(0, .c (.s))], mem := [] }
def A33x0 (L : List Lf) : List (Bool × Res) := bnd (F33x0 N (ls L 0) (fun p => some p)) fun q => [(q.isSome, ([.c (.b (q.getD default))], []))]
theorem raw33x0 (L : List Lf) : bd Tryz.prog (T59x0 N) (h33x0s2 N).h 33 sh33x0 L = F33x0 N (ls L 0) (fun p => some ([.c (.b p)], [])) := by kernel_rfl
theorem ok33x0 : FnOk Tryz.prog 33 sh33x0 (A33x0 N) :=
 (h33x0s2 N).fn progOk (T59x0_ok N) fun L x hx => ((raw33x0 N L).trans ((bind33x0 N ..).trans (alt1 x hx)))
def T33x0 : Oracle := ext 33 (spSh sh33x0 (A33x0 N)) (T59x0 N)
theorem T33x0_ok : OracleOk Tryz.prog (T33x0 N) := FnOk.to (ok33x0 N) (T59x0_ok N)
def rg49x0 : List (Nat × List Nat) := [(0, [0, 1, 2]), (1, [0, 1, 2])]
def hd49x0 : Hints := []
def h49x0s0 (N : Nat) : Sg Tryz.prog 0 49 := .start hd49x0 rg49x0
def F49x0 (N : Nat) (v0 v1 v2 : Int) (k0 : Bool → R) : R :=
 k0 (bif (decide (v0 < v1)) then true else (decide (v0 > v2)))
def V49x0 (v0 v1 v2 : Int) : Bool := F49x0 N v0 v1 v2 (fun p => p)
theorem tot49x0 (v0 v1 v2 : Int) (k0 : Bool → R) : F49x0 N v0 v1 v2 k0 = k0 (V49x0 N v0 v1 v2) := by
 unfold V49x0 F49x0
 repeat' (first | rfl | apply cond_k | (apply bnd_k; intro _))
def sh49x0 : Sh := { tmps := [(0, .c (.i .i64)), (1, .c (.i .i64)), (2, .c (.i .i64))], mem := [] }
def A49x0 (L : List Lf) : List (Bool × Res) := bnd (F49x0 N (li L 0) (li L 1) (li L 2) (fun p => p)) fun q => [(true, ([.c (.b q)], []))]
theorem raw49x0 (L : List Lf) : bd Tryz.prog (T33x0 N) (h49x0s0 N).h 49 sh49x0 L = F49x0 N (li L 0) (li L 1) (li L 2) (fun p => some ([.c (.b p)], [])) := by kernel_rfl
theorem ok49x0 : FnOk Tryz.prog 49 sh49x0 (A49x0 N) :=
 (h49x0s0 N).fn progOk (T33x0_ok N) fun L x hx => ((raw49x0 N L).trans ((tot49x0 N ..).trans (alt0 _ _ hx)))
def T49x0 : Oracle := ext 49 (spSh sh49x0 (A49x0 N)) (T33x0 N)
theorem T49x0_ok : OracleOk Tryz.prog (T49x0 N) := FnOk.to (ok49x0 N) (T33x0_ok N)
def rg88x0 : List (Nat × List Nat) := [(0, [0]), (1, [0]), (2, [3]), (4, [3]), (6, [3]), (7, []), (5, []), (3, []), (8, [])]
def hd88x0 : Hints := []
def h88x0s0 (N : Nat) : Sg Tryz.prog 0 88 := .start hd88x0 rg88x0
def F88x0 (N : Nat) (v0 : Int) (k0 : Int → R) : R :=
 bif (v0 == 1) then
  k0 3000
 else
  bif (v0 == 2) then
   k0 300
  else
   bif (v0 == 3) then
    k0 300
   else
    k0 36000
def V88x0 (v0 : Int) : Int := F88x0 N v0 (fun p => p)
theorem tot88x0 (v0 : Int) (k0 : Int → R) : F88x0 N v0 k0 = k0 (V88x0 N v0) := by
 unfold V88x0 F88x0
 repeat' (first | rfl | apply cond_k | (apply bnd_k; intro _))
def sh88x0 : Sh := { tmps := [(0, .c (.i .i64))], mem := [] }
def A88x0 (L : List Lf) : List (Bool × Res) := bnd (F88x0 N (li L 0) (fun p => p)) fun q => [(true, ([.c (.i .i64 q)], []))]
theorem raw88x0 (L : List Lf) : bd Tryz.prog (T49x0 N) (h88x0s0 N).h 88 sh88x0 L = F88x0 N (li L 0) (fun p => some ([.c (.i .i64 p)], [])) := by kernel_rfl
theorem ok88x0 : FnOk Tryz.prog 88 sh88x0 (A88x0 N) :=
 (h88x0s0 N).fn progOk (T49x0_ok N) fun L x hx => ((raw88x0 N L).trans ((tot88x0 N ..).trans (alt0 _ _ hx)))
def T88x0 : Oracle := ext 88 (spSh sh88x0 (A88x0 N)) (T49x0 N)
theorem T88x0_ok : OracleOk Tryz.prog (T88x0 N) := FnOk.to (ok88x0 N) (T49x0_ok N)
def rg83x0 : List (Nat × List Nat) := [(0, [0]), (1, [1]), (2, [3, 1]), (3, []), (4, [3, 1]), (5, [3, 1]), (6, []), (7, []), (8, [3, 1]), (9, []), (10, [3, 1]), (11, [3, 1, 4]), (12, [3, 1]), (13, [3, 4, 1]), (14, []), (15, [3, 1]), (16, []), (17, [])]
def hd83x0 : Hints := [(38, [1, 3, 4, 32], [1, 3], []), (40, [1, 3, 4], [1, 3], [])]
def h83x0s0 (N : Nat) : Sg Tryz.prog 0 83 := .start hd83x0 rg83x0
def F83x0x38 (N : Nat) (w0 : Int) (w1 : Bool) (k0 : Int → R) : R :=
 bif w1 then
  k0 300
 else
  k0 w0
def V83x0x38 (w0 : Int) (w1 : Bool) : Int := F83x0x38 N w0 w1 (fun p => p)
theorem tot83x0x38 (w0 : Int) (w1 : Bool) (k0 : Int → R) : F83x0x38 N w0 w1 k0 = k0 (V83x0x38 N w0 w1) := by
 unfold V83x0x38 F83x0x38
 repeat' (first | rfl | apply cond_k | (apply bnd_k; intro _))
def sh83x0x38 : Sh := { tmps := [(1, .c (.p 1 0)), (3, .c (.p 3 0)), (4, .c (.i .i64)), (32, .c (.b))], mem := [(1, .box (.i .i64 :: .s :: .i .i64 :: .i .i64 :: .i .i64 :: [.b, .i .i64, .i .i64, .i .i64, .sl 64])), (3, .box ([.i .i64, .b, .i .i64, .i .i64]))] }
def K83x0x38w0 (L : List Lf) (p : Int) : Ex × St := (.normal, mg (ofSh sh83x0x38 L) [3, 4, 1] [(4, .c (.i .i64 p))] [3, 1] [])
def A83x0x38 (L : List Lf) : List (Bool × (Ex × St)) := bnd (F83x0x38 N (li L 0) (lb L 1) (fun p => p)) fun q => [(true, K83x0x38w0 L q)]
theorem raw83x0x38 (L : List Lf) : pc Tryz.prog (T88x0 N) (h83x0s0 N).h 0 100 83 38 sh83x0x38 L [3, 4, 1] [3, 1] = F83x0x38 N (li L 0) (lb L 1) (fun p => some (K83x0x38w0 L p)) := by kernel_rfl
def h83x0s1 : Sg Tryz.prog 0 83 :=
 (h83x0s0 N).cut (A83x0x38 N) progOk (T88x0_ok N) fun L x hx => (raw83x0x38 N L).trans ((tot83x0x38 N ..).trans (alt0 _ _ hx))
def F83x0x40 (w0 w14 w15 : Int) (k0 : Bool → R) : R :=
 bnd (V49x0 N w14 1 w0) fun y0 =>
 bif y0 then
  k0 true
 else
  bnd (V49x0 N w15 1 w0) fun y1 =>
  k0 y1
def V83x0x40 (w0 w14 w15 : Int) : Bool := F83x0x40 N w0 w14 w15 (fun p => p)
theorem tot83x0x40 (w0 w14 w15 : Int) (k0 : Bool → R) : F83x0x40 N w0 w14 w15 k0 = k0 (V83x0x40 N w0 w14 w15) := by
 unfold V83x0x40 F83x0x40
 repeat' (first | rfl | apply cond_k | (apply bnd_k; intro _))
def sh83x0x40 : Sh := { tmps := [(1, .c (.p 1 0)), (3, .c (.p 3 0)), (4, .c (.i .i64))], mem := [(1, .box (.i .i64 :: .s :: .i .i64 :: .i .i64 :: .i .i64 :: [.b, .i .i64, .i .i64, .i .i64, .sl 64])), (3, .box ([.i .i64, .b, .i .i64, .i .i64]))] }
def K83x0x40w0 (L : List Lf) (p : Bool) : Ex × St := (.normal, mg (ofSh sh83x0x40 L) [3, 1, 42] [(42, .c (.b p))] [3, 1] [])
def A83x0x40 (L : List Lf) : List (Bool × (Ex × St)) := bnd (F83x0x40 N (li L 0) (li L 14) (li L 15) (fun p => p)) fun q => [(true, K83x0x40w0 L q)]
theorem raw83x0x40 (L : List Lf) : pc Tryz.prog (T88x0 N) (h83x0s1 N).h 0 100 83 40 sh83x0x40 L [3, 1, 42] [3, 1] = F83x0x40 N (li L 0) (li L 14) (li L 15) (fun p => some (K83x0x40w0 L p)) := by kernel_rfl
def h83x0s2 : Sg Tryz.prog 0 83 :=
 (h83x0s1 N).cut (A83x0x40 N) progOk (T88x0_ok N) fun L x hx => (raw83x0x40 N L).trans ((tot83x0x40 N ..).trans (alt0 _ _ hx))
def F83x0 (v0 v4 : Int) (v5 : Bool) (v6 v7 : Int) (k0 : Int → R) : R :=
 bnd (V49x0 N v4 0 4) fun y0 =>
 bif y0 then
  k0 7
 else
  bif (v4 == 0) then
   bnd (!((v4 == 0) && ((v5 == false) && ((v6 == 0) && ((v7 == 0) && true))))) fun y1 =>
   bif (bif y1 then true else (v0 == 2)) then
    k0 2
   else
    k0 0
  else
   bif (bif v5 then (v4 == 3) else false) then
    k0 2
   else
    bnd (V88x0 N v4) fun y2 =>
    bnd (V83x0x38 N y2 v5) fun y3 =>
    bnd (V83x0x40 N y3 v6 v7) fun y4 =>
    bif y4 then
     k0 9
    else
     bif (bif (decide (v6 > v7)) then (v0 != 2) else false) then
      k0 10
     else
      k0 0
def V83x0 (v0 v4 : Int) (v5 : Bool) (v6 v7 : Int) : Int := F83x0 N v0 v4 v5 v6 v7 (fun p => p)
theorem tot83x0 (v0 v4 : Int) (v5 : Bool) (v6 v7 : Int) (k0 : Int → R) : F83x0 N v0 v4 v5 v6 v7 k0 = k0 (V83x0 N v0 v4 v5 v6 v7) := by
 unfold V83x0 F83x0
 repeat' (first | rfl | apply cond_k | (apply bnd_k; intro _))
def J83x0 (L : List Lf) (k0 : Int → R) : R := F83x0 N (li L 0) (li L 4) (lb L 5) (li L 6) (li L 7) k0
def sh83x0 : Sh := { tmps := [(0, .g (.i .i64 :: .s :: .i .i64 :: .i .i64 :: .i .i64 :: [.b, .i .i64, .i .i64, .i .i64, .sl 64]))], mem := [] }
def A83x0 (L : List Lf) : List (Bool × Res) := bnd (J83x0 N L (fun p => p)) fun q => [(true, ([.c (.i .i64 q)], []))]
theorem raw83x0 (L : List Lf) : bd Tryz.prog (T88x0 N) (h83x0s2 N).h 83 sh83x0 L = J83x0 N L (fun p => some ([.c (.i .i64 p)], [])) := by kernel_rfl
theorem ok83x0 : FnOk Tryz.prog 83 sh83x0 (A83x0 N) :=
 (h83x0s2 N).fn progOk (T88x0_ok N) fun L x hx => ((raw83x0 N L).trans ((tot83x0 N ..).trans (alt0 _ _ hx)))
def T83x0 : Oracle := ext 83 (spSh sh83x0 (A83x0 N)) (T88x0 N)
theorem T83x0_ok : OracleOk Tryz.prog (T83x0 N) := FnOk.to (ok83x0 N) (T88x0_ok N)
def rg60x0 : List (Nat × List Nat) := [(0, [0]), (1, [1]), (2, []), (3, [1]), (4, []), (5, [1]), (6, []), (7, [1])]
def hd60x0 : Hints := [(16, [1], [1], [])]
def h60x0s0 (N : Nat) : Sg Tryz.prog 0 60 := .start hd60x0 rg60x0
def F60x0x16 (w2 w3 : Int) (k0 : Bool → R) : R :=
 bnd (V49x0 N w2 0 3599999) fun y0 =>
 bif y0 then
  k0 true
 else
  bnd (V49x0 N w3 0 1000000000) fun y1 =>
  k0 y1
def V60x0x16 (w2 w3 : Int) : Bool := F60x0x16 N w2 w3 (fun p => p)
theorem tot60x0x16 (w2 w3 : Int) (k0 : Bool → R) : F60x0x16 N w2 w3 k0 = k0 (V60x0x16 N w2 w3) := by
 unfold V60x0x16 F60x0x16
 repeat' (first | rfl | apply cond_k | (apply bnd_k; intro _))
def sh60x0x16 : Sh := { tmps := [(1, .c (.p 1 0))], mem := [(1, .box (.i .i64 :: .s :: .i .i64 :: .i .i64 :: .i .i64 :: [.b, .i .i64, .i .i64, .i .i64, .sl 64]))] }
def K60x0x16w0 (L : List Lf) (p : Bool) : Ex × St := (.normal, mg (ofSh sh60x0x16 L) [1, 32] [(32, .c (.b p))] [1] [])
def A60x0x16 (L : List Lf) : List (Bool × (Ex × St)) := bnd (F60x0x16 N (li L 2) (li L 3) (fun p => p)) fun q => [(true, K60x0x16w0 L q)]
theorem raw60x0x16 (L : List Lf) : pc Tryz.prog (T83x0 N) (h60x0s0 N).h 0 100 60 16 sh60x0x16 L [1, 32] [1] = F60x0x16 N (li L 2) (li L 3) (fun p => some (K60x0x16w0 L p)) := by kernel_rfl
def h60x0s1 : Sg Tryz.prog 0 60 :=
 (h60x0s0 N).cut (A60x0x16 N) progOk (T83x0_ok N) fun L x hx => (raw60x0x16 N L).trans ((tot60x0x16 N ..).trans (alt0 _ _ hx))
def F60x0 (v0 : Int) (v1 : LB) (v2 v3 v4 : Int) (v5 : Bool) (v6 v7 v8 : Int) (v10 : LD) (k0 : Int → Option R) : Option R :=
 bnd (G33x0 N v1) fun y0 =>
 bif y0.isSome then
  bif (!(y0.getD default)) then
   k0 8
  else
   bnd (bif (v8 != 0) then true else (decide ((v10.length : Int) > 0))) fun y1 =>
   bif (bif y1 then true else ((v2 == 0) == (v3 == 0))) then
    k0 2
   else
    bnd (V60x0x16 N v2 v3) fun y2 =>
    bif y2 then
     k0 9
    else
     bnd (V83x0 N v0 v4 v5 v6 v7) fun y3 =>
     k0 y3
 else
  none
def G60x0 (v0 : Int) (v1 : LB) (v2 v3 v4 : Int) (v5 : Bool) (v6 v7 v8 : Int) (v10 : LD) : Option (Int) := F60x0 N v0 v1 v2 v3 v4 v5 v6 v7 v8 v10 (fun p => some p)
theorem bind60x0 (v0 : Int) (v1 : LB) (v2 v3 v4 : Int) (v5 : Bool) (v6 v7 v8 : Int) (v10 : LD) (k0 : Int → Option R) : F60x0 N v0 v1 v2 v3 v4 v5 v6 v7 v8 v10 k0 = (G60x0 N v0 v1 v2 v3 v4 v5 v6 v7 v8 v10).bind k0 := by
 unfold G60x0 F60x0
 repeat' (first | with_reducible apply cond_b | (with_reducible apply bnd_b; intro _) | rfl)
def J60x0 (L : List Lf) (k0 : Int → Option R) : Option R := F60x0 N (li L 0) (ls L 1) (li L 2) (li L 3) (li L 4) (lb L 5) (li L 6) (li L 7) (li L 8) (ll L 10) k0
def sh60x0 : Sh := { tmps := [(0, .g (.i .i64 :: .s :: .i .i64 :: .i .i64 :: .i .i64 :: [.b, .i .i64, .i .i64, .i .i64, .sl 64]))], mem := [] }
def A60x0 (L : List Lf) : List (Bool × Res) := bnd (J60x0 N L (fun p => some p)) fun q => [(q.isSome, ([.c (.i .i64 (q.getD default))], []))]
theorem raw60x0 (L : List Lf) : bd Tryz.prog (T83x0 N) (h60x0s1 N).h 60 sh60x0 L = J60x0 N L (fun p => some ([.c (.i .i64 p)], [])) := by kernel_rfl
theorem ok60x0 : FnOk Tryz.prog 60 sh60x0 (A60x0 N) :=
 (h60x0s1 N).fn progOk (T83x0_ok N) fun L x hx => ((raw60x0 N L).trans ((bind60x0 N ..).trans (alt1 x hx)))
def T60x0 : Oracle := ext 60 (spSh sh60x0 (A60x0 N)) (T83x0 N)
theorem T60x0_ok : OracleOk Tryz.prog (T60x0 N) := FnOk.to (ok60x0 N) (T83x0_ok N)
abbrev Rc34x1 : Type := Bool → LD → Int → Int → Option (Int × Int)
def sh34x1 : Sh := { tmps := [(0, .c (.sl 64)), (1, .c (.i .i64)), (2, .c (.i .i64))], mem := [] }
def B34x1 (N : Nat) (rc : Rc34x1) (L : List Lf) : List (Bool × Res) := bnd (rc (lb L 0) (ll L 1) (li L 2) (li L 3)) fun q => [(q.isSome, ([.c (.i .i64 (q.getD default).1), .c (.i .i64 (q.getD default).2)], []))]
def O34x1 (rc : Rc34x1) : Oracle := ext 34 (spSh sh34x1 ((B34x1 N) rc)) (T60x0 N)
def rg34x1 : List (Nat × List Nat) := [(0, [0, 2, 1]), (1, [0, 2, 1]), (2, [15, 14, 13, 2, 1]), (3, [13, 15, 2, 1, 14]), (4, [2, 1, 9, 15, 14, 13]), (5, [2, 1, 9, 15, 14, 13]), (6, []), (7, [9, 15, 14, 13, 2, 1]), (9, [28, 9, 15, 14, 13, 2, 1]), (10, [28, 9, 15, 14, 13, 2, 1]), (14, [28, 9, 1, 2, 15, 14, 13]), (8, []), (11, [9, 15, 14, 13, 2, 1]), (12, [10, 15, 14, 13, 2, 1]), (13, [10]), (15, [9, 1, 2, 15, 14, 13]), (16, []), (17, [9, 1, 2, 15, 14, 13]), (18, []), (19, [9, 1, 2, 15, 14, 13]), (20, []), (21, [9, 1, 2, 15, 14, 13]), (22, [12, 11, 15, 14, 13, 1]), (23, [12]), (24, [11, 15, 14, 13, 1]), (25, [15, 14, 13, 2, 1]), (26, [2])]
def hd34x1 : Hints := [(6, [1, 2, 13, 14, 15], [], []), (30002, [1, 2, 9, 13, 14, 15, 28, 29], [9], [])]
def h34x1s0 (rc : Rc34x1) (hR : OracleOk Tryz.prog ((O34x1 N) rc)) : Sg Tryz.prog 0 34 := .start hd34x1 rg34x1
def F34x1x30002 (N : Nat) (rc : Rc34x1) (w6 : Int) (w7 : Bool) (k0 : Bool → R) : R :=
 bif w7 then
  k0 true
 else
  k0 (w6 == 2)
def V34x1x30002 (rc : Rc34x1) (w6 : Int) (w7 : Bool) : Bool := F34x1x30002 N rc w6 w7 (fun p => p)
theorem tot34x1x30002 (rc : Rc34x1) (w6 : Int) (w7 : Bool) (k0 : Bool → R) : F34x1x30002 N rc w6 w7 k0 = k0 (V34x1x30002 N rc w6 w7) := by
 unfold V34x1x30002 F34x1x30002
 repeat' (first | rfl | apply cond_k | (apply bnd_k; intro _))
def sh34x1x30002 : Sh := { tmps := [(1, .c (.i .i64)), (2, .c (.i .i64)), (9, .c (.p 9 0)), (13, .c (.sl 64)), (14, .c (.i .i64)), (15, .c (.i .i64)), (28, .c (.i .i64)), (29, .c (.b))], mem := [(9, .box (.i .i64 :: .s :: .i .i64 :: .i .i64 :: .i .i64 :: [.b, .i .i64, .i .i64, .i .i64, .sl 64]))] }
def K34x1x30002w0 (L : List Lf) (p : Bool) : Ex × St := (.normal, mg (ofSh sh34x1x30002 L) [9, 15, 14, 13, 2, 1, 28, 29] [(29, .c (.b p))] [9] [])
def A34x1x30002 (rc : Rc34x1) (L : List Lf) : List (Bool × (Ex × St)) := bnd (F34x1x30002 N rc (li L 6) (lb L 7) (fun p => p)) fun q => [(true, K34x1x30002w0 L q)]
theorem raw34x1x30002 (rc : Rc34x1) (hR : OracleOk Tryz.prog ((O34x1 N) rc)) (L : List Lf) : pc Tryz.prog ((O34x1 N) rc) ((h34x1s0 N) rc hR).h 0 100 34 30002 sh34x1x30002 L [9, 15, 14, 13, 2, 1, 28, 29] [9] = F34x1x30002 N rc (li L 6) (lb L 7) (fun p => some (K34x1x30002w0 L p)) := by kernel_rfl
def h34x1s1 (rc : Rc34x1) (hR : OracleOk Tryz.prog ((O34x1 N) rc)) : Sg Tryz.prog 0 34 :=
 ((h34x1s0 N) rc hR).cut ((A34x1x30002 N) rc) progOk hR fun L x hx => (raw34x1x30002 N rc hR L).trans ((tot34x1x30002 N rc ..).trans (alt0 _ _ hx))
def S34x1x6 (rc : Rc34x1) (w0 : Int) (w3 : LD) (w4 : Int) (w1 w5 : Int) (kr : Int → Int → Option R) (k0 : Int → Option R) (k1 : Int → Option R) : Option R :=
 bif (decide (w5 < w4)) then
  bif (inB w5 w3.length) then
   bnd (bif (decide ((IntKind.wrap .i64 (w1 + 1)) > 200)) then true else (decide (w0 > 3))) fun y0 =>
   bif y0 then
    k0 3
   else
    bnd (V34x1x30002 N rc ((w3.getD w5.toNat (.i 0)).cell 0).toI (((w3.getD w5.toNat (.i 0)).cell 0).toI == 1)) fun y1 =>
    bif y1 then
     bnd (G60x0 N ((w3.getD w5.toNat (.i 0)).cell 0).toI ((w3.getD w5.toNat (.i 0)).cell 1).toS ((w3.getD w5.toNat (.i 0)).cell 2).toI ((w3.getD w5.toNat (.i 0)).cell 3).toI ((w3.getD w5.toNat (.i 0)).cell 4).toI ((w3.getD w5.toNat (.i 0)).cell 5).toB ((w3.getD w5.toNat (.i 0)).cell 6).toI ((w3.getD w5.toNat (.i 0)).cell 7).toI ((w3.getD w5.toNat (.i 0)).cell 8).toI ((w3.getD w5.toNat (.i 0)).cell 9).items) fun y2 =>
     bif y2.isSome then
      bif ((y2.getD default) != 0) then
       k0 (y2.getD default)
      else
       kr (IntKind.wrap .i64 (w1 + 1)) (IntKind.wrap .i64 (w5 + 1))
     else
      none
    else
     bif (((w3.getD w5.toNat (.i 0)).cell 0).toI == 3) then
      bnd (!(((w3.getD w5.toNat (.i 0)).cell 1).toS == ([] : List UInt8))) fun y3 =>
      bnd (bif y3 then true else (((w3.getD w5.toNat (.i 0)).cell 2).toI != 0)) fun y4 =>
      bnd (bif y4 then true else (((w3.getD w5.toNat (.i 0)).cell 3).toI != 0)) fun y5 =>
      bnd (bif y5 then true else (!((((w3.getD w5.toNat (.i 0)).cell 4).toI == 0) && ((((w3.getD w5.toNat (.i 0)).cell 5).toB == false) && ((((w3.getD w5.toNat (.i 0)).cell 6).toI == 0) && ((((w3.getD w5.toNat (.i 0)).cell 7).toI == 0) && true)))))) fun y6 =>
      bif y6 then
       k0 2
      else
       bnd (V49x0 N ((w3.getD w5.toNat (.i 0)).cell 8).toI 1 99) fun y7 =>
       bif y7 then
        k0 9
       else
        bnd ((((w3.getD w5.toNat (.i 0)).cell 9).items.length : Int) == 0) fun y8 =>
        bif y8 then
         k0 13
        else
         bnd (rc ((w3.getD w5.toNat (.i 0)).cell 9).isNil ((w3.getD w5.toNat (.i 0)).cell 9).items (IntKind.wrap .i64 (w0 + 1)) (IntKind.wrap .i64 (w1 + 1))) fun y9 =>
         bif y9.isSome then
          bif ((y9.getD default).2 != 0) then
           k0 (y9.getD default).2
          else
           kr (y9.getD default).1 (IntKind.wrap .i64 (w5 + 1))
         else
          none
     else
      k0 7
  else
   none
 else
  k1 w1
def L34x1x6 (N : Nat) (rc : Rc34x1) {R : Type} (w0 : Int) (w3 : LD) (w4 : Int) : Nat → Int → Int → (Int → Option R) → (Int → Option R) → Option R
 | 0, _, _, _, _ => none
 | m + 1, w1, w5, k0, k1 => S34x1x6 N rc w0 w3 w4 w1 w5 (fun w1 w5 => L34x1x6 N rc w0 w3 w4 m w1 w5 k0 k1) k0 k1
def G34x1x6 (rc : Rc34x1) (w0 : Int) (w3 : LD) (w4 : Int) (w1 w5 : Int) : Option (Sum (Int) (Int)) := L34x1x6 N rc (R := (Sum (Int) (Int))) w0 w3 w4 N w1 w5 (fun p => some (.inl p)) (fun p => some (.inr p))
def J34x1x6 (rc : Rc34x1) (L x : List Lf) (kr : List Lf → Option R) (k0 : Int → Option R) (k1 : Int → Option R) : Option R := S34x1x6 N rc (li L 0) (ll L 3) (li L 4) (li x 0) (li x 1) (fun w1 w5 => kr [.i w1, .i w5]) k0 k1
theorem sb34x1x6 (rc : Rc34x1) (L x : List Lf) (kr : List Lf → Option R) (k0 : Int → Option R) (k1 : Int → Option R) : J34x1x6 N rc L x kr k0 k1 = (J34x1x6 N rc L x (fun y => some (.inl y)) (fun p => some (.inr (.inl p))) (fun p => some (.inr (.inr p)))).bind (sumE kr (sumE k0 k1)) := by
 unfold J34x1x6 S34x1x6
 repeat' (first | with_reducible apply cond_b | (with_reducible apply bnd_b; intro _) | rfl)
def Q34x1x6 (rc : Rc34x1) (L : List Lf) (m : Nat) (x : List Lf) : Option (Sum (Int) (Int)) := L34x1x6 N rc (R := (Sum (Int) (Int))) (li L 0) (ll L 3) (li L 4) m (li x 0) (li x 1) (fun p => some (.inl p)) (fun p => some (.inr p))
def sh34x1x6 : Sh := { tmps := [(1, .c (.i .i64)), (2, .c (.i .i64)), (13, .c (.sl 64)), (14, .c (.i .i64)), (15, .c (.i .i64))], mem := [] }
def A34x1x6 (rc : Rc34x1) (L : List Lf) : List (Bool × (Ex × St)) := bnd (Q34x1x6 N rc L N (pk sh34x1x6 [1, 5] L)) fun q => [((inlB q), (.ret, ⟨[(6, .c (.i .i64 0)), (7, .c (.i .i64 (inlV q)))], []⟩)), ((inrQ q).isSome, ((.exit 0), ⟨[(2, .c (.i .i64 ((inrQ q).getD default)))], []⟩))]
theorem step34x1x6 (rc : Rc34x1) (hR : OracleOk Tryz.prog ((O34x1 N) rc)) (m : Nat) (kn : St → Option (Ex × St)) (L x : List Lf) : lpB Tryz.prog ((O34x1 N) rc) ((h34x1s1 N) rc hR).h 0 34 6 sh34x1x6 [1, 5] [6, 7, 2] [] (m + 100) kn L x = J34x1x6 N rc L x (fun y => kn (ofSh sh34x1x6 (mx sh34x1x6 [1, 5] L y))) (fun p => some (.ret, ⟨[(6, .c (.i .i64 0)), (7, .c (.i .i64 p))], []⟩)) (fun p => some ((.exit 0), ⟨[(2, .c (.i .i64 p))], []⟩)) := by kernel_rfl
theorem ql34x1x6 (rc : Rc34x1) (L : List Lf) (m : Nat) (x : List Lf) : Q34x1x6 N rc L (m + 1) x = J34x1x6 N rc L x (Q34x1x6 N rc L m) (fun p => some (.inl p)) (fun p => some (.inr p)) := by kernel_rfl
def h34x1s2 (rc : Rc34x1) (hR : OracleOk Tryz.prog ((O34x1 N) rc)) : Sg Tryz.prog 0 34 :=
 ((h34x1s1 N) rc hR).lp ((A34x1x6 N) rc) N progOk hR (fun m kn L x => (step34x1x6 N rc hR m kn L x).trans (sb34x1x6 N rc L x _ _ _)) (fun L m x => (ql34x1x6 N rc L m x).trans (sb34x1x6 N rc L x (Q34x1x6 N rc L m) (fun p => some (.inl p)) (fun p => some (.inr p)))) fun L x hx => (altS alt1) x hx
def F34x1 (rc : Rc34x1) (v0 : Bool) (v1 : LD) (v2 v3 : Int) (k0 : Int × Int → Option R) : Option R :=
 bnd (G34x1x6 N rc v2 v1 (v1.length : Int) v3 0) fun y0 =>
 bif (inlB y0) then
  k0 (0, (inlV y0))
 else
  bif (inrQ y0).isSome then
   k0 (((inrQ y0).getD default), 0)
  else
   none
def G34x1 (rc : Rc34x1) (v0 : Bool) (v1 : LD) (v2 v3 : Int) : Option (Int × Int) := F34x1 N rc v0 v1 v2 v3 (fun p => some p)
theorem bind34x1 (rc : Rc34x1) (v0 : Bool) (v1 : LD) (v2 v3 : Int) (k0 : Int × Int → Option R) : F34x1 N rc v0 v1 v2 v3 k0 = (G34x1 N rc v0 v1 v2 v3).bind k0 := by
 unfold G34x1 F34x1
 repeat' (first | with_reducible apply cond_b | (with_reducible apply bnd_b; intro _) | rfl)
def J34x1 (rc : Rc34x1) (L : List Lf) (k0 : Int × Int → Option R) : Option R := F34x1 N rc (lb L 0) (ll L 1) (li L 2) (li L 3) k0
theorem raw34x1 (rc : Rc34x1) (hR : OracleOk Tryz.prog ((O34x1 N) rc)) (L : List Lf) : bd Tryz.prog ((O34x1 N) rc) ((h34x1s2 N) rc hR).h 34 sh34x1 L = J34x1 N rc L (fun p => some ([.c (.i .i64 p.1), .c (.i .i64 p.2)], [])) := by kernel_rfl
theorem fin34x1 (rc : Rc34x1) (hR : OracleOk Tryz.prog ((O34x1 N) rc)) (L : List Lf) (x : Res) (hx : altK ((B34x1 N) (fun v0 v1 v2 v3 => G34x1 N rc v0 v1 v2 v3) L) some = some x) : CallOk Tryz.prog 34 (valsOf (ofSh sh34x1 L).tmps) (ofSh sh34x1 L).mem x :=
 callOk_of (n := 200) progOk hR ((h34x1s2 N) rc hR).ok rfl ((raw34x1 N rc hR L).trans ((bind34x1 N rc ..).trans (alt1 x hx)))
def R34x1 (N : Nat) : Nat → Rc34x1
 | 0 => fun _ _ _ _ => none
 | m + 1 => fun v0 v1 v2 v3 => G34x1 N (R34x1 N m) v0 v1 v2 v3
theorem Rok34x1 (N : Nat) : ∀ m, OracleOk Tryz.prog ((O34x1 N) (R34x1 N m))
 | 0 => ext_ok (T60x0_ok N) (AM.enters_of (by kernel_rfl)) (spSh_law fun L x hx => by
  have h : (none : Option Res) = some x := hx
  cases h)
 | m + 1 => ext_ok (T60x0_ok N) (AM.enters_of (by kernel_rfl)) (spSh_law fun L x hx => fin34x1 N (R34x1 N m) (Rok34x1 N m) L x hx)
def T34x1 : Oracle := (O34x1 N) (R34x1 N N)
theorem T34x1_ok : OracleOk Tryz.prog (T34x1 N) := Rok34x1 N N
abbrev Rc35x1 : Type := Bool → LD → Option (Int)
def sh35x1 : Sh := { tmps := [(0, .c (.sl 64))], mem := [] }
def B35x1 (N : Nat) (rc : Rc35x1) (L : List Lf) : List (Bool × Res) := bnd (rc (lb L 0) (ll L 1)) fun q => [(q.isSome, ([.c (.i .i64 (q.getD default))], []))]
def O35x1 (rc : Rc35x1) : Oracle := ext 35 (spSh sh35x1 ((B35x1 N) rc)) (T34x1 N)
def rg35x1 : List (Nat × List Nat) := [(0, [0]), (1, [0]), (2, [0, 3]), (3, [8, 7, 6, 3]), (4, [6, 8, 3, 7]), (5, [5, 3, 8, 7, 6]), (7, [3, 8, 7, 6]), (6, [3, 5, 8, 7, 6]), (8, [8, 7, 6, 3]), (9, [3])]
def hd35x1 : Hints := [(9, [3, 6, 7, 8], [], []), (21020, [3, 5, 6, 7, 8, 14], [5], [])]
def h35x1s0 (rc : Rc35x1) (hR : OracleOk Tryz.prog ((O35x1 N) rc)) : Sg Tryz.prog 0 35 := .start hd35x1 rg35x1
def F35x1x21020 (N : Nat) (rc : Rc35x1) (w0 : Int) (w5 : Bool) (w14 : Int) (w15 : Bool) (w16 : LD) (k0 : Int → Option R) : Option R :=
 bif w5 then
  bnd (rc w15 w16) fun y0 =>
  bif y0.isSome then
   bnd (IntKind.wrap .i64 (w0 + (IntKind.wrap .i64 (w14 * (y0.getD default))))) fun y1 =>
   k0 y1
  else
   none
 else
  k0 (IntKind.wrap .i64 (w0 + 1))
def G35x1x21020 (rc : Rc35x1) (w0 : Int) (w5 : Bool) (w14 : Int) (w15 : Bool) (w16 : LD) : Option (Int) := F35x1x21020 N rc w0 w5 w14 w15 w16 (fun p => some p)
theorem bind35x1x21020 (rc : Rc35x1) (w0 : Int) (w5 : Bool) (w14 : Int) (w15 : Bool) (w16 : LD) (k0 : Int → Option R) : F35x1x21020 N rc w0 w5 w14 w15 w16 k0 = (G35x1x21020 N rc w0 w5 w14 w15 w16).bind k0 := by
 unfold G35x1x21020 F35x1x21020
 repeat' (first | with_reducible apply cond_b | (with_reducible apply bnd_b; intro _) | rfl)
def J35x1x21020 (rc : Rc35x1) (L : List Lf) (k0 : Int → Option R) : Option R := F35x1x21020 N rc (li L 0) (lb L 5) (li L 14) (lb L 15) (ll L 16) k0
def sh35x1x21020 : Sh := { tmps := [(3, .c (.i .i64)), (5, .c (.p 5 0)), (6, .c (.sl 64)), (7, .c (.i .i64)), (8, .c (.i .i64)), (14, .c (.b))], mem := [(5, .box (.i .i64 :: .s :: .i .i64 :: .i .i64 :: .i .i64 :: [.b, .i .i64, .i .i64, .i .i64, .sl 64]))] }
def K35x1x21020w0 (L : List Lf) (p : Int) : Ex × St := (.normal, mg (ofSh sh35x1x21020 L) [8, 7, 6, 3] [(3, .c (.i .i64 p))] [] [])
def A35x1x21020 (rc : Rc35x1) (L : List Lf) : List (Bool × (Ex × St)) := bnd (J35x1x21020 N rc L (fun p => some p)) fun q => [(q.isSome, K35x1x21020w0 L (q.getD default))]
theorem raw35x1x21020 (rc : Rc35x1) (hR : OracleOk Tryz.prog ((O35x1 N) rc)) (L : List Lf) : pc Tryz.prog ((O35x1 N) rc) ((h35x1s0 N) rc hR).h 0 100 35 21020 sh35x1x21020 L [8, 7, 6, 3] [] = J35x1x21020 N rc L (fun p => some (K35x1x21020w0 L p)) := by kernel_rfl
def h35x1s1 (rc : Rc35x1) (hR : OracleOk Tryz.prog ((O35x1 N) rc)) : Sg Tryz.prog 0 35 :=
 ((h35x1s0 N) rc hR).cut ((A35x1x21020 N) rc) progOk hR fun L x hx => (raw35x1x21020 N rc hR L).trans ((bind35x1x21020 N rc ..).trans (alt1 x hx))
def S35x1x9 (rc : Rc35x1) (w2 : LD) (w3 : Int) (w0 w4 : Int) (kr : Int → Int → Option R) (k0 : Int → Option R) : Option R :=
 bif (decide (w4 < w3)) then
  bif (inB w4 w2.length) then
   bnd (G35x1x21020 N rc w0 (((w2.getD w4.toNat (.i 0)).cell 0).toI == 3) ((w2.getD w4.toNat (.i 0)).cell 8).toI ((w2.getD w4.toNat (.i 0)).cell 9).isNil ((w2.getD w4.toNat (.i 0)).cell 9).items) fun y0 =>
   bif y0.isSome then
    kr (y0.getD default) (IntKind.wrap .i64 (w4 + 1))
   else
    none
  else
   none
 else
  k0 w0
def L35x1x9 (N : Nat) (rc : Rc35x1) {R : Type} (w2 : LD) (w3 : Int) : Nat → Int → Int → (Int → Option R) → Option R
 | 0, _, _, _ => none
 | m + 1, w0, w4, k0 => S35x1x9 N rc w2 w3 w0 w4 (fun w0 w4 => L35x1x9 N rc w2 w3 m w0 w4 k0) k0
def G35x1x9 (rc : Rc35x1) (w2 : LD) (w3 : Int) (w0 w4 : Int) : Option (Int) := L35x1x9 N rc (R := (Int)) w2 w3 N w0 w4 (fun p => some p)
def J35x1x9 (rc : Rc35x1) (L x : List Lf) (kr : List Lf → Option R) (k0 : Int → Option R) : Option R := S35x1x9 N rc (ll L 2) (li L 3) (li x 0) (li x 1) (fun w0 w4 => kr [.i w0, .i w4]) k0
theorem sb35x1x9 (rc : Rc35x1) (L x : List Lf) (kr : List Lf → Option R) (k0 : Int → Option R) : J35x1x9 N rc L x kr k0 = (J35x1x9 N rc L x (fun y => some (.inl y)) (fun p => some (.inr p))).bind (sumE kr k0) := by
 unfold J35x1x9 S35x1x9
 repeat' (first | with_reducible apply cond_b | (with_reducible apply bnd_b; intro _) | rfl)
def Q35x1x9 (rc : Rc35x1) (L : List Lf) (m : Nat) (x : List Lf) : Option (Int) := L35x1x9 N rc (R := (Int)) (ll L 2) (li L 3) m (li x 0) (li x 1) (fun p => some p)
def sh35x1x9 : Sh := { tmps := [(3, .c (.i .i64)), (6, .c (.sl 64)), (7, .c (.i .i64)), (8, .c (.i .i64))], mem := [] }
def A35x1x9 (rc : Rc35x1) (L : List Lf) : List (Bool × (Ex × St)) := bnd (Q35x1x9 N rc L N (pk sh35x1x9 [0, 4] L)) fun q => [(q.isSome, ((.exit 0), ⟨[(3, .c (.i .i64 (q.getD default)))], []⟩))]
theorem step35x1x9 (rc : Rc35x1) (hR : OracleOk Tryz.prog ((O35x1 N) rc)) (m : Nat) (kn : St → Option (Ex × St)) (L x : List Lf) : lpB Tryz.prog ((O35x1 N) rc) ((h35x1s1 N) rc hR).h 0 35 9 sh35x1x9 [0, 4] [2, 3] [] (m + 100) kn L x = J35x1x9 N rc L x (fun y => kn (ofSh sh35x1x9 (mx sh35x1x9 [0, 4] L y))) (fun p => some ((.exit 0), ⟨[(3, .c (.i .i64 p))], []⟩)) := by kernel_rfl
theorem ql35x1x9 (rc : Rc35x1) (L : List Lf) (m : Nat) (x : List Lf) : Q35x1x9 N rc L (m + 1) x = J35x1x9 N rc L x (Q35x1x9 N rc L m) some := by kernel_rfl
def h35x1s2 (rc : Rc35x1) (hR : OracleOk Tryz.prog ((O35x1 N) rc)) : Sg Tryz.prog 0 35 :=
 ((h35x1s1 N) rc hR).lp ((A35x1x9 N) rc) N progOk hR (fun m kn L x => (step35x1x9 N rc hR m kn L x).trans (sb35x1x9 N rc L x _ _)) (fun L m x => (ql35x1x9 N rc L m x).trans (sb35x1x9 N rc L x (Q35x1x9 N rc L m) some)) fun L x hx => alt1 x hx
def F35x1 (rc : Rc35x1) (v0 : Bool) (v1 : LD) (k0 : Int → Option R) : Option R :=
 bnd (G35x1x9 N rc v1 (v1.length : Int) 0 0) fun y0 =>
 bif y0.isSome then
  k0 (y0.getD default)
 else
  none
def G35x1 (rc : Rc35x1) (v0 : Bool) (v1 : LD) : Option (Int) := F35x1 N rc v0 v1 (fun p => some p)
theorem bind35x1 (rc : Rc35x1) (v0 : Bool) (v1 : LD) (k0 : Int → Option R) : F35x1 N rc v0 v1 k0 = (G35x1 N rc v0 v1).bind k0 := by
 unfold G35x1 F35x1
 repeat' (first | with_reducible apply cond_b | (with_reducible apply bnd_b; intro _) | rfl)
theorem raw35x1 (rc : Rc35x1) (hR : OracleOk Tryz.prog ((O35x1 N) rc)) (L : List Lf) : bd Tryz.prog ((O35x1 N) rc) ((h35x1s2 N) rc hR).h 35 sh35x1 L = F35x1 N rc (lb L 0) (ll L 1) (fun p => some ([.c (.i .i64 p)], [])) := by kernel_rfl
theorem fin35x1 (rc : Rc35x1) (hR : OracleOk Tryz.prog ((O35x1 N) rc)) (L : List Lf) (x : Res) (hx : altK ((B35x1 N) (fun v0 v1 => G35x1 N rc v0 v1) L) some = some x) : CallOk Tryz.prog 35 (valsOf (ofSh sh35x1 L).tmps) (ofSh sh35x1 L).mem x :=
 callOk_of (n := 200) progOk hR ((h35x1s2 N) rc hR).ok rfl ((raw35x1 N rc hR L).trans ((bind35x1 N rc ..).trans (alt1 x hx)))
def R35x1 (N : Nat) : Nat → Rc35x1
 | 0 => fun _ _ => none
 | m + 1 => fun v0 v1 => G35x1 N (R35x1 N m) v0 v1
theorem Rok35x1 (N : Nat) : ∀ m, OracleOk Tryz.prog ((O35x1 N) (R35x1 N m))
 | 0 => ext_ok (T34x1_ok N) (AM.enters_of (by kernel_rfl)) (spSh_law fun L x hx => by
  have h : (none : Option Res) = some x := hx
  cases h)
 | m + 1 => ext_ok (T34x1_ok N) (AM.enters_of (by kernel_rfl)) (spSh_law fun L x hx => fin35x1 N (R35x1 N m) (Rok35x1 N m) L x hx)
def T35x1 : Oracle := (O35x1 N) (R35x1 N N)
theorem T35x1_ok : OracleOk Tryz.prog (T35x1 N) := Rok35x1 N N
def rg11x0 : List (Nat × List Nat) := [(0, [0]), (1, [1]), (2, []), (3, [1]), (4, []), (5, [1]), (6, [4, 1]), (7, [4]), (8, [1]), (9, []), (10, [])]
def hd11x0 : Hints := []
def h11x0s0 (N : Nat) : Sg Tryz.prog 0 11 := .start hd11x0 rg11x0
def F11x0 (v0 : LB) (v1 : Bool) (v2 : LD) (k0 : Int → Option R) : Option R :=
 bnd (G33x0 N v0) fun y0 =>
 bif y0.isSome then
  bif (!(y0.getD default)) then
   k0 8
  else
   bif ((v2.length : Int) == 0) then
    k0 13
   else
    bnd (R34x1 N N v1 v2 0 0) fun y1 =>
    bif y1.isSome then
     bif ((y1.getD default).2 != 0) then
      k0 (y1.getD default).2
     else
      bnd (R35x1 N N v1 v2) fun y2 =>
      bif y2.isSome then
       bif (decide ((y2.getD default) > 1000)) then
        k0 3
       else
        k0 0
      else
       none
    else
     none
 else
  none
def G11x0 (v0 : LB) (v1 : Bool) (v2 : LD) : Option (Int) := F11x0 N v0 v1 v2 (fun p => some p)
theorem bind11x0 (v0 : LB) (v1 : Bool) (v2 : LD) (k0 : Int → Option R) : F11x0 N v0 v1 v2 k0 = (G11x0 N v0 v1 v2).bind k0 := by
 unfold G11x0 F11x0
 repeat' (first | with_reducible apply cond_b | (with_reducible apply bnd_b; intro _) | rfl)
def sh11x0 : Sh := { tmps := [(0, .g ([.s, .sl 64]))], mem := [] }
def A11x0 (L : List Lf) : List (Bool × Res) := bnd (F11x0 N (ls L 0) (lb L 1) (ll L 2) (fun p => some p)) fun q => [(q.isSome, ([.c (.i .i64 (q.getD default))], []))]
theorem raw11x0 (L : List Lf) : bd Tryz.prog (T35x1 N) (h11x0s0 N).h 11 sh11x0 L = F11x0 N (ls L 0) (lb L 1) (ll L 2) (fun p => some ([.c (.i .i64 p)], [])) := by kernel_rfl
theorem ok11x0 : FnOk Tryz.prog 11 sh11x0 (A11x0 N) :=
 (h11x0s0 N).fn progOk (T35x1_ok N) fun L x hx => ((raw11x0 N L).trans ((bind11x0 N ..).trans (alt1 x hx)))
def T11x0 : Oracle := ext 11 (spSh sh11x0 (A11x0 N)) (T35x1 N)
theorem T11x0_ok : OracleOk Tryz.prog (T11x0 N) := FnOk.to (ok11x0 N) (T35x1_ok N)
abbrev Rc42x1 : Type := Bool → LD → Option (Bool × LD)
def sh42x1 : Sh := { tmps := [(0, .c (.sl 64))], mem := [] }
def B42x1 (N : Nat) (rc : Rc42x1) (L : List Lf) : List (Bool × Res) := bnd (rc (lb L 0) (ll L 1)) fun q => [(q.isSome, ([.c (.sl 64 (q.getD default).1 (q.getD default).2)], []))]
def O42x1 (rc : Rc42x1) : Oracle := ext 42 (spSh sh42x1 ((B42x1 N) rc)) (T11x0 N)
def rg42x1 : List (Nat × List Nat) := [(0, [0]), (1, [0]), (2, [0, 3]), (3, [10, 9, 8, 3]), (4, [8, 10, 3, 9]), (5, [5, 3, 10, 9, 8]), (6, [3, 5, 10, 9, 8]), (7, [5, 3, 10, 9, 8]), (8, [5, 3, 6, 10, 9, 8]), (9, [7, 5, 3, 6, 10, 9, 8]), (11, [3, 6, 7, 5, 10, 9, 8]), (10, [7, 5, 3, 6, 10, 9, 8]), (12, [10, 9, 8, 3]), (13, [3])]
def hd42x1 : Hints := [(9, [3, 8, 9, 10], [3], [3]), (27, [3, 5, 6, 7, 8, 9, 10], [3, 5], [3])]
def h42x1s0 (rc : Rc42x1) (hR : OracleOk Tryz.prog ((O42x1 N) rc)) : Sg Tryz.prog 0 42 := .start hd42x1 rg42x1
def S42x1x27 (N : Nat) (rc : Rc42x1) (w1 : LD) (w17 : Int) (w2 : Int) (w7 : Bool) (w8 : LD) (kr : Int → Bool → LD → Option R) (k0 : Bool × LD → Option R) : Option R :=
 bif (decide (w2 < w17)) then
  bif (decide ((w8.length + w1.length) * 104 ≤ room) && decide ((w8.length + w1.length) ≤ strMax)) then
   kr (IntKind.wrap .i64 (w2 + 1)) (w1.isEmpty && w7) (w8 ++ w1)
  else
   none
 else
  k0 (w7, w8)
def L42x1x27 (N : Nat) (rc : Rc42x1) {R : Type} (w1 : LD) (w17 : Int) : Nat → Int → Bool → LD → (Bool × LD → Option R) → Option R
 | 0, _, _, _, _ => none
 | m + 1, w2, w7, w8, k0 => S42x1x27 N rc w1 w17 w2 w7 w8 (fun w2 w7 w8 => L42x1x27 N rc w1 w17 m w2 w7 w8 k0) k0
def G42x1x27 (rc : Rc42x1) (w1 : LD) (w17 : Int) (w2 : Int) (w7 : Bool) (w8 : LD) : Option (Bool × LD) := L42x1x27 N rc (R := (Bool × LD)) w1 w17 N w2 w7 w8 (fun p => some p)
def J42x1x27 (rc : Rc42x1) (L x : List Lf) (kr : List Lf → Option R) (k0 : Bool × LD → Option R) : Option R := S42x1x27 N rc (ll L 1) (li L 17) (li x 0) (lb x 1) (ll x 2) (fun w2 w7 w8 => kr [.i w2, .b w7, .l w8]) k0
theorem sb42x1x27 (rc : Rc42x1) (L x : List Lf) (kr : List Lf → Option R) (k0 : Bool × LD → Option R) : J42x1x27 N rc L x kr k0 = (J42x1x27 N rc L x (fun y => some (.inl y)) (fun p => some (.inr p))).bind (sumE kr k0) := by
 unfold J42x1x27 S42x1x27
 repeat' (first | with_reducible apply cond_b | (with_reducible apply bnd_b; intro _) | rfl)
def Q42x1x27 (rc : Rc42x1) (L : List Lf) (m : Nat) (x : List Lf) : Option (Bool × LD) := L42x1x27 N rc (R := (Bool × LD)) (ll L 1) (li L 17) m (li x 0) (lb x 1) (ll x 2) (fun p => some p)
def sh42x1x27 : Sh := { tmps := [(3, .c (.o 3)), (5, .c (.p 5 0)), (6, .c (.sl 64)), (7, .c (.i .i64)), (8, .c (.sl 64)), (9, .c (.i .i64)), (10, .c (.i .i64))], mem := [(3, .row 64 true), (5, .box (.i .i64 :: .s :: .i .i64 :: .i .i64 :: .i .i64 :: [.b, .i .i64, .i .i64, .i .i64, .sl 64]))] }
def K42x1x27w0 (L : List Lf) (p : Bool × LD) : Ex × St := ((.exit 2), mg (ofSh sh42x1x27 L) [10, 9, 8, 3] [] [3] [(3, .row 64 true p.1 p.2)])
def A42x1x27 (rc : Rc42x1) (L : List Lf) : List (Bool × (Ex × St)) := bnd (Q42x1x27 N rc L N (pk sh42x1x27 [2, 7, 8] L)) fun q => [(q.isSome, K42x1x27w0 L (q.getD default))]
theorem step42x1x27 (rc : Rc42x1) (hR : OracleOk Tryz.prog ((O42x1 N) rc)) (m : Nat) (kn : St → Option (Ex × St)) (L x : List Lf) : lpB Tryz.prog ((O42x1 N) rc) ((h42x1s0 N) rc hR).h 0 42 27 sh42x1x27 [2, 7, 8] [2, 10, 9, 8, 3] [3] (m + 100) kn L x = J42x1x27 N rc L x (fun y => kn (ofSh sh42x1x27 (mx sh42x1x27 [2, 7, 8] L y))) (fun p => some (K42x1x27w0 L p)) := by kernel_rfl
theorem ql42x1x27 (rc : Rc42x1) (L : List Lf) (m : Nat) (x : List Lf) : Q42x1x27 N rc L (m + 1) x = J42x1x27 N rc L x (Q42x1x27 N rc L m) some := by kernel_rfl
def h42x1s1 (rc : Rc42x1) (hR : OracleOk Tryz.prog ((O42x1 N) rc)) : Sg Tryz.prog 0 42 :=
 ((h42x1s0 N) rc hR).lp ((A42x1x27 N) rc) N progOk hR (fun m kn L x => (step42x1x27 N rc hR m kn L x).trans (sb42x1x27 N rc L x _ _)) (fun L m x => (ql42x1x27 N rc L m x).trans (sb42x1x27 N rc L x (Q42x1x27 N rc L m) some)) fun L x hx => alt1 x hx
def S42x1x9 (rc : Rc42x1) (w1 : LD) (w2 : Int) (w3 : Int) (w4 : Bool) (w5 : LD) (kr : Int → Bool → LD → Option R) (k0 : Bool × LD → Option R) : Option R :=
 bif (decide (w3 < w2)) then
  bif (inB w3 w1.length) then
   bif (((w1.getD w3.toNat (.i 0)).cell 0).toI != 3) then
    bif (decide ((w5.length + 1) * 104 ≤ room) && decide ((w5.length + 1) ≤ strMax)) then
     bnd ((w5 ++ [(.a [(.i ((w1.getD w3.toNat (.i 0)).cell 0).toI), (.s ((w1.getD w3.toNat (.i 0)).cell 1).toS), (.i ((w1.getD w3.toNat (.i 0)).cell 2).toI), (.i ((w1.getD w3.toNat (.i 0)).cell 3).toI), (.i ((w1.getD w3.toNat (.i 0)).cell 4).toI), (.b ((w1.getD w3.toNat (.i 0)).cell 5).toB), (.i ((w1.getD w3.toNat (.i 0)).cell 6).toI), (.i ((w1.getD w3.toNat (.i 0)).cell 7).toI), (.i ((w1.getD w3.toNat (.i 0)).cell 8).toI), (.l ((w1.getD w3.toNat (.i 0)).cell 9).isNil ((w1.getD w3.toNat (.i 0)).cell 9).items)])]) : List D) fun y0 =>
     kr (IntKind.wrap .i64 (w3 + 1)) false y0
    else
     none
   else
    bnd (rc ((w1.getD w3.toNat (.i 0)).cell 9).isNil ((w1.getD w3.toNat (.i 0)).cell 9).items) fun y1 =>
    bif y1.isSome then
     bnd (G42x1x27 N rc (y1.getD default).2 ((w1.getD w3.toNat (.i 0)).cell 8).toI 0 w4 w5) fun y2 =>
     bif y2.isSome then
      kr (IntKind.wrap .i64 (w3 + 1)) (y2.getD default).1 (y2.getD default).2
     else
      none
    else
     none
  else
   none
 else
  k0 (w4, w5)
def L42x1x9 (N : Nat) (rc : Rc42x1) {R : Type} (w1 : LD) (w2 : Int) : Nat → Int → Bool → LD → (Bool × LD → Option R) → Option R
 | 0, _, _, _, _ => none
 | m + 1, w3, w4, w5, k0 => S42x1x9 N rc w1 w2 w3 w4 w5 (fun w3 w4 w5 => L42x1x9 N rc w1 w2 m w3 w4 w5 k0) k0
def G42x1x9 (rc : Rc42x1) (w1 : LD) (w2 : Int) (w3 : Int) (w4 : Bool) (w5 : LD) : Option (Bool × LD) := L42x1x9 N rc (R := (Bool × LD)) w1 w2 N w3 w4 w5 (fun p => some p)
def J42x1x9 (rc : Rc42x1) (L x : List Lf) (kr : List Lf → Option R) (k0 : Bool × LD → Option R) : Option R := S42x1x9 N rc (ll L 1) (li L 2) (li x 0) (lb x 1) (ll x 2) (fun w3 w4 w5 => kr [.i w3, .b w4, .l w5]) k0
theorem sb42x1x9 (rc : Rc42x1) (L x : List Lf) (kr : List Lf → Option R) (k0 : Bool × LD → Option R) : J42x1x9 N rc L x kr k0 = (J42x1x9 N rc L x (fun y => some (.inl y)) (fun p => some (.inr p))).bind (sumE kr k0) := by
 unfold J42x1x9 S42x1x9
 repeat' (first | with_reducible apply cond_b | (with_reducible apply bnd_b; intro _) | rfl)
def Q42x1x9 (rc : Rc42x1) (L : List Lf) (m : Nat) (x : List Lf) : Option (Bool × LD) := L42x1x9 N rc (R := (Bool × LD)) (ll L 1) (li L 2) m (li x 0) (lb x 1) (ll x 2) (fun p => some p)
def sh42x1x9 : Sh := { tmps := [(3, .c (.o 3)), (8, .c (.sl 64)), (9, .c (.i .i64)), (10, .c (.i .i64))], mem := [(3, .row 64 true)] }
def A42x1x9 (rc : Rc42x1) (L : List Lf) : List (Bool × (Ex × St)) := bnd (Q42x1x9 N rc L N (pk sh42x1x9 [3, 4, 5] L)) fun q => [(q.isSome, ((.exit 0), ⟨[(3, .c (.o 3))], [(3, .row 64 true (q.getD default).1 (q.getD default).2)]⟩))]
theorem step42x1x9 (rc : Rc42x1) (hR : OracleOk Tryz.prog ((O42x1 N) rc)) (m : Nat) (kn : St → Option (Ex × St)) (L x : List Lf) : lpB Tryz.prog ((O42x1 N) rc) ((h42x1s1 N) rc hR).h 0 42 9 sh42x1x9 [3, 4, 5] [2, 3] [3] (m + 100) kn L x = J42x1x9 N rc L x (fun y => kn (ofSh sh42x1x9 (mx sh42x1x9 [3, 4, 5] L y))) (fun p => some ((.exit 0), ⟨[(3, .c (.o 3))], [(3, .row 64 true p.1 p.2)]⟩)) := by kernel_rfl
theorem ql42x1x9 (rc : Rc42x1) (L : List Lf) (m : Nat) (x : List Lf) : Q42x1x9 N rc L (m + 1) x = J42x1x9 N rc L x (Q42x1x9 N rc L m) some := by kernel_rfl
def h42x1s2 (rc : Rc42x1) (hR : OracleOk Tryz.prog ((O42x1 N) rc)) : Sg Tryz.prog 0 42 :=
 ((h42x1s1 N) rc hR).lp ((A42x1x9 N) rc) N progOk hR (fun m kn L x => (step42x1x9 N rc hR m kn L x).trans (sb42x1x9 N rc L x _ _)) (fun L m x => (ql42x1x9 N rc L m x).trans (sb42x1x9 N rc L x (Q42x1x9 N rc L m) some)) fun L x hx => alt1 x hx
def F42x1 (rc : Rc42x1) (v0 : Bool) (v1 : LD) (k0 : Bool × LD → Option R) : Option R :=
 bnd (G42x1x9 N rc v1 (v1.length : Int) 0 true []) fun y0 =>
 bif y0.isSome then
  k0 (y0.getD default)
 else
  none
def G42x1 (rc : Rc42x1) (v0 : Bool) (v1 : LD) : Option (Bool × LD) := F42x1 N rc v0 v1 (fun p => some p)
theorem bind42x1 (rc : Rc42x1) (v0 : Bool) (v1 : LD) (k0 : Bool × LD → Option R) : F42x1 N rc v0 v1 k0 = (G42x1 N rc v0 v1).bind k0 := by
 unfold G42x1 F42x1
 repeat' (first | with_reducible apply cond_b | (with_reducible apply bnd_b; intro _) | rfl)
theorem raw42x1 (rc : Rc42x1) (hR : OracleOk Tryz.prog ((O42x1 N) rc)) (L : List Lf) : bd Tryz.prog ((O42x1 N) rc) ((h42x1s2 N) rc hR).h 42 sh42x1 L = F42x1 N rc (lb L 0) (ll L 1) (fun p => some ([.c (.sl 64 p.1 p.2)], [])) := by kernel_rfl
theorem fin42x1 (rc : Rc42x1) (hR : OracleOk Tryz.prog ((O42x1 N) rc)) (L : List Lf) (x : Res) (hx : altK ((B42x1 N) (fun v0 v1 => G42x1 N rc v0 v1) L) some = some x) : CallOk Tryz.prog 42 (valsOf (ofSh sh42x1 L).tmps) (ofSh sh42x1 L).mem x :=
 callOk_of (n := 200) progOk hR ((h42x1s2 N) rc hR).ok rfl ((raw42x1 N rc hR L).trans ((bind42x1 N rc ..).trans (alt1 x hx)))
def R42x1 (N : Nat) : Nat → Rc42x1
 | 0 => fun _ _ => none
 | m + 1 => fun v0 v1 => G42x1 N (R42x1 N m) v0 v1
theorem Rok42x1 (N : Nat) : ∀ m, OracleOk Tryz.prog ((O42x1 N) (R42x1 N m))
 | 0 => ext_ok (T11x0_ok N) (AM.enters_of (by kernel_rfl)) (spSh_law fun L x hx => by
  have h : (none : Option Res) = some x := hx
  cases h)
 | m + 1 => ext_ok (T11x0_ok N) (AM.enters_of (by kernel_rfl)) (spSh_law fun L x hx => fin42x1 N (R42x1 N m) (Rok42x1 N m) L x hx)
def T42x1 : Oracle := (O42x1 N) (R42x1 N N)
theorem T42x1_ok : OracleOk Tryz.prog (T42x1 N) := Rok42x1 N N
def rg26x0 : List (Nat × List Nat) := [(0, [0]), (1, [1, 2]), (2, [4, 2, 1]), (3, [4, 2]), (4, [1, 2]), (5, [2]), (6, [1, 2])]
def hd26x0 : Hints := []
def h26x0s0 (N : Nat) : Sg Tryz.prog 0 26 := .start hd26x0 rg26x0
def F26x0 (v0 : LB) (v1 : Bool) (v2 : LD) (k0 : Ty0 → Option R) : Option R :=
 bnd (G11x0 N v0 v1 v2) fun y0 =>
 bif y0.isSome then
  bif ((y0.getD default) != 0) then
   k0 (([] : List UInt8), true, [], (y0.getD default))
  else
   bnd (R35x1 N N v1 v2) fun y1 =>
   bif y1.isSome then
    bif (decide ((y1.getD default) > 200)) then
     k0 (([] : List UInt8), true, [], 3)
    else
     bnd (R42x1 N N v1 v2) fun y2 =>
     bif y2.isSome then
      k0 (v0, (y2.getD default).1, (y2.getD default).2, 0)
     else
      none
   else
    none
 else
  none
def G26x0 (v0 : LB) (v1 : Bool) (v2 : LD) : Option (Ty0) := F26x0 N v0 v1 v2 (fun p => some p)
theorem bind26x0 (v0 : LB) (v1 : Bool) (v2 : LD) (k0 : Ty0 → Option R) : F26x0 N v0 v1 v2 k0 = (G26x0 N v0 v1 v2).bind k0 := by
 unfold G26x0 F26x0
 repeat' (first | with_reducible apply cond_b | (with_reducible apply bnd_b; intro _) | rfl)
def sh26x0 : Sh := { tmps := [(0, .g ([.s, .sl 64]))], mem := [] }
def K26x0w0 (L : List Lf) (p : Ty0) : Res := ([.g [.s p.1, .sl 64 p.2.1 p.2.2.1], .c (.i .i64 p.2.2.2)], [])
def A26x0 (L : List Lf) : List (Bool × Res) := bnd (F26x0 N (ls L 0) (lb L 1) (ll L 2) (fun p => some p)) fun q => [(q.isSome, K26x0w0 L (q.getD default))]
theorem raw26x0 (L : List Lf) : bd Tryz.prog (T42x1 N) (h26x0s0 N).h 26 sh26x0 L = F26x0 N (ls L 0) (lb L 1) (ll L 2) (fun p => some (K26x0w0 L p)) := by kernel_rfl
theorem ok26x0 : FnOk Tryz.prog 26 sh26x0 (A26x0 N) :=
 (h26x0s0 N).fn progOk (T42x1_ok N) fun L x hx => ((raw26x0 N L).trans ((bind26x0 N ..).trans (alt1 x hx)))
def T26x0 : Oracle := ext 26 (spSh sh26x0 (A26x0 N)) (T42x1 N)
theorem T26x0_ok : OracleOk Tryz.prog (T26x0 N) := FnOk.to (ok26x0 N) (T42x1_ok N)
def rg79x0 : List (Nat × List Nat) := [(0, [0]), (1, [0]), (2, []), (3, [0])]
def hd79x0 : Hints := []
def h79x0s0 (N : Nat) : Sg Tryz.prog 0 79 := .start hd79x0 rg79x0 true
def F79x0 (N : Nat) (v0 : Bool) (v1 : LD) (k0 : Unit → Option R) (k1 : Bool → Option R) : Option R :=
 bif v0 then
  k0 ()
 else
  bif (decide ((0 + v1.length) * 104 ≤ room) && decide ((0 + v1.length) ≤ strMax)) then
   k1 (v1.isEmpty && false)
  else
   none
def G79x0 (v0 : Bool) (v1 : LD) : Option (Sum (Unit) (Bool)) := F79x0 N v0 v1 (fun p => some (.inl p)) (fun p => some (.inr p))
theorem bind79x0 (v0 : Bool) (v1 : LD) (k0 : Unit → Option R) (k1 : Bool → Option R) : F79x0 N v0 v1 k0 k1 = (G79x0 N v0 v1).bind (sumE k0 k1) := by
 unfold G79x0 F79x0
 repeat' (first | with_reducible apply cond_b | (with_reducible apply bnd_b; intro _) | rfl)
def sh79x0 : Sh := { tmps := [(0, .c (.sl 64))], mem := [] }
def A79x0 (L : List Lf) : List (Bool × Res) := bnd (F79x0 N (lb L 0) (ll L 1) (fun p => some (.inl p)) (fun p => some (.inr p))) fun q => [((inlB q), ([.c (.sl 64 true [])], [])), ((inrQ q).isSome, ([.c (.o 7)], [(7, .row 64 true ((inrQ q).getD default) (ll L 1))]))]
theorem raw79x0 (L : List Lf) : bd Tryz.prog (T26x0 N) (h79x0s0 N).h 79 sh79x0 L = F79x0 N (lb L 0) (ll L 1) (fun _ => some ([.c (.sl 64 true [])], [])) (fun p => some ([.c (.o 7)], [(7, .row 64 true p (ll L 1))])) := by kernel_rfl
theorem ok79x0 : FnOk Tryz.prog 79 sh79x0 (A79x0 N) :=
 (h79x0s0 N).fn progOk (T26x0_ok N) fun L x hx => ((raw79x0 N L).trans ((bind79x0 N ..).trans ((altS alt1) x hx)))
def T79x0 : Oracle := ext 79 (spSh sh79x0 (A79x0 N)) (T26x0 N)
theorem T79x0_ok : OracleOk Tryz.prog (T79x0 N) := FnOk.to (ok79x0 N) (T26x0_ok N)
abbrev Rc36x1 : Type := Bool → LD → Bool → LD → Option (Bool)
def sh36x1 : Sh := { tmps := [(0, .c (.sl 64)), (1, .c (.sl 64))], mem := [] }
def B36x1 (N : Nat) (rc : Rc36x1) (L : List Lf) : List (Bool × Res) := bnd (rc (lb L 0) (ll L 1) (lb L 2) (ll L 3)) fun q => [(q.isSome, ([.c (.b (q.getD default))], []))]
def O36x1 (rc : Rc36x1) : Oracle := ext 36 (spSh sh36x1 ((B36x1 N) rc)) (T79x0 N)
def rg62x0 : List (Nat × List Nat) := [(0, [0, 1]), (1, [2, 3])]
def hd62x0 : Hints := [(4, [2, 3], [2, 3], [])]
def h62x0s0 (rc : Rc36x1) (hR : OracleOk Tryz.prog ((O36x1 N) rc)) : Sg Tryz.prog 0 62 := .start hd62x0 rg62x0
def F62x0x4 (N : Nat) (rc : Rc36x1) (w0 : Int) (w1 : LB) (w2 w3 w4 : Int) (w5 : Bool) (w6 w7 w8 : Int) (w9 : Bool) (w10 : LD) (w11 : Int) (w12 : LB) (w13 w14 w15 : Int) (w16 : Bool) (w17 w18 w19 : Int) (w20 : Bool) (w21 : LD) (k0 : Bool → Option R) : Option R :=
 bnd (bif (bif (w0 == w11) then (w1 == w12) else false) then (w2 == w13) else false) fun y0 =>
 bnd (bif (bif y0 then (w3 == w14) else false) then ((w4 == w15) && ((w5 == w16) && ((w6 == w17) && ((w7 == w18) && true)))) else false) fun y1 =>
 bif (bif y1 then (w8 == w19) else false) then
  bnd (rc w9 w10 w20 w21) fun y2 =>
  bif y2.isSome then
   k0 (y2.getD default)
  else
   none
 else
  k0 false
def G62x0x4 (rc : Rc36x1) (w0 : Int) (w1 : LB) (w2 w3 w4 : Int) (w5 : Bool) (w6 w7 w8 : Int) (w9 : Bool) (w10 : LD) (w11 : Int) (w12 : LB) (w13 w14 w15 : Int) (w16 : Bool) (w17 w18 w19 : Int) (w20 : Bool) (w21 : LD) : Option (Bool) := F62x0x4 N rc w0 w1 w2 w3 w4 w5 w6 w7 w8 w9 w10 w11 w12 w13 w14 w15 w16 w17 w18 w19 w20 w21 (fun p => some p)
theorem bind62x0x4 (rc : Rc36x1) (w0 : Int) (w1 : LB) (w2 w3 w4 : Int) (w5 : Bool) (w6 w7 w8 : Int) (w9 : Bool) (w10 : LD) (w11 : Int) (w12 : LB) (w13 w14 w15 : Int) (w16 : Bool) (w17 w18 w19 : Int) (w20 : Bool) (w21 : LD) (k0 : Bool → Option R) : F62x0x4 N rc w0 w1 w2 w3 w4 w5 w6 w7 w8 w9 w10 w11 w12 w13 w14 w15 w16 w17 w18 w19 w20 w21 k0 = (G62x0x4 N rc w0 w1 w2 w3 w4 w5 w6 w7 w8 w9 w10 w11 w12 w13 w14 w15 w16 w17 w18 w19 w20 w21).bind k0 := by
 unfold G62x0x4 F62x0x4
 repeat' (first | with_reducible apply cond_b | (with_reducible apply bnd_b; intro _) | rfl)
def J62x0x4 (rc : Rc36x1) (L : List Lf) (k0 : Bool → Option R) : Option R := F62x0x4 N rc (li L 0) (ls L 1) (li L 2) (li L 3) (li L 4) (lb L 5) (li L 6) (li L 7) (li L 8) (lb L 9) (ll L 10) (li L 11) (ls L 12) (li L 13) (li L 14) (li L 15) (lb L 16) (li L 17) (li L 18) (li L 19) (lb L 20) (ll L 21) k0
def sh62x0x4 : Sh := { tmps := [(2, .c (.p 2 0)), (3, .c (.p 3 0))], mem := [(2, .box (.i .i64 :: .s :: .i .i64 :: .i .i64 :: .i .i64 :: [.b, .i .i64, .i .i64, .i .i64, .sl 64])), (3, .box (.i .i64 :: .s :: .i .i64 :: .i .i64 :: .i .i64 :: [.b, .i .i64, .i .i64, .i .i64, .sl 64]))] }
def A62x0x4 (rc : Rc36x1) (L : List Lf) : List (Bool × (Ex × St)) := bnd (J62x0x4 N rc L (fun p => some p)) fun q => [(q.isSome, (.normal, ⟨[(4, .c (.b (q.getD default)))], []⟩))]
theorem raw62x0x4 (rc : Rc36x1) (hR : OracleOk Tryz.prog ((O36x1 N) rc)) (L : List Lf) : pc Tryz.prog ((O36x1 N) rc) ((h62x0s0 N) rc hR).h 0 100 62 4 sh62x0x4 L [4] [] = J62x0x4 N rc L (fun p => some (.normal, ⟨[(4, .c (.b p))], []⟩)) := by kernel_rfl
def h62x0s1 (rc : Rc36x1) (hR : OracleOk Tryz.prog ((O36x1 N) rc)) : Sg Tryz.prog 0 62 :=
 ((h62x0s0 N) rc hR).cut ((A62x0x4 N) rc) progOk hR fun L x hx => (raw62x0x4 N rc hR L).trans ((bind62x0x4 N rc ..).trans (alt1 x hx))
def F62x0 (rc : Rc36x1) (v0 : Int) (v1 : LB) (v2 v3 v4 : Int) (v5 : Bool) (v6 v7 v8 : Int) (v9 : Bool) (v10 : LD) (v11 : Int) (v12 : LB) (v13 v14 v15 : Int) (v16 : Bool) (v17 v18 v19 : Int) (v20 : Bool) (v21 : LD) (k0 : Bool → Option R) : Option R :=
 bnd (G62x0x4 N rc v0 v1 v2 v3 v4 v5 v6 v7 v8 v9 v10 v11 v12 v13 v14 v15 v16 v17 v18 v19 v20 v21) fun y0 =>
 bif y0.isSome then
  k0 (y0.getD default)
 else
  none
def G62x0 (rc : Rc36x1) (v0 : Int) (v1 : LB) (v2 v3 v4 : Int) (v5 : Bool) (v6 v7 v8 : Int) (v9 : Bool) (v10 : LD) (v11 : Int) (v12 : LB) (v13 v14 v15 : Int) (v16 : Bool) (v17 v18 v19 : Int) (v20 : Bool) (v21 : LD) : Option (Bool) := F62x0 N rc v0 v1 v2 v3 v4 v5 v6 v7 v8 v9 v10 v11 v12 v13 v14 v15 v16 v17 v18 v19 v20 v21 (fun p => some p)
theorem bind62x0 (rc : Rc36x1) (v0 : Int) (v1 : LB) (v2 v3 v4 : Int) (v5 : Bool) (v6 v7 v8 : Int) (v9 : Bool) (v10 : LD) (v11 : Int) (v12 : LB) (v13 v14 v15 : Int) (v16 : Bool) (v17 v18 v19 : Int) (v20 : Bool) (v21 : LD) (k0 : Bool → Option R) : F62x0 N rc v0 v1 v2 v3 v4 v5 v6 v7 v8 v9 v10 v11 v12 v13 v14 v15 v16 v17 v18 v19 v20 v21 k0 = (G62x0 N rc v0 v1 v2 v3 v4 v5 v6 v7 v8 v9 v10 v11 v12 v13 v14 v15 v16 v17 v18 v19 v20 v21).bind k0 := by
 unfold G62x0 F62x0
 repeat' (first | with_reducible apply cond_b | (with_reducible apply bnd_b; intro _) | rfl)
def J62x0 (rc : Rc36x1) (L : List Lf) (k0 : Bool → Option R) : Option R := F62x0 N rc (li L 0) (ls L 1) (li L 2) (li L 3) (li L 4) (lb L 5) (li L 6) (li L 7) (li L 8) (lb L 9) (ll L 10) (li L 11) (ls L 12) (li L 13) (li L 14) (li L 15) (lb L 16) (li L 17) (li L 18) (li L 19) (lb L 20) (ll L 21) k0
def sh62x0 : Sh := { tmps := [(0, .g (.i .i64 :: .s :: .i .i64 :: .i .i64 :: .i .i64 :: [.b, .i .i64, .i .i64, .i .i64, .sl 64])), (1, .g (.i .i64 :: .s :: .i .i64 :: .i .i64 :: .i .i64 :: [.b, .i .i64, .i .i64, .i .i64, .sl 64]))], mem := [] }
def A62x0 (rc : Rc36x1) (L : List Lf) : List (Bool × Res) := bnd (J62x0 N rc L (fun p => some p)) fun q => [(q.isSome, ([.c (.b (q.getD default))], []))]
theorem raw62x0 (rc : Rc36x1) (hR : OracleOk Tryz.prog ((O36x1 N) rc)) (L : List Lf) : bd Tryz.prog ((O36x1 N) rc) ((h62x0s1 N) rc hR).h 62 sh62x0 L = J62x0 N rc L (fun p => some ([.c (.b p)], [])) := by kernel_rfl
theorem ok62x0 (rc : Rc36x1) (hR : OracleOk Tryz.prog ((O36x1 N) rc)) : FnOk Tryz.prog 62 sh62x0 ((A62x0 N) rc) :=
 ((h62x0s1 N) rc hR).fn progOk hR fun L x hx => ((raw62x0 N rc hR L).trans ((bind62x0 N rc ..).trans (alt1 x hx)))
def T62x0 (rc : Rc36x1) : Oracle := ext 62 (spSh sh62x0 ((A62x0 N) rc)) ((O36x1 N) rc)
theorem T62x0_ok (rc : Rc36x1) (hR : OracleOk Tryz.prog ((O36x1 N) rc)) : OracleOk Tryz.prog ((T62x0 N) rc) := FnOk.to ((ok62x0 N) rc hR) hR
def rg61x0 : List (Nat × List Nat) := [(0, [0, 1, 2]), (1, [0, 1, 2]), (2, []), (3, [0, 1, 2]), (4, [17, 16, 15, 1, 2]), (5, [17, 15, 1, 2, 16]), (6, [1, 7, 2, 8, 17, 16, 15]), (7, [2, 8, 9, 17, 16, 15, 1]), (8, []), (9, [17, 16, 15, 1, 2]), (10, [])]
def hd61x0 : Hints := [(12, [1, 2, 15, 16, 17], [], [])]
def h61x0s0 (rc : Rc36x1) (hR : OracleOk Tryz.prog ((O36x1 N) rc)) : Sg Tryz.prog 0 61 := .start hd61x0 rg61x0
def S61x0x12 (rc : Rc36x1) (w1 w3 : LD) (w4 : Int) (w5 : Int) (kr : Int → Option R) (k0 : Unit → Option R) (k1 : Unit → Option R) : Option R :=
 bif (decide (w5 < w4)) then
  bif (inB w5 w3.length) then
   bif (inB w5 w1.length) then
    bnd (G62x0 N rc ((w3.getD w5.toNat (.i 0)).cell 0).toI ((w3.getD w5.toNat (.i 0)).cell 1).toS ((w3.getD w5.toNat (.i 0)).cell 2).toI ((w3.getD w5.toNat (.i 0)).cell 3).toI ((w3.getD w5.toNat (.i 0)).cell 4).toI ((w3.getD w5.toNat (.i 0)).cell 5).toB ((w3.getD w5.toNat (.i 0)).cell 6).toI ((w3.getD w5.toNat (.i 0)).cell 7).toI ((w3.getD w5.toNat (.i 0)).cell 8).toI ((w3.getD w5.toNat (.i 0)).cell 9).isNil ((w3.getD w5.toNat (.i 0)).cell 9).items ((w1.getD w5.toNat (.i 0)).cell 0).toI ((w1.getD w5.toNat (.i 0)).cell 1).toS ((w1.getD w5.toNat (.i 0)).cell 2).toI ((w1.getD w5.toNat (.i 0)).cell 3).toI ((w1.getD w5.toNat (.i 0)).cell 4).toI ((w1.getD w5.toNat (.i 0)).cell 5).toB ((w1.getD w5.toNat (.i 0)).cell 6).toI ((w1.getD w5.toNat (.i 0)).cell 7).toI ((w1.getD w5.toNat (.i 0)).cell 8).toI ((w1.getD w5.toNat (.i 0)).cell 9).isNil ((w1.getD w5.toNat (.i 0)).cell 9).items) fun y0 =>
    bif y0.isSome then
     bif (!(y0.getD default)) then
      k0 ()
     else
      kr (IntKind.wrap .i64 (w5 + 1))
    else
     none
   else
    none
  else
   none
 else
  k1 ()
def L61x0x12 (N : Nat) (rc : Rc36x1) {R : Type} (w1 w3 : LD) (w4 : Int) : Nat → Int → (Unit → Option R) → (Unit → Option R) → Option R
 | 0, _, _, _ => none
 | m + 1, w5, k0, k1 => S61x0x12 N rc w1 w3 w4 w5 (fun w5 => L61x0x12 N rc w1 w3 w4 m w5 k0 k1) k0 k1
def G61x0x12 (rc : Rc36x1) (w1 w3 : LD) (w4 : Int) (w5 : Int) : Option (Sum (Unit) (Unit)) := L61x0x12 N rc (R := (Sum (Unit) (Unit))) w1 w3 w4 N w5 (fun p => some (.inl p)) (fun p => some (.inr p))
def J61x0x12 (rc : Rc36x1) (L x : List Lf) (kr : List Lf → Option R) (k0 : Unit → Option R) (k1 : Unit → Option R) : Option R := S61x0x12 N rc (ll L 1) (ll L 3) (li L 4) (li x 0) (fun w5 => kr [.i w5]) k0 k1
theorem sb61x0x12 (rc : Rc36x1) (L x : List Lf) (kr : List Lf → Option R) (k0 : Unit → Option R) (k1 : Unit → Option R) : J61x0x12 N rc L x kr k0 k1 = (J61x0x12 N rc L x (fun y => some (.inl y)) (fun p => some (.inr (.inl p))) (fun p => some (.inr (.inr p)))).bind (sumE kr (sumE k0 k1)) := by
 unfold J61x0x12 S61x0x12
 repeat' (first | with_reducible apply cond_b | (with_reducible apply bnd_b; intro _) | rfl)
def Q61x0x12 (rc : Rc36x1) (L : List Lf) (m : Nat) (x : List Lf) : Option (Sum (Unit) (Unit)) := L61x0x12 N rc (R := (Sum (Unit) (Unit))) (ll L 1) (ll L 3) (li L 4) m (li x 0) (fun p => some (.inl p)) (fun p => some (.inr p))
def sh61x0x12 : Sh := { tmps := [(1, .c (.sl 64)), (2, .c (.f 62 [])), (15, .c (.sl 64)), (16, .c (.i .i64)), (17, .c (.i .i64))], mem := [] }
def A61x0x12 (rc : Rc36x1) (L : List Lf) : List (Bool × (Ex × St)) := bnd (Q61x0x12 N rc L N (pk sh61x0x12 [5] L)) fun q => [((inlB q), (.ret, ⟨[(6, .c (.b false))], []⟩)), ((inrQ q).isSome, ((.exit 0), ⟨[], []⟩))]
theorem step61x0x12 (rc : Rc36x1) (hR : OracleOk Tryz.prog ((O36x1 N) rc)) (m : Nat) (kn : St → Option (Ex × St)) (L x : List Lf) : lpB Tryz.prog ((T62x0 N) rc) ((h61x0s0 N) rc hR).h 0 61 12 sh61x0x12 [5] [6] [] (m + 100) kn L x = J61x0x12 N rc L x (fun y => kn (ofSh sh61x0x12 (mx sh61x0x12 [5] L y))) (fun _ => some (.ret, ⟨[(6, .c (.b false))], []⟩)) (fun _ => some ((.exit 0), ⟨[], []⟩)) := by kernel_rfl
theorem ql61x0x12 (rc : Rc36x1) (L : List Lf) (m : Nat) (x : List Lf) : Q61x0x12 N rc L (m + 1) x = J61x0x12 N rc L x (Q61x0x12 N rc L m) (fun p => some (.inl p)) (fun p => some (.inr p)) := by kernel_rfl
def h61x0s1 (rc : Rc36x1) (hR : OracleOk Tryz.prog ((O36x1 N) rc)) : Sg Tryz.prog 0 61 :=
 ((h61x0s0 N) rc hR).lp ((A61x0x12 N) rc) N progOk ((T62x0_ok N) rc hR) (fun m kn L x => (step61x0x12 N rc hR m kn L x).trans (sb61x0x12 N rc L x _ _ _)) (fun L m x => (ql61x0x12 N rc L m x).trans (sb61x0x12 N rc L x (Q61x0x12 N rc L m) (fun p => some (.inl p)) (fun p => some (.inr p)))) fun L x hx => (altS alt1) x hx
def F61x0 (rc : Rc36x1) (v1 v3 : LD) (k0 : Bool → Option R) : Option R :=
 bif ((v1.length : Int) != (v3.length : Int)) then
  k0 false
 else
  bnd (G61x0x12 N rc v3 v1 (v1.length : Int) 0) fun y0 =>
  bif (inlB y0) then
   k0 false
  else
   bif (inrQ y0).isSome then
    k0 true
   else
    none
def G61x0 (rc : Rc36x1) (v1 v3 : LD) : Option (Bool) := F61x0 N rc v1 v3 (fun p => some p)
theorem bind61x0 (rc : Rc36x1) (v1 v3 : LD) (k0 : Bool → Option R) : F61x0 N rc v1 v3 k0 = (G61x0 N rc v1 v3).bind k0 := by
 unfold G61x0 F61x0
 repeat' (first | with_reducible apply cond_b | (with_reducible apply bnd_b; intro _) | rfl)
def sh61x0 : Sh := { tmps := [(0, .c (.sl 64)), (1, .c (.sl 64)), (2, .c (.f 62 []))], mem := [] }
def A61x0 (rc : Rc36x1) (L : List Lf) : List (Bool × Res) := bnd (F61x0 N rc (ll L 1) (ll L 3) (fun p => some p)) fun q => [(q.isSome, ([.c (.b (q.getD default))], []))]
theorem raw61x0 (rc : Rc36x1) (hR : OracleOk Tryz.prog ((O36x1 N) rc)) (L : List Lf) : bd Tryz.prog ((T62x0 N) rc) ((h61x0s1 N) rc hR).h 61 sh61x0 L = F61x0 N rc (ll L 1) (ll L 3) (fun p => some ([.c (.b p)], [])) := by kernel_rfl
theorem ok61x0 (rc : Rc36x1) (hR : OracleOk Tryz.prog ((O36x1 N) rc)) : FnOk Tryz.prog 61 sh61x0 ((A61x0 N) rc) :=
 ((h61x0s1 N) rc hR).fn progOk ((T62x0_ok N) rc hR) fun L x hx => ((raw61x0 N rc hR L).trans ((bind61x0 N rc ..).trans (alt1 x hx)))
def T61x0 (rc : Rc36x1) : Oracle := ext 61 (spSh sh61x0 ((A61x0 N) rc)) ((T62x0 N) rc)
theorem T61x0_ok (rc : Rc36x1) (hR : OracleOk Tryz.prog ((O36x1 N) rc)) : OracleOk Tryz.prog ((T61x0 N) rc) := FnOk.to ((ok61x0 N) rc hR) ((T62x0_ok N) rc hR)
def rg36x1 : List (Nat × List Nat) := [(0, [0, 1]), (1, [0, 1])]
def hd36x1 : Hints := []
def h36x1s0 (rc : Rc36x1) (hR : OracleOk Tryz.prog ((O36x1 N) rc)) : Sg Tryz.prog 0 36 := .start hd36x1 rg36x1
def F36x1 (rc : Rc36x1) (v0 : Bool) (v1 : LD) (v2 : Bool) (v3 : LD) (k0 : Bool → Option R) : Option R :=
 bnd (G61x0 N rc v1 v3) fun y0 =>
 bif y0.isSome then
  k0 (y0.getD default)
 else
  none
def G36x1 (rc : Rc36x1) (v0 : Bool) (v1 : LD) (v2 : Bool) (v3 : LD) : Option (Bool) := F36x1 N rc v0 v1 v2 v3 (fun p => some p)
theorem bind36x1 (rc : Rc36x1) (v0 : Bool) (v1 : LD) (v2 : Bool) (v3 : LD) (k0 : Bool → Option R) : F36x1 N rc v0 v1 v2 v3 k0 = (G36x1 N rc v0 v1 v2 v3).bind k0 := by
 unfold G36x1 F36x1
 repeat' (first | with_reducible apply cond_b | (with_reducible apply bnd_b; intro _) | rfl)
def J36x1 (rc : Rc36x1) (L : List Lf) (k0 : Bool → Option R) : Option R := F36x1 N rc (lb L 0) (ll L 1) (lb L 2) (ll L 3) k0
theorem raw36x1 (rc : Rc36x1) (hR : OracleOk Tryz.prog ((O36x1 N) rc)) (L : List Lf) : bd Tryz.prog ((T61x0 N) rc) ((h36x1s0 N) rc hR).h 36 sh36x1 L = J36x1 N rc L (fun p => some ([.c (.b p)], [])) := by kernel_rfl
theorem fin36x1 (rc : Rc36x1) (hR : OracleOk Tryz.prog ((O36x1 N) rc)) (L : List Lf) (x : Res) (hx : altK ((B36x1 N) (fun v0 v1 v2 v3 => G36x1 N rc v0 v1 v2 v3) L) some = some x) : CallOk Tryz.prog 36 (valsOf (ofSh sh36x1 L).tmps) (ofSh sh36x1 L).mem x :=
 callOk_of (n := 200) progOk ((T61x0_ok N) rc hR) ((h36x1s0 N) rc hR).ok rfl ((raw36x1 N rc hR L).trans ((bind36x1 N rc ..).trans (alt1 x hx)))
def R36x1 (N : Nat) : Nat → Rc36x1
 | 0 => fun _ _ _ _ => none
 | m + 1 => fun v0 v1 v2 v3 => G36x1 N (R36x1 N m) v0 v1 v2 v3
theorem Rok36x1 (N : Nat) : ∀ m, OracleOk Tryz.prog ((O36x1 N) (R36x1 N m))
 | 0 => ext_ok (T79x0_ok N) (AM.enters_of (by kernel_rfl)) (spSh_law fun L x hx => by
  have h : (none : Option Res) = some x := hx
  cases h)
 | m + 1 => ext_ok (T79x0_ok N) (AM.enters_of (by kernel_rfl)) (spSh_law fun L x hx => fin36x1 N (R36x1 N m) (Rok36x1 N m) L x hx)
def T36x1 : Oracle := (O36x1 N) (R36x1 N N)
theorem T36x1_ok : OracleOk Tryz.prog (T36x1 N) := Rok36x1 N N
def rg80x0 : List (Nat × List Nat) := [(0, [1, 0]), (1, [1, 0]), (2, [5, 1, 0]), (3, [5, 1, 0]), (4, [5])]
def hd80x0 : Hints := [(6, [0, 1, 5], [], []), (7, [0, 1, 5], [], [])]
def h80x0s0 (N : Nat) : Sg Tryz.prog 0 80 := .start hd80x0 rg80x0
def F80x0x7 (w0 : Bool) (w1 : LD) (w2 w3 : Int) (k0 : Bool → Option R) : Option R :=
 bif (decide (w3 < 99)) then
  bnd (decide ((IntKind.wrap .i64 ((IntKind.wrap .i64 (w3 + 1)) * w2)) ≤ (w1.length : Int))) fun y0 =>
  bif y0 then
   bif ((decide (0 ≤ w2)) && (decide (w2 ≤ (w1.length : Int)))) then
    bif (((decide (0 ≤ (IntKind.wrap .i64 (w3 * w2)))) && (decide ((IntKind.wrap .i64 (w3 * w2)) ≤ (IntKind.wrap .i64 ((IntKind.wrap .i64 (w3 + 1)) * w2))))) && (decide ((IntKind.wrap .i64 ((IntKind.wrap .i64 (w3 + 1)) * w2)) ≤ (w1.length : Int)))) then
     bnd (((w1.take (IntKind.wrap .i64 ((IntKind.wrap .i64 (w3 + 1)) * w2)).toNat).drop (IntKind.wrap .i64 (w3 * w2)).toNat) : List D) fun y1 =>
     bnd (R36x1 N N w0 ((w1.take w2.toNat).drop 0) w0 y1) fun y2 =>
     bif y2.isSome then
      k0 (y2.getD default)
     else
      none
    else
     none
   else
    none
  else
   k0 false
 else
  k0 false
def G80x0x7 (w0 : Bool) (w1 : LD) (w2 w3 : Int) : Option (Bool) := F80x0x7 N w0 w1 w2 w3 (fun p => some p)
theorem bind80x0x7 (w0 : Bool) (w1 : LD) (w2 w3 : Int) (k0 : Bool → Option R) : F80x0x7 N w0 w1 w2 w3 k0 = (G80x0x7 N w0 w1 w2 w3).bind k0 := by
 unfold G80x0x7 F80x0x7
 repeat' (first | with_reducible apply cond_b | (with_reducible apply bnd_b; intro _) | rfl)
def J80x0x7 (L : List Lf) (k0 : Bool → Option R) : Option R := F80x0x7 N (lb L 0) (ll L 1) (li L 2) (li L 3) k0
def sh80x0x7 : Sh := { tmps := [(0, .c (.sl 64)), (1, .c (.i .i64)), (5, .c (.i .i64))], mem := [] }
def K80x0x7w0 (L : List Lf) (p : Bool) : Ex × St := (.normal, mg (ofSh sh80x0x7 L) [5, 1, 0, 31] [(31, .c (.b p))] [] [])
def A80x0x7 (L : List Lf) : List (Bool × (Ex × St)) := bnd (J80x0x7 N L (fun p => some p)) fun q => [(q.isSome, K80x0x7w0 L (q.getD default))]
theorem raw80x0x7 (L : List Lf) : pc Tryz.prog (T36x1 N) (h80x0s0 N).h 0 100 80 7 sh80x0x7 L [5, 1, 0, 31] [] = J80x0x7 N L (fun p => some (K80x0x7w0 L p)) := by kernel_rfl
def h80x0s1 : Sg Tryz.prog 0 80 :=
 (h80x0s0 N).cut (A80x0x7 N) progOk (T36x1_ok N) fun L x hx => (raw80x0x7 N L).trans ((bind80x0x7 N ..).trans (alt1 x hx))
def S80x0x6 (w0 : Bool) (w1 : LD) (w2 : Int) (w3 : Int) (kr : Int → Option R) (k0 : Int → Option R) : Option R :=
 bnd (G80x0x7 N w0 w1 w2 w3) fun y0 =>
 bif y0.isSome then
  bif (y0.getD default) then
   kr (IntKind.wrap .i64 (w3 + 1))
  else
   k0 w3
 else
  none
def L80x0x6 (N : Nat) {R : Type} (w0 : Bool) (w1 : LD) (w2 : Int) : Nat → Int → (Int → Option R) → Option R
 | 0, _, _ => none
 | m + 1, w3, k0 => S80x0x6 N w0 w1 w2 w3 (fun w3 => L80x0x6 N w0 w1 w2 m w3 k0) k0
def G80x0x6 (w0 : Bool) (w1 : LD) (w2 : Int) (w3 : Int) : Option (Int) := L80x0x6 N (R := (Int)) w0 w1 w2 N w3 (fun p => some p)
def J80x0x6 (L x : List Lf) (kr : List Lf → Option R) (k0 : Int → Option R) : Option R := S80x0x6 N (lb L 0) (ll L 1) (li L 2) (li x 0) (fun w3 => kr [.i w3]) k0
theorem sb80x0x6 (L x : List Lf) (kr : List Lf → Option R) (k0 : Int → Option R) : J80x0x6 N L x kr k0 = (J80x0x6 N L x (fun y => some (.inl y)) (fun p => some (.inr p))).bind (sumE kr k0) := by
 unfold J80x0x6 S80x0x6
 repeat' (first | with_reducible apply cond_b | (with_reducible apply bnd_b; intro _) | rfl)
def Q80x0x6 (L : List Lf) (m : Nat) (x : List Lf) : Option (Int) := L80x0x6 N (R := (Int)) (lb L 0) (ll L 1) (li L 2) m (li x 0) (fun p => some p)
def sh80x0x6 : Sh := { tmps := [(0, .c (.sl 64)), (1, .c (.i .i64)), (5, .c (.i .i64))], mem := [] }
def A80x0x6 (L : List Lf) : List (Bool × (Ex × St)) := bnd (Q80x0x6 N L N (pk sh80x0x6 [3] L)) fun q => [(q.isSome, ((.exit 0), ⟨[(5, .c (.i .i64 (q.getD default)))], []⟩))]
theorem step80x0x6 (m : Nat) (kn : St → Option (Ex × St)) (L x : List Lf) : lpB Tryz.prog (T36x1 N) (h80x0s1 N).h 0 80 6 sh80x0x6 [3] [4, 5] [] (m + 100) kn L x = J80x0x6 N L x (fun y => kn (ofSh sh80x0x6 (mx sh80x0x6 [3] L y))) (fun p => some ((.exit 0), ⟨[(5, .c (.i .i64 p))], []⟩)) := by kernel_rfl
theorem ql80x0x6 (L : List Lf) (m : Nat) (x : List Lf) : Q80x0x6 N L (m + 1) x = J80x0x6 N L x (Q80x0x6 N L m) some := by kernel_rfl
def h80x0s2 : Sg Tryz.prog 0 80 :=
 (h80x0s1 N).lp (A80x0x6 N) N progOk (T36x1_ok N) (fun m kn L x => (step80x0x6 N m kn L x).trans (sb80x0x6 N L x _ _)) (fun L m x => (ql80x0x6 N L m x).trans (sb80x0x6 N L x (Q80x0x6 N L m) some)) fun L x hx => alt1 x hx
def F80x0 (v0 : Bool) (v1 : LD) (v2 : Int) (k0 : Int → Option R) : Option R :=
 bnd (G80x0x6 N v0 v1 v2 1) fun y0 =>
 bif y0.isSome then
  k0 (y0.getD default)
 else
  none
def G80x0 (v0 : Bool) (v1 : LD) (v2 : Int) : Option (Int) := F80x0 N v0 v1 v2 (fun p => some p)
theorem bind80x0 (v0 : Bool) (v1 : LD) (v2 : Int) (k0 : Int → Option R) : F80x0 N v0 v1 v2 k0 = (G80x0 N v0 v1 v2).bind k0 := by
 unfold G80x0 F80x0
 repeat' (first | with_reducible apply cond_b | (with_reducible apply bnd_b; intro _) | rfl)
def sh80x0 : Sh := { tmps := [(0, .c (.sl 64)), (1, .c (.i .i64))], mem := [] }
def A80x0 (L : List Lf) : List (Bool × Res) := bnd (F80x0 N (lb L 0) (ll L 1) (li L 2) (fun p => some p)) fun q => [(q.isSome, ([.c (.i .i64 (q.getD default))], []))]
theorem raw80x0 (L : List Lf) : bd Tryz.prog (T36x1 N) (h80x0s2 N).h 80 sh80x0 L = F80x0 N (lb L 0) (ll L 1) (li L 2) (fun p => some ([.c (.i .i64 p)], [])) := by kernel_rfl
theorem ok80x0 : FnOk Tryz.prog 80 sh80x0 (A80x0 N) :=
 (h80x0s2 N).fn progOk (T36x1_ok N) fun L x hx => ((raw80x0 N L).trans ((bind80x0 N ..).trans (alt1 x hx)))
def T80x0 : Oracle := ext 80 (spSh sh80x0 (A80x0 N)) (T36x1 N)
theorem T80x0_ok : OracleOk Tryz.prog (T80x0 N) := FnOk.to (ok80x0 N) (T36x1_ok N)
abbrev Rc54x1 : Type := Bool → LD → Int → Option (Bool × LD)
def sh54x1 : Sh := { tmps := [(0, .c (.sl 64)), (1, .c (.i .i64))], mem := [] }
def B54x1 (N : Nat) (rc : Rc54x1) (L : List Lf) : List (Bool × Res) := bnd (rc (lb L 0) (ll L 1) (li L 2)) fun q => [(q.isSome, ([.c (.sl 64 (q.getD default).1 (q.getD default).2)], []))]
def O54x1 (rc : Rc54x1) : Oracle := ext 54 (spSh sh54x1 ((B54x1 N) rc)) (T80x0 N)
def rg54x1 : List (Nat × List Nat) := [(0, [1, 0]), (1, [1, 0]), (2, [0]), (3, [0, 1]), (4, [0, 5, 1]), (5, [0, 5, 1]), (6, [0, 6, 5, 8, 7, 1]), (7, [9, 0, 6, 5, 1, 8, 7]), (9, [0, 9, 6, 5, 1, 8, 7]), (10, [9, 10, 6, 0, 5, 1, 8, 7]), (11, [9, 10, 0, 5, 1]), (8, [9, 0, 6, 5, 8, 7, 1]), (12, [6, 5, 8, 0, 7, 1]), (14, [5, 0, 7, 8, 1]), (13, [5, 8, 0, 7, 1]), (15, [0, 7, 8, 5, 1]), (16, [5])]
def hd54x1 : Hints := [(7, [0], [], []), (12, [0, 1, 5], [5], [5]), (21, [0, 1, 5, 6, 7, 8, 9], [5], [5]), (35, [0, 1, 5, 6, 7, 8, 9, 10, 35], [5], []), (42041, [0, 1, 5, 7, 8, 45], [5], [])]
def h54x1s0 (rc : Rc54x1) (hR : OracleOk Tryz.prog ((O54x1 N) rc)) : Sg Tryz.prog 0 54 := .start hd54x1 rg54x1
def F54x1x7 (rc : Rc54x1) (w0 : Bool) (w1 : LD) (k0 : Unit → Option R) (k1 : Bool → Option R) : Option R :=
 bnd (G79x0 N w0 w1) fun y0 =>
 bif (inlB y0) then
  k0 ()
 else
  bif (inrQ y0).isSome then
   k1 ((inrQ y0).getD default)
  else
   none
def G54x1x7 (rc : Rc54x1) (w0 : Bool) (w1 : LD) : Option (Sum (Unit) (Bool)) := F54x1x7 N rc w0 w1 (fun p => some (.inl p)) (fun p => some (.inr p))
theorem bind54x1x7 (rc : Rc54x1) (w0 : Bool) (w1 : LD) (k0 : Unit → Option R) (k1 : Bool → Option R) : F54x1x7 N rc w0 w1 k0 k1 = (G54x1x7 N rc w0 w1).bind (sumE k0 k1) := by
 unfold G54x1x7 F54x1x7
 repeat' (first | with_reducible apply cond_b | (with_reducible apply bnd_b; intro _) | rfl)
def sh54x1x7 : Sh := { tmps := [(0, .c (.sl 64))], mem := [] }
def K54x1x7w1 (L : List Lf) (p : Bool) : Ex × St := (.normal, ⟨[(4, .c (.o 15000000007))], [(15000000007, .row 64 true p (ll L 1))]⟩)
def A54x1x7 (rc : Rc54x1) (L : List Lf) : List (Bool × (Ex × St)) := bnd (F54x1x7 N rc (lb L 0) (ll L 1) (fun p => some (.inl p)) (fun p => some (.inr p))) fun q => [((inlB q), (.normal, ⟨[(4, .c (.sl 64 true []))], []⟩)), ((inrQ q).isSome, K54x1x7w1 L ((inrQ q).getD default))]
theorem raw54x1x7 (rc : Rc54x1) (hR : OracleOk Tryz.prog ((O54x1 N) rc)) (L : List Lf) : pc Tryz.prog ((O54x1 N) rc) ((h54x1s0 N) rc hR).h 0 100 54 7 sh54x1x7 L [4] [15000000007] = F54x1x7 N rc (lb L 0) (ll L 1) (fun _ => some (.normal, ⟨[(4, .c (.sl 64 true []))], []⟩)) (fun p => some (K54x1x7w1 L p)) := by kernel_rfl
def h54x1s1 (rc : Rc54x1) (hR : OracleOk Tryz.prog ((O54x1 N) rc)) : Sg Tryz.prog 0 54 :=
 ((h54x1s0 N) rc hR).cut ((A54x1x7 N) rc) progOk hR fun L x hx => (raw54x1x7 N rc hR L).trans ((bind54x1x7 N rc ..).trans ((altS alt1) x hx))
def F54x1x35 (N : Nat) (rc : Rc54x1) (w3 w4 w5 w6 w7 : Int) (w8 : Bool) (k0 : Int × Int × Int → R) : R :=
 bif w8 then
  bnd (IntKind.wrap .i64 ((IntKind.wrap .i64 ((IntKind.wrap .i64 (w6 * w7)) - w6)) - 1)) fun y0 =>
  k0 (y0, w7, w6)
 else
  k0 (w3, w5, w4)
def V54x1x35 (rc : Rc54x1) (w3 w4 w5 w6 w7 : Int) (w8 : Bool) : Int × Int × Int := F54x1x35 N rc w3 w4 w5 w6 w7 w8 (fun p => p)
theorem tot54x1x35 (rc : Rc54x1) (w3 w4 w5 w6 w7 : Int) (w8 : Bool) (k0 : Int × Int × Int → R) : F54x1x35 N rc w3 w4 w5 w6 w7 w8 k0 = k0 (V54x1x35 N rc w3 w4 w5 w6 w7 w8) := by
 unfold V54x1x35 F54x1x35
 repeat' (first | rfl | apply cond_k | (apply bnd_k; intro _))
def J54x1x35 (rc : Rc54x1) (L : List Lf) (k0 : Int × Int × Int → R) : R := F54x1x35 N rc (li L 3) (li L 4) (li L 5) (li L 6) (li L 7) (lb L 8) k0
def sh54x1x35 : Sh := { tmps := [(0, .c (.sl 64)), (1, .c (.i .i64)), (5, .c (.o 5)), (6, .c (.i .i64)), (7, .c (.i .i64)), (8, .c (.i .i64)), (9, .c (.i .i64)), (10, .c (.i .i64)), (35, .c (.b))], mem := [(5, .row 64 true)] }
def K54x1x35w0 (L : List Lf) (p : Int × Int × Int) : Ex × St := (.normal, mg (ofSh sh54x1x35 L) [9, 0, 6, 5, 8, 7, 1] [(6, .c (.i .i64 p.1)), (8, .c (.i .i64 p.2.1)), (7, .c (.i .i64 p.2.2))] [5] [])
def A54x1x35 (rc : Rc54x1) (L : List Lf) : List (Bool × (Ex × St)) := bnd (J54x1x35 N rc L (fun p => p)) fun q => [(true, K54x1x35w0 L q)]
theorem raw54x1x35 (rc : Rc54x1) (hR : OracleOk Tryz.prog ((O54x1 N) rc)) (L : List Lf) : pc Tryz.prog ((O54x1 N) rc) ((h54x1s1 N) rc hR).h 0 100 54 35 sh54x1x35 L [9, 0, 6, 5, 8, 7, 1] [5] = J54x1x35 N rc L (fun p => some (K54x1x35w0 L p)) := by kernel_rfl
def h54x1s2 (rc : Rc54x1) (hR : OracleOk Tryz.prog ((O54x1 N) rc)) : Sg Tryz.prog 0 54 :=
 ((h54x1s1 N) rc hR).cut ((A54x1x35 N) rc) progOk hR fun L x hx => (raw54x1x35 N rc hR L).trans ((tot54x1x35 N rc ..).trans (alt0 _ _ hx))
def S54x1x21 (rc : Rc54x1) (w0 : Bool) (w1 : LD) (w3 w4 w5 w6 : Int) (kr : Int → Int → Int → Int → Option R) (k0 : Int × Int × Int → Option R) : Option R :=
 bif (decide ((IntKind.wrap .i64 (2 * w6)) ≤ (w1.length : Int))) then
  bnd (G80x0 N w0 w1 w6) fun y0 =>
  bif y0.isSome then
   bnd (IntKind.wrap .i64 ((IntKind.wrap .i64 (w6 * (y0.getD default))) - w6)) fun y1 =>
   bnd (V54x1x35 N rc w3 w4 w5 w6 (y0.getD default) (decide ((IntKind.wrap .i64 (y1 - 1)) > w3))) fun y2 =>
   kr y2.1 y2.2.2 y2.2.1 (IntKind.wrap .i64 (w6 + 1))
  else
   none
 else
  k0 (w3, w5, w4)
def L54x1x21 (N : Nat) (rc : Rc54x1) {R : Type} (w0 : Bool) (w1 : LD) : Nat → Int → Int → Int → Int → (Int × Int × Int → Option R) → Option R
 | 0, _, _, _, _, _ => none
 | m + 1, w3, w4, w5, w6, k0 => S54x1x21 N rc w0 w1 w3 w4 w5 w6 (fun w3 w4 w5 w6 => L54x1x21 N rc w0 w1 m w3 w4 w5 w6 k0) k0
def G54x1x21 (rc : Rc54x1) (w0 : Bool) (w1 : LD) (w3 w4 w5 w6 : Int) : Option (Int × Int × Int) := L54x1x21 N rc (R := (Int × Int × Int)) w0 w1 N w3 w4 w5 w6 (fun p => some p)
def J54x1x21 (rc : Rc54x1) (L x : List Lf) (kr : List Lf → Option R) (k0 : Int × Int × Int → Option R) : Option R := S54x1x21 N rc (lb L 0) (ll L 1) (li x 0) (li x 1) (li x 2) (li x 3) (fun w3 w4 w5 w6 => kr [.i w3, .i w4, .i w5, .i w6]) k0
theorem sb54x1x21 (rc : Rc54x1) (L x : List Lf) (kr : List Lf → Option R) (k0 : Int × Int × Int → Option R) : J54x1x21 N rc L x kr k0 = (J54x1x21 N rc L x (fun y => some (.inl y)) (fun p => some (.inr p))).bind (sumE kr k0) := by
 unfold J54x1x21 S54x1x21
 repeat' (first | with_reducible apply cond_b | (with_reducible apply bnd_b; intro _) | rfl)
def Q54x1x21 (rc : Rc54x1) (L : List Lf) (m : Nat) (x : List Lf) : Option (Int × Int × Int) := L54x1x21 N rc (R := (Int × Int × Int)) (lb L 0) (ll L 1) m (li x 0) (li x 1) (li x 2) (li x 3) (fun p => some p)
def sh54x1x21 : Sh := { tmps := [(0, .c (.sl 64)), (1, .c (.i .i64)), (5, .c (.o 5)), (6, .c (.i .i64)), (7, .c (.i .i64)), (8, .c (.i .i64)), (9, .c (.i .i64))], mem := [(5, .row 64 true)] }
def K54x1x21w0 (L : List Lf) (p : Int × Int × Int) : Ex × St := ((.exit 2), mg (ofSh sh54x1x21 L) [6, 5, 8, 0, 7, 1] [(6, .c (.i .i64 p.1)), (8, .c (.i .i64 p.2.1)), (7, .c (.i .i64 p.2.2))] [5] [])
def A54x1x21 (rc : Rc54x1) (L : List Lf) : List (Bool × (Ex × St)) := bnd (Q54x1x21 N rc L N (pk sh54x1x21 [3, 4, 5, 6] L)) fun q => [(q.isSome, K54x1x21w0 L (q.getD default))]
theorem step54x1x21 (rc : Rc54x1) (hR : OracleOk Tryz.prog ((O54x1 N) rc)) (m : Nat) (kn : St → Option (Ex × St)) (L x : List Lf) : lpB Tryz.prog ((O54x1 N) rc) ((h54x1s2 N) rc hR).h 0 54 21 sh54x1x21 [3, 4, 5, 6] [4, 6, 5, 8, 0, 7, 1] [5] (m + 100) kn L x = J54x1x21 N rc L x (fun y => kn (ofSh sh54x1x21 (mx sh54x1x21 [3, 4, 5, 6] L y))) (fun p => some (K54x1x21w0 L p)) := by kernel_rfl
theorem ql54x1x21 (rc : Rc54x1) (L : List Lf) (m : Nat) (x : List Lf) : Q54x1x21 N rc L (m + 1) x = J54x1x21 N rc L x (Q54x1x21 N rc L m) some := by kernel_rfl
def h54x1s3 (rc : Rc54x1) (hR : OracleOk Tryz.prog ((O54x1 N) rc)) : Sg Tryz.prog 0 54 :=
 ((h54x1s2 N) rc hR).lp ((A54x1x21 N) rc) N progOk hR (fun m kn L x => (step54x1x21 N rc hR m kn L x).trans (sb54x1x21 N rc L x _ _)) (fun L m x => (ql54x1x21 N rc L m x).trans (sb54x1x21 N rc L x (Q54x1x21 N rc L m) some)) fun L x hx => alt1 x hx
def F54x1x42041 (N : Nat) (rc : Rc54x1) (w0 : Bool) (w1 : LD) (w2 w3 w4 : Int) (w5 : Bool) (w7 : LD) (k0 : LD → Option R) (k1 : LD → Option R) : Option R :=
 bif w5 then
  bif ((decide (0 ≤ w3)) && (decide (w3 ≤ (w1.length : Int)))) then
   bnd (rc w0 ((w1.take w3.toNat).drop 0) (IntKind.wrap .i64 (w2 + 1))) fun y0 =>
   bif y0.isSome then
    bif (decide ((w7.length + 1) * 104 ≤ room) && decide ((w7.length + 1) ≤ strMax)) then
     bnd ((w7 ++ [(.a [(.i 3), (.s ([] : List UInt8)), (.i 0), (.i 0), (.i 0), (.b false), (.i 0), (.i 0), (.i w4), (.l (y0.getD default).1 (y0.getD default).2)])]) : List D) fun y1 =>
     k0 y1
    else
     none
   else
    none
  else
   none
 else
  bif (inB 0 w1.length) then
   bif (decide ((w7.length + 1) * 104 ≤ room) && decide ((w7.length + 1) ≤ strMax)) then
    bnd ((w7 ++ [(.a [(.i ((w1.getD 0 (.i 0)).cell 0).toI), (.s ((w1.getD 0 (.i 0)).cell 1).toS), (.i ((w1.getD 0 (.i 0)).cell 2).toI), (.i ((w1.getD 0 (.i 0)).cell 3).toI), (.i ((w1.getD 0 (.i 0)).cell 4).toI), (.b ((w1.getD 0 (.i 0)).cell 5).toB), (.i ((w1.getD 0 (.i 0)).cell 6).toI), (.i ((w1.getD 0 (.i 0)).cell 7).toI), (.i ((w1.getD 0 (.i 0)).cell 8).toI), (.l ((w1.getD 0 (.i 0)).cell 9).isNil ((w1.getD 0 (.i 0)).cell 9).items)])]) : List D) fun y2 =>
    k1 y2
   else
    none
  else
   none
def G54x1x42041 (rc : Rc54x1) (w0 : Bool) (w1 : LD) (w2 w3 w4 : Int) (w5 : Bool) (w7 : LD) : Option (Sum (LD) (LD)) := F54x1x42041 N rc w0 w1 w2 w3 w4 w5 w7 (fun p => some (.inl p)) (fun p => some (.inr p))
theorem bind54x1x42041 (rc : Rc54x1) (w0 : Bool) (w1 : LD) (w2 w3 w4 : Int) (w5 : Bool) (w7 : LD) (k0 : LD → Option R) (k1 : LD → Option R) : F54x1x42041 N rc w0 w1 w2 w3 w4 w5 w7 k0 k1 = (G54x1x42041 N rc w0 w1 w2 w3 w4 w5 w7).bind (sumE k0 k1) := by
 unfold G54x1x42041 F54x1x42041
 repeat' (first | with_reducible apply cond_b | (with_reducible apply bnd_b; intro _) | rfl)
def J54x1x42041 (rc : Rc54x1) (L : List Lf) (k0 : LD → Option R) (k1 : LD → Option R) : Option R := F54x1x42041 N rc (lb L 0) (ll L 1) (li L 2) (li L 3) (li L 4) (lb L 5) (ll L 7) k0 k1
def sh54x1x42041 : Sh := { tmps := [(0, .c (.sl 64)), (1, .c (.i .i64)), (5, .c (.o 5)), (7, .c (.i .i64)), (8, .c (.i .i64)), (45, .c (.b))], mem := [(5, .row 64 true)] }
def K54x1x42041w0 (L : List Lf) (p : LD) : Ex × St := (.normal, mg (ofSh sh54x1x42041 L) [0, 7, 8, 5, 1] [(5, .c (.o 56))] [56] [(56, .row 64 true false p)])
def K54x1x42041w1 (L : List Lf) (p : LD) : Ex × St := (.normal, mg (ofSh sh54x1x42041 L) [0, 7, 8, 5, 1] [(5, .c (.o 62))] [62] [(62, .row 64 true false p)])
def A54x1x42041 (rc : Rc54x1) (L : List Lf) : List (Bool × (Ex × St)) := bnd (J54x1x42041 N rc L (fun p => some (.inl p)) (fun p => some (.inr p))) fun q => [((inlB q), K54x1x42041w0 L (inlV q)), ((inrQ q).isSome, K54x1x42041w1 L ((inrQ q).getD default))]
theorem raw54x1x42041 (rc : Rc54x1) (hR : OracleOk Tryz.prog ((O54x1 N) rc)) (L : List Lf) : pc Tryz.prog ((O54x1 N) rc) ((h54x1s3 N) rc hR).h 0 100 54 42041 sh54x1x42041 L [0, 7, 8, 5, 1] [56, 62] = J54x1x42041 N rc L (fun p => some (K54x1x42041w0 L p)) (fun p => some (K54x1x42041w1 L p)) := by kernel_rfl
def h54x1s4 (rc : Rc54x1) (hR : OracleOk Tryz.prog ((O54x1 N) rc)) : Sg Tryz.prog 0 54 :=
 ((h54x1s3 N) rc hR).cut ((A54x1x42041 N) rc) progOk hR fun L x hx => (raw54x1x42041 N rc hR L).trans ((bind54x1x42041 N rc ..).trans ((altS alt1) x hx))
def S54x1x12 (rc : Rc54x1) (w0 : Bool) (w2 : Int) (w1 : LD) (w3 : Bool) (w4 : LD) (kr : LD → Bool → LD → Option R) (k0 : Bool × LD → Option R) : Option R :=
 bif (decide ((w1.length : Int) > 0)) then
  bnd (G54x1x21 N rc w0 w1 0 1 1 1) fun y0 =>
  bif y0.isSome then
   bnd (G54x1x42041 N rc w0 w1 w2 (y0.getD default).2.2 (y0.getD default).2.1 (decide ((y0.getD default).1 > 0)) w4) fun y1 =>
   bif (inlB y1) then
    bnd (IntKind.wrap .i64 ((y0.getD default).2.2 * (y0.getD default).2.1)) fun y2 =>
    bif (((decide (0 ≤ y2)) && (decide (y2 ≤ (w1.length : Int)))) && (decide ((w1.length : Int) ≤ (w1.length : Int)))) then
     kr ((w1.take (w1.length : Int).toNat).drop y2.toNat) false (inlV y1)
    else
     none
   else
    bif (inrQ y1).isSome then
     bnd (IntKind.wrap .i64 ((y0.getD default).2.2 * (y0.getD default).2.1)) fun y2 =>
     bif (((decide (0 ≤ y2)) && (decide (y2 ≤ (w1.length : Int)))) && (decide ((w1.length : Int) ≤ (w1.length : Int)))) then
      kr ((w1.take (w1.length : Int).toNat).drop y2.toNat) false ((inrQ y1).getD default)
     else
      none
    else
     none
  else
   none
 else
  k0 (w3, w4)
def L54x1x12 (N : Nat) (rc : Rc54x1) {R : Type} (w0 : Bool) (w2 : Int) : Nat → LD → Bool → LD → (Bool × LD → Option R) → Option R
 | 0, _, _, _, _ => none
 | m + 1, w1, w3, w4, k0 => S54x1x12 N rc w0 w2 w1 w3 w4 (fun w1 w3 w4 => L54x1x12 N rc w0 w2 m w1 w3 w4 k0) k0
def G54x1x12 (rc : Rc54x1) (w0 : Bool) (w2 : Int) (w1 : LD) (w3 : Bool) (w4 : LD) : Option (Bool × LD) := L54x1x12 N rc (R := (Bool × LD)) w0 w2 N w1 w3 w4 (fun p => some p)
def J54x1x12 (rc : Rc54x1) (L x : List Lf) (kr : List Lf → Option R) (k0 : Bool × LD → Option R) : Option R := S54x1x12 N rc (lb L 0) (li L 2) (ll x 0) (lb x 1) (ll x 2) (fun w1 w3 w4 => kr [.l w1, .b w3, .l w4]) k0
theorem sb54x1x12 (rc : Rc54x1) (L x : List Lf) (kr : List Lf → Option R) (k0 : Bool × LD → Option R) : J54x1x12 N rc L x kr k0 = (J54x1x12 N rc L x (fun y => some (.inl y)) (fun p => some (.inr p))).bind (sumE kr k0) := by
 unfold J54x1x12 S54x1x12
 repeat' (first | with_reducible apply cond_b | (with_reducible apply bnd_b; intro _) | rfl)
def Q54x1x12 (rc : Rc54x1) (L : List Lf) (m : Nat) (x : List Lf) : Option (Bool × LD) := L54x1x12 N rc (R := (Bool × LD)) (lb L 0) (li L 2) m (ll x 0) (lb x 1) (ll x 2) (fun p => some p)
def sh54x1x12 : Sh := { tmps := [(0, .c (.sl 64)), (1, .c (.i .i64)), (5, .c (.o 5))], mem := [(5, .row 64 true)] }
def A54x1x12 (rc : Rc54x1) (L : List Lf) : List (Bool × (Ex × St)) := bnd (Q54x1x12 N rc L N (pk sh54x1x12 [1, 3, 4] L)) fun q => [(q.isSome, ((.exit 0), ⟨[(5, .c (.o 5))], [(5, .row 64 true (q.getD default).1 (q.getD default).2)]⟩))]
theorem step54x1x12 (rc : Rc54x1) (hR : OracleOk Tryz.prog ((O54x1 N) rc)) (m : Nat) (kn : St → Option (Ex × St)) (L x : List Lf) : lpB Tryz.prog ((O54x1 N) rc) ((h54x1s4 N) rc hR).h 0 54 12 sh54x1x12 [1, 3, 4] [4, 5] [5] (m + 100) kn L x = J54x1x12 N rc L x (fun y => kn (ofSh sh54x1x12 (mx sh54x1x12 [1, 3, 4] L y))) (fun p => some ((.exit 0), ⟨[(5, .c (.o 5))], [(5, .row 64 true p.1 p.2)]⟩)) := by kernel_rfl
theorem ql54x1x12 (rc : Rc54x1) (L : List Lf) (m : Nat) (x : List Lf) : Q54x1x12 N rc L (m + 1) x = J54x1x12 N rc L x (Q54x1x12 N rc L m) some := by kernel_rfl
def h54x1s5 (rc : Rc54x1) (hR : OracleOk Tryz.prog ((O54x1 N) rc)) : Sg Tryz.prog 0 54 :=
 ((h54x1s4 N) rc hR).lp ((A54x1x12 N) rc) N progOk hR (fun m kn L x => (step54x1x12 N rc hR m kn L x).trans (sb54x1x12 N rc L x _ _)) (fun L m x => (ql54x1x12 N rc L m x).trans (sb54x1x12 N rc L x (Q54x1x12 N rc L m) some)) fun L x hx => alt1 x hx
def F54x1 (rc : Rc54x1) (v0 : Bool) (v1 : LD) (v2 : Int) (k0 : Bool × LD → Option R) : Option R :=
 bif (v2 == 3) then
  bnd (G54x1x7 N rc v0 v1) fun y0 =>
  bif (inlB y0) then
   k0 (true, [])
  else
   bif (inrQ y0).isSome then
    k0 (((inrQ y0).getD default), v1)
   else
    none
 else
  bnd (G54x1x12 N rc v0 v2 v1 true []) fun y1 =>
  bif y1.isSome then
   k0 (y1.getD default)
  else
   none
def G54x1 (rc : Rc54x1) (v0 : Bool) (v1 : LD) (v2 : Int) : Option (Bool × LD) := F54x1 N rc v0 v1 v2 (fun p => some p)
theorem bind54x1 (rc : Rc54x1) (v0 : Bool) (v1 : LD) (v2 : Int) (k0 : Bool × LD → Option R) : F54x1 N rc v0 v1 v2 k0 = (G54x1 N rc v0 v1 v2).bind k0 := by
 unfold G54x1 F54x1
 repeat' (first | with_reducible apply cond_b | (with_reducible apply bnd_b; intro _) | rfl)
theorem raw54x1 (rc : Rc54x1) (hR : OracleOk Tryz.prog ((O54x1 N) rc)) (L : List Lf) : bd Tryz.prog ((O54x1 N) rc) ((h54x1s5 N) rc hR).h 54 sh54x1 L = F54x1 N rc (lb L 0) (ll L 1) (li L 2) (fun p => some ([.c (.sl 64 p.1 p.2)], [])) := by kernel_rfl
theorem fin54x1 (rc : Rc54x1) (hR : OracleOk Tryz.prog ((O54x1 N) rc)) (L : List Lf) (x : Res) (hx : altK ((B54x1 N) (fun v0 v1 v2 => G54x1 N rc v0 v1 v2) L) some = some x) : CallOk Tryz.prog 54 (valsOf (ofSh sh54x1 L).tmps) (ofSh sh54x1 L).mem x :=
 callOk_of (n := 200) progOk hR ((h54x1s5 N) rc hR).ok rfl ((raw54x1 N rc hR L).trans ((bind54x1 N rc ..).trans (alt1 x hx)))
def R54x1 (N : Nat) : Nat → Rc54x1
 | 0 => fun _ _ _ => none
 | m + 1 => fun v0 v1 v2 => G54x1 N (R54x1 N m) v0 v1 v2
theorem Rok54x1 (N : Nat) : ∀ m, OracleOk Tryz.prog ((O54x1 N) (R54x1 N m))
 | 0 => ext_ok (T80x0_ok N) (AM.enters_of (by kernel_rfl)) (spSh_law fun L x hx => by
  have h : (none : Option Res) = some x := hx
  cases h)
 | m + 1 => ext_ok (T80x0_ok N) (AM.enters_of (by kernel_rfl)) (spSh_law fun L x hx => fin54x1 N (R54x1 N m) (Rok54x1 N m) L x hx)
def T54x1 : Oracle := (O54x1 N) (R54x1 N N)
theorem T54x1_ok : OracleOk Tryz.prog (T54x1 N) := Rok54x1 N N
def rg27x0 : List (Nat × List Nat) := [(0, [0]), (1, [1, 2]), (2, [5, 2, 4]), (3, [5, 2]), (4, [4, 2])]
def hd27x0 : Hints := []
def h27x0s0 (N : Nat) : Sg Tryz.prog 0 27 := .start hd27x0 rg27x0
def F27x0 (v0 : LB) (v1 : Bool) (v2 : LD) (k0 : Ty0 → Option R) : Option R :=
 bnd (G25x0 N v0 v1 v2) fun y0 =>
 bif y0.isSome then
  bif ((y0.getD default).2.2.2 != 0) then
   k0 (([] : List UInt8), true, [], (y0.getD default).2.2.2)
  else
   bnd (R54x1 N N (y0.getD default).2.1 (y0.getD default).2.2.1 0) fun y1 =>
   bif y1.isSome then
    k0 ((y0.getD default).1, (y1.getD default).1, (y1.getD default).2, 0)
   else
    none
 else
  none
def G27x0 (v0 : LB) (v1 : Bool) (v2 : LD) : Option (Ty0) := F27x0 N v0 v1 v2 (fun p => some p)
theorem bind27x0 (v0 : LB) (v1 : Bool) (v2 : LD) (k0 : Ty0 → Option R) : F27x0 N v0 v1 v2 k0 = (G27x0 N v0 v1 v2).bind k0 := by
 unfold G27x0 F27x0
 repeat' (first | with_reducible apply cond_b | (with_reducible apply bnd_b; intro _) | rfl)
def sh27x0 : Sh := { tmps := [(0, .g ([.s, .sl 64]))], mem := [] }
def K27x0w0 (L : List Lf) (p : Ty0) : Res := ([.g [.s p.1, .sl 64 p.2.1 p.2.2.1], .c (.i .i64 p.2.2.2)], [])
def A27x0 (L : List Lf) : List (Bool × Res) := bnd (F27x0 N (ls L 0) (lb L 1) (ll L 2) (fun p => some p)) fun q => [(q.isSome, K27x0w0 L (q.getD default))]
theorem raw27x0 (L : List Lf) : bd Tryz.prog (T54x1 N) (h27x0s0 N).h 27 sh27x0 L = F27x0 N (ls L 0) (lb L 1) (ll L 2) (fun p => some (K27x0w0 L p)) := by kernel_rfl
theorem ok27x0 : FnOk Tryz.prog 27 sh27x0 (A27x0 N) :=
 (h27x0s0 N).fn progOk (T54x1_ok N) fun L x hx => ((raw27x0 N L).trans ((bind27x0 N ..).trans (alt1 x hx)))
def T27x0 : Oracle := ext 27 (spSh sh27x0 (A27x0 N)) (T54x1 N)
theorem T27x0_ok : OracleOk Tryz.prog (T27x0 N) := FnOk.to (ok27x0 N) (T54x1_ok N)
abbrev Rc37x1 : Type := Bool → LD → Bool → LD → Option (Bool)
def sh37x1 : Sh := { tmps := [(0, .c (.sl 64)), (1, .c (.sl 64))], mem := [] }
def B37x1 (N : Nat) (rc : Rc37x1) (L : List Lf) : List (Bool × Res) := bnd (rc (lb L 0) (ll L 1) (lb L 2) (ll L 3)) fun q => [(q.isSome, ([.c (.b (q.getD default))], []))]
def O37x1 (rc : Rc37x1) : Oracle := ext 37 (spSh sh37x1 ((B37x1 N) rc)) (T27x0 N)
def rg37x1 : List (Nat × List Nat) := [(0, [0, 1]), (1, [0, 1]), (2, []), (3, [0, 1]), (4, [15, 14, 13, 1]), (5, [15, 13, 1, 14]), (6, [1, 5, 6, 15, 14, 13]), (7, [6, 7, 15, 14, 13, 1]), (8, []), (9, [15, 14, 13, 1]), (10, [])]
def hd37x1 : Hints := [(12, [1, 13, 14, 15], [], []), (22, [1, 6, 7, 13, 14, 15], [6, 7], [])]
def h37x1s0 (rc : Rc37x1) (hR : OracleOk Tryz.prog ((O37x1 N) rc)) : Sg Tryz.prog 0 37 := .start hd37x1 rg37x1
def F37x1x22 (N : Nat) (rc : Rc37x1) (w6 : Int) (w7 : LB) (w8 w9 w10 : Int) (w11 : Bool) (w12 w13 w14 : Int) (w15 : Bool) (w16 : LD) (w17 : Int) (w18 : LB) (w19 w20 w21 : Int) (w22 : Bool) (w23 w24 w25 : Int) (w26 : Bool) (w27 : LD) (k0 : Bool → Option R) : Option R :=
 bnd (bif (bif (w6 != w17) then true else (!(w7 == w18))) then true else (w8 != w19)) fun y0 =>
 bnd (bif (bif y0 then true else (w9 != w20)) then true else (!((w10 == w21) && ((w11 == w22) && ((w12 == w23) && ((w13 == w24) && true)))))) fun y1 =>
 bif (bif y1 then true else (w14 != w25)) then
  k0 true
 else
  bnd (rc w15 w16 w26 w27) fun y2 =>
  bif y2.isSome then
   k0 (!(y2.getD default))
  else
   none
def G37x1x22 (rc : Rc37x1) (w6 : Int) (w7 : LB) (w8 w9 w10 : Int) (w11 : Bool) (w12 w13 w14 : Int) (w15 : Bool) (w16 : LD) (w17 : Int) (w18 : LB) (w19 w20 w21 : Int) (w22 : Bool) (w23 w24 w25 : Int) (w26 : Bool) (w27 : LD) : Option (Bool) := F37x1x22 N rc w6 w7 w8 w9 w10 w11 w12 w13 w14 w15 w16 w17 w18 w19 w20 w21 w22 w23 w24 w25 w26 w27 (fun p => some p)
theorem bind37x1x22 (rc : Rc37x1) (w6 : Int) (w7 : LB) (w8 w9 w10 : Int) (w11 : Bool) (w12 w13 w14 : Int) (w15 : Bool) (w16 : LD) (w17 : Int) (w18 : LB) (w19 w20 w21 : Int) (w22 : Bool) (w23 w24 w25 : Int) (w26 : Bool) (w27 : LD) (k0 : Bool → Option R) : F37x1x22 N rc w6 w7 w8 w9 w10 w11 w12 w13 w14 w15 w16 w17 w18 w19 w20 w21 w22 w23 w24 w25 w26 w27 k0 = (G37x1x22 N rc w6 w7 w8 w9 w10 w11 w12 w13 w14 w15 w16 w17 w18 w19 w20 w21 w22 w23 w24 w25 w26 w27).bind k0 := by
 unfold G37x1x22 F37x1x22
 repeat' (first | with_reducible apply cond_b | (with_reducible apply bnd_b; intro _) | rfl)
def J37x1x22 (rc : Rc37x1) (L : List Lf) (k0 : Bool → Option R) : Option R := F37x1x22 N rc (li L 6) (ls L 7) (li L 8) (li L 9) (li L 10) (lb L 11) (li L 12) (li L 13) (li L 14) (lb L 15) (ll L 16) (li L 17) (ls L 18) (li L 19) (li L 20) (li L 21) (lb L 22) (li L 23) (li L 24) (li L 25) (lb L 26) (ll L 27) k0
def sh37x1x22 : Sh := { tmps := [(1, .c (.sl 64)), (6, .c (.p 6 0)), (7, .c (.p 7 0)), (13, .c (.sl 64)), (14, .c (.i .i64)), (15, .c (.i .i64))], mem := [(6, .box (.i .i64 :: .s :: .i .i64 :: .i .i64 :: .i .i64 :: [.b, .i .i64, .i .i64, .i .i64, .sl 64])), (7, .box (.i .i64 :: .s :: .i .i64 :: .i .i64 :: .i .i64 :: [.b, .i .i64, .i .i64, .i .i64, .sl 64]))] }
def K37x1x22w0 (L : List Lf) (p : Bool) : Ex × St := (.normal, mg (ofSh sh37x1x22 L) [15, 14, 13, 1, 71] [(71, .c (.b p))] [] [])
def A37x1x22 (rc : Rc37x1) (L : List Lf) : List (Bool × (Ex × St)) := bnd (J37x1x22 N rc L (fun p => some p)) fun q => [(q.isSome, K37x1x22w0 L (q.getD default))]
theorem raw37x1x22 (rc : Rc37x1) (hR : OracleOk Tryz.prog ((O37x1 N) rc)) (L : List Lf) : pc Tryz.prog ((O37x1 N) rc) ((h37x1s0 N) rc hR).h 0 100 37 22 sh37x1x22 L [15, 14, 13, 1, 71] [] = J37x1x22 N rc L (fun p => some (K37x1x22w0 L p)) := by kernel_rfl
def h37x1s1 (rc : Rc37x1) (hR : OracleOk Tryz.prog ((O37x1 N) rc)) : Sg Tryz.prog 0 37 :=
 ((h37x1s0 N) rc hR).cut ((A37x1x22 N) rc) progOk hR fun L x hx => (raw37x1x22 N rc hR L).trans ((bind37x1x22 N rc ..).trans (alt1 x hx))
def S37x1x12 (rc : Rc37x1) (w1 w3 : LD) (w4 : Int) (w5 : Int) (kr : Int → Option R) (k0 : Unit → Option R) (k1 : Unit → Option R) : Option R :=
 bif (decide (w5 < w4)) then
  bif (inB w5 w3.length) then
   bif (inB w5 w1.length) then
    bnd (G37x1x22 N rc ((w3.getD w5.toNat (.i 0)).cell 0).toI ((w3.getD w5.toNat (.i 0)).cell 1).toS ((w3.getD w5.toNat (.i 0)).cell 2).toI ((w3.getD w5.toNat (.i 0)).cell 3).toI ((w3.getD w5.toNat (.i 0)).cell 4).toI ((w3.getD w5.toNat (.i 0)).cell 5).toB ((w3.getD w5.toNat (.i 0)).cell 6).toI ((w3.getD w5.toNat (.i 0)).cell 7).toI ((w3.getD w5.toNat (.i 0)).cell 8).toI ((w3.getD w5.toNat (.i 0)).cell 9).isNil ((w3.getD w5.toNat (.i 0)).cell 9).items ((w1.getD w5.toNat (.i 0)).cell 0).toI ((w1.getD w5.toNat (.i 0)).cell 1).toS ((w1.getD w5.toNat (.i 0)).cell 2).toI ((w1.getD w5.toNat (.i 0)).cell 3).toI ((w1.getD w5.toNat (.i 0)).cell 4).toI ((w1.getD w5.toNat (.i 0)).cell 5).toB ((w1.getD w5.toNat (.i 0)).cell 6).toI ((w1.getD w5.toNat (.i 0)).cell 7).toI ((w1.getD w5.toNat (.i 0)).cell 8).toI ((w1.getD w5.toNat (.i 0)).cell 9).isNil ((w1.getD w5.toNat (.i 0)).cell 9).items) fun y0 =>
    bif y0.isSome then
     bif (y0.getD default) then
      k0 ()
     else
      kr (IntKind.wrap .i64 (w5 + 1))
    else
     none
   else
    none
  else
   none
 else
  k1 ()
def L37x1x12 (N : Nat) (rc : Rc37x1) {R : Type} (w1 w3 : LD) (w4 : Int) : Nat → Int → (Unit → Option R) → (Unit → Option R) → Option R
 | 0, _, _, _ => none
 | m + 1, w5, k0, k1 => S37x1x12 N rc w1 w3 w4 w5 (fun w5 => L37x1x12 N rc w1 w3 w4 m w5 k0 k1) k0 k1
def G37x1x12 (rc : Rc37x1) (w1 w3 : LD) (w4 : Int) (w5 : Int) : Option (Sum (Unit) (Unit)) := L37x1x12 N rc (R := (Sum (Unit) (Unit))) w1 w3 w4 N w5 (fun p => some (.inl p)) (fun p => some (.inr p))
def J37x1x12 (rc : Rc37x1) (L x : List Lf) (kr : List Lf → Option R) (k0 : Unit → Option R) (k1 : Unit → Option R) : Option R := S37x1x12 N rc (ll L 1) (ll L 3) (li L 4) (li x 0) (fun w5 => kr [.i w5]) k0 k1
theorem sb37x1x12 (rc : Rc37x1) (L x : List Lf) (kr : List Lf → Option R) (k0 : Unit → Option R) (k1 : Unit → Option R) : J37x1x12 N rc L x kr k0 k1 = (J37x1x12 N rc L x (fun y => some (.inl y)) (fun p => some (.inr (.inl p))) (fun p => some (.inr (.inr p)))).bind (sumE kr (sumE k0 k1)) := by
 unfold J37x1x12 S37x1x12
 repeat' (first | with_reducible apply cond_b | (with_reducible apply bnd_b; intro _) | rfl)
def Q37x1x12 (rc : Rc37x1) (L : List Lf) (m : Nat) (x : List Lf) : Option (Sum (Unit) (Unit)) := L37x1x12 N rc (R := (Sum (Unit) (Unit))) (ll L 1) (ll L 3) (li L 4) m (li x 0) (fun p => some (.inl p)) (fun p => some (.inr p))
def sh37x1x12 : Sh := { tmps := [(1, .c (.sl 64)), (13, .c (.sl 64)), (14, .c (.i .i64)), (15, .c (.i .i64))], mem := [] }
def A37x1x12 (rc : Rc37x1) (L : List Lf) : List (Bool × (Ex × St)) := bnd (Q37x1x12 N rc L N (pk sh37x1x12 [5] L)) fun q => [((inlB q), (.ret, ⟨[(4, .c (.b false))], []⟩)), ((inrQ q).isSome, ((.exit 0), ⟨[], []⟩))]
theorem step37x1x12 (rc : Rc37x1) (hR : OracleOk Tryz.prog ((O37x1 N) rc)) (m : Nat) (kn : St → Option (Ex × St)) (L x : List Lf) : lpB Tryz.prog ((O37x1 N) rc) ((h37x1s1 N) rc hR).h 0 37 12 sh37x1x12 [5] [4] [] (m + 100) kn L x = J37x1x12 N rc L x (fun y => kn (ofSh sh37x1x12 (mx sh37x1x12 [5] L y))) (fun _ => some (.ret, ⟨[(4, .c (.b false))], []⟩)) (fun _ => some ((.exit 0), ⟨[], []⟩)) := by kernel_rfl
theorem ql37x1x12 (rc : Rc37x1) (L : List Lf) (m : Nat) (x : List Lf) : Q37x1x12 N rc L (m + 1) x = J37x1x12 N rc L x (Q37x1x12 N rc L m) (fun p => some (.inl p)) (fun p => some (.inr p)) := by kernel_rfl
def h37x1s2 (rc : Rc37x1) (hR : OracleOk Tryz.prog ((O37x1 N) rc)) : Sg Tryz.prog 0 37 :=
 ((h37x1s1 N) rc hR).lp ((A37x1x12 N) rc) N progOk hR (fun m kn L x => (step37x1x12 N rc hR m kn L x).trans (sb37x1x12 N rc L x _ _ _)) (fun L m x => (ql37x1x12 N rc L m x).trans (sb37x1x12 N rc L x (Q37x1x12 N rc L m) (fun p => some (.inl p)) (fun p => some (.inr p)))) fun L x hx => (altS alt1) x hx
def F37x1 (rc : Rc37x1) (v0 : Bool) (v1 : LD) (v2 : Bool) (v3 : LD) (k0 : Bool → Option R) : Option R :=
 bif ((v1.length : Int) != (v3.length : Int)) then
  k0 false
 else
  bnd (G37x1x12 N rc v3 v1 (v1.length : Int) 0) fun y0 =>
  bif (inlB y0) then
   k0 false
  else
   bif (inrQ y0).isSome then
    k0 true
   else
    none
def G37x1 (rc : Rc37x1) (v0 : Bool) (v1 : LD) (v2 : Bool) (v3 : LD) : Option (Bool) := F37x1 N rc v0 v1 v2 v3 (fun p => some p)
theorem bind37x1 (rc : Rc37x1) (v0 : Bool) (v1 : LD) (v2 : Bool) (v3 : LD) (k0 : Bool → Option R) : F37x1 N rc v0 v1 v2 v3 k0 = (G37x1 N rc v0 v1 v2 v3).bind k0 := by
 unfold G37x1 F37x1
 repeat' (first | with_reducible apply cond_b | (with_reducible apply bnd_b; intro _) | rfl)
def J37x1 (rc : Rc37x1) (L : List Lf) (k0 : Bool → Option R) : Option R := F37x1 N rc (lb L 0) (ll L 1) (lb L 2) (ll L 3) k0
theorem raw37x1 (rc : Rc37x1) (hR : OracleOk Tryz.prog ((O37x1 N) rc)) (L : List Lf) : bd Tryz.prog ((O37x1 N) rc) ((h37x1s2 N) rc hR).h 37 sh37x1 L = J37x1 N rc L (fun p => some ([.c (.b p)], [])) := by kernel_rfl
theorem fin37x1 (rc : Rc37x1) (hR : OracleOk Tryz.prog ((O37x1 N) rc)) (L : List Lf) (x : Res) (hx : altK ((B37x1 N) (fun v0 v1 v2 v3 => G37x1 N rc v0 v1 v2 v3) L) some = some x) : CallOk Tryz.prog 37 (valsOf (ofSh sh37x1 L).tmps) (ofSh sh37x1 L).mem x :=
 callOk_of (n := 200) progOk hR ((h37x1s2 N) rc hR).ok rfl ((raw37x1 N rc hR L).trans ((bind37x1 N rc ..).trans (alt1 x hx)))
def R37x1 (N : Nat) : Nat → Rc37x1
 | 0 => fun _ _ _ _ => none
 | m + 1 => fun v0 v1 v2 v3 => G37x1 N (R37x1 N m) v0 v1 v2 v3
theorem Rok37x1 (N : Nat) : ∀ m, OracleOk Tryz.prog ((O37x1 N) (R37x1 N m))
 | 0 => ext_ok (T27x0_ok N) (AM.enters_of (by kernel_rfl)) (spSh_law fun L x hx => by
  have h : (none : Option Res) = some x := hx
  cases h)
 | m + 1 => ext_ok (T27x0_ok N) (AM.enters_of (by kernel_rfl)) (spSh_law fun L x hx => fin37x1 N (R37x1 N m) (Rok37x1 N m) L x hx)
def T37x1 : Oracle := (O37x1 N) (R37x1 N N)
theorem T37x1_ok : OracleOk Tryz.prog (T37x1 N) := Rok37x1 N N
def rg81x0 : List (Nat × List Nat) := [(0, [1, 0]), (1, [1, 0]), (2, [5, 1, 0]), (3, [5, 1, 0]), (4, [5])]
def hd81x0 : Hints := [(6, [0, 1, 5], [], []), (7, [0, 1, 5], [], [])]
def h81x0s0 (N : Nat) : Sg Tryz.prog 0 81 := .start hd81x0 rg81x0
def F81x0x7 (w0 : Bool) (w1 : LD) (w2 w3 : Int) (k0 : Bool → Option R) : Option R :=
 bif (decide (w3 < 99)) then
  bnd (decide ((IntKind.wrap .i64 ((IntKind.wrap .i64 (w3 + 1)) * w2)) ≤ (w1.length : Int))) fun y0 =>
  bif y0 then
   bif ((decide (0 ≤ w2)) && (decide (w2 ≤ (w1.length : Int)))) then
    bif (((decide (0 ≤ (IntKind.wrap .i64 (w3 * w2)))) && (decide ((IntKind.wrap .i64 (w3 * w2)) ≤ (IntKind.wrap .i64 ((IntKind.wrap .i64 (w3 + 1)) * w2))))) && (decide ((IntKind.wrap .i64 ((IntKind.wrap .i64 (w3 + 1)) * w2)) ≤ (w1.length : Int)))) then
     bnd (((w1.take (IntKind.wrap .i64 ((IntKind.wrap .i64 (w3 + 1)) * w2)).toNat).drop (IntKind.wrap .i64 (w3 * w2)).toNat) : List D) fun y1 =>
     bnd (R37x1 N N w0 ((w1.take w2.toNat).drop 0) w0 y1) fun y2 =>
     bif y2.isSome then
      k0 (y2.getD default)
     else
      none
    else
     none
   else
    none
  else
   k0 false
 else
  k0 false
def G81x0x7 (w0 : Bool) (w1 : LD) (w2 w3 : Int) : Option (Bool) := F81x0x7 N w0 w1 w2 w3 (fun p => some p)
theorem bind81x0x7 (w0 : Bool) (w1 : LD) (w2 w3 : Int) (k0 : Bool → Option R) : F81x0x7 N w0 w1 w2 w3 k0 = (G81x0x7 N w0 w1 w2 w3).bind k0 := by
 unfold G81x0x7 F81x0x7
 repeat' (first | with_reducible apply cond_b | (with_reducible apply bnd_b; intro _) | rfl)
def J81x0x7 (L : List Lf) (k0 : Bool → Option R) : Option R := F81x0x7 N (lb L 0) (ll L 1) (li L 2) (li L 3) k0
def sh81x0x7 : Sh := { tmps := [(0, .c (.sl 64)), (1, .c (.i .i64)), (5, .c (.i .i64))], mem := [] }
def K81x0x7w0 (L : List Lf) (p : Bool) : Ex × St := (.normal, mg (ofSh sh81x0x7 L) [5, 1, 0, 31] [(31, .c (.b p))] [] [])
def A81x0x7 (L : List Lf) : List (Bool × (Ex × St)) := bnd (J81x0x7 N L (fun p => some p)) fun q => [(q.isSome, K81x0x7w0 L (q.getD default))]
theorem raw81x0x7 (L : List Lf) : pc Tryz.prog (T37x1 N) (h81x0s0 N).h 0 100 81 7 sh81x0x7 L [5, 1, 0, 31] [] = J81x0x7 N L (fun p => some (K81x0x7w0 L p)) := by kernel_rfl
def h81x0s1 : Sg Tryz.prog 0 81 :=
 (h81x0s0 N).cut (A81x0x7 N) progOk (T37x1_ok N) fun L x hx => (raw81x0x7 N L).trans ((bind81x0x7 N ..).trans (alt1 x hx))
def S81x0x6 (w0 : Bool) (w1 : LD) (w2 : Int) (w3 : Int) (kr : Int → Option R) (k0 : Int → Option R) : Option R :=
 bnd (G81x0x7 N w0 w1 w2 w3) fun y0 =>
 bif y0.isSome then
  bif (y0.getD default) then
   kr (IntKind.wrap .i64 (w3 + 1))
  else
   k0 w3
 else
  none
def L81x0x6 (N : Nat) {R : Type} (w0 : Bool) (w1 : LD) (w2 : Int) : Nat → Int → (Int → Option R) → Option R
 | 0, _, _ => none
 | m + 1, w3, k0 => S81x0x6 N w0 w1 w2 w3 (fun w3 => L81x0x6 N w0 w1 w2 m w3 k0) k0
def G81x0x6 (w0 : Bool) (w1 : LD) (w2 : Int) (w3 : Int) : Option (Int) := L81x0x6 N (R := (Int)) w0 w1 w2 N w3 (fun p => some p)
def J81x0x6 (L x : List Lf) (kr : List Lf → Option R) (k0 : Int → Option R) : Option R := S81x0x6 N (lb L 0) (ll L 1) (li L 2) (li x 0) (fun w3 => kr [.i w3]) k0
theorem sb81x0x6 (L x : List Lf) (kr : List Lf → Option R) (k0 : Int → Option R) : J81x0x6 N L x kr k0 = (J81x0x6 N L x (fun y => some (.inl y)) (fun p => some (.inr p))).bind (sumE kr k0) := by
 unfold J81x0x6 S81x0x6
 repeat' (first | with_reducible apply cond_b | (with_reducible apply bnd_b; intro _) | rfl)
def Q81x0x6 (L : List Lf) (m : Nat) (x : List Lf) : Option (Int) := L81x0x6 N (R := (Int)) (lb L 0) (ll L 1) (li L 2) m (li x 0) (fun p => some p)
def sh81x0x6 : Sh := { tmps := [(0, .c (.sl 64)), (1, .c (.i .i64)), (5, .c (.i .i64))], mem := [] }
def A81x0x6 (L : List Lf) : List (Bool × (Ex × St)) := bnd (Q81x0x6 N L N (pk sh81x0x6 [3] L)) fun q => [(q.isSome, ((.exit 0), ⟨[(5, .c (.i .i64 (q.getD default)))], []⟩))]
theorem step81x0x6 (m : Nat) (kn : St → Option (Ex × St)) (L x : List Lf) : lpB Tryz.prog (T37x1 N) (h81x0s1 N).h 0 81 6 sh81x0x6 [3] [4, 5] [] (m + 100) kn L x = J81x0x6 N L x (fun y => kn (ofSh sh81x0x6 (mx sh81x0x6 [3] L y))) (fun p => some ((.exit 0), ⟨[(5, .c (.i .i64 p))], []⟩)) := by kernel_rfl
theorem ql81x0x6 (L : List Lf) (m : Nat) (x : List Lf) : Q81x0x6 N L (m + 1) x = J81x0x6 N L x (Q81x0x6 N L m) some := by kernel_rfl
def h81x0s2 : Sg Tryz.prog 0 81 :=
 (h81x0s1 N).lp (A81x0x6 N) N progOk (T37x1_ok N) (fun m kn L x => (step81x0x6 N m kn L x).trans (sb81x0x6 N L x _ _)) (fun L m x => (ql81x0x6 N L m x).trans (sb81x0x6 N L x (Q81x0x6 N L m) some)) fun L x hx => alt1 x hx
def F81x0 (v0 : Bool) (v1 : LD) (v2 : Int) (k0 : Int → Option R) : Option R :=
 bnd (G81x0x6 N v0 v1 v2 1) fun y0 =>
 bif y0.isSome then
  k0 (y0.getD default)
 else
  none
def G81x0 (v0 : Bool) (v1 : LD) (v2 : Int) : Option (Int) := F81x0 N v0 v1 v2 (fun p => some p)
theorem bind81x0 (v0 : Bool) (v1 : LD) (v2 : Int) (k0 : Int → Option R) : F81x0 N v0 v1 v2 k0 = (G81x0 N v0 v1 v2).bind k0 := by
 unfold G81x0 F81x0
 repeat' (first | with_reducible apply cond_b | (with_reducible apply bnd_b; intro _) | rfl)
def sh81x0 : Sh := { tmps := [(0, .c (.sl 64)), (1, .c (.i .i64))], mem := [] }
def A81x0 (L : List Lf) : List (Bool × Res) := bnd (F81x0 N (lb L 0) (ll L 1) (li L 2) (fun p => some p)) fun q => [(q.isSome, ([.c (.i .i64 (q.getD default))], []))]
theorem raw81x0 (L : List Lf) : bd Tryz.prog (T37x1 N) (h81x0s2 N).h 81 sh81x0 L = F81x0 N (lb L 0) (ll L 1) (li L 2) (fun p => some ([.c (.i .i64 p)], [])) := by kernel_rfl
theorem ok81x0 : FnOk Tryz.prog 81 sh81x0 (A81x0 N) :=
 (h81x0s2 N).fn progOk (T37x1_ok N) fun L x hx => ((raw81x0 N L).trans ((bind81x0 N ..).trans (alt1 x hx)))
def T81x0 : Oracle := ext 81 (spSh sh81x0 (A81x0 N)) (T37x1 N)
theorem T81x0_ok : OracleOk Tryz.prog (T81x0 N) := FnOk.to (ok81x0 N) (T37x1_ok N)
abbrev Rc55x1 : Type := Bool → LD → Int → Option (Bool × LD)
def sh55x1 : Sh := { tmps := [(0, .c (.sl 64)), (1, .c (.i .i64))], mem := [] }
def B55x1 (N : Nat) (rc : Rc55x1) (L : List Lf) : List (Bool × Res) := bnd (rc (lb L 0) (ll L 1) (li L 2)) fun q => [(q.isSome, ([.c (.sl 64 (q.getD default).1 (q.getD default).2)], []))]
def O55x1 (rc : Rc55x1) : Oracle := ext 55 (spSh sh55x1 ((B55x1 N) rc)) (T81x0 N)
def rg55x1 : List (Nat × List Nat) := [(0, [0, 1]), (1, [0, 1]), (2, [0, 1, 5]), (3, [1, 0, 5]), (4, [1, 0, 6, 5, 8, 7]), (5, [1, 9, 0, 6, 5, 8, 7]), (7, [0, 9, 6, 1, 5, 8, 7]), (8, [10, 9, 6, 1, 0, 5, 8, 7]), (9, [9, 10, 1, 0, 5]), (6, [9, 1, 0, 6, 5, 8, 7]), (10, [6, 5, 0, 1, 8, 7]), (11, [5, 0, 1]), (12, [0, 1, 5]), (13, [5, 8, 0, 7, 1]), (14, [0, 7, 8, 1, 5]), (15, [5])]
def hd55x1 : Hints := [(6, [0, 1, 5], [5], [5]), (15, [0, 1, 5, 6, 7, 8, 9], [5], [5]), (29, [0, 1, 5, 6, 7, 8, 9, 10, 39], [5], [])]
def h55x1s0 (rc : Rc55x1) (hR : OracleOk Tryz.prog ((O55x1 N) rc)) : Sg Tryz.prog 0 55 := .start hd55x1 rg55x1
def F55x1x29 (N : Nat) (rc : Rc55x1) (w3 w4 w5 w6 w7 : Int) (w8 : Bool) (k0 : Int × Int × Int → R) : R :=
 bif w8 then
  bnd (IntKind.wrap .i64 ((IntKind.wrap .i64 ((IntKind.wrap .i64 (w6 * w7)) - w6)) - 1)) fun y0 =>
  k0 (y0, w7, w6)
 else
  k0 (w3, w5, w4)
def V55x1x29 (rc : Rc55x1) (w3 w4 w5 w6 w7 : Int) (w8 : Bool) : Int × Int × Int := F55x1x29 N rc w3 w4 w5 w6 w7 w8 (fun p => p)
theorem tot55x1x29 (rc : Rc55x1) (w3 w4 w5 w6 w7 : Int) (w8 : Bool) (k0 : Int × Int × Int → R) : F55x1x29 N rc w3 w4 w5 w6 w7 w8 k0 = k0 (V55x1x29 N rc w3 w4 w5 w6 w7 w8) := by
 unfold V55x1x29 F55x1x29
 repeat' (first | rfl | apply cond_k | (apply bnd_k; intro _))
def J55x1x29 (rc : Rc55x1) (L : List Lf) (k0 : Int × Int × Int → R) : R := F55x1x29 N rc (li L 3) (li L 4) (li L 5) (li L 6) (li L 7) (lb L 8) k0
def sh55x1x29 : Sh := { tmps := [(0, .c (.sl 64)), (1, .c (.i .i64)), (5, .c (.o 5)), (6, .c (.i .i64)), (7, .c (.i .i64)), (8, .c (.i .i64)), (9, .c (.i .i64)), (10, .c (.i .i64)), (39, .c (.b))], mem := [(5, .row 64 true)] }
def K55x1x29w0 (L : List Lf) (p : Int × Int × Int) : Ex × St := (.normal, mg (ofSh sh55x1x29 L) [9, 1, 0, 6, 5, 8, 7] [(6, .c (.i .i64 p.1)), (8, .c (.i .i64 p.2.1)), (7, .c (.i .i64 p.2.2))] [5] [])
def A55x1x29 (rc : Rc55x1) (L : List Lf) : List (Bool × (Ex × St)) := bnd (J55x1x29 N rc L (fun p => p)) fun q => [(true, K55x1x29w0 L q)]
theorem raw55x1x29 (rc : Rc55x1) (hR : OracleOk Tryz.prog ((O55x1 N) rc)) (L : List Lf) : pc Tryz.prog ((O55x1 N) rc) ((h55x1s0 N) rc hR).h 0 100 55 29 sh55x1x29 L [9, 1, 0, 6, 5, 8, 7] [5] = J55x1x29 N rc L (fun p => some (K55x1x29w0 L p)) := by kernel_rfl
def h55x1s1 (rc : Rc55x1) (hR : OracleOk Tryz.prog ((O55x1 N) rc)) : Sg Tryz.prog 0 55 :=
 ((h55x1s0 N) rc hR).cut ((A55x1x29 N) rc) progOk hR fun L x hx => (raw55x1x29 N rc hR L).trans ((tot55x1x29 N rc ..).trans (alt0 _ _ hx))
def S55x1x15 (rc : Rc55x1) (w0 : Bool) (w1 : LD) (w2 : Int) (w3 w4 w5 w6 : Int) (kr : Int → Int → Int → Int → Option R) (k0 : Int × Int × Int → Option R) : Option R :=
 bnd (bif (decide (w2 < 3)) then (decide ((IntKind.wrap .i64 (2 * w6)) ≤ (w1.length : Int))) else false) fun y0 =>
 bif y0 then
  bnd (G81x0 N w0 w1 w6) fun y1 =>
  bif y1.isSome then
   bnd (bif (decide ((y1.getD default) ≥ 2)) then (decide ((IntKind.wrap .i64 ((IntKind.wrap .i64 ((IntKind.wrap .i64 (w6 * (y1.getD default))) - w6)) - 1)) > w3)) else false) fun y2 =>
   bnd (V55x1x29 N rc w3 w4 w5 w6 (y1.getD default) y2) fun y3 =>
   kr y3.1 y3.2.2 y3.2.1 (IntKind.wrap .i64 (w6 + 1))
  else
   none
 else
  k0 (w3, w5, w4)
def L55x1x15 (N : Nat) (rc : Rc55x1) {R : Type} (w0 : Bool) (w1 : LD) (w2 : Int) : Nat → Int → Int → Int → Int → (Int × Int × Int → Option R) → Option R
 | 0, _, _, _, _, _ => none
 | m + 1, w3, w4, w5, w6, k0 => S55x1x15 N rc w0 w1 w2 w3 w4 w5 w6 (fun w3 w4 w5 w6 => L55x1x15 N rc w0 w1 w2 m w3 w4 w5 w6 k0) k0
def G55x1x15 (rc : Rc55x1) (w0 : Bool) (w1 : LD) (w2 : Int) (w3 w4 w5 w6 : Int) : Option (Int × Int × Int) := L55x1x15 N rc (R := (Int × Int × Int)) w0 w1 w2 N w3 w4 w5 w6 (fun p => some p)
def J55x1x15 (rc : Rc55x1) (L x : List Lf) (kr : List Lf → Option R) (k0 : Int × Int × Int → Option R) : Option R := S55x1x15 N rc (lb L 0) (ll L 1) (li L 2) (li x 0) (li x 1) (li x 2) (li x 3) (fun w3 w4 w5 w6 => kr [.i w3, .i w4, .i w5, .i w6]) k0
theorem sb55x1x15 (rc : Rc55x1) (L x : List Lf) (kr : List Lf → Option R) (k0 : Int × Int × Int → Option R) : J55x1x15 N rc L x kr k0 = (J55x1x15 N rc L x (fun y => some (.inl y)) (fun p => some (.inr p))).bind (sumE kr k0) := by
 unfold J55x1x15 S55x1x15
 repeat' (first | with_reducible apply cond_b | (with_reducible apply bnd_b; intro _) | rfl)
def Q55x1x15 (rc : Rc55x1) (L : List Lf) (m : Nat) (x : List Lf) : Option (Int × Int × Int) := L55x1x15 N rc (R := (Int × Int × Int)) (lb L 0) (ll L 1) (li L 2) m (li x 0) (li x 1) (li x 2) (li x 3) (fun p => some p)
def sh55x1x15 : Sh := { tmps := [(0, .c (.sl 64)), (1, .c (.i .i64)), (5, .c (.o 5)), (6, .c (.i .i64)), (7, .c (.i .i64)), (8, .c (.i .i64)), (9, .c (.i .i64))], mem := [(5, .row 64 true)] }
def K55x1x15w0 (L : List Lf) (p : Int × Int × Int) : Ex × St := ((.exit 2), mg (ofSh sh55x1x15 L) [6, 5, 0, 1, 8, 7] [(6, .c (.i .i64 p.1)), (8, .c (.i .i64 p.2.1)), (7, .c (.i .i64 p.2.2))] [5] [])
def A55x1x15 (rc : Rc55x1) (L : List Lf) : List (Bool × (Ex × St)) := bnd (Q55x1x15 N rc L N (pk sh55x1x15 [3, 4, 5, 6] L)) fun q => [(q.isSome, K55x1x15w0 L (q.getD default))]
theorem step55x1x15 (rc : Rc55x1) (hR : OracleOk Tryz.prog ((O55x1 N) rc)) (m : Nat) (kn : St → Option (Ex × St)) (L x : List Lf) : lpB Tryz.prog ((O55x1 N) rc) ((h55x1s1 N) rc hR).h 0 55 15 sh55x1x15 [3, 4, 5, 6] [4, 6, 5, 0, 1, 8, 7] [5] (m + 100) kn L x = J55x1x15 N rc L x (fun y => kn (ofSh sh55x1x15 (mx sh55x1x15 [3, 4, 5, 6] L y))) (fun p => some (K55x1x15w0 L p)) := by kernel_rfl
theorem ql55x1x15 (rc : Rc55x1) (L : List Lf) (m : Nat) (x : List Lf) : Q55x1x15 N rc L (m + 1) x = J55x1x15 N rc L x (Q55x1x15 N rc L m) some := by kernel_rfl
def h55x1s2 (rc : Rc55x1) (hR : OracleOk Tryz.prog ((O55x1 N) rc)) : Sg Tryz.prog 0 55 :=
 ((h55x1s1 N) rc hR).lp ((A55x1x15 N) rc) N progOk hR (fun m kn L x => (step55x1x15 N rc hR m kn L x).trans (sb55x1x15 N rc L x _ _)) (fun L m x => (ql55x1x15 N rc L m x).trans (sb55x1x15 N rc L x (Q55x1x15 N rc L m) some)) fun L x hx => alt1 x hx
def S55x1x6 (rc : Rc55x1) (w0 : Bool) (w2 : Int) (w1 : LD) (w3 : Bool) (w4 : LD) (kr : LD → Bool → LD → Option R) (k0 : Bool × LD → Option R) : Option R :=
 bif (decide ((w1.length : Int) > 0)) then
  bnd (G55x1x15 N rc w0 w1 w2 0 0 0 1) fun y0 =>
  bif y0.isSome then
   bif ((y0.getD default).1 == 0) then
    bif (inB 0 w1.length) then
     bif (decide ((w4.length + 1) * 104 ≤ room) && decide ((w4.length + 1) ≤ strMax)) then
      bnd ((w4 ++ [(.a [(.i ((w1.getD 0 (.i 0)).cell 0).toI), (.s ((w1.getD 0 (.i 0)).cell 1).toS), (.i ((w1.getD 0 (.i 0)).cell 2).toI), (.i ((w1.getD 0 (.i 0)).cell 3).toI), (.i ((w1.getD 0 (.i 0)).cell 4).toI), (.b ((w1.getD 0 (.i 0)).cell 5).toB), (.i ((w1.getD 0 (.i 0)).cell 6).toI), (.i ((w1.getD 0 (.i 0)).cell 7).toI), (.i ((w1.getD 0 (.i 0)).cell 8).toI), (.l ((w1.getD 0 (.i 0)).cell 9).isNil ((w1.getD 0 (.i 0)).cell 9).items)])]) : List D) fun y1 =>
      bif ((decide (1 ≤ (w1.length : Int))) && (decide ((w1.length : Int) ≤ (w1.length : Int)))) then
       kr ((w1.take (w1.length : Int).toNat).drop 1) false y1
      else
       none
     else
      none
    else
     none
   else
    bif ((decide (0 ≤ (y0.getD default).2.2)) && (decide ((y0.getD default).2.2 ≤ (w1.length : Int)))) then
     bnd (rc w0 ((w1.take (y0.getD default).2.2.toNat).drop 0) (IntKind.wrap .i64 (w2 + 1))) fun y2 =>
     bif y2.isSome then
      bif (decide ((w4.length + 1) * 104 ≤ room) && decide ((w4.length + 1) ≤ strMax)) then
       bnd ((w4 ++ [(.a [(.i 3), (.s ([] : List UInt8)), (.i 0), (.i 0), (.i 0), (.b false), (.i 0), (.i 0), (.i (y0.getD default).2.1), (.l (y2.getD default).1 (y2.getD default).2)])]) : List D) fun y3 =>
       bnd (IntKind.wrap .i64 ((y0.getD default).2.2 * (y0.getD default).2.1)) fun y4 =>
       bif (((decide (0 ≤ y4)) && (decide (y4 ≤ (w1.length : Int)))) && (decide ((w1.length : Int) ≤ (w1.length : Int)))) then
        kr ((w1.take (w1.length : Int).toNat).drop y4.toNat) false y3
       else
        none
      else
       none
     else
      none
    else
     none
  else
   none
 else
  k0 (w3, w4)
def L55x1x6 (N : Nat) (rc : Rc55x1) {R : Type} (w0 : Bool) (w2 : Int) : Nat → LD → Bool → LD → (Bool × LD → Option R) → Option R
 | 0, _, _, _, _ => none
 | m + 1, w1, w3, w4, k0 => S55x1x6 N rc w0 w2 w1 w3 w4 (fun w1 w3 w4 => L55x1x6 N rc w0 w2 m w1 w3 w4 k0) k0
def G55x1x6 (rc : Rc55x1) (w0 : Bool) (w2 : Int) (w1 : LD) (w3 : Bool) (w4 : LD) : Option (Bool × LD) := L55x1x6 N rc (R := (Bool × LD)) w0 w2 N w1 w3 w4 (fun p => some p)
def J55x1x6 (rc : Rc55x1) (L x : List Lf) (kr : List Lf → Option R) (k0 : Bool × LD → Option R) : Option R := S55x1x6 N rc (lb L 0) (li L 2) (ll x 0) (lb x 1) (ll x 2) (fun w1 w3 w4 => kr [.l w1, .b w3, .l w4]) k0
theorem sb55x1x6 (rc : Rc55x1) (L x : List Lf) (kr : List Lf → Option R) (k0 : Bool × LD → Option R) : J55x1x6 N rc L x kr k0 = (J55x1x6 N rc L x (fun y => some (.inl y)) (fun p => some (.inr p))).bind (sumE kr k0) := by
 unfold J55x1x6 S55x1x6
 repeat' (first | with_reducible apply cond_b | (with_reducible apply bnd_b; intro _) | rfl)
def Q55x1x6 (rc : Rc55x1) (L : List Lf) (m : Nat) (x : List Lf) : Option (Bool × LD) := L55x1x6 N rc (R := (Bool × LD)) (lb L 0) (li L 2) m (ll x 0) (lb x 1) (ll x 2) (fun p => some p)
def sh55x1x6 : Sh := { tmps := [(0, .c (.sl 64)), (1, .c (.i .i64)), (5, .c (.o 5))], mem := [(5, .row 64 true)] }
def A55x1x6 (rc : Rc55x1) (L : List Lf) : List (Bool × (Ex × St)) := bnd (Q55x1x6 N rc L N (pk sh55x1x6 [1, 3, 4] L)) fun q => [(q.isSome, ((.exit 0), ⟨[(5, .c (.o 5))], [(5, .row 64 true (q.getD default).1 (q.getD default).2)]⟩))]
theorem step55x1x6 (rc : Rc55x1) (hR : OracleOk Tryz.prog ((O55x1 N) rc)) (m : Nat) (kn : St → Option (Ex × St)) (L x : List Lf) : lpB Tryz.prog ((O55x1 N) rc) ((h55x1s2 N) rc hR).h 0 55 6 sh55x1x6 [1, 3, 4] [4, 5] [5] (m + 100) kn L x = J55x1x6 N rc L x (fun y => kn (ofSh sh55x1x6 (mx sh55x1x6 [1, 3, 4] L y))) (fun p => some ((.exit 0), ⟨[(5, .c (.o 5))], [(5, .row 64 true p.1 p.2)]⟩)) := by kernel_rfl
theorem ql55x1x6 (rc : Rc55x1) (L : List Lf) (m : Nat) (x : List Lf) : Q55x1x6 N rc L (m + 1) x = J55x1x6 N rc L x (Q55x1x6 N rc L m) some := by kernel_rfl
def h55x1s3 (rc : Rc55x1) (hR : OracleOk Tryz.prog ((O55x1 N) rc)) : Sg Tryz.prog 0 55 :=
 ((h55x1s2 N) rc hR).lp ((A55x1x6 N) rc) N progOk hR (fun m kn L x => (step55x1x6 N rc hR m kn L x).trans (sb55x1x6 N rc L x _ _)) (fun L m x => (ql55x1x6 N rc L m x).trans (sb55x1x6 N rc L x (Q55x1x6 N rc L m) some)) fun L x hx => alt1 x hx
def F55x1 (rc : Rc55x1) (v0 : Bool) (v1 : LD) (v2 : Int) (k0 : Bool × LD → Option R) : Option R :=
 bnd (G55x1x6 N rc v0 v2 v1 true []) fun y0 =>
 bif y0.isSome then
  k0 (y0.getD default)
 else
  none
def G55x1 (rc : Rc55x1) (v0 : Bool) (v1 : LD) (v2 : Int) : Option (Bool × LD) := F55x1 N rc v0 v1 v2 (fun p => some p)
theorem bind55x1 (rc : Rc55x1) (v0 : Bool) (v1 : LD) (v2 : Int) (k0 : Bool × LD → Option R) : F55x1 N rc v0 v1 v2 k0 = (G55x1 N rc v0 v1 v2).bind k0 := by
 unfold G55x1 F55x1
 repeat' (first | with_reducible apply cond_b | (with_reducible apply bnd_b; intro _) | rfl)
theorem raw55x1 (rc : Rc55x1) (hR : OracleOk Tryz.prog ((O55x1 N) rc)) (L : List Lf) : bd Tryz.prog ((O55x1 N) rc) ((h55x1s3 N) rc hR).h 55 sh55x1 L = F55x1 N rc (lb L 0) (ll L 1) (li L 2) (fun p => some ([.c (.sl 64 p.1 p.2)], [])) := by kernel_rfl
theorem fin55x1 (rc : Rc55x1) (hR : OracleOk Tryz.prog ((O55x1 N) rc)) (L : List Lf) (x : Res) (hx : altK ((B55x1 N) (fun v0 v1 v2 => G55x1 N rc v0 v1 v2) L) some = some x) : CallOk Tryz.prog 55 (valsOf (ofSh sh55x1 L).tmps) (ofSh sh55x1 L).mem x :=
 callOk_of (n := 200) progOk hR ((h55x1s3 N) rc hR).ok rfl ((raw55x1 N rc hR L).trans ((bind55x1 N rc ..).trans (alt1 x hx)))
def R55x1 (N : Nat) : Nat → Rc55x1
 | 0 => fun _ _ _ => none
 | m + 1 => fun v0 v1 v2 => G55x1 N (R55x1 N m) v0 v1 v2
theorem Rok55x1 (N : Nat) : ∀ m, OracleOk Tryz.prog ((O55x1 N) (R55x1 N m))
 | 0 => ext_ok (T81x0_ok N) (AM.enters_of (by kernel_rfl)) (spSh_law fun L x hx => by
  have h : (none : Option Res) = some x := hx
  cases h)
 | m + 1 => ext_ok (T81x0_ok N) (AM.enters_of (by kernel_rfl)) (spSh_law fun L x hx => fin55x1 N (R55x1 N m) (Rok55x1 N m) L x hx)
def T55x1 : Oracle := (O55x1 N) (R55x1 N N)
theorem T55x1_ok : OracleOk Tryz.prog (T55x1 N) := Rok55x1 N N
def rg28x0 : List (Nat × List Nat) := [(0, [0]), (1, [1, 2]), (2, [5, 2, 4]), (3, [5, 2]), (4, [4, 2])]
def hd28x0 : Hints := []
def h28x0s0 (N : Nat) : Sg Tryz.prog 0 28 := .start hd28x0 rg28x0
def F28x0 (v0 : LB) (v1 : Bool) (v2 : LD) (k0 : Ty0 → Option R) : Option R :=
 bnd (G26x0 N v0 v1 v2) fun y0 =>
 bif y0.isSome then
  bif ((y0.getD default).2.2.2 != 0) then
   k0 (([] : List UInt8), true, [], (y0.getD default).2.2.2)
  else
   bnd (R55x1 N N (y0.getD default).2.1 (y0.getD default).2.2.1 0) fun y1 =>
   bif y1.isSome then
    k0 ((y0.getD default).1, (y1.getD default).1, (y1.getD default).2, 0)
   else
    none
 else
  none
def G28x0 (v0 : LB) (v1 : Bool) (v2 : LD) : Option (Ty0) := F28x0 N v0 v1 v2 (fun p => some p)
theorem bind28x0 (v0 : LB) (v1 : Bool) (v2 : LD) (k0 : Ty0 → Option R) : F28x0 N v0 v1 v2 k0 = (G28x0 N v0 v1 v2).bind k0 := by
 unfold G28x0 F28x0
 repeat' (first | with_reducible apply cond_b | (with_reducible apply bnd_b; intro _) | rfl)
def sh28x0 : Sh := { tmps := [(0, .g ([.s, .sl 64]))], mem := [] }
def K28x0w0 (L : List Lf) (p : Ty0) : Res := ([.g [.s p.1, .sl 64 p.2.1 p.2.2.1], .c (.i .i64 p.2.2.2)], [])
def A28x0 (L : List Lf) : List (Bool × Res) := bnd (F28x0 N (ls L 0) (lb L 1) (ll L 2) (fun p => some p)) fun q => [(q.isSome, K28x0w0 L (q.getD default))]
theorem raw28x0 (L : List Lf) : bd Tryz.prog (T55x1 N) (h28x0s0 N).h 28 sh28x0 L = F28x0 N (ls L 0) (lb L 1) (ll L 2) (fun p => some (K28x0w0 L p)) := by kernel_rfl
theorem ok28x0 : FnOk Tryz.prog 28 sh28x0 (A28x0 N) :=
 (h28x0s0 N).fn progOk (T55x1_ok N) fun L x hx => ((raw28x0 N L).trans ((bind28x0 N ..).trans (alt1 x hx)))
def T28x0 : Oracle := ext 28 (spSh sh28x0 (A28x0 N)) (T55x1 N)
theorem T28x0_ok : OracleOk Tryz.prog (T28x0 N) := FnOk.to (ok28x0 N) (T55x1_ok N)
def rg12x0 : List (Nat × List Nat) := [(0, [0, 1]), (1, [2, 3])]
def hd12x0 : Hints := [(4, [2, 3], [2, 3], [])]
def h12x0s0 (N : Nat) : Sg Tryz.prog 0 12 := .start hd12x0 rg12x0
def F12x0x4 (w0 : LB) (w1 : Bool) (w2 : LD) (w3 : LB) (w4 : Bool) (w5 : LD) (k0 : Bool → Option R) : Option R :=
 bif (w0 == w3) then
  bnd (R36x1 N N w1 w2 w4 w5) fun y0 =>
  bif y0.isSome then
   k0 (y0.getD default)
  else
   none
 else
  k0 false
def G12x0x4 (w0 : LB) (w1 : Bool) (w2 : LD) (w3 : LB) (w4 : Bool) (w5 : LD) : Option (Bool) := F12x0x4 N w0 w1 w2 w3 w4 w5 (fun p => some p)
theorem bind12x0x4 (w0 : LB) (w1 : Bool) (w2 : LD) (w3 : LB) (w4 : Bool) (w5 : LD) (k0 : Bool → Option R) : F12x0x4 N w0 w1 w2 w3 w4 w5 k0 = (G12x0x4 N w0 w1 w2 w3 w4 w5).bind k0 := by
 unfold G12x0x4 F12x0x4
 repeat' (first | with_reducible apply cond_b | (with_reducible apply bnd_b; intro _) | rfl)
def J12x0x4 (L : List Lf) (k0 : Bool → Option R) : Option R := F12x0x4 N (ls L 0) (lb L 1) (ll L 2) (ls L 3) (lb L 4) (ll L 5) k0
def sh12x0x4 : Sh := { tmps := [(2, .c (.p 2 0)), (3, .c (.p 3 0))], mem := [(2, .box ([.s, .sl 64])), (3, .box ([.s, .sl 64]))] }
def A12x0x4 (L : List Lf) : List (Bool × (Ex × St)) := bnd (J12x0x4 N L (fun p => some p)) fun q => [(q.isSome, (.normal, ⟨[(4, .c (.b (q.getD default)))], []⟩))]
theorem raw12x0x4 (L : List Lf) : pc Tryz.prog (T28x0 N) (h12x0s0 N).h 0 100 12 4 sh12x0x4 L [4] [] = J12x0x4 N L (fun p => some (.normal, ⟨[(4, .c (.b p))], []⟩)) := by kernel_rfl
def h12x0s1 : Sg Tryz.prog 0 12 :=
 (h12x0s0 N).cut (A12x0x4 N) progOk (T28x0_ok N) fun L x hx => (raw12x0x4 N L).trans ((bind12x0x4 N ..).trans (alt1 x hx))
def F12x0 (v0 : LB) (v1 : Bool) (v2 : LD) (v3 : LB) (v4 : Bool) (v5 : LD) (k0 : Bool → Option R) : Option R :=
 bnd (G12x0x4 N v0 v1 v2 v3 v4 v5) fun y0 =>
 bif y0.isSome then
  k0 (y0.getD default)
 else
  none
def G12x0 (v0 : LB) (v1 : Bool) (v2 : LD) (v3 : LB) (v4 : Bool) (v5 : LD) : Option (Bool) := F12x0 N v0 v1 v2 v3 v4 v5 (fun p => some p)
theorem bind12x0 (v0 : LB) (v1 : Bool) (v2 : LD) (v3 : LB) (v4 : Bool) (v5 : LD) (k0 : Bool → Option R) : F12x0 N v0 v1 v2 v3 v4 v5 k0 = (G12x0 N v0 v1 v2 v3 v4 v5).bind k0 := by
 unfold G12x0 F12x0
 repeat' (first | with_reducible apply cond_b | (with_reducible apply bnd_b; intro _) | rfl)
def J12x0 (L : List Lf) (k0 : Bool → Option R) : Option R := F12x0 N (ls L 0) (lb L 1) (ll L 2) (ls L 3) (lb L 4) (ll L 5) k0
def sh12x0 : Sh := { tmps := [(0, .g ([.s, .sl 64])), (1, .g ([.s, .sl 64]))], mem := [] }
def A12x0 (L : List Lf) : List (Bool × Res) := bnd (J12x0 N L (fun p => some p)) fun q => [(q.isSome, ([.c (.b (q.getD default))], []))]
theorem raw12x0 (L : List Lf) : bd Tryz.prog (T28x0 N) (h12x0s1 N).h 12 sh12x0 L = J12x0 N L (fun p => some ([.c (.b p)], [])) := by kernel_rfl
theorem ok12x0 : FnOk Tryz.prog 12 sh12x0 (A12x0 N) :=
 (h12x0s1 N).fn progOk (T28x0_ok N) fun L x hx => ((raw12x0 N L).trans ((bind12x0 N ..).trans (alt1 x hx)))
def T12x0 : Oracle := ext 12 (spSh sh12x0 (A12x0 N)) (T28x0 N)
theorem T12x0_ok : OracleOk Tryz.prog (T12x0 N) := FnOk.to (ok12x0 N) (T28x0_ok N)
def sh14x0 : Sh := toldSh
def A14x0 (N : Nat) (L : List Lf) : List (Bool × Res) := toldA L
theorem ok14x0 : FnOk Tryz.prog 14 sh14x0 (A14x0 N) := told_fn
def T14x0 : Oracle := ext 14 (spSh sh14x0 (A14x0 N)) (T12x0 N)
theorem T14x0_ok : OracleOk Tryz.prog (T14x0 N) := FnOk.to (ok14x0 N) (T12x0_ok N)
def rg7x0 : List (Nat × List Nat) := [(0, [0]), (1, [1]), (2, [1, 3, 4]), (3, [1, 3, 5, 4, 6]), (4, [1, 3, 5, 4, 6, 7, 8]), (5, [3, 5, 4, 6, 7, 9, 8, 10])]
def hd7x0 : Hints := [(16, [3, 4, 5, 6, 7, 8, 9, 10], [3, 5, 7, 9], [])]
def h7x0s0 (N : Nat) : Sg Tryz.prog 0 7 := .start hd7x0 rg7x0
def F7x0x16 (w0 w1 w2 w3 : Int) (w4 : LB) (w5 : Bool) (w6 : LD) (w7 : LB) (w8 : Bool) (w9 : LD) (w10 : LB) (w11 : Bool) (w12 : LD) (w13 : LB) (w14 : Bool) (w15 : LD) (k0 : Bool → Option R) : Option R :=
 bnd (G12x0 N w4 w5 w6 w7 w8 w9) fun y0 =>
 bif y0.isSome then
  bif (bif (y0.getD default) then (w0 == w1) else false) then
   bnd (G12x0 N w10 w11 w12 w13 w14 w15) fun y1 =>
   bif y1.isSome then
    bif (bif (y1.getD default) then (w2 == w3) else false) then
     k0 true
    else
     k0 false
   else
    none
  else
   k0 false
 else
  none
def G7x0x16 (w0 w1 w2 w3 : Int) (w4 : LB) (w5 : Bool) (w6 : LD) (w7 : LB) (w8 : Bool) (w9 : LD) (w10 : LB) (w11 : Bool) (w12 : LD) (w13 : LB) (w14 : Bool) (w15 : LD) : Option (Bool) := F7x0x16 N w0 w1 w2 w3 w4 w5 w6 w7 w8 w9 w10 w11 w12 w13 w14 w15 (fun p => some p)
theorem bind7x0x16 (w0 w1 w2 w3 : Int) (w4 : LB) (w5 : Bool) (w6 : LD) (w7 : LB) (w8 : Bool) (w9 : LD) (w10 : LB) (w11 : Bool) (w12 : LD) (w13 : LB) (w14 : Bool) (w15 : LD) (k0 : Bool → Option R) : F7x0x16 N w0 w1 w2 w3 w4 w5 w6 w7 w8 w9 w10 w11 w12 w13 w14 w15 k0 = (G7x0x16 N w0 w1 w2 w3 w4 w5 w6 w7 w8 w9 w10 w11 w12 w13 w14 w15).bind k0 := by
 unfold G7x0x16 F7x0x16
 repeat' (first | with_reducible apply cond_b | (with_reducible apply bnd_b; intro _) | rfl)
def J7x0x16 (L : List Lf) (k0 : Bool → Option R) : Option R := F7x0x16 N (li L 0) (li L 1) (li L 2) (li L 3) (ls L 4) (lb L 5) (ll L 6) (ls L 7) (lb L 8) (ll L 9) (ls L 10) (lb L 11) (ll L 12) (ls L 13) (lb L 14) (ll L 15) k0
def sh7x0x16 : Sh := { tmps := [(3, .c (.p 3 0)), (4, .c (.i .i64)), (5, .c (.p 5 0)), (6, .c (.i .i64)), (7, .c (.p 7 0)), (8, .c (.i .i64)), (9, .c (.p 9 0)), (10, .c (.i .i64))], mem := [(3, .box ([.s, .sl 64])), (5, .box ([.s, .sl 64])), (7, .box ([.s, .sl 64])), (9, .box ([.s, .sl 64]))] }
def A7x0x16 (L : List Lf) : List (Bool × (Ex × St)) := bnd (J7x0x16 N L (fun p => some p)) fun q => [(q.isSome, (.normal, ⟨[(2, .c (.b (q.getD default)))], []⟩))]
theorem raw7x0x16 (L : List Lf) : pc Tryz.prog (T14x0 N) (h7x0s0 N).h 0 100 7 16 sh7x0x16 L [2] [] = J7x0x16 N L (fun p => some (.normal, ⟨[(2, .c (.b p))], []⟩)) := by kernel_rfl
def h7x0s1 : Sg Tryz.prog 0 7 :=
 (h7x0s0 N).cut (A7x0x16 N) progOk (T14x0_ok N) fun L x hx => (raw7x0x16 N L).trans ((bind7x0x16 N ..).trans (alt1 x hx))
def F7x0 (v0 : LB) (v1 : Bool) (v2 : LD) (k0 : Bool → Option R) : Option R :=
 bnd (G25x0 N v0 v1 v2) fun y0 =>
 bif y0.isSome then
  bnd (G26x0 N v0 v1 v2) fun y1 =>
  bif y1.isSome then
   bnd (G27x0 N v0 v1 v2) fun y2 =>
   bif y2.isSome then
    bnd (G28x0 N v0 v1 v2) fun y3 =>
    bif y3.isSome then
     bnd (G7x0x16 N (y0.getD default).2.2.2 (y1.getD default).2.2.2 (y2.getD default).2.2.2 (y3.getD default).2.2.2 (y0.getD default).1 (y0.getD default).2.1 (y0.getD default).2.2.1 (y1.getD default).1 (y1.getD default).2.1 (y1.getD default).2.2.1 (y2.getD default).1 (y2.getD default).2.1 (y2.getD default).2.2.1 (y3.getD default).1 (y3.getD default).2.1 (y3.getD default).2.2.1) fun y4 =>
     bif y4.isSome then
      k0 (y4.getD default)
     else
      none
    else
     none
   else
    none
  else
   none
 else
  none
def G7x0 (v0 : LB) (v1 : Bool) (v2 : LD) : Option (Bool) := F7x0 N v0 v1 v2 (fun p => some p)
theorem bind7x0 (v0 : LB) (v1 : Bool) (v2 : LD) (k0 : Bool → Option R) : F7x0 N v0 v1 v2 k0 = (G7x0 N v0 v1 v2).bind k0 := by
 unfold G7x0 F7x0
 repeat' (first | with_reducible apply cond_b | (with_reducible apply bnd_b; intro _) | rfl)
def sh7x0 : Sh := { tmps := [(0, .g ([.s, .sl 64]))], mem := [] }
def A7x0 (L : List Lf) : List (Bool × Res) := bnd (F7x0 N (ls L 0) (lb L 1) (ll L 2) (fun p => some p)) fun q => [(q.isSome, ([.c (.b (q.getD default))], []))]
theorem raw7x0 (L : List Lf) : bd Tryz.prog (T14x0 N) (h7x0s1 N).h 7 sh7x0 L = F7x0 N (ls L 0) (lb L 1) (ll L 2) (fun p => some ([.c (.b p)], [])) := by kernel_rfl
theorem ok7x0 : FnOk Tryz.prog 7 sh7x0 (A7x0 N) :=
 (h7x0s1 N).fn progOk (T14x0_ok N) fun L x hx => ((raw7x0 N L).trans ((bind7x0 N ..).trans (alt1 x hx)))
def T7x0 : Oracle := ext 7 (spSh sh7x0 (A7x0 N)) (T14x0 N)
theorem T7x0_ok : OracleOk Tryz.prog (T7x0 N) := FnOk.to (ok7x0 N) (T14x0_ok N)
end
end Go.Proofs.YtpnacmnpahjpoaaGreatDoor
