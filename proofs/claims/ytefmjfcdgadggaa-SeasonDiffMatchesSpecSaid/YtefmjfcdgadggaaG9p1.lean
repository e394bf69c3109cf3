/- Functions of the program as plain Lean definitions, each with the proof that the program computes it. No condition. Printed by a program of the prover, part 1. -/
import Derived.Test.YtefmjfcdgadggaaAm3
import Derived.Test.YtefmjfcdgadggaaChecked
import Derived.KernelRfl
set_option linter.all false
set_option maxRecDepth 100000
namespace Go.Proofs.Ytefmjfcdgadggaa
open Go Go.AM
theorem progOk : ProgOk Try.prog := progOk_of (by kernel_rfl)
variable (N : Nat) {R : Type}
abbrev LD : Type := List D
abbrev LB : Type := List UInt8
abbrev Ty0 : Type := Int × Int × Int × Int × Int × Int × Int × Int × Int × Int × Int × Int × Bool × Bool × Bool × Bool × Bool × Bool × Bool × Bool × Bool × Bool
abbrev Ty1 : Type := Int × Int × Int × Int × Int × Int × Int × Int × Int × Int × Int × Int × Int × Int × Int × Int × Int × Int × Int × Int × Bool
abbrev Ty2 : Type := Int × Int × Int × Int × Int × Int × Int × Int × Int × Int × Int × Int × Int × Int × Int × Int × Int × Int × Int
abbrev Ty3 : Type := Int × Int × Int × Int × Int × Int × Int × Int × Int × Int × Int × Int
abbrev Ty4 : Type := Bool × Bool × Bool × Bool × Bool × Bool × Bool × Bool × Bool × Bool
abbrev Ty5 : Type := Int × (List (D × D)) × Int × Int × Int
abbrev Ty6 : Type := Int × Int × Int × (List (D × D))
abbrev Ty7 : Type := (List (D × D)) × Bool × LD
abbrev Ty8 : Type := Bool × LD × Bool × Int
noncomputable def rg87x0 : List (Nat × List Nat) := [(0, [1, 0]), (1, [1, 0]), (2, [1, 0]), (3, [1, 0]), (4, [1, 0]), (5, [0, 1]), (6, [0])]
noncomputable def hd87x0 : Hints := [(17, [0, 1, 16], [], [])]
noncomputable def h87x0s0 (N : Nat) : Sg Try.prog 0 87 := .start hd87x0 rg87x0 true
noncomputable def F87x0x17 (N : Nat) (w2 : Int) (w3 : Bool) (k0 : Bool → Option R) (k1 : Unit → Option R) : Option R :=
  bif w3 then
    bif ((decide (0 ≤ w2)) && (decide (w2.toNat * 8 ≤ room) && decide (w2.toNat ≤ strMax))) then
      bif (decide (0 ≤ ((List.replicate w2.toNat ((.i 0) : D)).length : Int))) then
        k0 (Nat.beq w2.toNat 0)
      else
        none
    else
      none
  else
    k1 ()
noncomputable def G87x0x17 (w2 : Int) (w3 : Bool) : Option (Sum (Bool) (Unit)) := F87x0x17 N w2 w3 (fun p => some (.inl p)) (fun p => some (.inr p))
theorem bind87x0x17 (w2 : Int) (w3 : Bool) (k0 : Bool → Option R) (k1 : Unit → Option R) : F87x0x17 N w2 w3 k0 k1 = (G87x0x17 N w2 w3).bind (sumE k0 k1) := by
  unfold G87x0x17 F87x0x17
  repeat' (first | rfl | apply cond_b | (apply bnd_b; intro _))
noncomputable def sh87x0x17 : Sh := { tmps := [(0, .c (.nsl 3)), (1, .c (.i .i64)), (16, .c (.b))], mem := [] }
noncomputable def A87x0x17 (L : List Lf) : List (Bool × (Ex × St)) := bnd (F87x0x17 N (li L 2) (lb L 3) (fun p => some (.inl p)) (fun p => some (.inr p))) fun q => [((inlB q), (.normal, ⟨[(0, .c (.o 25))], [(25, .row 3 true (inlV q) [])]⟩)), ((inrQ q).isSome, (.normal, ⟨[(0, .c (.sl 3 true []))], []⟩))]
theorem raw87x0x17 (L : List Lf) : pc Try.prog noOracle (h87x0s0 N).h 0 100 87 17 sh87x0x17 L [0] [25] = F87x0x17 N (li L 2) (lb L 3) (fun p => some (.normal, ⟨[(0, .c (.o 25))], [(25, .row 3 true p [])]⟩)) (fun _ => some (.normal, ⟨[(0, .c (.sl 3 true []))], []⟩)) := by kernel_rfl
noncomputable def h87x0s1 : Sg Try.prog 0 87 :=
  (h87x0s0 N).cut (A87x0x17 N) progOk noOracle_ok fun L x hx => (raw87x0x17 N L).trans ((bind87x0x17 N ..).trans ((altS alt1) x hx))
noncomputable def F87x0 (v2 : Int) (k0 : Bool → Option R) (k1 : Unit → Option R) : Option R :=
  bif (decide (v2 < 0)) then
    none
  else
    bnd (G87x0x17 N (IntKind.wrap .i64 (v2 - 0)) (decide ((IntKind.wrap .i64 (v2 - 0)) > 0))) fun y0 =>
    bif (inlB y0) then
      k0 (inlV y0)
    else
      bif (inrQ y0).isSome then
        k1 ()
      else
        none
noncomputable def G87x0 (v2 : Int) : Option (Sum (Bool) (Unit)) := F87x0 N v2 (fun p => some (.inl p)) (fun p => some (.inr p))
theorem bind87x0 (v2 : Int) (k0 : Bool → Option R) (k1 : Unit → Option R) : F87x0 N v2 k0 k1 = (G87x0 N v2).bind (sumE k0 k1) := by
  unfold G87x0 F87x0
  repeat' (first | rfl | apply cond_b | (apply bnd_b; intro _))
noncomputable def sh87x0 : Sh := { tmps := [(0, .c (.nsl 3)), (1, .c (.i .i64))], mem := [] }
noncomputable def A87x0 (L : List Lf) : List (Bool × Res) := bnd (F87x0 N (li L 2) (fun p => some (.inl p)) (fun p => some (.inr p))) fun q => [((inlB q), ([.c (.o 25)], [(25, .row 3 true (inlV q) [])])), ((inrQ q).isSome, ([.c (.sl 3 true [])], []))]
theorem raw87x0 (L : List Lf) : bd Try.prog noOracle (h87x0s1 N).h 87 sh87x0 L = F87x0 N (li L 2) (fun p => some ([.c (.o 25)], [(25, .row 3 true p [])])) (fun _ => some ([.c (.sl 3 true [])], [])) := by kernel_rfl
theorem ok87x0 : FnOk Try.prog 87 sh87x0 (A87x0 N) :=
  (h87x0s1 N).fn progOk noOracle_ok fun L x hx => ((raw87x0 N L).trans ((bind87x0 N ..).trans ((altS alt1) x hx)))
noncomputable def T87x0 : Oracle := ext 87 (spSh sh87x0 (A87x0 N)) noOracle
theorem T87x0_ok : OracleOk Try.prog (T87x0 N) := FnOk.to (ok87x0 N) noOracle_ok
noncomputable def rg66x0 : List (Nat × List Nat) := [(0, [0]), (1, [0]), (2, [0, 3]), (3, [11, 10, 9, 3, 0]), (4, [9, 11, 3, 10, 0]), (5, [3, 5, 11, 10, 9, 0]), (6, [3, 11, 10, 9, 0]), (7, [11, 10, 9, 3, 0]), (8, [11, 10, 9, 3, 0]), (9, [3, 0]), (10, [0, 6]), (11, [27, 26, 25, 6]), (12, [25, 27, 6, 26]), (13, [6, 8, 27, 26, 25]), (14, [27, 26, 25, 6]), (15, [6])]
noncomputable def hd66x0 : Hints := [(9, [11, 10, 9, 3, 0], [], []), (28, [3, 0], [], []), (33, [27, 26, 25, 6], [25000000025, 6], [6])]
noncomputable def h66x0s0 (N : Nat) : Sg Try.prog 0 66 := .start hd66x0 rg66x0
noncomputable def S66x0x9 (N : Nat) (w4 : LD) (w5 : Int) (w2 w6 : Int) (kr : Int → Int → Option R) (k0 : Int → Option R) : Option R :=
  bif (decide (w6 < w5)) then
    bif (inB w6 w4.length) then
      bnd (IntKind.wrap .i64 (w2 + ((w4.getD w6.toNat (.i 0)).items.length : Int))) fun y0 =>
      bif (decide (y0 < 0)) then
        none
      else
        kr y0 (IntKind.wrap .i64 (w6 + 1))
    else
      none
  else
    k0 w2
noncomputable def L66x0x9 (N : Nat) {R : Type} (w4 : LD) (w5 : Int) : Nat → Int → Int → (Int → Option R) → Option R
  | 0, _, _, _ => none
  | m + 1, w2, w6, k0 => S66x0x9 N w4 w5 w2 w6 (fun w2 w6 => L66x0x9 N w4 w5 m w2 w6 k0) k0
noncomputable def G66x0x9 (w4 : LD) (w5 : Int) (w2 w6 : Int) : Option (Int) := L66x0x9 N (R := (Int)) w4 w5 N w2 w6 (fun p => some p)
noncomputable def J66x0x9 (L x : List Lf) (kr : List Lf → Option R) (k0 : Int → Option R) : Option R := S66x0x9 N (ll L 4) (li L 5) (li x 0) (li x 1) (fun w2 w6 => kr [.i w2, .i w6]) k0
theorem sb66x0x9 (L x : List Lf) (kr : List Lf → Option R) (k0 : Int → Option R) : J66x0x9 N L x kr k0 = (J66x0x9 N L x (fun y => some (.inl y)) (fun p => some (.inr p))).bind (sumE kr k0) := by
  unfold J66x0x9 S66x0x9
  repeat' (first | rfl | apply cond_b | (apply bnd_b; intro _))
noncomputable def Q66x0x9 (L : List Lf) (m : Nat) (x : List Lf) : Option (Int) := L66x0x9 N (R := (Int)) (ll L 4) (li L 5) m (li x 0) (li x 1) (fun p => some p)
noncomputable def sh66x0x9 : Sh := { tmps := [(0, .c (.sl 26)), (3, .c (.i .i64)), (9, .c (.sl 26)), (10, .c (.i .i64)), (11, .c (.i .i64))], mem := [] }
noncomputable def K66x0x9w0 (L : List Lf) (p : Int) : Ex × St := ((.exit 0), mg (ofSh sh66x0x9 L) [0, 3] [(3, .c (.i .i64 p))] [] [])
noncomputable def A66x0x9 (L : List Lf) : List (Bool × (Ex × St)) := bnd (Q66x0x9 N L N (pk sh66x0x9 [2, 6] L)) fun q => [(q.isSome, K66x0x9w0 L (q.getD default))]
theorem step66x0x9 (m : Nat) (kn : St → Option (Ex × St)) (L x : List Lf) : lpB Try.prog (T87x0 N) (h66x0s0 N).h 0 66 9 sh66x0x9 [2, 6] [2, 3, 0] [] (m + 100) kn L x = J66x0x9 N L x (fun y => kn (ofSh sh66x0x9 (mx sh66x0x9 [2, 6] L y))) (fun p => some (K66x0x9w0 L p)) := by kernel_rfl
noncomputable def h66x0s1 : Sg Try.prog 0 66 :=
  (h66x0s0 N).lp (A66x0x9 N) N progOk (T87x0_ok N) (fun m kn L x => (step66x0x9 N m kn L x).trans (sb66x0x9 N L x _ _)) (fun L m x => sb66x0x9 N L x (Q66x0x9 N L m) some) fun L x hx => alt1 x hx
noncomputable def F66x0x28 (w2 : Int) (k0 : Bool → Option R) (k1 : Unit → Option R) : Option R :=
  bnd (G87x0 N w2) fun y0 =>
  bif (inlB y0) then
    k0 (inlV y0)
  else
    bif (inrQ y0).isSome then
      k1 ()
    else
      none
noncomputable def G66x0x28 (w2 : Int) : Option (Sum (Bool) (Unit)) := F66x0x28 N w2 (fun p => some (.inl p)) (fun p => some (.inr p))
theorem bind66x0x28 (w2 : Int) (k0 : Bool → Option R) (k1 : Unit → Option R) : F66x0x28 N w2 k0 k1 = (G66x0x28 N w2).bind (sumE k0 k1) := by
  unfold G66x0x28 F66x0x28
  repeat' (first | rfl | apply cond_b | (apply bnd_b; intro _))
noncomputable def sh66x0x28 : Sh := { tmps := [(0, .c (.sl 26)), (3, .c (.i .i64))], mem := [] }
noncomputable def K66x0x28w0 (L : List Lf) (p : Bool) : Ex × St := (.normal, ⟨[(0, .c (.sl 26 (lb L 0) (ll L 1))), (6, .c (.o 25000000025))], [(25000000025, .row 3 true p [])]⟩)
noncomputable def K66x0x28w1 (L : List Lf) (_ : Unit) : Ex × St := (.normal, mg (ofSh sh66x0x28 L) [0, 6] [(6, .c (.sl 3 true []))] [] [])
noncomputable def A66x0x28 (L : List Lf) : List (Bool × (Ex × St)) := bnd (F66x0x28 N (li L 2) (fun p => some (.inl p)) (fun p => some (.inr p))) fun q => [((inlB q), K66x0x28w0 L (inlV q)), ((inrQ q).isSome, K66x0x28w1 L ())]
theorem raw66x0x28 (L : List Lf) : pc Try.prog (T87x0 N) (h66x0s1 N).h 0 100 66 28 sh66x0x28 L [0, 6] [25000000025] = F66x0x28 N (li L 2) (fun p => some (K66x0x28w0 L p)) (fun _ => some (K66x0x28w1 L ())) := by kernel_rfl
noncomputable def h66x0s2 : Sg Try.prog 0 66 :=
  (h66x0s1 N).cut (A66x0x28 N) progOk (T87x0_ok N) fun L x hx => (raw66x0x28 N L).trans ((bind66x0x28 N ..).trans ((altS alt1) x hx))
noncomputable def S66x0x33 (N : Nat) (w1 : LD) (w2 : Int) (w3 : Int) (w4 : Bool) (w5 : LD) (kr : Int → Bool → LD → Option R) (k0 : Bool × LD → Option R) : Option R :=
  bif (decide (w3 < w2)) then
    bif (inB w3 w1.length) then
      bif (decide ((w5.length + (w1.getD w3.toNat (.i 0)).items.length) * 8 ≤ room) && decide ((w5.length + (w1.getD w3.toNat (.i 0)).items.length) ≤ strMax)) then
        kr (IntKind.wrap .i64 (w3 + 1)) ((w1.getD w3.toNat (.i 0)).items.isEmpty && w4) (w5 ++ (w1.getD w3.toNat (.i 0)).items)
      else
        none
    else
      none
  else
    k0 (w4, w5)
noncomputable def L66x0x33 (N : Nat) {R : Type} (w1 : LD) (w2 : Int) : Nat → Int → Bool → LD → (Bool × LD → Option R) → Option R
  | 0, _, _, _, _ => none
  | m + 1, w3, w4, w5, k0 => S66x0x33 N w1 w2 w3 w4 w5 (fun w3 w4 w5 => L66x0x33 N w1 w2 m w3 w4 w5 k0) k0
noncomputable def G66x0x33 (w1 : LD) (w2 : Int) (w3 : Int) (w4 : Bool) (w5 : LD) : Option (Bool × LD) := L66x0x33 N (R := (Bool × LD)) w1 w2 N w3 w4 w5 (fun p => some p)
noncomputable def J66x0x33 (L x : List Lf) (kr : List Lf → Option R) (k0 : Bool × LD → Option R) : Option R := S66x0x33 N (ll L 1) (li L 2) (li x 0) (lb x 1) (ll x 2) (fun w3 w4 w5 => kr [.i w3, .b w4, .l w5]) k0
theorem sb66x0x33 (L x : List Lf) (kr : List Lf → Option R) (k0 : Bool × LD → Option R) : J66x0x33 N L x kr k0 = (J66x0x33 N L x (fun y => some (.inl y)) (fun p => some (.inr p))).bind (sumE kr k0) := by
  unfold J66x0x33 S66x0x33
  repeat' (first | rfl | apply cond_b | (apply bnd_b; intro _))
noncomputable def Q66x0x33 (L : List Lf) (m : Nat) (x : List Lf) : Option (Bool × LD) := L66x0x33 N (R := (Bool × LD)) (ll L 1) (li L 2) m (li x 0) (lb x 1) (ll x 2) (fun p => some p)
noncomputable def sh66x0x33 : Sh := { tmps := [(6, .c (.o 6)), (25, .c (.sl 26)), (26, .c (.i .i64)), (27, .c (.i .i64))], mem := [(6, .row 3 true)] }
noncomputable def A66x0x33 (L : List Lf) : List (Bool × (Ex × St)) := bnd (Q66x0x33 N L N (pk sh66x0x33 [3, 4, 5] L)) fun q => [(q.isSome, ((.exit 2), ⟨[(6, .c (.o 6))], [(6, .row 3 true (q.getD default).1 (q.getD default).2)]⟩))]
theorem step66x0x33 (m : Nat) (kn : St → Option (Ex × St)) (L x : List Lf) : lpB Try.prog (T87x0 N) (h66x0s2 N).h 0 66 33 sh66x0x33 [3, 4, 5] [2, 6] [6] (m + 100) kn L x = J66x0x33 N L x (fun y => kn (ofSh sh66x0x33 (mx sh66x0x33 [3, 4, 5] L y))) (fun p => some ((.exit 2), ⟨[(6, .c (.o 6))], [(6, .row 3 true p.1 p.2)]⟩)) := by kernel_rfl
noncomputable def h66x0s3 : Sg Try.prog 0 66 :=
  (h66x0s2 N).lp (A66x0x33 N) N progOk (T87x0_ok N) (fun m kn L x => (step66x0x33 N m kn L x).trans (sb66x0x33 N L x _ _)) (fun L m x => sb66x0x33 N L x (Q66x0x33 N L m) some) fun L x hx => alt1 x hx
noncomputable def F66x0 (v1 : LD) (k0 : Bool × LD → Option R) : Option R :=
  bnd (G66x0x9 N v1 (v1.length : Int) 0 0) fun y0 =>
  bif y0.isSome then
    bnd (G66x0x28 N (y0.getD default)) fun y1 =>
    bif (inlB y1) then
      bnd (G66x0x33 N v1 (v1.length : Int) 0 (inlV y1) []) fun y2 =>
      bif y2.isSome then
        k0 (y2.getD default)
      else
        none
    else
      bif (inrQ y1).isSome then
        bnd (G66x0x33 N v1 (v1.length : Int) 0 true []) fun y3 =>
        bif y3.isSome then
          k0 (y3.getD default)
        else
          none
      else
        none
  else
    none
noncomputable def G66x0 (v1 : LD) : Option (Bool × LD) := F66x0 N v1 (fun p => some p)
theorem bind66x0 (v1 : LD) (k0 : Bool × LD → Option R) : F66x0 N v1 k0 = (G66x0 N v1).bind k0 := by
  unfold G66x0 F66x0
  repeat' (first | rfl | apply cond_b | (apply bnd_b; intro _))
noncomputable def sh66x0 : Sh := { tmps := [(0, .c (.sl 26))], mem := [] }
noncomputable def A66x0 (L : List Lf) : List (Bool × Res) := bnd (F66x0 N (ll L 1) (fun p => some p)) fun q => [(q.isSome, ([.c (.sl 3 (q.getD default).1 (q.getD default).2)], []))]
theorem raw66x0 (L : List Lf) : bd Try.prog (T87x0 N) (h66x0s3 N).h 66 sh66x0 L = F66x0 N (ll L 1) (fun p => some ([.c (.sl 3 p.1 p.2)], [])) := by kernel_rfl
theorem ok66x0 : FnOk Try.prog 66 sh66x0 (A66x0 N) :=
  (h66x0s3 N).fn progOk (T87x0_ok N) fun L x hx => ((raw66x0 N L).trans ((bind66x0 N ..).trans (alt1 x hx)))
noncomputable def T66x0 : Oracle := ext 66 (spSh sh66x0 (A66x0 N)) (T87x0 N)
theorem T66x0_ok : OracleOk Try.prog (T66x0 N) := FnOk.to (ok66x0 N) (T87x0_ok N)
noncomputable def rg67x0 : List (Nat × List Nat) := [(0, [0]), (1, [0])]
noncomputable def hd67x0 : Hints := []
noncomputable def h67x0s0 (N : Nat) : Sg Try.prog 0 67 := .start hd67x0 rg67x0
noncomputable def F67x0 (N : Nat) (v0 : Int) (k0 : Bool → R) : R :=
  k0 (decide (v0 < (-1)))
noncomputable def V67x0 (v0 : Int) : Bool := F67x0 N v0 (fun p => p)
theorem tot67x0 (v0 : Int) (k0 : Bool → R) : F67x0 N v0 k0 = k0 (V67x0 N v0) := by
  unfold V67x0 F67x0
  repeat' (first | rfl | apply cond_k | (apply bnd_k; intro _))
noncomputable def sh67x0 : Sh := { tmps := [(0, .c (.i .i64))], mem := [] }
noncomputable def A67x0 (L : List Lf) : List (Bool × Res) := bnd (F67x0 N (li L 0) (fun p => p)) fun q => [(true, ([.c (.b q)], []))]
theorem raw67x0 (L : List Lf) : bd Try.prog (T66x0 N) (h67x0s0 N).h 67 sh67x0 L = F67x0 N (li L 0) (fun p => some ([.c (.b p)], [])) := by kernel_rfl
theorem ok67x0 : FnOk Try.prog 67 sh67x0 (A67x0 N) :=
  (h67x0s0 N).fn progOk (T66x0_ok N) fun L x hx => ((raw67x0 N L).trans ((tot67x0 N ..).trans (alt0 _ _ hx)))
noncomputable def T67x0 : Oracle := ext 67 (spSh sh67x0 (A67x0 N)) (T66x0 N)
theorem T67x0_ok : OracleOk Try.prog (T67x0 N) := FnOk.to (ok67x0 N) (T66x0_ok N)
noncomputable def rg86x0 : List (Nat × List Nat) := [(0, [0, 1]), (1, [0, 1]), (2, [8, 7, 1, 0]), (3, [8, 1, 0, 7]), (4, [1, 0, 5, 8, 7]), (5, [5]), (6, [8, 7, 1, 0]), (7, [])]
noncomputable def hd86x0 : Hints := [(6, [8, 7, 1, 0], [], [])]
noncomputable def h86x0s0 (N : Nat) : Sg Try.prog 0 86 := .start hd86x0 rg86x0
noncomputable def S86x0x6 (w1 : LD) (w2 : Int) (w3 : Int) (kr : Int → Option R) (k0 : Int → Option R) (k1 : Unit → Option R) : Option R :=
  bif (decide (w3 < w2)) then
    bif (inB w3 w1.length) then
      bnd (V67x0 N (w1.getD w3.toNat (.i 0)).toI) fun y0 =>
      bif y0 then
        k0 w3
      else
        kr (IntKind.wrap .i64 (w3 + 1))
    else
      none
  else
    k1 ()
noncomputable def L86x0x6 (N : Nat) {R : Type} (w1 : LD) (w2 : Int) : Nat → Int → (Int → Option R) → (Unit → Option R) → Option R
  | 0, _, _, _ => none
  | m + 1, w3, k0, k1 => S86x0x6 N w1 w2 w3 (fun w3 => L86x0x6 N w1 w2 m w3 k0 k1) k0 k1
noncomputable def G86x0x6 (w1 : LD) (w2 : Int) (w3 : Int) : Option (Sum (Int) (Unit)) := L86x0x6 N (R := (Sum (Int) (Unit))) w1 w2 N w3 (fun p => some (.inl p)) (fun p => some (.inr p))
noncomputable def J86x0x6 (L x : List Lf) (kr : List Lf → Option R) (k0 : Int → Option R) (k1 : Unit → Option R) : Option R := S86x0x6 N (ll L 1) (li L 2) (li x 0) (fun w3 => kr [.i w3]) k0 k1
theorem sb86x0x6 (L x : List Lf) (kr : List Lf → Option R) (k0 : Int → Option R) (k1 : Unit → Option R) : J86x0x6 N L x kr k0 k1 = (J86x0x6 N L x (fun y => some (.inl y)) (fun p => some (.inr (.inl p))) (fun p => some (.inr (.inr p)))).bind (sumE kr (sumE k0 k1)) := by
  unfold J86x0x6 S86x0x6
  repeat' (first | rfl | apply cond_b | (apply bnd_b; intro _))
noncomputable def Q86x0x6 (L : List Lf) (m : Nat) (x : List Lf) : Option (Sum (Int) (Unit)) := L86x0x6 N (R := (Sum (Int) (Unit))) (ll L 1) (li L 2) m (li x 0) (fun p => some (.inl p)) (fun p => some (.inr p))
noncomputable def sh86x0x6 : Sh := { tmps := [(0, .c (.sl 3)), (1, .c (.f 67 [])), (7, .c (.i .i64)), (8, .c (.i .i64))], mem := [] }
noncomputable def A86x0x6 (L : List Lf) : List (Bool × (Ex × St)) := bnd (Q86x0x6 N L N (pk sh86x0x6 [3] L)) fun q => [((inlB q), (.ret, ⟨[(4, .c (.i .i64 (inlV q)))], []⟩)), ((inrQ q).isSome, ((.exit 0), ⟨[], []⟩))]
theorem step86x0x6 (m : Nat) (kn : St → Option (Ex × St)) (L x : List Lf) : lpB Try.prog (T67x0 N) (h86x0s0 N).h 0 86 6 sh86x0x6 [3] [4] [] (m + 100) kn L x = J86x0x6 N L x (fun y => kn (ofSh sh86x0x6 (mx sh86x0x6 [3] L y))) (fun p => some (.ret, ⟨[(4, .c (.i .i64 p))], []⟩)) (fun _ => some ((.exit 0), ⟨[], []⟩)) := by kernel_rfl
noncomputable def h86x0s1 : Sg Try.prog 0 86 :=
  (h86x0s0 N).lp (A86x0x6 N) N progOk (T67x0_ok N) (fun m kn L x => (step86x0x6 N m kn L x).trans (sb86x0x6 N L x _ _ _)) (fun L m x => sb86x0x6 N L x (Q86x0x6 N L m) (fun p => some (.inl p)) (fun p => some (.inr p))) fun L x hx => (altS alt1) x hx
noncomputable def F86x0 (v1 : LD) (k0 : Int → Option R) : Option R :=
  bnd (G86x0x6 N v1 (v1.length : Int) 0) fun y0 =>
  bif (inlB y0) then
    k0 (inlV y0)
  else
    bif (inrQ y0).isSome then
      k0 (-1)
    else
      none
noncomputable def G86x0 (v1 : LD) : Option (Int) := F86x0 N v1 (fun p => some p)
theorem bind86x0 (v1 : LD) (k0 : Int → Option R) : F86x0 N v1 k0 = (G86x0 N v1).bind k0 := by
  unfold G86x0 F86x0
  repeat' (first | rfl | apply cond_b | (apply bnd_b; intro _))
noncomputable def sh86x0 : Sh := { tmps := [(0, .c (.sl 3)), (1, .c (.f 67 []))], mem := [] }
noncomputable def A86x0 (L : List Lf) : List (Bool × Res) := bnd (F86x0 N (ll L 1) (fun p => some p)) fun q => [(q.isSome, ([.c (.i .i64 (q.getD default))], []))]
theorem raw86x0 (L : List Lf) : bd Try.prog (T67x0 N) (h86x0s1 N).h 86 sh86x0 L = F86x0 N (ll L 1) (fun p => some ([.c (.i .i64 p)], [])) := by kernel_rfl
theorem ok86x0 : FnOk Try.prog 86 sh86x0 (A86x0 N) :=
  (h86x0s1 N).fn progOk (T67x0_ok N) fun L x hx => ((raw86x0 N L).trans ((bind86x0 N ..).trans (alt1 x hx)))
noncomputable def T86x0 : Oracle := ext 86 (spSh sh86x0 (A86x0 N)) (T67x0 N)
theorem T86x0_ok : OracleOk Try.prog (T86x0 N) := FnOk.to (ok86x0 N) (T67x0_ok N)
noncomputable def rg65x0 : List (Nat × List Nat) := [(0, [0, 1]), (1, [0, 1])]
noncomputable def hd65x0 : Hints := []
noncomputable def h65x0s0 (N : Nat) : Sg Try.prog 0 65 := .start hd65x0 rg65x0
noncomputable def F65x0 (v1 : LD) (k0 : Bool → Option R) : Option R :=
  bnd (G86x0 N v1) fun y0 =>
  bif y0.isSome then
    k0 (decide ((y0.getD default) ≥ 0))
  else
    none
noncomputable def G65x0 (v1 : LD) : Option (Bool) := F65x0 N v1 (fun p => some p)
theorem bind65x0 (v1 : LD) (k0 : Bool → Option R) : F65x0 N v1 k0 = (G65x0 N v1).bind k0 := by
  unfold G65x0 F65x0
  repeat' (first | rfl | apply cond_b | (apply bnd_b; intro _))
noncomputable def sh65x0 : Sh := { tmps := [(0, .c (.sl 3)), (1, .c (.f 67 []))], mem := [] }
noncomputable def A65x0 (L : List Lf) : List (Bool × Res) := bnd (F65x0 N (ll L 1) (fun p => some p)) fun q => [(q.isSome, ([.c (.b (q.getD default))], []))]
theorem raw65x0 (L : List Lf) : bd Try.prog (T86x0 N) (h65x0s0 N).h 65 sh65x0 L = F65x0 N (ll L 1) (fun p => some ([.c (.b p)], [])) := by kernel_rfl
theorem ok65x0 : FnOk Try.prog 65 sh65x0 (A65x0 N) :=
  (h65x0s0 N).fn progOk (T86x0_ok N) fun L x hx => ((raw65x0 N L).trans ((bind65x0 N ..).trans (alt1 x hx)))
noncomputable def T65x0 : Oracle := ext 65 (spSh sh65x0 (A65x0 N)) (T86x0 N)
theorem T65x0_ok : OracleOk Try.prog (T65x0 N) := FnOk.to (ok65x0 N) (T86x0_ok N)
noncomputable def rg68x0 : List (Nat × List Nat) := [(0, [1, 0]), (1, [1, 0]), (2, [0, 1]), (3, [])]
noncomputable def hd68x0 : Hints := []
noncomputable def h68x0s0 (N : Nat) : Sg Try.prog 0 68 := .start hd68x0 rg68x0
noncomputable def F68x0 (N : Nat) (v1 : LD) (v2 : Int) (k0 : Int → Option R) : Option R :=
  bif (decide (v2 < (v1.length : Int))) then
    bif (inB v2 v1.length) then
      k0 (v1.getD v2.toNat (.i 0)).toI
    else
      none
  else
    k0 (-1)
noncomputable def G68x0 (v1 : LD) (v2 : Int) : Option (Int) := F68x0 N v1 v2 (fun p => some p)
theorem bind68x0 (v1 : LD) (v2 : Int) (k0 : Int → Option R) : F68x0 N v1 v2 k0 = (G68x0 N v1 v2).bind k0 := by
  unfold G68x0 F68x0
  repeat' (first | rfl | apply cond_b | (apply bnd_b; intro _))
noncomputable def sh68x0 : Sh := { tmps := [(0, .c (.sl 3)), (1, .c (.i .i64))], mem := [] }
noncomputable def A68x0 (L : List Lf) : List (Bool × Res) := bnd (F68x0 N (ll L 1) (li L 2) (fun p => some p)) fun q => [(q.isSome, ([.c (.i .i64 (q.getD default))], []))]
theorem raw68x0 (L : List Lf) : bd Try.prog (T65x0 N) (h68x0s0 N).h 68 sh68x0 L = F68x0 N (ll L 1) (li L 2) (fun p => some ([.c (.i .i64 p)], [])) := by kernel_rfl
theorem ok68x0 : FnOk Try.prog 68 sh68x0 (A68x0 N) :=
  (h68x0s0 N).fn progOk (T65x0_ok N) fun L x hx => ((raw68x0 N L).trans ((bind68x0 N ..).trans (alt1 x hx)))
noncomputable def T68x0 : Oracle := ext 68 (spSh sh68x0 (A68x0 N)) (T65x0 N)
theorem T68x0_ok : OracleOk Try.prog (T68x0 N) := FnOk.to (ok68x0 N) (T65x0_ok N)
noncomputable def rg32x0 : List (Nat × List Nat) := [(0, [0, 1]), (1, [0, 1]), (2, []), (3, [0, 1]), (4, []), (5, [0, 1]), (6, [0, 1, 6]), (7, [0, 1, 6, 7]), (8, [29, 28, 6, 0, 1, 7]), (9, [29, 6, 0, 1, 7, 28]), (10, [6, 0, 8, 1, 7, 29, 28]), (11, [9, 10, 7, 8, 29, 28, 6, 0, 1]), (12, [7, 8, 9, 10, 29, 28, 6, 0, 1]), (13, [29, 28, 6, 0, 1, 7]), (14, [7])]
noncomputable def hd32x0 : Hints := [(24, [29, 28, 6, 0, 1, 7], [7], [7]), (38, [7, 8, 9, 10, 29, 28, 6, 0, 1, 42], [7], [])]
noncomputable def h32x0s0 (N : Nat) : Sg Try.prog 0 32 := .start hd32x0 rg32x0
noncomputable def F32x0x38 (N : Nat) (w4 w5 w6 : Int) (w9 : Bool) (w11 : LD) (k0 : LD → Option R) (k1 : Unit → Option R) : Option R :=
  bif w9 then
    bif (decide ((w11.length + 1) * 24 ≤ room) && decide ((w11.length + 1) ≤ strMax)) then
      k0 (w11 ++ [(.a [(.i w4), (.i w5), (.i w6)])])
    else
      none
  else
    k1 ()
noncomputable def G32x0x38 (w4 w5 w6 : Int) (w9 : Bool) (w11 : LD) : Option (Sum (LD) (Unit)) := F32x0x38 N w4 w5 w6 w9 w11 (fun p => some (.inl p)) (fun p => some (.inr p))
theorem bind32x0x38 (w4 w5 w6 : Int) (w9 : Bool) (w11 : LD) (k0 : LD → Option R) (k1 : Unit → Option R) : F32x0x38 N w4 w5 w6 w9 w11 k0 k1 = (G32x0x38 N w4 w5 w6 w9 w11).bind (sumE k0 k1) := by
  unfold G32x0x38 F32x0x38
  repeat' (first | rfl | apply cond_b | (apply bnd_b; intro _))
noncomputable def J32x0x38 (L : List Lf) (k0 : LD → Option R) (k1 : Unit → Option R) : Option R := F32x0x38 N (li L 4) (li L 5) (li L 6) (lb L 9) (ll L 11) k0 k1
noncomputable def sh32x0x38 : Sh := { tmps := [(0, .c (.sl 3)), (1, .c (.sl 3)), (6, .c (.f 68 [])), (7, .c (.o 7)), (8, .c (.i .i64)), (9, .c (.i .i64)), (10, .c (.i .i64)), (28, .c (.i .i64)), (29, .c (.i .i64)), (42, .c (.b))], mem := [(7, .row 50 true)] }
noncomputable def K32x0x38w0 (L : List Lf) (p : LD) : Ex × St := (.normal, mg (ofSh sh32x0x38 L) [0, 1, 6, 7, 28, 29] [(7, .c (.o 49))] [49] [(49, .row 50 true false p)])
noncomputable def K32x0x38w1 (L : List Lf) (_ : Unit) : Ex × St := (.normal, mg (ofSh sh32x0x38 L) [0, 1, 6, 7, 28, 29] [] [7] [])
noncomputable def A32x0x38 (L : List Lf) : List (Bool × (Ex × St)) := bnd (J32x0x38 N L (fun p => some (.inl p)) (fun p => some (.inr p))) fun q => [((inlB q), K32x0x38w0 L (inlV q)), ((inrQ q).isSome, K32x0x38w1 L ())]
theorem raw32x0x38 (L : List Lf) : pc Try.prog (T68x0 N) (h32x0s0 N).h 0 100 32 38 sh32x0x38 L [29, 28, 6, 0, 1, 7] [49, 7] = J32x0x38 N L (fun p => some (K32x0x38w0 L p)) (fun _ => some (K32x0x38w1 L ())) := by kernel_rfl
noncomputable def h32x0s1 : Sg Try.prog 0 32 :=
  (h32x0s0 N).cut (A32x0x38 N) progOk (T68x0_ok N) fun L x hx => (raw32x0x38 N L).trans ((bind32x0x38 N ..).trans ((altS alt1) x hx))
noncomputable def S32x0x24 (w1 w3 : LD) (w4 : Int) (w5 : Int) (w6 : Bool) (w7 : LD) (kr : Int → Bool → LD → Option R) (k0 : Bool × LD → Option R) : Option R :=
  bif (decide (w5 < w4)) then
    bnd (G68x0 N w1 w5) fun y0 =>
    bif y0.isSome then
      bnd (G68x0 N w3 w5) fun y1 =>
      bif y1.isSome then
        bnd (G32x0x38 N w5 (y0.getD default) (y1.getD default) ((y0.getD default) != (y1.getD default)) w7) fun y2 =>
        bif (inlB y2) then
          kr (IntKind.wrap .i64 (w5 + 1)) false (inlV y2)
        else
          bif (inrQ y2).isSome then
            kr (IntKind.wrap .i64 (w5 + 1)) w6 w7
          else
            none
      else
        none
    else
      none
  else
    k0 (w6, w7)
noncomputable def L32x0x24 (N : Nat) {R : Type} (w1 w3 : LD) (w4 : Int) : Nat → Int → Bool → LD → (Bool × LD → Option R) → Option R
  | 0, _, _, _, _ => none
  | m + 1, w5, w6, w7, k0 => S32x0x24 N w1 w3 w4 w5 w6 w7 (fun w5 w6 w7 => L32x0x24 N w1 w3 w4 m w5 w6 w7 k0) k0
noncomputable def G32x0x24 (w1 w3 : LD) (w4 : Int) (w5 : Int) (w6 : Bool) (w7 : LD) : Option (Bool × LD) := L32x0x24 N (R := (Bool × LD)) w1 w3 w4 N w5 w6 w7 (fun p => some p)
noncomputable def J32x0x24 (L x : List Lf) (kr : List Lf → Option R) (k0 : Bool × LD → Option R) : Option R := S32x0x24 N (ll L 1) (ll L 3) (li L 4) (li x 0) (lb x 1) (ll x 2) (fun w5 w6 w7 => kr [.i w5, .b w6, .l w7]) k0
theorem sb32x0x24 (L x : List Lf) (kr : List Lf → Option R) (k0 : Bool × LD → Option R) : J32x0x24 N L x kr k0 = (J32x0x24 N L x (fun y => some (.inl y)) (fun p => some (.inr p))).bind (sumE kr k0) := by
  unfold J32x0x24 S32x0x24
  repeat' (first | rfl | apply cond_b | (apply bnd_b; intro _))
noncomputable def Q32x0x24 (L : List Lf) (m : Nat) (x : List Lf) : Option (Bool × LD) := L32x0x24 N (R := (Bool × LD)) (ll L 1) (ll L 3) (li L 4) m (li x 0) (lb x 1) (ll x 2) (fun p => some p)
noncomputable def sh32x0x24 : Sh := { tmps := [(0, .c (.sl 3)), (1, .c (.sl 3)), (6, .c (.f 68 [])), (7, .c (.o 7)), (28, .c (.i .i64)), (29, .c (.i .i64))], mem := [(7, .row 50 true)] }
noncomputable def A32x0x24 (L : List Lf) : List (Bool × (Ex × St)) := bnd (Q32x0x24 N L N (pk sh32x0x24 [5, 6, 7] L)) fun q => [(q.isSome, ((.exit 0), ⟨[(7, .c (.o 7))], [(7, .row 50 true (q.getD default).1 (q.getD default).2)]⟩))]
theorem step32x0x24 (m : Nat) (kn : St → Option (Ex × St)) (L x : List Lf) : lpB Try.prog (T68x0 N) (h32x0s1 N).h 0 32 24 sh32x0x24 [5, 6, 7] [4, 5, 7] [7] (m + 100) kn L x = J32x0x24 N L x (fun y => kn (ofSh sh32x0x24 (mx sh32x0x24 [5, 6, 7] L y))) (fun p => some ((.exit 0), ⟨[(7, .c (.o 7))], [(7, .row 50 true p.1 p.2)]⟩)) := by kernel_rfl
noncomputable def h32x0s2 : Sg Try.prog 0 32 :=
  (h32x0s1 N).lp (A32x0x24 N) N progOk (T68x0_ok N) (fun m kn L x => (step32x0x24 N m kn L x).trans (sb32x0x24 N L x _ _)) (fun L m x => sb32x0x24 N L x (Q32x0x24 N L m) some) fun L x hx => alt1 x hx
noncomputable def F32x0 (v0 : Bool) (v1 : LD) (v2 : Bool) (v3 : LD) (k0 : Bool × LD × Int → Option R) : Option R :=
  bnd (bif (decide ((v1.length : Int) > 1000)) then true else (decide ((v3.length : Int) > 1000))) fun y0 =>
  bif y0 then
    k0 (true, [], 3)
  else
    bnd (G66x0 N [(.l v0 v1), (.l v2 v3)]) fun y1 =>
    bif y1.isSome then
      bnd (G65x0 N (y1.getD default).2) fun y2 =>
      bif y2.isSome then
        bif (y2.getD default) then
          k0 (true, [], 9)
        else
          bnd (G32x0x24 N v1 v3 (max2 (v1.length : Int) (v3.length : Int)) 0 true []) fun y3 =>
          bif y3.isSome then
            k0 ((y3.getD default).1, (y3.getD default).2, 0)
          else
            none
      else
        none
    else
      none
noncomputable def G32x0 (v0 : Bool) (v1 : LD) (v2 : Bool) (v3 : LD) : Option (Bool × LD × Int) := F32x0 N v0 v1 v2 v3 (fun p => some p)
theorem bind32x0 (v0 : Bool) (v1 : LD) (v2 : Bool) (v3 : LD) (k0 : Bool × LD × Int → Option R) : F32x0 N v0 v1 v2 v3 k0 = (G32x0 N v0 v1 v2 v3).bind k0 := by
  unfold G32x0 F32x0
  repeat' (first | rfl | apply cond_b | (apply bnd_b; intro _))
noncomputable def J32x0 (L : List Lf) (k0 : Bool × LD × Int → Option R) : Option R := F32x0 N (lb L 0) (ll L 1) (lb L 2) (ll L 3) k0
noncomputable def sh32x0 : Sh := { tmps := [(0, .c (.sl 3)), (1, .c (.sl 3))], mem := [] }
noncomputable def A32x0 (L : List Lf) : List (Bool × Res) := bnd (J32x0 N L (fun p => some p)) fun q => [(q.isSome, ([.c (.sl 50 (q.getD default).1 (q.getD default).2.1), .c (.i .i64 (q.getD default).2.2)], []))]
theorem raw32x0 (L : List Lf) : bd Try.prog (T68x0 N) (h32x0s2 N).h 32 sh32x0 L = J32x0 N L (fun p => some ([.c (.sl 50 p.1 p.2.1), .c (.i .i64 p.2.2)], [])) := by kernel_rfl
theorem ok32x0 : FnOk Try.prog 32 sh32x0 (A32x0 N) :=
  (h32x0s2 N).fn progOk (T68x0_ok N) fun L x hx => ((raw32x0 N L).trans ((bind32x0 N ..).trans (alt1 x hx)))
noncomputable def T32x0 : Oracle := ext 32 (spSh sh32x0 (A32x0 N)) (T68x0 N)
theorem T32x0_ok : OracleOk Try.prog (T32x0 N) := FnOk.to (ok32x0 N) (T68x0_ok N)
noncomputable def rg33x0 : List (Nat × List Nat) := [(0, [0, 1]), (1, [0, 1]), (2, []), (3, [0, 1]), (4, [25, 24, 23, 0, 1]), (5, [23, 25, 24, 0, 1]), (6, [7, 25, 24, 23, 0, 1]), (7, [31, 30, 29, 25, 24, 23, 0, 1]), (8, [29, 31, 30, 25, 24, 23, 0, 1]), (9, [9, 31, 30, 29, 25, 24, 23, 0, 1]), (10, []), (11, [31, 30, 29, 25, 24, 23, 0, 1]), (12, [25, 24, 23, 0, 1]), (13, [0, 1]), (14, [0, 1, 10]), (15, [44, 43, 0, 1, 10]), (16, [44, 0, 1, 10, 43]), (17, [11, 0, 1, 10, 44, 43]), (18, [11, 0, 12, 1, 10, 44, 43]), (19, [0, 11, 12, 1, 10, 44, 43]), (20, [11, 1, 12, 10, 44, 43, 0]), (21, [1, 11, 12, 10, 44, 43, 0]), (22, [12, 10, 44, 43, 0, 1]), (23, [10, 12, 44, 43, 0, 1]), (24, [44, 43, 0, 1, 10]), (25, [10])]
noncomputable def hd33x0 : Hints := [(12, [25, 24, 23, 0, 1], [23], []), (21, [31, 30, 29, 25, 24, 23, 0, 1], [23], []), (45, [44, 43, 0, 1, 10], [10], [10]), (59, [0, 11, 12, 1, 10, 44, 43, 52], [12, 10], []), (65, [1, 11, 12, 10, 44, 43, 0, 61], [12, 10], []), (71, [10, 12, 44, 43, 0, 1, 71], [12, 10], [])]
noncomputable def h33x0s0 (N : Nat) : Sg Try.prog 0 33 := .start hd33x0 rg33x0
noncomputable def S33x0x21 (N : Nat) (w7 : LD) (w8 : Int) (w9 : Int) (kr : Int → Option R) (k0 : Unit → Option R) (k1 : Unit → Option R) : Option R :=
  bif (decide (w9 < w8)) then
    bif (inB w9 w7.length) then
      bif (decide ((w7.getD w9.toNat (.i 0)).toI < (-1))) then
        k0 ()
      else
        kr (IntKind.wrap .i64 (w9 + 1))
    else
      none
  else
    k1 ()
noncomputable def L33x0x21 (N : Nat) {R : Type} (w7 : LD) (w8 : Int) : Nat → Int → (Unit → Option R) → (Unit → Option R) → Option R
  | 0, _, _, _ => none
  | m + 1, w9, k0, k1 => S33x0x21 N w7 w8 w9 (fun w9 => L33x0x21 N w7 w8 m w9 k0 k1) k0 k1
noncomputable def G33x0x21 (w7 : LD) (w8 : Int) (w9 : Int) : Option (Sum (Unit) (Unit)) := L33x0x21 N (R := (Sum (Unit) (Unit))) w7 w8 N w9 (fun p => some (.inl p)) (fun p => some (.inr p))
noncomputable def J33x0x21 (L x : List Lf) (kr : List Lf → Option R) (k0 : Unit → Option R) (k1 : Unit → Option R) : Option R := S33x0x21 N (ll L 7) (li L 8) (li x 0) (fun w9 => kr [.i w9]) k0 k1
theorem sb33x0x21 (L x : List Lf) (kr : List Lf → Option R) (k0 : Unit → Option R) (k1 : Unit → Option R) : J33x0x21 N L x kr k0 k1 = (J33x0x21 N L x (fun y => some (.inl y)) (fun p => some (.inr (.inl p))) (fun p => some (.inr (.inr p)))).bind (sumE kr (sumE k0 k1)) := by
  unfold J33x0x21 S33x0x21
  repeat' (first | rfl | apply cond_b | (apply bnd_b; intro _))
noncomputable def Q33x0x21 (L : List Lf) (m : Nat) (x : List Lf) : Option (Sum (Unit) (Unit)) := L33x0x21 N (R := (Sum (Unit) (Unit))) (ll L 7) (li L 8) m (li x 0) (fun p => some (.inl p)) (fun p => some (.inr p))
noncomputable def sh33x0x21 : Sh := { tmps := [(0, .c (.sl 3)), (1, .c (.sl 3)), (23, .c (.o 23)), (24, .c (.i .i64)), (25, .c (.i .i64)), (29, .c (.sl 3)), (30, .c (.i .i64)), (31, .c (.i .i64))], mem := [(23, .row 26 true)] }
noncomputable def K33x0x21w0 (L : List Lf) (_ : Unit) : Ex × St := (.ret, mg (ofSh sh33x0x21 L) [4, 5] [(4, .c (.sl 50 true [])), (5, .c (.i .i64 9))] [23] [])
noncomputable def K33x0x21w1 (L : List Lf) (_ : Unit) : Ex × St := ((.exit 2), mg (ofSh sh33x0x21 L) [0, 1, 23, 24, 25] [] [23] [])
noncomputable def A33x0x21 (L : List Lf) : List (Bool × (Ex × St)) := bnd (Q33x0x21 N L N (pk sh33x0x21 [9] L)) fun q => [((inlB q), K33x0x21w0 L ()), ((inrQ q).isSome, K33x0x21w1 L ())]
theorem step33x0x21 (m : Nat) (kn : St → Option (Ex × St)) (L x : List Lf) : lpB Try.prog (T32x0 N) (h33x0s0 N).h 0 33 21 sh33x0x21 [9] [4, 5, 25, 24, 23, 0, 1] [23] (m + 100) kn L x = J33x0x21 N L x (fun y => kn (ofSh sh33x0x21 (mx sh33x0x21 [9] L y))) (fun _ => some (K33x0x21w0 L ())) (fun _ => some (K33x0x21w1 L ())) := by kernel_rfl
noncomputable def h33x0s1 : Sg Try.prog 0 33 :=
  (h33x0s0 N).lp (A33x0x21 N) N progOk (T32x0_ok N) (fun m kn L x => (step33x0x21 N m kn L x).trans (sb33x0x21 N L x _ _ _)) (fun L m x => sb33x0x21 N L x (Q33x0x21 N L m) (fun p => some (.inl p)) (fun p => some (.inr p))) fun L x hx => (altS alt1) x hx
noncomputable def S33x0x12 (w4 : Int) (w7 : LD) (w5 : Int) (kr : Int → Option R) (k0 : Unit → Option R) (k1 : Unit → Option R) : Option R :=
  bif (decide (w5 < w4)) then
    bif (inB w5 w7.length) then
      bif (decide (w5.toNat < w7.length)) then
        bnd (G33x0x21 N (w7.getD w5.toNat (.i 0)).items ((w7.getD w5.toNat (.i 0)).items.length : Int) 0) fun y0 =>
        bif (inlB y0) then
          k0 ()
        else
          bif (inrQ y0).isSome then
            kr (IntKind.wrap .i64 (w5 + 1))
          else
            none
      else
        none
    else
      none
  else
    k1 ()
noncomputable def L33x0x12 (N : Nat) {R : Type} (w4 : Int) (w7 : LD) : Nat → Int → (Unit → Option R) → (Unit → Option R) → Option R
  | 0, _, _, _ => none
  | m + 1, w5, k0, k1 => S33x0x12 N w4 w7 w5 (fun w5 => L33x0x12 N w4 w7 m w5 k0 k1) k0 k1
noncomputable def G33x0x12 (w4 : Int) (w7 : LD) (w5 : Int) : Option (Sum (Unit) (Unit)) := L33x0x12 N (R := (Sum (Unit) (Unit))) w4 w7 N w5 (fun p => some (.inl p)) (fun p => some (.inr p))
noncomputable def J33x0x12 (L x : List Lf) (kr : List Lf → Option R) (k0 : Unit → Option R) (k1 : Unit → Option R) : Option R := S33x0x12 N (li L 4) (ll L 7) (li x 0) (fun w5 => kr [.i w5]) k0 k1
theorem sb33x0x12 (L x : List Lf) (kr : List Lf → Option R) (k0 : Unit → Option R) (k1 : Unit → Option R) : J33x0x12 N L x kr k0 k1 = (J33x0x12 N L x (fun y => some (.inl y)) (fun p => some (.inr (.inl p))) (fun p => some (.inr (.inr p)))).bind (sumE kr (sumE k0 k1)) := by
  unfold J33x0x12 S33x0x12
  repeat' (first | rfl | apply cond_b | (apply bnd_b; intro _))
noncomputable def Q33x0x12 (L : List Lf) (m : Nat) (x : List Lf) : Option (Sum (Unit) (Unit)) := L33x0x12 N (R := (Sum (Unit) (Unit))) (li L 4) (ll L 7) m (li x 0) (fun p => some (.inl p)) (fun p => some (.inr p))
noncomputable def sh33x0x12 : Sh := { tmps := [(0, .c (.sl 3)), (1, .c (.sl 3)), (23, .c (.o 23)), (24, .c (.i .i64)), (25, .c (.i .i64))], mem := [(23, .row 26 true)] }
noncomputable def K33x0x12w0 (L : List Lf) (_ : Unit) : Ex × St := (.ret, ⟨[(4, .c (.sl 50 true [])), (5, .c (.i .i64 9))], []⟩)
noncomputable def A33x0x12 (L : List Lf) : List (Bool × (Ex × St)) := bnd (Q33x0x12 N L N (pk sh33x0x12 [5] L)) fun q => [((inlB q), K33x0x12w0 L ()), ((inrQ q).isSome, ((.exit 0), mg (ofSh sh33x0x12 L) [0, 1] [] [] []))]
theorem step33x0x12 (m : Nat) (kn : St → Option (Ex × St)) (L x : List Lf) : lpB Try.prog (T32x0 N) (h33x0s1 N).h 0 33 12 sh33x0x12 [5] [4, 5, 0, 1] [] (m + 100) kn L x = J33x0x12 N L x (fun y => kn (ofSh sh33x0x12 (mx sh33x0x12 [5] L y))) (fun _ => some (K33x0x12w0 L ())) (fun _ => some ((.exit 0), mg (ofSh sh33x0x12 L) [0, 1] [] [] [])) := by kernel_rfl
noncomputable def h33x0s2 : Sg Try.prog 0 33 :=
  (h33x0s1 N).lp (A33x0x12 N) N progOk (T32x0_ok N) (fun m kn L x => (step33x0x12 N m kn L x).trans (sb33x0x12 N L x _ _ _)) (fun L m x => sb33x0x12 N L x (Q33x0x12 N L m) (fun p => some (.inl p)) (fun p => some (.inr p))) fun L x hx => (altS alt1) x hx
noncomputable def F33x0x59 (N : Nat) (w1 : LD) (w4 : Int) (w7 : Bool) (w11 : Int) (k0 : Int → Option R) : Option R :=
  bif w7 then
    bif (inB w4 w1.length) then
      k0 (w1.getD w4.toNat (.i 0)).toI
    else
      none
  else
    k0 w11
noncomputable def G33x0x59 (w1 : LD) (w4 : Int) (w7 : Bool) (w11 : Int) : Option (Int) := F33x0x59 N w1 w4 w7 w11 (fun p => some p)
theorem bind33x0x59 (w1 : LD) (w4 : Int) (w7 : Bool) (w11 : Int) (k0 : Int → Option R) : F33x0x59 N w1 w4 w7 w11 k0 = (G33x0x59 N w1 w4 w7 w11).bind k0 := by
  unfold G33x0x59 F33x0x59
  repeat' (first | rfl | apply cond_b | (apply bnd_b; intro _))
noncomputable def J33x0x59 (L : List Lf) (k0 : Int → Option R) : Option R := F33x0x59 N (ll L 1) (li L 4) (lb L 7) (li L 11) k0
noncomputable def sh33x0x59 : Sh := { tmps := [(0, .c (.sl 3)), (1, .c (.sl 3)), (10, .c (.o 10)), (11, .c (.i .i64)), (12, .c (.p 12 0)), (43, .c (.i .i64)), (44, .c (.i .i64)), (52, .c (.b))], mem := [(10, .row 50 true), (12, .box ([.i .i64, .i .i64, .i .i64]))] }
noncomputable def K33x0x59w0 (L : List Lf) (p : Int) : Ex × St := (.normal, mg (ofSh sh33x0x59 L) [0, 1, 10, 11, 12, 43, 44] [] [10, 12] [(12, .box [.i .i64 (li L 10), .i .i64 p, .i .i64 (li L 12)])])
noncomputable def A33x0x59 (L : List Lf) : List (Bool × (Ex × St)) := bnd (J33x0x59 N L (fun p => some p)) fun q => [(q.isSome, K33x0x59w0 L (q.getD default))]
theorem raw33x0x59 (L : List Lf) : pc Try.prog (T32x0 N) (h33x0s2 N).h 0 100 33 59 sh33x0x59 L [11, 1, 12, 10, 44, 43, 0] [12, 10] = J33x0x59 N L (fun p => some (K33x0x59w0 L p)) := by kernel_rfl
noncomputable def h33x0s3 : Sg Try.prog 0 33 :=
  (h33x0s2 N).cut (A33x0x59 N) progOk (T32x0_ok N) fun L x hx => (raw33x0x59 N L).trans ((bind33x0x59 N ..).trans (alt1 x hx))
noncomputable def F33x0x65 (N : Nat) (w3 : LD) (w4 : Int) (w7 : Bool) (w12 : Int) (k0 : Int → Option R) : Option R :=
  bif w7 then
    bif (inB w4 w3.length) then
      k0 (w3.getD w4.toNat (.i 0)).toI
    else
      none
  else
    k0 w12
noncomputable def G33x0x65 (w3 : LD) (w4 : Int) (w7 : Bool) (w12 : Int) : Option (Int) := F33x0x65 N w3 w4 w7 w12 (fun p => some p)
theorem bind33x0x65 (w3 : LD) (w4 : Int) (w7 : Bool) (w12 : Int) (k0 : Int → Option R) : F33x0x65 N w3 w4 w7 w12 k0 = (G33x0x65 N w3 w4 w7 w12).bind k0 := by
  unfold G33x0x65 F33x0x65
  repeat' (first | rfl | apply cond_b | (apply bnd_b; intro _))
noncomputable def J33x0x65 (L : List Lf) (k0 : Int → Option R) : Option R := F33x0x65 N (ll L 3) (li L 4) (lb L 7) (li L 12) k0
noncomputable def sh33x0x65 : Sh := { tmps := [(0, .c (.sl 3)), (1, .c (.sl 3)), (10, .c (.o 10)), (11, .c (.i .i64)), (12, .c (.p 12 0)), (43, .c (.i .i64)), (44, .c (.i .i64)), (61, .c (.b))], mem := [(10, .row 50 true), (12, .box ([.i .i64, .i .i64, .i .i64]))] }
noncomputable def K33x0x65w0 (L : List Lf) (p : Int) : Ex × St := (.normal, mg (ofSh sh33x0x65 L) [0, 1, 10, 12, 43, 44] [] [10, 12] [(12, .box [.i .i64 (li L 10), .i .i64 (li L 11), .i .i64 p])])
noncomputable def A33x0x65 (L : List Lf) : List (Bool × (Ex × St)) := bnd (J33x0x65 N L (fun p => some p)) fun q => [(q.isSome, K33x0x65w0 L (q.getD default))]
theorem raw33x0x65 (L : List Lf) : pc Try.prog (T32x0 N) (h33x0s3 N).h 0 100 33 65 sh33x0x65 L [12, 10, 44, 43, 0, 1] [12, 10] = J33x0x65 N L (fun p => some (K33x0x65w0 L p)) := by kernel_rfl
noncomputable def h33x0s4 : Sg Try.prog 0 33 :=
  (h33x0s3 N).cut (A33x0x65 N) progOk (T32x0_ok N) fun L x hx => (raw33x0x65 N L).trans ((bind33x0x65 N ..).trans (alt1 x hx))
noncomputable def F33x0x71 (N : Nat) (w6 : Bool) (w8 : LD) (w9 w10 w11 : Int) (k0 : LD → Option R) (k1 : Unit → Option R) : Option R :=
  bif w6 then
    bif (decide ((w8.length + 1) * 24 ≤ room) && decide ((w8.length + 1) ≤ strMax)) then
      k0 (w8 ++ [(.a [(.i w9), (.i w10), (.i w11)])])
    else
      none
  else
    k1 ()
noncomputable def G33x0x71 (w6 : Bool) (w8 : LD) (w9 w10 w11 : Int) : Option (Sum (LD) (Unit)) := F33x0x71 N w6 w8 w9 w10 w11 (fun p => some (.inl p)) (fun p => some (.inr p))
theorem bind33x0x71 (w6 : Bool) (w8 : LD) (w9 w10 w11 : Int) (k0 : LD → Option R) (k1 : Unit → Option R) : F33x0x71 N w6 w8 w9 w10 w11 k0 k1 = (G33x0x71 N w6 w8 w9 w10 w11).bind (sumE k0 k1) := by
  unfold G33x0x71 F33x0x71
  repeat' (first | rfl | apply cond_b | (apply bnd_b; intro _))
noncomputable def J33x0x71 (L : List Lf) (k0 : LD → Option R) (k1 : Unit → Option R) : Option R := F33x0x71 N (lb L 6) (ll L 8) (li L 9) (li L 10) (li L 11) k0 k1
noncomputable def sh33x0x71 : Sh := { tmps := [(0, .c (.sl 3)), (1, .c (.sl 3)), (10, .c (.o 10)), (12, .c (.p 12 0)), (43, .c (.i .i64)), (44, .c (.i .i64)), (71, .c (.b))], mem := [(10, .row 50 true), (12, .box ([.i .i64, .i .i64, .i .i64]))] }
noncomputable def K33x0x71w0 (L : List Lf) (p : LD) : Ex × St := (.normal, mg (ofSh sh33x0x71 L) [0, 1, 10, 43, 44] [(10, .c (.o 75))] [75] [(75, .row 50 true false p)])
noncomputable def K33x0x71w1 (L : List Lf) (_ : Unit) : Ex × St := (.normal, mg (ofSh sh33x0x71 L) [0, 1, 10, 43, 44] [] [10] [])
noncomputable def A33x0x71 (L : List Lf) : List (Bool × (Ex × St)) := bnd (J33x0x71 N L (fun p => some (.inl p)) (fun p => some (.inr p))) fun q => [((inlB q), K33x0x71w0 L (inlV q)), ((inrQ q).isSome, K33x0x71w1 L ())]
theorem raw33x0x71 (L : List Lf) : pc Try.prog (T32x0 N) (h33x0s4 N).h 0 100 33 71 sh33x0x71 L [44, 43, 0, 1, 10] [75, 10] = J33x0x71 N L (fun p => some (K33x0x71w0 L p)) (fun _ => some (K33x0x71w1 L ())) := by kernel_rfl
noncomputable def h33x0s5 : Sg Try.prog 0 33 :=
  (h33x0s4 N).cut (A33x0x71 N) progOk (T32x0_ok N) fun L x hx => (raw33x0x71 N L).trans ((bind33x0x71 N ..).trans ((altS alt1) x hx))
noncomputable def S33x0x45 (w1 w3 : LD) (w4 : Int) (w5 : Int) (w6 : Bool) (w7 : LD) (kr : Int → Bool → LD → Option R) (k0 : Bool × LD → Option R) : Option R :=
  bif (decide (w5 < w4)) then
    bnd (G33x0x59 N w1 w5 (decide (w5 < (w1.length : Int))) (-1)) fun y0 =>
    bif y0.isSome then
      bnd (G33x0x65 N w3 w5 (decide (w5 < (w3.length : Int))) (-1)) fun y1 =>
      bif y1.isSome then
        bnd (G33x0x71 N ((y0.getD default) != (y1.getD default)) w7 w5 (y0.getD default) (y1.getD default)) fun y2 =>
        bif (inlB y2) then
          kr (IntKind.wrap .i64 (w5 + 1)) false (inlV y2)
        else
          bif (inrQ y2).isSome then
            kr (IntKind.wrap .i64 (w5 + 1)) w6 w7
          else
            none
      else
        none
    else
      none
  else
    k0 (w6, w7)
noncomputable def L33x0x45 (N : Nat) {R : Type} (w1 w3 : LD) (w4 : Int) : Nat → Int → Bool → LD → (Bool × LD → Option R) → Option R
  | 0, _, _, _, _ => none
  | m + 1, w5, w6, w7, k0 => S33x0x45 N w1 w3 w4 w5 w6 w7 (fun w5 w6 w7 => L33x0x45 N w1 w3 w4 m w5 w6 w7 k0) k0
noncomputable def G33x0x45 (w1 w3 : LD) (w4 : Int) (w5 : Int) (w6 : Bool) (w7 : LD) : Option (Bool × LD) := L33x0x45 N (R := (Bool × LD)) w1 w3 w4 N w5 w6 w7 (fun p => some p)
noncomputable def J33x0x45 (L x : List Lf) (kr : List Lf → Option R) (k0 : Bool × LD → Option R) : Option R := S33x0x45 N (ll L 1) (ll L 3) (li L 4) (li x 0) (lb x 1) (ll x 2) (fun w5 w6 w7 => kr [.i w5, .b w6, .l w7]) k0
theorem sb33x0x45 (L x : List Lf) (kr : List Lf → Option R) (k0 : Bool × LD → Option R) : J33x0x45 N L x kr k0 = (J33x0x45 N L x (fun y => some (.inl y)) (fun p => some (.inr p))).bind (sumE kr k0) := by
  unfold J33x0x45 S33x0x45
  repeat' (first | rfl | apply cond_b | (apply bnd_b; intro _))
noncomputable def Q33x0x45 (L : List Lf) (m : Nat) (x : List Lf) : Option (Bool × LD) := L33x0x45 N (R := (Bool × LD)) (ll L 1) (ll L 3) (li L 4) m (li x 0) (lb x 1) (ll x 2) (fun p => some p)
noncomputable def sh33x0x45 : Sh := { tmps := [(0, .c (.sl 3)), (1, .c (.sl 3)), (10, .c (.o 10)), (43, .c (.i .i64)), (44, .c (.i .i64))], mem := [(10, .row 50 true)] }
noncomputable def K33x0x45w0 (L : List Lf) (p : Bool × LD) : Ex × St := ((.exit 4), ⟨[(10, .c (.o 10))], [(10, .row 50 true p.1 p.2)]⟩)
noncomputable def A33x0x45 (L : List Lf) : List (Bool × (Ex × St)) := bnd (Q33x0x45 N L N (pk sh33x0x45 [5, 6, 7] L)) fun q => [(q.isSome, K33x0x45w0 L (q.getD default))]
theorem step33x0x45 (m : Nat) (kn : St → Option (Ex × St)) (L x : List Lf) : lpB Try.prog (T32x0 N) (h33x0s5 N).h 0 33 45 sh33x0x45 [5, 6, 7] [4, 5, 10] [10] (m + 100) kn L x = J33x0x45 N L x (fun y => kn (ofSh sh33x0x45 (mx sh33x0x45 [5, 6, 7] L y))) (fun p => some (K33x0x45w0 L p)) := by kernel_rfl
noncomputable def h33x0s6 : Sg Try.prog 0 33 :=
  (h33x0s5 N).lp (A33x0x45 N) N progOk (T32x0_ok N) (fun m kn L x => (step33x0x45 N m kn L x).trans (sb33x0x45 N L x _ _)) (fun L m x => sb33x0x45 N L x (Q33x0x45 N L m) some) fun L x hx => alt1 x hx
noncomputable def F33x0 (v0 : Bool) (v1 : LD) (v2 : Bool) (v3 : LD) (k0 : Bool × LD × Int → Option R) : Option R :=
  bnd (bif (decide ((v1.length : Int) > 1000)) then true else (decide ((v3.length : Int) > 1000))) fun y0 =>
  bif y0 then
    k0 (true, [], 3)
  else
    bnd (G33x0x12 N 2 [(.l v0 v1), (.l v2 v3)] 0) fun y1 =>
    bif (inlB y1) then
      k0 (true, [], 9)
    else
      bif (inrQ y1).isSome then
        bnd (G33x0x45 N v1 v3 (max2 (v1.length : Int) (v3.length : Int)) 0 true []) fun y2 =>
        bif y2.isSome then
          k0 ((y2.getD default).1, (y2.getD default).2, 0)
        else
          none
      else
        none
noncomputable def G33x0 (v0 : Bool) (v1 : LD) (v2 : Bool) (v3 : LD) : Option (Bool × LD × Int) := F33x0 N v0 v1 v2 v3 (fun p => some p)
theorem bind33x0 (v0 : Bool) (v1 : LD) (v2 : Bool) (v3 : LD) (k0 : Bool × LD × Int → Option R) : F33x0 N v0 v1 v2 v3 k0 = (G33x0 N v0 v1 v2 v3).bind k0 := by
  unfold G33x0 F33x0
  repeat' (first | rfl | apply cond_b | (apply bnd_b; intro _))
noncomputable def J33x0 (L : List Lf) (k0 : Bool × LD × Int → Option R) : Option R := F33x0 N (lb L 0) (ll L 1) (lb L 2) (ll L 3) k0
noncomputable def sh33x0 : Sh := { tmps := [(0, .c (.sl 3)), (1, .c (.sl 3))], mem := [] }
noncomputable def A33x0 (L : List Lf) : List (Bool × Res) := bnd (J33x0 N L (fun p => some p)) fun q => [(q.isSome, ([.c (.sl 50 (q.getD default).1 (q.getD default).2.1), .c (.i .i64 (q.getD default).2.2)], []))]
theorem raw33x0 (L : List Lf) : bd Try.prog (T32x0 N) (h33x0s6 N).h 33 sh33x0 L = J33x0 N L (fun p => some ([.c (.sl 50 p.1 p.2.1), .c (.i .i64 p.2.2)], [])) := by kernel_rfl
theorem ok33x0 : FnOk Try.prog 33 sh33x0 (A33x0 N) :=
  (h33x0s6 N).fn progOk (T32x0_ok N) fun L x hx => ((raw33x0 N L).trans ((bind33x0 N ..).trans (alt1 x hx)))
noncomputable def T33x0 : Oracle := ext 33 (spSh sh33x0 (A33x0 N)) (T32x0 N)
theorem T33x0_ok : OracleOk Try.prog (T33x0 N) := FnOk.to (ok33x0 N) (T32x0_ok N)
noncomputable def rg34x0 : List (Nat × List Nat) := [(0, [0, 1]), (1, [0, 1]), (2, []), (3, [0, 1]), (4, [13, 12, 0, 1]), (5, [13, 0, 1, 12]), (6, [0, 5, 1, 13, 12]), (7, []), (8, [13, 12, 0, 1]), (9, [])]
noncomputable def hd34x0 : Hints := [(12, [13, 12, 0, 1], [], [])]
noncomputable def h34x0s0 (N : Nat) : Sg Try.prog 0 34 := .start hd34x0 rg34x0
noncomputable def S34x0x12 (N : Nat) (w1 w3 : LD) (w4 : Int) (w5 : Int) (kr : Int → Option R) (k0 : Unit → Option R) (k1 : Unit → Option R) : Option R :=
  bif (decide (w5 < w4)) then
    bif (inB w5 w1.length) then
      bif (inB w5 w3.length) then
        bnd (!((((w1.getD w5.toNat (.i 0)).cell 0).toI == ((w3.getD w5.toNat (.i 0)).cell 0).toI) && ((((w1.getD w5.toNat (.i 0)).cell 1).toI == ((w3.getD w5.toNat (.i 0)).cell 1).toI) && ((((w1.getD w5.toNat (.i 0)).cell 2).toI == ((w3.getD w5.toNat (.i 0)).cell 2).toI) && true)))) fun y0 =>
        bif y0 then
          k0 ()
        else
          kr (IntKind.wrap .i64 (w5 + 1))
      else
        none
    else
      none
  else
    k1 ()
noncomputable def L34x0x12 (N : Nat) {R : Type} (w1 w3 : LD) (w4 : Int) : Nat → Int → (Unit → Option R) → (Unit → Option R) → Option R
  | 0, _, _, _ => none
  | m + 1, w5, k0, k1 => S34x0x12 N w1 w3 w4 w5 (fun w5 => L34x0x12 N w1 w3 w4 m w5 k0 k1) k0 k1
noncomputable def G34x0x12 (w1 w3 : LD) (w4 : Int) (w5 : Int) : Option (Sum (Unit) (Unit)) := L34x0x12 N (R := (Sum (Unit) (Unit))) w1 w3 w4 N w5 (fun p => some (.inl p)) (fun p => some (.inr p))
noncomputable def J34x0x12 (L x : List Lf) (kr : List Lf → Option R) (k0 : Unit → Option R) (k1 : Unit → Option R) : Option R := S34x0x12 N (ll L 1) (ll L 3) (li L 4) (li x 0) (fun w5 => kr [.i w5]) k0 k1
theorem sb34x0x12 (L x : List Lf) (kr : List Lf → Option R) (k0 : Unit → Option R) (k1 : Unit → Option R) : J34x0x12 N L x kr k0 k1 = (J34x0x12 N L x (fun y => some (.inl y)) (fun p => some (.inr (.inl p))) (fun p => some (.inr (.inr p)))).bind (sumE kr (sumE k0 k1)) := by
  unfold J34x0x12 S34x0x12
  repeat' (first | rfl | apply cond_b | (apply bnd_b; intro _))
noncomputable def Q34x0x12 (L : List Lf) (m : Nat) (x : List Lf) : Option (Sum (Unit) (Unit)) := L34x0x12 N (R := (Sum (Unit) (Unit))) (ll L 1) (ll L 3) (li L 4) m (li x 0) (fun p => some (.inl p)) (fun p => some (.inr p))
noncomputable def sh34x0x12 : Sh := { tmps := [(0, .c (.sl 50)), (1, .c (.sl 50)), (12, .c (.i .i64)), (13, .c (.i .i64))], mem := [] }
noncomputable def A34x0x12 (L : List Lf) : List (Bool × (Ex × St)) := bnd (Q34x0x12 N L N (pk sh34x0x12 [5] L)) fun q => [((inlB q), (.ret, ⟨[(4, .c (.b false))], []⟩)), ((inrQ q).isSome, ((.exit 0), ⟨[], []⟩))]
theorem step34x0x12 (m : Nat) (kn : St → Option (Ex × St)) (L x : List Lf) : lpB Try.prog (T33x0 N) (h34x0s0 N).h 0 34 12 sh34x0x12 [5] [4] [] (m + 100) kn L x = J34x0x12 N L x (fun y => kn (ofSh sh34x0x12 (mx sh34x0x12 [5] L y))) (fun _ => some (.ret, ⟨[(4, .c (.b false))], []⟩)) (fun _ => some ((.exit 0), ⟨[], []⟩)) := by kernel_rfl
noncomputable def h34x0s1 : Sg Try.prog 0 34 :=
  (h34x0s0 N).lp (A34x0x12 N) N progOk (T33x0_ok N) (fun m kn L x => (step34x0x12 N m kn L x).trans (sb34x0x12 N L x _ _ _)) (fun L m x => sb34x0x12 N L x (Q34x0x12 N L m) (fun p => some (.inl p)) (fun p => some (.inr p))) fun L x hx => (altS alt1) x hx
noncomputable def F34x0 (v1 v3 : LD) (k0 : Bool → Option R) : Option R :=
  bif ((v1.length : Int) != (v3.length : Int)) then
    k0 false
  else
    bnd (G34x0x12 N v1 v3 (v1.length : Int) 0) fun y0 =>
    bif (inlB y0) then
      k0 false
    else
      bif (inrQ y0).isSome then
        k0 true
      else
        none
noncomputable def G34x0 (v1 v3 : LD) : Option (Bool) := F34x0 N v1 v3 (fun p => some p)
theorem bind34x0 (v1 v3 : LD) (k0 : Bool → Option R) : F34x0 N v1 v3 k0 = (G34x0 N v1 v3).bind k0 := by
  unfold G34x0 F34x0
  repeat' (first | rfl | apply cond_b | (apply bnd_b; intro _))
noncomputable def sh34x0 : Sh := { tmps := [(0, .c (.sl 50)), (1, .c (.sl 50))], mem := [] }
noncomputable def A34x0 (L : List Lf) : List (Bool × Res) := bnd (F34x0 N (ll L 1) (ll L 3) (fun p => some p)) fun q => [(q.isSome, ([.c (.b (q.getD default))], []))]
theorem raw34x0 (L : List Lf) : bd Try.prog (T33x0 N) (h34x0s1 N).h 34 sh34x0 L = F34x0 N (ll L 1) (ll L 3) (fun p => some ([.c (.b p)], [])) := by kernel_rfl
theorem ok34x0 : FnOk Try.prog 34 sh34x0 (A34x0 N) :=
  (h34x0s1 N).fn progOk (T33x0_ok N) fun L x hx => ((raw34x0 N L).trans ((bind34x0 N ..).trans (alt1 x hx)))
noncomputable def T34x0 : Oracle := ext 34 (spSh sh34x0 (A34x0 N)) (T33x0 N)
theorem T34x0_ok : OracleOk Try.prog (T34x0 N) := FnOk.to (ok34x0 N) (T33x0_ok N)
noncomputable def rg48x0 : List (Nat × List Nat) := [(0, [0, 1, 2]), (1, [0, 1, 2])]
noncomputable def hd48x0 : Hints := []
noncomputable def h48x0s0 (N : Nat) : Sg Try.prog 0 48 := .start hd48x0 rg48x0
noncomputable def F48x0 (N : Nat) (v0 v1 v2 : Int) (k0 : Bool → R) : R :=
  k0 (bif (decide (v0 ≥ v1)) then (decide (v0 ≤ v2)) else false)
noncomputable def V48x0 (v0 v1 v2 : Int) : Bool := F48x0 N v0 v1 v2 (fun p => p)
theorem tot48x0 (v0 v1 v2 : Int) (k0 : Bool → R) : F48x0 N v0 v1 v2 k0 = k0 (V48x0 N v0 v1 v2) := by
  unfold V48x0 F48x0
  repeat' (first | rfl | apply cond_k | (apply bnd_k; intro _))
noncomputable def sh48x0 : Sh := { tmps := [(0, .c (.i .i64)), (1, .c (.i .i64)), (2, .c (.i .i64))], mem := [] }
noncomputable def A48x0 (L : List Lf) : List (Bool × Res) := bnd (F48x0 N (li L 0) (li L 1) (li L 2) (fun p => p)) fun q => [(true, ([.c (.b q)], []))]
theorem raw48x0 (L : List Lf) : bd Try.prog (T34x0 N) (h48x0s0 N).h 48 sh48x0 L = F48x0 N (li L 0) (li L 1) (li L 2) (fun p => some ([.c (.b p)], [])) := by kernel_rfl
theorem ok48x0 : FnOk Try.prog 48 sh48x0 (A48x0 N) :=
  (h48x0s0 N).fn progOk (T34x0_ok N) fun L x hx => ((raw48x0 N L).trans ((tot48x0 N ..).trans (alt0 _ _ hx)))
noncomputable def T48x0 : Oracle := ext 48 (spSh sh48x0 (A48x0 N)) (T34x0 N)
theorem T48x0_ok : OracleOk Try.prog (T48x0 N) := FnOk.to (ok48x0 N) (T34x0_ok N)
noncomputable def rg80x0 : List (Nat × List Nat) := [(0, [0]), (1, [0])]
noncomputable def hd80x0 : Hints := []
noncomputable def h80x0s0 (N : Nat) : Sg Try.prog 0 80 := .start hd80x0 rg80x0
noncomputable def F80x0 (N : Nat) (v0 : Int) (k0 : Bool → R) : R :=
  k0 (bif (decide (v0 ≥ 48)) then (decide (v0 ≤ 57)) else false)
noncomputable def V80x0 (v0 : Int) : Bool := F80x0 N v0 (fun p => p)
theorem tot80x0 (v0 : Int) (k0 : Bool → R) : F80x0 N v0 k0 = k0 (V80x0 N v0) := by
  unfold V80x0 F80x0
  repeat' (first | rfl | apply cond_k | (apply bnd_k; intro _))
noncomputable def sh80x0 : Sh := { tmps := [(0, .c (.i .u8))], mem := [] }
noncomputable def A80x0 (L : List Lf) : List (Bool × Res) := bnd (F80x0 N (li L 0) (fun p => p)) fun q => [(true, ([.c (.b q)], []))]
theorem raw80x0 (L : List Lf) : bd Try.prog (T48x0 N) (h80x0s0 N).h 80 sh80x0 L = F80x0 N (li L 0) (fun p => some ([.c (.b p)], [])) := by kernel_rfl
theorem ok80x0 : FnOk Try.prog 80 sh80x0 (A80x0 N) :=
  (h80x0s0 N).fn progOk (T48x0_ok N) fun L x hx => ((raw80x0 N L).trans ((tot80x0 N ..).trans (alt0 _ _ hx)))
noncomputable def T80x0 : Oracle := ext 80 (spSh sh80x0 (A80x0 N)) (T48x0 N)
theorem T80x0_ok : OracleOk Try.prog (T80x0 N) := FnOk.to (ok80x0 N) (T48x0_ok N)
noncomputable def rg51x0 : List (Nat × List Nat) := [(0, [0]), (1, [0]), (2, [8, 7, 0]), (3, [8, 0, 7]), (4, [0, 3, 8, 7]), (5, [4, 8, 7, 0]), (6, [5, 4, 8, 7, 0]), (7, []), (8, [8, 7, 0]), (9, [0])]
noncomputable def hd51x0 : Hints := [(6, [8, 7, 0], [], []), (19, [5, 4, 8, 7, 0], [], [])]
noncomputable def h51x0s0 (N : Nat) : Sg Try.prog 0 51 := .start hd51x0 rg51x0
noncomputable def F51x0x19 (w1 : Int) (w2 : Bool) (k0 : Bool → R) : R :=
  bif (!w2) then
    bnd (V80x0 N w1) fun y0 =>
    bnd (bif (bif (!y0) then (w1 != 45) else false) then (w1 != 95) else false) fun y1 =>
    k0 (bif y1 then (w1 != 46) else false)
  else
    k0 false
noncomputable def V51x0x19 (w1 : Int) (w2 : Bool) : Bool := F51x0x19 N w1 w2 (fun p => p)
theorem tot51x0x19 (w1 : Int) (w2 : Bool) (k0 : Bool → R) : F51x0x19 N w1 w2 k0 = k0 (V51x0x19 N w1 w2) := by
  unfold V51x0x19 F51x0x19
  repeat' (first | rfl | apply cond_k | (apply bnd_k; intro _))
noncomputable def sh51x0x19 : Sh := { tmps := [(0, .c (.s)), (4, .c (.i .u8)), (5, .c (.b)), (7, .c (.i .i64)), (8, .c (.i .i64))], mem := [] }
noncomputable def K51x0x19w0 (L : List Lf) (p : Bool) : Ex × St := (.normal, mg (ofSh sh51x0x19 L) [0, 7, 8, 46] [(46, .c (.b p))] [] [])
noncomputable def A51x0x19 (L : List Lf) : List (Bool × (Ex × St)) := bnd (F51x0x19 N (li L 1) (lb L 2) (fun p => p)) fun q => [(true, K51x0x19w0 L q)]
theorem raw51x0x19 (L : List Lf) : pc Try.prog (T80x0 N) (h51x0s0 N).h 0 100 51 19 sh51x0x19 L [8, 7, 0, 46] [] = F51x0x19 N (li L 1) (lb L 2) (fun p => some (K51x0x19w0 L p)) := by kernel_rfl
noncomputable def h51x0s1 : Sg Try.prog 0 51 :=
  (h51x0s0 N).cut (A51x0x19 N) progOk (T80x0_ok N) fun L x hx => (raw51x0x19 N L).trans ((tot51x0x19 N ..).trans (alt0 _ _ hx))
noncomputable def S51x0x6 (w0 : LB) (w1 : Int) (w2 : Int) (kr : Int → Option R) (k0 : Unit → Option R) (k1 : Unit → Option R) : Option R :=
  bif (decide (w2 < w1)) then
    bif (inB w2 w0.length) then
      bnd (bif (decide (((w0.getD w2.toNat 0).toNat : Int) ≥ 97)) then (decide (((w0.getD w2.toNat 0).toNat : Int) ≤ 122)) else false) fun y0 =>
      bnd (bif y0 then true else (bif (decide (((w0.getD w2.toNat 0).toNat : Int) ≥ 65)) then (decide (((w0.getD w2.toNat 0).toNat : Int) ≤ 90)) else false)) fun y1 =>
      bnd (V51x0x19 N ((w0.getD w2.toNat 0).toNat : Int) y1) fun y2 =>
      bif y2 then
        k0 ()
      else
        kr (IntKind.wrap .i64 (w2 + 1))
    else
      none
  else
    k1 ()
noncomputable def L51x0x6 (N : Nat) {R : Type} (w0 : LB) (w1 : Int) : Nat → Int → (Unit → Option R) → (Unit → Option R) → Option R
  | 0, _, _, _ => none
  | m + 1, w2, k0, k1 => S51x0x6 N w0 w1 w2 (fun w2 => L51x0x6 N w0 w1 m w2 k0 k1) k0 k1
noncomputable def G51x0x6 (w0 : LB) (w1 : Int) (w2 : Int) : Option (Sum (Unit) (Unit)) := L51x0x6 N (R := (Sum (Unit) (Unit))) w0 w1 N w2 (fun p => some (.inl p)) (fun p => some (.inr p))
noncomputable def J51x0x6 (L x : List Lf) (kr : List Lf → Option R) (k0 : Unit → Option R) (k1 : Unit → Option R) : Option R := S51x0x6 N (ls L 0) (li L 1) (li x 0) (fun w2 => kr [.i w2]) k0 k1
theorem sb51x0x6 (L x : List Lf) (kr : List Lf → Option R) (k0 : Unit → Option R) (k1 : Unit → Option R) : J51x0x6 N L x kr k0 k1 = (J51x0x6 N L x (fun y => some (.inl y)) (fun p => some (.inr (.inl p))) (fun p => some (.inr (.inr p)))).bind (sumE kr (sumE k0 k1)) := by
  unfold J51x0x6 S51x0x6
  repeat' (first | rfl | apply cond_b | (apply bnd_b; intro _))
noncomputable def Q51x0x6 (L : List Lf) (m : Nat) (x : List Lf) : Option (Sum (Unit) (Unit)) := L51x0x6 N (R := (Sum (Unit) (Unit))) (ls L 0) (li L 1) m (li x 0) (fun p => some (.inl p)) (fun p => some (.inr p))
noncomputable def sh51x0x6 : Sh := { tmps := [(0, .c (.s)), (7, .c (.i .i64)), (8, .c (.i .i64))], mem := [] }
noncomputable def A51x0x6 (L : List Lf) : List (Bool × (Ex × St)) := bnd (Q51x0x6 N L N (pk sh51x0x6 [2] L)) fun q => [((inlB q), (.ret, ⟨[(2, .c (.b false))], []⟩)), ((inrQ q).isSome, ((.exit 0), ⟨[(0, .c (.s (ls L 0)))], []⟩))]
theorem step51x0x6 (m : Nat) (kn : St → Option (Ex × St)) (L x : List Lf) : lpB Try.prog (T80x0 N) (h51x0s1 N).h 0 51 6 sh51x0x6 [2] [2, 0] [] (m + 100) kn L x = J51x0x6 N L x (fun y => kn (ofSh sh51x0x6 (mx sh51x0x6 [2] L y))) (fun _ => some (.ret, ⟨[(2, .c (.b false))], []⟩)) (fun _ => some ((.exit 0), ⟨[(0, .c (.s (ls L 0)))], []⟩)) := by kernel_rfl
noncomputable def h51x0s2 : Sg Try.prog 0 51 :=
  (h51x0s1 N).lp (A51x0x6 N) N progOk (T80x0_ok N) (fun m kn L x => (step51x0x6 N m kn L x).trans (sb51x0x6 N L x _ _ _)) (fun L m x => sb51x0x6 N L x (Q51x0x6 N L m) (fun p => some (.inl p)) (fun p => some (.inr p))) fun L x hx => (altS alt1) x hx
noncomputable def F51x0 (v0 : LB) (k0 : Bool → Option R) : Option R :=
  bnd (G51x0x6 N v0 (v0.length : Int) 0) fun y0 =>
  bif (inlB y0) then
    k0 false
  else
    bif (inrQ y0).isSome then
      bnd (bif (decide ((v0.length : Int) ≥ 1)) then (decide ((v0.length : Int) ≤ 60)) else false) fun y1 =>
      k0 y1
    else
      none
noncomputable def G51x0 (v0 : LB) : Option (Bool) := F51x0 N v0 (fun p => some p)
theorem bind51x0 (v0 : LB) (k0 : Bool → Option R) : F51x0 N v0 k0 = (G51x0 N v0).bind k0 := by
  unfold G51x0 F51x0
  repeat' (first | rfl | apply cond_b | (apply bnd_b; intro _))
noncomputable def sh51x0 : Sh := { tmps := [(0, .c (.s))], mem := [] }
noncomputable def A51x0 (L : List Lf) : List (Bool × Res) := bnd (F51x0 N (ls L 0) (fun p => some p)) fun q => [(q.isSome, ([.c (.b (q.getD default))], []))]
theorem raw51x0 (L : List Lf) : bd Try.prog (T80x0 N) (h51x0s2 N).h 51 sh51x0 L = F51x0 N (ls L 0) (fun p => some ([.c (.b p)], [])) := by kernel_rfl
theorem ok51x0 : FnOk Try.prog 51 sh51x0 (A51x0 N) :=
  (h51x0s2 N).fn progOk (T80x0_ok N) fun L x hx => ((raw51x0 N L).trans ((bind51x0 N ..).trans (alt1 x hx)))
noncomputable def T51x0 : Oracle := ext 51 (spSh sh51x0 (A51x0 N)) (T80x0 N)
theorem T51x0_ok : OracleOk Try.prog (T51x0 N) := FnOk.to (ok51x0 N) (T80x0_ok N)
noncomputable def rg82x0 : List (Nat × List Nat) := [(0, [0, 1]), (1, [2, 1])]
noncomputable def hd82x0 : Hints := []
noncomputable def h82x0s0 (N : Nat) : Sg Try.prog 1 82 := .start hd82x0 rg82x0
noncomputable def F82x0 (N : Nat) (v0 v5 : LB) (k0 : Bool → R) : R :=
  k0 (v0 == v5)
noncomputable def V82x0 (v0 v5 : LB) : Bool := F82x0 N v0 v5 (fun p => p)
theorem tot82x0 (v0 v5 : LB) (k0 : Bool → R) : F82x0 N v0 v5 k0 = k0 (V82x0 N v0 v5) := by
  unfold V82x0 F82x0
  repeat' (first | rfl | apply cond_k | (apply bnd_k; intro _))
noncomputable def sh82x0 : Sh := { tmps := [(0, .g ([.s, .i .i64, .i .i64, .i .i64, .b])), (1, .c (.p 0 0))], mem := [(0, .box ([.s]))] }
noncomputable def A82x0 (L : List Lf) : List (Bool × Res) := bnd (F82x0 N (ls L 0) (ls L 5) (fun p => p)) fun q => [(true, ([.c (.b q)], [(0, .box [.s (ls L 5)])]))]
theorem raw82x0 (L : List Lf) : bd Try.prog (T51x0 N) (h82x0s0 N).h 82 sh82x0 L = F82x0 N (ls L 0) (ls L 5) (fun p => some ([.c (.b p)], [(0, .box [.s (ls L 5)])])) := by kernel_rfl
theorem ok82x0 : FnOk Try.prog 82 sh82x0 (A82x0 N) :=
  (h82x0s0 N).fn progOk (T51x0_ok N) fun L x hx => ((raw82x0 N L).trans ((tot82x0 N ..).trans (alt0 _ _ hx)))
noncomputable def T82x0 : Oracle := ext 82 (spSh sh82x0 (A82x0 N)) (T51x0 N)
theorem T82x0_ok : OracleOk Try.prog (T82x0 N) := FnOk.to (ok82x0 N) (T51x0_ok N)
noncomputable def rg81x0 : List (Nat × List Nat) := [(0, [0, 1]), (1, [0, 1]), (2, [8, 7, 1, 0]), (3, [8, 1, 0, 7]), (4, [1, 0, 5, 8, 7]), (5, [5]), (6, [8, 7, 1, 0]), (7, [])]
noncomputable def hd81x0 : Hints := [(6, [8, 7, 1, 0], [0], [])]
noncomputable def h81x0s0 (N : Nat) : Sg Try.prog 1 81 := .start hd81x0 rg81x0
noncomputable def S81x0x6 (w1 : LD) (w2 : Int) (w4 : LB) (w3 : Int) (kr : Int → Option R) (k0 : Int → Option R) (k1 : Unit → Option R) : Option R :=
  bif (decide (w3 < w2)) then
    bif (inB w3 w1.length) then
      bnd (V82x0 N ((w1.getD w3.toNat (.i 0)).cell 0).toS w4) fun y0 =>
      bif y0 then
        k0 w3
      else
        kr (IntKind.wrap .i64 (w3 + 1))
    else
      none
  else
    k1 ()
noncomputable def L81x0x6 (N : Nat) {R : Type} (w1 : LD) (w2 : Int) (w4 : LB) : Nat → Int → (Int → Option R) → (Unit → Option R) → Option R
  | 0, _, _, _ => none
  | m + 1, w3, k0, k1 => S81x0x6 N w1 w2 w4 w3 (fun w3 => L81x0x6 N w1 w2 w4 m w3 k0 k1) k0 k1
noncomputable def G81x0x6 (w1 : LD) (w2 : Int) (w4 : LB) (w3 : Int) : Option (Sum (Int) (Unit)) := L81x0x6 N (R := (Sum (Int) (Unit))) w1 w2 w4 N w3 (fun p => some (.inl p)) (fun p => some (.inr p))
noncomputable def J81x0x6 (L x : List Lf) (kr : List Lf → Option R) (k0 : Int → Option R) (k1 : Unit → Option R) : Option R := S81x0x6 N (ll L 1) (li L 2) (ls L 4) (li x 0) (fun w3 => kr [.i w3]) k0 k1
theorem sb81x0x6 (L x : List Lf) (kr : List Lf → Option R) (k0 : Int → Option R) (k1 : Unit → Option R) : J81x0x6 N L x kr k0 k1 = (J81x0x6 N L x (fun y => some (.inl y)) (fun p => some (.inr (.inl p))) (fun p => some (.inr (.inr p)))).bind (sumE kr (sumE k0 k1)) := by
  unfold J81x0x6 S81x0x6
  repeat' (first | rfl | apply cond_b | (apply bnd_b; intro _))
noncomputable def Q81x0x6 (L : List Lf) (m : Nat) (x : List Lf) : Option (Sum (Int) (Unit)) := L81x0x6 N (R := (Sum (Int) (Unit))) (ll L 1) (li L 2) (ls L 4) m (li x 0) (fun p => some (.inl p)) (fun p => some (.inr p))
noncomputable def sh81x0x6 : Sh := { tmps := [(0, .c (.sl 66)), (1, .c (.f 82 [(0, 0)])), (7, .c (.i .i64)), (8, .c (.i .i64))], mem := [(0, .box ([.s]))] }
noncomputable def A81x0x6 (L : List Lf) : List (Bool × (Ex × St)) := bnd (Q81x0x6 N L N (pk sh81x0x6 [3] L)) fun q => [((inlB q), (.ret, ⟨[(4, .c (.i .i64 (inlV q)))], [(0, .box [.s (ls L 4)])]⟩)), ((inrQ q).isSome, ((.exit 0), ⟨[], [(0, .box [.s (ls L 4)])]⟩))]
theorem step81x0x6 (m : Nat) (kn : St → Option (Ex × St)) (L x : List Lf) : lpB Try.prog (T82x0 N) (h81x0s0 N).h 1 81 6 sh81x0x6 [3] [4] [0] (m + 100) kn L x = J81x0x6 N L x (fun y => kn (ofSh sh81x0x6 (mx sh81x0x6 [3] L y))) (fun p => some (.ret, ⟨[(4, .c (.i .i64 p))], [(0, .box [.s (ls L 4)])]⟩)) (fun _ => some ((.exit 0), ⟨[], [(0, .box [.s (ls L 4)])]⟩)) := by kernel_rfl
noncomputable def h81x0s1 : Sg Try.prog 1 81 :=
  (h81x0s0 N).lp (A81x0x6 N) N progOk (T82x0_ok N) (fun m kn L x => (step81x0x6 N m kn L x).trans (sb81x0x6 N L x _ _ _)) (fun L m x => sb81x0x6 N L x (Q81x0x6 N L m) (fun p => some (.inl p)) (fun p => some (.inr p))) fun L x hx => (altS alt1) x hx
noncomputable def F81x0 (v1 : LD) (v2 : LB) (k0 : Int → Option R) : Option R :=
  bnd (G81x0x6 N v1 (v1.length : Int) v2 0) fun y0 =>
  bif (inlB y0) then
    k0 (inlV y0)
  else
    bif (inrQ y0).isSome then
      k0 (-1)
    else
      none
noncomputable def G81x0 (v1 : LD) (v2 : LB) : Option (Int) := F81x0 N v1 v2 (fun p => some p)
theorem bind81x0 (v1 : LD) (v2 : LB) (k0 : Int → Option R) : F81x0 N v1 v2 k0 = (G81x0 N v1 v2).bind k0 := by
  unfold G81x0 F81x0
  repeat' (first | rfl | apply cond_b | (apply bnd_b; intro _))
noncomputable def sh81x0 : Sh := { tmps := [(0, .c (.sl 66)), (1, .c (.f 82 [(0, 0)]))], mem := [(0, .box ([.s]))] }
noncomputable def A81x0 (L : List Lf) : List (Bool × Res) := bnd (F81x0 N (ll L 1) (ls L 2) (fun p => some p)) fun q => [(q.isSome, ([.c (.i .i64 (q.getD default))], [(0, .box [.s (ls L 2)])]))]
theorem raw81x0 (L : List Lf) : bd Try.prog (T82x0 N) (h81x0s1 N).h 81 sh81x0 L = F81x0 N (ll L 1) (ls L 2) (fun p => some ([.c (.i .i64 p)], [(0, .box [.s (ls L 2)])])) := by kernel_rfl
theorem ok81x0 : FnOk Try.prog 81 sh81x0 (A81x0 N) :=
  (h81x0s1 N).fn progOk (T82x0_ok N) fun L x hx => ((raw81x0 N L).trans ((bind81x0 N ..).trans (alt1 x hx)))
noncomputable def T81x0 : Oracle := ext 81 (spSh sh81x0 (A81x0 N)) (T82x0 N)
theorem T81x0_ok : OracleOk Try.prog (T81x0 N) := FnOk.to (ok81x0 N) (T82x0_ok N)
noncomputable def rg52x0 : List (Nat × List Nat) := [(0, [0, 1]), (1, [2, 3])]
noncomputable def hd52x0 : Hints := []
noncomputable def h52x0s0 (N : Nat) : Sg Try.prog 0 52 := .start hd52x0 rg52x0
noncomputable def F52x0 (v4 : LD) (v7 : LB) (k0 : Int → Option R) : Option R :=
  bnd (G81x0 N v4 v7) fun y0 =>
  bif y0.isSome then
    k0 (y0.getD default)
  else
    none
noncomputable def G52x0 (v4 : LD) (v7 : LB) : Option (Int) := F52x0 N v4 v7 (fun p => some p)
theorem bind52x0 (v4 : LD) (v7 : LB) (k0 : Int → Option R) : F52x0 N v4 v7 k0 = (G52x0 N v4 v7).bind k0 := by
  unfold G52x0 F52x0
  repeat' (first | rfl | apply cond_b | (apply bnd_b; intro _))
noncomputable def sh52x0 : Sh := { tmps := [(0, .g ([.i .i64, .i .i64, .i .i64, .sl 66, .sl 68])), (1, .c (.s))], mem := [] }
noncomputable def A52x0 (L : List Lf) : List (Bool × Res) := bnd (F52x0 N (ll L 4) (ls L 7) (fun p => some p)) fun q => [(q.isSome, ([.c (.i .i64 (q.getD default))], []))]
theorem raw52x0 (L : List Lf) : bd Try.prog (T81x0 N) (h52x0s0 N).h 52 sh52x0 L = F52x0 N (ll L 4) (ls L 7) (fun p => some ([.c (.i .i64 p)], [])) := by kernel_rfl
theorem ok52x0 : FnOk Try.prog 52 sh52x0 (A52x0 N) :=
  (h52x0s0 N).fn progOk (T81x0_ok N) fun L x hx => ((raw52x0 N L).trans ((bind52x0 N ..).trans (alt1 x hx)))
noncomputable def T52x0 : Oracle := ext 52 (spSh sh52x0 (A52x0 N)) (T81x0 N)
theorem T52x0_ok : OracleOk Try.prog (T52x0 N) := FnOk.to (ok52x0 N) (T81x0_ok N)
noncomputable def rg83x0 : List (Nat × List Nat) := [(0, [0]), (1, [0, 2]), (2, [3, 2]), (4, [3, 2]), (6, [3, 2]), (8, [3, 2]), (10, [3, 2]), (11, [2]), (9, [2]), (7, [2]), (5, [2]), (3, [2]), (12, [2])]
noncomputable def hd83x0 : Hints := []
noncomputable def h83x0s0 (N : Nat) : Sg Try.prog 0 83 := .start hd83x0 rg83x0
noncomputable def F83x0 (N : Nat) (v0 : Int) (k0 : Bool × Bool × Bool × Bool × Bool → R) : R :=
  bif (v0 == 1) then
    k0 (true, false, false, false, false)
  else
    bif (v0 == 2) then
      k0 (true, true, false, false, false)
    else
      bif (v0 == 6) then
        k0 (false, false, true, true, true)
      else
        bif (v0 == 8) then
          k0 (true, false, false, false, true)
        else
          bif (v0 == 9) then
            k0 (true, true, true, false, false)
          else
            k0 (false, true, false, false, false)
noncomputable def V83x0 (v0 : Int) : Bool × Bool × Bool × Bool × Bool := F83x0 N v0 (fun p => p)
theorem tot83x0 (v0 : Int) (k0 : Bool × Bool × Bool × Bool × Bool → R) : F83x0 N v0 k0 = k0 (V83x0 N v0) := by
  unfold V83x0 F83x0
  repeat' (first | rfl | apply cond_k | (apply bnd_k; intro _))
noncomputable def sh83x0 : Sh := { tmps := [(0, .c (.i .i64))], mem := [] }
noncomputable def K83x0w0 (L : List Lf) (p : Bool × Bool × Bool × Bool × Bool) : Res := ([.g [.b p.1, .b p.2.1, .b p.2.2.1, .b p.2.2.2.1, .b p.2.2.2.2]], [])
noncomputable def A83x0 (L : List Lf) : List (Bool × Res) := bnd (F83x0 N (li L 0) (fun p => p)) fun q => [(true, K83x0w0 L q)]
theorem raw83x0 (L : List Lf) : bd Try.prog (T52x0 N) (h83x0s0 N).h 83 sh83x0 L = F83x0 N (li L 0) (fun p => some (K83x0w0 L p)) := by kernel_rfl
theorem ok83x0 : FnOk Try.prog 83 sh83x0 (A83x0 N) :=
  (h83x0s0 N).fn progOk (T52x0_ok N) fun L x hx => ((raw83x0 N L).trans ((tot83x0 N ..).trans (alt0 _ _ hx)))
noncomputable def T83x0 : Oracle := ext 83 (spSh sh83x0 (A83x0 N)) (T52x0 N)
theorem T83x0_ok : OracleOk Try.prog (T83x0 N) := FnOk.to (ok83x0 N) (T52x0_ok N)
noncomputable def rg53x0 : List (Nat × List Nat) := [(0, [0, 1]), (1, [3, 2]), (2, []), (3, [3, 2]), (4, [3, 2, 5]), (5, [3, 2, 5, 7, 8, 6]), (6, [2, 3, 5, 7, 8]), (7, [3, 5, 6, 2, 7, 8]), (8, [3, 5, 6, 2]), (9, [3, 5, 6, 2, 7, 8]), (10, [5, 3, 6, 9, 2, 7, 8]), (11, [5, 3, 7, 8, 9, 2]), (13, [3, 9, 5, 2]), (14, [3, 5, 2]), (16, [5, 2, 3]), (18, [5, 3]), (19, [5, 3]), (20, [5, 3]), (21, [5, 3]), (22, [5, 3]), (23, []), (17, []), (15, []), (12, []), (24, [])]
noncomputable def hd53x0 : Hints := [(20, [2, 3, 5, 7, 8, 6, 24], [5, 3, 2], []), (26, [3, 5, 6, 2, 7, 8, 30], [5, 3, 2], []), (31, [5, 3, 6, 9, 2, 7, 8], [5, 3, 2], []), (34, [5, 3, 7, 8, 9, 2], [5, 3, 2], []), (33002, [3, 9, 5, 2, 46, 7, 8], [5, 3, 2], []), (43, [3, 5, 2], [5, 3, 2], []), (42002, [5, 2, 3, 66], [5, 3, 2], []), (49, [5, 2, 3], [5, 3, 2], []), (66002, [103, 5, 3], [5, 3], []), (63002, [103, 5, 3], [5, 3], []), (60002, [103, 5, 3], [5, 3], []), (57002, [103, 5, 3], [5, 3], [])]
noncomputable def h53x0s0 (N : Nat) : Sg Try.prog 0 53 := .start hd53x0 rg53x0
noncomputable def F53x0x20 (N : Nat) (w0 : Int) (w3 : Bool) (w5 : Int) (k0 : Int → R) : R :=
  bif w3 then
    k0 (IntKind.wrap .i64 (w5 - 1))
  else
    k0 w0
noncomputable def V53x0x20 (w0 : Int) (w3 : Bool) (w5 : Int) : Int := F53x0x20 N w0 w3 w5 (fun p => p)
theorem tot53x0x20 (w0 : Int) (w3 : Bool) (w5 : Int) (k0 : Int → R) : F53x0x20 N w0 w3 w5 k0 = k0 (V53x0x20 N w0 w3 w5) := by
  unfold V53x0x20 F53x0x20
  repeat' (first | rfl | apply cond_k | (apply bnd_k; intro _))
noncomputable def sh53x0x20 : Sh := { tmps := [(2, .c (.p 2 0)), (3, .c (.p 3 0)), (5, .c (.p 5 0)), (6, .c (.i .i64)), (7, .c (.i .i64)), (8, .c (.i .i64)), (24, .c (.b))], mem := [(2, .box ([.i .i64, .i .i64, .i .i64, .sl 66, .sl 68])), (3, .box (rI 5 ([.s]))), (5, .box (rB 5 ([])))] }
noncomputable def K53x0x20w0 (L : List Lf) (p : Int) : Ex × St := (.normal, mg (ofSh sh53x0x20 L) [2, 3, 5, 6, 7, 8] [(6, .c (.i .i64 p))] [2, 3, 5] [])
noncomputable def A53x0x20 (L : List Lf) : List (Bool × (Ex × St)) := bnd (F53x0x20 N (li L 0) (lb L 3) (li L 5) (fun p => p)) fun q => [(true, K53x0x20w0 L q)]
theorem raw53x0x20 (L : List Lf) : pc Try.prog (T83x0 N) (h53x0s0 N).h 0 100 53 20 sh53x0x20 L [3, 5, 6, 2, 7, 8] [5, 3, 2] = F53x0x20 N (li L 0) (lb L 3) (li L 5) (fun p => some (K53x0x20w0 L p)) := by kernel_rfl
noncomputable def h53x0s1 : Sg Try.prog 0 53 :=
  (h53x0s0 N).cut (A53x0x20 N) progOk (T83x0_ok N) fun L x hx => (raw53x0x20 N L).trans ((tot53x0x20 N ..).trans (alt0 _ _ hx))
noncomputable def F53x0x26 (N : Nat) (w1 w2 : Int) (w3 : Bool) (k0 : Int × Int → R) : R :=
  bif w3 then
    k0 (1, 14)
  else
    k0 (w1, w2)
noncomputable def V53x0x26 (w1 w2 : Int) (w3 : Bool) : Int × Int := F53x0x26 N w1 w2 w3 (fun p => p)
theorem tot53x0x26 (w1 w2 : Int) (w3 : Bool) (k0 : Int × Int → R) : F53x0x26 N w1 w2 w3 k0 = k0 (V53x0x26 N w1 w2 w3) := by
  unfold V53x0x26 F53x0x26
  repeat' (first | rfl | apply cond_k | (apply bnd_k; intro _))
noncomputable def sh53x0x26 : Sh := { tmps := [(2, .c (.p 2 0)), (3, .c (.p 3 0)), (5, .c (.p 5 0)), (6, .c (.i .i64)), (7, .c (.i .i64)), (8, .c (.i .i64)), (30, .c (.b))], mem := [(2, .box ([.i .i64, .i .i64, .i .i64, .sl 66, .sl 68])), (3, .box (rI 5 ([.s]))), (5, .box (rB 5 ([])))] }
noncomputable def K53x0x26w0 (L : List Lf) (p : Int × Int) : Ex × St := (.normal, mg (ofSh sh53x0x26 L) [2, 3, 5, 6, 7, 8] [(7, .c (.i .i64 p.1)), (8, .c (.i .i64 p.2))] [2, 3, 5] [])
noncomputable def A53x0x26 (L : List Lf) : List (Bool × (Ex × St)) := bnd (F53x0x26 N (li L 1) (li L 2) (lb L 3) (fun p => p)) fun q => [(true, K53x0x26w0 L q)]
theorem raw53x0x26 (L : List Lf) : pc Try.prog (T83x0 N) (h53x0s1 N).h 0 100 53 26 sh53x0x26 L [3, 5, 6, 2, 7, 8] [5, 3, 2] = F53x0x26 N (li L 1) (li L 2) (lb L 3) (fun p => some (K53x0x26w0 L p)) := by kernel_rfl
noncomputable def h53x0s2 : Sg Try.prog 0 53 :=
  (h53x0s1 N).cut (A53x0x26 N) progOk (T83x0_ok N) fun L x hx => (raw53x0x26 N L).trans ((tot53x0x26 N ..).trans (alt0 _ _ hx))
noncomputable def F53x0x31 (w0 w12 : Int) (w17 : Bool) (k0 : Bool → R) : R :=
  bif w17 then
    bnd (V48x0 N w12 0 w0) fun y0 =>
    k0 (!y0)
  else
    k0 false
noncomputable def V53x0x31 (w0 w12 : Int) (w17 : Bool) : Bool := F53x0x31 N w0 w12 w17 (fun p => p)
theorem tot53x0x31 (w0 w12 : Int) (w17 : Bool) (k0 : Bool → R) : F53x0x31 N w0 w12 w17 k0 = k0 (V53x0x31 N w0 w12 w17) := by
  unfold V53x0x31 F53x0x31
  repeat' (first | rfl | apply cond_k | (apply bnd_k; intro _))
noncomputable def sh53x0x31 : Sh := { tmps := [(2, .c (.p 2 0)), (3, .c (.p 3 0)), (5, .c (.p 5 0)), (6, .c (.i .i64)), (7, .c (.i .i64)), (8, .c (.i .i64)), (9, .c (.b))], mem := [(2, .box ([.i .i64, .i .i64, .i .i64, .sl 66, .sl 68])), (3, .box (rI 5 ([.s]))), (5, .box (rB 5 ([])))] }
noncomputable def K53x0x31w0 (L : List Lf) (p : Bool) : Ex × St := (.normal, mg (ofSh sh53x0x31 L) [2, 3, 5, 7, 8, 9, 46] [(46, .c (.b p))] [2, 3, 5] [])
noncomputable def A53x0x31 (L : List Lf) : List (Bool × (Ex × St)) := bnd (F53x0x31 N (li L 0) (li L 12) (lb L 17) (fun p => p)) fun q => [(true, K53x0x31w0 L q)]
theorem raw53x0x31 (L : List Lf) : pc Try.prog (T83x0 N) (h53x0s2 N).h 0 100 53 31 sh53x0x31 L [3, 9, 5, 2, 46, 7, 8] [5, 3, 2] = F53x0x31 N (li L 0) (li L 12) (lb L 17) (fun p => some (K53x0x31w0 L p)) := by kernel_rfl
noncomputable def h53x0s3 : Sg Try.prog 0 53 :=
  (h53x0s2 N).cut (A53x0x31 N) progOk (T83x0_ok N) fun L x hx => (raw53x0x31 N L).trans ((tot53x0x31 N ..).trans (alt0 _ _ hx))
noncomputable def F53x0x34 (w0 w1 w12 : Int) (w17 : Bool) (k0 : Bool → R) : R :=
  bif w17 then
    bnd (V48x0 N w12 w0 w1) fun y0 =>
    k0 (!y0)
  else
    k0 false
noncomputable def V53x0x34 (w0 w1 w12 : Int) (w17 : Bool) : Bool := F53x0x34 N w0 w1 w12 w17 (fun p => p)
theorem tot53x0x34 (w0 w1 w12 : Int) (w17 : Bool) (k0 : Bool → R) : F53x0x34 N w0 w1 w12 w17 k0 = k0 (V53x0x34 N w0 w1 w12 w17) := by
  unfold V53x0x34 F53x0x34
  repeat' (first | rfl | apply cond_k | (apply bnd_k; intro _))
noncomputable def J53x0x34 (L : List Lf) (k0 : Bool → R) : R := F53x0x34 N (li L 0) (li L 1) (li L 12) (lb L 17) k0
noncomputable def sh53x0x34 : Sh := { tmps := [(2, .c (.p 2 0)), (3, .c (.p 3 0)), (5, .c (.p 5 0)), (7, .c (.i .i64)), (8, .c (.i .i64)), (9, .c (.b))], mem := [(2, .box ([.i .i64, .i .i64, .i .i64, .sl 66, .sl 68])), (3, .box (rI 5 ([.s]))), (5, .box (rB 5 ([])))] }
noncomputable def K53x0x34w0 (L : List Lf) (p : Bool) : Ex × St := (.normal, mg (ofSh sh53x0x34 L) [2, 3, 5, 9, 46] [(46, .c (.b p))] [2, 3, 5] [])
noncomputable def A53x0x34 (L : List Lf) : List (Bool × (Ex × St)) := bnd (J53x0x34 N L (fun p => p)) fun q => [(true, K53x0x34w0 L q)]
theorem raw53x0x34 (L : List Lf) : pc Try.prog (T83x0 N) (h53x0s3 N).h 0 100 53 34 sh53x0x34 L [3, 9, 5, 2, 46] [5, 3, 2] = J53x0x34 N L (fun p => some (K53x0x34w0 L p)) := by kernel_rfl
noncomputable def h53x0s4 : Sg Try.prog 0 53 :=
  (h53x0s3 N).cut (A53x0x34 N) progOk (T83x0_ok N) fun L x hx => (raw53x0x34 N L).trans ((tot53x0x34 N ..).trans (alt0 _ _ hx))
noncomputable def F53x0x33002 (w0 w1 : Int) (w3 : Bool) (w13 : Int) (w18 : Bool) (k0 : Bool → R) : R :=
  bif w3 then
    k0 true
  else
    bnd (V53x0x34 N w0 w1 w13 w18) fun y0 =>
    k0 y0
noncomputable def V53x0x33002 (w0 w1 : Int) (w3 : Bool) (w13 : Int) (w18 : Bool) : Bool := F53x0x33002 N w0 w1 w3 w13 w18 (fun p => p)
theorem tot53x0x33002 (w0 w1 : Int) (w3 : Bool) (w13 : Int) (w18 : Bool) (k0 : Bool → R) : F53x0x33002 N w0 w1 w3 w13 w18 k0 = k0 (V53x0x33002 N w0 w1 w3 w13 w18) := by
  unfold V53x0x33002 F53x0x33002
  repeat' (first | rfl | apply cond_k | (apply bnd_k; intro _))
noncomputable def J53x0x33002 (L : List Lf) (k0 : Bool → R) : R := F53x0x33002 N (li L 0) (li L 1) (lb L 3) (li L 13) (lb L 18) k0
noncomputable def sh53x0x33002 : Sh := { tmps := [(2, .c (.p 2 0)), (3, .c (.p 3 0)), (5, .c (.p 5 0)), (7, .c (.i .i64)), (8, .c (.i .i64)), (9, .c (.b)), (46, .c (.b))], mem := [(2, .box ([.i .i64, .i .i64, .i .i64, .sl 66, .sl 68])), (3, .box (rI 5 ([.s]))), (5, .box (rB 5 ([])))] }
noncomputable def K53x0x33002w0 (L : List Lf) (p : Bool) : Ex × St := (.normal, mg (ofSh sh53x0x33002 L) [2, 3, 5, 9, 46] [(46, .c (.b p))] [2, 3, 5] [])
noncomputable def A53x0x33002 (L : List Lf) : List (Bool × (Ex × St)) := bnd (J53x0x33002 N L (fun p => p)) fun q => [(true, K53x0x33002w0 L q)]
theorem raw53x0x33002 (L : List Lf) : pc Try.prog (T83x0 N) (h53x0s4 N).h 0 100 53 33002 sh53x0x33002 L [3, 9, 5, 2, 46] [5, 3, 2] = J53x0x33002 N L (fun p => some (K53x0x33002w0 L p)) := by kernel_rfl
noncomputable def h53x0s5 : Sg Try.prog 0 53 :=
  (h53x0s4 N).cut (A53x0x33002 N) progOk (T83x0_ok N) fun L x hx => (raw53x0x33002 N L).trans ((tot53x0x33002 N ..).trans (alt0 _ _ hx))
noncomputable def F53x0x43 (w7 w10 : Int) (k0 : Bool → R) : R :=
  bif (w7 == 9) then
    bnd (V48x0 N w10 1 14) fun y0 =>
    k0 (!y0)
  else
    k0 false
noncomputable def V53x0x43 (w7 w10 : Int) : Bool := F53x0x43 N w7 w10 (fun p => p)
theorem tot53x0x43 (w7 w10 : Int) (k0 : Bool → R) : F53x0x43 N w7 w10 k0 = k0 (V53x0x43 N w7 w10) := by
  unfold V53x0x43 F53x0x43
  repeat' (first | rfl | apply cond_k | (apply bnd_k; intro _))
noncomputable def sh53x0x43 : Sh := { tmps := [(2, .c (.p 2 0)), (3, .c (.p 3 0)), (5, .c (.p 5 0))], mem := [(2, .box ([.i .i64, .i .i64, .i .i64, .sl 66, .sl 68])), (3, .box (rI 5 ([.s]))), (5, .box (rB 5 ([])))] }
noncomputable def K53x0x43w0 (L : List Lf) (p : Bool) : Ex × St := (.normal, mg (ofSh sh53x0x43 L) [2, 3, 5, 66] [(66, .c (.b p))] [2, 3, 5] [])
noncomputable def A53x0x43 (L : List Lf) : List (Bool × (Ex × St)) := bnd (F53x0x43 N (li L 7) (li L 10) (fun p => p)) fun q => [(true, K53x0x43w0 L q)]
theorem raw53x0x43 (L : List Lf) : pc Try.prog (T83x0 N) (h53x0s5 N).h 0 100 53 43 sh53x0x43 L [5, 2, 3, 66] [5, 3, 2] = F53x0x43 N (li L 7) (li L 10) (fun p => some (K53x0x43w0 L p)) := by kernel_rfl
noncomputable def h53x0s6 : Sg Try.prog 0 53 :=
  (h53x0s5 N).cut (A53x0x43 N) progOk (T83x0_ok N) fun L x hx => (raw53x0x43 N L).trans ((tot53x0x43 N ..).trans (alt0 _ _ hx))
noncomputable def F53x0x42002 (w0 : Bool) (w8 w11 : Int) (k0 : Bool → R) : R :=
  bif w0 then
    k0 true
  else
    bnd (V53x0x43 N w8 w11) fun y0 =>
    k0 y0
noncomputable def V53x0x42002 (w0 : Bool) (w8 w11 : Int) : Bool := F53x0x42002 N w0 w8 w11 (fun p => p)
theorem tot53x0x42002 (w0 : Bool) (w8 w11 : Int) (k0 : Bool → R) : F53x0x42002 N w0 w8 w11 k0 = k0 (V53x0x42002 N w0 w8 w11) := by
  unfold V53x0x42002 F53x0x42002
  repeat' (first | rfl | apply cond_k | (apply bnd_k; intro _))
noncomputable def sh53x0x42002 : Sh := { tmps := [(2, .c (.p 2 0)), (3, .c (.p 3 0)), (5, .c (.p 5 0)), (66, .c (.b))], mem := [(2, .box ([.i .i64, .i .i64, .i .i64, .sl 66, .sl 68])), (3, .box (rI 5 ([.s]))), (5, .box (rB 5 ([])))] }
noncomputable def K53x0x42002w0 (L : List Lf) (p : Bool) : Ex × St := (.normal, mg (ofSh sh53x0x42002 L) [2, 3, 5, 66] [(66, .c (.b p))] [2, 3, 5] [])
noncomputable def A53x0x42002 (L : List Lf) : List (Bool × (Ex × St)) := bnd (F53x0x42002 N (lb L 0) (li L 8) (li L 11) (fun p => p)) fun q => [(true, K53x0x42002w0 L q)]
theorem raw53x0x42002 (L : List Lf) : pc Try.prog (T83x0 N) (h53x0s6 N).h 0 100 53 42002 sh53x0x42002 L [5, 2, 3, 66] [5, 3, 2] = F53x0x42002 N (lb L 0) (li L 8) (li L 11) (fun p => some (K53x0x42002w0 L p)) := by kernel_rfl
noncomputable def h53x0s7 : Sg Try.prog 0 53 :=
  (h53x0s6 N).cut (A53x0x42002 N) progOk (T83x0_ok N) fun L x hx => (raw53x0x42002 N L).trans ((tot53x0x42002 N ..).trans (alt0 _ _ hx))
noncomputable def F53x0x49 (w4 : LD) (w7 : Int) (w12 : LB) (w17 : Bool) (k0 : Bool → Option R) : Option R :=
  bif w17 then
    bnd (G52x0 N w4 w12) fun y0 =>
    bif y0.isSome then
      bnd (bif (decide ((y0.getD default) < 0)) then (bif (w7 == 6) then true else (!(w12 == ([] : List UInt8)))) else false) fun y1 =>
      k0 y1
    else
      none
  else
    k0 false
noncomputable def G53x0x49 (w4 : LD) (w7 : Int) (w12 : LB) (w17 : Bool) : Option (Bool) := F53x0x49 N w4 w7 w12 w17 (fun p => some p)
theorem bind53x0x49 (w4 : LD) (w7 : Int) (w12 : LB) (w17 : Bool) (k0 : Bool → Option R) : F53x0x49 N w4 w7 w12 w17 k0 = (G53x0x49 N w4 w7 w12 w17).bind k0 := by
  unfold G53x0x49 F53x0x49
  repeat' (first | rfl | apply cond_b | (apply bnd_b; intro _))
noncomputable def J53x0x49 (L : List Lf) (k0 : Bool → Option R) : Option R := F53x0x49 N (ll L 4) (li L 7) (ls L 12) (lb L 17) k0
noncomputable def sh53x0x49 : Sh := { tmps := [(2, .c (.p 2 0)), (3, .c (.p 3 0)), (5, .c (.p 5 0))], mem := [(2, .box ([.i .i64, .i .i64, .i .i64, .sl 66, .sl 68])), (3, .box (rI 5 ([.s]))), (5, .box (rB 5 ([])))] }
noncomputable def K53x0x49w0 (L : List Lf) (p : Bool) : Ex × St := (.normal, mg (ofSh sh53x0x49 L) [3, 5, 83] [(83, .c (.b p))] [3, 5] [])
noncomputable def A53x0x49 (L : List Lf) : List (Bool × (Ex × St)) := bnd (J53x0x49 N L (fun p => some p)) fun q => [(q.isSome, K53x0x49w0 L (q.getD default))]
theorem raw53x0x49 (L : List Lf) : pc Try.prog (T83x0 N) (h53x0s7 N).h 0 100 53 49 sh53x0x49 L [5, 3, 83] [5, 3] = J53x0x49 N L (fun p => some (K53x0x49w0 L p)) := by kernel_rfl
noncomputable def h53x0s8 : Sg Try.prog 0 53 :=
  (h53x0s7 N).cut (A53x0x49 N) progOk (T83x0_ok N) fun L x hx => (raw53x0x49 N L).trans ((bind53x0x49 N ..).trans (alt1 x hx))
noncomputable def F53x0x66002 (N : Nat) (w0 : Bool) (w6 : LB) (w11 : Bool) (k0 : Bool → R) : R :=
  bif w0 then
    k0 true
  else
    k0 (bif (!w11) then (!(w6 == ([] : List UInt8))) else false)
noncomputable def V53x0x66002 (w0 : Bool) (w6 : LB) (w11 : Bool) : Bool := F53x0x66002 N w0 w6 w11 (fun p => p)
theorem tot53x0x66002 (w0 : Bool) (w6 : LB) (w11 : Bool) (k0 : Bool → R) : F53x0x66002 N w0 w6 w11 k0 = k0 (V53x0x66002 N w0 w6 w11) := by
  unfold V53x0x66002 F53x0x66002
  repeat' (first | rfl | apply cond_k | (apply bnd_k; intro _))
noncomputable def sh53x0x66002 : Sh := { tmps := [(3, .c (.p 3 0)), (5, .c (.p 5 0)), (103, .c (.b))], mem := [(3, .box (rI 5 ([.s]))), (5, .box (rB 5 ([])))] }
noncomputable def A53x0x66002 (L : List Lf) : List (Bool × (Ex × St)) := bnd (F53x0x66002 N (lb L 0) (ls L 6) (lb L 11) (fun p => p)) fun q => [(true, (.normal, ⟨[(103, .c (.b q))], []⟩))]
theorem raw53x0x66002 (L : List Lf) : pc Try.prog (T83x0 N) (h53x0s8 N).h 0 100 53 66002 sh53x0x66002 L [103] [] = F53x0x66002 N (lb L 0) (ls L 6) (lb L 11) (fun p => some (.normal, ⟨[(103, .c (.b p))], []⟩)) := by kernel_rfl
noncomputable def h53x0s9 : Sg Try.prog 0 53 :=
  (h53x0s8 N).cut (A53x0x66002 N) progOk (T83x0_ok N) fun L x hx => (raw53x0x66002 N L).trans ((tot53x0x66002 N ..).trans (alt0 _ _ hx))
noncomputable def F53x0x63002 (w0 : Bool) (w5 : Int) (w6 : LB) (w10 w11 : Bool) (k0 : Bool → R) : R :=
  bif w0 then
    k0 true
  else
    bnd (V53x0x66002 N (bif (!w10) then (w5 != 0) else false) w6 w11) fun y0 =>
    k0 y0
noncomputable def V53x0x63002 (w0 : Bool) (w5 : Int) (w6 : LB) (w10 w11 : Bool) : Bool := F53x0x63002 N w0 w5 w6 w10 w11 (fun p => p)
theorem tot53x0x63002 (w0 : Bool) (w5 : Int) (w6 : LB) (w10 w11 : Bool) (k0 : Bool → R) : F53x0x63002 N w0 w5 w6 w10 w11 k0 = k0 (V53x0x63002 N w0 w5 w6 w10 w11) := by
  unfold V53x0x63002 F53x0x63002
  repeat' (first | rfl | apply cond_k | (apply bnd_k; intro _))
noncomputable def J53x0x63002 (L : List Lf) (k0 : Bool → R) : R := F53x0x63002 N (lb L 0) (li L 5) (ls L 6) (lb L 10) (lb L 11) k0
noncomputable def sh53x0x63002 : Sh := { tmps := [(3, .c (.p 3 0)), (5, .c (.p 5 0)), (103, .c (.b))], mem := [(3, .box (rI 5 ([.s]))), (5, .box (rB 5 ([])))] }
noncomputable def A53x0x63002 (L : List Lf) : List (Bool × (Ex × St)) := bnd (J53x0x63002 N L (fun p => p)) fun q => [(true, (.normal, ⟨[(103, .c (.b q))], []⟩))]
theorem raw53x0x63002 (L : List Lf) : pc Try.prog (T83x0 N) (h53x0s9 N).h 0 100 53 63002 sh53x0x63002 L [103] [] = J53x0x63002 N L (fun p => some (.normal, ⟨[(103, .c (.b p))], []⟩)) := by kernel_rfl
noncomputable def h53x0s10 : Sg Try.prog 0 53 :=
  (h53x0s9 N).cut (A53x0x63002 N) progOk (T83x0_ok N) fun L x hx => (raw53x0x63002 N L).trans ((tot53x0x63002 N ..).trans (alt0 _ _ hx))
noncomputable def F53x0x60002 (w0 : Bool) (w4 w5 : Int) (w6 : LB) (w9 w10 w11 : Bool) (k0 : Bool → R) : R :=
  bif w0 then
    k0 true
  else
    bnd (V53x0x63002 N (bif (!w9) then (w4 != 0) else false) w5 w6 w10 w11) fun y0 =>
    k0 y0
noncomputable def V53x0x60002 (w0 : Bool) (w4 w5 : Int) (w6 : LB) (w9 w10 w11 : Bool) : Bool := F53x0x60002 N w0 w4 w5 w6 w9 w10 w11 (fun p => p)
theorem tot53x0x60002 (w0 : Bool) (w4 w5 : Int) (w6 : LB) (w9 w10 w11 : Bool) (k0 : Bool → R) : F53x0x60002 N w0 w4 w5 w6 w9 w10 w11 k0 = k0 (V53x0x60002 N w0 w4 w5 w6 w9 w10 w11) := by
  unfold V53x0x60002 F53x0x60002
  repeat' (first | rfl | apply cond_k | (apply bnd_k; intro _))
noncomputable def J53x0x60002 (L : List Lf) (k0 : Bool → R) : R := F53x0x60002 N (lb L 0) (li L 4) (li L 5) (ls L 6) (lb L 9) (lb L 10) (lb L 11) k0
noncomputable def sh53x0x60002 : Sh := { tmps := [(3, .c (.p 3 0)), (5, .c (.p 5 0)), (103, .c (.b))], mem := [(3, .box (rI 5 ([.s]))), (5, .box (rB 5 ([])))] }
noncomputable def A53x0x60002 (L : List Lf) : List (Bool × (Ex × St)) := bnd (J53x0x60002 N L (fun p => p)) fun q => [(true, (.normal, ⟨[(103, .c (.b q))], []⟩))]
theorem raw53x0x60002 (L : List Lf) : pc Try.prog (T83x0 N) (h53x0s10 N).h 0 100 53 60002 sh53x0x60002 L [103] [] = J53x0x60002 N L (fun p => some (.normal, ⟨[(103, .c (.b p))], []⟩)) := by kernel_rfl
noncomputable def h53x0s11 : Sg Try.prog 0 53 :=
  (h53x0s10 N).cut (A53x0x60002 N) progOk (T83x0_ok N) fun L x hx => (raw53x0x60002 N L).trans ((tot53x0x60002 N ..).trans (alt0 _ _ hx))
noncomputable def F53x0x57002 (w0 : Bool) (w3 w4 w5 : Int) (w6 : LB) (w8 w9 w10 w11 : Bool) (k0 : Bool → R) : R :=
  bif w0 then
    k0 true
  else
    bnd (V53x0x60002 N (bif (!w8) then (w3 != 0) else false) w4 w5 w6 w9 w10 w11) fun y0 =>
    k0 y0
noncomputable def V53x0x57002 (w0 : Bool) (w3 w4 w5 : Int) (w6 : LB) (w8 w9 w10 w11 : Bool) : Bool := F53x0x57002 N w0 w3 w4 w5 w6 w8 w9 w10 w11 (fun p => p)
theorem tot53x0x57002 (w0 : Bool) (w3 w4 w5 : Int) (w6 : LB) (w8 w9 w10 w11 : Bool) (k0 : Bool → R) : F53x0x57002 N w0 w3 w4 w5 w6 w8 w9 w10 w11 k0 = k0 (V53x0x57002 N w0 w3 w4 w5 w6 w8 w9 w10 w11) := by
  unfold V53x0x57002 F53x0x57002
  repeat' (first | rfl | apply cond_k | (apply bnd_k; intro _))
noncomputable def J53x0x57002 (L : List Lf) (k0 : Bool → R) : R := F53x0x57002 N (lb L 0) (li L 3) (li L 4) (li L 5) (ls L 6) (lb L 8) (lb L 9) (lb L 10) (lb L 11) k0
noncomputable def sh53x0x57002 : Sh := { tmps := [(3, .c (.p 3 0)), (5, .c (.p 5 0)), (103, .c (.b))], mem := [(3, .box (rI 5 ([.s]))), (5, .box (rB 5 ([])))] }
noncomputable def A53x0x57002 (L : List Lf) : List (Bool × (Ex × St)) := bnd (J53x0x57002 N L (fun p => p)) fun q => [(true, (.normal, ⟨[(103, .c (.b q))], []⟩))]
theorem raw53x0x57002 (L : List Lf) : pc Try.prog (T83x0 N) (h53x0s11 N).h 0 100 53 57002 sh53x0x57002 L [103] [] = J53x0x57002 N L (fun p => some (.normal, ⟨[(103, .c (.b p))], []⟩)) := by kernel_rfl
noncomputable def h53x0s12 : Sg Try.prog 0 53 :=
  (h53x0s11 N).cut (A53x0x57002 N) progOk (T83x0_ok N) fun L x hx => (raw53x0x57002 N L).trans ((tot53x0x57002 N ..).trans (alt0 _ _ hx))
noncomputable def F53x0 (v1 : Int) (v4 : LD) (v7 v8 v9 v10 v11 : Int) (v12 : LB) (k0 : Int → Option R) : Option R :=
  bnd (V48x0 N v7 1 9) fun y0 =>
  bif (!y0) then
    k0 7
  else
    bnd (V83x0 N v7) fun y1 =>
    bnd (V53x0x20 N 6 (bif (v7 == 8) then true else (v7 == 9)) v1) fun y2 =>
    bnd (V53x0x26 N 0 100000 (v7 == 5)) fun y3 =>
    bnd (bif (decide (v10 ≥ 0)) then (decide (v10 ≤ v11)) else false) fun y4 =>
    bnd (V53x0x31 N y2 v8 y1.1) fun y5 =>
    bnd (V53x0x33002 N y3.1 y3.2 y5 v9 y1.2.1) fun y6 =>
    bif y6 then
      k0 9
    else
      bnd (bif (v7 == 6) then (!(bif y4 then (decide (v11 ≤ 7)) else false)) else false) fun y7 =>
      bnd (V53x0x42002 N y7 v7 v10) fun y8 =>
      bif y8 then
        k0 9
      else
        bnd (G53x0x49 N v4 v7 v12 y1.2.2.2.2) fun y9 =>
        bif y9.isSome then
          bif (y9.getD default) then
            k0 4
          else
            bnd (V53x0x57002 N (bif (!y1.1) then (v8 != 0) else false) v9 v10 v11 v12 y1.2.1 y1.2.2.1 y1.2.2.2.1 y1.2.2.2.2) fun y10 =>
            bif y10 then
              k0 2
            else
              k0 0
        else
          none
noncomputable def G53x0 (v1 : Int) (v4 : LD) (v7 v8 v9 v10 v11 : Int) (v12 : LB) : Option (Int) := F53x0 N v1 v4 v7 v8 v9 v10 v11 v12 (fun p => some p)
theorem bind53x0 (v1 : Int) (v4 : LD) (v7 v8 v9 v10 v11 : Int) (v12 : LB) (k0 : Int → Option R) : F53x0 N v1 v4 v7 v8 v9 v10 v11 v12 k0 = (G53x0 N v1 v4 v7 v8 v9 v10 v11 v12).bind k0 := by
  unfold G53x0 F53x0
  repeat' (first | rfl | apply cond_b | (apply bnd_b; intro _))
noncomputable def J53x0 (L : List Lf) (k0 : Int → Option R) : Option R := F53x0 N (li L 1) (ll L 4) (li L 7) (li L 8) (li L 9) (li L 10) (li L 11) (ls L 12) k0
noncomputable def sh53x0 : Sh := { tmps := [(0, .g ([.i .i64, .i .i64, .i .i64, .sl 66, .sl 68])), (1, .g (rI 5 ([.s])))], mem := [] }
noncomputable def A53x0 (L : List Lf) : List (Bool × Res) := bnd (J53x0 N L (fun p => some p)) fun q => [(q.isSome, ([.c (.i .i64 (q.getD default))], []))]
theorem raw53x0 (L : List Lf) : bd Try.prog (T83x0 N) (h53x0s12 N).h 53 sh53x0 L = J53x0 N L (fun p => some ([.c (.i .i64 p)], [])) := by kernel_rfl
theorem ok53x0 : FnOk Try.prog 53 sh53x0 (A53x0 N) :=
  (h53x0s12 N).fn progOk (T83x0_ok N) fun L x hx => ((raw53x0 N L).trans ((bind53x0 N ..).trans (alt1 x hx)))
noncomputable def T53x0 : Oracle := ext 53 (spSh sh53x0 (A53x0 N)) (T83x0 N)
theorem T53x0_ok : OracleOk Try.prog (T53x0 N) := FnOk.to (ok53x0 N) (T83x0_ok N)
noncomputable def rg19x0 : List (Nat × List Nat) := [(0, [0]), (1, [1]), (3, [1]), (4, []), (2, []), (5, [1]), (6, [39, 38, 37, 1]), (7, [39, 37, 1, 38]), (8, [4, 1, 3, 39, 38, 37]), (10, [1, 4, 3, 39, 38, 37]), (12, [4, 39, 38, 37, 1]), (13, []), (11, []), (9, []), (14, [39, 38, 37, 1]), (15, [1]), (16, [77, 76, 75, 1]), (17, [75, 77, 1, 76]), (18, [1, 6, 77, 76, 75]), (19, [7, 77, 76, 75, 1]), (20, [7]), (21, [77, 76, 75, 1]), (22, [])]
noncomputable def hd19x0 : Hints := [(4, [1], [1], []), (18, [39, 38, 37, 1], [1], []), (37, [4, 39, 38, 37, 1], [4, 1], []), (48, [77, 76, 75, 1], [1], [])]
noncomputable def h19x0s0 (N : Nat) : Sg Try.prog 0 19 := .start hd19x0 rg19x0
noncomputable def F19x0x4 (w0 w1 w2 : Int) (k0 : Bool → R) : R :=
  bnd (V48x0 N w0 0 999985) fun y0 =>
  bif (!y0) then
    k0 true
  else
    bnd (V48x0 N w1 1 14) fun y1 =>
    bif (!y1) then
      k0 true
    else
      bnd (V48x0 N w2 0 100000) fun y2 =>
      k0 (!y2)
noncomputable def V19x0x4 (w0 w1 w2 : Int) : Bool := F19x0x4 N w0 w1 w2 (fun p => p)
theorem tot19x0x4 (w0 w1 w2 : Int) (k0 : Bool → R) : F19x0x4 N w0 w1 w2 k0 = k0 (V19x0x4 N w0 w1 w2) := by
  unfold V19x0x4 F19x0x4
  repeat' (first | rfl | apply cond_k | (apply bnd_k; intro _))
noncomputable def sh19x0x4 : Sh := { tmps := [(1, .c (.p 1 0))], mem := [(1, .box ([.i .i64, .i .i64, .i .i64, .sl 66, .sl 68]))] }
noncomputable def K19x0x4w0 (L : List Lf) (p : Bool) : Ex × St := (.normal, mg (ofSh sh19x0x4 L) [1, 8] [(8, .c (.b p))] [1] [])
noncomputable def A19x0x4 (L : List Lf) : List (Bool × (Ex × St)) := bnd (F19x0x4 N (li L 0) (li L 1) (li L 2) (fun p => p)) fun q => [(true, K19x0x4w0 L q)]
theorem raw19x0x4 (L : List Lf) : pc Try.prog (T53x0 N) (h19x0s0 N).h 0 100 19 4 sh19x0x4 L [1, 8] [1] = F19x0x4 N (li L 0) (li L 1) (li L 2) (fun p => some (K19x0x4w0 L p)) := by kernel_rfl
noncomputable def h19x0s1 : Sg Try.prog 0 19 :=
  (h19x0s0 N).cut (A19x0x4 N) progOk (T53x0_ok N) fun L x hx => (raw19x0x4 N L).trans ((tot19x0x4 N ..).trans (alt0 _ _ hx))
noncomputable def F19x0x37 (w12 w13 w14 : Int) (k0 : Bool → R) : R :=
  bnd (V48x0 N w12 0 1000) fun y0 =>
  bif (!y0) then
    k0 true
  else
    bnd (V48x0 N w13 0 1000) fun y1 =>
    bif (!y1) then
      k0 true
    else
      bnd (V48x0 N w14 0 1000) fun y2 =>
      k0 (!y2)
noncomputable def V19x0x37 (w12 w13 w14 : Int) : Bool := F19x0x37 N w12 w13 w14 (fun p => p)
theorem tot19x0x37 (w12 w13 w14 : Int) (k0 : Bool → R) : F19x0x37 N w12 w13 w14 k0 = k0 (V19x0x37 N w12 w13 w14) := by
  unfold V19x0x37 F19x0x37
  repeat' (first | rfl | apply cond_k | (apply bnd_k; intro _))
noncomputable def sh19x0x37 : Sh := { tmps := [(1, .c (.p 1 0)), (4, .c (.p 4 0)), (37, .c (.sl 66)), (38, .c (.i .i64)), (39, .c (.i .i64))], mem := [(1, .box ([.i .i64, .i .i64, .i .i64, .sl 66, .sl 68])), (4, .box ([.s, .i .i64, .i .i64, .i .i64, .b]))] }
noncomputable def K19x0x37w0 (L : List Lf) (p : Bool) : Ex × St := (.normal, mg (ofSh sh19x0x37 L) [1, 37, 38, 39, 56] [(56, .c (.b p))] [1] [])
noncomputable def A19x0x37 (L : List Lf) : List (Bool × (Ex × St)) := bnd (F19x0x37 N (li L 12) (li L 13) (li L 14) (fun p => p)) fun q => [(true, K19x0x37w0 L q)]
theorem raw19x0x37 (L : List Lf) : pc Try.prog (T53x0 N) (h19x0s1 N).h 0 100 19 37 sh19x0x37 L [39, 38, 37, 1, 56] [1] = F19x0x37 N (li L 12) (li L 13) (li L 14) (fun p => some (K19x0x37w0 L p)) := by kernel_rfl
noncomputable def h19x0s2 : Sg Try.prog 0 19 :=
  (h19x0s1 N).cut (A19x0x37 N) progOk (T53x0_ok N) fun L x hx => (raw19x0x37 N L).trans ((tot19x0x37 N ..).trans (alt0 _ _ hx))
noncomputable def S19x0x18 (w1 : LD) (w2 : Int) (w8 : LD) (w3 : Int) (kr : Int → Option R) (k0 : Int → Option R) (k1 : Unit → Option R) : Option R :=
  bif (decide (w3 < w2)) then
    bif (inB w3 w1.length) then
      bnd (G51x0 N ((w1.getD w3.toNat (.i 0)).cell 0).toS) fun y0 =>
      bif y0.isSome then
        bif (!(y0.getD default)) then
          k0 8
        else
          bnd (G52x0 N w8 ((w1.getD w3.toNat (.i 0)).cell 0).toS) fun y1 =>
          bif y1.isSome then
            bif (decide ((y1.getD default) < w3)) then
              k0 5
            else
              bnd (V19x0x37 N ((w1.getD w3.toNat (.i 0)).cell 1).toI ((w1.getD w3.toNat (.i 0)).cell 2).toI ((w1.getD w3.toNat (.i 0)).cell 3).toI) fun y2 =>
              bif y2 then
                k0 9
              else
                kr (IntKind.wrap .i64 (w3 + 1))
          else
            none
      else
        none
    else
      none
  else
    k1 ()
noncomputable def L19x0x18 (N : Nat) {R : Type} (w1 : LD) (w2 : Int) (w8 : LD) : Nat → Int → (Int → Option R) → (Unit → Option R) → Option R
  | 0, _, _, _ => none
  | m + 1, w3, k0, k1 => S19x0x18 N w1 w2 w8 w3 (fun w3 => L19x0x18 N w1 w2 w8 m w3 k0 k1) k0 k1
noncomputable def G19x0x18 (w1 : LD) (w2 : Int) (w8 : LD) (w3 : Int) : Option (Sum (Int) (Unit)) := L19x0x18 N (R := (Sum (Int) (Unit))) w1 w2 w8 N w3 (fun p => some (.inl p)) (fun p => some (.inr p))
noncomputable def J19x0x18 (L x : List Lf) (kr : List Lf → Option R) (k0 : Int → Option R) (k1 : Unit → Option R) : Option R := S19x0x18 N (ll L 1) (li L 2) (ll L 8) (li x 0) (fun w3 => kr [.i w3]) k0 k1
theorem sb19x0x18 (L x : List Lf) (kr : List Lf → Option R) (k0 : Int → Option R) (k1 : Unit → Option R) : J19x0x18 N L x kr k0 k1 = (J19x0x18 N L x (fun y => some (.inl y)) (fun p => some (.inr (.inl p))) (fun p => some (.inr (.inr p)))).bind (sumE kr (sumE k0 k1)) := by
  unfold J19x0x18 S19x0x18
  repeat' (first | rfl | apply cond_b | (apply bnd_b; intro _))
noncomputable def Q19x0x18 (L : List Lf) (m : Nat) (x : List Lf) : Option (Sum (Int) (Unit)) := L19x0x18 N (R := (Sum (Int) (Unit))) (ll L 1) (li L 2) (ll L 8) m (li x 0) (fun p => some (.inl p)) (fun p => some (.inr p))
noncomputable def sh19x0x18 : Sh := { tmps := [(1, .c (.p 1 0)), (37, .c (.sl 66)), (38, .c (.i .i64)), (39, .c (.i .i64))], mem := [(1, .box ([.i .i64, .i .i64, .i .i64, .sl 66, .sl 68]))] }
noncomputable def K19x0x18w0 (L : List Lf) (p : Int) : Ex × St := (.ret, mg (ofSh sh19x0x18 L) [2] [(2, .c (.i .i64 p))] [1] [])
noncomputable def A19x0x18 (L : List Lf) : List (Bool × (Ex × St)) := bnd (Q19x0x18 N L N (pk sh19x0x18 [3] L)) fun q => [((inlB q), K19x0x18w0 L (inlV q)), ((inrQ q).isSome, ((.exit 1), mg (ofSh sh19x0x18 L) [1] [] [1] []))]
theorem step19x0x18 (m : Nat) (kn : St → Option (Ex × St)) (L x : List Lf) : lpB Try.prog (T53x0 N) (h19x0s2 N).h 0 19 18 sh19x0x18 [3] [2, 1] [1] (m + 100) kn L x = J19x0x18 N L x (fun y => kn (ofSh sh19x0x18 (mx sh19x0x18 [3] L y))) (fun p => some (K19x0x18w0 L p)) (fun _ => some ((.exit 1), mg (ofSh sh19x0x18 L) [1] [] [1] [])) := by kernel_rfl
noncomputable def h19x0s3 : Sg Try.prog 0 19 :=
  (h19x0s2 N).lp (A19x0x18 N) N progOk (T53x0_ok N) (fun m kn L x => (step19x0x18 N m kn L x).trans (sb19x0x18 N L x _ _ _)) (fun L m x => sb19x0x18 N L x (Q19x0x18 N L m) (fun p => some (.inl p)) (fun p => some (.inr p))) fun L x hx => (altS alt1) x hx
noncomputable def S19x0x48 (w1 : LD) (w2 w5 : Int) (w8 : LD) (w3 : Int) (kr : Int → Option R) (k0 : Int → Option R) (k1 : Unit → Option R) : Option R :=
  bif (decide (w3 < w2)) then
    bif (inB w3 w1.length) then
      bnd (G53x0 N w5 w8 ((w1.getD w3.toNat (.i 0)).cell 0).toI ((w1.getD w3.toNat (.i 0)).cell 1).toI ((w1.getD w3.toNat (.i 0)).cell 2).toI ((w1.getD w3.toNat (.i 0)).cell 3).toI ((w1.getD w3.toNat (.i 0)).cell 4).toI ((w1.getD w3.toNat (.i 0)).cell 5).toS) fun y0 =>
      bif y0.isSome then
        bif ((y0.getD default) != 0) then
          k0 (y0.getD default)
        else
          kr (IntKind.wrap .i64 (w3 + 1))
      else
        none
    else
      none
  else
    k1 ()
noncomputable def L19x0x48 (N : Nat) {R : Type} (w1 : LD) (w2 w5 : Int) (w8 : LD) : Nat → Int → (Int → Option R) → (Unit → Option R) → Option R
  | 0, _, _, _ => none
  | m + 1, w3, k0, k1 => S19x0x48 N w1 w2 w5 w8 w3 (fun w3 => L19x0x48 N w1 w2 w5 w8 m w3 k0 k1) k0 k1
noncomputable def G19x0x48 (w1 : LD) (w2 w5 : Int) (w8 : LD) (w3 : Int) : Option (Sum (Int) (Unit)) := L19x0x48 N (R := (Sum (Int) (Unit))) w1 w2 w5 w8 N w3 (fun p => some (.inl p)) (fun p => some (.inr p))
noncomputable def J19x0x48 (L x : List Lf) (kr : List Lf → Option R) (k0 : Int → Option R) (k1 : Unit → Option R) : Option R := S19x0x48 N (ll L 1) (li L 2) (li L 5) (ll L 8) (li x 0) (fun w3 => kr [.i w3]) k0 k1
theorem sb19x0x48 (L x : List Lf) (kr : List Lf → Option R) (k0 : Int → Option R) (k1 : Unit → Option R) : J19x0x48 N L x kr k0 k1 = (J19x0x48 N L x (fun y => some (.inl y)) (fun p => some (.inr (.inl p))) (fun p => some (.inr (.inr p)))).bind (sumE kr (sumE k0 k1)) := by
  unfold J19x0x48 S19x0x48
  repeat' (first | rfl | apply cond_b | (apply bnd_b; intro _))
noncomputable def Q19x0x48 (L : List Lf) (m : Nat) (x : List Lf) : Option (Sum (Int) (Unit)) := L19x0x48 N (R := (Sum (Int) (Unit))) (ll L 1) (li L 2) (li L 5) (ll L 8) m (li x 0) (fun p => some (.inl p)) (fun p => some (.inr p))
noncomputable def sh19x0x48 : Sh := { tmps := [(1, .c (.p 1 0)), (75, .c (.sl 68)), (76, .c (.i .i64)), (77, .c (.i .i64))], mem := [(1, .box ([.i .i64, .i .i64, .i .i64, .sl 66, .sl 68]))] }
noncomputable def A19x0x48 (L : List Lf) : List (Bool × (Ex × St)) := bnd (Q19x0x48 N L N (pk sh19x0x48 [3] L)) fun q => [((inlB q), (.ret, ⟨[(2, .c (.i .i64 (inlV q)))], []⟩)), ((inrQ q).isSome, ((.exit 4), ⟨[], []⟩))]
theorem step19x0x48 (m : Nat) (kn : St → Option (Ex × St)) (L x : List Lf) : lpB Try.prog (T53x0 N) (h19x0s3 N).h 0 19 48 sh19x0x48 [3] [2] [] (m + 100) kn L x = J19x0x48 N L x (fun y => kn (ofSh sh19x0x48 (mx sh19x0x48 [3] L y))) (fun p => some (.ret, ⟨[(2, .c (.i .i64 p))], []⟩)) (fun _ => some ((.exit 4), ⟨[], []⟩)) := by kernel_rfl
noncomputable def h19x0s4 : Sg Try.prog 0 19 :=
  (h19x0s3 N).lp (A19x0x48 N) N progOk (T53x0_ok N) (fun m kn L x => (step19x0x48 N m kn L x).trans (sb19x0x48 N L x _ _ _)) (fun L m x => sb19x0x48 N L x (Q19x0x48 N L m) (fun p => some (.inl p)) (fun p => some (.inr p))) fun L x hx => (altS alt1) x hx
noncomputable def F19x0 (v0 v1 v2 : Int) (v4 v6 : LD) (k0 : Int → Option R) : Option R :=
  bnd (V19x0x4 N v0 v1 v2) fun y0 =>
  bif y0 then
    k0 9
  else
    bnd (bif (decide ((v4.length : Int) > 4)) then true else (decide ((v6.length : Int) > 12))) fun y1 =>
    bif y1 then
      k0 3
    else
      bnd (G19x0x18 N v4 (v4.length : Int) v4 0) fun y2 =>
      bif (inlB y2) then
        k0 (inlV y2)
      else
        bif (inrQ y2).isSome then
          bnd (G19x0x48 N v6 (v6.length : Int) v1 v4 0) fun y3 =>
          bif (inlB y3) then
            k0 (inlV y3)
          else
            bif (inrQ y3).isSome then
              k0 0
            else
              none
        else
          none
noncomputable def G19x0 (v0 v1 v2 : Int) (v4 v6 : LD) : Option (Int) := F19x0 N v0 v1 v2 v4 v6 (fun p => some p)
theorem bind19x0 (v0 v1 v2 : Int) (v4 v6 : LD) (k0 : Int → Option R) : F19x0 N v0 v1 v2 v4 v6 k0 = (G19x0 N v0 v1 v2 v4 v6).bind k0 := by
  unfold G19x0 F19x0
  repeat' (first | rfl | apply cond_b | (apply bnd_b; intro _))
noncomputable def J19x0 (L : List Lf) (k0 : Int → Option R) : Option R := F19x0 N (li L 0) (li L 1) (li L 2) (ll L 4) (ll L 6) k0
noncomputable def sh19x0 : Sh := { tmps := [(0, .g ([.i .i64, .i .i64, .i .i64, .sl 66, .sl 68]))], mem := [] }
noncomputable def A19x0 (L : List Lf) : List (Bool × Res) := bnd (J19x0 N L (fun p => some p)) fun q => [(q.isSome, ([.c (.i .i64 (q.getD default))], []))]
theorem raw19x0 (L : List Lf) : bd Try.prog (T53x0 N) (h19x0s4 N).h 19 sh19x0 L = J19x0 N L (fun p => some ([.c (.i .i64 p)], [])) := by kernel_rfl
theorem ok19x0 : FnOk Try.prog 19 sh19x0 (A19x0 N) :=
  (h19x0s4 N).fn progOk (T53x0_ok N) fun L x hx => ((raw19x0 N L).trans ((bind19x0 N ..).trans (alt1 x hx)))
noncomputable def T19x0 : Oracle := ext 19 (spSh sh19x0 (A19x0 N)) (T53x0 N)
theorem T19x0_ok : OracleOk Try.prog (T19x0 N) := FnOk.to (ok19x0 N) (T53x0_ok N)
noncomputable def rg94x0 : List (Nat × List Nat) := [(0, [0, 1]), (1, [0, 1])]
noncomputable def hd94x0 : Hints := []
noncomputable def h94x0s0 (N : Nat) : Sg Try.prog 1 94 := .start hd94x0 rg94x0
noncomputable def F94x0 (v0 : Int) (v5 : LD) (k0 : Bool → R) : R :=
  bnd (V48x0 N v0 (-1) (IntKind.wrap .i64 ((v5.length : Int) - 1))) fun y0 =>
  k0 (!y0)
noncomputable def V94x0 (v0 : Int) (v5 : LD) : Bool := F94x0 N v0 v5 (fun p => p)
theorem tot94x0 (v0 : Int) (v5 : LD) (k0 : Bool → R) : F94x0 N v0 v5 k0 = k0 (V94x0 N v0 v5) := by
  unfold V94x0 F94x0
  repeat' (first | rfl | apply cond_k | (apply bnd_k; intro _))
noncomputable def sh94x0 : Sh := { tmps := [(0, .c (.i .i64)), (1, .c (.p 0 0))], mem := [(0, .box ([.i .i64, .i .i64, .i .i64, .sl 66, .sl 68]))] }
noncomputable def A94x0 (L : List Lf) : List (Bool × Res) := bnd (F94x0 N (li L 0) (ll L 5) (fun p => p)) fun q => [(true, ([.c (.b q)], mgA (ofSh sh94x0 L).mem [] [0]))]
theorem raw94x0 (L : List Lf) : bd Try.prog (T19x0 N) (h94x0s0 N).h 94 sh94x0 L = F94x0 N (li L 0) (ll L 5) (fun p => some ([.c (.b p)], mgA (ofSh sh94x0 L).mem [] [0])) := by kernel_rfl
theorem ok94x0 : FnOk Try.prog 94 sh94x0 (A94x0 N) :=
  (h94x0s0 N).fn progOk (T19x0_ok N) fun L x hx => ((raw94x0 N L).trans ((tot94x0 N ..).trans (alt0 _ _ hx)))
noncomputable def T94x0 : Oracle := ext 94 (spSh sh94x0 (A94x0 N)) (T19x0 N)
theorem T94x0_ok : OracleOk Try.prog (T94x0 N) := FnOk.to (ok94x0 N) (T19x0_ok N)
noncomputable def rg86x1 : List (Nat × List Nat) := [(0, [0, 1]), (1, [0, 1]), (2, [8, 7, 1, 0]), (3, [8, 1, 0, 7]), (4, [1, 0, 5, 8, 7]), (5, [5]), (6, [8, 7, 1, 0]), (7, [])]
noncomputable def hd86x1 : Hints := [(6, [8, 7, 1, 0], [0], [])]
noncomputable def h86x1s0 (N : Nat) : Sg Try.prog 1 86 := .start hd86x1 rg86x1
noncomputable def S86x1x6 (w1 : LD) (w2 : Int) (w8 : LD) (w3 : Int) (kr : Int → Option R) (k0 : Int → Option R) (k1 : Unit → Option R) : Option R :=
  bif (decide (w3 < w2)) then
    bif (inB w3 w1.length) then
      bnd (V94x0 N (w1.getD w3.toNat (.i 0)).toI w8) fun y0 =>
      bif y0 then
        k0 w3
      else
        kr (IntKind.wrap .i64 (w3 + 1))
    else
      none
  else
    k1 ()
noncomputable def L86x1x6 (N : Nat) {R : Type} (w1 : LD) (w2 : Int) (w8 : LD) : Nat → Int → (Int → Option R) → (Unit → Option R) → Option R
  | 0, _, _, _ => none
  | m + 1, w3, k0, k1 => S86x1x6 N w1 w2 w8 w3 (fun w3 => L86x1x6 N w1 w2 w8 m w3 k0 k1) k0 k1
noncomputable def G86x1x6 (w1 : LD) (w2 : Int) (w8 : LD) (w3 : Int) : Option (Sum (Int) (Unit)) := L86x1x6 N (R := (Sum (Int) (Unit))) w1 w2 w8 N w3 (fun p => some (.inl p)) (fun p => some (.inr p))
noncomputable def J86x1x6 (L x : List Lf) (kr : List Lf → Option R) (k0 : Int → Option R) (k1 : Unit → Option R) : Option R := S86x1x6 N (ll L 1) (li L 2) (ll L 8) (li x 0) (fun w3 => kr [.i w3]) k0 k1
theorem sb86x1x6 (L x : List Lf) (kr : List Lf → Option R) (k0 : Int → Option R) (k1 : Unit → Option R) : J86x1x6 N L x kr k0 k1 = (J86x1x6 N L x (fun y => some (.inl y)) (fun p => some (.inr (.inl p))) (fun p => some (.inr (.inr p)))).bind (sumE kr (sumE k0 k1)) := by
  unfold J86x1x6 S86x1x6
  repeat' (first | rfl | apply cond_b | (apply bnd_b; intro _))
noncomputable def Q86x1x6 (L : List Lf) (m : Nat) (x : List Lf) : Option (Sum (Int) (Unit)) := L86x1x6 N (R := (Sum (Int) (Unit))) (ll L 1) (li L 2) (ll L 8) m (li x 0) (fun p => some (.inl p)) (fun p => some (.inr p))
noncomputable def sh86x1x6 : Sh := { tmps := [(0, .c (.sl 3)), (1, .c (.f 94 [(0, 0)])), (7, .c (.i .i64)), (8, .c (.i .i64))], mem := [(0, .box ([.i .i64, .i .i64, .i .i64, .sl 66, .sl 68]))] }
noncomputable def K86x1x6w0 (L : List Lf) (p : Int) : Ex × St := (.ret, mg (ofSh sh86x1x6 L) [4] [(4, .c (.i .i64 p))] [0] [])
noncomputable def A86x1x6 (L : List Lf) : List (Bool × (Ex × St)) := bnd (Q86x1x6 N L N (pk sh86x1x6 [3] L)) fun q => [((inlB q), K86x1x6w0 L (inlV q)), ((inrQ q).isSome, ((.exit 0), mg (ofSh sh86x1x6 L) [] [] [0] []))]
theorem step86x1x6 (m : Nat) (kn : St → Option (Ex × St)) (L x : List Lf) : lpB Try.prog (T94x0 N) (h86x1s0 N).h 1 86 6 sh86x1x6 [3] [4] [0] (m + 100) kn L x = J86x1x6 N L x (fun y => kn (ofSh sh86x1x6 (mx sh86x1x6 [3] L y))) (fun p => some (K86x1x6w0 L p)) (fun _ => some ((.exit 0), mg (ofSh sh86x1x6 L) [] [] [0] [])) := by kernel_rfl
noncomputable def h86x1s1 : Sg Try.prog 1 86 :=
  (h86x1s0 N).lp (A86x1x6 N) N progOk (T94x0_ok N) (fun m kn L x => (step86x1x6 N m kn L x).trans (sb86x1x6 N L x _ _ _)) (fun L m x => sb86x1x6 N L x (Q86x1x6 N L m) (fun p => some (.inl p)) (fun p => some (.inr p))) fun L x hx => (altS alt1) x hx
noncomputable def F86x1 (v1 v6 : LD) (k0 : Int → Option R) : Option R :=
  bnd (G86x1x6 N v1 (v1.length : Int) v6 0) fun y0 =>
  bif (inlB y0) then
    k0 (inlV y0)
  else
    bif (inrQ y0).isSome then
      k0 (-1)
    else
      none
noncomputable def G86x1 (v1 v6 : LD) : Option (Int) := F86x1 N v1 v6 (fun p => some p)
theorem bind86x1 (v1 v6 : LD) (k0 : Int → Option R) : F86x1 N v1 v6 k0 = (G86x1 N v1 v6).bind k0 := by
  unfold G86x1 F86x1
  repeat' (first | rfl | apply cond_b | (apply bnd_b; intro _))
noncomputable def sh86x1 : Sh := { tmps := [(0, .c (.sl 3)), (1, .c (.f 94 [(0, 0)]))], mem := [(0, .box ([.i .i64, .i .i64, .i .i64, .sl 66, .sl 68]))] }
noncomputable def A86x1 (L : List Lf) : List (Bool × Res) := bnd (F86x1 N (ll L 1) (ll L 6) (fun p => some p)) fun q => [(q.isSome, ([.c (.i .i64 (q.getD default))], mgA (ofSh sh86x1 L).mem [] [0]))]
theorem raw86x1 (L : List Lf) : bd Try.prog (T94x0 N) (h86x1s1 N).h 86 sh86x1 L = F86x1 N (ll L 1) (ll L 6) (fun p => some ([.c (.i .i64 p)], mgA (ofSh sh86x1 L).mem [] [0])) := by kernel_rfl
theorem ok86x1 : FnOk Try.prog 86 sh86x1 (A86x1 N) :=
  (h86x1s1 N).fn progOk (T94x0_ok N) fun L x hx => ((raw86x1 N L).trans ((bind86x1 N ..).trans (alt1 x hx)))
noncomputable def T86x1 : Oracle := ext 86 (spSh sh86x1 (A86x1 N)) (T94x0 N)
theorem T86x1_ok : OracleOk Try.prog (T86x1 N) := FnOk.to (ok86x1 N) (T94x0_ok N)
noncomputable def rg65x1 : List (Nat × List Nat) := [(0, [0, 1]), (1, [0, 1])]
noncomputable def hd65x1 : Hints := []
noncomputable def h65x1s0 (N : Nat) : Sg Try.prog 1 65 := .start hd65x1 rg65x1
noncomputable def F65x1 (v1 v6 : LD) (k0 : Bool → Option R) : Option R :=
  bnd (G86x1 N v1 v6) fun y0 =>
  bif y0.isSome then
    k0 (decide ((y0.getD default) ≥ 0))
  else
    none
noncomputable def G65x1 (v1 v6 : LD) : Option (Bool) := F65x1 N v1 v6 (fun p => some p)
theorem bind65x1 (v1 v6 : LD) (k0 : Bool → Option R) : F65x1 N v1 v6 k0 = (G65x1 N v1 v6).bind k0 := by
  unfold G65x1 F65x1
  repeat' (first | rfl | apply cond_b | (apply bnd_b; intro _))
noncomputable def sh65x1 : Sh := { tmps := [(0, .c (.sl 3)), (1, .c (.f 94 [(0, 0)]))], mem := [(0, .box ([.i .i64, .i .i64, .i .i64, .sl 66, .sl 68]))] }
noncomputable def A65x1 (L : List Lf) : List (Bool × Res) := bnd (F65x1 N (ll L 1) (ll L 6) (fun p => some p)) fun q => [(q.isSome, ([.c (.b (q.getD default))], mgA (ofSh sh65x1 L).mem [] [0]))]
theorem raw65x1 (L : List Lf) : bd Try.prog (T86x1 N) (h65x1s0 N).h 65 sh65x1 L = F65x1 N (ll L 1) (ll L 6) (fun p => some ([.c (.b p)], mgA (ofSh sh65x1 L).mem [] [0])) := by kernel_rfl
theorem ok65x1 : FnOk Try.prog 65 sh65x1 (A65x1 N) :=
  (h65x1s0 N).fn progOk (T86x1_ok N) fun L x hx => ((raw65x1 N L).trans ((bind65x1 N ..).trans (alt1 x hx)))
noncomputable def T65x1 : Oracle := ext 65 (spSh sh65x1 (A65x1 N)) (T86x1 N)
theorem T65x1_ok : OracleOk Try.prog (T65x1 N) := FnOk.to (ok65x1 N) (T86x1_ok N)
noncomputable def rg77x0 : List (Nat × List Nat) := [(0, [0, 1]), (1, [1, 2])]
noncomputable def hd77x0 : Hints := [(4, [1, 2], [2], [])]
noncomputable def h77x0s0 (N : Nat) : Sg Try.prog 0 77 := .start hd77x0 rg77x0
noncomputable def F77x0x4 (w1 : LD) (w3 : Int) (w6 : LD) (k0 : Bool → Option R) : Option R :=
  bif (decide ((w1.length : Int) ≤ w3)) then
    bnd (G65x1 N w1 w6) fun y0 =>
    bif y0.isSome then
      k0 (!(y0.getD default))
    else
      none
  else
    k0 false
noncomputable def G77x0x4 (w1 : LD) (w3 : Int) (w6 : LD) : Option (Bool) := F77x0x4 N w1 w3 w6 (fun p => some p)
theorem bind77x0x4 (w1 : LD) (w3 : Int) (w6 : LD) (k0 : Bool → Option R) : F77x0x4 N w1 w3 w6 k0 = (G77x0x4 N w1 w3 w6).bind k0 := by
  unfold G77x0x4 F77x0x4
  repeat' (first | rfl | apply cond_b | (apply bnd_b; intro _))
noncomputable def sh77x0x4 : Sh := { tmps := [(1, .c (.sl 3)), (2, .c (.p 2 0))], mem := [(2, .box ([.i .i64, .i .i64, .i .i64, .sl 66, .sl 68]))] }
noncomputable def A77x0x4 (L : List Lf) : List (Bool × (Ex × St)) := bnd (F77x0x4 N (ll L 1) (li L 3) (ll L 6) (fun p => some p)) fun q => [(q.isSome, (.normal, ⟨[(4, .c (.b (q.getD default)))], []⟩))]
theorem raw77x0x4 (L : List Lf) : pc Try.prog (T65x1 N) (h77x0s0 N).h 0 100 77 4 sh77x0x4 L [4] [] = F77x0x4 N (ll L 1) (li L 3) (ll L 6) (fun p => some (.normal, ⟨[(4, .c (.b p))], []⟩)) := by kernel_rfl
noncomputable def h77x0s1 : Sg Try.prog 0 77 :=
  (h77x0s0 N).cut (A77x0x4 N) progOk (T65x1_ok N) fun L x hx => (raw77x0x4 N L).trans ((bind77x0x4 N ..).trans (alt1 x hx))
noncomputable def F77x0 (v1 : Int) (v4 v8 : LD) (k0 : Bool → Option R) : Option R :=
  bnd (G77x0x4 N v8 v1 v4) fun y0 =>
  bif y0.isSome then
    k0 (y0.getD default)
  else
    none
noncomputable def G77x0 (v1 : Int) (v4 v8 : LD) : Option (Bool) := F77x0 N v1 v4 v8 (fun p => some p)
theorem bind77x0 (v1 : Int) (v4 v8 : LD) (k0 : Bool → Option R) : F77x0 N v1 v4 v8 k0 = (G77x0 N v1 v4 v8).bind k0 := by
  unfold G77x0 F77x0
  repeat' (first | rfl | apply cond_b | (apply bnd_b; intro _))
noncomputable def sh77x0 : Sh := { tmps := [(0, .g ([.i .i64, .i .i64, .i .i64, .sl 66, .sl 68])), (1, .c (.sl 3))], mem := [] }
noncomputable def A77x0 (L : List Lf) : List (Bool × Res) := bnd (F77x0 N (li L 1) (ll L 4) (ll L 8) (fun p => some p)) fun q => [(q.isSome, ([.c (.b (q.getD default))], []))]
theorem raw77x0 (L : List Lf) : bd Try.prog (T65x1 N) (h77x0s1 N).h 77 sh77x0 L = F77x0 N (li L 1) (ll L 4) (ll L 8) (fun p => some ([.c (.b p)], [])) := by kernel_rfl
theorem ok77x0 : FnOk Try.prog 77 sh77x0 (A77x0 N) :=
  (h77x0s1 N).fn progOk (T65x1_ok N) fun L x hx => ((raw77x0 N L).trans ((bind77x0 N ..).trans (alt1 x hx)))
noncomputable def T77x0 : Oracle := ext 77 (spSh sh77x0 (A77x0 N)) (T65x1 N)
theorem T77x0_ok : OracleOk Try.prog (T77x0 N) := FnOk.to (ok77x0 N) (T65x1_ok N)
noncomputable def rg46x0 : List (Nat × List Nat) := [(0, [0, 1]), (1, [2, 1]), (2, [5, 2, 1]), (3, [5]), (4, [2, 1]), (5, []), (6, [])]
noncomputable def hd46x0 : Hints := []
noncomputable def h46x0s0 (N : Nat) : Sg Try.prog 0 46 := .start hd46x0 rg46x0
noncomputable def F46x0 (v0 v1 v2 : Int) (v4 v6 v8 : LD) (k0 : Int → Option R) : Option R :=
  bnd (G19x0 N v0 v1 v2 v4 v6) fun y0 =>
  bif y0.isSome then
    bif ((y0.getD default) != 0) then
      k0 (y0.getD default)
    else
      bnd (G77x0 N v1 v4 v8) fun y1 =>
      bif y1.isSome then
        bif (!(y1.getD default)) then
          k0 2
        else
          k0 0
      else
        none
  else
    none
noncomputable def G46x0 (v0 v1 v2 : Int) (v4 v6 v8 : LD) : Option (Int) := F46x0 N v0 v1 v2 v4 v6 v8 (fun p => some p)
theorem bind46x0 (v0 v1 v2 : Int) (v4 v6 v8 : LD) (k0 : Int → Option R) : F46x0 N v0 v1 v2 v4 v6 v8 k0 = (G46x0 N v0 v1 v2 v4 v6 v8).bind k0 := by
  unfold G46x0 F46x0
  repeat' (first | rfl | apply cond_b | (apply bnd_b; intro _))
noncomputable def J46x0 (L : List Lf) (k0 : Int → Option R) : Option R := F46x0 N (li L 0) (li L 1) (li L 2) (ll L 4) (ll L 6) (ll L 8) k0
noncomputable def sh46x0 : Sh := { tmps := [(0, .g ([.i .i64, .i .i64, .i .i64, .sl 66, .sl 68])), (1, .c (.sl 3))], mem := [] }
noncomputable def A46x0 (L : List Lf) : List (Bool × Res) := bnd (J46x0 N L (fun p => some p)) fun q => [(q.isSome, ([.c (.i .i64 (q.getD default))], []))]
theorem raw46x0 (L : List Lf) : bd Try.prog (T77x0 N) (h46x0s0 N).h 46 sh46x0 L = J46x0 N L (fun p => some ([.c (.i .i64 p)], [])) := by kernel_rfl
theorem ok46x0 : FnOk Try.prog 46 sh46x0 (A46x0 N) :=
  (h46x0s0 N).fn progOk (T77x0_ok N) fun L x hx => ((raw46x0 N L).trans ((bind46x0 N ..).trans (alt1 x hx)))
noncomputable def T46x0 : Oracle := ext 46 (spSh sh46x0 (A46x0 N)) (T77x0 N)
theorem T46x0_ok : OracleOk Try.prog (T46x0 N) := FnOk.to (ok46x0 N) (T77x0_ok N)
noncomputable def rg79x0 : List (Nat × List Nat) := [(0, [0]), (1, [0, 2])]
noncomputable def hd79x0 : Hints := []
noncomputable def h79x0s0 (N : Nat) : Sg Try.prog 1 79 := .start hd79x0 rg79x0
noncomputable def F79x0 (N : Nat) (k0 : Unit → R) : R :=
  k0 ()
noncomputable def V79x0 : Unit := F79x0 N (fun p => p)
theorem tot79x0 (k0 : Unit → R) : F79x0 N k0 = k0 (V79x0 N) := by
  unfold V79x0 F79x0
  repeat' (first | rfl | apply cond_k | (apply bnd_k; intro _))
noncomputable def sh79x0 : Sh := { tmps := [(0, .c (.p 0 0))], mem := [(0, .box (.i .i64 :: .i .i64 :: .i .i64 :: .sl 66 :: .sl 68 :: rB 12 ([])))] }
noncomputable def K79x0w0 (L : List Lf) (_ : Unit) : Res := ([.g [.i .i64 0, .i .i64 0, .i .i64 (li L 2), .i .i64 0, .i .i64 0, .i .i64 0, .i .i64 0, .i .i64 0, .i .i64 0, .i .i64 0, .i .i64 0, .i .i64 0, .i .i64 0, .i .i64 0, .i .i64 0, .i .i64 0, .i .i64 0, .i .i64 0, .i .i64 0, .i .i64 0]], mgA (ofSh sh79x0 L).mem [] [0])
noncomputable def A79x0 (N : Nat) (L : List Lf) : List (Bool × Res) := [(true, K79x0w0 L ())]
theorem raw79x0 (L : List Lf) : bd Try.prog (T46x0 N) (h79x0s0 N).h 79 sh79x0 L = F79x0 N (fun _ => some (K79x0w0 L ())) := by kernel_rfl
theorem ok79x0 : FnOk Try.prog 79 sh79x0 (A79x0 N) :=
  (h79x0s0 N).fn progOk (T46x0_ok N) fun L x hx => ((raw79x0 N L).trans ((tot79x0 N ..).trans (alt0 _ _ hx)))
noncomputable def T79x0 : Oracle := ext 79 (spSh sh79x0 (A79x0 N)) (T46x0 N)
theorem T79x0_ok : OracleOk Try.prog (T79x0 N) := FnOk.to (ok79x0 N) (T46x0_ok N)
noncomputable def rg89x0 : List (Nat × List Nat) := [(0, [1, 0]), (1, [1, 0]), (2, [0, 1]), (3, [0])]
noncomputable def hd89x0 : Hints := []
noncomputable def h89x0s0 (N : Nat) : Sg Try.prog 2 89 := .start hd89x0 rg89x0
noncomputable def F89x0 (N : Nat) (v0 : Int) (v5 v21 : LD) (k0 : Int × Int → Option R) : Option R :=
  bif (decide (v0 < (v21.length : Int))) then
    bif (inB v0 v21.length) then
      bif (inB v0 v21.length) then
        k0 ((v21.getD v0.toNat (.i 0)).toI, (v21.getD v0.toNat (.i 0)).toI)
      else
        none
    else
      none
  else
    k0 ((-1), (IntKind.wrap .i64 ((v5.length : Int) - 1)))
noncomputable def G89x0 (v0 : Int) (v5 v21 : LD) : Option (Int × Int) := F89x0 N v0 v5 v21 (fun p => some p)
theorem bind89x0 (v0 : Int) (v5 v21 : LD) (k0 : Int × Int → Option R) : F89x0 N v0 v5 v21 k0 = (G89x0 N v0 v5 v21).bind k0 := by
  unfold G89x0 F89x0
  repeat' (first | rfl | apply cond_b | (apply bnd_b; intro _))
noncomputable def sh89x0 : Sh := { tmps := [(0, .c (.p 0 0)), (1, .c (.i .i64))], mem := [(0, .box (.i .i64 :: .i .i64 :: .i .i64 :: .sl 66 :: .sl 68 :: rB 12 ([.sl 3, .sl 3, .m 1]))), (1, .map 106 59)] }
noncomputable def K89x0w0 (L : List Lf) (p : Int × Int) : Res := ([.c (.i .i64 p.1), .c (.i .i64 p.2)], mgA (ofSh sh89x0 L).mem [] [0, 1])
noncomputable def A89x0 (L : List Lf) : List (Bool × Res) := bnd (F89x0 N (li L 0) (ll L 5) (ll L 21) (fun p => some p)) fun q => [(q.isSome, K89x0w0 L (q.getD default))]
theorem raw89x0 (L : List Lf) : bd Try.prog (T79x0 N) (h89x0s0 N).h 89 sh89x0 L = F89x0 N (li L 0) (ll L 5) (ll L 21) (fun p => some (K89x0w0 L p)) := by kernel_rfl
theorem ok89x0 : FnOk Try.prog 89 sh89x0 (A89x0 N) :=
  (h89x0s0 N).fn progOk (T79x0_ok N) fun L x hx => ((raw89x0 N L).trans ((bind89x0 N ..).trans (alt1 x hx)))
noncomputable def T89x0 : Oracle := ext 89 (spSh sh89x0 (A89x0 N)) (T79x0 N)
theorem T89x0_ok : OracleOk Try.prog (T89x0 N) := FnOk.to (ok89x0 N) (T79x0_ok N)
noncomputable def rg70x0 : List (Nat × List Nat) := [(0, [0, 1]), (1, [1, 4, 2]), (2, [4]), (3, [2, 1, 4])]
noncomputable def hd70x0 : Hints := []
noncomputable def h70x0s0 (N : Nat) : Sg Try.prog 0 70 := .start hd70x0 rg70x0
noncomputable def F70x0 (N : Nat) (v4 : LD) (v7 : Int) (k0 : LB × Int × Int × Int × Bool → Option R) : Option R :=
  bif (decide (v7 < 0)) then
    k0 (([] : List UInt8), 0, 0, 0, false)
  else
    bif (inB v7 v4.length) then
      k0 (((v4.getD v7.toNat (.i 0)).cell 0).toS, ((v4.getD v7.toNat (.i 0)).cell 1).toI, ((v4.getD v7.toNat (.i 0)).cell 2).toI, ((v4.getD v7.toNat (.i 0)).cell 3).toI, ((v4.getD v7.toNat (.i 0)).cell 4).toB)
    else
      none
noncomputable def G70x0 (v4 : LD) (v7 : Int) : Option (LB × Int × Int × Int × Bool) := F70x0 N v4 v7 (fun p => some p)
theorem bind70x0 (v4 : LD) (v7 : Int) (k0 : LB × Int × Int × Int × Bool → Option R) : F70x0 N v4 v7 k0 = (G70x0 N v4 v7).bind k0 := by
  unfold G70x0 F70x0
  repeat' (first | rfl | apply cond_b | (apply bnd_b; intro _))
noncomputable def sh70x0 : Sh := { tmps := [(0, .g ([.i .i64, .i .i64, .i .i64, .sl 66, .sl 68])), (1, .c (.i .i64))], mem := [] }
noncomputable def K70x0w0 (L : List Lf) (p : LB × Int × Int × Int × Bool) : Res := ([.g [.s p.1, .i .i64 p.2.1, .i .i64 p.2.2.1, .i .i64 p.2.2.2.1, .b p.2.2.2.2]], [])
noncomputable def A70x0 (L : List Lf) : List (Bool × Res) := bnd (F70x0 N (ll L 4) (li L 7) (fun p => some p)) fun q => [(q.isSome, K70x0w0 L (q.getD default))]
theorem raw70x0 (L : List Lf) : bd Try.prog (T89x0 N) (h70x0s0 N).h 70 sh70x0 L = F70x0 N (ll L 4) (li L 7) (fun p => some (K70x0w0 L p)) := by kernel_rfl
theorem ok70x0 : FnOk Try.prog 70 sh70x0 (A70x0 N) :=
  (h70x0s0 N).fn progOk (T89x0_ok N) fun L x hx => ((raw70x0 N L).trans ((bind70x0 N ..).trans (alt1 x hx)))
noncomputable def T70x0 : Oracle := ext 70 (spSh sh70x0 (A70x0 N)) (T89x0 N)
theorem T70x0_ok : OracleOk Try.prog (T70x0 N) := FnOk.to (ok70x0 N) (T89x0_ok N)
noncomputable def rg49x0 : List (Nat × List Nat) := [(0, [0, 1]), (1, [2, 1])]
noncomputable def hd49x0 : Hints := []
noncomputable def h49x0s0 (N : Nat) : Sg Try.prog 0 49 := .start hd49x0 rg49x0
noncomputable def F49x0 (N : Nat) (v0 v7 : Int) (k0 : Int → R) : R :=
  k0 ((IntKind.wrap .i64 (v0 + v7)).tmod 7)
noncomputable def V49x0 (v0 v7 : Int) : Int := F49x0 N v0 v7 (fun p => p)
theorem tot49x0 (v0 v7 : Int) (k0 : Int → R) : F49x0 N v0 v7 k0 = k0 (V49x0 N v0 v7) := by
  unfold V49x0 F49x0
  repeat' (first | rfl | apply cond_k | (apply bnd_k; intro _))
noncomputable def sh49x0 : Sh := { tmps := [(0, .g ([.i .i64, .i .i64, .i .i64, .sl 66, .sl 68])), (1, .c (.i .i64))], mem := [] }
noncomputable def A49x0 (L : List Lf) : List (Bool × Res) := bnd (F49x0 N (li L 0) (li L 7) (fun p => p)) fun q => [(true, ([.c (.i .i64 q)], []))]
theorem raw49x0 (L : List Lf) : bd Try.prog (T70x0 N) (h49x0s0 N).h 49 sh49x0 L = F49x0 N (li L 0) (li L 7) (fun p => some ([.c (.i .i64 p)], [])) := by kernel_rfl
theorem ok49x0 : FnOk Try.prog 49 sh49x0 (A49x0 N) :=
  (h49x0s0 N).fn progOk (T70x0_ok N) fun L x hx => ((raw49x0 N L).trans ((tot49x0 N ..).trans (alt0 _ _ hx)))
noncomputable def T49x0 : Oracle := ext 49 (spSh sh49x0 (A49x0 N)) (T70x0 N)
theorem T49x0_ok : OracleOk Try.prog (T49x0 N) := FnOk.to (ok49x0 N) (T70x0_ok N)
noncomputable def rg95x0 : List (Nat × List Nat) := [(0, [1, 0, 2, 3, 4, 5]), (1, [0, 2, 3, 7, 4, 5]), (2, [0, 3, 7, 13, 4, 5, 2]), (3, [7, 13, 3, 0, 14, 4, 5, 2]), (4, [13, 3, 0, 15, 14, 7, 4, 5, 2]), (5, [34, 3, 0, 15, 13, 14, 7, 4, 5, 2]), (7, [34, 3, 14, 13, 0, 15, 7, 4, 5, 2]), (9, [34, 7, 13, 4, 14, 15, 0, 5, 3, 2]), (11, [34, 4, 7, 13, 14, 15, 0, 5, 3, 2]), (13, [34, 14, 7, 15, 13, 0, 4, 5, 3, 2]), (15, [34, 0, 13, 7, 4, 5, 15, 3, 2]), (18, [34, 5, 7, 13, 15, 3, 0, 2]), (20, [34, 15, 13, 3, 0, 2, 7]), (21, [15, 13, 3, 0]), (19, [5, 7, 13]), (16, [0, 13, 7, 4]), (17, [16, 13, 4]), (14, [14, 7, 15, 13]), (12, [4, 7, 13]), (10, [7, 13]), (8, [3, 14, 13, 0, 15]), (6, [3, 0, 15, 13]), (22, [2, 7, 13])]
noncomputable def hd95x0 : Hints := [(19, [3, 0, 15, 13], [14, 0], []), (25, [3, 14, 13, 0, 15], [15, 14, 0], []), (64, [15, 13, 3, 0], [14, 0], [])]
noncomputable def h95x0s0 (N : Nat) : Sg Try.prog 1 95 := .start hd95x0 rg95x0
noncomputable def F95x0x19 (w0 w1 w2 w22 : Int) (k0 : Bool → R) : R :=
  bif (decide (w0 < 0)) then
    k0 true
  else
    bnd (V49x0 N w2 w1) fun y0 =>
    k0 (y0 != w22)
noncomputable def V95x0x19 (w0 w1 w2 w22 : Int) : Bool := F95x0x19 N w0 w1 w2 w22 (fun p => p)
theorem tot95x0x19 (w0 w1 w2 w22 : Int) (k0 : Bool → R) : F95x0x19 N w0 w1 w2 w22 k0 = k0 (V95x0x19 N w0 w1 w2 w22) := by
  unfold V95x0x19 F95x0x19
  repeat' (first | rfl | apply cond_k | (apply bnd_k; intro _))
noncomputable def J95x0x19 (L : List Lf) (k0 : Bool → R) : R := F95x0x19 N (li L 0) (li L 1) (li L 2) (li L 22) k0
noncomputable def sh95x0x19 : Sh := { tmps := [(0, .c (.p 0 0)), (3, .c (.i .i64)), (13, .c (.p 14 0)), (15, .c (.i .i64))], mem := [(0, .box (.i .i64 :: .i .i64 :: .i .i64 :: .sl 66 :: .sl 68 :: rB 12 ([]))), (14, .box (rI 5 ([.s])))] }
noncomputable def K95x0x19w0 (L : List Lf) (p : Bool) : Ex × St := (.normal, mg (ofSh sh95x0x19 L) [12] [(12, .c (.b p))] [0] [])
noncomputable def A95x0x19 (L : List Lf) : List (Bool × (Ex × St)) := bnd (J95x0x19 N L (fun p => p)) fun q => [(true, K95x0x19w0 L q)]
theorem raw95x0x19 (L : List Lf) : pc Try.prog (T49x0 N) (h95x0s0 N).h 1 100 95 19 sh95x0x19 L [12] [0] = J95x0x19 N L (fun p => some (K95x0x19w0 L p)) := by kernel_rfl
noncomputable def h95x0s1 : Sg Try.prog 1 95 :=
  (h95x0s0 N).cut (A95x0x19 N) progOk (T49x0_ok N) fun L x hx => (raw95x0x19 N L).trans ((tot95x0x19 N ..).trans (alt0 _ _ hx))
noncomputable def F95x0x25 (w0 w1 w2 w22 w23 w29 : Int) (k0 : Bool → R) : R :=
  bif (decide (w0 < 0)) then
    k0 true
  else
    bif (decide (w29 ≤ w23)) then
      k0 true
    else
      bnd (V49x0 N w2 w1) fun y0 =>
      k0 (y0 != w22)
noncomputable def V95x0x25 (w0 w1 w2 w22 w23 w29 : Int) : Bool := F95x0x25 N w0 w1 w2 w22 w23 w29 (fun p => p)
theorem tot95x0x25 (w0 w1 w2 w22 w23 w29 : Int) (k0 : Bool → R) : F95x0x25 N w0 w1 w2 w22 w23 w29 k0 = k0 (V95x0x25 N w0 w1 w2 w22 w23 w29) := by
  unfold V95x0x25 F95x0x25
  repeat' (first | rfl | apply cond_k | (apply bnd_k; intro _))
noncomputable def J95x0x25 (L : List Lf) (k0 : Bool → R) : R := F95x0x25 N (li L 0) (li L 1) (li L 2) (li L 22) (li L 23) (li L 29) k0
noncomputable def sh95x0x25 : Sh := { tmps := [(0, .c (.p 0 0)), (3, .c (.i .i64)), (13, .c (.p 14 0)), (14, .c (.p 15 0)), (15, .c (.i .i64))], mem := [(0, .box (.i .i64 :: .i .i64 :: .i .i64 :: .sl 66 :: .sl 68 :: rB 12 ([]))), (14, .box (rI 5 ([.s]))), (15, .box ([.s, .i .i64, .i .i64, .i .i64, .b]))] }
noncomputable def K95x0x25w0 (L : List Lf) (p : Bool) : Ex × St := (.normal, mg (ofSh sh95x0x25 L) [12] [(12, .c (.b p))] [0] [])
noncomputable def A95x0x25 (L : List Lf) : List (Bool × (Ex × St)) := bnd (J95x0x25 N L (fun p => p)) fun q => [(true, K95x0x25w0 L q)]
theorem raw95x0x25 (L : List Lf) : pc Try.prog (T49x0 N) (h95x0s1 N).h 1 100 95 25 sh95x0x25 L [12] [0] = J95x0x25 N L (fun p => some (K95x0x25w0 L p)) := by kernel_rfl
noncomputable def h95x0s2 : Sg Try.prog 1 95 :=
  (h95x0s1 N).cut (A95x0x25 N) progOk (T49x0_ok N) fun L x hx => (raw95x0x25 N L).trans ((tot95x0x25 N ..).trans (alt0 _ _ hx))
noncomputable def F95x0x64 (w0 w1 : Int) (w6 : LD) (w22 : Int) (w26 : LB) (k0 : Bool → Option R) : Option R :=
  bif (w1 != w22) then
    k0 true
  else
    bnd (G52x0 N w6 w26) fun y0 =>
    bif y0.isSome then
      k0 (w0 == (y0.getD default))
    else
      none
noncomputable def G95x0x64 (w0 w1 : Int) (w6 : LD) (w22 : Int) (w26 : LB) : Option (Bool) := F95x0x64 N w0 w1 w6 w22 w26 (fun p => some p)
theorem bind95x0x64 (w0 w1 : Int) (w6 : LD) (w22 : Int) (w26 : LB) (k0 : Bool → Option R) : F95x0x64 N w0 w1 w6 w22 w26 k0 = (G95x0x64 N w0 w1 w6 w22 w26).bind k0 := by
  unfold G95x0x64 F95x0x64
  repeat' (first | rfl | apply cond_b | (apply bnd_b; intro _))
noncomputable def J95x0x64 (L : List Lf) (k0 : Bool → Option R) : Option R := F95x0x64 N (li L 0) (li L 1) (ll L 6) (li L 22) (ls L 26) k0
noncomputable def sh95x0x64 : Sh := { tmps := [(0, .c (.p 0 0)), (3, .c (.i .i64)), (13, .c (.p 14 0)), (15, .c (.i .i64))], mem := [(0, .box (.i .i64 :: .i .i64 :: .i .i64 :: .sl 66 :: .sl 68 :: rB 12 ([]))), (14, .box (rI 5 ([.s])))] }
noncomputable def K95x0x64w0 (L : List Lf) (p : Bool) : Ex × St := (.normal, mg (ofSh sh95x0x64 L) [12] [(12, .c (.b p))] [0] [])
noncomputable def A95x0x64 (L : List Lf) : List (Bool × (Ex × St)) := bnd (J95x0x64 N L (fun p => some p)) fun q => [(q.isSome, K95x0x64w0 L (q.getD default))]
theorem raw95x0x64 (L : List Lf) : pc Try.prog (T49x0 N) (h95x0s2 N).h 1 100 95 64 sh95x0x64 L [12] [0] = J95x0x64 N L (fun p => some (K95x0x64w0 L p)) := by kernel_rfl
noncomputable def h95x0s3 : Sg Try.prog 1 95 :=
  (h95x0s2 N).cut (A95x0x64 N) progOk (T49x0_ok N) fun L x hx => (raw95x0x64 N L).trans ((bind95x0x64 N ..).trans (alt1 x hx))
noncomputable def F95x0 (v0 v1 v2 v3 v4 v5 v6 v7 v8 v9 v10 v11 v12 v13 v14 v15 v16 v17 v18 v19 v20 v21 : Int) (v22 v23 : Bool) (v24 : Int) (v28 v30 : LD) (k0 : Bool → Option R) : Option R :=
  bif (inB v20 v30.length) then
    bnd (G70x0 N v28 v21) fun y0 =>
    bif y0.isSome then
      bif (((v30.getD v20.toNat (.i 0)).cell 0).toI == 1) then
        bnd (V95x0x19 N v21 v0 v24 ((v30.getD v20.toNat (.i 0)).cell 1).toI) fun y1 =>
        k0 y1
      else
        bif (((v30.getD v20.toNat (.i 0)).cell 0).toI == 2) then
          bnd (V95x0x25 N v21 v0 v24 ((v30.getD v20.toNat (.i 0)).cell 1).toI ((v30.getD v20.toNat (.i 0)).cell 2).toI (y0.getD default).2.2.1) fun y2 =>
          k0 y2
        else
          bif (((v30.getD v20.toNat (.i 0)).cell 0).toI == 3) then
            k0 (decide (v1 ≤ ((v30.getD v20.toNat (.i 0)).cell 2).toI))
          else
            bif (((v30.getD v20.toNat (.i 0)).cell 0).toI == 4) then
              bnd (bif (!v22) then true else (decide (v1 ≥ ((v30.getD v20.toNat (.i 0)).cell 2).toI))) fun y3 =>
              k0 y3
            else
              bif (((v30.getD v20.toNat (.i 0)).cell 0).toI == 5) then
                bnd (bif (!(y0.getD default).2.2.2.2) then true else (v3 == 0)) fun y4 =>
                bnd (bif y4 then true else (decide ((IntKind.wrap .i64 ((IntKind.wrap .i64 (v0 + 1)) - v3)) ≥ ((v30.getD v20.toNat (.i 0)).cell 2).toI))) fun y5 =>
                k0 y5
              else
                bif (((v30.getD v20.toNat (.i 0)).cell 0).toI == 6) then
                  bnd (G52x0 N v28 ((v30.getD v20.toNat (.i 0)).cell 5).toS) fun y6 =>
                  bif y6.isSome then
                    bif (inB (y6.getD default) 4) then
                      bnd (bif (Nat.beq (y6.getD default).toNat 0) then v4 else (bif (Nat.beq (y6.getD default).toNat 1) then v5 else (bif (Nat.beq (y6.getD default).toNat 2) then v6 else v7))) fun y7 =>
                      bnd (decide (y7 ≤ ((v30.getD v20.toNat (.i 0)).cell 4).toI)) fun y8 =>
                      bnd (bif y8 then (bif (!v22) then true else (decide (y7 ≥ ((v30.getD v20.toNat (.i 0)).cell 3).toI))) else false) fun y9 =>
                      k0 y9
                    else
                      none
                  else
                    none
                else
                  bif (((v30.getD v20.toNat (.i 0)).cell 0).toI == 7) then
                    bnd (bif (!v23) then true else (decide ((IntKind.wrap .i64 (100 * v1)) ≤ (IntKind.wrap .i64 (((v30.getD v20.toNat (.i 0)).cell 2).toI * v2))))) fun y10 =>
                    k0 y10
                  else
                    bif (((v30.getD v20.toNat (.i 0)).cell 0).toI == 8) then
                      bnd (G95x0x64 N v21 v0 v28 ((v30.getD v20.toNat (.i 0)).cell 1).toI ((v30.getD v20.toNat (.i 0)).cell 5).toS) fun y11 =>
                      bif y11.isSome then
                        k0 (y11.getD default)
                      else
                        none
                    else
                      bif (inB v20 12) then
                        bnd (bif (Nat.beq v20.toNat 0) then v8 else (bif (Nat.beq v20.toNat 1) then v9 else (bif (Nat.beq v20.toNat 2) then v10 else (bif (Nat.beq v20.toNat 3) then v11 else (bif (Nat.beq v20.toNat 4) then v12 else (bif (Nat.beq v20.toNat 5) then v13 else (bif (Nat.beq v20.toNat 6) then v14 else (bif (Nat.beq v20.toNat 7) then v15 else (bif (Nat.beq v20.toNat 8) then v16 else (bif (Nat.beq v20.toNat 9) then v17 else (bif (Nat.beq v20.toNat 10) then v18 else v19))))))))))) fun y12 =>
                        bnd (decide (y12 ≤ ((v30.getD v20.toNat (.i 0)).cell 2).toI)) fun y13 =>
                        k0 y13
                      else
                        none
    else
      none
  else
    none
noncomputable def G95x0 (v0 v1 v2 v3 v4 v5 v6 v7 v8 v9 v10 v11 v12 v13 v14 v15 v16 v17 v18 v19 v20 v21 : Int) (v22 v23 : Bool) (v24 : Int) (v28 v30 : LD) : Option (Bool) := F95x0 N v0 v1 v2 v3 v4 v5 v6 v7 v8 v9 v10 v11 v12 v13 v14 v15 v16 v17 v18 v19 v20 v21 v22 v23 v24 v28 v30 (fun p => some p)
theorem bind95x0 (v0 v1 v2 v3 v4 v5 v6 v7 v8 v9 v10 v11 v12 v13 v14 v15 v16 v17 v18 v19 v20 v21 : Int) (v22 v23 : Bool) (v24 : Int) (v28 v30 : LD) (k0 : Bool → Option R) : F95x0 N v0 v1 v2 v3 v4 v5 v6 v7 v8 v9 v10 v11 v12 v13 v14 v15 v16 v17 v18 v19 v20 v21 v22 v23 v24 v28 v30 k0 = (G95x0 N v0 v1 v2 v3 v4 v5 v6 v7 v8 v9 v10 v11 v12 v13 v14 v15 v16 v17 v18 v19 v20 v21 v22 v23 v24 v28 v30).bind k0 := by
  unfold G95x0 F95x0
  repeat' (first | rfl | apply cond_b | (apply bnd_b; intro _))
noncomputable def J95x0 (L : List Lf) (k0 : Bool → Option R) : Option R := F95x0 N (li L 0) (li L 1) (li L 2) (li L 3) (li L 4) (li L 5) (li L 6) (li L 7) (li L 8) (li L 9) (li L 10) (li L 11) (li L 12) (li L 13) (li L 14) (li L 15) (li L 16) (li L 17) (li L 18) (li L 19) (li L 20) (li L 21) (lb L 22) (lb L 23) (li L 24) (ll L 28) (ll L 30) k0
noncomputable def sh95x0 : Sh := { tmps := [(0, .c (.p 0 0)), (1, .g (rI 20 ([]))), (2, .c (.i .i64)), (3, .c (.i .i64)), (4, .c (.b)), (5, .c (.b))], mem := [(0, .box (.i .i64 :: .i .i64 :: .i .i64 :: .sl 66 :: .sl 68 :: rB 12 ([])))] }
noncomputable def A95x0 (L : List Lf) : List (Bool × Res) := bnd (J95x0 N L (fun p => some p)) fun q => [(q.isSome, ([.c (.b (q.getD default))], mgA (ofSh sh95x0 L).mem [] [0]))]
theorem raw95x0 (L : List Lf) : bd Try.prog (T49x0 N) (h95x0s3 N).h 95 sh95x0 L = J95x0 N L (fun p => some ([.c (.b p)], mgA (ofSh sh95x0 L).mem [] [0])) := by kernel_rfl
theorem ok95x0 : FnOk Try.prog 95 sh95x0 (A95x0 N) :=
  (h95x0s3 N).fn progOk (T49x0_ok N) fun L x hx => ((raw95x0 N L).trans ((bind95x0 N ..).trans (alt1 x hx)))
noncomputable def T95x0 : Oracle := ext 95 (spSh sh95x0 (A95x0 N)) (T49x0 N)
theorem T95x0_ok : OracleOk Try.prog (T95x0 N) := FnOk.to (ok95x0 N) (T49x0_ok N)
noncomputable def rg96x0 : List (Nat × List Nat) := [(0, [1, 0]), (1, [0, 3, 4]), (2, [0, 5, 3, 4]), (3, [14, 13, 12, 5, 0, 3, 4]), (4, [14, 12, 5, 0, 3, 13, 4]), (5, [7, 5, 0, 6, 3, 14, 13, 12, 4]), (6, [0, 6, 3, 7, 14, 13, 12, 5, 4]), (7, [6, 3, 14, 13, 12, 5, 0, 4]), (8, [14, 13, 12, 5, 0, 3, 4]), (9, [5, 3, 4]), (10, [3, 5, 4]), (11, [5, 3, 4]), (12, [3, 5, 4]), (13, [5, 3, 4]), (14, [3, 5, 4]), (15, [5, 3, 4]), (16, [3, 4]), (17, [3, 4])]
noncomputable def hd96x0 : Hints := [(9, [14, 13, 12, 5, 0, 3, 4], [6, 5, 4, 0], []), (16, [7, 5, 0, 6, 3, 14, 13, 12, 4], [8, 6, 5, 4, 0], []), (23, [6, 3, 14, 13, 12, 5, 0, 4, 47], [6, 5, 4, 0], []), (38, [3, 5, 4, 63], [0, 6, 5, 4], []), (32, [3, 5, 4, 54], [0, 6, 5, 4], []), (44, [3, 5, 4, 67], [0, 6, 5, 4], []), (50, [3, 4, 71], [0, 5, 4], [])]
noncomputable def h96x0s0 (N : Nat) : Sg Try.prog 1 96 := .start hd96x0 rg96x0
noncomputable def F96x0x16 (N : Nat) (w0 : Int) (w12 w13 w14 w15 w16 w17 w18 w19 w20 w21 w22 w23 w64 w65 w66 w67 w68 w69 w70 w71 w72 w73 : Bool) (w74 : Int) (k0 : Ty4 → Option R) : Option R :=
  bif (inB w74 10) then
    bnd (bif (Nat.beq w74.toNat 0) then w64 else (bif (Nat.beq w74.toNat 1) then w65 else (bif (Nat.beq w74.toNat 2) then w66 else (bif (Nat.beq w74.toNat 3) then w67 else (bif (Nat.beq w74.toNat 4) then w68 else (bif (Nat.beq w74.toNat 5) then w69 else (bif (Nat.beq w74.toNat 6) then w70 else (bif (Nat.beq w74.toNat 7) then w71 else (bif (Nat.beq w74.toNat 8) then w72 else w73))))))))) fun y0 =>
    bif y0 then
      bif (inB w74 10) then
        k0 ((bif (Nat.beq w74.toNat 0) then true else w64), (bif (Nat.beq w74.toNat 1) then true else w65), (bif (Nat.beq w74.toNat 2) then true else w66), (bif (Nat.beq w74.toNat 3) then true else w67), (bif (Nat.beq w74.toNat 4) then true else w68), (bif (Nat.beq w74.toNat 5) then true else w69), (bif (Nat.beq w74.toNat 6) then true else w70), (bif (Nat.beq w74.toNat 7) then true else w71), (bif (Nat.beq w74.toNat 8) then true else w72), (bif (Nat.beq w74.toNat 9) then true else w73))
      else
        none
    else
      bif (inB w0 12) then
        bnd (bif (Nat.beq w0.toNat 0) then w12 else (bif (Nat.beq w0.toNat 1) then w13 else (bif (Nat.beq w0.toNat 2) then w14 else (bif (Nat.beq w0.toNat 3) then w15 else (bif (Nat.beq w0.toNat 4) then w16 else (bif (Nat.beq w0.toNat 5) then w17 else (bif (Nat.beq w0.toNat 6) then w18 else (bif (Nat.beq w0.toNat 7) then w19 else (bif (Nat.beq w0.toNat 8) then w20 else (bif (Nat.beq w0.toNat 9) then w21 else (bif (Nat.beq w0.toNat 10) then w22 else w23))))))))))) fun y1 =>
        bif (inB w74 10) then
          k0 ((bif (Nat.beq w74.toNat 0) then (!y1) else w64), (bif (Nat.beq w74.toNat 1) then (!y1) else w65), (bif (Nat.beq w74.toNat 2) then (!y1) else w66), (bif (Nat.beq w74.toNat 3) then (!y1) else w67), (bif (Nat.beq w74.toNat 4) then (!y1) else w68), (bif (Nat.beq w74.toNat 5) then (!y1) else w69), (bif (Nat.beq w74.toNat 6) then (!y1) else w70), (bif (Nat.beq w74.toNat 7) then (!y1) else w71), (bif (Nat.beq w74.toNat 8) then (!y1) else w72), (bif (Nat.beq w74.toNat 9) then (!y1) else w73))
        else
          none
      else
        none
  else
    none
noncomputable def G96x0x16 (w0 : Int) (w12 w13 w14 w15 w16 w17 w18 w19 w20 w21 w22 w23 w64 w65 w66 w67 w68 w69 w70 w71 w72 w73 : Bool) (w74 : Int) : Option (Ty4) := F96x0x16 N w0 w12 w13 w14 w15 w16 w17 w18 w19 w20 w21 w22 w23 w64 w65 w66 w67 w68 w69 w70 w71 w72 w73 w74 (fun p => some p)
theorem bind96x0x16 (w0 : Int) (w12 w13 w14 w15 w16 w17 w18 w19 w20 w21 w22 w23 w64 w65 w66 w67 w68 w69 w70 w71 w72 w73 : Bool) (w74 : Int) (k0 : Ty4 → Option R) : F96x0x16 N w0 w12 w13 w14 w15 w16 w17 w18 w19 w20 w21 w22 w23 w64 w65 w66 w67 w68 w69 w70 w71 w72 w73 w74 k0 = (G96x0x16 N w0 w12 w13 w14 w15 w16 w17 w18 w19 w20 w21 w22 w23 w64 w65 w66 w67 w68 w69 w70 w71 w72 w73 w74).bind k0 := by
  unfold G96x0x16 F96x0x16
  repeat' (first | rfl | apply cond_b | (apply bnd_b; intro _))
noncomputable def J96x0x16 (L : List Lf) (k0 : Ty4 → Option R) : Option R := F96x0x16 N (li L 0) (lb L 12) (lb L 13) (lb L 14) (lb L 15) (lb L 16) (lb L 17) (lb L 18) (lb L 19) (lb L 20) (lb L 21) (lb L 22) (lb L 23) (lb L 64) (lb L 65) (lb L 66) (lb L 67) (lb L 68) (lb L 69) (lb L 70) (lb L 71) (lb L 72) (lb L 73) (li L 74) k0
noncomputable def sh96x0x16 : Sh := { tmps := [(0, .c (.p 0 0)), (3, .c (.p 4 0)), (4, .c (.p 5 0)), (5, .c (.p 6 0)), (6, .c (.i .i64)), (7, .c (.p 8 0)), (12, .c (.sl 68)), (13, .c (.i .i64)), (14, .c (.i .i64))], mem := [(0, .box (.i .i64 :: .i .i64 :: .i .i64 :: .sl 66 :: .sl 68 :: rB 12 ([]))), (4, .box (rI 20 ([]))), (5, .box (rI 20 ([]))), (6, .box (rB 10 ([]))), (8, .box (rI 5 ([.s])))] }
noncomputable def K96x0x16w0 (L : List Lf) (p : Ty4) : Ex × St := let p1 := p.2; let p2 := p1.2; let p3 := p2.2; let p4 := p3.2; let p5 := p4.2; let p6 := p5.2; let p7 := p6.2; let p8 := p7.2; let p9 := p8.2; (.normal, mg (ofSh sh96x0x16 L) [0, 3, 4, 5, 6, 7, 12, 13, 14] [] [0, 4, 5, 6, 8] [(6, .box [.b p.1, .b p1.1, .b p2.1, .b p3.1, .b p4.1, .b p5.1, .b p6.1, .b p7.1, .b p8.1, .b p9])])
noncomputable def A96x0x16 (L : List Lf) : List (Bool × (Ex × St)) := bnd (J96x0x16 N L (fun p => some p)) fun q => [(q.isSome, K96x0x16w0 L (q.getD default))]
theorem raw96x0x16 (L : List Lf) : pc Try.prog (T95x0 N) (h96x0s0 N).h 1 100 96 16 sh96x0x16 L [0, 6, 3, 7, 14, 13, 12, 5, 4] [8, 6, 5, 4, 0] = J96x0x16 N L (fun p => some (K96x0x16w0 L p)) := by kernel_rfl
noncomputable def h96x0s1 : Sg Try.prog 1 96 :=
  (h96x0s0 N).cut (A96x0x16 N) progOk (T95x0_ok N) fun L x hx => (raw96x0x16 N L).trans ((bind96x0x16 N ..).trans (alt1 x hx))
noncomputable def F96x0x23 (N : Nat) (w0 : Int) (w5 : Bool) (w33 w34 w35 w36 w37 w38 w39 w40 w41 w42 w43 w44 : Int) (k0 : Ty3 → Option R) : Option R :=
  bif w5 then
    bif (inB w0 12) then
      k0 ((bif (Nat.beq w0.toNat 0) then 0 else w33), (bif (Nat.beq w0.toNat 1) then 0 else w34), (bif (Nat.beq w0.toNat 2) then 0 else w35), (bif (Nat.beq w0.toNat 3) then 0 else w36), (bif (Nat.beq w0.toNat 4) then 0 else w37), (bif (Nat.beq w0.toNat 5) then 0 else w38), (bif (Nat.beq w0.toNat 6) then 0 else w39), (bif (Nat.beq w0.toNat 7) then 0 else w40), (bif (Nat.beq w0.toNat 8) then 0 else w41), (bif (Nat.beq w0.toNat 9) then 0 else w42), (bif (Nat.beq w0.toNat 10) then 0 else w43), (bif (Nat.beq w0.toNat 11) then 0 else w44))
    else
      none
  else
    k0 (w33, w34, w35, w36, w37, w38, w39, w40, w41, w42, w43, w44)
noncomputable def G96x0x23 (w0 : Int) (w5 : Bool) (w33 w34 w35 w36 w37 w38 w39 w40 w41 w42 w43 w44 : Int) : Option (Ty3) := F96x0x23 N w0 w5 w33 w34 w35 w36 w37 w38 w39 w40 w41 w42 w43 w44 (fun p => some p)
theorem bind96x0x23 (w0 : Int) (w5 : Bool) (w33 w34 w35 w36 w37 w38 w39 w40 w41 w42 w43 w44 : Int) (k0 : Ty3 → Option R) : F96x0x23 N w0 w5 w33 w34 w35 w36 w37 w38 w39 w40 w41 w42 w43 w44 k0 = (G96x0x23 N w0 w5 w33 w34 w35 w36 w37 w38 w39 w40 w41 w42 w43 w44).bind k0 := by
  unfold G96x0x23 F96x0x23
  repeat' (first | rfl | apply cond_b | (apply bnd_b; intro _))
noncomputable def J96x0x23 (L : List Lf) (k0 : Ty3 → Option R) : Option R := F96x0x23 N (li L 0) (lb L 5) (li L 33) (li L 34) (li L 35) (li L 36) (li L 37) (li L 38) (li L 39) (li L 40) (li L 41) (li L 42) (li L 43) (li L 44) k0
noncomputable def sh96x0x23 : Sh := { tmps := [(0, .c (.p 0 0)), (3, .c (.p 4 0)), (4, .c (.p 5 0)), (5, .c (.p 6 0)), (6, .c (.i .i64)), (12, .c (.sl 68)), (13, .c (.i .i64)), (14, .c (.i .i64)), (47, .c (.b))], mem := [(0, .box (.i .i64 :: .i .i64 :: .i .i64 :: .sl 66 :: .sl 68 :: rB 12 ([]))), (4, .box (rI 20 ([]))), (5, .box (rI 20 ([]))), (6, .box (rB 10 ([])))] }
noncomputable def K96x0x23w0 (L : List Lf) (p : Ty3) : Ex × St := let p1 := p.2; let p2 := p1.2; let p3 := p2.2; let p4 := p3.2; let p5 := p4.2; let p6 := p5.2; let p7 := p6.2; let p8 := p7.2; let p9 := p8.2; let p10 := p9.2; let p11 := p10.2; (.normal, mg (ofSh sh96x0x23 L) [0, 3, 4, 5, 12, 13, 14] [] [0, 4, 5, 6] [(4, .box (rL L 25 8 ([.i .i64 p.1, .i .i64 p1.1, .i .i64 p2.1, .i .i64 p3.1, .i .i64 p4.1, .i .i64 p5.1, .i .i64 p6.1, .i .i64 p7.1, .i .i64 p8.1, .i .i64 p9.1, .i .i64 p10.1, .i .i64 p11])))])
noncomputable def A96x0x23 (L : List Lf) : List (Bool × (Ex × St)) := bnd (J96x0x23 N L (fun p => some p)) fun q => [(q.isSome, K96x0x23w0 L (q.getD default))]
theorem raw96x0x23 (L : List Lf) : pc Try.prog (T95x0 N) (h96x0s1 N).h 1 100 96 23 sh96x0x23 L [14, 13, 12, 5, 0, 3, 4] [6, 5, 4, 0] = J96x0x23 N L (fun p => some (K96x0x23w0 L p)) := by kernel_rfl
noncomputable def h96x0s2 : Sg Try.prog 1 96 :=
  (h96x0s1 N).cut (A96x0x23 N) progOk (T95x0_ok N) fun L x hx => (raw96x0x23 N L).trans ((bind96x0x23 N ..).trans (alt1 x hx))
noncomputable def S96x0x9 (w1 : LD) (w2 : Int) (w11 w12 w13 w14 w15 w16 w17 w18 w19 w20 w21 w22 : Bool) (w23 : Int) (w3 w31 w32 w33 w34 w35 w36 w37 w38 w39 w40 w41 w42 : Int) (w63 w64 w65 w66 w67 w68 w69 w70 w71 w72 : Bool) (kr : Int → Int → Int → Int → Int → Int → Int → Int → Int → Int → Int → Int → Int → Bool → Bool → Bool → Bool → Bool → Bool → Bool → Bool → Bool → Bool → Option R) (k0 : Ty0 → Option R) : Option R :=
  bif (decide (w3 < w2)) then
    bif (inB w3 w1.length) then
      bnd (G96x0x16 N w3 w11 w12 w13 w14 w15 w16 w17 w18 w19 w20 w21 w22 w63 w64 w65 w66 w67 w68 w69 w70 w71 w72 ((w1.getD w3.toNat (.i 0)).cell 0).toI) fun y0 =>
      bif y0.isSome then
        bif (inB w3 12) then
          bnd (bif (Nat.beq w3.toNat 0) then w11 else (bif (Nat.beq w3.toNat 1) then w12 else (bif (Nat.beq w3.toNat 2) then w13 else (bif (Nat.beq w3.toNat 3) then w14 else (bif (Nat.beq w3.toNat 4) then w15 else (bif (Nat.beq w3.toNat 5) then w16 else (bif (Nat.beq w3.toNat 6) then w17 else (bif (Nat.beq w3.toNat 7) then w18 else (bif (Nat.beq w3.toNat 8) then w19 else (bif (Nat.beq w3.toNat 9) then w20 else (bif (Nat.beq w3.toNat 10) then w21 else w22))))))))))) fun y1 =>
          bnd (bif y1 then true else (decide (w23 ≥ ((w1.getD w3.toNat (.i 0)).cell 1).toI))) fun y2 =>
          bnd (G96x0x23 N w3 y2 w31 w32 w33 w34 w35 w36 w37 w38 w39 w40 w41 w42) fun y3 =>
          bif y3.isSome then
            kr (IntKind.wrap .i64 (w3 + 1)) (y3.getD default).1 (y3.getD default).2.1 (y3.getD default).2.2.1 (y3.getD default).2.2.2.1 (y3.getD default).2.2.2.2.1 (y3.getD default).2.2.2.2.2.1 (y3.getD default).2.2.2.2.2.2.1 (y3.getD default).2.2.2.2.2.2.2.1 (y3.getD default).2.2.2.2.2.2.2.2.1 (y3.getD default).2.2.2.2.2.2.2.2.2.1 (y3.getD default).2.2.2.2.2.2.2.2.2.2.1 (y3.getD default).2.2.2.2.2.2.2.2.2.2.2 (y0.getD default).1 (y0.getD default).2.1 (y0.getD default).2.2.1 (y0.getD default).2.2.2.1 (y0.getD default).2.2.2.2.1 (y0.getD default).2.2.2.2.2.1 (y0.getD default).2.2.2.2.2.2.1 (y0.getD default).2.2.2.2.2.2.2.1 (y0.getD default).2.2.2.2.2.2.2.2.1 (y0.getD default).2.2.2.2.2.2.2.2.2
          else
            none
        else
          none
      else
        none
    else
      none
  else
    k0 (w31, w32, w33, w34, w35, w36, w37, w38, w39, w40, w41, w42, w63, w64, w65, w66, w67, w68, w69, w70, w71, w72)
noncomputable def L96x0x9 (N : Nat) {R : Type} (w1 : LD) (w2 : Int) (w11 w12 w13 w14 w15 w16 w17 w18 w19 w20 w21 w22 : Bool) (w23 : Int) : Nat → Int → Int → Int → Int → Int → Int → Int → Int → Int → Int → Int → Int → Int → Bool → Bool → Bool → Bool → Bool → Bool → Bool → Bool → Bool → Bool → (Ty0 → Option R) → Option R
  | 0, _, _, _, _, _, _, _, _, _, _, _, _, _, _, _, _, _, _, _, _, _, _, _, _ => none
  | m + 1, w3, w31, w32, w33, w34, w35, w36, w37, w38, w39, w40, w41, w42, w63, w64, w65, w66, w67, w68, w69, w70, w71, w72, k0 => S96x0x9 N w1 w2 w11 w12 w13 w14 w15 w16 w17 w18 w19 w20 w21 w22 w23 w3 w31 w32 w33 w34 w35 w36 w37 w38 w39 w40 w41 w42 w63 w64 w65 w66 w67 w68 w69 w70 w71 w72 (fun w3 w31 w32 w33 w34 w35 w36 w37 w38 w39 w40 w41 w42 w63 w64 w65 w66 w67 w68 w69 w70 w71 w72 => L96x0x9 N w1 w2 w11 w12 w13 w14 w15 w16 w17 w18 w19 w20 w21 w22 w23 m w3 w31 w32 w33 w34 w35 w36 w37 w38 w39 w40 w41 w42 w63 w64 w65 w66 w67 w68 w69 w70 w71 w72 k0) k0
noncomputable def G96x0x9 (w1 : LD) (w2 : Int) (w11 w12 w13 w14 w15 w16 w17 w18 w19 w20 w21 w22 : Bool) (w23 : Int) (w3 w31 w32 w33 w34 w35 w36 w37 w38 w39 w40 w41 w42 : Int) (w63 w64 w65 w66 w67 w68 w69 w70 w71 w72 : Bool) : Option (Ty0) := L96x0x9 N (R := (Ty0)) w1 w2 w11 w12 w13 w14 w15 w16 w17 w18 w19 w20 w21 w22 w23 N w3 w31 w32 w33 w34 w35 w36 w37 w38 w39 w40 w41 w42 w63 w64 w65 w66 w67 w68 w69 w70 w71 w72 (fun p => some p)
noncomputable def J96x0x9 (L x : List Lf) (kr : List Lf → Option R) (k0 : Ty0 → Option R) : Option R := S96x0x9 N (ll L 1) (li L 2) (lb L 11) (lb L 12) (lb L 13) (lb L 14) (lb L 15) (lb L 16) (lb L 17) (lb L 18) (lb L 19) (lb L 20) (lb L 21) (lb L 22) (li L 23) (li x 0) (li x 1) (li x 2) (li x 3) (li x 4) (li x 5) (li x 6) (li x 7) (li x 8) (li x 9) (li x 10) (li x 11) (li x 12) (lb x 13) (lb x 14) (lb x 15) (lb x 16) (lb x 17) (lb x 18) (lb x 19) (lb x 20) (lb x 21) (lb x 22) (fun w3 w31 w32 w33 w34 w35 w36 w37 w38 w39 w40 w41 w42 w63 w64 w65 w66 w67 w68 w69 w70 w71 w72 => kr [.i w3, .i w31, .i w32, .i w33, .i w34, .i w35, .i w36, .i w37, .i w38, .i w39, .i w40, .i w41, .i w42, .b w63, .b w64, .b w65, .b w66, .b w67, .b w68, .b w69, .b w70, .b w71, .b w72]) k0
theorem sb96x0x9 (L x : List Lf) (kr : List Lf → Option R) (k0 : Ty0 → Option R) : J96x0x9 N L x kr k0 = (J96x0x9 N L x (fun y => some (.inl y)) (fun p => some (.inr p))).bind (sumE kr k0) := by
  unfold J96x0x9 S96x0x9
  repeat' (first | rfl | apply cond_b | (apply bnd_b; intro _))
noncomputable def Q96x0x9 (L : List Lf) (m : Nat) (x : List Lf) : Option (Ty0) := L96x0x9 N (R := (Ty0)) (ll L 1) (li L 2) (lb L 11) (lb L 12) (lb L 13) (lb L 14) (lb L 15) (lb L 16) (lb L 17) (lb L 18) (lb L 19) (lb L 20) (lb L 21) (lb L 22) (li L 23) m (li x 0) (li x 1) (li x 2) (li x 3) (li x 4) (li x 5) (li x 6) (li x 7) (li x 8) (li x 9) (li x 10) (li x 11) (li x 12) (lb x 13) (lb x 14) (lb x 15) (lb x 16) (lb x 17) (lb x 18) (lb x 19) (lb x 20) (lb x 21) (lb x 22) (fun p => some p)
noncomputable def sh96x0x9 : Sh := { tmps := [(0, .c (.p 0 0)), (3, .c (.p 4 0)), (4, .c (.p 5 0)), (5, .c (.p 6 0)), (12, .c (.sl 68)), (13, .c (.i .i64)), (14, .c (.i .i64))], mem := [(0, .box (.i .i64 :: .i .i64 :: .i .i64 :: .sl 66 :: .sl 68 :: rB 12 ([]))), (4, .box (rI 20 ([]))), (5, .box (rI 20 ([]))), (6, .box (rB 10 ([])))] }
noncomputable def K96x0x9w0 (L : List Lf) (p : Ty0) : Ex × St := let p1 := p.2; let p2 := p1.2; let p3 := p2.2; let p4 := p3.2; let p5 := p4.2; let p6 := p5.2; let p7 := p6.2; let p8 := p7.2; let p9 := p8.2; let p10 := p9.2; let p11 := p10.2; let p12 := p11.2; let p13 := p12.2; let p14 := p13.2; let p15 := p14.2; let p16 := p15.2; let p17 := p16.2; let p18 := p17.2; let p19 := p18.2; let p20 := p19.2; let p21 := p20.2; ((.exit 0), mg (ofSh sh96x0x9 L) [3, 4, 5] [] [0, 4, 5, 6] [(4, .box (rL L 23 8 ([.i .i64 p.1, .i .i64 p1.1, .i .i64 p2.1, .i .i64 p3.1, .i .i64 p4.1, .i .i64 p5.1, .i .i64 p6.1, .i .i64 p7.1, .i .i64 p8.1, .i .i64 p9.1, .i .i64 p10.1, .i .i64 p11.1]))), (6, .box [.b p12.1, .b p13.1, .b p14.1, .b p15.1, .b p16.1, .b p17.1, .b p18.1, .b p19.1, .b p20.1, .b p21])])
noncomputable def A96x0x9 (L : List Lf) : List (Bool × (Ex × St)) := bnd (Q96x0x9 N L N (pk sh96x0x9 [3, 31, 32, 33, 34, 35, 36, 37, 38, 39, 40, 41, 42, 63, 64, 65, 66, 67, 68, 69, 70, 71, 72] L)) fun q => [(q.isSome, K96x0x9w0 L (q.getD default))]
theorem step96x0x9 (m : Nat) (kn : St → Option (Ex × St)) (L x : List Lf) : lpB Try.prog (T95x0 N) (h96x0s2 N).h 1 96 9 sh96x0x9 [3, 31, 32, 33, 34, 35, 36, 37, 38, 39, 40, 41, 42, 63, 64, 65, 66, 67, 68, 69, 70, 71, 72] [4, 5, 3] [0, 6, 5, 4] (m + 100) kn L x = J96x0x9 N L x (fun y => kn (ofSh sh96x0x9 (mx sh96x0x9 [3, 31, 32, 33, 34, 35, 36, 37, 38, 39, 40, 41, 42, 63, 64, 65, 66, 67, 68, 69, 70, 71, 72] L y))) (fun p => some (K96x0x9w0 L p)) := by kernel_rfl
noncomputable def h96x0s3 : Sg Try.prog 1 96 :=
  (h96x0s2 N).lp (A96x0x9 N) N progOk (T95x0_ok N) (fun m kn L x => (step96x0x9 N m kn L x).trans (sb96x0x9 N L x _ _)) (fun L m x => sb96x0x9 N L x (Q96x0x9 N L m) some) fun L x hx => alt1 x hx
noncomputable def F96x0x38 (N : Nat) (w0 : Bool) (w21 : Int) (k0 : Int → R) : R :=
  bif w0 then
    k0 0
  else
    k0 w21
noncomputable def V96x0x38 (w0 : Bool) (w21 : Int) : Int := F96x0x38 N w0 w21 (fun p => p)
theorem tot96x0x38 (w0 : Bool) (w21 : Int) (k0 : Int → R) : F96x0x38 N w0 w21 k0 = k0 (V96x0x38 N w0 w21) := by
  unfold V96x0x38 F96x0x38
  repeat' (first | rfl | apply cond_k | (apply bnd_k; intro _))
noncomputable def sh96x0x38 : Sh := { tmps := [(3, .c (.p 4 0)), (4, .c (.p 5 0)), (5, .c (.p 6 0)), (63, .c (.b))], mem := [(0, .box (.i .i64 :: .i .i64 :: .i .i64 :: .sl 66 :: .sl 68 :: rB 12 ([]))), (4, .box (rI 20 ([]))), (5, .box (rI 20 ([]))), (6, .box (rB 10 ([])))] }
noncomputable def K96x0x38w0 (L : List Lf) (p : Int) : Ex × St := (.normal, mg (ofSh sh96x0x38 L) [3, 4, 5] [] [0, 4, 5, 6] [(4, .box (.i .i64 (li L 20) :: .i .i64 p :: rL L 22 18 ([])))])
noncomputable def A96x0x38 (L : List Lf) : List (Bool × (Ex × St)) := bnd (F96x0x38 N (lb L 0) (li L 21) (fun p => p)) fun q => [(true, K96x0x38w0 L q)]
theorem raw96x0x38 (L : List Lf) : pc Try.prog (T95x0 N) (h96x0s3 N).h 1 100 96 38 sh96x0x38 L [5, 3, 4] [0, 6, 5, 4] = F96x0x38 N (lb L 0) (li L 21) (fun p => some (K96x0x38w0 L p)) := by kernel_rfl
noncomputable def h96x0s4 : Sg Try.prog 1 96 :=
  (h96x0s3 N).cut (A96x0x38 N) progOk (T95x0_ok N) fun L x hx => (raw96x0x38 N L).trans ((tot96x0x38 N ..).trans (alt0 _ _ hx))
noncomputable def F96x0x32 (w0 : Bool) (w21 w22 : Int) (w63 w64 : Bool) (k0 : Int × Int → R) : R :=
  bif w0 then
    bnd (V96x0x38 N (bif (!w63) then (!w64) else false) w21) fun y0 =>
    k0 (y0, 0)
  else
    k0 (w21, w22)
noncomputable def V96x0x32 (w0 : Bool) (w21 w22 : Int) (w63 w64 : Bool) : Int × Int := F96x0x32 N w0 w21 w22 w63 w64 (fun p => p)
theorem tot96x0x32 (w0 : Bool) (w21 w22 : Int) (w63 w64 : Bool) (k0 : Int × Int → R) : F96x0x32 N w0 w21 w22 w63 w64 k0 = k0 (V96x0x32 N w0 w21 w22 w63 w64) := by
  unfold V96x0x32 F96x0x32
  repeat' (first | rfl | apply cond_k | (apply bnd_k; intro _))
noncomputable def J96x0x32 (L : List Lf) (k0 : Int × Int → R) : R := F96x0x32 N (lb L 0) (li L 21) (li L 22) (lb L 63) (lb L 64) k0
noncomputable def sh96x0x32 : Sh := { tmps := [(3, .c (.p 4 0)), (4, .c (.p 5 0)), (5, .c (.p 6 0)), (54, .c (.b))], mem := [(0, .box (.i .i64 :: .i .i64 :: .i .i64 :: .sl 66 :: .sl 68 :: rB 12 ([]))), (4, .box (rI 20 ([]))), (5, .box (rI 20 ([]))), (6, .box (rB 10 ([])))] }
noncomputable def K96x0x32w0 (L : List Lf) (p : Int × Int) : Ex × St := (.normal, mg (ofSh sh96x0x32 L) [3, 4, 5] [] [0, 4, 5, 6] [(4, .box (.i .i64 (li L 20) :: .i .i64 p.1 :: .i .i64 p.2 :: rL L 23 17 ([])))])
noncomputable def A96x0x32 (L : List Lf) : List (Bool × (Ex × St)) := bnd (J96x0x32 N L (fun p => p)) fun q => [(true, K96x0x32w0 L q)]
theorem raw96x0x32 (L : List Lf) : pc Try.prog (T95x0 N) (h96x0s4 N).h 1 100 96 32 sh96x0x32 L [5, 3, 4] [0, 6, 5, 4] = J96x0x32 N L (fun p => some (K96x0x32w0 L p)) := by kernel_rfl
noncomputable def h96x0s5 : Sg Try.prog 1 96 :=
  (h96x0s4 N).cut (A96x0x32 N) progOk (T95x0_ok N) fun L x hx => (raw96x0x32 N L).trans ((tot96x0x32 N ..).trans (alt0 _ _ hx))
noncomputable def F96x0x44 (N : Nat) (w0 : Bool) (w23 : Int) (k0 : Int → R) : R :=
  bif w0 then
    k0 0
  else
    k0 w23
noncomputable def V96x0x44 (w0 : Bool) (w23 : Int) : Int := F96x0x44 N w0 w23 (fun p => p)
theorem tot96x0x44 (w0 : Bool) (w23 : Int) (k0 : Int → R) : F96x0x44 N w0 w23 k0 = k0 (V96x0x44 N w0 w23) := by
  unfold V96x0x44 F96x0x44
  repeat' (first | rfl | apply cond_k | (apply bnd_k; intro _))
noncomputable def sh96x0x44 : Sh := { tmps := [(3, .c (.p 4 0)), (4, .c (.p 5 0)), (5, .c (.p 6 0)), (67, .c (.b))], mem := [(0, .box (.i .i64 :: .i .i64 :: .i .i64 :: .sl 66 :: .sl 68 :: rB 12 ([]))), (4, .box (rI 20 ([]))), (5, .box (rI 20 ([]))), (6, .box (rB 10 ([])))] }
noncomputable def K96x0x44w0 (L : List Lf) (p : Int) : Ex × St := (.normal, mg (ofSh sh96x0x44 L) [3, 4, 5] [] [0, 4, 5, 6] [(4, .box (.i .i64 (li L 20) :: .i .i64 (li L 21) :: .i .i64 (li L 22) :: .i .i64 p :: rL L 24 16 ([])))])
noncomputable def A96x0x44 (L : List Lf) : List (Bool × (Ex × St)) := bnd (F96x0x44 N (lb L 0) (li L 23) (fun p => p)) fun q => [(true, K96x0x44w0 L q)]
theorem raw96x0x44 (L : List Lf) : pc Try.prog (T95x0 N) (h96x0s5 N).h 1 100 96 44 sh96x0x44 L [5, 3, 4] [0, 6, 5, 4] = F96x0x44 N (lb L 0) (li L 23) (fun p => some (K96x0x44w0 L p)) := by kernel_rfl
noncomputable def h96x0s6 : Sg Try.prog 1 96 :=
  (h96x0s5 N).cut (A96x0x44 N) progOk (T95x0_ok N) fun L x hx => (raw96x0x44 N L).trans ((tot96x0x44 N ..).trans (alt0 _ _ hx))
noncomputable def F96x0x50 (N : Nat) (w0 : Bool) (w24 w25 w26 w27 : Int) (k0 : Int × Int × Int × Int → R) : R :=
  bif w0 then
    k0 (0, 0, 0, 0)
  else
    k0 (w24, w25, w26, w27)
noncomputable def V96x0x50 (w0 : Bool) (w24 w25 w26 w27 : Int) : Int × Int × Int × Int := F96x0x50 N w0 w24 w25 w26 w27 (fun p => p)
theorem tot96x0x50 (w0 : Bool) (w24 w25 w26 w27 : Int) (k0 : Int × Int × Int × Int → R) : F96x0x50 N w0 w24 w25 w26 w27 k0 = k0 (V96x0x50 N w0 w24 w25 w26 w27) := by
  unfold V96x0x50 F96x0x50
  repeat' (first | rfl | apply cond_k | (apply bnd_k; intro _))
noncomputable def J96x0x50 (L : List Lf) (k0 : Int × Int × Int × Int → R) : R := F96x0x50 N (lb L 0) (li L 24) (li L 25) (li L 26) (li L 27) k0
noncomputable def sh96x0x50 : Sh := { tmps := [(3, .c (.p 4 0)), (4, .c (.p 5 0)), (71, .c (.b))], mem := [(0, .box (.i .i64 :: .i .i64 :: .i .i64 :: .sl 66 :: .sl 68 :: rB 12 ([]))), (4, .box (rI 20 ([]))), (5, .box (rI 20 ([])))] }
noncomputable def K96x0x50w0 (L : List Lf) (p : Int × Int × Int × Int) : Ex × St := (.normal, mg (ofSh sh96x0x50 L) [3, 4] [] [0, 4, 5] [(4, .box (rL L 20 4 (.i .i64 p.1 :: .i .i64 p.2.1 :: .i .i64 p.2.2.1 :: .i .i64 p.2.2.2 :: rL L 28 12 ([]))))])
noncomputable def A96x0x50 (L : List Lf) : List (Bool × (Ex × St)) := bnd (J96x0x50 N L (fun p => p)) fun q => [(true, K96x0x50w0 L q)]
theorem raw96x0x50 (L : List Lf) : pc Try.prog (T95x0 N) (h96x0s6 N).h 1 100 96 50 sh96x0x50 L [3, 4] [0, 5, 4] = J96x0x50 N L (fun p => some (K96x0x50w0 L p)) := by kernel_rfl
noncomputable def h96x0s7 : Sg Try.prog 1 96 :=
  (h96x0s6 N).cut (A96x0x50 N) progOk (T95x0_ok N) fun L x hx => (raw96x0x50 N L).trans ((tot96x0x50 N ..).trans (alt0 _ _ hx))
noncomputable def F96x0 (v0 v1 v2 v3 v4 v5 v6 v7 v8 v9 v10 v11 v12 v13 v14 v15 v16 v17 v18 v19 : Int) (v26 : LD) (v27 v28 v29 v30 v31 v32 v33 v34 v35 v36 v37 v38 : Bool) (k0 : Ty2 → Option R) : Option R :=
  bnd (G96x0x9 N v26 (v26.length : Int) v27 v28 v29 v30 v31 v32 v33 v34 v35 v36 v37 v38 v0 0 v8 v9 v10 v11 v12 v13 v14 v15 v16 v17 v18 v19 false false false false false false false false false false) fun y0 =>
  bif y0.isSome then
    bnd (y0.getD default).2.2.2.2.2.2.2.2.2.2.2.2.2.2.2.2.2.2.2.1 fun y1 =>
    bnd (V96x0x32 N (!y1) v1 v2 (y0.getD default).2.2.2.2.2.2.2.2.2.2.2.2.2.2.2.1 (y0.getD default).2.2.2.2.2.2.2.2.2.2.2.2.2.2.2.2.1) fun y2 =>
    bnd (!(y0.getD default).2.2.2.2.2.2.2.2.2.2.2.2.2.2.2.2.2.1) fun y3 =>
    bnd (V96x0x44 N y3 v3) fun y4 =>
    bnd (y0.getD default).2.2.2.2.2.2.2.2.2.2.2.2.2.2.2.2.2.2.1 fun y5 =>
    bnd (V96x0x50 N (!y5) v4 v5 v6 v7) fun y6 =>
    k0 (y2.1, y2.2, y4, y6.1, y6.2.1, y6.2.2.1, y6.2.2.2, (y0.getD default).1, (y0.getD default).2.1, (y0.getD default).2.2.1, (y0.getD default).2.2.2.1, (y0.getD default).2.2.2.2.1, (y0.getD default).2.2.2.2.2.1, (y0.getD default).2.2.2.2.2.2.1, (y0.getD default).2.2.2.2.2.2.2.1, (y0.getD default).2.2.2.2.2.2.2.2.1, (y0.getD default).2.2.2.2.2.2.2.2.2.1, (y0.getD default).2.2.2.2.2.2.2.2.2.2.1, (y0.getD default).2.2.2.2.2.2.2.2.2.2.2.1)
  else
    none
noncomputable def G96x0 (v0 v1 v2 v3 v4 v5 v6 v7 v8 v9 v10 v11 v12 v13 v14 v15 v16 v17 v18 v19 : Int) (v26 : LD) (v27 v28 v29 v30 v31 v32 v33 v34 v35 v36 v37 v38 : Bool) : Option (Ty2) := F96x0 N v0 v1 v2 v3 v4 v5 v6 v7 v8 v9 v10 v11 v12 v13 v14 v15 v16 v17 v18 v19 v26 v27 v28 v29 v30 v31 v32 v33 v34 v35 v36 v37 v38 (fun p => some p)
theorem bind96x0 (v0 v1 v2 v3 v4 v5 v6 v7 v8 v9 v10 v11 v12 v13 v14 v15 v16 v17 v18 v19 : Int) (v26 : LD) (v27 v28 v29 v30 v31 v32 v33 v34 v35 v36 v37 v38 : Bool) (k0 : Ty2 → Option R) : F96x0 N v0 v1 v2 v3 v4 v5 v6 v7 v8 v9 v10 v11 v12 v13 v14 v15 v16 v17 v18 v19 v26 v27 v28 v29 v30 v31 v32 v33 v34 v35 v36 v37 v38 k0 = (G96x0 N v0 v1 v2 v3 v4 v5 v6 v7 v8 v9 v10 v11 v12 v13 v14 v15 v16 v17 v18 v19 v26 v27 v28 v29 v30 v31 v32 v33 v34 v35 v36 v37 v38).bind k0 := by
  unfold G96x0 F96x0
  repeat' (first | rfl | apply cond_b | (apply bnd_b; intro _))
noncomputable def J96x0 (L : List Lf) (k0 : Ty2 → Option R) : Option R := F96x0 N (li L 0) (li L 1) (li L 2) (li L 3) (li L 4) (li L 5) (li L 6) (li L 7) (li L 8) (li L 9) (li L 10) (li L 11) (li L 12) (li L 13) (li L 14) (li L 15) (li L 16) (li L 17) (li L 18) (li L 19) (ll L 26) (lb L 27) (lb L 28) (lb L 29) (lb L 30) (lb L 31) (lb L 32) (lb L 33) (lb L 34) (lb L 35) (lb L 36) (lb L 37) (lb L 38) k0
noncomputable def sh96x0 : Sh := { tmps := [(0, .c (.p 0 0)), (1, .g (rI 20 ([])))], mem := [(0, .box (.i .i64 :: .i .i64 :: .i .i64 :: .sl 66 :: .sl 68 :: rB 12 ([])))] }
noncomputable def K96x0w0 (L : List Lf) (p : Ty2) : Res := let p1 := p.2; let p2 := p1.2; let p3 := p2.2; let p4 := p3.2; let p5 := p4.2; let p6 := p5.2; let p7 := p6.2; let p8 := p7.2; let p9 := p8.2; let p10 := p9.2; let p11 := p10.2; let p12 := p11.2; let p13 := p12.2; let p14 := p13.2; let p15 := p14.2; let p16 := p15.2; let p17 := p16.2; let p18 := p17.2; ([.g [.i .i64 (li L 0), .i .i64 p.1, .i .i64 p1.1, .i .i64 p2.1, .i .i64 p3.1, .i .i64 p4.1, .i .i64 p5.1, .i .i64 p6.1, .i .i64 p7.1, .i .i64 p8.1, .i .i64 p9.1, .i .i64 p10.1, .i .i64 p11.1, .i .i64 p12.1, .i .i64 p13.1, .i .i64 p14.1, .i .i64 p15.1, .i .i64 p16.1, .i .i64 p17.1, .i .i64 p18]], mgA (ofSh sh96x0 L).mem [] [0])
noncomputable def A96x0 (L : List Lf) : List (Bool × Res) := bnd (J96x0 N L (fun p => some p)) fun q => [(q.isSome, K96x0w0 L (q.getD default))]
theorem raw96x0 (L : List Lf) : bd Try.prog (T95x0 N) (h96x0s7 N).h 96 sh96x0 L = J96x0 N L (fun p => some (K96x0w0 L p)) := by kernel_rfl
theorem ok96x0 : FnOk Try.prog 96 sh96x0 (A96x0 N) :=
  (h96x0s7 N).fn progOk (T95x0_ok N) fun L x hx => ((raw96x0 N L).trans ((bind96x0 N ..).trans (alt1 x hx)))
noncomputable def T96x0 : Oracle := ext 96 (spSh sh96x0 (A96x0 N)) (T95x0 N)
theorem T96x0_ok : OracleOk Try.prog (T96x0 N) := FnOk.to (ok96x0 N) (T95x0_ok N)
noncomputable def rg88x0 : List (Nat × List Nat) := [(0, [1, 0, 2]), (1, [0, 2, 4, 6]), (2, [4, 8, 2, 0, 6]), (3, [4, 8, 2, 9, 0, 6]), (4, [2, 4, 9, 0, 8, 6]), (5, [2, 4, 9, 0, 8, 6]), (6, [9, 0, 4, 8, 2, 6]), (7, [10, 9, 0, 4, 8, 2, 6]), (8, [0, 9, 4, 8, 2, 10, 11, 6]), (9, [57, 56, 55, 9, 4, 8, 0, 2, 10, 11, 6]), (10, [57, 55, 9, 4, 8, 0, 2, 10, 11, 6, 56]), (11, [13, 9, 12, 4, 8, 0, 2, 10, 11, 6, 57, 56, 55]), (12, [12, 4, 8, 0, 2, 10, 11, 6, 57, 56, 55, 9]), (13, [0, 12, 4, 2, 10, 11, 6, 57, 56, 55, 9, 8]), (14, [6]), (15, [57, 56, 55, 9, 4, 8, 0, 2, 10, 11, 6]), (16, [8, 9, 4, 11, 0, 6]), (17, [9, 4, 11, 0, 6]), (18, [11, 4, 0, 6]), (19, [4, 0, 6]), (20, [4, 0, 6]), (21, [0, 4, 6])]
noncomputable def hd88x0 : Hints := [(17, [2, 4, 9, 0, 8, 6, 29], [9, 7, 5, 0], []), (27, [57, 56, 55, 9, 4, 8, 0, 2, 10, 11, 6], [9, 7, 5, 0], []), (34, [13, 9, 12, 4, 8, 0, 2, 10, 11, 6, 57, 56, 55], [14, 9, 7, 5, 0], []), (38, [12, 4, 8, 0, 2, 10, 11, 6, 57, 56, 55, 9, 76], [9, 7, 5, 0], []), (40, [0, 12, 4, 2, 10, 11, 6, 57, 56, 55, 9, 8], [9, 7, 5, 0], []), (53, [9, 4, 11, 0, 6, 106], [7, 5, 0], []), (59, [4, 0, 6, 110], [7, 5, 0], [])]
noncomputable def h88x0s0 (N : Nat) : Sg Try.prog 1 88 := .start hd88x0 rg88x0
noncomputable def F88x0x17 (N : Nat) (w0 : Int) (w2 : Bool) (w26 w27 w28 w29 : Int) (k0 : Int × Int × Int × Int → Option R) : Option R :=
  bif w2 then
    bif (inB w0 4) then
      bnd (bif (Nat.beq w0.toNat 0) then w26 else (bif (Nat.beq w0.toNat 1) then w27 else (bif (Nat.beq w0.toNat 2) then w28 else w29))) fun y0 =>
      bif (inB w0 4) then
        bnd (bif (Nat.beq w0.toNat 0) then (IntKind.wrap .i64 (y0 + 1)) else w26) fun y1 =>
        bnd (bif (Nat.beq w0.toNat 1) then (IntKind.wrap .i64 (y0 + 1)) else w27) fun y2 =>
        bnd (bif (Nat.beq w0.toNat 2) then (IntKind.wrap .i64 (y0 + 1)) else w28) fun y3 =>
        bnd (bif (Nat.beq w0.toNat 3) then (IntKind.wrap .i64 (y0 + 1)) else w29) fun y4 =>
        k0 (y1, y2, y3, y4)
      else
        none
    else
      none
  else
    k0 (w26, w27, w28, w29)
noncomputable def G88x0x17 (w0 : Int) (w2 : Bool) (w26 w27 w28 w29 : Int) : Option (Int × Int × Int × Int) := F88x0x17 N w0 w2 w26 w27 w28 w29 (fun p => some p)
theorem bind88x0x17 (w0 : Int) (w2 : Bool) (w26 w27 w28 w29 : Int) (k0 : Int × Int × Int × Int → Option R) : F88x0x17 N w0 w2 w26 w27 w28 w29 k0 = (G88x0x17 N w0 w2 w26 w27 w28 w29).bind k0 := by
  unfold G88x0x17 F88x0x17
  repeat' (first | rfl | apply cond_b | (apply bnd_b; intro _))
noncomputable def J88x0x17 (L : List Lf) (k0 : Int × Int × Int × Int → Option R) : Option R := F88x0x17 N (li L 0) (lb L 2) (li L 26) (li L 27) (li L 28) (li L 29) k0
noncomputable def sh88x0x17 : Sh := { tmps := [(0, .c (.p 0 0)), (2, .c (.i .i64)), (4, .c (.p 5 0)), (6, .c (.p 7 0)), (8, .c (.p 9 0)), (9, .c (.i .i64)), (29, .c (.b))], mem := [(0, .box (.i .i64 :: .i .i64 :: .i .i64 :: .sl 66 :: .sl 68 :: rB 12 ([]))), (5, .box (rI 20 ([]))), (7, .box (rI 20 ([]))), (9, .box ([.s, .i .i64, .i .i64, .i .i64, .b]))] }
noncomputable def K88x0x17w0 (L : List Lf) (p : Int × Int × Int × Int) : Ex × St := (.normal, mg (ofSh sh88x0x17 L) [0, 2, 4, 6, 8, 9] [] [0, 5, 7, 9] [(5, .box (rL L 22 4 (.i .i64 p.1 :: .i .i64 p.2.1 :: .i .i64 p.2.2.1 :: .i .i64 p.2.2.2 :: rL L 30 12 ([]))))])
noncomputable def A88x0x17 (L : List Lf) : List (Bool × (Ex × St)) := bnd (J88x0x17 N L (fun p => some p)) fun q => [(q.isSome, K88x0x17w0 L (q.getD default))]
theorem raw88x0x17 (L : List Lf) : pc Try.prog (T96x0 N) (h88x0s0 N).h 1 100 88 17 sh88x0x17 L [9, 0, 4, 8, 2, 6] [9, 7, 5, 0] = J88x0x17 N L (fun p => some (K88x0x17w0 L p)) := by kernel_rfl
noncomputable def h88x0s1 : Sg Try.prog 1 88 :=
  (h88x0s0 N).cut (A88x0x17 N) progOk (T96x0_ok N) fun L x hx => (raw88x0x17 N L).trans ((bind88x0x17 N ..).trans (alt1 x hx))
noncomputable def F88x0x34 (w1 w73 w74 w76 : Int) (k0 : Bool → R) : R :=
  bif (w73 == 9) then
    bnd (V48x0 N w1 (IntKind.wrap .i64 (w74 - w76)) (IntKind.wrap .i64 (w74 - 1))) fun y0 =>
    k0 y0
  else
    k0 false
noncomputable def V88x0x34 (w1 w73 w74 w76 : Int) : Bool := F88x0x34 N w1 w73 w74 w76 (fun p => p)
theorem tot88x0x34 (w1 w73 w74 w76 : Int) (k0 : Bool → R) : F88x0x34 N w1 w73 w74 w76 k0 = k0 (V88x0x34 N w1 w73 w74 w76) := by
  unfold V88x0x34 F88x0x34
  repeat' (first | rfl | apply cond_k | (apply bnd_k; intro _))
noncomputable def J88x0x34 (L : List Lf) (k0 : Bool → R) : R := F88x0x34 N (li L 1) (li L 73) (li L 74) (li L 76) k0
noncomputable def sh88x0x34 : Sh := { tmps := [(0, .c (.p 0 0)), (2, .c (.i .i64)), (4, .c (.p 5 0)), (6, .c (.p 7 0)), (8, .c (.p 9 0)), (9, .c (.i .i64)), (10, .c (.b)), (11, .c (.b)), (12, .c (.i .i64)), (13, .c (.p 14 0)), (55, .c (.sl 68)), (56, .c (.i .i64)), (57, .c (.i .i64))], mem := [(0, .box (.i .i64 :: .i .i64 :: .i .i64 :: .sl 66 :: .sl 68 :: rB 12 ([]))), (5, .box (rI 20 ([]))), (7, .box (rI 20 ([]))), (9, .box ([.s, .i .i64, .i .i64, .i .i64, .b])), (14, .box (rI 5 ([.s])))] }
noncomputable def K88x0x34w0 (L : List Lf) (p : Bool) : Ex × St := (.normal, mg (ofSh sh88x0x34 L) [0, 2, 4, 6, 8, 9, 10, 11, 12, 55, 56, 57, 76] [(76, .c (.b p))] [0, 5, 7, 9] [])
noncomputable def A88x0x34 (L : List Lf) : List (Bool × (Ex × St)) := bnd (J88x0x34 N L (fun p => p)) fun q => [(true, K88x0x34w0 L q)]
theorem raw88x0x34 (L : List Lf) : pc Try.prog (T96x0 N) (h88x0s1 N).h 1 100 88 34 sh88x0x34 L [12, 4, 8, 0, 2, 10, 11, 6, 57, 56, 55, 9, 76] [9, 7, 5, 0] = J88x0x34 N L (fun p => some (K88x0x34w0 L p)) := by kernel_rfl
noncomputable def h88x0s2 : Sg Try.prog 1 88 :=
  (h88x0s1 N).cut (A88x0x34 N) progOk (T96x0_ok N) fun L x hx => (raw88x0x34 N L).trans ((tot88x0x34 N ..).trans (alt0 _ _ hx))
noncomputable def F88x0x38 (N : Nat) (w4 : Int) (w9 : Bool) (w37 w38 w39 w40 w41 w42 w43 w44 w45 w46 w47 w48 w70 : Int) (k0 : Ty3 → Option R) : Option R :=
  bif w9 then
    bif (inB w4 12) then
      bnd (bif (Nat.beq w4.toNat 0) then w37 else (bif (Nat.beq w4.toNat 1) then w38 else (bif (Nat.beq w4.toNat 2) then w39 else (bif (Nat.beq w4.toNat 3) then w40 else (bif (Nat.beq w4.toNat 4) then w41 else (bif (Nat.beq w4.toNat 5) then w42 else (bif (Nat.beq w4.toNat 6) then w43 else (bif (Nat.beq w4.toNat 7) then w44 else (bif (Nat.beq w4.toNat 8) then w45 else (bif (Nat.beq w4.toNat 9) then w46 else (bif (Nat.beq w4.toNat 10) then w47 else w48))))))))))) fun y0 =>
      bif (inB w4 12) then
        bnd (bif (Nat.beq w4.toNat 0) then (IntKind.wrap .i64 (y0 + w70)) else w37) fun y1 =>
        bnd (bif (Nat.beq w4.toNat 1) then (IntKind.wrap .i64 (y0 + w70)) else w38) fun y2 =>
        bnd (bif (Nat.beq w4.toNat 2) then (IntKind.wrap .i64 (y0 + w70)) else w39) fun y3 =>
        bnd (bif (Nat.beq w4.toNat 3) then (IntKind.wrap .i64 (y0 + w70)) else w40) fun y4 =>
        bnd (bif (Nat.beq w4.toNat 4) then (IntKind.wrap .i64 (y0 + w70)) else w41) fun y5 =>
        bnd (bif (Nat.beq w4.toNat 5) then (IntKind.wrap .i64 (y0 + w70)) else w42) fun y6 =>
        bnd (bif (Nat.beq w4.toNat 6) then (IntKind.wrap .i64 (y0 + w70)) else w43) fun y7 =>
        bnd (bif (Nat.beq w4.toNat 7) then (IntKind.wrap .i64 (y0 + w70)) else w44) fun y8 =>
        bnd (bif (Nat.beq w4.toNat 8) then (IntKind.wrap .i64 (y0 + w70)) else w45) fun y9 =>
        bnd (bif (Nat.beq w4.toNat 9) then (IntKind.wrap .i64 (y0 + w70)) else w46) fun y10 =>
        bnd (bif (Nat.beq w4.toNat 10) then (IntKind.wrap .i64 (y0 + w70)) else w47) fun y11 =>
        bnd (bif (Nat.beq w4.toNat 11) then (IntKind.wrap .i64 (y0 + w70)) else w48) fun y12 =>
        k0 (y1, y2, y3, y4, y5, y6, y7, y8, y9, y10, y11, y12)
      else
        none
    else
      none
  else
    k0 (w37, w38, w39, w40, w41, w42, w43, w44, w45, w46, w47, w48)
noncomputable def G88x0x38 (w4 : Int) (w9 : Bool) (w37 w38 w39 w40 w41 w42 w43 w44 w45 w46 w47 w48 w70 : Int) : Option (Ty3) := F88x0x38 N w4 w9 w37 w38 w39 w40 w41 w42 w43 w44 w45 w46 w47 w48 w70 (fun p => some p)
theorem bind88x0x38 (w4 : Int) (w9 : Bool) (w37 w38 w39 w40 w41 w42 w43 w44 w45 w46 w47 w48 w70 : Int) (k0 : Ty3 → Option R) : F88x0x38 N w4 w9 w37 w38 w39 w40 w41 w42 w43 w44 w45 w46 w47 w48 w70 k0 = (G88x0x38 N w4 w9 w37 w38 w39 w40 w41 w42 w43 w44 w45 w46 w47 w48 w70).bind k0 := by
  unfold G88x0x38 F88x0x38
  repeat' (first | rfl | apply cond_b | (apply bnd_b; intro _))
noncomputable def J88x0x38 (L : List Lf) (k0 : Ty3 → Option R) : Option R := F88x0x38 N (li L 4) (lb L 9) (li L 37) (li L 38) (li L 39) (li L 40) (li L 41) (li L 42) (li L 43) (li L 44) (li L 45) (li L 46) (li L 47) (li L 48) (li L 70) k0
noncomputable def sh88x0x38 : Sh := { tmps := [(0, .c (.p 0 0)), (2, .c (.i .i64)), (4, .c (.p 5 0)), (6, .c (.p 7 0)), (8, .c (.p 9 0)), (9, .c (.i .i64)), (10, .c (.b)), (11, .c (.b)), (12, .c (.i .i64)), (55, .c (.sl 68)), (56, .c (.i .i64)), (57, .c (.i .i64)), (76, .c (.b))], mem := [(0, .box (.i .i64 :: .i .i64 :: .i .i64 :: .sl 66 :: .sl 68 :: rB 12 ([]))), (5, .box (rI 20 ([]))), (7, .box (rI 20 ([]))), (9, .box ([.s, .i .i64, .i .i64, .i .i64, .b]))] }
noncomputable def K88x0x38w0 (L : List Lf) (p : Ty3) : Ex × St := let p1 := p.2; let p2 := p1.2; let p3 := p2.2; let p4 := p3.2; let p5 := p4.2; let p6 := p5.2; let p7 := p6.2; let p8 := p7.2; let p9 := p8.2; let p10 := p9.2; let p11 := p10.2; (.normal, mg (ofSh sh88x0x38 L) [0, 2, 4, 6, 8, 9, 10, 11, 12, 55, 56, 57] [] [0, 5, 7, 9] [(5, .box (rL L 29 8 ([.i .i64 p.1, .i .i64 p1.1, .i .i64 p2.1, .i .i64 p3.1, .i .i64 p4.1, .i .i64 p5.1, .i .i64 p6.1, .i .i64 p7.1, .i .i64 p8.1, .i .i64 p9.1, .i .i64 p10.1, .i .i64 p11])))])
noncomputable def A88x0x38 (L : List Lf) : List (Bool × (Ex × St)) := bnd (J88x0x38 N L (fun p => some p)) fun q => [(q.isSome, K88x0x38w0 L (q.getD default))]
theorem raw88x0x38 (L : List Lf) : pc Try.prog (T96x0 N) (h88x0s2 N).h 1 100 88 38 sh88x0x38 L [0, 12, 4, 2, 10, 11, 6, 57, 56, 55, 9, 8] [9, 7, 5, 0] = J88x0x38 N L (fun p => some (K88x0x38w0 L p)) := by kernel_rfl
noncomputable def h88x0s3 : Sg Try.prog 1 88 :=
  (h88x0s2 N).cut (A88x0x38 N) progOk (T96x0_ok N) fun L x hx => (raw88x0x38 N L).trans ((bind88x0x38 N ..).trans (alt1 x hx))
noncomputable def F88x0x40 (w0 : Int) (w2 w3 : Bool) (w4 w9 : Int) (w13 w15 : LD) (w16 w17 w18 w19 w20 w21 w22 w23 w24 w25 w26 w27 : Bool) (w28 w29 w30 w31 w32 w33 w34 w35 w36 w37 w38 w39 w40 w41 w42 w43 w44 w45 w46 w47 : Int) (k0 : Bool → Option R) : Option R :=
  bif (inB w4 12) then
    bnd (bif (Nat.beq w4.toNat 0) then w16 else (bif (Nat.beq w4.toNat 1) then w17 else (bif (Nat.beq w4.toNat 2) then w18 else (bif (Nat.beq w4.toNat 3) then w19 else (bif (Nat.beq w4.toNat 4) then w20 else (bif (Nat.beq w4.toNat 5) then w21 else (bif (Nat.beq w4.toNat 6) then w22 else (bif (Nat.beq w4.toNat 7) then w23 else (bif (Nat.beq w4.toNat 8) then w24 else (bif (Nat.beq w4.toNat 9) then w25 else (bif (Nat.beq w4.toNat 10) then w26 else w27))))))))))) fun y0 =>
    bif (!y0) then
      bnd (G95x0 N w28 w29 w30 w31 w32 w33 w34 w35 w36 w37 w38 w39 w40 w41 w42 w43 w44 w45 w46 w47 w4 w0 w2 w3 w9 w13 w15) fun y1 =>
      bif y1.isSome then
        k0 (!(y1.getD default))
      else
        none
    else
      k0 false
  else
    none
noncomputable def G88x0x40 (w0 : Int) (w2 w3 : Bool) (w4 w9 : Int) (w13 w15 : LD) (w16 w17 w18 w19 w20 w21 w22 w23 w24 w25 w26 w27 : Bool) (w28 w29 w30 w31 w32 w33 w34 w35 w36 w37 w38 w39 w40 w41 w42 w43 w44 w45 w46 w47 : Int) : Option (Bool) := F88x0x40 N w0 w2 w3 w4 w9 w13 w15 w16 w17 w18 w19 w20 w21 w22 w23 w24 w25 w26 w27 w28 w29 w30 w31 w32 w33 w34 w35 w36 w37 w38 w39 w40 w41 w42 w43 w44 w45 w46 w47 (fun p => some p)
theorem bind88x0x40 (w0 : Int) (w2 w3 : Bool) (w4 w9 : Int) (w13 w15 : LD) (w16 w17 w18 w19 w20 w21 w22 w23 w24 w25 w26 w27 : Bool) (w28 w29 w30 w31 w32 w33 w34 w35 w36 w37 w38 w39 w40 w41 w42 w43 w44 w45 w46 w47 : Int) (k0 : Bool → Option R) : F88x0x40 N w0 w2 w3 w4 w9 w13 w15 w16 w17 w18 w19 w20 w21 w22 w23 w24 w25 w26 w27 w28 w29 w30 w31 w32 w33 w34 w35 w36 w37 w38 w39 w40 w41 w42 w43 w44 w45 w46 w47 k0 = (G88x0x40 N w0 w2 w3 w4 w9 w13 w15 w16 w17 w18 w19 w20 w21 w22 w23 w24 w25 w26 w27 w28 w29 w30 w31 w32 w33 w34 w35 w36 w37 w38 w39 w40 w41 w42 w43 w44 w45 w46 w47).bind k0 := by
  unfold G88x0x40 F88x0x40
  repeat' (first | rfl | apply cond_b | (apply bnd_b; intro _))
noncomputable def J88x0x40 (L : List Lf) (k0 : Bool → Option R) : Option R := F88x0x40 N (li L 0) (lb L 2) (lb L 3) (li L 4) (li L 9) (ll L 13) (ll L 15) (lb L 16) (lb L 17) (lb L 18) (lb L 19) (lb L 20) (lb L 21) (lb L 22) (lb L 23) (lb L 24) (lb L 25) (lb L 26) (lb L 27) (li L 28) (li L 29) (li L 30) (li L 31) (li L 32) (li L 33) (li L 34) (li L 35) (li L 36) (li L 37) (li L 38) (li L 39) (li L 40) (li L 41) (li L 42) (li L 43) (li L 44) (li L 45) (li L 46) (li L 47) k0
noncomputable def sh88x0x40 : Sh := { tmps := [(0, .c (.p 0 0)), (2, .c (.i .i64)), (4, .c (.p 5 0)), (6, .c (.p 7 0)), (8, .c (.p 9 0)), (9, .c (.i .i64)), (10, .c (.b)), (11, .c (.b)), (12, .c (.i .i64)), (55, .c (.sl 68)), (56, .c (.i .i64)), (57, .c (.i .i64))], mem := [(0, .box (.i .i64 :: .i .i64 :: .i .i64 :: .sl 66 :: .sl 68 :: rB 12 ([]))), (5, .box (rI 20 ([]))), (7, .box (rI 20 ([]))), (9, .box ([.s, .i .i64, .i .i64, .i .i64, .b]))] }
noncomputable def K88x0x40w0 (L : List Lf) (p : Bool) : Ex × St := (.normal, mg (ofSh sh88x0x40 L) [0, 2, 4, 6, 8, 9, 10, 11, 55, 56, 57, 102] [(102, .c (.b p))] [0, 5, 7, 9] [])
noncomputable def A88x0x40 (L : List Lf) : List (Bool × (Ex × St)) := bnd (J88x0x40 N L (fun p => some p)) fun q => [(q.isSome, K88x0x40w0 L (q.getD default))]
theorem raw88x0x40 (L : List Lf) : pc Try.prog (T96x0 N) (h88x0s3 N).h 1 100 88 40 sh88x0x40 L [6, 57, 56, 55, 9, 4, 8, 0, 2, 10, 11, 102] [9, 7, 5, 0] = J88x0x40 N L (fun p => some (K88x0x40w0 L p)) := by kernel_rfl
noncomputable def h88x0s4 : Sg Try.prog 1 88 :=
  (h88x0s3 N).cut (A88x0x40 N) progOk (T96x0_ok N) fun L x hx => (raw88x0x40 N L).trans ((bind88x0x40 N ..).trans (alt1 x hx))
noncomputable def S88x0x27 (w0 w1 : Int) (w2 w3 : Bool) (w5 : LD) (w6 w8 : Int) (w12 w14 : LD) (w15 w16 w17 w18 w19 w20 w21 w22 w23 w24 w25 w26 : Bool) (w27 w28 w29 w30 w31 w32 w33 w34 w68 : Int) (w7 w35 w36 w37 w38 w39 w40 w41 w42 w43 w44 w45 w46 : Int) (kr : Int → Int → Int → Int → Int → Int → Int → Int → Int → Int → Int → Int → Int → Option R) (k0 : Ty3 → Option R) (k1 : Ty3 → Option R) : Option R :=
  bif (decide (w7 < w6)) then
    bif (inB w7 w5.length) then
      bnd (V88x0x34 N w1 ((w5.getD w7.toNat (.i 0)).cell 0).toI ((w5.getD w7.toNat (.i 0)).cell 1).toI ((w5.getD w7.toNat (.i 0)).cell 3).toI) fun y0 =>
      bnd (G88x0x38 N w7 y0 w35 w36 w37 w38 w39 w40 w41 w42 w43 w44 w45 w46 w68) fun y1 =>
      bif y1.isSome then
        bnd (G88x0x40 N w0 w2 w3 w7 w8 w12 w14 w15 w16 w17 w18 w19 w20 w21 w22 w23 w24 w25 w26 w27 w28 w29 w30 w31 w32 w33 w34 (y1.getD default).1 (y1.getD default).2.1 (y1.getD default).2.2.1 (y1.getD default).2.2.2.1 (y1.getD default).2.2.2.2.1 (y1.getD default).2.2.2.2.2.1 (y1.getD default).2.2.2.2.2.2.1 (y1.getD default).2.2.2.2.2.2.2.1 (y1.getD default).2.2.2.2.2.2.2.2.1 (y1.getD default).2.2.2.2.2.2.2.2.2.1 (y1.getD default).2.2.2.2.2.2.2.2.2.2.1 (y1.getD default).2.2.2.2.2.2.2.2.2.2.2) fun y2 =>
        bif y2.isSome then
          bif (y2.getD default) then
            k0 (y1.getD default)
          else
            kr (IntKind.wrap .i64 (w7 + 1)) (y1.getD default).1 (y1.getD default).2.1 (y1.getD default).2.2.1 (y1.getD default).2.2.2.1 (y1.getD default).2.2.2.2.1 (y1.getD default).2.2.2.2.2.1 (y1.getD default).2.2.2.2.2.2.1 (y1.getD default).2.2.2.2.2.2.2.1 (y1.getD default).2.2.2.2.2.2.2.2.1 (y1.getD default).2.2.2.2.2.2.2.2.2.1 (y1.getD default).2.2.2.2.2.2.2.2.2.2.1 (y1.getD default).2.2.2.2.2.2.2.2.2.2.2
        else
          none
      else
        none
    else
      none
  else
    k1 (w35, w36, w37, w38, w39, w40, w41, w42, w43, w44, w45, w46)
noncomputable def L88x0x27 (N : Nat) {R : Type} (w0 w1 : Int) (w2 w3 : Bool) (w5 : LD) (w6 w8 : Int) (w12 w14 : LD) (w15 w16 w17 w18 w19 w20 w21 w22 w23 w24 w25 w26 : Bool) (w27 w28 w29 w30 w31 w32 w33 w34 w68 : Int) : Nat → Int → Int → Int → Int → Int → Int → Int → Int → Int → Int → Int → Int → Int → (Ty3 → Option R) → (Ty3 → Option R) → Option R
  | 0, _, _, _, _, _, _, _, _, _, _, _, _, _, _, _ => none
  | m + 1, w7, w35, w36, w37, w38, w39, w40, w41, w42, w43, w44, w45, w46, k0, k1 => S88x0x27 N w0 w1 w2 w3 w5 w6 w8 w12 w14 w15 w16 w17 w18 w19 w20 w21 w22 w23 w24 w25 w26 w27 w28 w29 w30 w31 w32 w33 w34 w68 w7 w35 w36 w37 w38 w39 w40 w41 w42 w43 w44 w45 w46 (fun w7 w35 w36 w37 w38 w39 w40 w41 w42 w43 w44 w45 w46 => L88x0x27 N w0 w1 w2 w3 w5 w6 w8 w12 w14 w15 w16 w17 w18 w19 w20 w21 w22 w23 w24 w25 w26 w27 w28 w29 w30 w31 w32 w33 w34 w68 m w7 w35 w36 w37 w38 w39 w40 w41 w42 w43 w44 w45 w46 k0 k1) k0 k1
noncomputable def G88x0x27 (w0 w1 : Int) (w2 w3 : Bool) (w5 : LD) (w6 w8 : Int) (w12 w14 : LD) (w15 w16 w17 w18 w19 w20 w21 w22 w23 w24 w25 w26 : Bool) (w27 w28 w29 w30 w31 w32 w33 w34 w68 : Int) (w7 w35 w36 w37 w38 w39 w40 w41 w42 w43 w44 w45 w46 : Int) : Option (Sum (Ty3) (Ty3)) := L88x0x27 N (R := (Sum (Ty3) (Ty3))) w0 w1 w2 w3 w5 w6 w8 w12 w14 w15 w16 w17 w18 w19 w20 w21 w22 w23 w24 w25 w26 w27 w28 w29 w30 w31 w32 w33 w34 w68 N w7 w35 w36 w37 w38 w39 w40 w41 w42 w43 w44 w45 w46 (fun p => some (.inl p)) (fun p => some (.inr p))
noncomputable def J88x0x27 (L x : List Lf) (kr : List Lf → Option R) (k0 : Ty3 → Option R) (k1 : Ty3 → Option R) : Option R := S88x0x27 N (li L 0) (li L 1) (lb L 2) (lb L 3) (ll L 5) (li L 6) (li L 8) (ll L 12) (ll L 14) (lb L 15) (lb L 16) (lb L 17) (lb L 18) (lb L 19) (lb L 20) (lb L 21) (lb L 22) (lb L 23) (lb L 24) (lb L 25) (lb L 26) (li L 27) (li L 28) (li L 29) (li L 30) (li L 31) (li L 32) (li L 33) (li L 34) (li L 68) (li x 0) (li x 1) (li x 2) (li x 3) (li x 4) (li x 5) (li x 6) (li x 7) (li x 8) (li x 9) (li x 10) (li x 11) (li x 12) (fun w7 w35 w36 w37 w38 w39 w40 w41 w42 w43 w44 w45 w46 => kr [.i w7, .i w35, .i w36, .i w37, .i w38, .i w39, .i w40, .i w41, .i w42, .i w43, .i w44, .i w45, .i w46]) k0 k1
theorem sb88x0x27 (L x : List Lf) (kr : List Lf → Option R) (k0 : Ty3 → Option R) (k1 : Ty3 → Option R) : J88x0x27 N L x kr k0 k1 = (J88x0x27 N L x (fun y => some (.inl y)) (fun p => some (.inr (.inl p))) (fun p => some (.inr (.inr p)))).bind (sumE kr (sumE k0 k1)) := by
  unfold J88x0x27 S88x0x27
  repeat' (first | rfl | apply cond_b | (apply bnd_b; intro _))
noncomputable def Q88x0x27 (L : List Lf) (m : Nat) (x : List Lf) : Option (Sum (Ty3) (Ty3)) := L88x0x27 N (R := (Sum (Ty3) (Ty3))) (li L 0) (li L 1) (lb L 2) (lb L 3) (ll L 5) (li L 6) (li L 8) (ll L 12) (ll L 14) (lb L 15) (lb L 16) (lb L 17) (lb L 18) (lb L 19) (lb L 20) (lb L 21) (lb L 22) (lb L 23) (lb L 24) (lb L 25) (lb L 26) (li L 27) (li L 28) (li L 29) (li L 30) (li L 31) (li L 32) (li L 33) (li L 34) (li L 68) m (li x 0) (li x 1) (li x 2) (li x 3) (li x 4) (li x 5) (li x 6) (li x 7) (li x 8) (li x 9) (li x 10) (li x 11) (li x 12) (fun p => some (.inl p)) (fun p => some (.inr p))
noncomputable def sh88x0x27 : Sh := { tmps := [(0, .c (.p 0 0)), (2, .c (.i .i64)), (4, .c (.p 5 0)), (6, .c (.p 7 0)), (8, .c (.p 9 0)), (9, .c (.i .i64)), (10, .c (.b)), (11, .c (.b)), (55, .c (.sl 68)), (56, .c (.i .i64)), (57, .c (.i .i64))], mem := [(0, .box (.i .i64 :: .i .i64 :: .i .i64 :: .sl 66 :: .sl 68 :: rB 12 ([]))), (5, .box (rI 20 ([]))), (7, .box (rI 20 ([]))), (9, .box ([.s, .i .i64, .i .i64, .i .i64, .b]))] }
noncomputable def K88x0x27w0 (L : List Lf) (p : Ty3) : Ex × St := let p1 := p.2; let p2 := p1.2; let p3 := p2.2; let p4 := p3.2; let p5 := p4.2; let p6 := p5.2; let p7 := p6.2; let p8 := p7.2; let p9 := p8.2; let p10 := p9.2; let p11 := p10.2; (.ret, mg (ofSh sh88x0x27 L) [6, 7] [(7, .c (.b false))] [0, 5, 7, 9] [(5, .box (rL L 27 8 ([.i .i64 p.1, .i .i64 p1.1, .i .i64 p2.1, .i .i64 p3.1, .i .i64 p4.1, .i .i64 p5.1, .i .i64 p6.1, .i .i64 p7.1, .i .i64 p8.1, .i .i64 p9.1, .i .i64 p10.1, .i .i64 p11]))), (7, .box [.i .i64 0, .i .i64 0, .i .i64 0, .i .i64 0, .i .i64 0, .i .i64 0, .i .i64 0, .i .i64 0, .i .i64 0, .i .i64 0, .i .i64 0, .i .i64 0, .i .i64 0, .i .i64 0, .i .i64 0, .i .i64 0, .i .i64 0, .i .i64 0, .i .i64 0, .i .i64 0])])
noncomputable def K88x0x27w1 (L : List Lf) (p : Ty3) : Ex × St := let p1 := p.2; let p2 := p1.2; let p3 := p2.2; let p4 := p3.2; let p5 := p4.2; let p6 := p5.2; let p7 := p6.2; let p8 := p7.2; let p9 := p8.2; let p10 := p9.2; let p11 := p10.2; ((.exit 0), mg (ofSh sh88x0x27 L) [0, 4, 6, 8, 9, 11] [] [0, 5, 7, 9] [(5, .box (rL L 27 8 ([.i .i64 p.1, .i .i64 p1.1, .i .i64 p2.1, .i .i64 p3.1, .i .i64 p4.1, .i .i64 p5.1, .i .i64 p6.1, .i .i64 p7.1, .i .i64 p8.1, .i .i64 p9.1, .i .i64 p10.1, .i .i64 p11])))])
noncomputable def A88x0x27 (L : List Lf) : List (Bool × (Ex × St)) := bnd (Q88x0x27 N L N (pk sh88x0x27 [7, 35, 36, 37, 38, 39, 40, 41, 42, 43, 44, 45, 46] L)) fun q => [((inlB q), K88x0x27w0 L (inlV q)), ((inrQ q).isSome, K88x0x27w1 L ((inrQ q).getD default))]
theorem step88x0x27 (m : Nat) (kn : St → Option (Ex × St)) (L x : List Lf) : lpB Try.prog (T96x0 N) (h88x0s4 N).h 1 88 27 sh88x0x27 [7, 35, 36, 37, 38, 39, 40, 41, 42, 43, 44, 45, 46] [6, 7, 8, 9, 4, 11, 0] [0, 7, 9, 5] (m + 100) kn L x = J88x0x27 N L x (fun y => kn (ofSh sh88x0x27 (mx sh88x0x27 [7, 35, 36, 37, 38, 39, 40, 41, 42, 43, 44, 45, 46] L y))) (fun p => some (K88x0x27w0 L p)) (fun p => some (K88x0x27w1 L p)) := by kernel_rfl
noncomputable def h88x0s5 : Sg Try.prog 1 88 :=
  (h88x0s4 N).lp (A88x0x27 N) N progOk (T96x0_ok N) (fun m kn L x => (step88x0x27 N m kn L x).trans (sb88x0x27 N L x _ _ _)) (fun L m x => sb88x0x27 N L x (Q88x0x27 N L m) (fun p => some (.inl p)) (fun p => some (.inr p))) fun L x hx => (altS alt1) x hx
noncomputable def F88x0x53 (N : Nat) (w0 : Int) (w2 : Bool) (w25 : Int) (k0 : Int → R) : R :=
  bif w2 then
    k0 (IntKind.wrap .i64 (w0 + 1))
  else
    k0 w25
noncomputable def V88x0x53 (w0 : Int) (w2 : Bool) (w25 : Int) : Int := F88x0x53 N w0 w2 w25 (fun p => p)
theorem tot88x0x53 (w0 : Int) (w2 : Bool) (w25 : Int) (k0 : Int → R) : F88x0x53 N w0 w2 w25 k0 = k0 (V88x0x53 N w0 w2 w25) := by
  unfold V88x0x53 F88x0x53
  repeat' (first | rfl | apply cond_k | (apply bnd_k; intro _))
noncomputable def sh88x0x53 : Sh := { tmps := [(0, .c (.p 0 0)), (4, .c (.p 5 0)), (6, .c (.p 7 0)), (9, .c (.i .i64)), (11, .c (.b)), (106, .c (.b))], mem := [(0, .box (.i .i64 :: .i .i64 :: .i .i64 :: .sl 66 :: .sl 68 :: rB 12 ([]))), (5, .box (rI 20 ([]))), (7, .box (rI 20 ([])))] }
noncomputable def K88x0x53w0 (L : List Lf) (p : Int) : Ex × St := (.normal, mg (ofSh sh88x0x53 L) [0, 4, 6, 11] [] [0, 5, 7] [(5, .box (.i .i64 (li L 22) :: .i .i64 (li L 23) :: .i .i64 (li L 24) :: .i .i64 p :: rL L 26 16 ([])))])
noncomputable def A88x0x53 (L : List Lf) : List (Bool × (Ex × St)) := bnd (F88x0x53 N (li L 0) (lb L 2) (li L 25) (fun p => p)) fun q => [(true, K88x0x53w0 L q)]
theorem raw88x0x53 (L : List Lf) : pc Try.prog (T96x0 N) (h88x0s5 N).h 1 100 88 53 sh88x0x53 L [11, 4, 0, 6] [7, 5, 0] = F88x0x53 N (li L 0) (lb L 2) (li L 25) (fun p => some (K88x0x53w0 L p)) := by kernel_rfl
noncomputable def h88x0s6 : Sg Try.prog 1 88 :=
  (h88x0s5 N).cut (A88x0x53 N) progOk (T96x0_ok N) fun L x hx => (raw88x0x53 N L).trans ((tot88x0x53 N ..).trans (alt0 _ _ hx))
noncomputable def F88x0x59 (N : Nat) (w0 : Bool) (w21 w22 w24 w25 w26 w27 : Int) (k0 : Int × Int × Int × Int × Int × Int → R) : R :=
  bif w0 then
    k0 (0, w21, 0, 0, 0, 0)
  else
    k0 (w21, w22, w24, w25, w26, w27)
noncomputable def V88x0x59 (w0 : Bool) (w21 w22 w24 w25 w26 w27 : Int) : Int × Int × Int × Int × Int × Int := F88x0x59 N w0 w21 w22 w24 w25 w26 w27 (fun p => p)
theorem tot88x0x59 (w0 : Bool) (w21 w22 w24 w25 w26 w27 : Int) (k0 : Int × Int × Int × Int × Int × Int → R) : F88x0x59 N w0 w21 w22 w24 w25 w26 w27 k0 = k0 (V88x0x59 N w0 w21 w22 w24 w25 w26 w27) := by
  unfold V88x0x59 F88x0x59
  repeat' (first | rfl | apply cond_k | (apply bnd_k; intro _))
noncomputable def J88x0x59 (L : List Lf) (k0 : Int × Int × Int × Int × Int × Int → R) : R := F88x0x59 N (lb L 0) (li L 21) (li L 22) (li L 24) (li L 25) (li L 26) (li L 27) k0
noncomputable def sh88x0x59 : Sh := { tmps := [(0, .c (.p 0 0)), (4, .c (.p 5 0)), (6, .c (.p 7 0)), (110, .c (.b))], mem := [(0, .box (.i .i64 :: .i .i64 :: .i .i64 :: .sl 66 :: .sl 68 :: rB 12 ([]))), (5, .box (rI 20 ([]))), (7, .box (rI 20 ([])))] }
noncomputable def K88x0x59w0 (L : List Lf) (p : Int × Int × Int × Int × Int × Int) : Ex × St := let p1 := p.2; let p2 := p1.2; let p3 := p2.2; let p4 := p3.2; let p5 := p4.2; (.normal, mg (ofSh sh88x0x59 L) [0, 4, 6] [] [0, 5, 7] [(5, .box (.i .i64 (li L 20) :: .i .i64 p.1 :: .i .i64 p1.1 :: .i .i64 (li L 23) :: .i .i64 p2.1 :: .i .i64 p3.1 :: .i .i64 p4.1 :: .i .i64 p5 :: rL L 28 12 ([])))])
noncomputable def A88x0x59 (L : List Lf) : List (Bool × (Ex × St)) := bnd (J88x0x59 N L (fun p => p)) fun q => [(true, K88x0x59w0 L q)]
theorem raw88x0x59 (L : List Lf) : pc Try.prog (T96x0 N) (h88x0s6 N).h 1 100 88 59 sh88x0x59 L [4, 0, 6] [7, 5, 0] = J88x0x59 N L (fun p => some (K88x0x59w0 L p)) := by kernel_rfl
noncomputable def h88x0s7 : Sg Try.prog 1 88 :=
  (h88x0s6 N).cut (A88x0x59 N) progOk (T96x0_ok N) fun L x hx => (raw88x0x59 N L).trans ((tot88x0x59 N ..).trans (alt0 _ _ hx))
noncomputable def F88x0 (v0 v1 v2 v3 v4 v5 v6 v7 v8 v9 v10 v11 v12 v13 v14 v15 v16 v17 v18 v19 v20 v21 v22 : Int) (v25 v27 : LD) (v28 v29 v30 v31 v32 v33 v34 v35 v36 v37 v38 v39 : Bool) (k0 : Ty1 → Option R) : Option R :=
  bnd (G70x0 N v25 v20) fun y0 =>
  bif y0.isSome then
    bnd (G88x0x17 N v20 (decide (v20 ≥ 0)) v4 v5 v6 v7) fun y1 =>
    bif y1.isSome then
      bnd (bif ((v0.tmod 7) == 6) then true else (v0 == (IntKind.wrap .i64 (v22 - 1)))) fun y2 =>
      bnd (G88x0x27 N v20 v0 ((v0.tmod 7) == 6) y2 v27 (v27.length : Int) v21 v25 v27 v28 v29 v30 v31 v32 v33 v34 v35 v36 v37 v38 v39 v0 (IntKind.wrap .i64 (v1 + (y0.getD default).2.1)) v2 v3 (y1.getD default).1 (y1.getD default).2.1 (y1.getD default).2.2.1 (y1.getD default).2.2.2 (y0.getD default).2.1 0 v8 v9 v10 v11 v12 v13 v14 v15 v16 v17 v18 v19) fun y3 =>
      bif (inlB y3) then
        k0 (0, 0, 0, 0, 0, 0, 0, 0, 0, 0, 0, 0, 0, 0, 0, 0, 0, 0, 0, 0, false)
      else
        bif (inrQ y3).isSome then
          bnd (V88x0x53 N v0 (y0.getD default).2.2.2.2 v3) fun y4 =>
          bnd (V88x0x59 N y2 (IntKind.wrap .i64 (v1 + (y0.getD default).2.1)) v2 (y1.getD default).1 (y1.getD default).2.1 (y1.getD default).2.2.1 (y1.getD default).2.2.2) fun y5 =>
          bnd (G96x0 N (IntKind.wrap .i64 (v0 + 1)) y5.1 y5.2.1 y4 y5.2.2.1 y5.2.2.2.1 y5.2.2.2.2.1 y5.2.2.2.2.2 ((inrQ y3).getD default).1 ((inrQ y3).getD default).2.1 ((inrQ y3).getD default).2.2.1 ((inrQ y3).getD default).2.2.2.1 ((inrQ y3).getD default).2.2.2.2.1 ((inrQ y3).getD default).2.2.2.2.2.1 ((inrQ y3).getD default).2.2.2.2.2.2.1 ((inrQ y3).getD default).2.2.2.2.2.2.2.1 ((inrQ y3).getD default).2.2.2.2.2.2.2.2.1 ((inrQ y3).getD default).2.2.2.2.2.2.2.2.2.1 ((inrQ y3).getD default).2.2.2.2.2.2.2.2.2.2.1 ((inrQ y3).getD default).2.2.2.2.2.2.2.2.2.2.2 v27 v28 v29 v30 v31 v32 v33 v34 v35 v36 v37 v38 v39) fun y6 =>
          bif y6.isSome then
            k0 ((IntKind.wrap .i64 (v0 + 1)), (y6.getD default).1, (y6.getD default).2.1, (y6.getD default).2.2.1, (y6.getD default).2.2.2.1, (y6.getD default).2.2.2.2.1, (y6.getD default).2.2.2.2.2.1, (y6.getD default).2.2.2.2.2.2.1, (y6.getD default).2.2.2.2.2.2.2.1, (y6.getD default).2.2.2.2.2.2.2.2.1, (y6.getD default).2.2.2.2.2.2.2.2.2.1, (y6.getD default).2.2.2.2.2.2.2.2.2.2.1, (y6.getD default).2.2.2.2.2.2.2.2.2.2.2.1, (y6.getD default).2.2.2.2.2.2.2.2.2.2.2.2.1, (y6.getD default).2.2.2.2.2.2.2.2.2.2.2.2.2.1, (y6.getD default).2.2.2.2.2.2.2.2.2.2.2.2.2.2.1, (y6.getD default).2.2.2.2.2.2.2.2.2.2.2.2.2.2.2.1, (y6.getD default).2.2.2.2.2.2.2.2.2.2.2.2.2.2.2.2.1, (y6.getD default).2.2.2.2.2.2.2.2.2.2.2.2.2.2.2.2.2.1, (y6.getD default).2.2.2.2.2.2.2.2.2.2.2.2.2.2.2.2.2.2, true)
          else
            none
        else
          none
    else
      none
  else
    none
noncomputable def G88x0 (v0 v1 v2 v3 v4 v5 v6 v7 v8 v9 v10 v11 v12 v13 v14 v15 v16 v17 v18 v19 v20 v21 v22 : Int) (v25 v27 : LD) (v28 v29 v30 v31 v32 v33 v34 v35 v36 v37 v38 v39 : Bool) : Option (Ty1) := F88x0 N v0 v1 v2 v3 v4 v5 v6 v7 v8 v9 v10 v11 v12 v13 v14 v15 v16 v17 v18 v19 v20 v21 v22 v25 v27 v28 v29 v30 v31 v32 v33 v34 v35 v36 v37 v38 v39 (fun p => some p)
theorem bind88x0 (v0 v1 v2 v3 v4 v5 v6 v7 v8 v9 v10 v11 v12 v13 v14 v15 v16 v17 v18 v19 v20 v21 v22 : Int) (v25 v27 : LD) (v28 v29 v30 v31 v32 v33 v34 v35 v36 v37 v38 v39 : Bool) (k0 : Ty1 → Option R) : F88x0 N v0 v1 v2 v3 v4 v5 v6 v7 v8 v9 v10 v11 v12 v13 v14 v15 v16 v17 v18 v19 v20 v21 v22 v25 v27 v28 v29 v30 v31 v32 v33 v34 v35 v36 v37 v38 v39 k0 = (G88x0 N v0 v1 v2 v3 v4 v5 v6 v7 v8 v9 v10 v11 v12 v13 v14 v15 v16 v17 v18 v19 v20 v21 v22 v25 v27 v28 v29 v30 v31 v32 v33 v34 v35 v36 v37 v38 v39).bind k0 := by
  unfold G88x0 F88x0
  repeat' (first | rfl | apply cond_b | (apply bnd_b; intro _))
noncomputable def J88x0 (L : List Lf) (k0 : Ty1 → Option R) : Option R := F88x0 N (li L 0) (li L 1) (li L 2) (li L 3) (li L 4) (li L 5) (li L 6) (li L 7) (li L 8) (li L 9) (li L 10) (li L 11) (li L 12) (li L 13) (li L 14) (li L 15) (li L 16) (li L 17) (li L 18) (li L 19) (li L 20) (li L 21) (li L 22) (ll L 25) (ll L 27) (lb L 28) (lb L 29) (lb L 30) (lb L 31) (lb L 32) (lb L 33) (lb L 34) (lb L 35) (lb L 36) (lb L 37) (lb L 38) (lb L 39) k0
noncomputable def sh88x0 : Sh := { tmps := [(0, .c (.p 0 0)), (1, .g (rI 20 ([]))), (2, .c (.i .i64))], mem := [(0, .box (.i .i64 :: .i .i64 :: .i .i64 :: .sl 66 :: .sl 68 :: rB 12 ([])))] }
noncomputable def K88x0w0 (L : List Lf) (p : Ty1) : Res := let p1 := p.2; let p2 := p1.2; let p3 := p2.2; let p4 := p3.2; let p5 := p4.2; let p6 := p5.2; let p7 := p6.2; let p8 := p7.2; let p9 := p8.2; let p10 := p9.2; let p11 := p10.2; let p12 := p11.2; let p13 := p12.2; let p14 := p13.2; let p15 := p14.2; let p16 := p15.2; let p17 := p16.2; let p18 := p17.2; let p19 := p18.2; let p20 := p19.2; ([.g [.i .i64 p.1, .i .i64 p1.1, .i .i64 p2.1, .i .i64 p3.1, .i .i64 p4.1, .i .i64 p5.1, .i .i64 p6.1, .i .i64 p7.1, .i .i64 p8.1, .i .i64 p9.1, .i .i64 p10.1, .i .i64 p11.1, .i .i64 p12.1, .i .i64 p13.1, .i .i64 p14.1, .i .i64 p15.1, .i .i64 p16.1, .i .i64 p17.1, .i .i64 p18.1, .i .i64 p19.1], .c (.b p20)], mgA (ofSh sh88x0 L).mem [] [0])
noncomputable def A88x0 (L : List Lf) : List (Bool × Res) := bnd (J88x0 N L (fun p => some p)) fun q => [(q.isSome, K88x0w0 L (q.getD default))]
theorem raw88x0 (L : List Lf) : bd Try.prog (T96x0 N) (h88x0s7 N).h 88 sh88x0 L = J88x0 N L (fun p => some (K88x0w0 L p)) := by kernel_rfl
theorem ok88x0 : FnOk Try.prog 88 sh88x0 (A88x0 N) :=
  (h88x0s7 N).fn progOk (T96x0_ok N) fun L x hx => ((raw88x0 N L).trans ((bind88x0 N ..).trans (alt1 x hx)))
noncomputable def T88x0 : Oracle := ext 88 (spSh sh88x0 (A88x0 N)) (T96x0 N)
theorem T88x0_ok : OracleOk Try.prog (T88x0 N) := FnOk.to (ok88x0 N) (T96x0_ok N)
abbrev Rc78x1 : Type := Int → Int → Int → Int → Int → Int → Int → Int → Int → Int → Int → Int → Int → Int → Int → Int → Int → Int → Int → Int → Int → Int → Int → Bool → LD → Bool → LD → Bool → Bool → Bool → Bool → Bool → Bool → Bool → Bool → Bool → Bool → Bool → Bool → Bool → LD → Bool → LD → (List (D × D)) → Option (Ty6)
noncomputable def sh78x1 : Sh := { tmps := [(0, .c (.p 0 0)), (1, .g (rI 20 ([])))], mem := [(0, .box (.i .i64 :: .i .i64 :: .i .i64 :: .sl 66 :: .sl 68 :: rB 12 ([.sl 3, .sl 3, .m 1]))), (1, .map 106 59)] }
noncomputable def B78x1 (N : Nat) (rc : Rc78x1) (L : List Lf) : List (Bool × Res) := bnd (rc (li L 0) (li L 1) (li L 2) (li L 3) (li L 4) (li L 5) (li L 6) (li L 7) (li L 8) (li L 9) (li L 10) (li L 11) (li L 12) (li L 13) (li L 14) (li L 15) (li L 16) (li L 17) (li L 18) (li L 19) (li L 20) (li L 21) (li L 22) (lb L 23) (ll L 24) (lb L 25) (ll L 26) (lb L 27) (lb L 28) (lb L 29) (lb L 30) (lb L 31) (lb L 32) (lb L 33) (lb L 34) (lb L 35) (lb L 36) (lb L 37) (lb L 38) (lb L 39) (ll L 40) (lb L 41) (ll L 42) (lm L 43)) fun q => [(q.isSome, ([.g [.i .i64 (q.getD default).1, .i .i64 (q.getD default).2.1, .i .i64 (q.getD default).2.2.1]], [(0, .box [.i .i64 (li L 20), .i .i64 (li L 21), .i .i64 (li L 22), .sl 66 (lb L 23) (ll L 24), .sl 68 (lb L 25) (ll L 26), .b (lb L 27), .b (lb L 28), .b (lb L 29), .b (lb L 30), .b (lb L 31), .b (lb L 32), .b (lb L 33), .b (lb L 34), .b (lb L 35), .b (lb L 36), .b (lb L 37), .b (lb L 38), .sl 3 (lb L 39) (ll L 40), .sl 3 (lb L 41) (ll L 42), .m 1]), (1, .map 106 59 (q.getD default).2.2.2)]))]
noncomputable def O78x1 (rc : Rc78x1) : Oracle := ext 78 (spSh sh78x1 ((B78x1 N) rc)) (T88x0 N)
noncomputable def rg90x1 : List (Nat × List Nat) := [(0, [1, 0, 2]), (1, [0, 4, 2, 6]), (2, [8, 6, 0, 7, 2, 4]), (3, [6]), (4, [0, 7, 6, 2, 4]), (5, [9, 6, 0, 2, 4]), (6, [9, 6]), (7, [9, 0, 2, 4, 6]), (8, [4, 0, 2, 9, 6]), (9, [9, 6]), (10, [9, 6])]
noncomputable def hd90x1 : Hints := [(25, [4, 0, 2, 9, 6], [11, 8, 6, 1, 0], []), (29, [9, 6, 70], [1, 0, 11, 8], [])]
noncomputable def h90x1s0 (rc : Rc78x1) (hR : OracleOk Try.prog ((O78x1 N) rc)) : Sg Try.prog 2 90 := .start hd90x1 rg90x1
noncomputable def F90x1x25 (N : Nat) (rc : Rc78x1) (w0 : Int) (w21 w23 : LD) (w25 : Int) (k0 : Bool → Option R) : Option R :=
  bif (decide (w25 ≥ (w21.length : Int))) then
    bif (decide (w25 < (w23.length : Int))) then
      bif (inB w25 w23.length) then
        k0 ((w23.getD w25.toNat (.i 0)).toI != w0)
      else
        none
    else
      k0 false
  else
    k0 false
noncomputable def G90x1x25 (rc : Rc78x1) (w0 : Int) (w21 w23 : LD) (w25 : Int) : Option (Bool) := F90x1x25 N rc w0 w21 w23 w25 (fun p => some p)
theorem bind90x1x25 (rc : Rc78x1) (w0 : Int) (w21 w23 : LD) (w25 : Int) (k0 : Bool → Option R) : F90x1x25 N rc w0 w21 w23 w25 k0 = (G90x1x25 N rc w0 w21 w23 w25).bind k0 := by
  unfold G90x1x25 F90x1x25
  repeat' (first | rfl | apply cond_b | (apply bnd_b; intro _))
noncomputable def J90x1x25 (rc : Rc78x1) (L : List Lf) (k0 : Bool → Option R) : Option R := F90x1x25 N rc (li L 0) (ll L 21) (ll L 23) (li L 25) k0
noncomputable def sh90x1x25 : Sh := { tmps := [(0, .c (.p 0 0)), (2, .c (.i .i64)), (4, .c (.p 6 0)), (6, .c (.p 8 0)), (9, .c (.p 11 0))], mem := [(0, .box (.i .i64 :: .i .i64 :: .i .i64 :: .sl 66 :: .sl 68 :: rB 12 ([.sl 3, .sl 3, .m 1]))), (1, .map 106 59), (6, .box (rI 20 ([]))), (8, .box ([.i .i64, .i .i64, .i .i64])), (11, .box ([.i .i64, .i .i64, .i .i64]))] }
noncomputable def K90x1x25w0 (L : List Lf) (p : Bool) : Ex × St := (.normal, mg (ofSh sh90x1x25 L) [6, 9, 70] [(70, .c (.b p))] [0, 1, 8, 11] [])
noncomputable def A90x1x25 (rc : Rc78x1) (L : List Lf) : List (Bool × (Ex × St)) := bnd (J90x1x25 N rc L (fun p => some p)) fun q => [(q.isSome, K90x1x25w0 L (q.getD default))]
theorem raw90x1x25 (rc : Rc78x1) (hR : OracleOk Try.prog ((O78x1 N) rc)) (L : List Lf) : pc Try.prog ((O78x1 N) rc) ((h90x1s0 N) rc hR).h 2 100 90 25 sh90x1x25 L [9, 6, 70] [1, 0, 11, 8] = J90x1x25 N rc L (fun p => some (K90x1x25w0 L p)) := by kernel_rfl
noncomputable def h90x1s1 (rc : Rc78x1) (hR : OracleOk Try.prog ((O78x1 N) rc)) : Sg Try.prog 2 90 :=
  ((h90x1s0 N) rc hR).cut ((A90x1x25 N) rc) progOk hR fun L x hx => (raw90x1x25 N rc hR L).trans ((bind90x1x25 N rc ..).trans (alt1 x hx))
noncomputable def F90x1x29 (N : Nat) (rc : Rc78x1) (w0 : Bool) (w29 : Int) (k0 : Int → R) : R :=
  bif w0 then
    k0 (IntKind.wrap .i64 (w29 + 1))
  else
    k0 w29
noncomputable def V90x1x29 (rc : Rc78x1) (w0 : Bool) (w29 : Int) : Int := F90x1x29 N rc w0 w29 (fun p => p)
theorem tot90x1x29 (rc : Rc78x1) (w0 : Bool) (w29 : Int) (k0 : Int → R) : F90x1x29 N rc w0 w29 k0 = k0 (V90x1x29 N rc w0 w29) := by
  unfold V90x1x29 F90x1x29
  repeat' (first | rfl | apply cond_k | (apply bnd_k; intro _))
noncomputable def sh90x1x29 : Sh := { tmps := [(6, .c (.p 8 0)), (9, .c (.p 11 0)), (70, .c (.b))], mem := [(0, .box (.i .i64 :: .i .i64 :: .i .i64 :: .sl 66 :: .sl 68 :: rB 12 ([.sl 3, .sl 3, .m 1]))), (1, .map 106 59), (8, .box ([.i .i64, .i .i64, .i .i64])), (11, .box ([.i .i64, .i .i64, .i .i64]))] }
noncomputable def K90x1x29w0 (L : List Lf) (p : Int) : Ex × St := (.normal, mg (ofSh sh90x1x29 L) [6, 9] [] [0, 1, 8, 11] [(11, .box [.i .i64 (li L 28), .i .i64 p, .i .i64 (li L 30)])])
noncomputable def A90x1x29 (rc : Rc78x1) (L : List Lf) : List (Bool × (Ex × St)) := bnd (F90x1x29 N rc (lb L 0) (li L 29) (fun p => p)) fun q => [(true, K90x1x29w0 L q)]
theorem raw90x1x29 (rc : Rc78x1) (hR : OracleOk Try.prog ((O78x1 N) rc)) (L : List Lf) : pc Try.prog ((O78x1 N) rc) ((h90x1s1 N) rc hR).h 2 100 90 29 sh90x1x29 L [9, 6] [1, 0, 11, 8] = F90x1x29 N rc (lb L 0) (li L 29) (fun p => some (K90x1x29w0 L p)) := by kernel_rfl
noncomputable def h90x1s2 (rc : Rc78x1) (hR : OracleOk Try.prog ((O78x1 N) rc)) : Sg Try.prog 2 90 :=
  ((h90x1s1 N) rc hR).cut ((A90x1x29 N) rc) progOk hR fun L x hx => (raw90x1x29 N rc hR L).trans ((tot90x1x29 N rc ..).trans (alt0 _ _ hx))
noncomputable def F90x1 (rc : Rc78x1) (v0 v1 v2 v3 v4 v5 v6 v7 v8 v9 v10 v11 v12 v13 v14 v15 v16 v17 v18 v19 v20 v21 v22 v23 : Int) (v24 : Bool) (v25 : LD) (v26 : Bool) (v27 : LD) (v28 v29 v30 v31 v32 v33 v34 v35 v36 v37 v38 v39 v40 : Bool) (v41 : LD) (v42 : Bool) (v43 : LD) (v44 : (List (D × D))) (k0 : Ty6 → Option R) : Option R :=
  bnd (G88x0 N v0 v1 v2 v3 v4 v5 v6 v7 v8 v9 v10 v11 v12 v13 v14 v15 v16 v17 v18 v19 v20 v21 v22 v25 v27 v28 v29 v30 v31 v32 v33 v34 v35 v36 v37 v38 v39) fun y0 =>
  bif y0.isSome then
    bnd (y0.getD default).2.2.2.2.2.2.2.2.2.2.2.2.2.2.2.2.2.2.1 fun y1 =>
    bnd (y0.getD default).2.2.2.2.2.2.2.2.2.2.2.2.2.2.2.2.2.2.2.1 fun y2 =>
    bnd (y0.getD default).2.2.2.2.2.2.2.2.2.2.2.2.2.2.2.2.2.2.2.2 fun y3 =>
    bif (!y3) then
      k0 (0, 0, 0, v44)
    else
      bnd (rc (y0.getD default).1 (y0.getD default).2.1 (y0.getD default).2.2.1 (y0.getD default).2.2.2.1 (y0.getD default).2.2.2.2.1 (y0.getD default).2.2.2.2.2.1 (y0.getD default).2.2.2.2.2.2.1 (y0.getD default).2.2.2.2.2.2.2.1 (y0.getD default).2.2.2.2.2.2.2.2.1 (y0.getD default).2.2.2.2.2.2.2.2.2.1 (y0.getD default).2.2.2.2.2.2.2.2.2.2.1 (y0.getD default).2.2.2.2.2.2.2.2.2.2.2.1 (y0.getD default).2.2.2.2.2.2.2.2.2.2.2.2.1 (y0.getD default).2.2.2.2.2.2.2.2.2.2.2.2.2.1 (y0.getD default).2.2.2.2.2.2.2.2.2.2.2.2.2.2.1 (y0.getD default).2.2.2.2.2.2.2.2.2.2.2.2.2.2.2.1 (y0.getD default).2.2.2.2.2.2.2.2.2.2.2.2.2.2.2.2.1 (y0.getD default).2.2.2.2.2.2.2.2.2.2.2.2.2.2.2.2.2.1 y1 y2 v21 v22 v23 v24 v25 v26 v27 v28 v29 v30 v31 v32 v33 v34 v35 v36 v37 v38 v39 v40 v41 v42 v43 v44) fun y4 =>
      bif y4.isSome then
        bif ((y4.getD default).1 == 0) then
          k0 (y4.getD default)
        else
          bnd (G70x0 N v25 v20) fun y5 =>
          bif y5.isSome then
            bnd (IntKind.wrap .i64 ((y4.getD default).2.2.1 + (y5.getD default).2.2.2.1)) fun y6 =>
            bnd (G90x1x25 N rc v20 v41 v43 v0) fun y7 =>
            bif y7.isSome then
              bnd (V90x1x29 N rc (y7.getD default) (y4.getD default).2.1) fun y8 =>
              k0 ((y4.getD default).1, y8, y6, (y4.getD default).2.2.2)
            else
              none
          else
            none
      else
        none
  else
    none
noncomputable def G90x1 (rc : Rc78x1) (v0 v1 v2 v3 v4 v5 v6 v7 v8 v9 v10 v11 v12 v13 v14 v15 v16 v17 v18 v19 v20 v21 v22 v23 : Int) (v24 : Bool) (v25 : LD) (v26 : Bool) (v27 : LD) (v28 v29 v30 v31 v32 v33 v34 v35 v36 v37 v38 v39 v40 : Bool) (v41 : LD) (v42 : Bool) (v43 : LD) (v44 : (List (D × D))) : Option (Ty6) := F90x1 N rc v0 v1 v2 v3 v4 v5 v6 v7 v8 v9 v10 v11 v12 v13 v14 v15 v16 v17 v18 v19 v20 v21 v22 v23 v24 v25 v26 v27 v28 v29 v30 v31 v32 v33 v34 v35 v36 v37 v38 v39 v40 v41 v42 v43 v44 (fun p => some p)
theorem bind90x1 (rc : Rc78x1) (v0 v1 v2 v3 v4 v5 v6 v7 v8 v9 v10 v11 v12 v13 v14 v15 v16 v17 v18 v19 v20 v21 v22 v23 : Int) (v24 : Bool) (v25 : LD) (v26 : Bool) (v27 : LD) (v28 v29 v30 v31 v32 v33 v34 v35 v36 v37 v38 v39 v40 : Bool) (v41 : LD) (v42 : Bool) (v43 : LD) (v44 : (List (D × D))) (k0 : Ty6 → Option R) : F90x1 N rc v0 v1 v2 v3 v4 v5 v6 v7 v8 v9 v10 v11 v12 v13 v14 v15 v16 v17 v18 v19 v20 v21 v22 v23 v24 v25 v26 v27 v28 v29 v30 v31 v32 v33 v34 v35 v36 v37 v38 v39 v40 v41 v42 v43 v44 k0 = (G90x1 N rc v0 v1 v2 v3 v4 v5 v6 v7 v8 v9 v10 v11 v12 v13 v14 v15 v16 v17 v18 v19 v20 v21 v22 v23 v24 v25 v26 v27 v28 v29 v30 v31 v32 v33 v34 v35 v36 v37 v38 v39 v40 v41 v42 v43 v44).bind k0 := by
  unfold G90x1 F90x1
  repeat' (first | rfl | apply cond_b | (apply bnd_b; intro _))
noncomputable def J90x1 (rc : Rc78x1) (L : List Lf) (k0 : Ty6 → Option R) : Option R := F90x1 N rc (li L 0) (li L 1) (li L 2) (li L 3) (li L 4) (li L 5) (li L 6) (li L 7) (li L 8) (li L 9) (li L 10) (li L 11) (li L 12) (li L 13) (li L 14) (li L 15) (li L 16) (li L 17) (li L 18) (li L 19) (li L 20) (li L 21) (li L 22) (li L 23) (lb L 24) (ll L 25) (lb L 26) (ll L 27) (lb L 28) (lb L 29) (lb L 30) (lb L 31) (lb L 32) (lb L 33) (lb L 34) (lb L 35) (lb L 36) (lb L 37) (lb L 38) (lb L 39) (lb L 40) (ll L 41) (lb L 42) (ll L 43) (lm L 44) k0
noncomputable def sh90x1 : Sh := { tmps := [(0, .c (.p 0 0)), (1, .g (rI 20 ([]))), (2, .c (.i .i64))], mem := [(0, .box (.i .i64 :: .i .i64 :: .i .i64 :: .sl 66 :: .sl 68 :: rB 12 ([.sl 3, .sl 3, .m 1]))), (1, .map 106 59)] }
noncomputable def K90x1w0 (L : List Lf) (p : Ty6) : Res := ([.g [.i .i64 p.1, .i .i64 p.2.1, .i .i64 p.2.2.1]], mgA (ofSh sh90x1 L).mem [(1, .map 106 59 p.2.2.2)] [0, 1])
noncomputable def A90x1 (rc : Rc78x1) (L : List Lf) : List (Bool × Res) := bnd (J90x1 N rc L (fun p => some p)) fun q => [(q.isSome, K90x1w0 L (q.getD default))]
theorem raw90x1 (rc : Rc78x1) (hR : OracleOk Try.prog ((O78x1 N) rc)) (L : List Lf) : bd Try.prog ((O78x1 N) rc) ((h90x1s2 N) rc hR).h 90 sh90x1 L = J90x1 N rc L (fun p => some (K90x1w0 L p)) := by kernel_rfl
theorem ok90x1 (rc : Rc78x1) (hR : OracleOk Try.prog ((O78x1 N) rc)) : FnOk Try.prog 90 sh90x1 ((A90x1 N) rc) :=
  ((h90x1s2 N) rc hR).fn progOk hR fun L x hx => ((raw90x1 N rc hR L).trans ((bind90x1 N rc ..).trans (alt1 x hx)))
noncomputable def T90x1 (rc : Rc78x1) : Oracle := ext 90 (spSh sh90x1 ((A90x1 N) rc)) ((O78x1 N) rc)
theorem T90x1_ok (rc : Rc78x1) (hR : OracleOk Try.prog ((O78x1 N) rc)) : OracleOk Try.prog ((T90x1 N) rc) := FnOk.to ((ok90x1 N) rc hR) hR
noncomputable def rg91x0 : List (Nat × List Nat) := [(0, [0, 1]), (1, [2, 3])]
noncomputable def hd91x0 : Hints := []
noncomputable def h91x0s0 (rc : Rc78x1) (hR : OracleOk Try.prog ((O78x1 N) rc)) : Sg Try.prog 0 91 := .start hd91x0 rg91x0
noncomputable def F91x0 (N : Nat) (rc : Rc78x1) (v0 v1 v2 v3 v4 v5 : Int) (k0 : Bool → R) : R :=
  bnd (bif (decide (v0 > 0)) then (bif (bif (v3 == 0) then true else (decide (v1 < v4))) then true else (bif (v1 == v4) then (decide (v2 > v5)) else false)) else false) fun y0 =>
  k0 y0
noncomputable def V91x0 (rc : Rc78x1) (v0 v1 v2 v3 v4 v5 : Int) : Bool := F91x0 N rc v0 v1 v2 v3 v4 v5 (fun p => p)
theorem tot91x0 (rc : Rc78x1) (v0 v1 v2 v3 v4 v5 : Int) (k0 : Bool → R) : F91x0 N rc v0 v1 v2 v3 v4 v5 k0 = k0 (V91x0 N rc v0 v1 v2 v3 v4 v5) := by
  unfold V91x0 F91x0
  repeat' (first | rfl | apply cond_k | (apply bnd_k; intro _))
noncomputable def J91x0 (rc : Rc78x1) (L : List Lf) (k0 : Bool → R) : R := F91x0 N rc (li L 0) (li L 1) (li L 2) (li L 3) (li L 4) (li L 5) k0
noncomputable def sh91x0 : Sh := { tmps := [(0, .g ([.i .i64, .i .i64, .i .i64])), (1, .g ([.i .i64, .i .i64, .i .i64]))], mem := [] }
noncomputable def A91x0 (rc : Rc78x1) (L : List Lf) : List (Bool × Res) := bnd (J91x0 N rc L (fun p => p)) fun q => [(true, ([.c (.b q)], []))]
theorem raw91x0 (rc : Rc78x1) (hR : OracleOk Try.prog ((O78x1 N) rc)) (L : List Lf) : bd Try.prog ((T90x1 N) rc) ((h91x0s0 N) rc hR).h 91 sh91x0 L = J91x0 N rc L (fun p => some ([.c (.b p)], [])) := by kernel_rfl
theorem ok91x0 (rc : Rc78x1) (hR : OracleOk Try.prog ((O78x1 N) rc)) : FnOk Try.prog 91 sh91x0 ((A91x0 N) rc) :=
  ((h91x0s0 N) rc hR).fn progOk ((T90x1_ok N) rc hR) fun L x hx => ((raw91x0 N rc hR L).trans ((tot91x0 N rc ..).trans (alt0 _ _ hx)))
noncomputable def T91x0 (rc : Rc78x1) : Oracle := ext 91 (spSh sh91x0 ((A91x0 N) rc)) ((T90x1 N) rc)
theorem T91x0_ok (rc : Rc78x1) (hR : OracleOk Try.prog ((O78x1 N) rc)) : OracleOk Try.prog ((T91x0 N) rc) := FnOk.to ((ok91x0 N) rc hR) ((T90x1_ok N) rc hR)
noncomputable def rg78x1 : List (Nat × List Nat) := [(0, [1, 0]), (1, [3, 0, 4]), (2, [4]), (3, [0, 3, 4]), (4, [6, 5, 4, 0, 3]), (5, [5, 4]), (6, [0, 3, 4]), (7, [0, 3, 7, 4]), (8, [0, 3, 8, 7, 4]), (9, [9, 10, 0, 3, 8, 7, 4]), (10, [11, 10, 0, 3, 8, 7, 4]), (12, [0, 3, 11, 8, 7, 10, 4]), (13, [8, 12, 7, 11, 10, 0, 3, 4]), (14, [12, 7, 11, 10, 0, 3, 8, 4]), (15, [12, 7, 11, 10, 0, 3, 8, 4]), (11, [11, 10, 0, 3, 8, 7, 4]), (16, [8, 7, 0, 3, 4]), (17, [0, 3, 7, 4]), (18, [7, 4])]
noncomputable def hd78x1 : Hints := [(30, [11, 10, 0, 3, 8, 7, 4], [9, 6, 5, 1, 0], []), (47, [12, 7, 11, 10, 0, 3, 8, 4, 57], [14, 9, 6, 5, 1, 0], [])]
noncomputable def h78x1s0 (rc : Rc78x1) (hR : OracleOk Try.prog ((O78x1 N) rc)) : Sg Try.prog 2 78 := .start hd78x1 rg78x1
noncomputable def F78x1x47 (N : Nat) (rc : Rc78x1) (w3 : Bool) (w51 w52 w53 w54 w55 w56 : Int) (k0 : Int × Int × Int → R) : R :=
  bif w3 then
    k0 (w54, w55, w56)
  else
    k0 (w51, w52, w53)
noncomputable def V78x1x47 (rc : Rc78x1) (w3 : Bool) (w51 w52 w53 w54 w55 w56 : Int) : Int × Int × Int := F78x1x47 N rc w3 w51 w52 w53 w54 w55 w56 (fun p => p)
theorem tot78x1x47 (rc : Rc78x1) (w3 : Bool) (w51 w52 w53 w54 w55 w56 : Int) (k0 : Int × Int × Int → R) : F78x1x47 N rc w3 w51 w52 w53 w54 w55 w56 k0 = k0 (V78x1x47 N rc w3 w51 w52 w53 w54 w55 w56) := by
  unfold V78x1x47 F78x1x47
  repeat' (first | rfl | apply cond_k | (apply bnd_k; intro _))
noncomputable def J78x1x47 (rc : Rc78x1) (L : List Lf) (k0 : Int × Int × Int → R) : R := F78x1x47 N rc (lb L 3) (li L 51) (li L 52) (li L 53) (li L 54) (li L 55) (li L 56) k0
noncomputable def sh78x1x47 : Sh := { tmps := [(0, .c (.p 0 0)), (3, .c (.p 5 0)), (4, .c (.p 6 0)), (7, .c (.p 9 0)), (8, .c (.i .i64)), (10, .c (.i .i64)), (11, .c (.i .i64)), (12, .c (.p 14 0)), (57, .c (.b))], mem := [(0, .box (.i .i64 :: .i .i64 :: .i .i64 :: .sl 66 :: .sl 68 :: rB 12 ([.sl 3, .sl 3, .m 1]))), (1, .map 106 59), (5, .box (rI 20 ([]))), (6, .box ([.i .i64, .i .i64, .i .i64])), (9, .box ([.i .i64, .i .i64, .i .i64])), (14, .box ([.i .i64, .i .i64, .i .i64]))] }
noncomputable def K78x1x47w0 (L : List Lf) (p : Int × Int × Int) : Ex × St := (.normal, mg (ofSh sh78x1x47 L) [0, 3, 4, 7, 8, 10, 11] [] [0, 1, 5, 6, 9] [(9, .box [.i .i64 p.1, .i .i64 p.2.1, .i .i64 p.2.2])])
noncomputable def A78x1x47 (rc : Rc78x1) (L : List Lf) : List (Bool × (Ex × St)) := bnd (J78x1x47 N rc L (fun p => p)) fun q => [(true, K78x1x47w0 L q)]
theorem raw78x1x47 (rc : Rc78x1) (hR : OracleOk Try.prog ((O78x1 N) rc)) (L : List Lf) : pc Try.prog ((T91x0 N) rc) ((h78x1s0 N) rc hR).h 2 100 78 47 sh78x1x47 L [11, 10, 0, 3, 8, 7, 4] [9, 6, 5, 1, 0] = J78x1x47 N rc L (fun p => some (K78x1x47w0 L p)) := by kernel_rfl
noncomputable def h78x1s1 (rc : Rc78x1) (hR : OracleOk Try.prog ((O78x1 N) rc)) : Sg Try.prog 2 78 :=
  ((h78x1s0 N) rc hR).cut ((A78x1x47 N) rc) progOk ((T91x0_ok N) rc hR) fun L x hx => (raw78x1x47 N rc hR L).trans ((tot78x1x47 N rc ..).trans (alt0 _ _ hx))
noncomputable def S78x1x30 (rc : Rc78x1) (w1 w3 w4 w5 : Int) (w6 : Bool) (w7 : LD) (w8 : Bool) (w9 : LD) (w10 w11 w12 w13 w14 w15 w16 w17 w18 w19 w20 w21 w22 : Bool) (w23 : LD) (w24 : Bool) (w25 : LD) (w27 w28 w29 w30 w31 w32 w33 w34 w35 w36 w37 w38 w39 w40 w41 w42 w43 w44 w45 w46 : Int) (w0 w2 : Int) (w26 : (List (D × D))) (w50 w51 w52 : Int) (kr : Int → Int → (List (D × D)) → Int → Int → Int → Option R) (k0 : Ty5 → Option R) : Option R :=
  bif (decide (w2 ≤ w1)) then
    bnd (G90x1 N rc w27 w28 w29 w30 w31 w32 w33 w34 w35 w36 w37 w38 w39 w40 w41 w42 w43 w44 w45 w46 w2 w3 w4 w5 w6 w7 w8 w9 w10 w11 w12 w13 w14 w15 w16 w17 w18 w19 w20 w21 w22 w23 w24 w25 w26) fun y0 =>
    bif y0.isSome then
      bnd (V91x0 N rc (y0.getD default).1 (y0.getD default).2.1 (y0.getD default).2.2.1 w50 w51 w52) fun y1 =>
      bnd (V78x1x47 N rc y1 w50 w51 w52 (y0.getD default).1 (y0.getD default).2.1 (y0.getD default).2.2.1) fun y2 =>
      kr (IntKind.wrap .i64 (w0 + (y0.getD default).1)) (IntKind.wrap .i64 (w2 + 1)) (y0.getD default).2.2.2 y2.1 y2.2.1 y2.2.2
    else
      none
  else
    k0 (w0, w26, w50, w51, w52)
noncomputable def L78x1x30 (N : Nat) (rc : Rc78x1) {R : Type} (w1 w3 w4 w5 : Int) (w6 : Bool) (w7 : LD) (w8 : Bool) (w9 : LD) (w10 w11 w12 w13 w14 w15 w16 w17 w18 w19 w20 w21 w22 : Bool) (w23 : LD) (w24 : Bool) (w25 : LD) (w27 w28 w29 w30 w31 w32 w33 w34 w35 w36 w37 w38 w39 w40 w41 w42 w43 w44 w45 w46 : Int) : Nat → Int → Int → (List (D × D)) → Int → Int → Int → (Ty5 → Option R) → Option R
  | 0, _, _, _, _, _, _, _ => none
  | m + 1, w0, w2, w26, w50, w51, w52, k0 => S78x1x30 N rc w1 w3 w4 w5 w6 w7 w8 w9 w10 w11 w12 w13 w14 w15 w16 w17 w18 w19 w20 w21 w22 w23 w24 w25 w27 w28 w29 w30 w31 w32 w33 w34 w35 w36 w37 w38 w39 w40 w41 w42 w43 w44 w45 w46 w0 w2 w26 w50 w51 w52 (fun w0 w2 w26 w50 w51 w52 => L78x1x30 N rc w1 w3 w4 w5 w6 w7 w8 w9 w10 w11 w12 w13 w14 w15 w16 w17 w18 w19 w20 w21 w22 w23 w24 w25 w27 w28 w29 w30 w31 w32 w33 w34 w35 w36 w37 w38 w39 w40 w41 w42 w43 w44 w45 w46 m w0 w2 w26 w50 w51 w52 k0) k0
noncomputable def G78x1x30 (rc : Rc78x1) (w1 w3 w4 w5 : Int) (w6 : Bool) (w7 : LD) (w8 : Bool) (w9 : LD) (w10 w11 w12 w13 w14 w15 w16 w17 w18 w19 w20 w21 w22 : Bool) (w23 : LD) (w24 : Bool) (w25 : LD) (w27 w28 w29 w30 w31 w32 w33 w34 w35 w36 w37 w38 w39 w40 w41 w42 w43 w44 w45 w46 : Int) (w0 w2 : Int) (w26 : (List (D × D))) (w50 w51 w52 : Int) : Option (Ty5) := L78x1x30 N rc (R := (Ty5)) w1 w3 w4 w5 w6 w7 w8 w9 w10 w11 w12 w13 w14 w15 w16 w17 w18 w19 w20 w21 w22 w23 w24 w25 w27 w28 w29 w30 w31 w32 w33 w34 w35 w36 w37 w38 w39 w40 w41 w42 w43 w44 w45 w46 N w0 w2 w26 w50 w51 w52 (fun p => some p)
noncomputable def J78x1x30 (rc : Rc78x1) (L x : List Lf) (kr : List Lf → Option R) (k0 : Ty5 → Option R) : Option R := S78x1x30 N rc (li L 1) (li L 3) (li L 4) (li L 5) (lb L 6) (ll L 7) (lb L 8) (ll L 9) (lb L 10) (lb L 11) (lb L 12) (lb L 13) (lb L 14) (lb L 15) (lb L 16) (lb L 17) (lb L 18) (lb L 19) (lb L 20) (lb L 21) (lb L 22) (ll L 23) (lb L 24) (ll L 25) (li L 27) (li L 28) (li L 29) (li L 30) (li L 31) (li L 32) (li L 33) (li L 34) (li L 35) (li L 36) (li L 37) (li L 38) (li L 39) (li L 40) (li L 41) (li L 42) (li L 43) (li L 44) (li L 45) (li L 46) (li x 0) (li x 1) (lm x 2) (li x 3) (li x 4) (li x 5) (fun w0 w2 w26 w50 w51 w52 => kr [.i w0, .i w2, .m w26, .i w50, .i w51, .i w52]) k0
theorem sb78x1x30 (rc : Rc78x1) (L x : List Lf) (kr : List Lf → Option R) (k0 : Ty5 → Option R) : J78x1x30 N rc L x kr k0 = (J78x1x30 N rc L x (fun y => some (.inl y)) (fun p => some (.inr p))).bind (sumE kr k0) := by
  unfold J78x1x30 S78x1x30
  repeat' (first | rfl | apply cond_b | (apply bnd_b; intro _))
noncomputable def Q78x1x30 (rc : Rc78x1) (L : List Lf) (m : Nat) (x : List Lf) : Option (Ty5) := L78x1x30 N rc (R := (Ty5)) (li L 1) (li L 3) (li L 4) (li L 5) (lb L 6) (ll L 7) (lb L 8) (ll L 9) (lb L 10) (lb L 11) (lb L 12) (lb L 13) (lb L 14) (lb L 15) (lb L 16) (lb L 17) (lb L 18) (lb L 19) (lb L 20) (lb L 21) (lb L 22) (ll L 23) (lb L 24) (ll L 25) (li L 27) (li L 28) (li L 29) (li L 30) (li L 31) (li L 32) (li L 33) (li L 34) (li L 35) (li L 36) (li L 37) (li L 38) (li L 39) (li L 40) (li L 41) (li L 42) (li L 43) (li L 44) (li L 45) (li L 46) m (li x 0) (li x 1) (lm x 2) (li x 3) (li x 4) (li x 5) (fun p => some p)
noncomputable def sh78x1x30 : Sh := { tmps := [(0, .c (.p 0 0)), (3, .c (.p 5 0)), (4, .c (.p 6 0)), (7, .c (.p 9 0)), (8, .c (.i .i64)), (10, .c (.i .i64)), (11, .c (.i .i64))], mem := [(0, .box (.i .i64 :: .i .i64 :: .i .i64 :: .sl 66 :: .sl 68 :: rB 12 ([.sl 3, .sl 3, .m 1]))), (1, .map 106 59), (5, .box (rI 20 ([]))), (6, .box ([.i .i64, .i .i64, .i .i64])), (9, .box ([.i .i64, .i .i64, .i .i64]))] }
noncomputable def K78x1x30w0 (L : List Lf) (p : Ty5) : Ex × St := ((.exit 0), mg (ofSh sh78x1x30 L) [0, 3, 4, 7, 8] [(8, .c (.i .i64 p.1))] [0, 1, 5, 6, 9] [(1, .map 106 59 p.2.1), (9, .box [.i .i64 p.2.2.1, .i .i64 p.2.2.2.1, .i .i64 p.2.2.2.2])])
noncomputable def A78x1x30 (rc : Rc78x1) (L : List Lf) : List (Bool × (Ex × St)) := bnd (Q78x1x30 N rc L N (pk sh78x1x30 [0, 2, 26, 50, 51, 52] L)) fun q => [(q.isSome, K78x1x30w0 L (q.getD default))]
theorem step78x1x30 (rc : Rc78x1) (hR : OracleOk Try.prog ((O78x1 N) rc)) (m : Nat) (kn : St → Option (Ex × St)) (L x : List Lf) : lpB Try.prog ((T91x0 N) rc) ((h78x1s1 N) rc hR).h 2 78 30 sh78x1x30 [0, 2, 26, 50, 51, 52] [4, 8, 7, 0, 3] [9, 6, 5, 1, 0] (m + 100) kn L x = J78x1x30 N rc L x (fun y => kn (ofSh sh78x1x30 (mx sh78x1x30 [0, 2, 26, 50, 51, 52] L y))) (fun p => some (K78x1x30w0 L p)) := by kernel_rfl
noncomputable def h78x1s2 (rc : Rc78x1) (hR : OracleOk Try.prog ((O78x1 N) rc)) : Sg Try.prog 2 78 :=
  ((h78x1s1 N) rc hR).lp ((A78x1x30 N) rc) N progOk ((T91x0_ok N) rc hR) (fun m kn L x => (step78x1x30 N rc hR m kn L x).trans (sb78x1x30 N rc L x _ _)) (fun L m x => sb78x1x30 N rc L x (Q78x1x30 N rc L m) some) fun L x hx => alt1 x hx
noncomputable def F78x1 (rc : Rc78x1) (v0 v1 v2 v3 v4 v5 v6 v7 v8 v9 v10 v11 v12 v13 v14 v15 v16 v17 v18 v19 v20 v21 v22 : Int) (v23 : Bool) (v24 : LD) (v25 : Bool) (v26 : LD) (v27 v28 v29 v30 v31 v32 v33 v34 v35 v36 v37 v38 v39 : Bool) (v40 : LD) (v41 : Bool) (v42 : LD) (v43 : (List (D × D))) (k0 : Ty6 → Option R) : Option R :=
  bif (v0 == v21) then
    k0 (1, 0, 0, v43)
  else
    bnd (((findB Try.prog 106 (.a [(.i v0), (.i v1), (.i v2), (.i v3), (.i v4), (.i v5), (.i v6), (.i v7), (.i v8), (.i v9), (.i v10), (.i v11), (.i v12), (.i v13), (.i v14), (.i v15), (.i v16), (.i v17), (.i v18), (.i v19)]) v43).getD (.a [(.i 0), (.i 0), (.i 0)])).cell 0).toI fun y0 =>
    bnd (((findB Try.prog 106 (.a [(.i v0), (.i v1), (.i v2), (.i v3), (.i v4), (.i v5), (.i v6), (.i v7), (.i v8), (.i v9), (.i v10), (.i v11), (.i v12), (.i v13), (.i v14), (.i v15), (.i v16), (.i v17), (.i v18), (.i v19)]) v43).getD (.a [(.i 0), (.i 0), (.i 0)])).cell 1).toI fun y1 =>
    bnd (((findB Try.prog 106 (.a [(.i v0), (.i v1), (.i v2), (.i v3), (.i v4), (.i v5), (.i v6), (.i v7), (.i v8), (.i v9), (.i v10), (.i v11), (.i v12), (.i v13), (.i v14), (.i v15), (.i v16), (.i v17), (.i v18), (.i v19)]) v43).getD (.a [(.i 0), (.i 0), (.i 0)])).cell 2).toI fun y2 =>
    bnd (findB Try.prog 106 (.a [(.i v0), (.i v1), (.i v2), (.i v3), (.i v4), (.i v5), (.i v6), (.i v7), (.i v8), (.i v9), (.i v10), (.i v11), (.i v12), (.i v13), (.i v14), (.i v15), (.i v16), (.i v17), (.i v18), (.i v19)]) v43).isSome fun y3 =>
    bif y3 then
      k0 (y0, y1, y2, v43)
    else
      bnd (G89x0 N v0 v24 v40) fun y4 =>
      bif y4.isSome then
        bnd (G78x1x30 N rc (y4.getD default).2 v20 v21 v22 v23 v24 v25 v26 v27 v28 v29 v30 v31 v32 v33 v34 v35 v36 v37 v38 v39 v40 v41 v42 v0 v1 v2 v3 v4 v5 v6 v7 v8 v9 v10 v11 v12 v13 v14 v15 v16 v17 v18 v19 0 (y4.getD default).1 v43 0 0 0) fun y5 =>
        bif y5.isSome then
          bnd (putB Try.prog 106 (.a [(.i v0), (.i v1), (.i v2), (.i v3), (.i v4), (.i v5), (.i v6), (.i v7), (.i v8), (.i v9), (.i v10), (.i v11), (.i v12), (.i v13), (.i v14), (.i v15), (.i v16), (.i v17), (.i v18), (.i v19)]) (.a [(.i (y5.getD default).1), (.i (y5.getD default).2.2.2.1), (.i (y5.getD default).2.2.2.2)]) (y5.getD default).2.1) fun y6 =>
          k0 ((y5.getD default).1, (y5.getD default).2.2.2.1, (y5.getD default).2.2.2.2, y6)
        else
          none
      else
        none
noncomputable def G78x1 (rc : Rc78x1) (v0 v1 v2 v3 v4 v5 v6 v7 v8 v9 v10 v11 v12 v13 v14 v15 v16 v17 v18 v19 v20 v21 v22 : Int) (v23 : Bool) (v24 : LD) (v25 : Bool) (v26 : LD) (v27 v28 v29 v30 v31 v32 v33 v34 v35 v36 v37 v38 v39 : Bool) (v40 : LD) (v41 : Bool) (v42 : LD) (v43 : (List (D × D))) : Option (Ty6) := F78x1 N rc v0 v1 v2 v3 v4 v5 v6 v7 v8 v9 v10 v11 v12 v13 v14 v15 v16 v17 v18 v19 v20 v21 v22 v23 v24 v25 v26 v27 v28 v29 v30 v31 v32 v33 v34 v35 v36 v37 v38 v39 v40 v41 v42 v43 (fun p => some p)
theorem bind78x1 (rc : Rc78x1) (v0 v1 v2 v3 v4 v5 v6 v7 v8 v9 v10 v11 v12 v13 v14 v15 v16 v17 v18 v19 v20 v21 v22 : Int) (v23 : Bool) (v24 : LD) (v25 : Bool) (v26 : LD) (v27 v28 v29 v30 v31 v32 v33 v34 v35 v36 v37 v38 v39 : Bool) (v40 : LD) (v41 : Bool) (v42 : LD) (v43 : (List (D × D))) (k0 : Ty6 → Option R) : F78x1 N rc v0 v1 v2 v3 v4 v5 v6 v7 v8 v9 v10 v11 v12 v13 v14 v15 v16 v17 v18 v19 v20 v21 v22 v23 v24 v25 v26 v27 v28 v29 v30 v31 v32 v33 v34 v35 v36 v37 v38 v39 v40 v41 v42 v43 k0 = (G78x1 N rc v0 v1 v2 v3 v4 v5 v6 v7 v8 v9 v10 v11 v12 v13 v14 v15 v16 v17 v18 v19 v20 v21 v22 v23 v24 v25 v26 v27 v28 v29 v30 v31 v32 v33 v34 v35 v36 v37 v38 v39 v40 v41 v42 v43).bind k0 := by
  unfold G78x1 F78x1
  repeat' (first | rfl | apply cond_b | (apply bnd_b; intro _))
noncomputable def J78x1 (rc : Rc78x1) (L : List Lf) (k0 : Ty6 → Option R) : Option R := F78x1 N rc (li L 0) (li L 1) (li L 2) (li L 3) (li L 4) (li L 5) (li L 6) (li L 7) (li L 8) (li L 9) (li L 10) (li L 11) (li L 12) (li L 13) (li L 14) (li L 15) (li L 16) (li L 17) (li L 18) (li L 19) (li L 20) (li L 21) (li L 22) (lb L 23) (ll L 24) (lb L 25) (ll L 26) (lb L 27) (lb L 28) (lb L 29) (lb L 30) (lb L 31) (lb L 32) (lb L 33) (lb L 34) (lb L 35) (lb L 36) (lb L 37) (lb L 38) (lb L 39) (ll L 40) (lb L 41) (ll L 42) (lm L 43) k0
noncomputable def K78x1w0 (L : List Lf) (p : Ty6) : Res := ([.g [.i .i64 p.1, .i .i64 p.2.1, .i .i64 p.2.2.1]], mgA (ofSh sh78x1 L).mem [(1, .map 106 59 p.2.2.2)] [0, 1])
theorem raw78x1 (rc : Rc78x1) (hR : OracleOk Try.prog ((O78x1 N) rc)) (L : List Lf) : bd Try.prog ((T91x0 N) rc) ((h78x1s2 N) rc hR).h 78 sh78x1 L = J78x1 N rc L (fun p => some (K78x1w0 L p)) := by kernel_rfl
theorem fin78x1 (rc : Rc78x1) (hR : OracleOk Try.prog ((O78x1 N) rc)) (L : List Lf) (x : Res) (hx : altK ((B78x1 N) (fun v0 v1 v2 v3 v4 v5 v6 v7 v8 v9 v10 v11 v12 v13 v14 v15 v16 v17 v18 v19 v20 v21 v22 v23 v24 v25 v26 v27 v28 v29 v30 v31 v32 v33 v34 v35 v36 v37 v38 v39 v40 v41 v42 v43 => G78x1 N rc v0 v1 v2 v3 v4 v5 v6 v7 v8 v9 v10 v11 v12 v13 v14 v15 v16 v17 v18 v19 v20 v21 v22 v23 v24 v25 v26 v27 v28 v29 v30 v31 v32 v33 v34 v35 v36 v37 v38 v39 v40 v41 v42 v43) L) some = some x) : CallOk Try.prog 78 (valsOf (ofSh sh78x1 L).tmps) (ofSh sh78x1 L).mem x :=
  callOk_of (n := 200) progOk ((T91x0_ok N) rc hR) ((h78x1s2 N) rc hR).ok rfl ((raw78x1 N rc hR L).trans ((bind78x1 N rc ..).trans (alt1 x hx)))
noncomputable def R78x1 (N : Nat) : Nat → Rc78x1
  | 0 => fun _ _ _ _ _ _ _ _ _ _ _ _ _ _ _ _ _ _ _ _ _ _ _ _ _ _ _ _ _ _ _ _ _ _ _ _ _ _ _ _ _ _ _ _ => none
  | m + 1 => fun v0 v1 v2 v3 v4 v5 v6 v7 v8 v9 v10 v11 v12 v13 v14 v15 v16 v17 v18 v19 v20 v21 v22 v23 v24 v25 v26 v27 v28 v29 v30 v31 v32 v33 v34 v35 v36 v37 v38 v39 v40 v41 v42 v43 => G78x1 N (R78x1 N m) v0 v1 v2 v3 v4 v5 v6 v7 v8 v9 v10 v11 v12 v13 v14 v15 v16 v17 v18 v19 v20 v21 v22 v23 v24 v25 v26 v27 v28 v29 v30 v31 v32 v33 v34 v35 v36 v37 v38 v39 v40 v41 v42 v43
theorem Rok78x1 (N : Nat) : ∀ m, OracleOk Try.prog ((O78x1 N) (R78x1 N m))
  | 0 => ext_ok (T88x0_ok N) (enters_of (by kernel_rfl)) (spSh_law fun L x hx => by
    have h : (none : Option Res) = some x := hx
    cases h)
  | m + 1 => ext_ok (T88x0_ok N) (enters_of (by kernel_rfl)) (spSh_law fun L x hx => fin78x1 N (R78x1 N m) (Rok78x1 N m) L x hx)
noncomputable def T78x1 : Oracle := (O78x1 N) (R78x1 N N)
theorem T78x1_ok : OracleOk Try.prog (T78x1 N) := Rok78x1 N N
noncomputable def rg47x0 : List (Nat × List Nat) := [(0, [0, 1, 2]), (1, [3, 1, 2, 7]), (2, [8, 7])]
noncomputable def hd47x0 : Hints := []
noncomputable def h47x0s0 (N : Nat) : Sg Try.prog 0 47 := .start hd47x0 rg47x0
noncomputable def F47x0 (v0 v1 v2 : Int) (v3 : Bool) (v4 : LD) (v5 : Bool) (v6 : LD) (v7 v8 v9 v10 v11 v12 v13 v14 v15 v16 v17 v18 v19 : Bool) (v20 : LD) (v21 : Bool) (v22 : LD) (k0 : Ty6 → Option R) : Option R :=
  bnd (R78x1 N N 0 0 v2 0 0 0 0 0 0 0 0 0 0 0 0 0 0 0 0 0 v0 v1 v2 v3 v4 v5 v6 v7 v8 v9 v10 v11 v12 v13 v14 v15 v16 v17 v18 v19 v20 v21 v22 []) fun y0 =>
  bif y0.isSome then
    k0 (y0.getD default)
  else
    none
noncomputable def G47x0 (v0 v1 v2 : Int) (v3 : Bool) (v4 : LD) (v5 : Bool) (v6 : LD) (v7 v8 v9 v10 v11 v12 v13 v14 v15 v16 v17 v18 v19 : Bool) (v20 : LD) (v21 : Bool) (v22 : LD) : Option (Ty6) := F47x0 N v0 v1 v2 v3 v4 v5 v6 v7 v8 v9 v10 v11 v12 v13 v14 v15 v16 v17 v18 v19 v20 v21 v22 (fun p => some p)
theorem bind47x0 (v0 v1 v2 : Int) (v3 : Bool) (v4 : LD) (v5 : Bool) (v6 : LD) (v7 v8 v9 v10 v11 v12 v13 v14 v15 v16 v17 v18 v19 : Bool) (v20 : LD) (v21 : Bool) (v22 : LD) (k0 : Ty6 → Option R) : F47x0 N v0 v1 v2 v3 v4 v5 v6 v7 v8 v9 v10 v11 v12 v13 v14 v15 v16 v17 v18 v19 v20 v21 v22 k0 = (G47x0 N v0 v1 v2 v3 v4 v5 v6 v7 v8 v9 v10 v11 v12 v13 v14 v15 v16 v17 v18 v19 v20 v21 v22).bind k0 := by
  unfold G47x0 F47x0
  repeat' (first | rfl | apply cond_b | (apply bnd_b; intro _))
noncomputable def J47x0 (L : List Lf) (k0 : Ty6 → Option R) : Option R := F47x0 N (li L 0) (li L 1) (li L 2) (lb L 3) (ll L 4) (lb L 5) (ll L 6) (lb L 7) (lb L 8) (lb L 9) (lb L 10) (lb L 11) (lb L 12) (lb L 13) (lb L 14) (lb L 15) (lb L 16) (lb L 17) (lb L 18) (lb L 19) (ll L 20) (lb L 21) (ll L 22) k0
noncomputable def sh47x0 : Sh := { tmps := [(0, .g (.i .i64 :: .i .i64 :: .i .i64 :: .sl 66 :: .sl 68 :: rB 12 ([]))), (1, .c (.sl 3)), (2, .c (.sl 3))], mem := [] }
noncomputable def K47x0w0 (L : List Lf) (p : Ty6) : Res := ([.c (.p 14 0), .g [.i .i64 p.1, .i .i64 p.2.1, .i .i64 p.2.2.1]], [(12, .map 106 59 p.2.2.2), (14, .box (.i .i64 (li L 0) :: .i .i64 (li L 1) :: .i .i64 (li L 2) :: .sl 66 (lb L 3) (ll L 4) :: .sl 68 (lb L 5) (ll L 6) :: rM L 7 12 ([.sl 3 (lb L 19) (ll L 20), .sl 3 (lb L 21) (ll L 22), .m 12])))])
noncomputable def A47x0 (L : List Lf) : List (Bool × Res) := bnd (J47x0 N L (fun p => some p)) fun q => [(q.isSome, K47x0w0 L (q.getD default))]
theorem raw47x0 (L : List Lf) : bd Try.prog (T78x1 N) (h47x0s0 N).h 47 sh47x0 L = J47x0 N L (fun p => some (K47x0w0 L p)) := by kernel_rfl
theorem ok47x0 : FnOk Try.prog 47 sh47x0 (A47x0 N) :=
  (h47x0s0 N).fn progOk (T78x1_ok N) fun L x hx => ((raw47x0 N L).trans ((bind47x0 N ..).trans (alt1 x hx)))
noncomputable def T47x0 : Oracle := ext 47 (spSh sh47x0 (A47x0 N)) (T78x1 N)
theorem T47x0_ok : OracleOk Try.prog (T47x0 N) := FnOk.to (ok47x0 N) (T78x1_ok N)
noncomputable def rg90x2 : List (Nat × List Nat) := [(0, [1, 0, 2]), (1, [0, 4, 2, 6]), (2, [8, 6, 0, 7, 2, 4]), (3, [6]), (4, [0, 7, 6, 2, 4]), (5, [9, 6, 0, 2, 4]), (6, [9, 6]), (7, [9, 0, 2, 4, 6]), (8, [4, 0, 2, 9, 6]), (9, [9, 6]), (10, [9, 6])]
noncomputable def hd90x2 : Hints := [(25, [4, 0, 2, 9, 6], [11, 8, 6, 1, 0], []), (29, [9, 6, 70], [1, 0, 11, 8], [])]
noncomputable def h90x2s0 (N : Nat) : Sg Try.prog 2 90 := .start hd90x2 rg90x2
noncomputable def F90x2x25 (N : Nat) (w0 : Int) (w21 w23 : LD) (w25 : Int) (k0 : Bool → Option R) : Option R :=
  bif (decide (w25 ≥ (w21.length : Int))) then
    bif (decide (w25 < (w23.length : Int))) then
      bif (inB w25 w23.length) then
        k0 ((w23.getD w25.toNat (.i 0)).toI != w0)
      else
        none
    else
      k0 false
  else
    k0 false
noncomputable def G90x2x25 (w0 : Int) (w21 w23 : LD) (w25 : Int) : Option (Bool) := F90x2x25 N w0 w21 w23 w25 (fun p => some p)
theorem bind90x2x25 (w0 : Int) (w21 w23 : LD) (w25 : Int) (k0 : Bool → Option R) : F90x2x25 N w0 w21 w23 w25 k0 = (G90x2x25 N w0 w21 w23 w25).bind k0 := by
  unfold G90x2x25 F90x2x25
  repeat' (first | rfl | apply cond_b | (apply bnd_b; intro _))
noncomputable def J90x2x25 (L : List Lf) (k0 : Bool → Option R) : Option R := F90x2x25 N (li L 0) (ll L 21) (ll L 23) (li L 25) k0
noncomputable def sh90x2x25 : Sh := { tmps := [(0, .c (.p 0 0)), (2, .c (.i .i64)), (4, .c (.p 6 0)), (6, .c (.p 8 0)), (9, .c (.p 11 0))], mem := [(0, .box (.i .i64 :: .i .i64 :: .i .i64 :: .sl 66 :: .sl 68 :: rB 12 ([.sl 3, .sl 3, .m 1]))), (1, .map 106 59), (6, .box (rI 20 ([]))), (8, .box ([.i .i64, .i .i64, .i .i64])), (11, .box ([.i .i64, .i .i64, .i .i64]))] }
noncomputable def K90x2x25w0 (L : List Lf) (p : Bool) : Ex × St := (.normal, mg (ofSh sh90x2x25 L) [6, 9, 70] [(70, .c (.b p))] [0, 1, 8, 11] [])
noncomputable def A90x2x25 (L : List Lf) : List (Bool × (Ex × St)) := bnd (J90x2x25 N L (fun p => some p)) fun q => [(q.isSome, K90x2x25w0 L (q.getD default))]
theorem raw90x2x25 (L : List Lf) : pc Try.prog (T47x0 N) (h90x2s0 N).h 2 100 90 25 sh90x2x25 L [9, 6, 70] [1, 0, 11, 8] = J90x2x25 N L (fun p => some (K90x2x25w0 L p)) := by kernel_rfl
noncomputable def h90x2s1 : Sg Try.prog 2 90 :=
  (h90x2s0 N).cut (A90x2x25 N) progOk (T47x0_ok N) fun L x hx => (raw90x2x25 N L).trans ((bind90x2x25 N ..).trans (alt1 x hx))
noncomputable def F90x2x29 (N : Nat) (w0 : Bool) (w29 : Int) (k0 : Int → R) : R :=
  bif w0 then
    k0 (IntKind.wrap .i64 (w29 + 1))
  else
    k0 w29
noncomputable def V90x2x29 (w0 : Bool) (w29 : Int) : Int := F90x2x29 N w0 w29 (fun p => p)
theorem tot90x2x29 (w0 : Bool) (w29 : Int) (k0 : Int → R) : F90x2x29 N w0 w29 k0 = k0 (V90x2x29 N w0 w29) := by
  unfold V90x2x29 F90x2x29
  repeat' (first | rfl | apply cond_k | (apply bnd_k; intro _))
noncomputable def sh90x2x29 : Sh := { tmps := [(6, .c (.p 8 0)), (9, .c (.p 11 0)), (70, .c (.b))], mem := [(0, .box (.i .i64 :: .i .i64 :: .i .i64 :: .sl 66 :: .sl 68 :: rB 12 ([.sl 3, .sl 3, .m 1]))), (1, .map 106 59), (8, .box ([.i .i64, .i .i64, .i .i64])), (11, .box ([.i .i64, .i .i64, .i .i64]))] }
noncomputable def K90x2x29w0 (L : List Lf) (p : Int) : Ex × St := (.normal, mg (ofSh sh90x2x29 L) [6, 9] [] [0, 1, 8, 11] [(11, .box [.i .i64 (li L 28), .i .i64 p, .i .i64 (li L 30)])])
noncomputable def A90x2x29 (L : List Lf) : List (Bool × (Ex × St)) := bnd (F90x2x29 N (lb L 0) (li L 29) (fun p => p)) fun q => [(true, K90x2x29w0 L q)]
theorem raw90x2x29 (L : List Lf) : pc Try.prog (T47x0 N) (h90x2s1 N).h 2 100 90 29 sh90x2x29 L [9, 6] [1, 0, 11, 8] = F90x2x29 N (lb L 0) (li L 29) (fun p => some (K90x2x29w0 L p)) := by kernel_rfl
noncomputable def h90x2s2 : Sg Try.prog 2 90 :=
  (h90x2s1 N).cut (A90x2x29 N) progOk (T47x0_ok N) fun L x hx => (raw90x2x29 N L).trans ((tot90x2x29 N ..).trans (alt0 _ _ hx))
noncomputable def F90x2 (v0 v1 v2 v3 v4 v5 v6 v7 v8 v9 v10 v11 v12 v13 v14 v15 v16 v17 v18 v19 v20 v21 v22 v23 : Int) (v24 : Bool) (v25 : LD) (v26 : Bool) (v27 : LD) (v28 v29 v30 v31 v32 v33 v34 v35 v36 v37 v38 v39 v40 : Bool) (v41 : LD) (v42 : Bool) (v43 : LD) (v44 : (List (D × D))) (k0 : Ty6 → Option R) : Option R :=
  bnd (G88x0 N v0 v1 v2 v3 v4 v5 v6 v7 v8 v9 v10 v11 v12 v13 v14 v15 v16 v17 v18 v19 v20 v21 v22 v25 v27 v28 v29 v30 v31 v32 v33 v34 v35 v36 v37 v38 v39) fun y0 =>
  bif y0.isSome then
    bnd (y0.getD default).2.2.2.2.2.2.2.2.2.2.2.2.2.2.2.2.2.2.1 fun y1 =>
    bnd (y0.getD default).2.2.2.2.2.2.2.2.2.2.2.2.2.2.2.2.2.2.2.1 fun y2 =>
    bnd (y0.getD default).2.2.2.2.2.2.2.2.2.2.2.2.2.2.2.2.2.2.2.2 fun y3 =>
    bif (!y3) then
      k0 (0, 0, 0, v44)
    else
      bnd (R78x1 N N (y0.getD default).1 (y0.getD default).2.1 (y0.getD default).2.2.1 (y0.getD default).2.2.2.1 (y0.getD default).2.2.2.2.1 (y0.getD default).2.2.2.2.2.1 (y0.getD default).2.2.2.2.2.2.1 (y0.getD default).2.2.2.2.2.2.2.1 (y0.getD default).2.2.2.2.2.2.2.2.1 (y0.getD default).2.2.2.2.2.2.2.2.2.1 (y0.getD default).2.2.2.2.2.2.2.2.2.2.1 (y0.getD default).2.2.2.2.2.2.2.2.2.2.2.1 (y0.getD default).2.2.2.2.2.2.2.2.2.2.2.2.1 (y0.getD default).2.2.2.2.2.2.2.2.2.2.2.2.2.1 (y0.getD default).2.2.2.2.2.2.2.2.2.2.2.2.2.2.1 (y0.getD default).2.2.2.2.2.2.2.2.2.2.2.2.2.2.2.1 (y0.getD default).2.2.2.2.2.2.2.2.2.2.2.2.2.2.2.2.1 (y0.getD default).2.2.2.2.2.2.2.2.2.2.2.2.2.2.2.2.2.1 y1 y2 v21 v22 v23 v24 v25 v26 v27 v28 v29 v30 v31 v32 v33 v34 v35 v36 v37 v38 v39 v40 v41 v42 v43 v44) fun y4 =>
      bif y4.isSome then
        bif ((y4.getD default).1 == 0) then
          k0 (y4.getD default)
        else
          bnd (G70x0 N v25 v20) fun y5 =>
          bif y5.isSome then
            bnd (IntKind.wrap .i64 ((y4.getD default).2.2.1 + (y5.getD default).2.2.2.1)) fun y6 =>
            bnd (G90x2x25 N v20 v41 v43 v0) fun y7 =>
            bif y7.isSome then
              bnd (V90x2x29 N (y7.getD default) (y4.getD default).2.1) fun y8 =>
              k0 ((y4.getD default).1, y8, y6, (y4.getD default).2.2.2)
            else
              none
          else
            none
      else
        none
  else
    none
noncomputable def G90x2 (v0 v1 v2 v3 v4 v5 v6 v7 v8 v9 v10 v11 v12 v13 v14 v15 v16 v17 v18 v19 v20 v21 v22 v23 : Int) (v24 : Bool) (v25 : LD) (v26 : Bool) (v27 : LD) (v28 v29 v30 v31 v32 v33 v34 v35 v36 v37 v38 v39 v40 : Bool) (v41 : LD) (v42 : Bool) (v43 : LD) (v44 : (List (D × D))) : Option (Ty6) := F90x2 N v0 v1 v2 v3 v4 v5 v6 v7 v8 v9 v10 v11 v12 v13 v14 v15 v16 v17 v18 v19 v20 v21 v22 v23 v24 v25 v26 v27 v28 v29 v30 v31 v32 v33 v34 v35 v36 v37 v38 v39 v40 v41 v42 v43 v44 (fun p => some p)
theorem bind90x2 (v0 v1 v2 v3 v4 v5 v6 v7 v8 v9 v10 v11 v12 v13 v14 v15 v16 v17 v18 v19 v20 v21 v22 v23 : Int) (v24 : Bool) (v25 : LD) (v26 : Bool) (v27 : LD) (v28 v29 v30 v31 v32 v33 v34 v35 v36 v37 v38 v39 v40 : Bool) (v41 : LD) (v42 : Bool) (v43 : LD) (v44 : (List (D × D))) (k0 : Ty6 → Option R) : F90x2 N v0 v1 v2 v3 v4 v5 v6 v7 v8 v9 v10 v11 v12 v13 v14 v15 v16 v17 v18 v19 v20 v21 v22 v23 v24 v25 v26 v27 v28 v29 v30 v31 v32 v33 v34 v35 v36 v37 v38 v39 v40 v41 v42 v43 v44 k0 = (G90x2 N v0 v1 v2 v3 v4 v5 v6 v7 v8 v9 v10 v11 v12 v13 v14 v15 v16 v17 v18 v19 v20 v21 v22 v23 v24 v25 v26 v27 v28 v29 v30 v31 v32 v33 v34 v35 v36 v37 v38 v39 v40 v41 v42 v43 v44).bind k0 := by
  unfold G90x2 F90x2
  repeat' (first | rfl | apply cond_b | (apply bnd_b; intro _))
noncomputable def J90x2 (L : List Lf) (k0 : Ty6 → Option R) : Option R := F90x2 N (li L 0) (li L 1) (li L 2) (li L 3) (li L 4) (li L 5) (li L 6) (li L 7) (li L 8) (li L 9) (li L 10) (li L 11) (li L 12) (li L 13) (li L 14) (li L 15) (li L 16) (li L 17) (li L 18) (li L 19) (li L 20) (li L 21) (li L 22) (li L 23) (lb L 24) (ll L 25) (lb L 26) (ll L 27) (lb L 28) (lb L 29) (lb L 30) (lb L 31) (lb L 32) (lb L 33) (lb L 34) (lb L 35) (lb L 36) (lb L 37) (lb L 38) (lb L 39) (lb L 40) (ll L 41) (lb L 42) (ll L 43) (lm L 44) k0
noncomputable def sh90x2 : Sh := { tmps := [(0, .c (.p 0 0)), (1, .g (rI 20 ([]))), (2, .c (.i .i64))], mem := [(0, .box (.i .i64 :: .i .i64 :: .i .i64 :: .sl 66 :: .sl 68 :: rB 12 ([.sl 3, .sl 3, .m 1]))), (1, .map 106 59)] }
noncomputable def K90x2w0 (L : List Lf) (p : Ty6) : Res := ([.g [.i .i64 p.1, .i .i64 p.2.1, .i .i64 p.2.2.1]], mgA (ofSh sh90x2 L).mem [(1, .map 106 59 p.2.2.2)] [0, 1])
noncomputable def A90x2 (L : List Lf) : List (Bool × Res) := bnd (J90x2 N L (fun p => some p)) fun q => [(q.isSome, K90x2w0 L (q.getD default))]
theorem raw90x2 (L : List Lf) : bd Try.prog (T47x0 N) (h90x2s2 N).h 90 sh90x2 L = J90x2 N L (fun p => some (K90x2w0 L p)) := by kernel_rfl
theorem ok90x2 : FnOk Try.prog 90 sh90x2 (A90x2 N) :=
  (h90x2s2 N).fn progOk (T47x0_ok N) fun L x hx => ((raw90x2 N L).trans ((bind90x2 N ..).trans (alt1 x hx)))
noncomputable def T90x2 : Oracle := ext 90 (spSh sh90x2 (A90x2 N)) (T47x0 N)
theorem T90x2_ok : OracleOk Try.prog (T90x2 N) := FnOk.to (ok90x2 N) (T47x0_ok N)
noncomputable def rg91x1 : List (Nat × List Nat) := [(0, [0, 1]), (1, [2, 3])]
noncomputable def hd91x1 : Hints := []
noncomputable def h91x1s0 (N : Nat) : Sg Try.prog 0 91 := .start hd91x1 rg91x1
noncomputable def F91x1 (N : Nat) (v0 v1 v2 v3 v4 v5 : Int) (k0 : Bool → R) : R :=
  bnd (bif (decide (v0 > 0)) then (bif (bif (v3 == 0) then true else (decide (v1 < v4))) then true else (bif (v1 == v4) then (decide (v2 > v5)) else false)) else false) fun y0 =>
  k0 y0
noncomputable def V91x1 (v0 v1 v2 v3 v4 v5 : Int) : Bool := F91x1 N v0 v1 v2 v3 v4 v5 (fun p => p)
theorem tot91x1 (v0 v1 v2 v3 v4 v5 : Int) (k0 : Bool → R) : F91x1 N v0 v1 v2 v3 v4 v5 k0 = k0 (V91x1 N v0 v1 v2 v3 v4 v5) := by
  unfold V91x1 F91x1
  repeat' (first | rfl | apply cond_k | (apply bnd_k; intro _))
noncomputable def J91x1 (L : List Lf) (k0 : Bool → R) : R := F91x1 N (li L 0) (li L 1) (li L 2) (li L 3) (li L 4) (li L 5) k0
noncomputable def sh91x1 : Sh := { tmps := [(0, .g ([.i .i64, .i .i64, .i .i64])), (1, .g ([.i .i64, .i .i64, .i .i64]))], mem := [] }
noncomputable def A91x1 (L : List Lf) : List (Bool × Res) := bnd (J91x1 N L (fun p => p)) fun q => [(true, ([.c (.b q)], []))]
theorem raw91x1 (L : List Lf) : bd Try.prog (T90x2 N) (h91x1s0 N).h 91 sh91x1 L = J91x1 N L (fun p => some ([.c (.b p)], [])) := by kernel_rfl
theorem ok91x1 : FnOk Try.prog 91 sh91x1 (A91x1 N) :=
  (h91x1s0 N).fn progOk (T90x2_ok N) fun L x hx => ((raw91x1 N L).trans ((tot91x1 N ..).trans (alt0 _ _ hx)))
noncomputable def T91x1 : Oracle := ext 91 (spSh sh91x1 (A91x1 N)) (T90x2 N)
theorem T91x1_ok : OracleOk Try.prog (T91x1 N) := FnOk.to (ok91x1 N) (T90x2_ok N)
noncomputable def rg72x0 : List (Nat × List Nat) := [(0, [0]), (1, [0]), (2, [0, 3]), (3, [4, 0, 3]), (4, [0, 4, 3]), (5, [0, 4, 5, 3]), (6, [6, 7, 0, 4, 5, 3]), (7, [8, 7, 0, 4, 5, 3]), (9, [0, 4, 8, 5, 3, 7]), (10, [9, 5, 3, 8, 0, 4, 7]), (8, [8, 7, 0, 4, 5, 3]), (11, [3, 8, 0, 4]), (12, [0, 4, 8, 3]), (13, [4, 0, 3]), (14, [65, 0, 3]), (15, [3])]
noncomputable def hd72x0 : Hints := [(9, [4, 0, 3], [6, 1, 0, 5], [3]), (21, [8, 7, 0, 4, 5, 3], [7, 6, 5, 1, 0], [3]), (31, [9, 5, 3, 8, 0, 4, 7], [11, 7, 6, 5, 1, 0], [])]
noncomputable def h72x0s0 (N : Nat) : Sg Try.prog 2 72 := .start hd72x0 rg72x0
noncomputable def F72x0x31 (w48 w49 w50 w51 w52 w53 : Int) (k0 : Bool → R) : R :=
  bif (decide (w51 > 0)) then
    bnd (V91x1 N w48 w49 w50 w51 w52 w53) fun y0 =>
    k0 (!y0)
  else
    k0 false
noncomputable def V72x0x31 (w48 w49 w50 w51 w52 w53 : Int) : Bool := F72x0x31 N w48 w49 w50 w51 w52 w53 (fun p => p)
theorem tot72x0x31 (w48 w49 w50 w51 w52 w53 : Int) (k0 : Bool → R) : F72x0x31 N w48 w49 w50 w51 w52 w53 k0 = k0 (V72x0x31 N w48 w49 w50 w51 w52 w53) := by
  unfold V72x0x31 F72x0x31
  repeat' (first | rfl | apply cond_k | (apply bnd_k; intro _))
noncomputable def J72x0x31 (L : List Lf) (k0 : Bool → R) : R := F72x0x31 N (li L 48) (li L 49) (li L 50) (li L 51) (li L 52) (li L 53) k0
noncomputable def sh72x0x31 : Sh := { tmps := [(0, .c (.p 0 0)), (3, .c (.o 5)), (4, .c (.p 6 0)), (5, .c (.p 7 0)), (7, .c (.i .i64)), (8, .c (.i .i64)), (9, .c (.p 11 0))], mem := [(0, .box (.i .i64 :: .i .i64 :: .i .i64 :: .sl 66 :: .sl 68 :: rB 12 ([.sl 3, .sl 3, .m 1]))), (1, .map 106 59), (5, .row 3 true), (6, .box (rI 20 ([]))), (7, .box ([.i .i64, .i .i64, .i .i64])), (11, .box ([.i .i64, .i .i64, .i .i64]))] }
noncomputable def K72x0x31w0 (L : List Lf) (p : Bool) : Ex × St := (.normal, mg (ofSh sh72x0x31 L) [0, 3, 4, 5, 7, 8, 51] [(51, .c (.b p))] [0, 1, 5, 6, 7] [])
noncomputable def A72x0x31 (L : List Lf) : List (Bool × (Ex × St)) := bnd (J72x0x31 N L (fun p => p)) fun q => [(true, K72x0x31w0 L q)]
theorem raw72x0x31 (L : List Lf) : pc Try.prog (T91x1 N) (h72x0s0 N).h 2 100 72 31 sh72x0x31 L [3, 8, 0, 4, 7, 5, 51] [7, 6, 5, 1, 0] = J72x0x31 N L (fun p => some (K72x0x31w0 L p)) := by kernel_rfl
noncomputable def h72x0s1 : Sg Try.prog 2 72 :=
  (h72x0s0 N).cut (A72x0x31 N) progOk (T91x1_ok N) fun L x hx => (raw72x0x31 N L).trans ((tot72x0x31 N ..).trans (alt0 _ _ hx))
noncomputable def S72x0x21 (w0 w2 w3 w4 : Int) (w5 : Bool) (w6 : LD) (w7 : Bool) (w8 : LD) (w9 w10 w11 w12 w13 w14 w15 w16 w17 w18 w19 w20 w21 : Bool) (w22 : LD) (w23 : Bool) (w24 : LD) (w28 w29 w30 w31 w32 w33 w34 w35 w36 w37 w38 w39 w40 w41 w42 w43 w44 w45 w46 w47 w48 w49 w50 : Int) (w1 : Int) (w25 : (List (D × D))) (kr : Int → (List (D × D)) → Option R) (k0 : Int × (List (D × D)) → Option R) : Option R :=
  bif (decide (w1 < w0)) then
    bnd (G90x2 N w28 w29 w30 w31 w32 w33 w34 w35 w36 w37 w38 w39 w40 w41 w42 w43 w44 w45 w46 w47 w1 w2 w3 w4 w5 w6 w7 w8 w9 w10 w11 w12 w13 w14 w15 w16 w17 w18 w19 w20 w21 w22 w23 w24 w25) fun y0 =>
    bif y0.isSome then
      bnd (V72x0x31 N w48 w49 w50 (y0.getD default).1 (y0.getD default).2.1 (y0.getD default).2.2.1) fun y1 =>
      bif y1 then
        k0 (w1, (y0.getD default).2.2.2)
      else
        kr (IntKind.wrap .i64 (w1 + 1)) (y0.getD default).2.2.2
    else
      none
  else
    k0 (w1, w25)
noncomputable def L72x0x21 (N : Nat) {R : Type} (w0 w2 w3 w4 : Int) (w5 : Bool) (w6 : LD) (w7 : Bool) (w8 : LD) (w9 w10 w11 w12 w13 w14 w15 w16 w17 w18 w19 w20 w21 : Bool) (w22 : LD) (w23 : Bool) (w24 : LD) (w28 w29 w30 w31 w32 w33 w34 w35 w36 w37 w38 w39 w40 w41 w42 w43 w44 w45 w46 w47 w48 w49 w50 : Int) : Nat → Int → (List (D × D)) → (Int × (List (D × D)) → Option R) → Option R
  | 0, _, _, _ => none
  | m + 1, w1, w25, k0 => S72x0x21 N w0 w2 w3 w4 w5 w6 w7 w8 w9 w10 w11 w12 w13 w14 w15 w16 w17 w18 w19 w20 w21 w22 w23 w24 w28 w29 w30 w31 w32 w33 w34 w35 w36 w37 w38 w39 w40 w41 w42 w43 w44 w45 w46 w47 w48 w49 w50 w1 w25 (fun w1 w25 => L72x0x21 N w0 w2 w3 w4 w5 w6 w7 w8 w9 w10 w11 w12 w13 w14 w15 w16 w17 w18 w19 w20 w21 w22 w23 w24 w28 w29 w30 w31 w32 w33 w34 w35 w36 w37 w38 w39 w40 w41 w42 w43 w44 w45 w46 w47 w48 w49 w50 m w1 w25 k0) k0
noncomputable def G72x0x21 (w0 w2 w3 w4 : Int) (w5 : Bool) (w6 : LD) (w7 : Bool) (w8 : LD) (w9 w10 w11 w12 w13 w14 w15 w16 w17 w18 w19 w20 w21 : Bool) (w22 : LD) (w23 : Bool) (w24 : LD) (w28 w29 w30 w31 w32 w33 w34 w35 w36 w37 w38 w39 w40 w41 w42 w43 w44 w45 w46 w47 w48 w49 w50 : Int) (w1 : Int) (w25 : (List (D × D))) : Option (Int × (List (D × D))) := L72x0x21 N (R := (Int × (List (D × D)))) w0 w2 w3 w4 w5 w6 w7 w8 w9 w10 w11 w12 w13 w14 w15 w16 w17 w18 w19 w20 w21 w22 w23 w24 w28 w29 w30 w31 w32 w33 w34 w35 w36 w37 w38 w39 w40 w41 w42 w43 w44 w45 w46 w47 w48 w49 w50 N w1 w25 (fun p => some p)
noncomputable def J72x0x21 (L x : List Lf) (kr : List Lf → Option R) (k0 : Int × (List (D × D)) → Option R) : Option R := S72x0x21 N (li L 0) (li L 2) (li L 3) (li L 4) (lb L 5) (ll L 6) (lb L 7) (ll L 8) (lb L 9) (lb L 10) (lb L 11) (lb L 12) (lb L 13) (lb L 14) (lb L 15) (lb L 16) (lb L 17) (lb L 18) (lb L 19) (lb L 20) (lb L 21) (ll L 22) (lb L 23) (ll L 24) (li L 28) (li L 29) (li L 30) (li L 31) (li L 32) (li L 33) (li L 34) (li L 35) (li L 36) (li L 37) (li L 38) (li L 39) (li L 40) (li L 41) (li L 42) (li L 43) (li L 44) (li L 45) (li L 46) (li L 47) (li L 48) (li L 49) (li L 50) (li x 0) (lm x 1) (fun w1 w25 => kr [.i w1, .m w25]) k0
theorem sb72x0x21 (L x : List Lf) (kr : List Lf → Option R) (k0 : Int × (List (D × D)) → Option R) : J72x0x21 N L x kr k0 = (J72x0x21 N L x (fun y => some (.inl y)) (fun p => some (.inr p))).bind (sumE kr k0) := by
  unfold J72x0x21 S72x0x21
  repeat' (first | rfl | apply cond_b | (apply bnd_b; intro _))
noncomputable def Q72x0x21 (L : List Lf) (m : Nat) (x : List Lf) : Option (Int × (List (D × D))) := L72x0x21 N (R := (Int × (List (D × D)))) (li L 0) (li L 2) (li L 3) (li L 4) (lb L 5) (ll L 6) (lb L 7) (ll L 8) (lb L 9) (lb L 10) (lb L 11) (lb L 12) (lb L 13) (lb L 14) (lb L 15) (lb L 16) (lb L 17) (lb L 18) (lb L 19) (lb L 20) (lb L 21) (ll L 22) (lb L 23) (ll L 24) (li L 28) (li L 29) (li L 30) (li L 31) (li L 32) (li L 33) (li L 34) (li L 35) (li L 36) (li L 37) (li L 38) (li L 39) (li L 40) (li L 41) (li L 42) (li L 43) (li L 44) (li L 45) (li L 46) (li L 47) (li L 48) (li L 49) (li L 50) m (li x 0) (lm x 1) (fun p => some p)
noncomputable def sh72x0x21 : Sh := { tmps := [(0, .c (.p 0 0)), (3, .c (.o 5)), (4, .c (.p 6 0)), (5, .c (.p 7 0)), (7, .c (.i .i64)), (8, .c (.i .i64))], mem := [(0, .box (.i .i64 :: .i .i64 :: .i .i64 :: .sl 66 :: .sl 68 :: rB 12 ([.sl 3, .sl 3, .m 1]))), (1, .map 106 59), (5, .row 3 true), (6, .box (rI 20 ([]))), (7, .box ([.i .i64, .i .i64, .i .i64]))] }
noncomputable def K72x0x21w0 (L : List Lf) (p : Int × (List (D × D))) : Ex × St := ((.exit 2), mg (ofSh sh72x0x21 L) [0, 3, 4, 8] [(8, .c (.i .i64 p.1))] [0, 1, 5, 6] [(1, .map 106 59 p.2)])
noncomputable def A72x0x21 (L : List Lf) : List (Bool × (Ex × St)) := bnd (Q72x0x21 N L N (pk sh72x0x21 [1, 25] L)) fun q => [(q.isSome, K72x0x21w0 L (q.getD default))]
theorem step72x0x21 (m : Nat) (kn : St → Option (Ex × St)) (L x : List Lf) : lpB Try.prog (T91x1 N) (h72x0s1 N).h 2 72 21 sh72x0x21 [1, 25] [2, 3, 8, 0, 4] [6, 5, 1, 0] (m + 100) kn L x = J72x0x21 N L x (fun y => kn (ofSh sh72x0x21 (mx sh72x0x21 [1, 25] L y))) (fun p => some (K72x0x21w0 L p)) := by kernel_rfl
noncomputable def h72x0s2 : Sg Try.prog 2 72 :=
  (h72x0s1 N).lp (A72x0x21 N) N progOk (T91x1_ok N) (fun m kn L x => (step72x0x21 N m kn L x).trans (sb72x0x21 N L x _ _)) (fun L m x => sb72x0x21 N L x (Q72x0x21 N L m) some) fun L x hx => alt1 x hx
noncomputable def S72x0x9 (w0 w1 w2 : Int) (w3 : Bool) (w4 : LD) (w5 : Bool) (w6 : LD) (w7 w8 w9 w10 w11 w12 w13 w14 w15 w16 w17 w18 w19 : Bool) (w20 : LD) (w21 : Bool) (w22 : LD) (w23 : (List (D × D))) (w24 : Bool) (w25 : LD) (w26 w27 w28 w29 w30 w31 w32 w33 w34 w35 w36 w37 w38 w39 w40 w41 w42 w43 w44 w45 : Int) (kr : (List (D × D)) → Bool → LD → Int → Int → Int → Int → Int → Int → Int → Int → Int → Int → Int → Int → Int → Int → Int → Int → Int → Int → Int → Int → Option R) (k0 : Ty7 → Option R) : Option R :=
  bif (decide (w26 < w1)) then
    bnd (R78x1 N N w26 w27 w28 w29 w30 w31 w32 w33 w34 w35 w36 w37 w38 w39 w40 w41 w42 w43 w44 w45 w0 w1 w2 w3 w4 w5 w6 w7 w8 w9 w10 w11 w12 w13 w14 w15 w16 w17 w18 w19 w20 w21 w22 w23) fun y0 =>
    bif y0.isSome then
      bnd (G89x0 N w26 w4 w20) fun y1 =>
      bif y1.isSome then
        bnd (G72x0x21 N (y1.getD default).2 w0 w1 w2 w3 w4 w5 w6 w7 w8 w9 w10 w11 w12 w13 w14 w15 w16 w17 w18 w19 w20 w21 w22 w26 w27 w28 w29 w30 w31 w32 w33 w34 w35 w36 w37 w38 w39 w40 w41 w42 w43 w44 w45 (y0.getD default).1 (y0.getD default).2.1 (y0.getD default).2.2.1 (y1.getD default).1 (y0.getD default).2.2.2) fun y2 =>
        bif y2.isSome then
          bif (decide ((w25.length + 1) * 8 ≤ room) && decide ((w25.length + 1) ≤ strMax)) then
            bnd (G88x0 N w26 w27 w28 w29 w30 w31 w32 w33 w34 w35 w36 w37 w38 w39 w40 w41 w42 w43 w44 w45 (y2.getD default).1 w0 w1 w4 w6 w7 w8 w9 w10 w11 w12 w13 w14 w15 w16 w17 w18) fun y3 =>
            bif y3.isSome then
              bnd (y3.getD default).2.2.2.2.2.2.2.2.2.2.2.2.2.2.2.2.2.2.1 fun y4 =>
              bnd (y3.getD default).2.2.2.2.2.2.2.2.2.2.2.2.2.2.2.2.2.2.2.1 fun y5 =>
              bnd (y3.getD default).2.2.2.2.2.2.2.2.2.2.2.2.2.2.2.2.2.2.2.2 fun y6 =>
              kr (y2.getD default).2 false (w25 ++ [(.i (y2.getD default).1)]) (y3.getD default).1 (y3.getD default).2.1 (y3.getD default).2.2.1 (y3.getD default).2.2.2.1 (y3.getD default).2.2.2.2.1 (y3.getD default).2.2.2.2.2.1 (y3.getD default).2.2.2.2.2.2.1 (y3.getD default).2.2.2.2.2.2.2.1 (y3.getD default).2.2.2.2.2.2.2.2.1 (y3.getD default).2.2.2.2.2.2.2.2.2.1 (y3.getD default).2.2.2.2.2.2.2.2.2.2.1 (y3.getD default).2.2.2.2.2.2.2.2.2.2.2.1 (y3.getD default).2.2.2.2.2.2.2.2.2.2.2.2.1 (y3.getD default).2.2.2.2.2.2.2.2.2.2.2.2.2.1 (y3.getD default).2.2.2.2.2.2.2.2.2.2.2.2.2.2.1 (y3.getD default).2.2.2.2.2.2.2.2.2.2.2.2.2.2.2.1 (y3.getD default).2.2.2.2.2.2.2.2.2.2.2.2.2.2.2.2.1 (y3.getD default).2.2.2.2.2.2.2.2.2.2.2.2.2.2.2.2.2.1 y4 y5
            else
              none
          else
            none
        else
          none
      else
        none
    else
      none
  else
    k0 (w23, w24, w25)
noncomputable def L72x0x9 (N : Nat) {R : Type} (w0 w1 w2 : Int) (w3 : Bool) (w4 : LD) (w5 : Bool) (w6 : LD) (w7 w8 w9 w10 w11 w12 w13 w14 w15 w16 w17 w18 w19 : Bool) (w20 : LD) (w21 : Bool) (w22 : LD) : Nat → (List (D × D)) → Bool → LD → Int → Int → Int → Int → Int → Int → Int → Int → Int → Int → Int → Int → Int → Int → Int → Int → Int → Int → Int → Int → (Ty7 → Option R) → Option R
  | 0, _, _, _, _, _, _, _, _, _, _, _, _, _, _, _, _, _, _, _, _, _, _, _, _ => none
  | m + 1, w23, w24, w25, w26, w27, w28, w29, w30, w31, w32, w33, w34, w35, w36, w37, w38, w39, w40, w41, w42, w43, w44, w45, k0 => S72x0x9 N w0 w1 w2 w3 w4 w5 w6 w7 w8 w9 w10 w11 w12 w13 w14 w15 w16 w17 w18 w19 w20 w21 w22 w23 w24 w25 w26 w27 w28 w29 w30 w31 w32 w33 w34 w35 w36 w37 w38 w39 w40 w41 w42 w43 w44 w45 (fun w23 w24 w25 w26 w27 w28 w29 w30 w31 w32 w33 w34 w35 w36 w37 w38 w39 w40 w41 w42 w43 w44 w45 => L72x0x9 N w0 w1 w2 w3 w4 w5 w6 w7 w8 w9 w10 w11 w12 w13 w14 w15 w16 w17 w18 w19 w20 w21 w22 m w23 w24 w25 w26 w27 w28 w29 w30 w31 w32 w33 w34 w35 w36 w37 w38 w39 w40 w41 w42 w43 w44 w45 k0) k0
noncomputable def G72x0x9 (w0 w1 w2 : Int) (w3 : Bool) (w4 : LD) (w5 : Bool) (w6 : LD) (w7 w8 w9 w10 w11 w12 w13 w14 w15 w16 w17 w18 w19 : Bool) (w20 : LD) (w21 : Bool) (w22 : LD) (w23 : (List (D × D))) (w24 : Bool) (w25 : LD) (w26 w27 w28 w29 w30 w31 w32 w33 w34 w35 w36 w37 w38 w39 w40 w41 w42 w43 w44 w45 : Int) : Option (Ty7) := L72x0x9 N (R := (Ty7)) w0 w1 w2 w3 w4 w5 w6 w7 w8 w9 w10 w11 w12 w13 w14 w15 w16 w17 w18 w19 w20 w21 w22 N w23 w24 w25 w26 w27 w28 w29 w30 w31 w32 w33 w34 w35 w36 w37 w38 w39 w40 w41 w42 w43 w44 w45 (fun p => some p)
noncomputable def J72x0x9 (L x : List Lf) (kr : List Lf → Option R) (k0 : Ty7 → Option R) : Option R := S72x0x9 N (li L 0) (li L 1) (li L 2) (lb L 3) (ll L 4) (lb L 5) (ll L 6) (lb L 7) (lb L 8) (lb L 9) (lb L 10) (lb L 11) (lb L 12) (lb L 13) (lb L 14) (lb L 15) (lb L 16) (lb L 17) (lb L 18) (lb L 19) (ll L 20) (lb L 21) (ll L 22) (lm x 0) (lb x 1) (ll x 2) (li x 3) (li x 4) (li x 5) (li x 6) (li x 7) (li x 8) (li x 9) (li x 10) (li x 11) (li x 12) (li x 13) (li x 14) (li x 15) (li x 16) (li x 17) (li x 18) (li x 19) (li x 20) (li x 21) (li x 22) (fun w23 w24 w25 w26 w27 w28 w29 w30 w31 w32 w33 w34 w35 w36 w37 w38 w39 w40 w41 w42 w43 w44 w45 => kr [.m w23, .b w24, .l w25, .i w26, .i w27, .i w28, .i w29, .i w30, .i w31, .i w32, .i w33, .i w34, .i w35, .i w36, .i w37, .i w38, .i w39, .i w40, .i w41, .i w42, .i w43, .i w44, .i w45]) k0
theorem sb72x0x9 (L x : List Lf) (kr : List Lf → Option R) (k0 : Ty7 → Option R) : J72x0x9 N L x kr k0 = (J72x0x9 N L x (fun y => some (.inl y)) (fun p => some (.inr p))).bind (sumE kr k0) := by
  unfold J72x0x9 S72x0x9
  repeat' (first | rfl | apply cond_b | (apply bnd_b; intro _))
noncomputable def Q72x0x9 (L : List Lf) (m : Nat) (x : List Lf) : Option (Ty7) := L72x0x9 N (R := (Ty7)) (li L 0) (li L 1) (li L 2) (lb L 3) (ll L 4) (lb L 5) (ll L 6) (lb L 7) (lb L 8) (lb L 9) (lb L 10) (lb L 11) (lb L 12) (lb L 13) (lb L 14) (lb L 15) (lb L 16) (lb L 17) (lb L 18) (lb L 19) (ll L 20) (lb L 21) (ll L 22) m (lm x 0) (lb x 1) (ll x 2) (li x 3) (li x 4) (li x 5) (li x 6) (li x 7) (li x 8) (li x 9) (li x 10) (li x 11) (li x 12) (li x 13) (li x 14) (li x 15) (li x 16) (li x 17) (li x 18) (li x 19) (li x 20) (li x 21) (li x 22) (fun p => some p)
noncomputable def sh72x0x9 : Sh := { tmps := [(0, .c (.p 0 0)), (3, .c (.o 5)), (4, .c (.p 6 0))], mem := [(0, .box (.i .i64 :: .i .i64 :: .i .i64 :: .sl 66 :: .sl 68 :: rB 12 ([.sl 3, .sl 3, .m 1]))), (1, .map 106 59), (5, .row 3 true), (6, .box (rI 20 ([])))] }
noncomputable def K72x0x9w0 (L : List Lf) (p : Ty7) : Ex × St := ((.exit 0), mg (ofSh sh72x0x9 L) [3] [] [0, 1, 5] [(1, .map 106 59 p.1), (5, .row 3 true p.2.1 p.2.2)])
noncomputable def A72x0x9 (L : List Lf) : List (Bool × (Ex × St)) := bnd (Q72x0x9 N L N (pk sh72x0x9 [23, 24, 25, 26, 27, 28, 29, 30, 31, 32, 33, 34, 35, 36, 37, 38, 39, 40, 41, 42, 43, 44, 45] L)) fun q => [(q.isSome, K72x0x9w0 L (q.getD default))]
theorem step72x0x9 (m : Nat) (kn : St → Option (Ex × St)) (L x : List Lf) : lpB Try.prog (T91x1 N) (h72x0s2 N).h 2 72 9 sh72x0x9 [23, 24, 25, 26, 27, 28, 29, 30, 31, 32, 33, 34, 35, 36, 37, 38, 39, 40, 41, 42, 43, 44, 45] [2, 3] [1, 0, 5] (m + 100) kn L x = J72x0x9 N L x (fun y => kn (ofSh sh72x0x9 (mx sh72x0x9 [23, 24, 25, 26, 27, 28, 29, 30, 31, 32, 33, 34, 35, 36, 37, 38, 39, 40, 41, 42, 43, 44, 45] L y))) (fun p => some (K72x0x9w0 L p)) := by kernel_rfl
noncomputable def h72x0s3 : Sg Try.prog 2 72 :=
  (h72x0s2 N).lp (A72x0x9 N) N progOk (T91x1_ok N) (fun m kn L x => (step72x0x9 N m kn L x).trans (sb72x0x9 N L x _ _)) (fun L m x => sb72x0x9 N L x (Q72x0x9 N L m) some) fun L x hx => alt1 x hx
noncomputable def F72x0 (v0 v1 v2 : Int) (v3 : Bool) (v4 : LD) (v5 : Bool) (v6 : LD) (v7 v8 v9 v10 v11 v12 v13 v14 v15 v16 v17 v18 v19 : Bool) (v20 : LD) (v21 : Bool) (v22 : LD) (v23 : (List (D × D))) (k0 : Bool × LD × (List (D × D)) → Option R) : Option R :=
  bnd (G72x0x9 N v0 v1 v2 v3 v4 v5 v6 v7 v8 v9 v10 v11 v12 v13 v14 v15 v16 v17 v18 v19 v20 v21 v22 v23 true [] 0 0 v2 0 0 0 0 0 0 0 0 0 0 0 0 0 0 0 0 0) fun y0 =>
  bif y0.isSome then
    k0 ((y0.getD default).2.1, (y0.getD default).2.2, (y0.getD default).1)
  else
    none
noncomputable def G72x0 (v0 v1 v2 : Int) (v3 : Bool) (v4 : LD) (v5 : Bool) (v6 : LD) (v7 v8 v9 v10 v11 v12 v13 v14 v15 v16 v17 v18 v19 : Bool) (v20 : LD) (v21 : Bool) (v22 : LD) (v23 : (List (D × D))) : Option (Bool × LD × (List (D × D))) := F72x0 N v0 v1 v2 v3 v4 v5 v6 v7 v8 v9 v10 v11 v12 v13 v14 v15 v16 v17 v18 v19 v20 v21 v22 v23 (fun p => some p)
theorem bind72x0 (v0 v1 v2 : Int) (v3 : Bool) (v4 : LD) (v5 : Bool) (v6 : LD) (v7 v8 v9 v10 v11 v12 v13 v14 v15 v16 v17 v18 v19 : Bool) (v20 : LD) (v21 : Bool) (v22 : LD) (v23 : (List (D × D))) (k0 : Bool × LD × (List (D × D)) → Option R) : F72x0 N v0 v1 v2 v3 v4 v5 v6 v7 v8 v9 v10 v11 v12 v13 v14 v15 v16 v17 v18 v19 v20 v21 v22 v23 k0 = (G72x0 N v0 v1 v2 v3 v4 v5 v6 v7 v8 v9 v10 v11 v12 v13 v14 v15 v16 v17 v18 v19 v20 v21 v22 v23).bind k0 := by
  unfold G72x0 F72x0
  repeat' (first | rfl | apply cond_b | (apply bnd_b; intro _))
noncomputable def J72x0 (L : List Lf) (k0 : Bool × LD × (List (D × D)) → Option R) : Option R := F72x0 N (li L 0) (li L 1) (li L 2) (lb L 3) (ll L 4) (lb L 5) (ll L 6) (lb L 7) (lb L 8) (lb L 9) (lb L 10) (lb L 11) (lb L 12) (lb L 13) (lb L 14) (lb L 15) (lb L 16) (lb L 17) (lb L 18) (lb L 19) (ll L 20) (lb L 21) (ll L 22) (lm L 23) k0
noncomputable def sh72x0 : Sh := { tmps := [(0, .c (.p 0 0))], mem := [(0, .box (.i .i64 :: .i .i64 :: .i .i64 :: .sl 66 :: .sl 68 :: rB 12 ([.sl 3, .sl 3, .m 1]))), (1, .map 106 59)] }
noncomputable def K72x0w0 (L : List Lf) (p : Bool × LD × (List (D × D))) : Res := ([.c (.sl 3 p.1 p.2.1)], mgA (ofSh sh72x0 L).mem [(1, .map 106 59 p.2.2)] [0, 1])
noncomputable def A72x0 (L : List Lf) : List (Bool × Res) := bnd (J72x0 N L (fun p => some p)) fun q => [(q.isSome, K72x0w0 L (q.getD default))]
theorem raw72x0 (L : List Lf) : bd Try.prog (T91x1 N) (h72x0s3 N).h 72 sh72x0 L = J72x0 N L (fun p => some (K72x0w0 L p)) := by kernel_rfl
theorem ok72x0 : FnOk Try.prog 72 sh72x0 (A72x0 N) :=
  (h72x0s3 N).fn progOk (T91x1_ok N) fun L x hx => ((raw72x0 N L).trans ((bind72x0 N ..).trans (alt1 x hx)))
noncomputable def T72x0 : Oracle := ext 72 (spSh sh72x0 (A72x0 N)) (T91x1 N)
theorem T72x0_ok : OracleOk Try.prog (T72x0 N) := FnOk.to (ok72x0 N) (T91x1_ok N)
noncomputable def rg43x0 : List (Nat × List Nat) := [(0, [0, 1, 2]), (1, [3, 1, 2]), (2, [9, 3, 1, 2]), (3, [9]), (4, [3, 1, 2]), (5, [11, 10]), (6, []), (7, [10])]
noncomputable def hd43x0 : Hints := []
noncomputable def h43x0s0 (N : Nat) : Sg Try.prog 0 43 := .start hd43x0 rg43x0
noncomputable def F43x0 (v0 v1 v2 : Int) (v3 : Bool) (v4 : LD) (v5 : Bool) (v6 : LD) (v7 : Bool) (v8 : LD) (v9 : Bool) (v10 : LD) (k0 : Ty8 → Option R) : Option R :=
  bnd (G46x0 N v0 v1 v2 v4 v6 v8) fun y0 =>
  bif y0.isSome then
    bif ((y0.getD default) != 0) then
      k0 (true, [], false, (y0.getD default))
    else
      bnd (G47x0 N v0 v1 v2 v3 v4 v5 v6 false false false false false false false false false false false false v7 v8 v9 v10) fun y1 =>
      bif y1.isSome then
        bif ((y1.getD default).1 == 0) then
          k0 (true, [], false, 0)
        else
          bnd (G72x0 N v0 v1 v2 v3 v4 v5 v6 false false false false false false false false false false false false v7 v8 v9 v10 (y1.getD default).2.2.2) fun y2 =>
          bif y2.isSome then
            k0 ((y2.getD default).1, (y2.getD default).2.1, true, 0)
          else
            none
      else
        none
  else
    none
noncomputable def G43x0 (v0 v1 v2 : Int) (v3 : Bool) (v4 : LD) (v5 : Bool) (v6 : LD) (v7 : Bool) (v8 : LD) (v9 : Bool) (v10 : LD) : Option (Ty8) := F43x0 N v0 v1 v2 v3 v4 v5 v6 v7 v8 v9 v10 (fun p => some p)
theorem bind43x0 (v0 v1 v2 : Int) (v3 : Bool) (v4 : LD) (v5 : Bool) (v6 : LD) (v7 : Bool) (v8 : LD) (v9 : Bool) (v10 : LD) (k0 : Ty8 → Option R) : F43x0 N v0 v1 v2 v3 v4 v5 v6 v7 v8 v9 v10 k0 = (G43x0 N v0 v1 v2 v3 v4 v5 v6 v7 v8 v9 v10).bind k0 := by
  unfold G43x0 F43x0
  repeat' (first | rfl | apply cond_b | (apply bnd_b; intro _))
noncomputable def J43x0 (L : List Lf) (k0 : Ty8 → Option R) : Option R := F43x0 N (li L 0) (li L 1) (li L 2) (lb L 3) (ll L 4) (lb L 5) (ll L 6) (lb L 7) (ll L 8) (lb L 9) (ll L 10) k0
noncomputable def sh43x0 : Sh := { tmps := [(0, .g ([.i .i64, .i .i64, .i .i64, .sl 66, .sl 68])), (1, .c (.sl 3)), (2, .c (.sl 3))], mem := [] }
noncomputable def K43x0w0 (L : List Lf) (p : Ty8) : Res := ([.c (.sl 3 p.1 p.2.1), .c (.b p.2.2.1), .c (.i .i64 p.2.2.2)], [])
noncomputable def A43x0 (L : List Lf) : List (Bool × Res) := bnd (J43x0 N L (fun p => some p)) fun q => [(q.isSome, K43x0w0 L (q.getD default))]
theorem raw43x0 (L : List Lf) : bd Try.prog (T72x0 N) (h43x0s0 N).h 43 sh43x0 L = J43x0 N L (fun p => some (K43x0w0 L p)) := by kernel_rfl
theorem ok43x0 : FnOk Try.prog 43 sh43x0 (A43x0 N) :=
  (h43x0s0 N).fn progOk (T72x0_ok N) fun L x hx => ((raw43x0 N L).trans ((bind43x0 N ..).trans (alt1 x hx)))
noncomputable def T43x0 : Oracle := ext 43 (spSh sh43x0 (A43x0 N)) (T72x0 N)
theorem T43x0_ok : OracleOk Try.prog (T43x0 N) := FnOk.to (ok43x0 N) (T72x0_ok N)
noncomputable def rg11x0 : List (Nat × List Nat) := [(0, [0, 1]), (1, [2, 1])]
noncomputable def hd11x0 : Hints := []
noncomputable def h11x0s0 (N : Nat) : Sg Try.prog 0 11 := .start hd11x0 rg11x0
noncomputable def F11x0 (v0 v1 v2 : Int) (v3 : Bool) (v4 : LD) (v5 : Bool) (v6 : LD) (v7 : Bool) (v8 : LD) (k0 : Ty8 → Option R) : Option R :=
  bnd (G43x0 N v0 v1 v2 v3 v4 v5 v6 v7 v8 true []) fun y0 =>
  bif y0.isSome then
    k0 (y0.getD default)
  else
    none
noncomputable def G11x0 (v0 v1 v2 : Int) (v3 : Bool) (v4 : LD) (v5 : Bool) (v6 : LD) (v7 : Bool) (v8 : LD) : Option (Ty8) := F11x0 N v0 v1 v2 v3 v4 v5 v6 v7 v8 (fun p => some p)
theorem bind11x0 (v0 v1 v2 : Int) (v3 : Bool) (v4 : LD) (v5 : Bool) (v6 : LD) (v7 : Bool) (v8 : LD) (k0 : Ty8 → Option R) : F11x0 N v0 v1 v2 v3 v4 v5 v6 v7 v8 k0 = (G11x0 N v0 v1 v2 v3 v4 v5 v6 v7 v8).bind k0 := by
  unfold G11x0 F11x0
  repeat' (first | rfl | apply cond_b | (apply bnd_b; intro _))
noncomputable def J11x0 (L : List Lf) (k0 : Ty8 → Option R) : Option R := F11x0 N (li L 0) (li L 1) (li L 2) (lb L 3) (ll L 4) (lb L 5) (ll L 6) (lb L 7) (ll L 8) k0
noncomputable def sh11x0 : Sh := { tmps := [(0, .g ([.i .i64, .i .i64, .i .i64, .sl 66, .sl 68])), (1, .c (.sl 3))], mem := [] }
noncomputable def K11x0w0 (L : List Lf) (p : Ty8) : Res := ([.c (.sl 3 p.1 p.2.1), .c (.b p.2.2.1), .c (.i .i64 p.2.2.2)], [])
noncomputable def A11x0 (L : List Lf) : List (Bool × Res) := bnd (J11x0 N L (fun p => some p)) fun q => [(q.isSome, K11x0w0 L (q.getD default))]
theorem raw11x0 (L : List Lf) : bd Try.prog (T43x0 N) (h11x0s0 N).h 11 sh11x0 L = J11x0 N L (fun p => some (K11x0w0 L p)) := by kernel_rfl
theorem ok11x0 : FnOk Try.prog 11 sh11x0 (A11x0 N) :=
  (h11x0s0 N).fn progOk (T43x0_ok N) fun L x hx => ((raw11x0 N L).trans ((bind11x0 N ..).trans (alt1 x hx)))
noncomputable def T11x0 : Oracle := ext 11 (spSh sh11x0 (A11x0 N)) (T43x0 N)
theorem T11x0_ok : OracleOk Try.prog (T11x0 N) := FnOk.to (ok11x0 N) (T43x0_ok N)
noncomputable def rg15x0 : List (Nat × List Nat) := [(0, [0, 1]), (1, [0, 1]), (2, []), (3, [0, 1]), (4, [13, 12, 0, 1]), (5, [13, 0, 1, 12]), (6, [0, 5, 1, 13, 12]), (7, []), (8, [13, 12, 0, 1]), (9, [])]
noncomputable def hd15x0 : Hints := [(12, [13, 12, 0, 1], [], [])]
noncomputable def h15x0s0 (N : Nat) : Sg Try.prog 0 15 := .start hd15x0 rg15x0
noncomputable def S15x0x12 (N : Nat) (w1 w3 : LD) (w4 : Int) (w5 : Int) (kr : Int → Option R) (k0 : Unit → Option R) (k1 : Unit → Option R) : Option R :=
  bif (decide (w5 < w4)) then
    bif (inB w5 w1.length) then
      bif (inB w5 w3.length) then
        bnd ((w1.getD w5.toNat (.i 0)).toI != (w3.getD w5.toNat (.i 0)).toI) fun y0 =>
        bif y0 then
          k0 ()
        else
          kr (IntKind.wrap .i64 (w5 + 1))
      else
        none
    else
      none
  else
    k1 ()
noncomputable def L15x0x12 (N : Nat) {R : Type} (w1 w3 : LD) (w4 : Int) : Nat → Int → (Unit → Option R) → (Unit → Option R) → Option R
  | 0, _, _, _ => none
  | m + 1, w5, k0, k1 => S15x0x12 N w1 w3 w4 w5 (fun w5 => L15x0x12 N w1 w3 w4 m w5 k0 k1) k0 k1
noncomputable def G15x0x12 (w1 w3 : LD) (w4 : Int) (w5 : Int) : Option (Sum (Unit) (Unit)) := L15x0x12 N (R := (Sum (Unit) (Unit))) w1 w3 w4 N w5 (fun p => some (.inl p)) (fun p => some (.inr p))
noncomputable def J15x0x12 (L x : List Lf) (kr : List Lf → Option R) (k0 : Unit → Option R) (k1 : Unit → Option R) : Option R := S15x0x12 N (ll L 1) (ll L 3) (li L 4) (li x 0) (fun w5 => kr [.i w5]) k0 k1
theorem sb15x0x12 (L x : List Lf) (kr : List Lf → Option R) (k0 : Unit → Option R) (k1 : Unit → Option R) : J15x0x12 N L x kr k0 k1 = (J15x0x12 N L x (fun y => some (.inl y)) (fun p => some (.inr (.inl p))) (fun p => some (.inr (.inr p)))).bind (sumE kr (sumE k0 k1)) := by
  unfold J15x0x12 S15x0x12
  repeat' (first | rfl | apply cond_b | (apply bnd_b; intro _))
noncomputable def Q15x0x12 (L : List Lf) (m : Nat) (x : List Lf) : Option (Sum (Unit) (Unit)) := L15x0x12 N (R := (Sum (Unit) (Unit))) (ll L 1) (ll L 3) (li L 4) m (li x 0) (fun p => some (.inl p)) (fun p => some (.inr p))
noncomputable def sh15x0x12 : Sh := { tmps := [(0, .c (.sl 3)), (1, .c (.sl 3)), (12, .c (.i .i64)), (13, .c (.i .i64))], mem := [] }
noncomputable def A15x0x12 (L : List Lf) : List (Bool × (Ex × St)) := bnd (Q15x0x12 N L N (pk sh15x0x12 [5] L)) fun q => [((inlB q), (.ret, ⟨[(4, .c (.b false))], []⟩)), ((inrQ q).isSome, ((.exit 0), ⟨[], []⟩))]
theorem step15x0x12 (m : Nat) (kn : St → Option (Ex × St)) (L x : List Lf) : lpB Try.prog (T11x0 N) (h15x0s0 N).h 0 15 12 sh15x0x12 [5] [4] [] (m + 100) kn L x = J15x0x12 N L x (fun y => kn (ofSh sh15x0x12 (mx sh15x0x12 [5] L y))) (fun _ => some (.ret, ⟨[(4, .c (.b false))], []⟩)) (fun _ => some ((.exit 0), ⟨[], []⟩)) := by kernel_rfl
noncomputable def h15x0s1 : Sg Try.prog 0 15 :=
  (h15x0s0 N).lp (A15x0x12 N) N progOk (T11x0_ok N) (fun m kn L x => (step15x0x12 N m kn L x).trans (sb15x0x12 N L x _ _ _)) (fun L m x => sb15x0x12 N L x (Q15x0x12 N L m) (fun p => some (.inl p)) (fun p => some (.inr p))) fun L x hx => (altS alt1) x hx
noncomputable def F15x0 (v1 v3 : LD) (k0 : Bool → Option R) : Option R :=
  bif ((v1.length : Int) != (v3.length : Int)) then
    k0 false
  else
    bnd (G15x0x12 N v1 v3 (v1.length : Int) 0) fun y0 =>
    bif (inlB y0) then
      k0 false
    else
      bif (inrQ y0).isSome then
        k0 true
      else
        none
noncomputable def G15x0 (v1 v3 : LD) : Option (Bool) := F15x0 N v1 v3 (fun p => some p)
theorem bind15x0 (v1 v3 : LD) (k0 : Bool → Option R) : F15x0 N v1 v3 k0 = (G15x0 N v1 v3).bind k0 := by
  unfold G15x0 F15x0
  repeat' (first | rfl | apply cond_b | (apply bnd_b; intro _))
noncomputable def sh15x0 : Sh := { tmps := [(0, .c (.sl 3)), (1, .c (.sl 3))], mem := [] }
noncomputable def A15x0 (L : List Lf) : List (Bool × Res) := bnd (F15x0 N (ll L 1) (ll L 3) (fun p => some p)) fun q => [(q.isSome, ([.c (.b (q.getD default))], []))]
theorem raw15x0 (L : List Lf) : bd Try.prog (T11x0 N) (h15x0s1 N).h 15 sh15x0 L = F15x0 N (ll L 1) (ll L 3) (fun p => some ([.c (.b p)], [])) := by kernel_rfl
theorem ok15x0 : FnOk Try.prog 15 sh15x0 (A15x0 N) :=
  (h15x0s1 N).fn progOk (T11x0_ok N) fun L x hx => ((raw15x0 N L).trans ((bind15x0 N ..).trans (alt1 x hx)))
noncomputable def T15x0 : Oracle := ext 15 (spSh sh15x0 (A15x0 N)) (T11x0 N)
theorem T15x0_ok : OracleOk Try.prog (T15x0 N) := FnOk.to (ok15x0 N) (T11x0_ok N)
noncomputable def rg16x0 : List (Nat × List Nat) := [(0, []), (1, []), (2, [1]), (3, [4, 3, 2])]
noncomputable def hd16x0 : Hints := [(10, [4, 3, 2], [], [])]
noncomputable def h16x0s0 (N : Nat) : Sg Try.prog 0 16 := .start hd16x0 rg16x0
noncomputable def F16x0x10 (w1 : LD) (w2 : Bool) (w3 : Int) (k0 : Bool → Option R) : Option R :=
  bif (bif (w3 == 0) then w2 else false) then
    bnd (G15x0 N w1 [(.i 0), (.i (-1)), (.i 0)]) fun y0 =>
    bif y0.isSome then
      k0 (y0.getD default)
    else
      none
  else
    k0 false
noncomputable def G16x0x10 (w1 : LD) (w2 : Bool) (w3 : Int) : Option (Bool) := F16x0x10 N w1 w2 w3 (fun p => some p)
theorem bind16x0x10 (w1 : LD) (w2 : Bool) (w3 : Int) (k0 : Bool → Option R) : F16x0x10 N w1 w2 w3 k0 = (G16x0x10 N w1 w2 w3).bind k0 := by
  unfold G16x0x10 F16x0x10
  repeat' (first | rfl | apply cond_b | (apply bnd_b; intro _))
noncomputable def sh16x0x10 : Sh := { tmps := [(2, .c (.sl 3)), (3, .c (.b)), (4, .c (.i .i64))], mem := [] }
noncomputable def A16x0x10 (L : List Lf) : List (Bool × (Ex × St)) := bnd (F16x0x10 N (ll L 1) (lb L 2) (li L 3) (fun p => some p)) fun q => [(q.isSome, (.normal, ⟨[(0, .c (.b (q.getD default)))], []⟩))]
theorem raw16x0x10 (L : List Lf) : pc Try.prog (T15x0 N) (h16x0s0 N).h 0 100 16 10 sh16x0x10 L [0] [] = F16x0x10 N (ll L 1) (lb L 2) (li L 3) (fun p => some (.normal, ⟨[(0, .c (.b p))], []⟩)) := by kernel_rfl
noncomputable def h16x0s1 : Sg Try.prog 0 16 :=
  (h16x0s0 N).cut (A16x0x10 N) progOk (T15x0_ok N) fun L x hx => (raw16x0x10 N L).trans ((bind16x0x10 N ..).trans (alt1 x hx))
noncomputable def F16x0 (k0 : Bool → Option R) : Option R :=
  bnd (G11x0 N 0 3 0 false [(.a [(.s ([102, 97, 115, 116] : List UInt8)), (.i 0), (.i 0), (.i 5), (.b true)])] false [(.a [(.i 5), (.i 0), (.i 2), (.i 0), (.i 0), (.s ([] : List UInt8))])] true []) fun y0 =>
  bif y0.isSome then
    bnd (G16x0x10 N (y0.getD default).2.1 (y0.getD default).2.2.1 (y0.getD default).2.2.2) fun y1 =>
    bif y1.isSome then
      k0 (y1.getD default)
    else
      none
  else
    none
noncomputable def G16x0 : Option (Bool) := F16x0 N (fun p => some p)
theorem bind16x0 (k0 : Bool → Option R) : F16x0 N k0 = (G16x0 N).bind k0 := by
  unfold G16x0 F16x0
  repeat' (first | rfl | apply cond_b | (apply bnd_b; intro _))
noncomputable def sh16x0 : Sh := { tmps := [], mem := [] }
noncomputable def A16x0 (L : List Lf) : List (Bool × Res) := bnd (F16x0 N (fun p => some p)) fun q => [(q.isSome, ([.c (.b (q.getD default))], []))]
theorem raw16x0 (L : List Lf) : bd Try.prog (T15x0 N) (h16x0s1 N).h 16 sh16x0 L = F16x0 N (fun p => some ([.c (.b p)], [])) := by kernel_rfl
theorem ok16x0 : FnOk Try.prog 16 sh16x0 (A16x0 N) :=
  (h16x0s1 N).fn progOk (T15x0_ok N) fun L x hx => ((raw16x0 N L).trans ((bind16x0 N ..).trans (alt1 x hx)))
noncomputable def T16x0 : Oracle := ext 16 (spSh sh16x0 (A16x0 N)) (T15x0 N)
theorem T16x0_ok : OracleOk Try.prog (T16x0 N) := FnOk.to (ok16x0 N) (T15x0_ok N)
noncomputable def rg9x0 : List (Nat × List Nat) := [(0, [0, 1]), (1, [0, 1]), (2, [0, 1, 5, 6]), (3, [5, 7, 6, 8])]
noncomputable def hd9x0 : Hints := [(10, [5, 7, 6, 8], [], [])]
noncomputable def h9x0s0 (N : Nat) : Sg Try.prog 0 9 := .start hd9x0 rg9x0
noncomputable def F9x0x10 (w1 : LD) (w2 : Int) (w4 : LD) (w5 : Int) (k0 : Bool → Option R) : Option R :=
  bnd (G34x0 N w1 w4) fun y0 =>
  bif y0.isSome then
    bif (bif (y0.getD default) then (w2 == w5) else false) then
      bnd (G16x0 N) fun y1 =>
      bif y1.isSome then
        k0 (y1.getD default)
      else
        none
    else
      k0 false
  else
    none
noncomputable def G9x0x10 (w1 : LD) (w2 : Int) (w4 : LD) (w5 : Int) : Option (Bool) := F9x0x10 N w1 w2 w4 w5 (fun p => some p)
theorem bind9x0x10 (w1 : LD) (w2 : Int) (w4 : LD) (w5 : Int) (k0 : Bool → Option R) : F9x0x10 N w1 w2 w4 w5 k0 = (G9x0x10 N w1 w2 w4 w5).bind k0 := by
  unfold G9x0x10 F9x0x10
  repeat' (first | rfl | apply cond_b | (apply bnd_b; intro _))
noncomputable def J9x0x10 (L : List Lf) (k0 : Bool → Option R) : Option R := F9x0x10 N (ll L 1) (li L 2) (ll L 4) (li L 5) k0
noncomputable def sh9x0x10 : Sh := { tmps := [(5, .c (.sl 50)), (6, .c (.i .i64)), (7, .c (.sl 50)), (8, .c (.i .i64))], mem := [] }
noncomputable def A9x0x10 (L : List Lf) : List (Bool × (Ex × St)) := bnd (J9x0x10 N L (fun p => some p)) fun q => [(q.isSome, (.normal, ⟨[(4, .c (.b (q.getD default)))], []⟩))]
theorem raw9x0x10 (L : List Lf) : pc Try.prog (T16x0 N) (h9x0s0 N).h 0 100 9 10 sh9x0x10 L [4] [] = J9x0x10 N L (fun p => some (.normal, ⟨[(4, .c (.b p))], []⟩)) := by kernel_rfl
noncomputable def h9x0s1 : Sg Try.prog 0 9 :=
  (h9x0s0 N).cut (A9x0x10 N) progOk (T16x0_ok N) fun L x hx => (raw9x0x10 N L).trans ((bind9x0x10 N ..).trans (alt1 x hx))
noncomputable def F9x0 (v0 : Bool) (v1 : LD) (v2 : Bool) (v3 : LD) (k0 : Bool → Option R) : Option R :=
  bnd (G32x0 N v0 v1 v2 v3) fun y0 =>
  bif y0.isSome then
    bnd (G33x0 N v0 v1 v2 v3) fun y1 =>
    bif y1.isSome then
      bnd (G9x0x10 N (y0.getD default).2.1 (y0.getD default).2.2 (y1.getD default).2.1 (y1.getD default).2.2) fun y2 =>
      bif y2.isSome then
        k0 (y2.getD default)
      else
        none
    else
      none
  else
    none
noncomputable def G9x0 (v0 : Bool) (v1 : LD) (v2 : Bool) (v3 : LD) : Option (Bool) := F9x0 N v0 v1 v2 v3 (fun p => some p)
theorem bind9x0 (v0 : Bool) (v1 : LD) (v2 : Bool) (v3 : LD) (k0 : Bool → Option R) : F9x0 N v0 v1 v2 v3 k0 = (G9x0 N v0 v1 v2 v3).bind k0 := by
  unfold G9x0 F9x0
  repeat' (first | rfl | apply cond_b | (apply bnd_b; intro _))
noncomputable def J9x0 (L : List Lf) (k0 : Bool → Option R) : Option R := F9x0 N (lb L 0) (ll L 1) (lb L 2) (ll L 3) k0
noncomputable def sh9x0 : Sh := { tmps := [(0, .c (.sl 3)), (1, .c (.sl 3))], mem := [] }
noncomputable def A9x0 (L : List Lf) : List (Bool × Res) := bnd (J9x0 N L (fun p => some p)) fun q => [(q.isSome, ([.c (.b (q.getD default))], []))]
theorem raw9x0 (L : List Lf) : bd Try.prog (T16x0 N) (h9x0s1 N).h 9 sh9x0 L = J9x0 N L (fun p => some ([.c (.b p)], [])) := by kernel_rfl
theorem ok9x0 : FnOk Try.prog 9 sh9x0 (A9x0 N) :=
  (h9x0s1 N).fn progOk (T16x0_ok N) fun L x hx => ((raw9x0 N L).trans ((bind9x0 N ..).trans (alt1 x hx)))
noncomputable def T9x0 : Oracle := ext 9 (spSh sh9x0 (A9x0 N)) (T16x0 N)
theorem T9x0_ok : OracleOk Try.prog (T9x0 N) := FnOk.to (ok9x0 N) (T16x0_ok N)
end Go.Proofs.Ytefmjfcdgadggaa
