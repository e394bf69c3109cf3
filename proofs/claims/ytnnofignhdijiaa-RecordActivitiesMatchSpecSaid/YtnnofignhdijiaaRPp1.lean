/- Functions of the program as plain Lean definitions, each with the proof that the program computes it. No condition. Printed by a program of the prover, part 1. -/
import Derived.Test.YtnnofignhdijiaaAm3
import Derived.Test.YtnnofignhdijiaaChecked
import Derived.KernelRfl
set_option linter.all false
set_option maxRecDepth 100000
namespace Go.Proofs.Ytnnofignhdijiaa
open Go Go.AM
theorem progOk : ProgOk Try.prog := progOk_of (by kernel_rfl)
variable (N : Nat) {R : Type}
abbrev LD : Type := List D
abbrev LB : Type := List UInt8
abbrev Ty0 : Type := LB × Int × Int × Bool × LD × Bool × LD × Bool × LD × Int
abbrev Ty1 : Type := LB × Bool × LD × Bool × LD × Bool × LD
abbrev Ty2 : Type := Bool × LD × Bool × LD × Bool × LD
abbrev Ty3 : Type := LB × Bool × LD × Bool × LD
abbrev Ty4 : Type := LB × LB × Int × Int
abbrev Ty5 : Type := LB × LB × Bool
abbrev Ty6 : Type := Bool × LD × Bool × LD
abbrev Ty7 : Type := Bool × LB × Int × Int
abbrev Ty8 : Type := Int × LB × Bool
noncomputable def rg70x0 : List (Nat × List Nat) := [(0, []), (1, [])]
noncomputable def hd70x0 : Hints := []
noncomputable def h70x0s0 (N : Nat) : Sg Try.prog 0 70 := .start hd70x0 rg70x0
noncomputable def F70x0 (N : Nat) (k0 : D → R) : R :=
  bnd ((.a [(.b false), (.b false), (.i 0), (.l true []), (.i 0), (.i 0), (.b false), (.b false), (.i 0), (.l true []), (.i 0), (.i 0), (.b false), (.b false), (.i 0), (.l true []), (.i 0), (.i 0), (.b false), (.b false), (.i 0), (.l true []), (.i 0), (.i 0), (.b false), (.b false), (.i 0), (.l true []), (.i 0), (.i 0), (.b false), (.b false), (.i 0), (.l true []), (.i 0), (.i 0), (.b false), (.b false), (.i 0), (.l true []), (.i 0), (.i 0), (.b false), (.b false), (.i 0), (.l true []), (.i 0), (.i 0), (.b false), (.b false), (.i 0), (.l true []), (.i 0), (.i 0), (.b false), (.b false), (.i 0), (.l true []), (.i 0), (.i 0), (.b false), (.b false), (.i 0), (.l true []), (.i 0), (.i 0), (.b false), (.b false), (.i 0), (.l true []), (.i 0), (.i 0), (.b false), (.b false), (.i 0), (.l true []), (.i 0), (.i 0), (.b false), (.b false), (.i 0), (.l true []), (.i 0), (.i 0), (.b false), (.b false), (.i 0), (.l true []), (.i 0), (.i 0), (.b false), (.b false), (.i 0), (.l true []), (.i 0), (.i 0), (.i (-1))]) : D) fun y0 =>
  k0 y0
noncomputable def V70x0 : D := F70x0 N (fun p => p)
theorem tot70x0 (k0 : D → R) : F70x0 N k0 = k0 (V70x0 N) := by
  unfold V70x0 F70x0
  repeat' (first | rfl | apply cond_k | (apply bnd_k; intro _))
noncomputable def sh70x0 : Sh := { tmps := [], mem := [] }
noncomputable def A70x0 (L : List Lf) : List (Bool × Res) := bnd (F70x0 N (fun p => p)) fun q => [(true, ([.c (.p 2 0)], [(2, .dat 116 q)]))]
theorem raw70x0 (L : List Lf) : bd Try.prog noOracle (h70x0s0 N).h 70 sh70x0 L = F70x0 N (fun p => some ([.c (.p 2 0)], [(2, .dat 116 p)])) := by kernel_rfl
theorem ok70x0 : FnOk Try.prog 70 sh70x0 (A70x0 N) :=
  (h70x0s0 N).fn progOk noOracle_ok fun L x hx => ((raw70x0 N L).trans ((tot70x0 N ..).trans (alt0 _ _ hx)))
noncomputable def T70x0 : Oracle := ext 70 (spSh sh70x0 (A70x0 N)) noOracle
theorem T70x0_ok : OracleOk Try.prog (T70x0 N) := FnOk.to (ok70x0 N) noOracle_ok
noncomputable def rg52x0 : List (Nat × List Nat) := [(0, [0, 1, 2]), (1, [0, 1, 2])]
noncomputable def hd52x0 : Hints := []
noncomputable def h52x0s0 (N : Nat) : Sg Try.prog 0 52 := .start hd52x0 rg52x0
noncomputable def F52x0 (N : Nat) (v0 v1 v2 : Int) (k0 : Bool → R) : R :=
  k0 (bif (decide (v0 ≥ v1)) then (decide (v0 ≤ v2)) else false)
noncomputable def V52x0 (v0 v1 v2 : Int) : Bool := F52x0 N v0 v1 v2 (fun p => p)
theorem tot52x0 (v0 v1 v2 : Int) (k0 : Bool → R) : F52x0 N v0 v1 v2 k0 = k0 (V52x0 N v0 v1 v2) := by
  unfold V52x0 F52x0
  repeat' (first | rfl | apply cond_k | (apply bnd_k; intro _))
noncomputable def sh52x0 : Sh := { tmps := [(0, .c (.i .i64)), (1, .c (.i .i64)), (2, .c (.i .i64))], mem := [] }
noncomputable def A52x0 (L : List Lf) : List (Bool × Res) := bnd (F52x0 N (li L 0) (li L 1) (li L 2) (fun p => p)) fun q => [(true, ([.c (.b q)], []))]
theorem raw52x0 (L : List Lf) : bd Try.prog (T70x0 N) (h52x0s0 N).h 52 sh52x0 L = F52x0 N (li L 0) (li L 1) (li L 2) (fun p => some ([.c (.b p)], [])) := by kernel_rfl
theorem ok52x0 : FnOk Try.prog 52 sh52x0 (A52x0 N) :=
  (h52x0s0 N).fn progOk (T70x0_ok N) fun L x hx => ((raw52x0 N L).trans ((tot52x0 N ..).trans (alt0 _ _ hx)))
noncomputable def T52x0 : Oracle := ext 52 (spSh sh52x0 (A52x0 N)) (T70x0 N)
theorem T52x0_ok : OracleOk Try.prog (T52x0 N) := FnOk.to (ok52x0 N) (T70x0_ok N)
noncomputable def rg142x0 : List (Nat × List Nat) := [(0, [0, 1]), (1, [2, 1])]
noncomputable def hd142x0 : Hints := []
noncomputable def h142x0s0 (N : Nat) : Sg Try.prog 1 142 := .start hd142x0 rg142x0
noncomputable def F142x0 (N : Nat) (v0 v3 : Int) (k0 : Bool → R) : R :=
  k0 (v0 == v3)
noncomputable def V142x0 (v0 v3 : Int) : Bool := F142x0 N v0 v3 (fun p => p)
theorem tot142x0 (v0 v3 : Int) (k0 : Bool → R) : F142x0 N v0 v3 k0 = k0 (V142x0 N v0 v3) := by
  unfold V142x0 F142x0
  repeat' (first | rfl | apply cond_k | (apply bnd_k; intro _))
noncomputable def sh142x0 : Sh := { tmps := [(0, .g ([.i .i64, .i .i64, .i .i64])), (1, .c (.p 0 0))], mem := [(0, .box ([.i .i64, .i .i64, .i .i64]))] }
noncomputable def A142x0 (L : List Lf) : List (Bool × Res) := bnd (F142x0 N (li L 0) (li L 3) (fun p => p)) fun q => [(true, ([.c (.b q)], mgA (ofSh sh142x0 L).mem [] [0]))]
theorem raw142x0 (L : List Lf) : bd Try.prog (T52x0 N) (h142x0s0 N).h 142 sh142x0 L = F142x0 N (li L 0) (li L 3) (fun p => some ([.c (.b p)], mgA (ofSh sh142x0 L).mem [] [0])) := by kernel_rfl
theorem ok142x0 : FnOk Try.prog 142 sh142x0 (A142x0 N) :=
  (h142x0s0 N).fn progOk (T52x0_ok N) fun L x hx => ((raw142x0 N L).trans ((tot142x0 N ..).trans (alt0 _ _ hx)))
noncomputable def T142x0 : Oracle := ext 142 (spSh sh142x0 (A142x0 N)) (T52x0 N)
theorem T142x0_ok : OracleOk Try.prog (T142x0 N) := FnOk.to (ok142x0 N) (T52x0_ok N)
noncomputable def rg146x0 : List (Nat × List Nat) := [(0, [0, 1]), (1, [0, 1]), (2, [8, 7, 1, 0]), (3, [8, 1, 0, 7]), (4, [1, 0, 5, 8, 7]), (5, [5]), (6, [8, 7, 1, 0]), (7, [])]
noncomputable def hd146x0 : Hints := [(6, [8, 7, 1, 0], [0], [])]
noncomputable def h146x0s0 (N : Nat) : Sg Try.prog 1 146 := .start hd146x0 rg146x0
noncomputable def S146x0x6 (w1 : LD) (w2 w4 : Int) (w3 : Int) (kr : Int → Option R) (k0 : Int → Option R) (k1 : Unit → Option R) : Option R :=
  bif (decide (w3 < w2)) then
    bif (inB w3 w1.length) then
      bnd (V142x0 N ((w1.getD w3.toNat (.i 0)).cell 0).toI w4) fun y0 =>
      bif y0 then
        k0 w3
      else
        kr (IntKind.wrap .i64 (w3 + 1))
    else
      none
  else
    k1 ()
noncomputable def L146x0x6 (N : Nat) {R : Type} (w1 : LD) (w2 w4 : Int) : Nat → Int → (Int → Option R) → (Unit → Option R) → Option R
  | 0, _, _, _ => none
  | m + 1, w3, k0, k1 => S146x0x6 N w1 w2 w4 w3 (fun w3 => L146x0x6 N w1 w2 w4 m w3 k0 k1) k0 k1
noncomputable def G146x0x6 (w1 : LD) (w2 w4 : Int) (w3 : Int) : Option (Sum (Int) (Unit)) := L146x0x6 N (R := (Sum (Int) (Unit))) w1 w2 w4 N w3 (fun p => some (.inl p)) (fun p => some (.inr p))
noncomputable def J146x0x6 (L x : List Lf) (kr : List Lf → Option R) (k0 : Int → Option R) (k1 : Unit → Option R) : Option R := S146x0x6 N (ll L 1) (li L 2) (li L 4) (li x 0) (fun w3 => kr [.i w3]) k0 k1
theorem sb146x0x6 (L x : List Lf) (kr : List Lf → Option R) (k0 : Int → Option R) (k1 : Unit → Option R) : J146x0x6 N L x kr k0 k1 = (J146x0x6 N L x (fun y => some (.inl y)) (fun p => some (.inr (.inl p))) (fun p => some (.inr (.inr p)))).bind (sumE kr (sumE k0 k1)) := by
  unfold J146x0x6 S146x0x6
  repeat' (first | with_reducible apply cond_b | (with_reducible apply bnd_b; intro _) | rfl)
noncomputable def Q146x0x6 (L : List Lf) (m : Nat) (x : List Lf) : Option (Sum (Int) (Unit)) := L146x0x6 N (R := (Sum (Int) (Unit))) (ll L 1) (li L 2) (li L 4) m (li x 0) (fun p => some (.inl p)) (fun p => some (.inr p))
noncomputable def sh146x0x6 : Sh := { tmps := [(0, .c (.sl 146)), (1, .c (.f 142 [(0, 0)])), (7, .c (.i .i64)), (8, .c (.i .i64))], mem := [(0, .box ([.i .i64, .i .i64, .i .i64]))] }
noncomputable def K146x0x6w0 (L : List Lf) (p : Int) : Ex × St := (.ret, mg (ofSh sh146x0x6 L) [4] [(4, .c (.i .i64 p))] [0] [])
noncomputable def A146x0x6 (L : List Lf) : List (Bool × (Ex × St)) := bnd (Q146x0x6 N L N (pk sh146x0x6 [3] L)) fun q => [((inlB q), K146x0x6w0 L (inlV q)), ((inrQ q).isSome, ((.exit 0), mg (ofSh sh146x0x6 L) [] [] [0] []))]
theorem step146x0x6 (m : Nat) (kn : St → Option (Ex × St)) (L x : List Lf) : lpB Try.prog (T142x0 N) (h146x0s0 N).h 1 146 6 sh146x0x6 [3] [4] [0] (m + 100) kn L x = J146x0x6 N L x (fun y => kn (ofSh sh146x0x6 (mx sh146x0x6 [3] L y))) (fun p => some (K146x0x6w0 L p)) (fun _ => some ((.exit 0), mg (ofSh sh146x0x6 L) [] [] [0] [])) := by kernel_rfl
theorem ql146x0x6 (L : List Lf) (m : Nat) (x : List Lf) : Q146x0x6 N L (m + 1) x = J146x0x6 N L x (Q146x0x6 N L m) (fun p => some (.inl p)) (fun p => some (.inr p)) := by kernel_rfl
noncomputable def h146x0s1 : Sg Try.prog 1 146 :=
  (h146x0s0 N).lp (A146x0x6 N) N progOk (T142x0_ok N) (fun m kn L x => (step146x0x6 N m kn L x).trans (sb146x0x6 N L x _ _ _)) (fun L m x => (ql146x0x6 N L m x).trans (sb146x0x6 N L x (Q146x0x6 N L m) (fun p => some (.inl p)) (fun p => some (.inr p)))) fun L x hx => (altS alt1) x hx
noncomputable def F146x0 (v1 : LD) (v2 : Int) (k0 : Int → Option R) : Option R :=
  bnd (G146x0x6 N v1 (v1.length : Int) v2 0) fun y0 =>
  bif (inlB y0) then
    k0 (inlV y0)
  else
    bif (inrQ y0).isSome then
      k0 (-1)
    else
      none
noncomputable def G146x0 (v1 : LD) (v2 : Int) : Option (Int) := F146x0 N v1 v2 (fun p => some p)
theorem bind146x0 (v1 : LD) (v2 : Int) (k0 : Int → Option R) : F146x0 N v1 v2 k0 = (G146x0 N v1 v2).bind k0 := by
  unfold G146x0 F146x0
  repeat' (first | with_reducible apply cond_b | (with_reducible apply bnd_b; intro _) | rfl)
noncomputable def sh146x0 : Sh := { tmps := [(0, .c (.sl 146)), (1, .c (.f 142 [(0, 0)]))], mem := [(0, .box ([.i .i64, .i .i64, .i .i64]))] }
noncomputable def A146x0 (L : List Lf) : List (Bool × Res) := bnd (F146x0 N (ll L 1) (li L 2) (fun p => some p)) fun q => [(q.isSome, ([.c (.i .i64 (q.getD default))], mgA (ofSh sh146x0 L).mem [] [0]))]
theorem raw146x0 (L : List Lf) : bd Try.prog (T142x0 N) (h146x0s1 N).h 146 sh146x0 L = F146x0 N (ll L 1) (li L 2) (fun p => some ([.c (.i .i64 p)], mgA (ofSh sh146x0 L).mem [] [0])) := by kernel_rfl
theorem ok146x0 : FnOk Try.prog 146 sh146x0 (A146x0 N) :=
  (h146x0s1 N).fn progOk (T142x0_ok N) fun L x hx => ((raw146x0 N L).trans ((bind146x0 N ..).trans (alt1 x hx)))
noncomputable def T146x0 : Oracle := ext 146 (spSh sh146x0 (A146x0 N)) (T142x0 N)
theorem T146x0_ok : OracleOk Try.prog (T146x0 N) := FnOk.to (ok146x0 N) (T142x0_ok N)
noncomputable def rg141x0 : List (Nat × List Nat) := [(0, [0, 1]), (1, [0, 1])]
noncomputable def hd141x0 : Hints := []
noncomputable def h141x0s0 (N : Nat) : Sg Try.prog 1 141 := .start hd141x0 rg141x0
noncomputable def F141x0 (v1 : LD) (v2 : Int) (k0 : Bool → Option R) : Option R :=
  bnd (G146x0 N v1 v2) fun y0 =>
  bif y0.isSome then
    k0 (decide ((y0.getD default) ≥ 0))
  else
    none
noncomputable def G141x0 (v1 : LD) (v2 : Int) : Option (Bool) := F141x0 N v1 v2 (fun p => some p)
theorem bind141x0 (v1 : LD) (v2 : Int) (k0 : Bool → Option R) : F141x0 N v1 v2 k0 = (G141x0 N v1 v2).bind k0 := by
  unfold G141x0 F141x0
  repeat' (first | with_reducible apply cond_b | (with_reducible apply bnd_b; intro _) | rfl)
noncomputable def sh141x0 : Sh := { tmps := [(0, .c (.sl 146)), (1, .c (.f 142 [(0, 0)]))], mem := [(0, .box ([.i .i64, .i .i64, .i .i64]))] }
noncomputable def A141x0 (L : List Lf) : List (Bool × Res) := bnd (F141x0 N (ll L 1) (li L 2) (fun p => some p)) fun q => [(q.isSome, ([.c (.b (q.getD default))], mgA (ofSh sh141x0 L).mem [] [0]))]
theorem raw141x0 (L : List Lf) : bd Try.prog (T146x0 N) (h141x0s0 N).h 141 sh141x0 L = F141x0 N (ll L 1) (li L 2) (fun p => some ([.c (.b p)], mgA (ofSh sh141x0 L).mem [] [0])) := by kernel_rfl
theorem ok141x0 : FnOk Try.prog 141 sh141x0 (A141x0 N) :=
  (h141x0s0 N).fn progOk (T146x0_ok N) fun L x hx => ((raw141x0 N L).trans ((bind141x0 N ..).trans (alt1 x hx)))
noncomputable def T141x0 : Oracle := ext 141 (spSh sh141x0 (A141x0 N)) (T146x0 N)
theorem T141x0_ok : OracleOk Try.prog (T141x0 N) := FnOk.to (ok141x0 N) (T146x0_ok N)
noncomputable def rg122x0 : List (Nat × List Nat) := [(0, [0]), (1, [1]), (3, [1]), (4, []), (2, []), (5, [1]), (6, [19, 18, 17, 1]), (7, [19, 17, 1, 18]), (8, [4, 1, 3, 19, 18, 17]), (9, [4, 5, 1, 3, 19, 18, 17]), (11, [4, 5, 1, 3, 19, 18, 17]), (13, [5, 4, 1, 3, 19, 18, 17]), (15, [1, 3, 4, 19, 18, 17]), (16, []), (14, []), (12, []), (10, []), (17, [19, 18, 17, 1]), (18, [])]
noncomputable def hd122x0 : Hints := [(18, [19, 18, 17, 1], [1], []), (28, [4, 5, 1, 3, 19, 18, 17], [4, 1], [])]
noncomputable def h122x0s0 (N : Nat) : Sg Try.prog 0 122 := .start hd122x0 rg122x0
noncomputable def F122x0x28 (w10 w11 : Int) (k0 : Bool → R) : R :=
  bnd (V52x0 N w10 0 255) fun y0 =>
  bif (!y0) then
    k0 true
  else
    bnd (V52x0 N w11 1 255) fun y1 =>
    k0 (!y1)
noncomputable def V122x0x28 (w10 w11 : Int) : Bool := F122x0x28 N w10 w11 (fun p => p)
theorem tot122x0x28 (w10 w11 : Int) (k0 : Bool → R) : F122x0x28 N w10 w11 k0 = k0 (V122x0x28 N w10 w11) := by
  unfold V122x0x28 F122x0x28
  repeat' (first | rfl | apply cond_k | (apply bnd_k; intro _))
noncomputable def sh122x0x28 : Sh := { tmps := [(1, .c (.p 1 0)), (3, .c (.i .i64)), (4, .c (.p 4 0)), (5, .c (.b)), (17, .c (.sl 146)), (18, .c (.i .i64)), (19, .c (.i .i64))], mem := [(1, .box ([.b, .i .i64, .sl 146])), (4, .box ([.i .i64, .i .i64, .i .i64]))] }
noncomputable def K122x0x28w0 (L : List Lf) (p : Bool) : Ex × St := (.normal, mg (ofSh sh122x0x28 L) [1, 3, 4, 5, 17, 18, 19, 32] [(32, .c (.b p))] [1, 4] [])
noncomputable def A122x0x28 (L : List Lf) : List (Bool × (Ex × St)) := bnd (F122x0x28 N (li L 10) (li L 11) (fun p => p)) fun q => [(true, K122x0x28w0 L q)]
theorem raw122x0x28 (L : List Lf) : pc Try.prog (T141x0 N) (h122x0s0 N).h 0 100 122 28 sh122x0x28 L [4, 5, 1, 3, 19, 18, 17, 32] [4, 1] = F122x0x28 N (li L 10) (li L 11) (fun p => some (K122x0x28w0 L p)) := by kernel_rfl
noncomputable def h122x0s1 : Sg Try.prog 0 122 :=
  (h122x0s0 N).cut (A122x0x28 N) progOk (T141x0_ok N) fun L x hx => (raw122x0x28 N L).trans ((tot122x0x28 N ..).trans (alt0 _ _ hx))
noncomputable def S122x0x18 (w1 : LD) (w2 : Int) (w7 : LD) (w3 : Int) (kr : Int → Option R) (k0 : Int → Option R) (k1 : Unit → Option R) : Option R :=
  bif (decide (w3 < w2)) then
    bif (inB w3 w1.length) then
      bnd (bif (((w1.getD w3.toNat (.i 0)).cell 2).toI == 0) then true else (((w1.getD w3.toNat (.i 0)).cell 2).toI == 1)) fun y0 =>
      bnd (V122x0x28 N ((w1.getD w3.toNat (.i 0)).cell 0).toI ((w1.getD w3.toNat (.i 0)).cell 1).toI) fun y1 =>
      bif y1 then
        k0 9
      else
        bnd (V52x0 N ((w1.getD w3.toNat (.i 0)).cell 2).toI 0 3) fun y2 =>
        bif (!y2) then
          k0 7
        else
          bnd (bif y0 then (((w1.getD w3.toNat (.i 0)).cell 1).toI != 1) else false) fun y3 =>
          bnd (bif y3 then (((w1.getD w3.toNat (.i 0)).cell 1).toI != 2) else false) fun y4 =>
          bnd (bif y4 then (((w1.getD w3.toNat (.i 0)).cell 1).toI != 4) else false) fun y5 =>
          bif y5 then
            k0 2
          else
            bif ((decide (0 ≤ w3)) && (decide (w3 ≤ (w7.length : Int)))) then
              bnd (G141x0 N ((w7.take w3.toNat).drop 0) ((w1.getD w3.toNat (.i 0)).cell 0).toI) fun y6 =>
              bif y6.isSome then
                bif (y6.getD default) then
                  k0 5
                else
                  kr (IntKind.wrap .i64 (w3 + 1))
              else
                none
            else
              none
    else
      none
  else
    k1 ()
noncomputable def L122x0x18 (N : Nat) {R : Type} (w1 : LD) (w2 : Int) (w7 : LD) : Nat → Int → (Int → Option R) → (Unit → Option R) → Option R
  | 0, _, _, _ => none
  | m + 1, w3, k0, k1 => S122x0x18 N w1 w2 w7 w3 (fun w3 => L122x0x18 N w1 w2 w7 m w3 k0 k1) k0 k1
noncomputable def G122x0x18 (w1 : LD) (w2 : Int) (w7 : LD) (w3 : Int) : Option (Sum (Int) (Unit)) := L122x0x18 N (R := (Sum (Int) (Unit))) w1 w2 w7 N w3 (fun p => some (.inl p)) (fun p => some (.inr p))
noncomputable def J122x0x18 (L x : List Lf) (kr : List Lf → Option R) (k0 : Int → Option R) (k1 : Unit → Option R) : Option R := S122x0x18 N (ll L 1) (li L 2) (ll L 7) (li x 0) (fun w3 => kr [.i w3]) k0 k1
theorem sb122x0x18 (L x : List Lf) (kr : List Lf → Option R) (k0 : Int → Option R) (k1 : Unit → Option R) : J122x0x18 N L x kr k0 k1 = (J122x0x18 N L x (fun y => some (.inl y)) (fun p => some (.inr (.inl p))) (fun p => some (.inr (.inr p)))).bind (sumE kr (sumE k0 k1)) := by
  unfold J122x0x18 S122x0x18
  repeat' (first | with_reducible apply cond_b | (with_reducible apply bnd_b; intro _) | rfl)
noncomputable def Q122x0x18 (L : List Lf) (m : Nat) (x : List Lf) : Option (Sum (Int) (Unit)) := L122x0x18 N (R := (Sum (Int) (Unit))) (ll L 1) (li L 2) (ll L 7) m (li x 0) (fun p => some (.inl p)) (fun p => some (.inr p))
noncomputable def sh122x0x18 : Sh := { tmps := [(1, .c (.p 1 0)), (17, .c (.sl 146)), (18, .c (.i .i64)), (19, .c (.i .i64))], mem := [(1, .box ([.b, .i .i64, .sl 146]))] }
noncomputable def A122x0x18 (L : List Lf) : List (Bool × (Ex × St)) := bnd (Q122x0x18 N L N (pk sh122x0x18 [3] L)) fun q => [((inlB q), (.ret, ⟨[(2, .c (.i .i64 (inlV q)))], []⟩)), ((inrQ q).isSome, ((.exit 1), ⟨[], []⟩))]
theorem step122x0x18 (m : Nat) (kn : St → Option (Ex × St)) (L x : List Lf) : lpB Try.prog (T141x0 N) (h122x0s1 N).h 0 122 18 sh122x0x18 [3] [2] [] (m + 100) kn L x = J122x0x18 N L x (fun y => kn (ofSh sh122x0x18 (mx sh122x0x18 [3] L y))) (fun p => some (.ret, ⟨[(2, .c (.i .i64 p))], []⟩)) (fun _ => some ((.exit 1), ⟨[], []⟩)) := by kernel_rfl
theorem ql122x0x18 (L : List Lf) (m : Nat) (x : List Lf) : Q122x0x18 N L (m + 1) x = J122x0x18 N L x (Q122x0x18 N L m) (fun p => some (.inl p)) (fun p => some (.inr p)) := by kernel_rfl
noncomputable def h122x0s2 : Sg Try.prog 0 122 :=
  (h122x0s1 N).lp (A122x0x18 N) N progOk (T141x0_ok N) (fun m kn L x => (step122x0x18 N m kn L x).trans (sb122x0x18 N L x _ _ _)) (fun L m x => (ql122x0x18 N L m x).trans (sb122x0x18 N L x (Q122x0x18 N L m) (fun p => some (.inl p)) (fun p => some (.inr p)))) fun L x hx => (altS alt1) x hx
noncomputable def F122x0 (v1 : Int) (v3 : LD) (k0 : Int → Option R) : Option R :=
  bnd (V52x0 N v1 0 65535) fun y0 =>
  bif (!y0) then
    k0 9
  else
    bif (decide ((v3.length : Int) > 30)) then
      k0 3
    else
      bnd (G122x0x18 N v3 (v3.length : Int) v3 0) fun y1 =>
      bif (inlB y1) then
        k0 (inlV y1)
      else
        bif (inrQ y1).isSome then
          k0 0
        else
          none
noncomputable def G122x0 (v1 : Int) (v3 : LD) : Option (Int) := F122x0 N v1 v3 (fun p => some p)
theorem bind122x0 (v1 : Int) (v3 : LD) (k0 : Int → Option R) : F122x0 N v1 v3 k0 = (G122x0 N v1 v3).bind k0 := by
  unfold G122x0 F122x0
  repeat' (first | with_reducible apply cond_b | (with_reducible apply bnd_b; intro _) | rfl)
noncomputable def sh122x0 : Sh := { tmps := [(0, .g ([.b, .i .i64, .sl 146]))], mem := [] }
noncomputable def A122x0 (L : List Lf) : List (Bool × Res) := bnd (F122x0 N (li L 1) (ll L 3) (fun p => some p)) fun q => [(q.isSome, ([.c (.i .i64 (q.getD default))], []))]
theorem raw122x0 (L : List Lf) : bd Try.prog (T141x0 N) (h122x0s2 N).h 122 sh122x0 L = F122x0 N (li L 1) (ll L 3) (fun p => some ([.c (.i .i64 p)], [])) := by kernel_rfl
theorem ok122x0 : FnOk Try.prog 122 sh122x0 (A122x0 N) :=
  (h122x0s2 N).fn progOk (T141x0_ok N) fun L x hx => ((raw122x0 N L).trans ((bind122x0 N ..).trans (alt1 x hx)))
noncomputable def T122x0 : Oracle := ext 122 (spSh sh122x0 (A122x0 N)) (T141x0 N)
theorem T122x0_ok : OracleOk Try.prog (T122x0 N) := FnOk.to (ok122x0 N) (T141x0_ok N)
noncomputable def rg71x0 : List (Nat × List Nat) := [(0, [1, 0]), (1, [3, 0]), (2, [6, 5, 3, 0]), (3, [6, 5, 3, 0, 9, 7, 8]), (4, [5, 3, 0, 6, 9]), (5, [5, 3, 7, 8, 0, 6, 9]), (6, [3, 7, 8, 5, 0, 6]), (7, [3, 7, 8, 9, 5, 0, 6]), (9, [3, 7, 8, 9, 5, 0, 6]), (11, [3, 9, 5, 0, 6]), (13, [5, 3, 0, 6]), (14, [3]), (12, []), (10, []), (8, []), (15, [0, 3, 6]), (16, [10, 6, 0, 3]), (17, []), (18, [10, 6, 3]), (19, [6, 11, 3]), (20, [11, 3]), (21, [3, 11]), (22, []), (23, [])]
noncomputable def hd71x0 : Hints := [(14, [5, 3, 0, 6, 9, 7, 8, 18], [4, 0], []), (20, [3, 7, 8, 5, 0, 6, 9, 19], [4, 0], []), (28, [3, 7, 8, 9, 5, 0, 6], [4, 0], []), (62, [11, 3, 87], [0, 4], [])]
noncomputable def h71x0s0 (N : Nat) : Sg Try.prog 1 71 := .start hd71x0 rg71x0
noncomputable def F71x0x14 (N : Nat) (w2 w3 : Int) (w5 : Bool) (k0 : Int × Int → R) : R :=
  bif w5 then
    k0 (3, 31)
  else
    k0 (w2, w3)
noncomputable def V71x0x14 (w2 w3 : Int) (w5 : Bool) : Int × Int := F71x0x14 N w2 w3 w5 (fun p => p)
theorem tot71x0x14 (w2 w3 : Int) (w5 : Bool) (k0 : Int × Int → R) : F71x0x14 N w2 w3 w5 k0 = k0 (V71x0x14 N w2 w3 w5) := by
  unfold V71x0x14 F71x0x14
  repeat' (first | rfl | apply cond_k | (apply bnd_k; intro _))
noncomputable def sh71x0x14 : Sh := { tmps := [(0, .c (.p 0 0)), (3, .c (.p 4 0)), (5, .c (.b)), (6, .c (.b)), (7, .c (.i .i64)), (8, .c (.i .i64)), (9, .c (.i .i64)), (18, .c (.b))], mem := [(0, .dat 116), (4, .box ([.i .i64, .i .i64, .i .i64, .sl 103, .sl 5]))] }
noncomputable def K71x0x14w0 (L : List Lf) (p : Int × Int) : Ex × St := (.normal, mg (ofSh sh71x0x14 L) [0, 3, 5, 6, 7, 8, 9] [(7, .c (.i .i64 p.1)), (8, .c (.i .i64 p.2))] [0, 4] [])
noncomputable def A71x0x14 (L : List Lf) : List (Bool × (Ex × St)) := bnd (F71x0x14 N (li L 2) (li L 3) (lb L 5) (fun p => p)) fun q => [(true, K71x0x14w0 L q)]
theorem raw71x0x14 (L : List Lf) : pc Try.prog (T122x0 N) (h71x0s0 N).h 1 100 71 14 sh71x0x14 L [5, 3, 7, 8, 0, 6, 9] [4, 0] = F71x0x14 N (li L 2) (li L 3) (lb L 5) (fun p => some (K71x0x14w0 L p)) := by kernel_rfl
noncomputable def h71x0s1 : Sg Try.prog 1 71 :=
  (h71x0s0 N).cut (A71x0x14 N) progOk (T122x0_ok N) fun L x hx => (raw71x0x14 N L).trans ((tot71x0x14 N ..).trans (alt0 _ _ hx))
noncomputable def F71x0x20 (N : Nat) (w4 : Int) (w5 : Bool) (k0 : Int → R) : R :=
  bif w5 then
    k0 1
  else
    k0 w4
noncomputable def V71x0x20 (w4 : Int) (w5 : Bool) : Int := F71x0x20 N w4 w5 (fun p => p)
theorem tot71x0x20 (w4 : Int) (w5 : Bool) (k0 : Int → R) : F71x0x20 N w4 w5 k0 = k0 (V71x0x20 N w4 w5) := by
  unfold V71x0x20 F71x0x20
  repeat' (first | rfl | apply cond_k | (apply bnd_k; intro _))
noncomputable def sh71x0x20 : Sh := { tmps := [(0, .c (.p 0 0)), (3, .c (.p 4 0)), (5, .c (.b)), (6, .c (.b)), (7, .c (.i .i64)), (8, .c (.i .i64)), (9, .c (.i .i64)), (19, .c (.b))], mem := [(0, .dat 116), (4, .box ([.i .i64, .i .i64, .i .i64, .sl 103, .sl 5]))] }
noncomputable def K71x0x20w0 (L : List Lf) (p : Int) : Ex × St := (.normal, mg (ofSh sh71x0x20 L) [0, 3, 5, 6, 7, 8, 9] [(9, .c (.i .i64 p))] [0, 4] [])
noncomputable def A71x0x20 (L : List Lf) : List (Bool × (Ex × St)) := bnd (F71x0x20 N (li L 4) (lb L 5) (fun p => p)) fun q => [(true, K71x0x20w0 L q)]
theorem raw71x0x20 (L : List Lf) : pc Try.prog (T122x0 N) (h71x0s1 N).h 1 100 71 20 sh71x0x20 L [3, 7, 8, 9, 5, 0, 6] [4, 0] = F71x0x20 N (li L 4) (lb L 5) (fun p => some (K71x0x20w0 L p)) := by kernel_rfl
noncomputable def h71x0s2 : Sg Try.prog 1 71 :=
  (h71x0s1 N).cut (A71x0x20 N) progOk (T122x0_ok N) fun L x hx => (raw71x0x20 N L).trans ((tot71x0x20 N ..).trans (alt0 _ _ hx))
noncomputable def F71x0x28 (w2 w3 w7 w8 : Int) (k0 : Bool → R) : R :=
  bnd (V52x0 N w7 0 w2) fun y0 =>
  bif (!y0) then
    k0 true
  else
    bnd (V52x0 N w8 0 w3) fun y1 =>
    k0 (!y1)
noncomputable def V71x0x28 (w2 w3 w7 w8 : Int) : Bool := F71x0x28 N w2 w3 w7 w8 (fun p => p)
theorem tot71x0x28 (w2 w3 w7 w8 : Int) (k0 : Bool → R) : F71x0x28 N w2 w3 w7 w8 k0 = k0 (V71x0x28 N w2 w3 w7 w8) := by
  unfold V71x0x28 F71x0x28
  repeat' (first | rfl | apply cond_k | (apply bnd_k; intro _))
noncomputable def J71x0x28 (L : List Lf) (k0 : Bool → R) : R := F71x0x28 N (li L 2) (li L 3) (li L 7) (li L 8) k0
noncomputable def sh71x0x28 : Sh := { tmps := [(0, .c (.p 0 0)), (3, .c (.p 4 0)), (5, .c (.b)), (6, .c (.b)), (7, .c (.i .i64)), (8, .c (.i .i64)), (9, .c (.i .i64))], mem := [(0, .dat 116), (4, .box ([.i .i64, .i .i64, .i .i64, .sl 103, .sl 5]))] }
noncomputable def K71x0x28w0 (L : List Lf) (p : Bool) : Ex × St := (.normal, mg (ofSh sh71x0x28 L) [0, 3, 5, 6, 9, 25] [(25, .c (.b p))] [0, 4] [])
noncomputable def A71x0x28 (L : List Lf) : List (Bool × (Ex × St)) := bnd (J71x0x28 N L (fun p => p)) fun q => [(true, K71x0x28w0 L q)]
theorem raw71x0x28 (L : List Lf) : pc Try.prog (T122x0 N) (h71x0s2 N).h 1 100 71 28 sh71x0x28 L [3, 9, 5, 0, 6, 25] [4, 0] = J71x0x28 N L (fun p => some (K71x0x28w0 L p)) := by kernel_rfl
noncomputable def h71x0s3 : Sg Try.prog 1 71 :=
  (h71x0s2 N).cut (A71x0x28 N) progOk (T122x0_ok N) fun L x hx => (raw71x0x28 N L).trans ((tot71x0x28 N ..).trans (alt0 _ _ hx))
noncomputable def F71x0x62 (N : Nat) (w0 : Int) (w1 : Bool) (k0 : Int → R) : R :=
  bif w1 then
    k0 (IntKind.wrap .i64 (w0 - 4))
  else
    k0 w0
noncomputable def V71x0x62 (w0 : Int) (w1 : Bool) : Int := F71x0x62 N w0 w1 (fun p => p)
theorem tot71x0x62 (w0 : Int) (w1 : Bool) (k0 : Int → R) : F71x0x62 N w0 w1 k0 = k0 (V71x0x62 N w0 w1) := by
  unfold V71x0x62 F71x0x62
  repeat' (first | rfl | apply cond_k | (apply bnd_k; intro _))
noncomputable def sh71x0x62 : Sh := { tmps := [(3, .c (.p 4 0)), (11, .c (.i .i64)), (87, .c (.b))], mem := [(0, .dat 116), (4, .box ([.i .i64, .i .i64, .i .i64, .sl 103, .sl 5]))] }
noncomputable def K71x0x62w0 (L : List Lf) (p : Int) : Ex × St := (.normal, mg (ofSh sh71x0x62 L) [3, 11] [(11, .c (.i .i64 p))] [0, 4] [])
noncomputable def A71x0x62 (L : List Lf) : List (Bool × (Ex × St)) := bnd (F71x0x62 N (li L 0) (lb L 1) (fun p => p)) fun q => [(true, K71x0x62w0 L q)]
theorem raw71x0x62 (L : List Lf) : pc Try.prog (T122x0 N) (h71x0s3 N).h 1 100 71 62 sh71x0x62 L [3, 11] [0, 4] = F71x0x62 N (li L 0) (lb L 1) (fun p => some (K71x0x62w0 L p)) := by kernel_rfl
noncomputable def h71x0s4 : Sg Try.prog 1 71 :=
  (h71x0s3 N).cut (A71x0x62 N) progOk (T122x0_ok N) fun L x hx => (raw71x0x62 N L).trans ((tot71x0x62 N ..).trans (alt0 _ _ hx))
noncomputable def F71x0 (v0 v1 v2 : Int) (v4 v6 : LD) (v7 : D) (k0 : Int → Option R) : Option R :=
  bnd (V71x0x14 N 15 0 (v0 == 3)) fun y0 =>
  bnd (V71x0x20 N 0 (v0 == 1)) fun y1 =>
  bnd (V52x0 N v0 1 3) fun y2 =>
  bif (!y2) then
    k0 7
  else
    bnd (V71x0x28 N y0.1 y0.2 v1 v2) fun y3 =>
    bif y3 then
      k0 9
    else
      bnd (bif ((v4.length : Int) != y1) then true else (bif (v0 == 1) then (decide ((v6.length : Int) > 0)) else false)) fun y4 =>
      bif y4 then
        k0 2
      else
        bif (v0 == 1) then
          bif (inB 0 v4.length) then
            bnd (G122x0 N ((v4.getD 0 (.i 0)).cell 1).toI ((v4.getD 0 (.i 0)).cell 2).items) fun y5 =>
            bif y5.isSome then
              k0 (y5.getD default)
            else
              none
          else
            none
        else
          bif (inB v1 16) then
            bnd (bif (!(v7.cell (0 + (v1.toNat * 6))).toB) then true else (bif (v0 == 3) then (bif (decide ((v7.cell (5 + (v1.toNat * 6))).toI < 0)) then true else (decide ((v7.cell 96).toI < 0))) else false)) fun y6 =>
            bif y6 then
              k0 11
            else
              bnd (V71x0x62 N (v7.cell (4 + (v1.toNat * 6))).toI (v0 == 3)) fun y7 =>
              bif ((v6.length : Int) != y7) then
                k0 2
              else
                k0 0
          else
            none
noncomputable def G71x0 (v0 v1 v2 : Int) (v4 v6 : LD) (v7 : D) : Option (Int) := F71x0 N v0 v1 v2 v4 v6 v7 (fun p => some p)
theorem bind71x0 (v0 v1 v2 : Int) (v4 v6 : LD) (v7 : D) (k0 : Int → Option R) : F71x0 N v0 v1 v2 v4 v6 v7 k0 = (G71x0 N v0 v1 v2 v4 v6 v7).bind k0 := by
  unfold G71x0 F71x0
  repeat' (first | with_reducible apply cond_b | (with_reducible apply bnd_b; intro _) | rfl)
noncomputable def J71x0 (L : List Lf) (k0 : Int → Option R) : Option R := F71x0 N (li L 0) (li L 1) (li L 2) (ll L 4) (ll L 6) (ld L 7) k0
noncomputable def sh71x0 : Sh := { tmps := [(0, .c (.p 0 0)), (1, .g ([.i .i64, .i .i64, .i .i64, .sl 103, .sl 5]))], mem := [(0, .dat 116)] }
noncomputable def A71x0 (L : List Lf) : List (Bool × Res) := bnd (J71x0 N L (fun p => some p)) fun q => [(q.isSome, ([.c (.i .i64 (q.getD default))], [(0, .dat 116 (ld L 7))]))]
theorem raw71x0 (L : List Lf) : bd Try.prog (T122x0 N) (h71x0s4 N).h 71 sh71x0 L = J71x0 N L (fun p => some ([.c (.i .i64 p)], [(0, .dat 116 (ld L 7))])) := by kernel_rfl
theorem ok71x0 : FnOk Try.prog 71 sh71x0 (A71x0 N) :=
  (h71x0s4 N).fn progOk (T122x0_ok N) fun L x hx => ((raw71x0 N L).trans ((bind71x0 N ..).trans (alt1 x hx)))
noncomputable def T71x0 : Oracle := ext 71 (spSh sh71x0 (A71x0 N)) (T122x0 N)
theorem T71x0_ok : OracleOk Try.prog (T71x0 N) := FnOk.to (ok71x0 N) (T122x0_ok N)
noncomputable def rg123x0 : List (Nat × List Nat) := [(0, [0]), (1, [1, 2]), (2, [1, 3, 2]), (3, [11, 10, 9, 3, 2]), (4, [9, 11, 3, 10, 2]), (5, [5, 3, 11, 10, 9, 2]), (6, [3, 5, 11, 10, 9, 2]), (7, [3, 5, 11, 10, 9, 2]), (8, [11, 10, 9, 3, 2]), (9, [3, 2])]
noncomputable def hd123x0 : Hints := [(9, [11, 10, 9, 3, 2], [3, 2], []), (20, [3, 5, 11, 10, 9, 2, 32], [5, 3, 2], [])]
noncomputable def h123x0s0 (N : Nat) : Sg Try.prog 0 123 := .start hd123x0 rg123x0
noncomputable def F123x0x20 (N : Nat) (w4 : Bool) (w17 w18 : Int) (k0 : Int → R) : R :=
  bif w4 then
    k0 w17
  else
    k0 w18
noncomputable def V123x0x20 (w4 : Bool) (w17 w18 : Int) : Int := F123x0x20 N w4 w17 w18 (fun p => p)
theorem tot123x0x20 (w4 : Bool) (w17 w18 : Int) (k0 : Int → R) : F123x0x20 N w4 w17 w18 k0 = k0 (V123x0x20 N w4 w17 w18) := by
  unfold V123x0x20 F123x0x20
  repeat' (first | rfl | apply cond_k | (apply bnd_k; intro _))
noncomputable def sh123x0x20 : Sh := { tmps := [(2, .c (.p 2 0)), (3, .c (.p 3 0)), (5, .c (.p 5 0)), (9, .c (.sl 146)), (10, .c (.i .i64)), (11, .c (.i .i64)), (32, .c (.b))], mem := [(2, .box (.b :: [.b, .i .i64, .sl 146, .i .i64, .i .i64])), (3, .box (.b :: [.b, .i .i64, .sl 146, .i .i64, .i .i64])), (5, .box ([.i .i64, .i .i64, .i .i64]))] }
noncomputable def K123x0x20w0 (L : List Lf) (p : Int) : Ex × St := (.normal, mg (ofSh sh123x0x20 L) [2, 3, 5, 9, 10, 11] [] [2, 3, 5] [(3, .box [.b (lb L 12), .b (lb L 13), .i .i64 (li L 14), .sl 146 (lb L 15) (ll L 16), .i .i64 (li L 17), .i .i64 p])])
noncomputable def A123x0x20 (L : List Lf) : List (Bool × (Ex × St)) := bnd (F123x0x20 N (lb L 4) (li L 17) (li L 18) (fun p => p)) fun q => [(true, K123x0x20w0 L q)]
theorem raw123x0x20 (L : List Lf) : pc Try.prog (T71x0 N) (h123x0s0 N).h 0 100 123 20 sh123x0x20 L [3, 5, 11, 10, 9, 2] [5, 3, 2] = F123x0x20 N (lb L 4) (li L 17) (li L 18) (fun p => some (K123x0x20w0 L p)) := by kernel_rfl
noncomputable def h123x0s1 : Sg Try.prog 0 123 :=
  (h123x0s0 N).cut (A123x0x20 N) progOk (T71x0_ok N) fun L x hx => (raw123x0x20 N L).trans ((tot123x0x20 N ..).trans (alt0 _ _ hx))
noncomputable def S123x0x9 (w1 : LD) (w2 : Int) (w3 w16 w17 : Int) (kr : Int → Int → Int → Option R) (k0 : Int × Int → Option R) : Option R :=
  bif (decide (w3 < w2)) then
    bif (inB w3 w1.length) then
      bnd (bif (((w1.getD w3.toNat (.i 0)).cell 0).toI == 253) then (((w1.getD w3.toNat (.i 0)).cell 2).toI == 0) else false) fun y0 =>
      bnd (bif y0 then (((w1.getD w3.toNat (.i 0)).cell 1).toI == 4) else false) fun y1 =>
      bnd (V123x0x20 N (bif y1 then (decide (w17 < 0)) else false) w16 w17) fun y2 =>
      bnd (IntKind.wrap .i64 (w16 + ((w1.getD w3.toNat (.i 0)).cell 1).toI)) fun y3 =>
      kr (IntKind.wrap .i64 (w3 + 1)) y3 y2
    else
      none
  else
    k0 (w16, w17)
noncomputable def L123x0x9 (N : Nat) {R : Type} (w1 : LD) (w2 : Int) : Nat → Int → Int → Int → (Int × Int → Option R) → Option R
  | 0, _, _, _, _ => none
  | m + 1, w3, w16, w17, k0 => S123x0x9 N w1 w2 w3 w16 w17 (fun w3 w16 w17 => L123x0x9 N w1 w2 m w3 w16 w17 k0) k0
noncomputable def G123x0x9 (w1 : LD) (w2 : Int) (w3 w16 w17 : Int) : Option (Int × Int) := L123x0x9 N (R := (Int × Int)) w1 w2 N w3 w16 w17 (fun p => some p)
noncomputable def J123x0x9 (L x : List Lf) (kr : List Lf → Option R) (k0 : Int × Int → Option R) : Option R := S123x0x9 N (ll L 1) (li L 2) (li x 0) (li x 1) (li x 2) (fun w3 w16 w17 => kr [.i w3, .i w16, .i w17]) k0
theorem sb123x0x9 (L x : List Lf) (kr : List Lf → Option R) (k0 : Int × Int → Option R) : J123x0x9 N L x kr k0 = (J123x0x9 N L x (fun y => some (.inl y)) (fun p => some (.inr p))).bind (sumE kr k0) := by
  unfold J123x0x9 S123x0x9
  repeat' (first | with_reducible apply cond_b | (with_reducible apply bnd_b; intro _) | rfl)
noncomputable def Q123x0x9 (L : List Lf) (m : Nat) (x : List Lf) : Option (Int × Int) := L123x0x9 N (R := (Int × Int)) (ll L 1) (li L 2) m (li x 0) (li x 1) (li x 2) (fun p => some p)
noncomputable def sh123x0x9 : Sh := { tmps := [(2, .c (.p 2 0)), (3, .c (.p 3 0)), (9, .c (.sl 146)), (10, .c (.i .i64)), (11, .c (.i .i64))], mem := [(2, .box (.b :: [.b, .i .i64, .sl 146, .i .i64, .i .i64])), (3, .box (.b :: [.b, .i .i64, .sl 146, .i .i64, .i .i64]))] }
noncomputable def K123x0x9w0 (L : List Lf) (p : Int × Int) : Ex × St := ((.exit 0), mg (ofSh sh123x0x9 L) [2, 3] [] [2, 3] [(3, .box [.b (lb L 11), .b (lb L 12), .i .i64 (li L 13), .sl 146 (lb L 14) (ll L 15), .i .i64 p.1, .i .i64 p.2])])
noncomputable def A123x0x9 (L : List Lf) : List (Bool × (Ex × St)) := bnd (Q123x0x9 N L N (pk sh123x0x9 [3, 16, 17] L)) fun q => [(q.isSome, K123x0x9w0 L (q.getD default))]
theorem step123x0x9 (m : Nat) (kn : St → Option (Ex × St)) (L x : List Lf) : lpB Try.prog (T71x0 N) (h123x0s1 N).h 0 123 9 sh123x0x9 [3, 16, 17] [2, 3] [3, 2] (m + 100) kn L x = J123x0x9 N L x (fun y => kn (ofSh sh123x0x9 (mx sh123x0x9 [3, 16, 17] L y))) (fun p => some (K123x0x9w0 L p)) := by kernel_rfl
theorem ql123x0x9 (L : List Lf) (m : Nat) (x : List Lf) : Q123x0x9 N L (m + 1) x = J123x0x9 N L x (Q123x0x9 N L m) some := by kernel_rfl
noncomputable def h123x0s2 : Sg Try.prog 0 123 :=
  (h123x0s1 N).lp (A123x0x9 N) N progOk (T71x0_ok N) (fun m kn L x => (step123x0x9 N m kn L x).trans (sb123x0x9 N L x _ _)) (fun L m x => (ql123x0x9 N L m x).trans (sb123x0x9 N L x (Q123x0x9 N L m) some)) fun L x hx => alt1 x hx
noncomputable def F123x0 (v3 : LD) (k0 : Int × Int → Option R) : Option R :=
  bnd (G123x0x9 N v3 (v3.length : Int) 0 0 (-1)) fun y0 =>
  bif y0.isSome then
    k0 (y0.getD default)
  else
    none
noncomputable def G123x0 (v3 : LD) : Option (Int × Int) := F123x0 N v3 (fun p => some p)
theorem bind123x0 (v3 : LD) (k0 : Int × Int → Option R) : F123x0 N v3 k0 = (G123x0 N v3).bind k0 := by
  unfold G123x0 F123x0
  repeat' (first | with_reducible apply cond_b | (with_reducible apply bnd_b; intro _) | rfl)
noncomputable def sh123x0 : Sh := { tmps := [(0, .g ([.b, .i .i64, .sl 146]))], mem := [] }
noncomputable def K123x0w0 (L : List Lf) (p : Int × Int) : Res := ([.g [.b true, .b (lb L 0), .i .i64 (li L 1), .sl 146 (lb L 2) (ll L 3), .i .i64 p.1, .i .i64 p.2]], [])
noncomputable def A123x0 (L : List Lf) : List (Bool × Res) := bnd (F123x0 N (ll L 3) (fun p => some p)) fun q => [(q.isSome, K123x0w0 L (q.getD default))]
theorem raw123x0 (L : List Lf) : bd Try.prog (T71x0 N) (h123x0s2 N).h 123 sh123x0 L = F123x0 N (ll L 3) (fun p => some (K123x0w0 L p)) := by kernel_rfl
theorem ok123x0 : FnOk Try.prog 123 sh123x0 (A123x0 N) :=
  (h123x0s2 N).fn progOk (T71x0_ok N) fun L x hx => ((raw123x0 N L).trans ((bind123x0 N ..).trans (alt1 x hx)))
noncomputable def T123x0 : Oracle := ext 123 (spSh sh123x0 (A123x0 N)) (T71x0 N)
theorem T123x0_ok : OracleOk Try.prog (T123x0 N) := FnOk.to (ok123x0 N) (T71x0_ok N)
noncomputable def rg81x0 : List (Nat × List Nat) := [(0, [0, 1]), (1, [0, 1]), (2, [0, 1, 5]), (3, [10, 9, 0, 1, 5]), (4, [10, 0, 1, 5, 9]), (5, [0, 6, 1, 5, 10, 9]), (6, [1, 6, 5, 0, 10, 9, 7]), (7, [6, 5, 0, 10, 9, 1]), (8, [5, 0, 7, 10, 9, 1]), (9, [10, 9, 0, 1, 5]), (10, [5])]
noncomputable def hd81x0 : Hints := [(9, [10, 9, 0, 1, 5], [], []), (23, [6, 5, 0, 10, 9, 1, 7, 18], [], [])]
noncomputable def h81x0s0 (N : Nat) : Sg Try.prog 0 81 := .start hd81x0 rg81x0
noncomputable def F81x0x23 (N : Nat) (w4 w5 : Int) (w8 : Bool) (k0 : Int → R) : R :=
  bif w8 then
    k0 w4
  else
    k0 w5
noncomputable def V81x0x23 (w4 w5 : Int) (w8 : Bool) : Int := F81x0x23 N w4 w5 w8 (fun p => p)
theorem tot81x0x23 (w4 w5 : Int) (w8 : Bool) (k0 : Int → R) : F81x0x23 N w4 w5 w8 k0 = k0 (V81x0x23 N w4 w5 w8) := by
  unfold V81x0x23 F81x0x23
  repeat' (first | rfl | apply cond_k | (apply bnd_k; intro _))
noncomputable def sh81x0x23 : Sh := { tmps := [(0, .c (.sl 5)), (1, .c (.b)), (5, .c (.i .i64)), (6, .c (.i .i64)), (7, .c (.i .i64)), (9, .c (.i .i64)), (10, .c (.i .i64)), (18, .c (.b))], mem := [] }
noncomputable def K81x0x23w0 (L : List Lf) (p : Int) : Ex × St := (.normal, mg (ofSh sh81x0x23 L) [0, 1, 5, 7, 9, 10] [(7, .c (.i .i64 p))] [] [])
noncomputable def A81x0x23 (L : List Lf) : List (Bool × (Ex × St)) := bnd (F81x0x23 N (li L 4) (li L 5) (lb L 8) (fun p => p)) fun q => [(true, K81x0x23w0 L q)]
theorem raw81x0x23 (L : List Lf) : pc Try.prog (T123x0 N) (h81x0s0 N).h 0 100 81 23 sh81x0x23 L [5, 0, 7, 10, 9, 1] [] = F81x0x23 N (li L 4) (li L 5) (lb L 8) (fun p => some (K81x0x23w0 L p)) := by kernel_rfl
noncomputable def h81x0s1 : Sg Try.prog 0 81 :=
  (h81x0s0 N).cut (A81x0x23 N) progOk (T123x0_ok N) fun L x hx => (raw81x0x23 N L).trans ((tot81x0x23 N ..).trans (alt0 _ _ hx))
noncomputable def S81x0x9 (w1 : LD) (w2 : Bool) (w4 : Int) (w3 w5 : Int) (kr : Int → Int → Option R) (k0 : Int → Option R) : Option R :=
  bif (decide (w5 < w4)) then
    bnd (IntKind.wrap .i64 ((IntKind.wrap .i64 ((w1.length : Int) - 1)) - w5)) fun y0 =>
    bnd (V81x0x23 N w5 y0 w2) fun y1 =>
    bif (inB y1 w1.length) then
      bnd ((bitsV .or .i64 (IntKind.wrap .i64 (w3 * 2 ^ 8)) (IntKind.wrap .i64 (w1.getD y1.toNat (.i 0)).toI)).getD 0) fun y2 =>
      kr y2 (IntKind.wrap .i64 (w5 + 1))
    else
      none
  else
    k0 w3
noncomputable def L81x0x9 (N : Nat) {R : Type} (w1 : LD) (w2 : Bool) (w4 : Int) : Nat → Int → Int → (Int → Option R) → Option R
  | 0, _, _, _ => none
  | m + 1, w3, w5, k0 => S81x0x9 N w1 w2 w4 w3 w5 (fun w3 w5 => L81x0x9 N w1 w2 w4 m w3 w5 k0) k0
noncomputable def G81x0x9 (w1 : LD) (w2 : Bool) (w4 : Int) (w3 w5 : Int) : Option (Int) := L81x0x9 N (R := (Int)) w1 w2 w4 N w3 w5 (fun p => some p)
noncomputable def J81x0x9 (L x : List Lf) (kr : List Lf → Option R) (k0 : Int → Option R) : Option R := S81x0x9 N (ll L 1) (lb L 2) (li L 4) (li x 0) (li x 1) (fun w3 w5 => kr [.i w3, .i w5]) k0
theorem sb81x0x9 (L x : List Lf) (kr : List Lf → Option R) (k0 : Int → Option R) : J81x0x9 N L x kr k0 = (J81x0x9 N L x (fun y => some (.inl y)) (fun p => some (.inr p))).bind (sumE kr k0) := by
  unfold J81x0x9 S81x0x9
  repeat' (first | with_reducible apply cond_b | (with_reducible apply bnd_b; intro _) | rfl)
noncomputable def Q81x0x9 (L : List Lf) (m : Nat) (x : List Lf) : Option (Int) := L81x0x9 N (R := (Int)) (ll L 1) (lb L 2) (li L 4) m (li x 0) (li x 1) (fun p => some p)
noncomputable def sh81x0x9 : Sh := { tmps := [(0, .c (.sl 5)), (1, .c (.b)), (5, .c (.i .i64)), (9, .c (.i .i64)), (10, .c (.i .i64))], mem := [] }
noncomputable def A81x0x9 (L : List Lf) : List (Bool × (Ex × St)) := bnd (Q81x0x9 N L N (pk sh81x0x9 [3, 5] L)) fun q => [(q.isSome, ((.exit 0), ⟨[(5, .c (.i .i64 (q.getD default)))], []⟩))]
theorem step81x0x9 (m : Nat) (kn : St → Option (Ex × St)) (L x : List Lf) : lpB Try.prog (T123x0 N) (h81x0s1 N).h 0 81 9 sh81x0x9 [3, 5] [4, 5] [] (m + 100) kn L x = J81x0x9 N L x (fun y => kn (ofSh sh81x0x9 (mx sh81x0x9 [3, 5] L y))) (fun p => some ((.exit 0), ⟨[(5, .c (.i .i64 p))], []⟩)) := by kernel_rfl
theorem ql81x0x9 (L : List Lf) (m : Nat) (x : List Lf) : Q81x0x9 N L (m + 1) x = J81x0x9 N L x (Q81x0x9 N L m) some := by kernel_rfl
noncomputable def h81x0s2 : Sg Try.prog 0 81 :=
  (h81x0s1 N).lp (A81x0x9 N) N progOk (T123x0_ok N) (fun m kn L x => (step81x0x9 N m kn L x).trans (sb81x0x9 N L x _ _)) (fun L m x => (ql81x0x9 N L m x).trans (sb81x0x9 N L x (Q81x0x9 N L m) some)) fun L x hx => alt1 x hx
noncomputable def F81x0 (v1 : LD) (v2 : Bool) (k0 : Int → Option R) : Option R :=
  bnd (G81x0x9 N v1 v2 (v1.length : Int) 0 0) fun y0 =>
  bif y0.isSome then
    k0 (y0.getD default)
  else
    none
noncomputable def G81x0 (v1 : LD) (v2 : Bool) : Option (Int) := F81x0 N v1 v2 (fun p => some p)
theorem bind81x0 (v1 : LD) (v2 : Bool) (k0 : Int → Option R) : F81x0 N v1 v2 k0 = (G81x0 N v1 v2).bind k0 := by
  unfold G81x0 F81x0
  repeat' (first | with_reducible apply cond_b | (with_reducible apply bnd_b; intro _) | rfl)
noncomputable def sh81x0 : Sh := { tmps := [(0, .c (.sl 5)), (1, .c (.b))], mem := [] }
noncomputable def A81x0 (L : List Lf) : List (Bool × Res) := bnd (F81x0 N (ll L 1) (lb L 2) (fun p => some p)) fun q => [(q.isSome, ([.c (.i .i64 (q.getD default))], []))]
theorem raw81x0 (L : List Lf) : bd Try.prog (T123x0 N) (h81x0s2 N).h 81 sh81x0 L = F81x0 N (ll L 1) (lb L 2) (fun p => some ([.c (.i .i64 p)], [])) := by kernel_rfl
theorem ok81x0 : FnOk Try.prog 81 sh81x0 (A81x0 N) :=
  (h81x0s2 N).fn progOk (T123x0_ok N) fun L x hx => ((raw81x0 N L).trans ((bind81x0 N ..).trans (alt1 x hx)))
noncomputable def T81x0 : Oracle := ext 81 (spSh sh81x0 (A81x0 N)) (T123x0 N)
theorem T81x0_ok : OracleOk Try.prog (T81x0 N) := FnOk.to (ok81x0 N) (T123x0_ok N)
noncomputable def rg124x0 : List (Nat × List Nat) := [(0, [1, 0]), (1, [1, 0]), (2, [0]), (3, [0])]
noncomputable def hd124x0 : Hints := []
noncomputable def h124x0s0 (N : Nat) : Sg Try.prog 0 124 := .start hd124x0 rg124x0
noncomputable def F124x0 (N : Nat) (v0 : Int) (v1 : Bool) (k0 : Int → Option R) : Option R :=
  bif v1 then
    bif (decide (0 ≤ (IntKind.wrap .i64 ((IntKind.wrap .i64 (8 * v0)) - 1)))) then
      bnd (IntKind.wrap .i64 (1 * 2 ^ (min (IntKind.wrap .i64 ((IntKind.wrap .i64 (8 * v0)) - 1)).toNat 64))) fun y0 =>
      k0 (IntKind.wrap .i64 (y0 - 1))
    else
      none
  else
    bif (decide (0 ≤ (IntKind.wrap .i64 (8 * v0)))) then
      bnd (IntKind.wrap .i64 (1 * 2 ^ (min (IntKind.wrap .i64 (8 * v0)).toNat 64))) fun y1 =>
      k0 (IntKind.wrap .i64 (y1 - 1))
    else
      none
noncomputable def G124x0 (v0 : Int) (v1 : Bool) : Option (Int) := F124x0 N v0 v1 (fun p => some p)
theorem bind124x0 (v0 : Int) (v1 : Bool) (k0 : Int → Option R) : F124x0 N v0 v1 k0 = (G124x0 N v0 v1).bind k0 := by
  unfold G124x0 F124x0
  repeat' (first | with_reducible apply cond_b | (with_reducible apply bnd_b; intro _) | rfl)
noncomputable def sh124x0 : Sh := { tmps := [(0, .c (.i .i64)), (1, .c (.b))], mem := [] }
noncomputable def A124x0 (L : List Lf) : List (Bool × Res) := bnd (F124x0 N (li L 0) (lb L 1) (fun p => some p)) fun q => [(q.isSome, ([.c (.i .i64 (q.getD default))], []))]
theorem raw124x0 (L : List Lf) : bd Try.prog (T81x0 N) (h124x0s0 N).h 124 sh124x0 L = F124x0 N (li L 0) (lb L 1) (fun p => some ([.c (.i .i64 p)], [])) := by kernel_rfl
theorem ok124x0 : FnOk Try.prog 124 sh124x0 (A124x0 N) :=
  (h124x0s0 N).fn progOk (T81x0_ok N) fun L x hx => ((raw124x0 N L).trans ((bind124x0 N ..).trans (alt1 x hx)))
noncomputable def T124x0 : Oracle := ext 124 (spSh sh124x0 (A124x0 N)) (T81x0 N)
theorem T124x0_ok : OracleOk Try.prog (T124x0 N) := FnOk.to (ok124x0 N) (T81x0_ok N)
noncomputable def rg72x0 : List (Nat × List Nat) := [(0, [1, 0]), (1, [0, 3]), (2, [0, 3, 5]), (3, [3, 0, 5, 6]), (5, [3, 0, 6, 5]), (7, [6, 3, 0, 5]), (8, [3, 6, 0, 5]), (9, [7, 0, 5]), (10, [7, 0]), (6, [0, 3]), (4, [0, 3, 5]), (11, [5, 0]), (12, [0, 5]), (13, [5])]
noncomputable def hd72x0 : Hints := [(32, [7, 0, 5, 67], [0], []), (26, [3, 6, 0, 5, 49], [7, 4, 0], []), (21020, [0, 3, 6, 5, 30], [7, 4, 0], []), (15014, [0, 3, 5, 6, 15], [7, 4, 0], []), (38, [0, 5, 70], [0], [])]
noncomputable def h72x0s0 (N : Nat) : Sg Try.prog 1 72 := .start hd72x0 rg72x0
noncomputable def F72x0x32 (N : Nat) (w0 w1 : Int) (w2 : Bool) (k0 : Int → R) : R :=
  bif w2 then
    k0 w1
  else
    k0 w0
noncomputable def V72x0x32 (w0 w1 : Int) (w2 : Bool) : Int := F72x0x32 N w0 w1 w2 (fun p => p)
theorem tot72x0x32 (w0 w1 : Int) (w2 : Bool) (k0 : Int → R) : F72x0x32 N w0 w1 w2 k0 = k0 (V72x0x32 N w0 w1 w2) := by
  unfold V72x0x32 F72x0x32
  repeat' (first | rfl | apply cond_k | (apply bnd_k; intro _))
noncomputable def sh72x0x32 : Sh := { tmps := [(0, .c (.p 0 0)), (5, .c (.i .i64)), (7, .c (.i .i64)), (67, .c (.b))], mem := [(0, .dat 116)] }
noncomputable def K72x0x32w0 (L : List Lf) (p : Int) : Ex × St := (.normal, mg (ofSh sh72x0x32 L) [0, 5] [(5, .c (.i .i64 p))] [0] [])
noncomputable def A72x0x32 (L : List Lf) : List (Bool × (Ex × St)) := bnd (F72x0x32 N (li L 0) (li L 1) (lb L 2) (fun p => p)) fun q => [(true, K72x0x32w0 L q)]
theorem raw72x0x32 (L : List Lf) : pc Try.prog (T124x0 N) (h72x0s0 N).h 1 100 72 32 sh72x0x32 L [5, 0] [0] = F72x0x32 N (li L 0) (li L 1) (lb L 2) (fun p => some (K72x0x32w0 L p)) := by kernel_rfl
noncomputable def h72x0s1 : Sg Try.prog 1 72 :=
  (h72x0s0 N).cut (A72x0x32 N) progOk (T124x0_ok N) fun L x hx => (raw72x0x32 N L).trans ((tot72x0x32 N ..).trans (alt0 _ _ hx))
noncomputable def F72x0x26 (w0 : Int) (w1 : Bool) (w9 : LD) (w11 : Bool) (w16 : Int) (k0 : Int → Option R) : Option R :=
  bif w1 then
    bif (((decide (0 ≤ w16)) && (decide (w16 ≤ (IntKind.wrap .i64 (w16 + 4))))) && (decide ((IntKind.wrap .i64 (w16 + 4)) ≤ (w9.length : Int)))) then
      bnd (((w9.take (IntKind.wrap .i64 (w16 + 4)).toNat).drop w16.toNat) : List D) fun y0 =>
      bnd (G81x0 N y0 w11) fun y1 =>
      bif y1.isSome then
        bnd (G124x0 N 4 false) fun y2 =>
        bif y2.isSome then
          bnd (V72x0x32 N w0 (y1.getD default) ((y1.getD default) != (y2.getD default))) fun y3 =>
          k0 y3
        else
          none
      else
        none
    else
      none
  else
    k0 w0
noncomputable def G72x0x26 (w0 : Int) (w1 : Bool) (w9 : LD) (w11 : Bool) (w16 : Int) : Option (Int) := F72x0x26 N w0 w1 w9 w11 w16 (fun p => some p)
theorem bind72x0x26 (w0 : Int) (w1 : Bool) (w9 : LD) (w11 : Bool) (w16 : Int) (k0 : Int → Option R) : F72x0x26 N w0 w1 w9 w11 w16 k0 = (G72x0x26 N w0 w1 w9 w11 w16).bind k0 := by
  unfold G72x0x26 F72x0x26
  repeat' (first | with_reducible apply cond_b | (with_reducible apply bnd_b; intro _) | rfl)
noncomputable def J72x0x26 (L : List Lf) (k0 : Int → Option R) : Option R := F72x0x26 N (li L 0) (lb L 1) (ll L 9) (lb L 11) (li L 16) k0
noncomputable def sh72x0x26 : Sh := { tmps := [(0, .c (.p 0 0)), (3, .c (.p 4 0)), (5, .c (.i .i64)), (6, .c (.p 7 0)), (49, .c (.b))], mem := [(0, .dat 116), (4, .box ([.i .i64, .i .i64, .i .i64, .sl 103, .sl 5])), (7, .box (.b :: [.b, .i .i64, .sl 146, .i .i64, .i .i64]))] }
noncomputable def K72x0x26w0 (L : List Lf) (p : Int) : Ex × St := (.normal, mg (ofSh sh72x0x26 L) [0, 5] [(5, .c (.i .i64 p))] [0] [])
noncomputable def A72x0x26 (L : List Lf) : List (Bool × (Ex × St)) := bnd (J72x0x26 N L (fun p => some p)) fun q => [(q.isSome, K72x0x26w0 L (q.getD default))]
theorem raw72x0x26 (L : List Lf) : pc Try.prog (T124x0 N) (h72x0s1 N).h 1 100 72 26 sh72x0x26 L [5, 0] [0] = J72x0x26 N L (fun p => some (K72x0x26w0 L p)) := by kernel_rfl
noncomputable def h72x0s2 : Sg Try.prog 1 72 :=
  (h72x0s1 N).cut (A72x0x26 N) progOk (T124x0_ok N) fun L x hx => (raw72x0x26 N L).trans ((bind72x0x26 N ..).trans (alt1 x hx))
noncomputable def F72x0x21020 (w0 : Int) (w1 : Bool) (w2 : D) (w5 : Int) (w9 : LD) (w11 : Bool) (w16 : Int) (k0 : Int → Option R) : Option R :=
  bif w1 then
    bnd (IntKind.wrap .i64 ((IntKind.wrap .i64 (w5 - ((w2.cell 96).toI.tmod 32))) + 32)) fun y0 =>
    k0 (IntKind.wrap .i64 ((w2.cell 96).toI + (y0.tmod 32)))
  else
    bnd (G72x0x26 N w0 (decide (w16 ≥ 0)) w9 w11 w16) fun y1 =>
    bif y1.isSome then
      k0 (y1.getD default)
    else
      none
noncomputable def G72x0x21020 (w0 : Int) (w1 : Bool) (w2 : D) (w5 : Int) (w9 : LD) (w11 : Bool) (w16 : Int) : Option (Int) := F72x0x21020 N w0 w1 w2 w5 w9 w11 w16 (fun p => some p)
theorem bind72x0x21020 (w0 : Int) (w1 : Bool) (w2 : D) (w5 : Int) (w9 : LD) (w11 : Bool) (w16 : Int) (k0 : Int → Option R) : F72x0x21020 N w0 w1 w2 w5 w9 w11 w16 k0 = (G72x0x21020 N w0 w1 w2 w5 w9 w11 w16).bind k0 := by
  unfold G72x0x21020 F72x0x21020
  repeat' (first | with_reducible apply cond_b | (with_reducible apply bnd_b; intro _) | rfl)
noncomputable def J72x0x21020 (L : List Lf) (k0 : Int → Option R) : Option R := F72x0x21020 N (li L 0) (lb L 1) (ld L 2) (li L 5) (ll L 9) (lb L 11) (li L 16) k0
noncomputable def sh72x0x21020 : Sh := { tmps := [(0, .c (.p 0 0)), (3, .c (.p 4 0)), (5, .c (.i .i64)), (6, .c (.p 7 0)), (30, .c (.b))], mem := [(0, .dat 116), (4, .box ([.i .i64, .i .i64, .i .i64, .sl 103, .sl 5])), (7, .box (.b :: [.b, .i .i64, .sl 146, .i .i64, .i .i64]))] }
noncomputable def K72x0x21020w0 (L : List Lf) (p : Int) : Ex × St := (.normal, mg (ofSh sh72x0x21020 L) [0, 5] [(5, .c (.i .i64 p))] [0] [])
noncomputable def A72x0x21020 (L : List Lf) : List (Bool × (Ex × St)) := bnd (J72x0x21020 N L (fun p => some p)) fun q => [(q.isSome, K72x0x21020w0 L (q.getD default))]
theorem raw72x0x21020 (L : List Lf) : pc Try.prog (T124x0 N) (h72x0s2 N).h 1 100 72 21020 sh72x0x21020 L [5, 0] [0] = J72x0x21020 N L (fun p => some (K72x0x21020w0 L p)) := by kernel_rfl
noncomputable def h72x0s3 : Sg Try.prog 1 72 :=
  (h72x0s2 N).cut (A72x0x21020 N) progOk (T124x0_ok N) fun L x hx => (raw72x0x21020 N L).trans ((bind72x0x21020 N ..).trans (alt1 x hx))
noncomputable def F72x0x15014 (w0 : Int) (w1 : Bool) (w2 : D) (w3 w4 w5 : Int) (w7 w9 : LD) (w11 : Bool) (w16 : Int) (k0 : Int × D → Option R) : Option R :=
  bif w1 then
    bif (inB 0 w7.length) then
      bnd (G123x0 N ((w7.getD 0 (.i 0)).cell 2).items) fun y0 =>
      bif y0.isSome then
        bif (inB w4 16) then
          bnd (((((((w2.put (0 + (w4.toNat * 6)) (.b true)).put (1 + (w4.toNat * 6)) (.b ((w7.getD 0 (.i 0)).cell 0).toB)).put (2 + (w4.toNat * 6)) (.i ((w7.getD 0 (.i 0)).cell 1).toI)).put (3 + (w4.toNat * 6)) (.l ((w7.getD 0 (.i 0)).cell 2).isNil ((w7.getD 0 (.i 0)).cell 2).items)).put (4 + (w4.toNat * 6)) (.i (y0.getD default).1)).put (5 + (w4.toNat * 6)) (.i (y0.getD default).2)) : D) fun y1 =>
          k0 (w0, y1)
        else
          none
      else
        none
    else
      none
  else
    bnd (G72x0x21020 N w0 (w3 == 3) w2 w5 w9 w11 w16) fun y2 =>
    bif y2.isSome then
      k0 ((y2.getD default), w2)
    else
      none
noncomputable def G72x0x15014 (w0 : Int) (w1 : Bool) (w2 : D) (w3 w4 w5 : Int) (w7 w9 : LD) (w11 : Bool) (w16 : Int) : Option (Int × D) := F72x0x15014 N w0 w1 w2 w3 w4 w5 w7 w9 w11 w16 (fun p => some p)
theorem bind72x0x15014 (w0 : Int) (w1 : Bool) (w2 : D) (w3 w4 w5 : Int) (w7 w9 : LD) (w11 : Bool) (w16 : Int) (k0 : Int × D → Option R) : F72x0x15014 N w0 w1 w2 w3 w4 w5 w7 w9 w11 w16 k0 = (G72x0x15014 N w0 w1 w2 w3 w4 w5 w7 w9 w11 w16).bind k0 := by
  unfold G72x0x15014 F72x0x15014
  repeat' (first | with_reducible apply cond_b | (with_reducible apply bnd_b; intro _) | rfl)
noncomputable def J72x0x15014 (L : List Lf) (k0 : Int × D → Option R) : Option R := F72x0x15014 N (li L 0) (lb L 1) (ld L 2) (li L 3) (li L 4) (li L 5) (ll L 7) (ll L 9) (lb L 11) (li L 16) k0
noncomputable def sh72x0x15014 : Sh := { tmps := [(0, .c (.p 0 0)), (3, .c (.p 4 0)), (5, .c (.i .i64)), (6, .c (.p 7 0)), (15, .c (.b))], mem := [(0, .dat 116), (4, .box ([.i .i64, .i .i64, .i .i64, .sl 103, .sl 5])), (7, .box (.b :: [.b, .i .i64, .sl 146, .i .i64, .i .i64]))] }
noncomputable def K72x0x15014w0 (L : List Lf) (p : Int × D) : Ex × St := (.normal, ⟨[(0, .c (.p 0 0)), (5, .c (.i .i64 p.1))], [(0, .dat 116 p.2)]⟩)
noncomputable def A72x0x15014 (L : List Lf) : List (Bool × (Ex × St)) := bnd (J72x0x15014 N L (fun p => some p)) fun q => [(q.isSome, K72x0x15014w0 L (q.getD default))]
theorem raw72x0x15014 (L : List Lf) : pc Try.prog (T124x0 N) (h72x0s3 N).h 1 100 72 15014 sh72x0x15014 L [5, 0] [0] = J72x0x15014 N L (fun p => some (K72x0x15014w0 L p)) := by kernel_rfl
noncomputable def h72x0s4 : Sg Try.prog 1 72 :=
  (h72x0s3 N).cut (A72x0x15014 N) progOk (T124x0_ok N) fun L x hx => (raw72x0x15014 N L).trans ((bind72x0x15014 N ..).trans (alt1 x hx))
noncomputable def F72x0x38 (N : Nat) (w0 : Int) (w1 : Bool) (w2 : D) (k0 : D → R) : R :=
  bif w1 then
    k0 (w2.put 96 (.i w0))
  else
    k0 w2
noncomputable def V72x0x38 (w0 : Int) (w1 : Bool) (w2 : D) : D := F72x0x38 N w0 w1 w2 (fun p => p)
theorem tot72x0x38 (w0 : Int) (w1 : Bool) (w2 : D) (k0 : D → R) : F72x0x38 N w0 w1 w2 k0 = k0 (V72x0x38 N w0 w1 w2) := by
  unfold V72x0x38 F72x0x38
  repeat' (first | rfl | apply cond_k | (apply bnd_k; intro _))
noncomputable def sh72x0x38 : Sh := { tmps := [(0, .c (.p 0 0)), (5, .c (.i .i64)), (70, .c (.b))], mem := [(0, .dat 116)] }
noncomputable def A72x0x38 (L : List Lf) : List (Bool × (Ex × St)) := bnd (F72x0x38 N (li L 0) (lb L 1) (ld L 2) (fun p => p)) fun q => [(true, (.normal, ⟨[(5, .c (.i .i64 (li L 0)))], [(0, .dat 116 q)]⟩))]
theorem raw72x0x38 (L : List Lf) : pc Try.prog (T124x0 N) (h72x0s4 N).h 1 100 72 38 sh72x0x38 L [5] [0] = F72x0x38 N (li L 0) (lb L 1) (ld L 2) (fun p => some (.normal, ⟨[(5, .c (.i .i64 (li L 0)))], [(0, .dat 116 p)]⟩)) := by kernel_rfl
noncomputable def h72x0s5 : Sg Try.prog 1 72 :=
  (h72x0s4 N).cut (A72x0x38 N) progOk (T124x0_ok N) fun L x hx => (raw72x0x38 N L).trans ((tot72x0x38 N ..).trans (alt0 _ _ hx))
noncomputable def F72x0 (v0 v1 v2 : Int) (v4 v6 : LD) (v7 : D) (k0 : Int × D → Option R) : Option R :=
  bif (inB v1 16) then
    bnd (G72x0x15014 N (-1) (v0 == 1) v7 v0 v1 v2 v4 v6 (v7.cell (1 + (v1.toNat * 6))).toB (v7.cell (5 + (v1.toNat * 6))).toI) fun y0 =>
    bif y0.isSome then
      bnd (V72x0x38 N (y0.getD default).1 (decide ((y0.getD default).1 ≥ 0)) (y0.getD default).2) fun y1 =>
      k0 ((y0.getD default).1, y1)
    else
      none
  else
    none
noncomputable def G72x0 (v0 v1 v2 : Int) (v4 v6 : LD) (v7 : D) : Option (Int × D) := F72x0 N v0 v1 v2 v4 v6 v7 (fun p => some p)
theorem bind72x0 (v0 v1 v2 : Int) (v4 v6 : LD) (v7 : D) (k0 : Int × D → Option R) : F72x0 N v0 v1 v2 v4 v6 v7 k0 = (G72x0 N v0 v1 v2 v4 v6 v7).bind k0 := by
  unfold G72x0 F72x0
  repeat' (first | with_reducible apply cond_b | (with_reducible apply bnd_b; intro _) | rfl)
noncomputable def J72x0 (L : List Lf) (k0 : Int × D → Option R) : Option R := F72x0 N (li L 0) (li L 1) (li L 2) (ll L 4) (ll L 6) (ld L 7) k0
noncomputable def sh72x0 : Sh := { tmps := [(0, .c (.p 0 0)), (1, .g ([.i .i64, .i .i64, .i .i64, .sl 103, .sl 5]))], mem := [(0, .dat 116)] }
noncomputable def A72x0 (L : List Lf) : List (Bool × Res) := bnd (J72x0 N L (fun p => some p)) fun q => [(q.isSome, ([.c (.i .i64 (q.getD default).1)], [(0, .dat 116 (q.getD default).2)]))]
theorem raw72x0 (L : List Lf) : bd Try.prog (T124x0 N) (h72x0s5 N).h 72 sh72x0 L = J72x0 N L (fun p => some ([.c (.i .i64 p.1)], [(0, .dat 116 p.2)])) := by kernel_rfl
theorem ok72x0 : FnOk Try.prog 72 sh72x0 (A72x0 N) :=
  (h72x0s5 N).fn progOk (T124x0_ok N) fun L x hx => ((raw72x0 N L).trans ((bind72x0 N ..).trans (alt1 x hx)))
noncomputable def T72x0 : Oracle := ext 72 (spSh sh72x0 (A72x0 N)) (T124x0 N)
theorem T72x0_ok : OracleOk Try.prog (T72x0 N) := FnOk.to (ok72x0 N) (T124x0_ok N)
noncomputable def rg22x0 : List (Nat × List Nat) := [(0, [0]), (1, [1]), (2, []), (3, [1]), (4, [1, 3]), (5, [15, 14, 13, 3]), (6, [13, 15, 3, 14]), (7, [3, 5, 15, 14, 13]), (8, [6, 3, 5, 15, 14, 13]), (9, [6]), (10, [3, 5, 15, 14, 13]), (11, [15, 14, 13, 3]), (12, [])]
noncomputable def hd22x0 : Hints := [(15, [15, 14, 13, 3], [12000000002], [])]
noncomputable def h22x0s0 (N : Nat) : Sg Try.prog 0 22 := .start hd22x0 rg22x0
noncomputable def S22x0x15 (w1 : LD) (w2 : Int) (w3 : Int) (w4 : D) (kr : Int → D → Option R) (k0 : Int → Option R) (k1 : Unit → Option R) : Option R :=
  bif (decide (w3 < w2)) then
    bif (inB w3 w1.length) then
      bnd (G71x0 N ((w1.getD w3.toNat (.i 0)).cell 0).toI ((w1.getD w3.toNat (.i 0)).cell 1).toI ((w1.getD w3.toNat (.i 0)).cell 2).toI ((w1.getD w3.toNat (.i 0)).cell 3).items ((w1.getD w3.toNat (.i 0)).cell 4).items w4) fun y0 =>
      bif y0.isSome then
        bif ((y0.getD default) != 0) then
          k0 (y0.getD default)
        else
          bnd (G72x0 N ((w1.getD w3.toNat (.i 0)).cell 0).toI ((w1.getD w3.toNat (.i 0)).cell 1).toI ((w1.getD w3.toNat (.i 0)).cell 2).toI ((w1.getD w3.toNat (.i 0)).cell 3).items ((w1.getD w3.toNat (.i 0)).cell 4).items w4) fun y1 =>
          bif y1.isSome then
            kr (IntKind.wrap .i64 (w3 + 1)) (y1.getD default).2
          else
            none
      else
        none
    else
      none
  else
    k1 ()
noncomputable def L22x0x15 (N : Nat) {R : Type} (w1 : LD) (w2 : Int) : Nat → Int → D → (Int → Option R) → (Unit → Option R) → Option R
  | 0, _, _, _, _ => none
  | m + 1, w3, w4, k0, k1 => S22x0x15 N w1 w2 w3 w4 (fun w3 w4 => L22x0x15 N w1 w2 m w3 w4 k0 k1) k0 k1
noncomputable def G22x0x15 (w1 : LD) (w2 : Int) (w3 : Int) (w4 : D) : Option (Sum (Int) (Unit)) := L22x0x15 N (R := (Sum (Int) (Unit))) w1 w2 N w3 w4 (fun p => some (.inl p)) (fun p => some (.inr p))
noncomputable def J22x0x15 (L x : List Lf) (kr : List Lf → Option R) (k0 : Int → Option R) (k1 : Unit → Option R) : Option R := S22x0x15 N (ll L 1) (li L 2) (li x 0) (ld x 1) (fun w3 w4 => kr [.i w3, .d w4]) k0 k1
theorem sb22x0x15 (L x : List Lf) (kr : List Lf → Option R) (k0 : Int → Option R) (k1 : Unit → Option R) : J22x0x15 N L x kr k0 k1 = (J22x0x15 N L x (fun y => some (.inl y)) (fun p => some (.inr (.inl p))) (fun p => some (.inr (.inr p)))).bind (sumE kr (sumE k0 k1)) := by
  unfold J22x0x15 S22x0x15
  repeat' (first | with_reducible apply cond_b | (with_reducible apply bnd_b; intro _) | rfl)
noncomputable def Q22x0x15 (L : List Lf) (m : Nat) (x : List Lf) : Option (Sum (Int) (Unit)) := L22x0x15 N (R := (Sum (Int) (Unit))) (ll L 1) (li L 2) m (li x 0) (ld x 1) (fun p => some (.inl p)) (fun p => some (.inr p))
noncomputable def sh22x0x15 : Sh := { tmps := [(3, .c (.p 12000000002 0)), (13, .c (.sl 53)), (14, .c (.i .i64)), (15, .c (.i .i64))], mem := [(12000000002, .dat 116)] }
noncomputable def A22x0x15 (L : List Lf) : List (Bool × (Ex × St)) := bnd (Q22x0x15 N L N (pk sh22x0x15 [3, 4] L)) fun q => [((inlB q), (.ret, ⟨[(2, .c (.i .i64 (inlV q)))], []⟩)), ((inrQ q).isSome, ((.exit 0), ⟨[], []⟩))]
theorem step22x0x15 (m : Nat) (kn : St → Option (Ex × St)) (L x : List Lf) : lpB Try.prog (T72x0 N) (h22x0s0 N).h 0 22 15 sh22x0x15 [3, 4] [2] [] (m + 100) kn L x = J22x0x15 N L x (fun y => kn (ofSh sh22x0x15 (mx sh22x0x15 [3, 4] L y))) (fun p => some (.ret, ⟨[(2, .c (.i .i64 p))], []⟩)) (fun _ => some ((.exit 0), ⟨[], []⟩)) := by kernel_rfl
theorem ql22x0x15 (L : List Lf) (m : Nat) (x : List Lf) : Q22x0x15 N L (m + 1) x = J22x0x15 N L x (Q22x0x15 N L m) (fun p => some (.inl p)) (fun p => some (.inr p)) := by kernel_rfl
noncomputable def h22x0s1 : Sg Try.prog 0 22 :=
  (h22x0s0 N).lp (A22x0x15 N) N progOk (T72x0_ok N) (fun m kn L x => (step22x0x15 N m kn L x).trans (sb22x0x15 N L x _ _ _)) (fun L m x => (ql22x0x15 N L m x).trans (sb22x0x15 N L x (Q22x0x15 N L m) (fun p => some (.inl p)) (fun p => some (.inr p)))) fun L x hx => (altS alt1) x hx
noncomputable def F22x0 (v1 : LD) (k0 : Int → Option R) : Option R :=
  bif (decide ((v1.length : Int) > 50000)) then
    k0 3
  else
    bnd (V70x0 N) fun y0 =>
    bnd (G22x0x15 N v1 (v1.length : Int) 0 y0) fun y1 =>
    bif (inlB y1) then
      k0 (inlV y1)
    else
      bif (inrQ y1).isSome then
        k0 0
      else
        none
noncomputable def G22x0 (v1 : LD) : Option (Int) := F22x0 N v1 (fun p => some p)
theorem bind22x0 (v1 : LD) (k0 : Int → Option R) : F22x0 N v1 k0 = (G22x0 N v1).bind k0 := by
  unfold G22x0 F22x0
  repeat' (first | with_reducible apply cond_b | (with_reducible apply bnd_b; intro _) | rfl)
noncomputable def sh22x0 : Sh := { tmps := [(0, .g ([.sl 53]))], mem := [] }
noncomputable def A22x0 (L : List Lf) : List (Bool × Res) := bnd (F22x0 N (ll L 1) (fun p => some p)) fun q => [(q.isSome, ([.c (.i .i64 (q.getD default))], []))]
theorem raw22x0 (L : List Lf) : bd Try.prog (T72x0 N) (h22x0s1 N).h 22 sh22x0 L = F22x0 N (ll L 1) (fun p => some ([.c (.i .i64 p)], [])) := by kernel_rfl
theorem ok22x0 : FnOk Try.prog 22 sh22x0 (A22x0 N) :=
  (h22x0s1 N).fn progOk (T72x0_ok N) fun L x hx => ((raw22x0 N L).trans ((bind22x0 N ..).trans (alt1 x hx)))
noncomputable def T22x0 : Oracle := ext 22 (spSh sh22x0 (A22x0 N)) (T72x0 N)
theorem T22x0_ok : OracleOk Try.prog (T22x0 N) := FnOk.to (ok22x0 N) (T72x0_ok N)
noncomputable def rg96x0 : List (Nat × List Nat) := [(0, [0, 1]), (1, [2, 1]), (2, [2, 1, 5]), (3, [2, 7, 1, 5, 6]), (4, [15, 14, 13, 7, 2, 1, 5, 6]), (5, [13, 15, 7, 2, 1, 14, 5, 6]), (6, [7, 2, 9, 1, 15, 14, 13, 5, 6]), (7, [7, 9, 1, 10, 15, 14, 13, 2, 5, 6]), (8, [1, 10, 15, 14, 13, 7, 2, 5, 6, 9]), (9, [5, 9, 6, 15, 14, 13, 7, 2, 1]), (10, [6, 9, 15, 14, 13, 7, 2, 1, 5]), (11, [15, 14, 13, 7, 2, 1, 5, 6]), (12, [5])]
noncomputable def hd96x0 : Hints := [(12, [15, 14, 13, 7, 2, 1, 5, 6], [2, 5], [5])]
noncomputable def h96x0s0 (N : Nat) : Sg Try.prog 0 96 := .start hd96x0 rg96x0
noncomputable def S96x0x12 (N : Nat) (w0 : Bool) (w4 : LD) (w5 w13 : Int) (w1 w2 w6 : Int) (w14 : Bool) (w15 : LD) (kr : Int → Int → Int → Bool → LD → Option R) (k0 : Bool × LD → Option R) : Option R :=
  bif (decide (w6 < w5)) then
    bif (inB w6 w4.length) then
      bnd (IntKind.wrap .i64 (w2 + ((w4.getD w6.toNat (.i 0)).cell 1).toI)) fun y0 =>
      bif (bif w0 then (w2 == w13) else false) then
        kr w1 y0 (IntKind.wrap .i64 (w6 + 1)) w14 w15
      else
        bif (decide ((w15.length + 1) * 32 ≤ room) && decide ((w15.length + 1) ≤ strMax)) then
          bnd ((w15 ++ [(.a [(.i ((w4.getD w6.toNat (.i 0)).cell 0).toI), (.i ((w4.getD w6.toNat (.i 0)).cell 1).toI), (.i ((w4.getD w6.toNat (.i 0)).cell 2).toI), (.i w1)])]) : List D) fun y1 =>
          bnd (IntKind.wrap .i64 (w1 + ((w4.getD w6.toNat (.i 0)).cell 1).toI)) fun y2 =>
          kr y2 y0 (IntKind.wrap .i64 (w6 + 1)) false y1
        else
          none
    else
      none
  else
    k0 (w14, w15)
noncomputable def L96x0x12 (N : Nat) {R : Type} (w0 : Bool) (w4 : LD) (w5 w13 : Int) : Nat → Int → Int → Int → Bool → LD → (Bool × LD → Option R) → Option R
  | 0, _, _, _, _, _, _ => none
  | m + 1, w1, w2, w6, w14, w15, k0 => S96x0x12 N w0 w4 w5 w13 w1 w2 w6 w14 w15 (fun w1 w2 w6 w14 w15 => L96x0x12 N w0 w4 w5 w13 m w1 w2 w6 w14 w15 k0) k0
noncomputable def G96x0x12 (w0 : Bool) (w4 : LD) (w5 w13 : Int) (w1 w2 w6 : Int) (w14 : Bool) (w15 : LD) : Option (Bool × LD) := L96x0x12 N (R := (Bool × LD)) w0 w4 w5 w13 N w1 w2 w6 w14 w15 (fun p => some p)
noncomputable def J96x0x12 (L x : List Lf) (kr : List Lf → Option R) (k0 : Bool × LD → Option R) : Option R := S96x0x12 N (lb L 0) (ll L 4) (li L 5) (li L 13) (li x 0) (li x 1) (li x 2) (lb x 3) (ll x 4) (fun w1 w2 w6 w14 w15 => kr [.i w1, .i w2, .i w6, .b w14, .l w15]) k0
theorem sb96x0x12 (L x : List Lf) (kr : List Lf → Option R) (k0 : Bool × LD → Option R) : J96x0x12 N L x kr k0 = (J96x0x12 N L x (fun y => some (.inl y)) (fun p => some (.inr p))).bind (sumE kr k0) := by
  unfold J96x0x12 S96x0x12
  repeat' (first | with_reducible apply cond_b | (with_reducible apply bnd_b; intro _) | rfl)
noncomputable def Q96x0x12 (L : List Lf) (m : Nat) (x : List Lf) : Option (Bool × LD) := L96x0x12 N (R := (Bool × LD)) (lb L 0) (ll L 4) (li L 5) (li L 13) m (li x 0) (li x 1) (li x 2) (lb x 3) (ll x 4) (fun p => some p)
noncomputable def sh96x0x12 : Sh := { tmps := [(1, .c (.b)), (2, .c (.p 2 0)), (5, .c (.o 5)), (6, .c (.i .i64)), (7, .c (.i .i64)), (13, .c (.sl 146)), (14, .c (.i .i64)), (15, .c (.i .i64))], mem := [(2, .box (.b :: [.b, .i .i64, .sl 146, .i .i64, .i .i64])), (5, .row 148 true)] }
noncomputable def K96x0x12w0 (L : List Lf) (p : Bool × LD) : Ex × St := ((.exit 0), ⟨[(5, .c (.o 5))], [(5, .row 148 true p.1 p.2)]⟩)
noncomputable def A96x0x12 (L : List Lf) : List (Bool × (Ex × St)) := bnd (Q96x0x12 N L N (pk sh96x0x12 [1, 2, 6, 14, 15] L)) fun q => [(q.isSome, K96x0x12w0 L (q.getD default))]
theorem step96x0x12 (m : Nat) (kn : St → Option (Ex × St)) (L x : List Lf) : lpB Try.prog (T22x0 N) (h96x0s0 N).h 0 96 12 sh96x0x12 [1, 2, 6, 14, 15] [4, 5] [5] (m + 100) kn L x = J96x0x12 N L x (fun y => kn (ofSh sh96x0x12 (mx sh96x0x12 [1, 2, 6, 14, 15] L y))) (fun p => some (K96x0x12w0 L p)) := by kernel_rfl
theorem ql96x0x12 (L : List Lf) (m : Nat) (x : List Lf) : Q96x0x12 N L (m + 1) x = J96x0x12 N L x (Q96x0x12 N L m) some := by kernel_rfl
noncomputable def h96x0s1 : Sg Try.prog 0 96 :=
  (h96x0s0 N).lp (A96x0x12 N) N progOk (T22x0_ok N) (fun m kn L x => (step96x0x12 N m kn L x).trans (sb96x0x12 N L x _ _)) (fun L m x => (ql96x0x12 N L m x).trans (sb96x0x12 N L x (Q96x0x12 N L m) some)) fun L x hx => alt1 x hx
noncomputable def F96x0 (v4 : LD) (v6 : Int) (v7 : Bool) (k0 : Bool × LD → Option R) : Option R :=
  bnd (G96x0x12 N v7 v4 (v4.length : Int) v6 0 0 0 true []) fun y0 =>
  bif y0.isSome then
    k0 (y0.getD default)
  else
    none
noncomputable def G96x0 (v4 : LD) (v6 : Int) (v7 : Bool) : Option (Bool × LD) := F96x0 N v4 v6 v7 (fun p => some p)
theorem bind96x0 (v4 : LD) (v6 : Int) (v7 : Bool) (k0 : Bool × LD → Option R) : F96x0 N v4 v6 v7 k0 = (G96x0 N v4 v6 v7).bind k0 := by
  unfold G96x0 F96x0
  repeat' (first | with_reducible apply cond_b | (with_reducible apply bnd_b; intro _) | rfl)
noncomputable def sh96x0 : Sh := { tmps := [(0, .g (.b :: [.b, .i .i64, .sl 146, .i .i64, .i .i64])), (1, .c (.b))], mem := [] }
noncomputable def A96x0 (L : List Lf) : List (Bool × Res) := bnd (F96x0 N (ll L 4) (li L 6) (lb L 7) (fun p => some p)) fun q => [(q.isSome, ([.c (.sl 148 (q.getD default).1 (q.getD default).2)], []))]
theorem raw96x0 (L : List Lf) : bd Try.prog (T22x0 N) (h96x0s1 N).h 96 sh96x0 L = F96x0 N (ll L 4) (li L 6) (lb L 7) (fun p => some ([.c (.sl 148 p.1 p.2)], [])) := by kernel_rfl
theorem ok96x0 : FnOk Try.prog 96 sh96x0 (A96x0 N) :=
  (h96x0s1 N).fn progOk (T22x0_ok N) fun L x hx => ((raw96x0 N L).trans ((bind96x0 N ..).trans (alt1 x hx)))
noncomputable def T96x0 : Oracle := ext 96 (spSh sh96x0 (A96x0 N)) (T22x0 N)
theorem T96x0_ok : OracleOk Try.prog (T96x0 N) := FnOk.to (ok96x0 N) (T22x0_ok N)
noncomputable def rg149x0 : List (Nat × List Nat) := [(0, [0, 1]), (1, [0, 1])]
noncomputable def hd149x0 : Hints := []
noncomputable def h149x0s0 (N : Nat) : Sg Try.prog 0 149 := .start hd149x0 rg149x0
noncomputable def F149x0 (N : Nat) (v0 : LB) (v1 : Int) (k0 : Int → R) : R :=
  k0 (Lib.indexByte v0 v1.toNat.toUInt8)
noncomputable def V149x0 (v0 : LB) (v1 : Int) : Int := F149x0 N v0 v1 (fun p => p)
theorem tot149x0 (v0 : LB) (v1 : Int) (k0 : Int → R) : F149x0 N v0 v1 k0 = k0 (V149x0 N v0 v1) := by
  unfold V149x0 F149x0
  repeat' (first | rfl | apply cond_k | (apply bnd_k; intro _))
noncomputable def sh149x0 : Sh := { tmps := [(0, .c (.s)), (1, .c (.i .u8))], mem := [] }
noncomputable def A149x0 (L : List Lf) : List (Bool × Res) := bnd (F149x0 N (ls L 0) (li L 1) (fun p => p)) fun q => [(true, ([.c (.i .i64 q)], []))]
theorem raw149x0 (L : List Lf) : bd Try.prog (T96x0 N) (h149x0s0 N).h 149 sh149x0 L = F149x0 N (ls L 0) (li L 1) (fun p => some ([.c (.i .i64 p)], [])) := by kernel_rfl
theorem ok149x0 : FnOk Try.prog 149 sh149x0 (A149x0 N) :=
  (h149x0s0 N).fn progOk (T96x0_ok N) fun L x hx => ((raw149x0 N L).trans ((tot149x0 N ..).trans (alt0 _ _ hx)))
noncomputable def T149x0 : Oracle := ext 149 (spSh sh149x0 (A149x0 N)) (T96x0 N)
theorem T149x0_ok : OracleOk Try.prog (T149x0 N) := FnOk.to (ok149x0 N) (T96x0_ok N)
noncomputable def rg148x0 : List (Nat × List Nat) := [(0, [1, 0]), (1, [1, 0]), (2, [5, 1, 0]), (4, [5, 0, 1]), (6, [5, 0, 1]), (8, [5, 0, 1]), (9, [0, 1]), (7, []), (5, [0, 1]), (3, []), (10, [1, 0, 5]), (11, [1, 0, 5, 6]), (12, [0, 5, 6, 7, 1]), (13, [0, 5, 8, 6, 7, 1]), (14, [8, 9, 0, 6, 7, 5, 1]), (15, [8, 9, 0, 6, 7, 5, 1, 10]), (16, [0, 8, 6, 9, 7, 5, 1, 10]), (17, [0, 8, 9, 6, 7, 5, 1, 10]), (18, [11, 8, 0, 7, 5, 1, 10, 9, 6]), (19, []), (20, [8, 11, 0, 7, 5, 1, 10, 9, 6]), (21, [0, 8, 7, 5, 1, 10, 9, 6]), (22, [8]), (23, [8, 10, 5, 0, 1, 9, 6, 7]), (24, [10, 5, 8, 0, 1, 9, 6, 7]), (25, [5, 10, 8, 0, 1, 9, 6, 7]), (30, [5, 10, 8, 9, 0, 1, 6, 7]), (31, [0, 8, 1]), (32, [13, 8]), (33, []), (34, [8, 13]), (26, [0, 8, 1]), (27, [12, 8]), (28, [12, 8]), (29, []), (35, [])]
noncomputable def hd148x0 : Hints := []
noncomputable def h148x0s0 (N : Nat) : Sg Try.prog 0 148 := .start hd148x0 rg148x0
noncomputable def F148x0 (v0 : LB) (k0 : Int → R) : R :=
  bif (([0] : List UInt8) == v0) then
    k0 0
  else
    bnd (V149x0 N v0 0) fun y0 =>
    k0 y0
noncomputable def V148x0 (v0 : LB) : Int := F148x0 N v0 (fun p => p)
theorem tot148x0 (v0 : LB) (k0 : Int → R) : F148x0 N v0 k0 = k0 (V148x0 N v0) := by
  unfold V148x0 F148x0
  repeat' (first | rfl | apply cond_k | (apply bnd_k; intro _))
noncomputable def sh148x0 : Sh := { tmps := [(0, .c (.s)), (1, .c (.ks [0]))], mem := [] }
noncomputable def A148x0 (L : List Lf) : List (Bool × Res) := bnd (F148x0 N (ls L 0) (fun p => p)) fun q => [(true, ([.c (.i .i64 q)], []))]
theorem raw148x0 (L : List Lf) : bd Try.prog (T149x0 N) (h148x0s0 N).h 148 sh148x0 L = F148x0 N (ls L 0) (fun p => some ([.c (.i .i64 p)], [])) := by kernel_rfl
theorem ok148x0 : FnOk Try.prog 148 sh148x0 (A148x0 N) :=
  (h148x0s0 N).fn progOk (T149x0_ok N) fun L x hx => ((raw148x0 N L).trans ((tot148x0 N ..).trans (alt0 _ _ hx)))
noncomputable def T148x0 : Oracle := ext 148 (spSh sh148x0 (A148x0 N)) (T149x0 N)
theorem T148x0_ok : OracleOk Try.prog (T148x0 N) := FnOk.to (ok148x0 N) (T149x0_ok N)
noncomputable def rg147x0 : List (Nat × List Nat) := [(0, [0, 1]), (1, [0, 1]), (2, [7, 0, 1]), (3, [0, 7, 1]), (4, [0])]
noncomputable def hd147x0 : Hints := []
noncomputable def h147x0s0 (N : Nat) : Sg Try.prog 0 147 := .start hd147x0 rg147x0
noncomputable def F147x0 (v0 : LB) (k0 : Ty5 → Option R) : Option R :=
  bnd (V148x0 N v0) fun y0 =>
  bif (decide (y0 ≥ 0)) then
    bif ((decide (0 ≤ y0)) && (decide (y0 ≤ (v0.length : Int)))) then
      bif (((decide (0 ≤ (IntKind.wrap .i64 (y0 + 1)))) && (decide ((IntKind.wrap .i64 (y0 + 1)) ≤ (v0.length : Int)))) && (decide ((v0.length : Int) ≤ (v0.length : Int)))) then
        bnd ((v0.take (v0.length : Int).toNat).drop (IntKind.wrap .i64 (y0 + 1)).toNat) fun y1 =>
        k0 (((v0.take y0.toNat).drop 0), y1, true)
      else
        none
    else
      none
  else
    k0 (v0, ([] : List UInt8), false)
noncomputable def G147x0 (v0 : LB) : Option (Ty5) := F147x0 N v0 (fun p => some p)
theorem bind147x0 (v0 : LB) (k0 : Ty5 → Option R) : F147x0 N v0 k0 = (G147x0 N v0).bind k0 := by
  unfold G147x0 F147x0
  repeat' (first | with_reducible apply cond_b | (with_reducible apply bnd_b; intro _) | rfl)
noncomputable def sh147x0 : Sh := { tmps := [(0, .c (.s)), (1, .c (.ks [0]))], mem := [] }
noncomputable def A147x0 (L : List Lf) : List (Bool × Res) := bnd (F147x0 N (ls L 0) (fun p => some p)) fun q => [(q.isSome, ([.c (.s (q.getD default).1), .c (.s (q.getD default).2.1), .c (.b (q.getD default).2.2)], []))]
theorem raw147x0 (L : List Lf) : bd Try.prog (T148x0 N) (h147x0s0 N).h 147 sh147x0 L = F147x0 N (ls L 0) (fun p => some ([.c (.s p.1), .c (.s p.2.1), .c (.b p.2.2)], [])) := by kernel_rfl
theorem ok147x0 : FnOk Try.prog 147 sh147x0 (A147x0 N) :=
  (h147x0s0 N).fn progOk (T148x0_ok N) fun L x hx => ((raw147x0 N L).trans ((bind147x0 N ..).trans (alt1 x hx)))
noncomputable def T147x0 : Oracle := ext 147 (spSh sh147x0 (A147x0 N)) (T148x0 N)
theorem T147x0_ok : OracleOk Try.prog (T147x0 N) := FnOk.to (ok147x0 N) (T148x0_ok N)
noncomputable def rg144x0 : List (Nat × List Nat) := [(0, [0, 1]), (1, [0, 1])]
noncomputable def hd144x0 : Hints := []
noncomputable def h144x0s0 (N : Nat) : Sg Try.prog 0 144 := .start hd144x0 rg144x0
noncomputable def F144x0 (v0 : LB) (k0 : Ty5 → Option R) : Option R :=
  bnd (G147x0 N v0) fun y0 =>
  bif y0.isSome then
    k0 (y0.getD default)
  else
    none
noncomputable def G144x0 (v0 : LB) : Option (Ty5) := F144x0 N v0 (fun p => some p)
theorem bind144x0 (v0 : LB) (k0 : Ty5 → Option R) : F144x0 N v0 k0 = (G144x0 N v0).bind k0 := by
  unfold G144x0 F144x0
  repeat' (first | with_reducible apply cond_b | (with_reducible apply bnd_b; intro _) | rfl)
noncomputable def sh144x0 : Sh := { tmps := [(0, .c (.s)), (1, .c (.ks [0]))], mem := [] }
noncomputable def A144x0 (L : List Lf) : List (Bool × Res) := bnd (F144x0 N (ls L 0) (fun p => some p)) fun q => [(q.isSome, ([.c (.s (q.getD default).1), .c (.s (q.getD default).2.1), .c (.b (q.getD default).2.2)], []))]
theorem raw144x0 (L : List Lf) : bd Try.prog (T147x0 N) (h144x0s0 N).h 144 sh144x0 L = F144x0 N (ls L 0) (fun p => some ([.c (.s p.1), .c (.s p.2.1), .c (.b p.2.2)], [])) := by kernel_rfl
theorem ok144x0 : FnOk Try.prog 144 sh144x0 (A144x0 N) :=
  (h144x0s0 N).fn progOk (T147x0_ok N) fun L x hx => ((raw144x0 N L).trans ((bind144x0 N ..).trans (alt1 x hx)))
noncomputable def T144x0 : Oracle := ext 144 (spSh sh144x0 (A144x0 N)) (T147x0 N)
theorem T144x0_ok : OracleOk Try.prog (T144x0 N) := FnOk.to (ok144x0 N) (T147x0_ok N)
noncomputable def rg137x0 : List (Nat × List Nat) := [(0, [0, 1, 2]), (1, [3, 1, 6, 2]), (2, [1, 3, 7, 6, 2]), (3, [3, 8, 7, 6, 2]), (10, [28, 8, 7, 6, 2, 3]), (12, [28, 8, 7, 6, 2, 3]), (4, [8, 2, 7, 3, 6]), (5, [7, 3, 6]), (6, [7, 6, 3]), (8, [3, 7, 6]), (9, [7, 3, 6]), (7, [7, 6]), (13, [8, 7, 6]), (14, [7, 6]), (11, [8, 7, 6]), (15, [7, 6])]
noncomputable def hd137x0 : Hints := [(25, [3, 7, 6], [7, 6, 3], []), (29, [7, 3, 6, 60], [7, 6, 3], []), (24023, [7, 6, 3, 46], [7, 6, 3], []), (12041, [8, 7, 6, 2, 3, 75], [7, 6, 3], []), (36035, [8, 7, 6, 28, 2, 3, 70], [7, 6, 3], [])]
noncomputable def h137x0s0 (N : Nat) : Sg Try.prog 0 137 := .start hd137x0 rg137x0
noncomputable def F137x0x25 (w1 w2 w11 : Int) (k0 : Bool → Option R) : Option R :=
  bif (w2 == 1) then
    bnd (G124x0 N w1 true) fun y0 =>
    bif y0.isSome then
      k0 (decide (w11 > (y0.getD default)))
    else
      none
  else
    k0 false
noncomputable def G137x0x25 (w1 w2 w11 : Int) : Option (Bool) := F137x0x25 N w1 w2 w11 (fun p => some p)
theorem bind137x0x25 (w1 w2 w11 : Int) (k0 : Bool → Option R) : F137x0x25 N w1 w2 w11 k0 = (G137x0x25 N w1 w2 w11).bind k0 := by
  unfold G137x0x25 F137x0x25
  repeat' (first | with_reducible apply cond_b | (with_reducible apply bnd_b; intro _) | rfl)
noncomputable def sh137x0x25 : Sh := { tmps := [(3, .c (.p 3 0)), (6, .c (.p 6 0)), (7, .c (.p 7 0))], mem := [(3, .box ([.i .i64, .i .i64, .i .i64, .i .i64])), (6, .box ([.i .i64, .i .i64, .i .i64, .s, .b])), (7, .box ([.i .i64, .i .i64, .i .i64, .s, .b]))] }
noncomputable def K137x0x25w0 (L : List Lf) (p : Bool) : Ex × St := (.normal, mg (ofSh sh137x0x25 L) [3, 6, 7, 60] [(60, .c (.b p))] [3, 6, 7] [])
noncomputable def A137x0x25 (L : List Lf) : List (Bool × (Ex × St)) := bnd (F137x0x25 N (li L 1) (li L 2) (li L 11) (fun p => some p)) fun q => [(q.isSome, K137x0x25w0 L (q.getD default))]
theorem raw137x0x25 (L : List Lf) : pc Try.prog (T144x0 N) (h137x0s0 N).h 0 100 137 25 sh137x0x25 L [7, 3, 6, 60] [7, 6, 3] = F137x0x25 N (li L 1) (li L 2) (li L 11) (fun p => some (K137x0x25w0 L p)) := by kernel_rfl
noncomputable def h137x0s1 : Sg Try.prog 0 137 :=
  (h137x0s0 N).cut (A137x0x25 N) progOk (T144x0_ok N) fun L x hx => (raw137x0x25 N L).trans ((bind137x0x25 N ..).trans (alt1 x hx))
noncomputable def F137x0x29 (N : Nat) (w0 : Bool) (w2 w12 : Int) (k0 : Int → Option R) : Option R :=
  bif w0 then
    bif (decide (0 ≤ (IntKind.wrap .i64 (8 * w2)))) then
      bnd (IntKind.wrap .i64 (1 * 2 ^ (min (IntKind.wrap .i64 (8 * w2)).toNat 64))) fun y0 =>
      k0 (IntKind.wrap .i64 (w12 - y0))
    else
      none
  else
    k0 w12
noncomputable def G137x0x29 (w0 : Bool) (w2 w12 : Int) : Option (Int) := F137x0x29 N w0 w2 w12 (fun p => some p)
theorem bind137x0x29 (w0 : Bool) (w2 w12 : Int) (k0 : Int → Option R) : F137x0x29 N w0 w2 w12 k0 = (G137x0x29 N w0 w2 w12).bind k0 := by
  unfold G137x0x29 F137x0x29
  repeat' (first | with_reducible apply cond_b | (with_reducible apply bnd_b; intro _) | rfl)
noncomputable def sh137x0x29 : Sh := { tmps := [(3, .c (.p 3 0)), (6, .c (.p 6 0)), (7, .c (.p 7 0)), (60, .c (.b))], mem := [(3, .box ([.i .i64, .i .i64, .i .i64, .i .i64])), (6, .box ([.i .i64, .i .i64, .i .i64, .s, .b])), (7, .box ([.i .i64, .i .i64, .i .i64, .s, .b]))] }
noncomputable def K137x0x29w0 (L : List Lf) (p : Int) : Ex × St := (.normal, mg (ofSh sh137x0x29 L) [6, 7] [] [6, 7] [(7, .box [.i .i64 (li L 10), .i .i64 (li L 11), .i .i64 p, .s (ls L 13), .b (lb L 14)])])
noncomputable def A137x0x29 (L : List Lf) : List (Bool × (Ex × St)) := bnd (F137x0x29 N (lb L 0) (li L 2) (li L 12) (fun p => some p)) fun q => [(q.isSome, K137x0x29w0 L (q.getD default))]
theorem raw137x0x29 (L : List Lf) : pc Try.prog (T144x0 N) (h137x0s1 N).h 0 100 137 29 sh137x0x29 L [7, 6] [7, 6] = F137x0x29 N (lb L 0) (li L 2) (li L 12) (fun p => some (K137x0x29w0 L p)) := by kernel_rfl
noncomputable def h137x0s2 : Sg Try.prog 0 137 :=
  (h137x0s1 N).cut (A137x0x29 N) progOk (T144x0_ok N) fun L x hx => (raw137x0x29 N L).trans ((bind137x0x29 N ..).trans (alt1 x hx))
noncomputable def F137x0x24023 (w0 : Bool) (w2 w3 w12 : Int) (k0 : Int → Option R) : Option R :=
  bif w0 then
    k0 0
  else
    bnd (G137x0x25 N w2 w3 w12) fun y0 =>
    bif y0.isSome then
      bnd (G137x0x29 N (y0.getD default) w2 w12) fun y1 =>
      bif y1.isSome then
        k0 (y1.getD default)
      else
        none
    else
      none
noncomputable def G137x0x24023 (w0 : Bool) (w2 w3 w12 : Int) : Option (Int) := F137x0x24023 N w0 w2 w3 w12 (fun p => some p)
theorem bind137x0x24023 (w0 : Bool) (w2 w3 w12 : Int) (k0 : Int → Option R) : F137x0x24023 N w0 w2 w3 w12 k0 = (G137x0x24023 N w0 w2 w3 w12).bind k0 := by
  unfold G137x0x24023 F137x0x24023
  repeat' (first | with_reducible apply cond_b | (with_reducible apply bnd_b; intro _) | rfl)
noncomputable def J137x0x24023 (L : List Lf) (k0 : Int → Option R) : Option R := F137x0x24023 N (lb L 0) (li L 2) (li L 3) (li L 12) k0
noncomputable def sh137x0x24023 : Sh := { tmps := [(3, .c (.p 3 0)), (6, .c (.p 6 0)), (7, .c (.p 7 0)), (46, .c (.b))], mem := [(3, .box ([.i .i64, .i .i64, .i .i64, .i .i64])), (6, .box ([.i .i64, .i .i64, .i .i64, .s, .b])), (7, .box ([.i .i64, .i .i64, .i .i64, .s, .b]))] }
noncomputable def K137x0x24023w0 (L : List Lf) (p : Int) : Ex × St := (.normal, mg (ofSh sh137x0x24023 L) [6, 7] [] [6, 7] [(7, .box [.i .i64 (li L 10), .i .i64 (li L 11), .i .i64 p, .s (ls L 13), .b (lb L 14)])])
noncomputable def A137x0x24023 (L : List Lf) : List (Bool × (Ex × St)) := bnd (J137x0x24023 N L (fun p => some p)) fun q => [(q.isSome, K137x0x24023w0 L (q.getD default))]
theorem raw137x0x24023 (L : List Lf) : pc Try.prog (T144x0 N) (h137x0s2 N).h 0 100 137 24023 sh137x0x24023 L [7, 6] [7, 6] = J137x0x24023 N L (fun p => some (K137x0x24023w0 L p)) := by kernel_rfl
noncomputable def h137x0s3 : Sg Try.prog 0 137 :=
  (h137x0s2 N).cut (A137x0x24023 N) progOk (T144x0_ok N) fun L x hx => (raw137x0x24023 N L).trans ((bind137x0x24023 N ..).trans (alt1 x hx))
noncomputable def F137x0x12041 (w0 : Bool) (w2 : LD) (w3 : Bool) (w5 w6 w15 : Int) (w16 : LB) (k0 : Ty8 → Option R) : Option R :=
  bif w3 then
    bnd (G144x0 N (strD w2)) fun y0 =>
    bif y0.isSome then
      k0 (w15, (y0.getD default).1, ((y0.getD default).1 == ([] : List UInt8)))
    else
      none
  else
    bnd (G81x0 N w2 w0) fun y1 =>
    bif y1.isSome then
      bnd (G124x0 N w5 (w6 == 1)) fun y2 =>
      bif y2.isSome then
        bnd (G137x0x24023 N ((y1.getD default) == (y2.getD default)) w5 w6 (y1.getD default)) fun y3 =>
        bif y3.isSome then
          k0 ((y3.getD default), w16, ((y1.getD default) == (y2.getD default)))
        else
          none
      else
        none
    else
      none
noncomputable def G137x0x12041 (w0 : Bool) (w2 : LD) (w3 : Bool) (w5 w6 w15 : Int) (w16 : LB) : Option (Ty8) := F137x0x12041 N w0 w2 w3 w5 w6 w15 w16 (fun p => some p)
theorem bind137x0x12041 (w0 : Bool) (w2 : LD) (w3 : Bool) (w5 w6 w15 : Int) (w16 : LB) (k0 : Ty8 → Option R) : F137x0x12041 N w0 w2 w3 w5 w6 w15 w16 k0 = (G137x0x12041 N w0 w2 w3 w5 w6 w15 w16).bind k0 := by
  unfold G137x0x12041 F137x0x12041
  repeat' (first | with_reducible apply cond_b | (with_reducible apply bnd_b; intro _) | rfl)
noncomputable def J137x0x12041 (L : List Lf) (k0 : Ty8 → Option R) : Option R := F137x0x12041 N (lb L 0) (ll L 2) (lb L 3) (li L 5) (li L 6) (li L 15) (ls L 16) k0
noncomputable def sh137x0x12041 : Sh := { tmps := [(2, .c (.b)), (3, .c (.p 3 0)), (6, .c (.p 6 0)), (7, .c (.p 7 0)), (8, .c (.sl 5)), (75, .c (.b))], mem := [(3, .box ([.i .i64, .i .i64, .i .i64, .i .i64])), (6, .box ([.i .i64, .i .i64, .i .i64, .s, .b])), (7, .box ([.i .i64, .i .i64, .i .i64, .s, .b]))] }
noncomputable def K137x0x12041w0 (L : List Lf) (p : Ty8) : Ex × St := (.normal, mg (ofSh sh137x0x12041 L) [6, 7] [] [6, 7] [(7, .box [.i .i64 (li L 13), .i .i64 (li L 14), .i .i64 p.1, .s p.2.1, .b p.2.2])])
noncomputable def A137x0x12041 (L : List Lf) : List (Bool × (Ex × St)) := bnd (J137x0x12041 N L (fun p => some p)) fun q => [(q.isSome, K137x0x12041w0 L (q.getD default))]
theorem raw137x0x12041 (L : List Lf) : pc Try.prog (T144x0 N) (h137x0s3 N).h 0 100 137 12041 sh137x0x12041 L [7, 6] [7, 6] = J137x0x12041 N L (fun p => some (K137x0x12041w0 L p)) := by kernel_rfl
noncomputable def h137x0s4 : Sg Try.prog 0 137 :=
  (h137x0s3 N).cut (A137x0x12041 N) progOk (T144x0_ok N) fun L x hx => (raw137x0x12041 N L).trans ((bind137x0x12041 N ..).trans (alt1 x hx))
noncomputable def F137x0x36035 (w0 : Bool) (w2 : LD) (w3 : Int) (w4 : Bool) (w6 w7 w16 : Int) (w17 : LB) (w18 : Bool) (k0 : Ty8 → Option R) : Option R :=
  bif w4 then
    k0 (w16, (strD w2), w18)
  else
    bnd (G137x0x12041 N w0 w2 (w3 == 2) w6 w7 w16 w17) fun y0 =>
    bif y0.isSome then
      k0 (y0.getD default)
    else
      none
noncomputable def G137x0x36035 (w0 : Bool) (w2 : LD) (w3 : Int) (w4 : Bool) (w6 w7 w16 : Int) (w17 : LB) (w18 : Bool) : Option (Ty8) := F137x0x36035 N w0 w2 w3 w4 w6 w7 w16 w17 w18 (fun p => some p)
theorem bind137x0x36035 (w0 : Bool) (w2 : LD) (w3 : Int) (w4 : Bool) (w6 w7 w16 : Int) (w17 : LB) (w18 : Bool) (k0 : Ty8 → Option R) : F137x0x36035 N w0 w2 w3 w4 w6 w7 w16 w17 w18 k0 = (G137x0x36035 N w0 w2 w3 w4 w6 w7 w16 w17 w18).bind k0 := by
  unfold G137x0x36035 F137x0x36035
  repeat' (first | with_reducible apply cond_b | (with_reducible apply bnd_b; intro _) | rfl)
noncomputable def J137x0x36035 (L : List Lf) (k0 : Ty8 → Option R) : Option R := F137x0x36035 N (lb L 0) (ll L 2) (li L 3) (lb L 4) (li L 6) (li L 7) (li L 16) (ls L 17) (lb L 18) k0
noncomputable def sh137x0x36035 : Sh := { tmps := [(2, .c (.b)), (3, .c (.p 3 0)), (6, .c (.p 6 0)), (7, .c (.p 7 0)), (8, .c (.sl 5)), (28, .c (.i .i64)), (70, .c (.b))], mem := [(3, .box ([.i .i64, .i .i64, .i .i64, .i .i64])), (6, .box ([.i .i64, .i .i64, .i .i64, .s, .b])), (7, .box ([.i .i64, .i .i64, .i .i64, .s, .b]))] }
noncomputable def K137x0x36035w0 (L : List Lf) (p : Ty8) : Ex × St := (.normal, mg (ofSh sh137x0x36035 L) [6, 7] [] [6, 7] [(7, .box [.i .i64 (li L 14), .i .i64 (li L 15), .i .i64 p.1, .s p.2.1, .b p.2.2])])
noncomputable def A137x0x36035 (L : List Lf) : List (Bool × (Ex × St)) := bnd (J137x0x36035 N L (fun p => some p)) fun q => [(q.isSome, K137x0x36035w0 L (q.getD default))]
theorem raw137x0x36035 (L : List Lf) : pc Try.prog (T144x0 N) (h137x0s4 N).h 0 100 137 36035 sh137x0x36035 L [7, 6] [7, 6] = J137x0x36035 N L (fun p => some (K137x0x36035w0 L p)) := by kernel_rfl
noncomputable def h137x0s5 : Sg Try.prog 0 137 :=
  (h137x0s4 N).cut (A137x0x36035 N) progOk (T144x0_ok N) fun L x hx => (raw137x0x36035 N L).trans ((bind137x0x36035 N ..).trans (alt1 x hx))
noncomputable def F137x0 (v1 v2 v3 : Int) (v5 : LD) (v6 : Bool) (k0 : Ty8 → Option R) : Option R :=
  bif (((decide (0 ≤ v3)) && (decide (v3 ≤ (IntKind.wrap .i64 (v3 + v1))))) && (decide ((IntKind.wrap .i64 (v3 + v1)) ≤ (v5.length : Int)))) then
    bnd (((v5.take (IntKind.wrap .i64 (v3 + v1)).toNat).drop v3.toNat) : List D) fun y0 =>
    bnd (G137x0x36035 N v6 y0 v2 (v2 == 3) v1 v2 0 ([] : List UInt8) false) fun y1 =>
    bif y1.isSome then
      k0 (y1.getD default)
    else
      none
  else
    none
noncomputable def G137x0 (v1 v2 v3 : Int) (v5 : LD) (v6 : Bool) : Option (Ty8) := F137x0 N v1 v2 v3 v5 v6 (fun p => some p)
theorem bind137x0 (v1 v2 v3 : Int) (v5 : LD) (v6 : Bool) (k0 : Ty8 → Option R) : F137x0 N v1 v2 v3 v5 v6 k0 = (G137x0 N v1 v2 v3 v5 v6).bind k0 := by
  unfold G137x0 F137x0
  repeat' (first | with_reducible apply cond_b | (with_reducible apply bnd_b; intro _) | rfl)
noncomputable def J137x0 (L : List Lf) (k0 : Ty8 → Option R) : Option R := F137x0 N (li L 1) (li L 2) (li L 3) (ll L 5) (lb L 6) k0
noncomputable def sh137x0 : Sh := { tmps := [(0, .g ([.i .i64, .i .i64, .i .i64, .i .i64])), (1, .c (.sl 5)), (2, .c (.b))], mem := [] }
noncomputable def K137x0w0 (L : List Lf) (p : Ty8) : Res := ([.g [.i .i64 (li L 0), .i .i64 (li L 2), .i .i64 p.1, .s p.2.1, .b p.2.2]], [])
noncomputable def A137x0 (L : List Lf) : List (Bool × Res) := bnd (J137x0 N L (fun p => some p)) fun q => [(q.isSome, K137x0w0 L (q.getD default))]
theorem raw137x0 (L : List Lf) : bd Try.prog (T144x0 N) (h137x0s5 N).h 137 sh137x0 L = J137x0 N L (fun p => some (K137x0w0 L p)) := by kernel_rfl
theorem ok137x0 : FnOk Try.prog 137 sh137x0 (A137x0 N) :=
  (h137x0s5 N).fn progOk (T144x0_ok N) fun L x hx => ((raw137x0 N L).trans ((bind137x0 N ..).trans (alt1 x hx)))
noncomputable def T137x0 : Oracle := ext 137 (spSh sh137x0 (A137x0 N)) (T144x0 N)
theorem T137x0_ok : OracleOk Try.prog (T137x0 N) := FnOk.to (ok137x0 N) (T144x0_ok N)
noncomputable def rg94x0 : List (Nat × List Nat) := [(0, [0, 1]), (1, [2, 3]), (2, [2, 3, 5]), (3, [14, 13, 12, 5, 3, 2]), (4, [12, 14, 5, 3, 2, 13]), (5, [5, 7, 3, 2, 14, 13, 12]), (6, [14, 13, 12, 5, 3, 2]), (7, [5])]
noncomputable def hd94x0 : Hints := [(9, [14, 13, 12, 5, 3, 2], [3, 2, 5], [5])]
noncomputable def h94x0s0 (N : Nat) : Sg Try.prog 0 94 := .start hd94x0 rg94x0
noncomputable def S94x0x9 (w1 : LD) (w2 : Int) (w5 : Bool) (w17 : LD) (w3 : Int) (w18 : Bool) (w19 : LD) (kr : Int → Bool → LD → Option R) (k0 : Bool × LD → Option R) : Option R :=
  bif (decide (w3 < w2)) then
    bif (inB w3 w1.length) then
      bnd (G137x0 N ((w1.getD w3.toNat (.i 0)).cell 1).toI ((w1.getD w3.toNat (.i 0)).cell 2).toI ((w1.getD w3.toNat (.i 0)).cell 3).toI w17 w5) fun y0 =>
      bif y0.isSome then
        bif (decide ((w19.length + 1) * 48 ≤ room) && decide ((w19.length + 1) ≤ strMax)) then
          bnd ((w19 ++ [(.a [(.i ((w1.getD w3.toNat (.i 0)).cell 0).toI), (.i ((w1.getD w3.toNat (.i 0)).cell 2).toI), (.i (y0.getD default).1), (.s (y0.getD default).2.1), (.b (y0.getD default).2.2)])]) : List D) fun y1 =>
          kr (IntKind.wrap .i64 (w3 + 1)) false y1
        else
          none
      else
        none
    else
      none
  else
    k0 (w18, w19)
noncomputable def L94x0x9 (N : Nat) {R : Type} (w1 : LD) (w2 : Int) (w5 : Bool) (w17 : LD) : Nat → Int → Bool → LD → (Bool × LD → Option R) → Option R
  | 0, _, _, _, _ => none
  | m + 1, w3, w18, w19, k0 => S94x0x9 N w1 w2 w5 w17 w3 w18 w19 (fun w3 w18 w19 => L94x0x9 N w1 w2 w5 w17 m w3 w18 w19 k0) k0
noncomputable def G94x0x9 (w1 : LD) (w2 : Int) (w5 : Bool) (w17 : LD) (w3 : Int) (w18 : Bool) (w19 : LD) : Option (Bool × LD) := L94x0x9 N (R := (Bool × LD)) w1 w2 w5 w17 N w3 w18 w19 (fun p => some p)
noncomputable def J94x0x9 (L x : List Lf) (kr : List Lf → Option R) (k0 : Bool × LD → Option R) : Option R := S94x0x9 N (ll L 1) (li L 2) (lb L 5) (ll L 17) (li x 0) (lb x 1) (ll x 2) (fun w3 w18 w19 => kr [.i w3, .b w18, .l w19]) k0
theorem sb94x0x9 (L x : List Lf) (kr : List Lf → Option R) (k0 : Bool × LD → Option R) : J94x0x9 N L x kr k0 = (J94x0x9 N L x (fun y => some (.inl y)) (fun p => some (.inr p))).bind (sumE kr k0) := by
  unfold J94x0x9 S94x0x9
  repeat' (first | with_reducible apply cond_b | (with_reducible apply bnd_b; intro _) | rfl)
noncomputable def Q94x0x9 (L : List Lf) (m : Nat) (x : List Lf) : Option (Bool × LD) := L94x0x9 N (R := (Bool × LD)) (ll L 1) (li L 2) (lb L 5) (ll L 17) m (li x 0) (lb x 1) (ll x 2) (fun p => some p)
noncomputable def sh94x0x9 : Sh := { tmps := [(2, .c (.p 2 0)), (3, .c (.p 3 0)), (5, .c (.o 5)), (12, .c (.sl 148)), (13, .c (.i .i64)), (14, .c (.i .i64))], mem := [(2, .box (.b :: [.b, .i .i64, .sl 146, .i .i64, .i .i64])), (3, .box ([.i .i64, .i .i64, .i .i64, .sl 103, .sl 5])), (5, .row 65 true)] }
noncomputable def A94x0x9 (L : List Lf) : List (Bool × (Ex × St)) := bnd (Q94x0x9 N L N (pk sh94x0x9 [3, 18, 19] L)) fun q => [(q.isSome, ((.exit 0), ⟨[(5, .c (.o 5))], [(5, .row 65 true (q.getD default).1 (q.getD default).2)]⟩))]
theorem step94x0x9 (m : Nat) (kn : St → Option (Ex × St)) (L x : List Lf) : lpB Try.prog (T137x0 N) (h94x0s0 N).h 0 94 9 sh94x0x9 [3, 18, 19] [4, 5] [5] (m + 100) kn L x = J94x0x9 N L x (fun y => kn (ofSh sh94x0x9 (mx sh94x0x9 [3, 18, 19] L y))) (fun p => some ((.exit 0), ⟨[(5, .c (.o 5))], [(5, .row 65 true p.1 p.2)]⟩)) := by kernel_rfl
theorem ql94x0x9 (L : List Lf) (m : Nat) (x : List Lf) : Q94x0x9 N L (m + 1) x = J94x0x9 N L x (Q94x0x9 N L m) some := by kernel_rfl
noncomputable def h94x0s1 : Sg Try.prog 0 94 :=
  (h94x0s0 N).lp (A94x0x9 N) N progOk (T137x0_ok N) (fun m kn L x => (step94x0x9 N m kn L x).trans (sb94x0x9 N L x _ _)) (fun L m x => (ql94x0x9 N L m x).trans (sb94x0x9 N L x (Q94x0x9 N L m) some)) fun L x hx => alt1 x hx
noncomputable def F94x0 (v1 : Bool) (v4 : LD) (v6 v7 : Int) (v13 : LD) (k0 : Bool × LD → Option R) : Option R :=
  bnd (G96x0 N v4 v6 (v7 == 3)) fun y0 =>
  bif y0.isSome then
    bnd (G94x0x9 N (y0.getD default).2 ((y0.getD default).2.length : Int) v1 v13 0 true []) fun y1 =>
    bif y1.isSome then
      k0 (y1.getD default)
    else
      none
  else
    none
noncomputable def G94x0 (v1 : Bool) (v4 : LD) (v6 v7 : Int) (v13 : LD) : Option (Bool × LD) := F94x0 N v1 v4 v6 v7 v13 (fun p => some p)
theorem bind94x0 (v1 : Bool) (v4 : LD) (v6 v7 : Int) (v13 : LD) (k0 : Bool × LD → Option R) : F94x0 N v1 v4 v6 v7 v13 k0 = (G94x0 N v1 v4 v6 v7 v13).bind k0 := by
  unfold G94x0 F94x0
  repeat' (first | with_reducible apply cond_b | (with_reducible apply bnd_b; intro _) | rfl)
noncomputable def J94x0 (L : List Lf) (k0 : Bool × LD → Option R) : Option R := F94x0 N (lb L 1) (ll L 4) (li L 6) (li L 7) (ll L 13) k0
noncomputable def sh94x0 : Sh := { tmps := [(0, .g (.b :: [.b, .i .i64, .sl 146, .i .i64, .i .i64])), (1, .g ([.i .i64, .i .i64, .i .i64, .sl 103, .sl 5]))], mem := [] }
noncomputable def A94x0 (L : List Lf) : List (Bool × Res) := bnd (J94x0 N L (fun p => some p)) fun q => [(q.isSome, ([.c (.sl 65 (q.getD default).1 (q.getD default).2)], []))]
theorem raw94x0 (L : List Lf) : bd Try.prog (T137x0 N) (h94x0s1 N).h 94 sh94x0 L = J94x0 N L (fun p => some ([.c (.sl 65 p.1 p.2)], [])) := by kernel_rfl
theorem ok94x0 : FnOk Try.prog 94 sh94x0 (A94x0 N) :=
  (h94x0s1 N).fn progOk (T137x0_ok N) fun L x hx => ((raw94x0 N L).trans ((bind94x0 N ..).trans (alt1 x hx)))
noncomputable def T94x0 : Oracle := ext 94 (spSh sh94x0 (A94x0 N)) (T137x0 N)
theorem T94x0_ok : OracleOk Try.prog (T94x0 N) := FnOk.to (ok94x0 N) (T137x0_ok N)
noncomputable def rg85x0 : List (Nat × List Nat) := [(0, [0]), (1, [1]), (2, [1, 3]), (3, [1, 4, 3]), (4, [13, 12, 11, 4, 3]), (5, [11, 13, 4, 3, 12]), (6, [4, 6, 3, 13, 12, 11]), (7, [4, 6, 3, 7, 13, 12, 11]), (8, [6, 3, 8, 7, 13, 12, 11, 4]), (9, [3, 8, 7, 6, 13, 12, 11, 4]), (10, [13, 12, 11, 4, 3]), (11, [3])]
noncomputable def hd85x0 : Hints := [(12, [13, 12, 11, 4, 3], [10000000002, 3], [3]), (29, [3, 8, 7, 6, 13, 12, 11, 4, 29], [8, 6, 10000000002, 3], [])]
noncomputable def h85x0s0 (N : Nat) : Sg Try.prog 0 85 := .start hd85x0 rg85x0
noncomputable def F85x0x29 (w0 : Int) (w5 : Bool) (w7 : LD) (w8 : Int) (w14 : LD) (w16 : Bool) (w17 : Int) (w19 : LD) (w21 : Int) (k0 : LD → Option R) (k1 : Unit → Option R) : Option R :=
  bif w5 then
    bnd (G94x0 N w16 w19 w21 w8 w14) fun y0 =>
    bif y0.isSome then
      bif (decide ((w7.length + 1) * 40 ≤ room) && decide ((w7.length + 1) ≤ strMax)) then
        bnd ((w7 ++ [(.a [(.i w17), (.i w0), (.l (y0.getD default).1 (y0.getD default).2)])]) : List D) fun y1 =>
        k0 y1
      else
        none
    else
      none
  else
    k1 ()
noncomputable def G85x0x29 (w0 : Int) (w5 : Bool) (w7 : LD) (w8 : Int) (w14 : LD) (w16 : Bool) (w17 : Int) (w19 : LD) (w21 : Int) : Option (Sum (LD) (Unit)) := F85x0x29 N w0 w5 w7 w8 w14 w16 w17 w19 w21 (fun p => some (.inl p)) (fun p => some (.inr p))
theorem bind85x0x29 (w0 : Int) (w5 : Bool) (w7 : LD) (w8 : Int) (w14 : LD) (w16 : Bool) (w17 : Int) (w19 : LD) (w21 : Int) (k0 : LD → Option R) (k1 : Unit → Option R) : F85x0x29 N w0 w5 w7 w8 w14 w16 w17 w19 w21 k0 k1 = (G85x0x29 N w0 w5 w7 w8 w14 w16 w17 w19 w21).bind (sumE k0 k1) := by
  unfold G85x0x29 F85x0x29
  repeat' (first | with_reducible apply cond_b | (with_reducible apply bnd_b; intro _) | rfl)
noncomputable def J85x0x29 (L : List Lf) (k0 : LD → Option R) (k1 : Unit → Option R) : Option R := F85x0x29 N (li L 0) (lb L 5) (ll L 7) (li L 8) (ll L 14) (lb L 16) (li L 17) (ll L 19) (li L 21) k0 k1
noncomputable def sh85x0x29 : Sh := { tmps := [(3, .c (.o 3)), (4, .c (.p 10000000002 0)), (6, .c (.p 6 0)), (7, .c (.i .i64)), (8, .c (.p 8 0)), (11, .c (.sl 53)), (12, .c (.i .i64)), (13, .c (.i .i64)), (29, .c (.b))], mem := [(3, .row 129 true), (6, .box ([.i .i64, .i .i64, .i .i64, .sl 103, .sl 5])), (8, .box (.b :: [.b, .i .i64, .sl 146, .i .i64, .i .i64])), (10000000002, .dat 116)] }
noncomputable def K85x0x29w0 (L : List Lf) (p : LD) : Ex × St := (.normal, mg (ofSh sh85x0x29 L) [3, 4, 11, 12, 13] [(3, .c (.o 40))] [40, 10000000002] [(40, .row 129 true false p)])
noncomputable def K85x0x29w1 (L : List Lf) (_ : Unit) : Ex × St := (.normal, mg (ofSh sh85x0x29 L) [3, 4, 11, 12, 13] [] [3, 10000000002] [])
noncomputable def A85x0x29 (L : List Lf) : List (Bool × (Ex × St)) := bnd (J85x0x29 N L (fun p => some (.inl p)) (fun p => some (.inr p))) fun q => [((inlB q), K85x0x29w0 L (inlV q)), ((inrQ q).isSome, K85x0x29w1 L ())]
theorem raw85x0x29 (L : List Lf) : pc Try.prog (T94x0 N) (h85x0s0 N).h 0 100 85 29 sh85x0x29 L [13, 12, 11, 4, 3] [10000000002, 40, 3] = J85x0x29 N L (fun p => some (K85x0x29w0 L p)) (fun _ => some (K85x0x29w1 L ())) := by kernel_rfl
noncomputable def h85x0s1 : Sg Try.prog 0 85 :=
  (h85x0s0 N).cut (A85x0x29 N) progOk (T94x0_ok N) fun L x hx => (raw85x0x29 N L).trans ((bind85x0x29 N ..).trans ((altS alt1) x hx))
noncomputable def S85x0x12 (w1 : LD) (w2 : Int) (w3 : Int) (w4 : Bool) (w5 : LD) (w6 : D) (kr : Int → Bool → LD → D → Option R) (k0 : Bool × LD → Option R) : Option R :=
  bif (decide (w3 < w2)) then
    bif (inB w3 w1.length) then
      bnd (G72x0 N ((w1.getD w3.toNat (.i 0)).cell 0).toI ((w1.getD w3.toNat (.i 0)).cell 1).toI ((w1.getD w3.toNat (.i 0)).cell 2).toI ((w1.getD w3.toNat (.i 0)).cell 3).items ((w1.getD w3.toNat (.i 0)).cell 4).items w6) fun y0 =>
      bif y0.isSome then
        bif (inB ((w1.getD w3.toNat (.i 0)).cell 1).toI 16) then
          bnd ((y0.getD default).2.cell (0 + (((w1.getD w3.toNat (.i 0)).cell 1).toI.toNat * 6))).toB fun y1 =>
          bnd ((y0.getD default).2.cell (1 + (((w1.getD w3.toNat (.i 0)).cell 1).toI.toNat * 6))).toB fun y2 =>
          bnd ((y0.getD default).2.cell (2 + (((w1.getD w3.toNat (.i 0)).cell 1).toI.toNat * 6))).toI fun y3 =>
          bnd ((y0.getD default).2.cell (3 + (((w1.getD w3.toNat (.i 0)).cell 1).toI.toNat * 6))).isNil fun y4 =>
          bnd (((y0.getD default).2.cell (3 + (((w1.getD w3.toNat (.i 0)).cell 1).toI.toNat * 6))).items : List D) fun y5 =>
          bnd ((y0.getD default).2.cell (4 + (((w1.getD w3.toNat (.i 0)).cell 1).toI.toNat * 6))).toI fun y6 =>
          bnd ((y0.getD default).2.cell (5 + (((w1.getD w3.toNat (.i 0)).cell 1).toI.toNat * 6))).toI fun y7 =>
          bnd (G85x0x29 N (y0.getD default).1 (((w1.getD w3.toNat (.i 0)).cell 0).toI != 1) w5 ((w1.getD w3.toNat (.i 0)).cell 0).toI ((w1.getD w3.toNat (.i 0)).cell 4).items y2 y3 y5 y7) fun y8 =>
          bif (inlB y8) then
            kr (IntKind.wrap .i64 (w3 + 1)) false (inlV y8) (y0.getD default).2
          else
            bif (inrQ y8).isSome then
              kr (IntKind.wrap .i64 (w3 + 1)) w4 w5 (y0.getD default).2
            else
              none
        else
          none
      else
        none
    else
      none
  else
    k0 (w4, w5)
noncomputable def L85x0x12 (N : Nat) {R : Type} (w1 : LD) (w2 : Int) : Nat → Int → Bool → LD → D → (Bool × LD → Option R) → Option R
  | 0, _, _, _, _, _ => none
  | m + 1, w3, w4, w5, w6, k0 => S85x0x12 N w1 w2 w3 w4 w5 w6 (fun w3 w4 w5 w6 => L85x0x12 N w1 w2 m w3 w4 w5 w6 k0) k0
noncomputable def G85x0x12 (w1 : LD) (w2 : Int) (w3 : Int) (w4 : Bool) (w5 : LD) (w6 : D) : Option (Bool × LD) := L85x0x12 N (R := (Bool × LD)) w1 w2 N w3 w4 w5 w6 (fun p => some p)
noncomputable def J85x0x12 (L x : List Lf) (kr : List Lf → Option R) (k0 : Bool × LD → Option R) : Option R := S85x0x12 N (ll L 1) (li L 2) (li x 0) (lb x 1) (ll x 2) (ld x 3) (fun w3 w4 w5 w6 => kr [.i w3, .b w4, .l w5, .d w6]) k0
theorem sb85x0x12 (L x : List Lf) (kr : List Lf → Option R) (k0 : Bool × LD → Option R) : J85x0x12 N L x kr k0 = (J85x0x12 N L x (fun y => some (.inl y)) (fun p => some (.inr p))).bind (sumE kr k0) := by
  unfold J85x0x12 S85x0x12
  repeat' (first | with_reducible apply cond_b | (with_reducible apply bnd_b; intro _) | rfl)
noncomputable def Q85x0x12 (L : List Lf) (m : Nat) (x : List Lf) : Option (Bool × LD) := L85x0x12 N (R := (Bool × LD)) (ll L 1) (li L 2) m (li x 0) (lb x 1) (ll x 2) (ld x 3) (fun p => some p)
noncomputable def sh85x0x12 : Sh := { tmps := [(3, .c (.o 3)), (4, .c (.p 10000000002 0)), (11, .c (.sl 53)), (12, .c (.i .i64)), (13, .c (.i .i64))], mem := [(3, .row 129 true), (10000000002, .dat 116)] }
noncomputable def K85x0x12w0 (L : List Lf) (p : Bool × LD) : Ex × St := ((.exit 0), ⟨[(3, .c (.o 3))], [(3, .row 129 true p.1 p.2)]⟩)
noncomputable def A85x0x12 (L : List Lf) : List (Bool × (Ex × St)) := bnd (Q85x0x12 N L N (pk sh85x0x12 [3, 4, 5, 6] L)) fun q => [(q.isSome, K85x0x12w0 L (q.getD default))]
theorem step85x0x12 (m : Nat) (kn : St → Option (Ex × St)) (L x : List Lf) : lpB Try.prog (T94x0 N) (h85x0s1 N).h 0 85 12 sh85x0x12 [3, 4, 5, 6] [2, 3] [3] (m + 100) kn L x = J85x0x12 N L x (fun y => kn (ofSh sh85x0x12 (mx sh85x0x12 [3, 4, 5, 6] L y))) (fun p => some (K85x0x12w0 L p)) := by kernel_rfl
theorem ql85x0x12 (L : List Lf) (m : Nat) (x : List Lf) : Q85x0x12 N L (m + 1) x = J85x0x12 N L x (Q85x0x12 N L m) some := by kernel_rfl
noncomputable def h85x0s2 : Sg Try.prog 0 85 :=
  (h85x0s1 N).lp (A85x0x12 N) N progOk (T94x0_ok N) (fun m kn L x => (step85x0x12 N m kn L x).trans (sb85x0x12 N L x _ _)) (fun L m x => (ql85x0x12 N L m x).trans (sb85x0x12 N L x (Q85x0x12 N L m) some)) fun L x hx => alt1 x hx
noncomputable def F85x0 (v1 : LD) (k0 : Bool × LD → Option R) : Option R :=
  bnd (V70x0 N) fun y0 =>
  bnd (G85x0x12 N v1 (v1.length : Int) 0 true [] y0) fun y1 =>
  bif y1.isSome then
    k0 (y1.getD default)
  else
    none
noncomputable def G85x0 (v1 : LD) : Option (Bool × LD) := F85x0 N v1 (fun p => some p)
theorem bind85x0 (v1 : LD) (k0 : Bool × LD → Option R) : F85x0 N v1 k0 = (G85x0 N v1).bind k0 := by
  unfold G85x0 F85x0
  repeat' (first | with_reducible apply cond_b | (with_reducible apply bnd_b; intro _) | rfl)
noncomputable def sh85x0 : Sh := { tmps := [(0, .g ([.sl 53]))], mem := [] }
noncomputable def A85x0 (L : List Lf) : List (Bool × Res) := bnd (F85x0 N (ll L 1) (fun p => some p)) fun q => [(q.isSome, ([.c (.sl 129 (q.getD default).1 (q.getD default).2)], []))]
theorem raw85x0 (L : List Lf) : bd Try.prog (T94x0 N) (h85x0s2 N).h 85 sh85x0 L = F85x0 N (ll L 1) (fun p => some ([.c (.sl 129 p.1 p.2)], [])) := by kernel_rfl
theorem ok85x0 : FnOk Try.prog 85 sh85x0 (A85x0 N) :=
  (h85x0s2 N).fn progOk (T94x0_ok N) fun L x hx => ((raw85x0 N L).trans ((bind85x0 N ..).trans (alt1 x hx)))
noncomputable def T85x0 : Oracle := ext 85 (spSh sh85x0 (A85x0 N)) (T94x0 N)
theorem T85x0_ok : OracleOk Try.prog (T85x0 N) := FnOk.to (ok85x0 N) (T94x0_ok N)
noncomputable def rg86x0 : List (Nat × List Nat) := [(0, [0, 1]), (1, [2, 1]), (2, [10, 9, 8, 1]), (3, [8, 10, 1, 9]), (4, [6, 1, 10, 9, 8]), (5, [6]), (6, [10, 9, 8, 1]), (7, [])]
noncomputable def hd86x0 : Hints := [(6, [10, 9, 8, 1], [], [])]
noncomputable def h86x0s0 (N : Nat) : Sg Try.prog 0 86 := .start hd86x0 rg86x0
noncomputable def S86x0x6 (N : Nat) (w0 : Int) (w2 : LD) (w3 : Int) (w4 : Int) (kr : Int → Option R) (k0 : LB → Option R) (k1 : Unit → Option R) : Option R :=
  bif (decide (w4 < w3)) then
    bif (inB w4 w2.length) then
      bnd (bif (((w2.getD w4.toNat (.i 0)).cell 0).toI == w0) then (((w2.getD w4.toNat (.i 0)).cell 1).toI == 2) else false) fun y0 =>
      bif y0 then
        k0 ((w2.getD w4.toNat (.i 0)).cell 3).toS
      else
        kr (IntKind.wrap .i64 (w4 + 1))
    else
      none
  else
    k1 ()
noncomputable def L86x0x6 (N : Nat) {R : Type} (w0 : Int) (w2 : LD) (w3 : Int) : Nat → Int → (LB → Option R) → (Unit → Option R) → Option R
  | 0, _, _, _ => none
  | m + 1, w4, k0, k1 => S86x0x6 N w0 w2 w3 w4 (fun w4 => L86x0x6 N w0 w2 w3 m w4 k0 k1) k0 k1
noncomputable def G86x0x6 (w0 : Int) (w2 : LD) (w3 : Int) (w4 : Int) : Option (Sum (LB) (Unit)) := L86x0x6 N (R := (Sum (LB) (Unit))) w0 w2 w3 N w4 (fun p => some (.inl p)) (fun p => some (.inr p))
noncomputable def J86x0x6 (L x : List Lf) (kr : List Lf → Option R) (k0 : LB → Option R) (k1 : Unit → Option R) : Option R := S86x0x6 N (li L 0) (ll L 2) (li L 3) (li x 0) (fun w4 => kr [.i w4]) k0 k1
theorem sb86x0x6 (L x : List Lf) (kr : List Lf → Option R) (k0 : LB → Option R) (k1 : Unit → Option R) : J86x0x6 N L x kr k0 k1 = (J86x0x6 N L x (fun y => some (.inl y)) (fun p => some (.inr (.inl p))) (fun p => some (.inr (.inr p)))).bind (sumE kr (sumE k0 k1)) := by
  unfold J86x0x6 S86x0x6
  repeat' (first | with_reducible apply cond_b | (with_reducible apply bnd_b; intro _) | rfl)
noncomputable def Q86x0x6 (L : List Lf) (m : Nat) (x : List Lf) : Option (Sum (LB) (Unit)) := L86x0x6 N (R := (Sum (LB) (Unit))) (li L 0) (ll L 2) (li L 3) m (li x 0) (fun p => some (.inl p)) (fun p => some (.inr p))
noncomputable def sh86x0x6 : Sh := { tmps := [(1, .c (.i .i64)), (8, .c (.sl 65)), (9, .c (.i .i64)), (10, .c (.i .i64))], mem := [] }
noncomputable def A86x0x6 (L : List Lf) : List (Bool × (Ex × St)) := bnd (Q86x0x6 N L N (pk sh86x0x6 [4] L)) fun q => [((inlB q), (.ret, ⟨[(4, .c (.s (inlV q)))], []⟩)), ((inrQ q).isSome, ((.exit 0), ⟨[], []⟩))]
theorem step86x0x6 (m : Nat) (kn : St → Option (Ex × St)) (L x : List Lf) : lpB Try.prog (T85x0 N) (h86x0s0 N).h 0 86 6 sh86x0x6 [4] [4] [] (m + 100) kn L x = J86x0x6 N L x (fun y => kn (ofSh sh86x0x6 (mx sh86x0x6 [4] L y))) (fun p => some (.ret, ⟨[(4, .c (.s p))], []⟩)) (fun _ => some ((.exit 0), ⟨[], []⟩)) := by kernel_rfl
theorem ql86x0x6 (L : List Lf) (m : Nat) (x : List Lf) : Q86x0x6 N L (m + 1) x = J86x0x6 N L x (Q86x0x6 N L m) (fun p => some (.inl p)) (fun p => some (.inr p)) := by kernel_rfl
noncomputable def h86x0s1 : Sg Try.prog 0 86 :=
  (h86x0s0 N).lp (A86x0x6 N) N progOk (T85x0_ok N) (fun m kn L x => (step86x0x6 N m kn L x).trans (sb86x0x6 N L x _ _ _)) (fun L m x => (ql86x0x6 N L m x).trans (sb86x0x6 N L x (Q86x0x6 N L m) (fun p => some (.inl p)) (fun p => some (.inr p)))) fun L x hx => (altS alt1) x hx
noncomputable def F86x0 (v3 : LD) (v4 : Int) (k0 : LB → Option R) : Option R :=
  bnd (G86x0x6 N v4 v3 (v3.length : Int) 0) fun y0 =>
  bif (inlB y0) then
    k0 (inlV y0)
  else
    bif (inrQ y0).isSome then
      k0 ([] : List UInt8)
    else
      none
noncomputable def G86x0 (v3 : LD) (v4 : Int) : Option (LB) := F86x0 N v3 v4 (fun p => some p)
theorem bind86x0 (v3 : LD) (v4 : Int) (k0 : LB → Option R) : F86x0 N v3 v4 k0 = (G86x0 N v3 v4).bind k0 := by
  unfold G86x0 F86x0
  repeat' (first | with_reducible apply cond_b | (with_reducible apply bnd_b; intro _) | rfl)
noncomputable def sh86x0 : Sh := { tmps := [(0, .g ([.i .i64, .i .i64, .sl 65])), (1, .c (.i .i64))], mem := [] }
noncomputable def A86x0 (L : List Lf) : List (Bool × Res) := bnd (F86x0 N (ll L 3) (li L 4) (fun p => some p)) fun q => [(q.isSome, ([.c (.s (q.getD default))], []))]
theorem raw86x0 (L : List Lf) : bd Try.prog (T85x0 N) (h86x0s1 N).h 86 sh86x0 L = F86x0 N (ll L 3) (li L 4) (fun p => some ([.c (.s p)], [])) := by kernel_rfl
theorem ok86x0 : FnOk Try.prog 86 sh86x0 (A86x0 N) :=
  (h86x0s1 N).fn progOk (T85x0_ok N) fun L x hx => ((raw86x0 N L).trans ((bind86x0 N ..).trans (alt1 x hx)))
noncomputable def T86x0 : Oracle := ext 86 (spSh sh86x0 (A86x0 N)) (T85x0 N)
theorem T86x0_ok : OracleOk Try.prog (T86x0 N) := FnOk.to (ok86x0 N) (T85x0_ok N)
noncomputable def rg87x0 : List (Nat × List Nat) := [(0, [0, 1, 2]), (1, [3, 1, 2]), (2, [13, 12, 11, 1, 2]), (3, [11, 13, 1, 2, 12]), (4, [9, 1, 2, 13, 12, 11]), (5, [9]), (6, [13, 12, 11, 1, 2]), (7, [])]
noncomputable def hd87x0 : Hints := [(6, [13, 12, 11, 1, 2], [], [])]
noncomputable def h87x0s0 (N : Nat) : Sg Try.prog 0 87 := .start hd87x0 rg87x0
noncomputable def S87x0x6 (N : Nat) (w0 w1 : Int) (w3 : LD) (w4 : Int) (w5 : Int) (kr : Int → Option R) (k0 : Int → Option R) (k1 : Unit → Option R) : Option R :=
  bif (decide (w5 < w4)) then
    bif (inB w5 w3.length) then
      bnd (bif (((w3.getD w5.toNat (.i 0)).cell 0).toI == w0) then (((w3.getD w5.toNat (.i 0)).cell 1).toI == w1) else false) fun y0 =>
      bnd (bif y0 then (!((w3.getD w5.toNat (.i 0)).cell 4).toB) else false) fun y1 =>
      bif y1 then
        k0 ((w3.getD w5.toNat (.i 0)).cell 2).toI
      else
        kr (IntKind.wrap .i64 (w5 + 1))
    else
      none
  else
    k1 ()
noncomputable def L87x0x6 (N : Nat) {R : Type} (w0 w1 : Int) (w3 : LD) (w4 : Int) : Nat → Int → (Int → Option R) → (Unit → Option R) → Option R
  | 0, _, _, _ => none
  | m + 1, w5, k0, k1 => S87x0x6 N w0 w1 w3 w4 w5 (fun w5 => L87x0x6 N w0 w1 w3 w4 m w5 k0 k1) k0 k1
noncomputable def G87x0x6 (w0 w1 : Int) (w3 : LD) (w4 : Int) (w5 : Int) : Option (Sum (Int) (Unit)) := L87x0x6 N (R := (Sum (Int) (Unit))) w0 w1 w3 w4 N w5 (fun p => some (.inl p)) (fun p => some (.inr p))
noncomputable def J87x0x6 (L x : List Lf) (kr : List Lf → Option R) (k0 : Int → Option R) (k1 : Unit → Option R) : Option R := S87x0x6 N (li L 0) (li L 1) (ll L 3) (li L 4) (li x 0) (fun w5 => kr [.i w5]) k0 k1
theorem sb87x0x6 (L x : List Lf) (kr : List Lf → Option R) (k0 : Int → Option R) (k1 : Unit → Option R) : J87x0x6 N L x kr k0 k1 = (J87x0x6 N L x (fun y => some (.inl y)) (fun p => some (.inr (.inl p))) (fun p => some (.inr (.inr p)))).bind (sumE kr (sumE k0 k1)) := by
  unfold J87x0x6 S87x0x6
  repeat' (first | with_reducible apply cond_b | (with_reducible apply bnd_b; intro _) | rfl)
noncomputable def Q87x0x6 (L : List Lf) (m : Nat) (x : List Lf) : Option (Sum (Int) (Unit)) := L87x0x6 N (R := (Sum (Int) (Unit))) (li L 0) (li L 1) (ll L 3) (li L 4) m (li x 0) (fun p => some (.inl p)) (fun p => some (.inr p))
noncomputable def sh87x0x6 : Sh := { tmps := [(1, .c (.i .i64)), (2, .c (.i .i64)), (11, .c (.sl 65)), (12, .c (.i .i64)), (13, .c (.i .i64))], mem := [] }
noncomputable def A87x0x6 (L : List Lf) : List (Bool × (Ex × St)) := bnd (Q87x0x6 N L N (pk sh87x0x6 [5] L)) fun q => [((inlB q), (.ret, ⟨[(6, .c (.i .i64 (inlV q))), (7, .c (.b true))], []⟩)), ((inrQ q).isSome, ((.exit 0), ⟨[], []⟩))]
theorem step87x0x6 (m : Nat) (kn : St → Option (Ex × St)) (L x : List Lf) : lpB Try.prog (T86x0 N) (h87x0s0 N).h 0 87 6 sh87x0x6 [5] [6, 7] [] (m + 100) kn L x = J87x0x6 N L x (fun y => kn (ofSh sh87x0x6 (mx sh87x0x6 [5] L y))) (fun p => some (.ret, ⟨[(6, .c (.i .i64 p)), (7, .c (.b true))], []⟩)) (fun _ => some ((.exit 0), ⟨[], []⟩)) := by kernel_rfl
theorem ql87x0x6 (L : List Lf) (m : Nat) (x : List Lf) : Q87x0x6 N L (m + 1) x = J87x0x6 N L x (Q87x0x6 N L m) (fun p => some (.inl p)) (fun p => some (.inr p)) := by kernel_rfl
noncomputable def h87x0s1 : Sg Try.prog 0 87 :=
  (h87x0s0 N).lp (A87x0x6 N) N progOk (T86x0_ok N) (fun m kn L x => (step87x0x6 N m kn L x).trans (sb87x0x6 N L x _ _ _)) (fun L m x => (ql87x0x6 N L m x).trans (sb87x0x6 N L x (Q87x0x6 N L m) (fun p => some (.inl p)) (fun p => some (.inr p)))) fun L x hx => (altS alt1) x hx
noncomputable def F87x0 (v3 : LD) (v4 v5 : Int) (k0 : Int × Bool → Option R) : Option R :=
  bnd (G87x0x6 N v4 v5 v3 (v3.length : Int) 0) fun y0 =>
  bif (inlB y0) then
    k0 ((inlV y0), true)
  else
    bif (inrQ y0).isSome then
      k0 (0, false)
    else
      none
noncomputable def G87x0 (v3 : LD) (v4 v5 : Int) : Option (Int × Bool) := F87x0 N v3 v4 v5 (fun p => some p)
theorem bind87x0 (v3 : LD) (v4 v5 : Int) (k0 : Int × Bool → Option R) : F87x0 N v3 v4 v5 k0 = (G87x0 N v3 v4 v5).bind k0 := by
  unfold G87x0 F87x0
  repeat' (first | with_reducible apply cond_b | (with_reducible apply bnd_b; intro _) | rfl)
noncomputable def sh87x0 : Sh := { tmps := [(0, .g ([.i .i64, .i .i64, .sl 65])), (1, .c (.i .i64)), (2, .c (.i .i64))], mem := [] }
noncomputable def A87x0 (L : List Lf) : List (Bool × Res) := bnd (F87x0 N (ll L 3) (li L 4) (li L 5) (fun p => some p)) fun q => [(q.isSome, ([.c (.i .i64 (q.getD default).1), .c (.b (q.getD default).2)], []))]
theorem raw87x0 (L : List Lf) : bd Try.prog (T86x0 N) (h87x0s1 N).h 87 sh87x0 L = F87x0 N (ll L 3) (li L 4) (li L 5) (fun p => some ([.c (.i .i64 p.1), .c (.b p.2)], [])) := by kernel_rfl
theorem ok87x0 : FnOk Try.prog 87 sh87x0 (A87x0 N) :=
  (h87x0s1 N).fn progOk (T86x0_ok N) fun L x hx => ((raw87x0 N L).trans ((bind87x0 N ..).trans (alt1 x hx)))
noncomputable def T87x0 : Oracle := ext 87 (spSh sh87x0 (A87x0 N)) (T86x0 N)
theorem T87x0_ok : OracleOk Try.prog (T87x0 N) := FnOk.to (ok87x0 N) (T86x0_ok N)
noncomputable def rg88x0 : List (Nat × List Nat) := [(0, [1, 0]), (1, [3, 0]), (2, [19, 3, 0]), (21, [19, 3, 0]), (25, [19, 3, 0]), (26, [3, 0]), (27, [0, 17]), (28, [17]), (22, [3, 0]), (23, [0, 3, 15, 16]), (24, [16, 3]), (3, [3, 0]), (4, [3, 5, 0]), (5, [5, 3, 6, 0]), (6, [38, 37, 36, 3, 6, 5, 0]), (7, [38, 36, 3, 6, 37, 5, 0]), (8, [3, 7, 8, 6, 38, 37, 36, 5, 0]), (9, [8, 9, 6, 10, 38, 37, 36, 3, 5, 0]), (10, [38, 37, 36, 3, 6, 5, 0]), (11, [5, 3, 0, 6]), (12, [62, 61, 60, 3, 0, 5, 6]), (13, [62, 60, 3, 61, 0, 5, 6]), (14, [3, 11, 12, 62, 61, 60, 0, 5, 6]), (15, [14, 12, 13, 62, 61, 60, 3, 0, 5, 6]), (17, [12, 62, 61, 60, 3, 0, 5, 6]), (16, [12, 13, 62, 61, 60, 3, 0, 5, 6]), (18, [62, 61, 60, 3, 0, 5, 6]), (19, [0, 5, 6]), (20, [6]), (29, [])]
noncomputable def hd88x0 : Hints := [(51050, [12, 13, 62, 61, 60, 3, 0, 5, 6, 74], [64, 9, 7, 3, 2, 1, 0], [])]
noncomputable def h88x0s0 (N : Nat) : Sg Try.prog 4 88 := .start hd88x0 rg88x0
noncomputable def F88x0x51050 (N : Nat) (w1 : Int) (w4 : Bool) (k0 : Int → R) : R :=
  bif w4 then
    k0 w1
  else
    k0 (-1)
noncomputable def V88x0x51050 (w1 : Int) (w4 : Bool) : Int := F88x0x51050 N w1 w4 (fun p => p)
theorem tot88x0x51050 (w1 : Int) (w4 : Bool) (k0 : Int → R) : F88x0x51050 N w1 w4 k0 = k0 (V88x0x51050 N w1 w4) := by
  unfold V88x0x51050 F88x0x51050
  repeat' (first | rfl | apply cond_k | (apply bnd_k; intro _))
noncomputable def sh88x0x51050 : Sh := { tmps := [(0, .c (.p 0 0)), (3, .c (.p 7 0)), (5, .c (.p 9 0)), (6, .c (.b)), (12, .c (.p 9 4)), (13, .c (.i .i64)), (60, .c (.bs 64 3)), (61, .c (.i .i64)), (62, .c (.i .i64)), (74, .c (.b))], mem := [(0, .box (.s :: [.i .i64, .i .i64, .o 1, .o 2, .o 3])), (1, .row 78 true), (2, .row 82 true), (3, .row 9 true), (7, .box ([.i .i64, .i .i64, .sl 65])), (9, .box (rI 7 ([]))), (64, .box ([.p 9 4, .p 9 5, .p 9 6]))] }
noncomputable def K88x0x51050w0 (L : List Lf) (p : Int) : Ex × St := (.normal, mg (ofSh sh88x0x51050 L) [0, 3, 5, 6, 60, 61, 62] [] [0, 1, 2, 3, 7, 9, 64] [(9, .box (rL L 18 4 ([.i .i64 p, .i .i64 (li L 23), .i .i64 (li L 24)])))])
noncomputable def A88x0x51050 (L : List Lf) : List (Bool × (Ex × St)) := bnd (F88x0x51050 N (li L 1) (lb L 4) (fun p => p)) fun q => [(true, K88x0x51050w0 L q)]
theorem raw88x0x51050 (L : List Lf) : pc Try.prog (T87x0 N) (h88x0s0 N).h 4 100 88 51050 sh88x0x51050 L [62, 61, 60, 3, 0, 5, 6] [64, 9, 7, 3, 2, 1, 0] = F88x0x51050 N (li L 1) (lb L 4) (fun p => some (K88x0x51050w0 L p)) := by kernel_rfl
noncomputable def h88x0s1 : Sg Try.prog 4 88 :=
  (h88x0s0 N).cut (A88x0x51050 N) progOk (T87x0_ok N) fun L x hx => (raw88x0x51050 N L).trans ((tot88x0x51050 N ..).trans (alt0 _ _ hx))
noncomputable def F88x0x51050b (N : Nat) (w1 : Int) (w4 : Bool) (k0 : Int → R) : R :=
  bif w4 then
    k0 w1
  else
    k0 (-1)
noncomputable def V88x0x51050b (w1 : Int) (w4 : Bool) : Int := F88x0x51050b N w1 w4 (fun p => p)
theorem tot88x0x51050b (w1 : Int) (w4 : Bool) (k0 : Int → R) : F88x0x51050b N w1 w4 k0 = k0 (V88x0x51050b N w1 w4) := by
  unfold V88x0x51050b F88x0x51050b
  repeat' (first | rfl | apply cond_k | (apply bnd_k; intro _))
noncomputable def sh88x0x51050b : Sh := { tmps := [(0, .c (.p 0 0)), (3, .c (.p 7 0)), (5, .c (.p 9 0)), (6, .c (.b)), (12, .c (.p 9 5)), (13, .c (.i .i64)), (60, .c (.bs 64 3)), (61, .c (.i .i64)), (62, .c (.i .i64)), (74, .c (.b))], mem := [(0, .box (.s :: [.i .i64, .i .i64, .o 1, .o 2, .o 3])), (1, .row 78 true), (2, .row 82 true), (3, .row 9 true), (7, .box ([.i .i64, .i .i64, .sl 65])), (9, .box (rI 7 ([]))), (64, .box ([.p 9 4, .p 9 5, .p 9 6]))] }
noncomputable def K88x0x51050bw0 (L : List Lf) (p : Int) : Ex × St := (.normal, mg (ofSh sh88x0x51050b L) [0, 3, 5, 6, 60, 61, 62] [] [0, 1, 2, 3, 7, 9, 64] [(9, .box (rL L 18 5 ([.i .i64 p, .i .i64 (li L 24)])))])
noncomputable def A88x0x51050b (L : List Lf) : List (Bool × (Ex × St)) := bnd (F88x0x51050b N (li L 1) (lb L 4) (fun p => p)) fun q => [(true, K88x0x51050bw0 L q)]
theorem raw88x0x51050b (L : List Lf) : pc Try.prog (T87x0 N) ((h88x0s1 N).no 51050).h 4 100 88 51050 sh88x0x51050b L [62, 61, 60, 3, 0, 5, 6] [64, 9, 7, 3, 2, 1, 0] = F88x0x51050b N (li L 1) (lb L 4) (fun p => some (K88x0x51050bw0 L p)) := by kernel_rfl
noncomputable def h88x0s2 : Sg Try.prog 4 88 :=
  (h88x0s1 N).add (((h88x0s1 N).no 51050).cut (A88x0x51050b N) progOk (T87x0_ok N) fun L x hx => (raw88x0x51050b N L).trans ((tot88x0x51050b N ..).trans (alt0 _ _ hx))) 51050
noncomputable def F88x0x51050bb (N : Nat) (w1 : Int) (w4 : Bool) (k0 : Int → R) : R :=
  bif w4 then
    k0 w1
  else
    k0 (-1)
noncomputable def V88x0x51050bb (w1 : Int) (w4 : Bool) : Int := F88x0x51050bb N w1 w4 (fun p => p)
theorem tot88x0x51050bb (w1 : Int) (w4 : Bool) (k0 : Int → R) : F88x0x51050bb N w1 w4 k0 = k0 (V88x0x51050bb N w1 w4) := by
  unfold V88x0x51050bb F88x0x51050bb
  repeat' (first | rfl | apply cond_k | (apply bnd_k; intro _))
noncomputable def sh88x0x51050bb : Sh := { tmps := [(0, .c (.p 0 0)), (3, .c (.p 7 0)), (5, .c (.p 9 0)), (6, .c (.b)), (12, .c (.p 9 6)), (13, .c (.i .i64)), (60, .c (.bs 64 3)), (61, .c (.i .i64)), (62, .c (.i .i64)), (74, .c (.b))], mem := [(0, .box (.s :: [.i .i64, .i .i64, .o 1, .o 2, .o 3])), (1, .row 78 true), (2, .row 82 true), (3, .row 9 true), (7, .box ([.i .i64, .i .i64, .sl 65])), (9, .box (rI 7 ([]))), (64, .box ([.p 9 4, .p 9 5, .p 9 6]))] }
noncomputable def K88x0x51050bbw0 (L : List Lf) (p : Int) : Ex × St := (.normal, mg (ofSh sh88x0x51050bb L) [0, 3, 5, 6, 60, 61, 62] [] [0, 1, 2, 3, 7, 9, 64] [(9, .box (rL L 18 6 ([.i .i64 p])))])
noncomputable def A88x0x51050bb (L : List Lf) : List (Bool × (Ex × St)) := bnd (F88x0x51050bb N (li L 1) (lb L 4) (fun p => p)) fun q => [(true, K88x0x51050bbw0 L q)]
theorem raw88x0x51050bb (L : List Lf) : pc Try.prog (T87x0 N) ((h88x0s2 N).no 51050).h 4 100 88 51050 sh88x0x51050bb L [62, 61, 60, 3, 0, 5, 6] [64, 9, 7, 3, 2, 1, 0] = F88x0x51050bb N (li L 1) (lb L 4) (fun p => some (K88x0x51050bbw0 L p)) := by kernel_rfl
noncomputable def h88x0s3 : Sg Try.prog 4 88 :=
  (h88x0s2 N).add (((h88x0s2 N).no 51050).cut (A88x0x51050bb N) progOk (T87x0_ok N) fun L x hx => (raw88x0x51050bb N L).trans ((tot88x0x51050bb N ..).trans (alt0 _ _ hx))) 51050
noncomputable def F88x0 (v0 v1 : Int) (v3 : LD) (v6 : Int) (v8 v10 v12 : LD) (k0 : Bool × LD → Option R) (k1 : Bool × LD → Option R) (k2 : Bool × LD → Option R) (k3 : Unit → Option R) : Option R :=
  bif (v0 == 20) then
    bnd (G87x0 N v3 0 1) fun y0 =>
    bif y0.isSome then
      bnd (bif (decide (v1 ≥ 0)) then (y0.getD default).2 else false) fun y1 =>
      bnd (G87x0 N v3 1 1) fun y2 =>
      bif y2.isSome then
        bnd (G87x0 N v3 2 1) fun y3 =>
        bif y3.isSome then
          bnd (bif (bif y1 then (y2.getD default).2 else false) then (y3.getD default).2 else false) fun y4 =>
          bnd (G87x0 N v3 3 0) fun y5 =>
          bif y5.isSome then
            bnd (V88x0x51050 N (y5.getD default).1 (y5.getD default).2) fun y6 =>
            bnd (G87x0 N v3 4 0) fun y7 =>
            bif y7.isSome then
              bnd (V88x0x51050b N (y7.getD default).1 (y7.getD default).2) fun y8 =>
              bnd (G87x0 N v3 5 0) fun y9 =>
              bif y9.isSome then
                bnd (V88x0x51050bb N (y9.getD default).1 (y9.getD default).2) fun y10 =>
                bif (decide ((v8.length + 1) * 56 ≤ room) && decide ((v8.length + 1) ≤ strMax)) then
                  bnd ((v8 ++ [(.a [(.i (IntKind.wrap .i64 (v1 - v6))), (.i (y0.getD default).1), (.i (y2.getD default).1), (.i (y3.getD default).1), (.i y6), (.i y8), (.i y10)])]) : List D) fun y11 =>
                  k0 (y4, y11)
                else
                  none
              else
                none
            else
              none
          else
            none
        else
          none
      else
        none
    else
      none
  else
    bif (v0 == 19) then
      bnd (G87x0 N v3 1 0) fun y12 =>
      bif y12.isSome then
        bnd (G86x0 N v3 2) fun y13 =>
        bif y13.isSome then
          bif (decide ((v10.length + 1) * 32 ≤ room) && decide ((v10.length + 1) ≤ strMax)) then
            bnd ((v10 ++ [(.a [(.i (IntKind.wrap .i64 (v1 - v6))), (.i (IntKind.wrap .i64 ((y12.getD default).1 - v6))), (.s (y13.getD default))])]) : List D) fun y14 =>
            bnd (bif (y12.getD default).2 then (decide (v1 ≥ 0)) else false) fun y15 =>
            k1 (y15, y14)
          else
            none
        else
          none
      else
        none
    else
      bif (v0 == 30) then
        bnd (G86x0 N v3 1) fun y16 =>
        bif y16.isSome then
          bif (decide ((v12.length + 1) * 16 ≤ room) && decide ((v12.length + 1) ≤ strMax)) then
            k2 ((!((y16.getD default) == ([] : List UInt8))), (v12 ++ [(.s (y16.getD default))]))
          else
            none
        else
          none
      else
        k3 ()
noncomputable def G88x0 (v0 v1 : Int) (v3 : LD) (v6 : Int) (v8 v10 v12 : LD) : Option (Sum (Bool × LD) (Sum (Bool × LD) (Sum (Bool × LD) (Unit)))) := F88x0 N v0 v1 v3 v6 v8 v10 v12 (fun p => some (.inl p)) (fun p => some (.inr (.inl p))) (fun p => some (.inr (.inr (.inl p)))) (fun p => some (.inr (.inr (.inr p))))
theorem bind88x0 (v0 v1 : Int) (v3 : LD) (v6 : Int) (v8 v10 v12 : LD) (k0 : Bool × LD → Option R) (k1 : Bool × LD → Option R) (k2 : Bool × LD → Option R) (k3 : Unit → Option R) : F88x0 N v0 v1 v3 v6 v8 v10 v12 k0 k1 k2 k3 = (G88x0 N v0 v1 v3 v6 v8 v10 v12).bind (sumE k0 (sumE k1 (sumE k2 k3))) := by
  unfold G88x0 F88x0
  repeat' (first | with_reducible apply cond_b | (with_reducible apply bnd_b; intro _) | rfl)
noncomputable def J88x0 (L : List Lf) (k0 : Bool × LD → Option R) (k1 : Bool × LD → Option R) (k2 : Bool × LD → Option R) (k3 : Unit → Option R) : Option R := F88x0 N (li L 0) (li L 1) (ll L 3) (li L 6) (ll L 8) (ll L 10) (ll L 12) k0 k1 k2 k3
noncomputable def sh88x0 : Sh := { tmps := [(0, .c (.p 0 0)), (1, .g ([.i .i64, .i .i64, .sl 65]))], mem := [(0, .box (.s :: [.i .i64, .i .i64, .o 1, .o 2, .o 3])), (1, .row 78 true), (2, .row 82 true), (3, .row 9 true)] }
noncomputable def K88x0w0 (L : List Lf) (p : Bool × LD) : Res := ([.c (.b p.1)], mgA (ofSh sh88x0 L).mem [(0, .box [.s (ls L 4), .i .i64 (li L 5), .i .i64 (li L 6), .o 92, .o 2, .o 3]), (92, .row 78 true false p.2)] [0, 2, 3, 92])
noncomputable def K88x0w1 (L : List Lf) (p : Bool × LD) : Res := ([.c (.b p.1)], mgA (ofSh sh88x0 L).mem [(0, .box [.s (ls L 4), .i .i64 (li L 5), .i .i64 (li L 6), .o 1, .o 125, .o 3]), (125, .row 82 true false p.2)] [0, 1, 3, 125])
noncomputable def K88x0w2 (L : List Lf) (p : Bool × LD) : Res := ([.c (.b p.1)], mgA (ofSh sh88x0 L).mem [(0, .box [.s (ls L 4), .i .i64 (li L 5), .i .i64 (li L 6), .o 1, .o 2, .o 145]), (145, .row 9 true false p.2)] [0, 1, 2, 145])
noncomputable def A88x0 (L : List Lf) : List (Bool × Res) := bnd (J88x0 N L (fun p => some (.inl p)) (fun p => some (.inr (.inl p))) (fun p => some (.inr (.inr (.inl p)))) (fun p => some (.inr (.inr (.inr p))))) fun q => [((inlB q), K88x0w0 L (inlV q)), ((inlB (inrQ q)), K88x0w1 L (inlV (inrQ q))), ((inlB (inrQ (inrQ q))), K88x0w2 L (inlV (inrQ (inrQ q)))), ((inrQ (inrQ (inrQ q))).isSome, ([.c (.b true)], mgA (ofSh sh88x0 L).mem [] [0, 1, 2, 3]))]
theorem raw88x0 (L : List Lf) : bd Try.prog (T87x0 N) (h88x0s3 N).h 88 sh88x0 L = J88x0 N L (fun p => some (K88x0w0 L p)) (fun p => some (K88x0w1 L p)) (fun p => some (K88x0w2 L p)) (fun _ => some ([.c (.b true)], mgA (ofSh sh88x0 L).mem [] [0, 1, 2, 3])) := by kernel_rfl
theorem ok88x0 : FnOk Try.prog 88 sh88x0 (A88x0 N) :=
  (h88x0s3 N).fn progOk (T87x0_ok N) fun L x hx => ((raw88x0 N L).trans ((bind88x0 N ..).trans ((altS (altS (altS alt1))) x hx)))
noncomputable def T88x0 : Oracle := ext 88 (spSh sh88x0 (A88x0 N)) (T87x0 N)
theorem T88x0_ok : OracleOk Try.prog (T88x0 N) := FnOk.to (ok88x0 N) (T87x0_ok N)
noncomputable def rg119x0 : List (Nat × List Nat) := [(0, [0]), (1, [0])]
noncomputable def hd119x0 : Hints := []
noncomputable def h119x0s0 (N : Nat) : Sg Try.prog 0 119 := .start hd119x0 rg119x0
noncomputable def F119x0 (N : Nat) (v0 : Int) (k0 : Bool → R) : R :=
  k0 (bif (decide (v0 ≥ 48)) then (decide (v0 ≤ 57)) else false)
noncomputable def V119x0 (v0 : Int) : Bool := F119x0 N v0 (fun p => p)
theorem tot119x0 (v0 : Int) (k0 : Bool → R) : F119x0 N v0 k0 = k0 (V119x0 N v0) := by
  unfold V119x0 F119x0
  repeat' (first | rfl | apply cond_k | (apply bnd_k; intro _))
noncomputable def sh119x0 : Sh := { tmps := [(0, .c (.i .u8))], mem := [] }
noncomputable def A119x0 (L : List Lf) : List (Bool × Res) := bnd (F119x0 N (li L 0) (fun p => p)) fun q => [(true, ([.c (.b q)], []))]
theorem raw119x0 (L : List Lf) : bd Try.prog (T88x0 N) (h119x0s0 N).h 119 sh119x0 L = F119x0 N (li L 0) (fun p => some ([.c (.b p)], [])) := by kernel_rfl
theorem ok119x0 : FnOk Try.prog 119 sh119x0 (A119x0 N) :=
  (h119x0s0 N).fn progOk (T88x0_ok N) fun L x hx => ((raw119x0 N L).trans ((tot119x0 N ..).trans (alt0 _ _ hx)))
noncomputable def T119x0 : Oracle := ext 119 (spSh sh119x0 (A119x0 N)) (T88x0 N)
theorem T119x0_ok : OracleOk Try.prog (T119x0 N) := FnOk.to (ok119x0 N) (T88x0_ok N)
noncomputable def rg51x0 : List (Nat × List Nat) := [(0, [0]), (1, [0]), (2, [8, 7, 0]), (3, [8, 0, 7]), (4, [0, 3, 8, 7]), (5, [4, 8, 7, 0]), (6, [5, 4, 8, 7, 0]), (7, []), (8, [8, 7, 0]), (9, [0])]
noncomputable def hd51x0 : Hints := [(6, [8, 7, 0], [], []), (19, [5, 4, 8, 7, 0], [], [])]
noncomputable def h51x0s0 (N : Nat) : Sg Try.prog 0 51 := .start hd51x0 rg51x0
noncomputable def F51x0x19 (w1 : Int) (w2 : Bool) (k0 : Bool → R) : R :=
  bif (!w2) then
    bnd (V119x0 N w1) fun y0 =>
    bnd (bif (bif (!y0) then (w1 != 45) else false) then (w1 != 95) else false) fun y1 =>
    k0 (bif y1 then (w1 != 46) else false)
  else
    k0 false
noncomputable def V51x0x19 (w1 : Int) (w2 : Bool) : Bool := F51x0x19 N w1 w2 (fun p => p)
theorem tot51x0x19 (w1 : Int) (w2 : Bool) (k0 : Bool → R) : F51x0x19 N w1 w2 k0 = k0 (V51x0x19 N w1 w2) := by
  unfold V51x0x19 F51x0x19
  repeat' (first | rfl | apply cond_k | (apply bnd_k; intro _))
noncomputable def sh51x0x19 : Sh := { tmps := [(0, .c (.s)), (4, .c (.i .u8)), (5, .c (.b)), (7, .c (.i .i64)), (8, .c (.i .i64))], mem := [] }
noncomputable def K51x0x19w0 (L : List Lf) (p : Bool) : Ex × St := (.normal, mg (ofSh sh51x0x19 L) [0, 7, 8, 46] [(46, .c (.b p))] [] [])
noncomputable def A51x0x19 (L : List Lf) : List (Bool × (Ex × St)) := bnd (F51x0x19 N (li L 1) (lb L 2) (fun p => p)) fun q => [(true, K51x0x19w0 L q)]
theorem raw51x0x19 (L : List Lf) : pc Try.prog (T119x0 N) (h51x0s0 N).h 0 100 51 19 sh51x0x19 L [8, 7, 0, 46] [] = F51x0x19 N (li L 1) (lb L 2) (fun p => some (K51x0x19w0 L p)) := by kernel_rfl
noncomputable def h51x0s1 : Sg Try.prog 0 51 :=
  (h51x0s0 N).cut (A51x0x19 N) progOk (T119x0_ok N) fun L x hx => (raw51x0x19 N L).trans ((tot51x0x19 N ..).trans (alt0 _ _ hx))
noncomputable def S51x0x6 (w0 : LB) (w1 : Int) (w2 : Int) (kr : Int → Option R) (k0 : Unit → Option R) (k1 : Unit → Option R) : Option R :=
  bif (decide (w2 < w1)) then
    bif (inB w2 w0.length) then
      bnd (bif (decide (((w0.getD w2.toNat 0).toNat : Int) ≥ 97)) then (decide (((w0.getD w2.toNat 0).toNat : Int) ≤ 122)) else false) fun y0 =>
      bnd (bif y0 then true else (bif (decide (((w0.getD w2.toNat 0).toNat : Int) ≥ 65)) then (decide (((w0.getD w2.toNat 0).toNat : Int) ≤ 90)) else false)) fun y1 =>
      bnd (V51x0x19 N ((w0.getD w2.toNat 0).toNat : Int) y1) fun y2 =>
      bif y2 then
        k0 ()
      else
        kr (IntKind.wrap .i64 (w2 + 1))
    else
      none
  else
    k1 ()
noncomputable def L51x0x6 (N : Nat) {R : Type} (w0 : LB) (w1 : Int) : Nat → Int → (Unit → Option R) → (Unit → Option R) → Option R
  | 0, _, _, _ => none
  | m + 1, w2, k0, k1 => S51x0x6 N w0 w1 w2 (fun w2 => L51x0x6 N w0 w1 m w2 k0 k1) k0 k1
noncomputable def G51x0x6 (w0 : LB) (w1 : Int) (w2 : Int) : Option (Sum (Unit) (Unit)) := L51x0x6 N (R := (Sum (Unit) (Unit))) w0 w1 N w2 (fun p => some (.inl p)) (fun p => some (.inr p))
noncomputable def J51x0x6 (L x : List Lf) (kr : List Lf → Option R) (k0 : Unit → Option R) (k1 : Unit → Option R) : Option R := S51x0x6 N (ls L 0) (li L 1) (li x 0) (fun w2 => kr [.i w2]) k0 k1
theorem sb51x0x6 (L x : List Lf) (kr : List Lf → Option R) (k0 : Unit → Option R) (k1 : Unit → Option R) : J51x0x6 N L x kr k0 k1 = (J51x0x6 N L x (fun y => some (.inl y)) (fun p => some (.inr (.inl p))) (fun p => some (.inr (.inr p)))).bind (sumE kr (sumE k0 k1)) := by
  unfold J51x0x6 S51x0x6
  repeat' (first | with_reducible apply cond_b | (with_reducible apply bnd_b; intro _) | rfl)
noncomputable def Q51x0x6 (L : List Lf) (m : Nat) (x : List Lf) : Option (Sum (Unit) (Unit)) := L51x0x6 N (R := (Sum (Unit) (Unit))) (ls L 0) (li L 1) m (li x 0) (fun p => some (.inl p)) (fun p => some (.inr p))
noncomputable def sh51x0x6 : Sh := { tmps := [(0, .c (.s)), (7, .c (.i .i64)), (8, .c (.i .i64))], mem := [] }
noncomputable def A51x0x6 (L : List Lf) : List (Bool × (Ex × St)) := bnd (Q51x0x6 N L N (pk sh51x0x6 [2] L)) fun q => [((inlB q), (.ret, ⟨[(2, .c (.b false))], []⟩)), ((inrQ q).isSome, ((.exit 0), ⟨[(0, .c (.s (ls L 0)))], []⟩))]
theorem step51x0x6 (m : Nat) (kn : St → Option (Ex × St)) (L x : List Lf) : lpB Try.prog (T119x0 N) (h51x0s1 N).h 0 51 6 sh51x0x6 [2] [2, 0] [] (m + 100) kn L x = J51x0x6 N L x (fun y => kn (ofSh sh51x0x6 (mx sh51x0x6 [2] L y))) (fun _ => some (.ret, ⟨[(2, .c (.b false))], []⟩)) (fun _ => some ((.exit 0), ⟨[(0, .c (.s (ls L 0)))], []⟩)) := by kernel_rfl
theorem ql51x0x6 (L : List Lf) (m : Nat) (x : List Lf) : Q51x0x6 N L (m + 1) x = J51x0x6 N L x (Q51x0x6 N L m) (fun p => some (.inl p)) (fun p => some (.inr p)) := by kernel_rfl
noncomputable def h51x0s2 : Sg Try.prog 0 51 :=
  (h51x0s1 N).lp (A51x0x6 N) N progOk (T119x0_ok N) (fun m kn L x => (step51x0x6 N m kn L x).trans (sb51x0x6 N L x _ _ _)) (fun L m x => (ql51x0x6 N L m x).trans (sb51x0x6 N L x (Q51x0x6 N L m) (fun p => some (.inl p)) (fun p => some (.inr p)))) fun L x hx => (altS alt1) x hx
noncomputable def F51x0 (v0 : LB) (k0 : Bool → Option R) : Option R :=
  bnd (G51x0x6 N v0 (v0.length : Int) 0) fun y0 =>
  bif (inlB y0) then
    k0 false
  else
    bif (inrQ y0).isSome then
      bnd (bif (decide ((v0.length : Int) ≥ 1)) then (decide ((v0.length : Int) ≤ 60)) else false) fun y1 =>
      k0 y1
    else
      none
noncomputable def G51x0 (v0 : LB) : Option (Bool) := F51x0 N v0 (fun p => some p)
theorem bind51x0 (v0 : LB) (k0 : Bool → Option R) : F51x0 N v0 k0 = (G51x0 N v0).bind k0 := by
  unfold G51x0 F51x0
  repeat' (first | with_reducible apply cond_b | (with_reducible apply bnd_b; intro _) | rfl)
noncomputable def sh51x0 : Sh := { tmps := [(0, .c (.s))], mem := [] }
noncomputable def A51x0 (L : List Lf) : List (Bool × Res) := bnd (F51x0 N (ls L 0) (fun p => some p)) fun q => [(q.isSome, ([.c (.b (q.getD default))], []))]
theorem raw51x0 (L : List Lf) : bd Try.prog (T119x0 N) (h51x0s2 N).h 51 sh51x0 L = F51x0 N (ls L 0) (fun p => some ([.c (.b p)], [])) := by kernel_rfl
theorem ok51x0 : FnOk Try.prog 51 sh51x0 (A51x0 N) :=
  (h51x0s2 N).fn progOk (T119x0_ok N) fun L x hx => ((raw51x0 N L).trans ((bind51x0 N ..).trans (alt1 x hx)))
noncomputable def T51x0 : Oracle := ext 51 (spSh sh51x0 (A51x0 N)) (T119x0 N)
theorem T51x0_ok : OracleOk Try.prog (T51x0 N) := FnOk.to (ok51x0 N) (T119x0_ok N)
noncomputable def rg53x0 : List (Nat × List Nat) := [(0, [0]), (1, [1]), (2, [3, 1])]
noncomputable def hd53x0 : Hints := [(4, [1], [1], []), (7, [3, 1], [1], [])]
noncomputable def h53x0s0 (N : Nat) : Sg Try.prog 0 53 := .start hd53x0 rg53x0
noncomputable def F53x0x4 (w1 w2 w3 : Int) (k0 : Bool → R) : R :=
  bnd (V52x0 N w1 (-100000000) 100000000) fun y0 =>
  bif y0 then
    bnd (V52x0 N w2 (-100000000) 100000000) fun y1 =>
    bif y1 then
      bnd (V52x0 N w3 (-100000) 100000) fun y2 =>
      k0 y2
    else
      k0 false
  else
    k0 false
noncomputable def V53x0x4 (w1 w2 w3 : Int) : Bool := F53x0x4 N w1 w2 w3 (fun p => p)
theorem tot53x0x4 (w1 w2 w3 : Int) (k0 : Bool → R) : F53x0x4 N w1 w2 w3 k0 = k0 (V53x0x4 N w1 w2 w3) := by
  unfold V53x0x4 F53x0x4
  repeat' (first | rfl | apply cond_k | (apply bnd_k; intro _))
noncomputable def sh53x0x4 : Sh := { tmps := [(1, .c (.p 1 0))], mem := [(1, .box (rI 7 ([])))] }
noncomputable def K53x0x4w0 (L : List Lf) (p : Bool) : Ex × St := (.normal, mg (ofSh sh53x0x4 L) [1, 3] [(3, .c (.b p))] [1] [])
noncomputable def A53x0x4 (L : List Lf) : List (Bool × (Ex × St)) := bnd (F53x0x4 N (li L 1) (li L 2) (li L 3) (fun p => p)) fun q => [(true, K53x0x4w0 L q)]
theorem raw53x0x4 (L : List Lf) : pc Try.prog (T51x0 N) (h53x0s0 N).h 0 100 53 4 sh53x0x4 L [3, 1] [1] = F53x0x4 N (li L 1) (li L 2) (li L 3) (fun p => some (K53x0x4w0 L p)) := by kernel_rfl
noncomputable def h53x0s1 : Sg Try.prog 0 53 :=
  (h53x0s0 N).cut (A53x0x4 N) progOk (T51x0_ok N) fun L x hx => (raw53x0x4 N L).trans ((tot53x0x4 N ..).trans (alt0 _ _ hx))
noncomputable def F53x0x7 (w0 : Bool) (w5 w6 w7 : Int) (k0 : Bool → R) : R :=
  bif w0 then
    bnd (V52x0 N w5 (-1) 300) fun y0 =>
    bif y0 then
      bnd (V52x0 N w6 (-1) 3000) fun y1 =>
      bif y1 then
        bnd (V52x0 N w7 (-1) 300) fun y2 =>
        k0 y2
      else
        k0 false
    else
      k0 false
  else
    k0 false
noncomputable def V53x0x7 (w0 : Bool) (w5 w6 w7 : Int) : Bool := F53x0x7 N w0 w5 w6 w7 (fun p => p)
theorem tot53x0x7 (w0 : Bool) (w5 w6 w7 : Int) (k0 : Bool → R) : F53x0x7 N w0 w5 w6 w7 k0 = k0 (V53x0x7 N w0 w5 w6 w7) := by
  unfold V53x0x7 F53x0x7
  repeat' (first | rfl | apply cond_k | (apply bnd_k; intro _))
noncomputable def J53x0x7 (L : List Lf) (k0 : Bool → R) : R := F53x0x7 N (lb L 0) (li L 5) (li L 6) (li L 7) k0
noncomputable def sh53x0x7 : Sh := { tmps := [(1, .c (.p 1 0)), (3, .c (.b))], mem := [(1, .box (rI 7 ([])))] }
noncomputable def A53x0x7 (L : List Lf) : List (Bool × (Ex × St)) := bnd (J53x0x7 N L (fun p => p)) fun q => [(true, (.normal, ⟨[(2, .c (.b q))], []⟩))]
theorem raw53x0x7 (L : List Lf) : pc Try.prog (T51x0 N) (h53x0s1 N).h 0 100 53 7 sh53x0x7 L [2] [] = J53x0x7 N L (fun p => some (.normal, ⟨[(2, .c (.b p))], []⟩)) := by kernel_rfl
noncomputable def h53x0s2 : Sg Try.prog 0 53 :=
  (h53x0s1 N).cut (A53x0x7 N) progOk (T51x0_ok N) fun L x hx => (raw53x0x7 N L).trans ((tot53x0x7 N ..).trans (alt0 _ _ hx))
noncomputable def F53x0 (v1 v2 v3 v4 v5 v6 : Int) (k0 : Bool → R) : R :=
  bnd (V53x0x4 N v1 v2 v3) fun y0 =>
  bnd (V53x0x7 N y0 v4 v5 v6) fun y1 =>
  k0 y1
noncomputable def V53x0 (v1 v2 v3 v4 v5 v6 : Int) : Bool := F53x0 N v1 v2 v3 v4 v5 v6 (fun p => p)
theorem tot53x0 (v1 v2 v3 v4 v5 v6 : Int) (k0 : Bool → R) : F53x0 N v1 v2 v3 v4 v5 v6 k0 = k0 (V53x0 N v1 v2 v3 v4 v5 v6) := by
  unfold V53x0 F53x0
  repeat' (first | rfl | apply cond_k | (apply bnd_k; intro _))
noncomputable def J53x0 (L : List Lf) (k0 : Bool → R) : R := F53x0 N (li L 1) (li L 2) (li L 3) (li L 4) (li L 5) (li L 6) k0
noncomputable def sh53x0 : Sh := { tmps := [(0, .g (rI 7 ([])))], mem := [] }
noncomputable def A53x0 (L : List Lf) : List (Bool × Res) := bnd (J53x0 N L (fun p => p)) fun q => [(true, ([.c (.b q)], []))]
theorem raw53x0 (L : List Lf) : bd Try.prog (T51x0 N) (h53x0s2 N).h 53 sh53x0 L = J53x0 N L (fun p => some ([.c (.b p)], [])) := by kernel_rfl
theorem ok53x0 : FnOk Try.prog 53 sh53x0 (A53x0 N) :=
  (h53x0s2 N).fn progOk (T51x0_ok N) fun L x hx => ((raw53x0 N L).trans ((tot53x0 N ..).trans (alt0 _ _ hx)))
noncomputable def T53x0 : Oracle := ext 53 (spSh sh53x0 (A53x0 N)) (T51x0 N)
theorem T53x0_ok : OracleOk Try.prog (T53x0 N) := FnOk.to (ok53x0 N) (T51x0_ok N)
noncomputable def rg54x0 : List (Nat × List Nat) := [(0, [0]), (1, [1]), (2, [3, 1]), (3, [1, 3]), (4, [])]
noncomputable def hd54x0 : Hints := []
noncomputable def h54x0s0 (N : Nat) : Sg Try.prog 0 54 := .start hd54x0 rg54x0
noncomputable def F54x0 (N : Nat) (v4 : LD) (k0 : Int → Option R) : Option R :=
  bif (decide ((v4.length : Int) > 0)) then
    bif (inB (IntKind.wrap .i64 ((v4.length : Int) - 1)) v4.length) then
      bnd ((v4.getD (IntKind.wrap .i64 ((v4.length : Int) - 1)).toNat (.i 0)) : D) fun y0 =>
      k0 (y0.cell 0).toI
    else
      none
  else
    k0 0
noncomputable def G54x0 (v4 : LD) : Option (Int) := F54x0 N v4 (fun p => some p)
theorem bind54x0 (v4 : LD) (k0 : Int → Option R) : F54x0 N v4 k0 = (G54x0 N v4).bind k0 := by
  unfold G54x0 F54x0
  repeat' (first | with_reducible apply cond_b | (with_reducible apply bnd_b; intro _) | rfl)
noncomputable def sh54x0 : Sh := { tmps := [(0, .g (.s :: [.i .i64, .i .i64, .sl 78, .sl 82, .sl 9]))], mem := [] }
noncomputable def A54x0 (L : List Lf) : List (Bool × Res) := bnd (F54x0 N (ll L 4) (fun p => some p)) fun q => [(q.isSome, ([.c (.i .i64 (q.getD default))], []))]
theorem raw54x0 (L : List Lf) : bd Try.prog (T53x0 N) (h54x0s0 N).h 54 sh54x0 L = F54x0 N (ll L 4) (fun p => some ([.c (.i .i64 p)], [])) := by kernel_rfl
theorem ok54x0 : FnOk Try.prog 54 sh54x0 (A54x0 N) :=
  (h54x0s0 N).fn progOk (T53x0_ok N) fun L x hx => ((raw54x0 N L).trans ((bind54x0 N ..).trans (alt1 x hx)))
noncomputable def T54x0 : Oracle := ext 54 (spSh sh54x0 (A54x0 N)) (T53x0 N)
theorem T54x0_ok : OracleOk Try.prog (T54x0 N) := FnOk.to (ok54x0 N) (T53x0_ok N)
noncomputable def rg55x0 : List (Nat × List Nat) := [(0, [0]), (1, [0]), (2, [6, 5, 0]), (3, [6, 0, 5]), (4, [0, 3, 6, 5]), (5, []), (6, [6, 5, 0]), (7, [0])]
noncomputable def hd55x0 : Hints := [(6, [6, 5, 0], [], [])]
noncomputable def h55x0s0 (N : Nat) : Sg Try.prog 0 55 := .start hd55x0 rg55x0
noncomputable def S55x0x6 (w0 : LB) (w1 : Int) (w2 : Int) (kr : Int → Option R) (k0 : Unit → Option R) (k1 : Unit → Option R) : Option R :=
  bif (decide (w2 < w1)) then
    bif (inB w2 w0.length) then
      bnd (V52x0 N (IntKind.wrap .i64 ((w0.getD w2.toNat 0).toNat : Int)) 32 126) fun y0 =>
      bif (!y0) then
        k0 ()
      else
        kr (IntKind.wrap .i64 (w2 + 1))
    else
      none
  else
    k1 ()
noncomputable def L55x0x6 (N : Nat) {R : Type} (w0 : LB) (w1 : Int) : Nat → Int → (Unit → Option R) → (Unit → Option R) → Option R
  | 0, _, _, _ => none
  | m + 1, w2, k0, k1 => S55x0x6 N w0 w1 w2 (fun w2 => L55x0x6 N w0 w1 m w2 k0 k1) k0 k1
noncomputable def G55x0x6 (w0 : LB) (w1 : Int) (w2 : Int) : Option (Sum (Unit) (Unit)) := L55x0x6 N (R := (Sum (Unit) (Unit))) w0 w1 N w2 (fun p => some (.inl p)) (fun p => some (.inr p))
noncomputable def J55x0x6 (L x : List Lf) (kr : List Lf → Option R) (k0 : Unit → Option R) (k1 : Unit → Option R) : Option R := S55x0x6 N (ls L 0) (li L 1) (li x 0) (fun w2 => kr [.i w2]) k0 k1
theorem sb55x0x6 (L x : List Lf) (kr : List Lf → Option R) (k0 : Unit → Option R) (k1 : Unit → Option R) : J55x0x6 N L x kr k0 k1 = (J55x0x6 N L x (fun y => some (.inl y)) (fun p => some (.inr (.inl p))) (fun p => some (.inr (.inr p)))).bind (sumE kr (sumE k0 k1)) := by
  unfold J55x0x6 S55x0x6
  repeat' (first | with_reducible apply cond_b | (with_reducible apply bnd_b; intro _) | rfl)
noncomputable def Q55x0x6 (L : List Lf) (m : Nat) (x : List Lf) : Option (Sum (Unit) (Unit)) := L55x0x6 N (R := (Sum (Unit) (Unit))) (ls L 0) (li L 1) m (li x 0) (fun p => some (.inl p)) (fun p => some (.inr p))
noncomputable def sh55x0x6 : Sh := { tmps := [(0, .c (.s)), (5, .c (.i .i64)), (6, .c (.i .i64))], mem := [] }
noncomputable def A55x0x6 (L : List Lf) : List (Bool × (Ex × St)) := bnd (Q55x0x6 N L N (pk sh55x0x6 [2] L)) fun q => [((inlB q), (.ret, ⟨[(2, .c (.b false))], []⟩)), ((inrQ q).isSome, ((.exit 0), ⟨[(0, .c (.s (ls L 0)))], []⟩))]
theorem step55x0x6 (m : Nat) (kn : St → Option (Ex × St)) (L x : List Lf) : lpB Try.prog (T54x0 N) (h55x0s0 N).h 0 55 6 sh55x0x6 [2] [2, 0] [] (m + 100) kn L x = J55x0x6 N L x (fun y => kn (ofSh sh55x0x6 (mx sh55x0x6 [2] L y))) (fun _ => some (.ret, ⟨[(2, .c (.b false))], []⟩)) (fun _ => some ((.exit 0), ⟨[(0, .c (.s (ls L 0)))], []⟩)) := by kernel_rfl
theorem ql55x0x6 (L : List Lf) (m : Nat) (x : List Lf) : Q55x0x6 N L (m + 1) x = J55x0x6 N L x (Q55x0x6 N L m) (fun p => some (.inl p)) (fun p => some (.inr p)) := by kernel_rfl
noncomputable def h55x0s1 : Sg Try.prog 0 55 :=
  (h55x0s0 N).lp (A55x0x6 N) N progOk (T54x0_ok N) (fun m kn L x => (step55x0x6 N m kn L x).trans (sb55x0x6 N L x _ _ _)) (fun L m x => (ql55x0x6 N L m x).trans (sb55x0x6 N L x (Q55x0x6 N L m) (fun p => some (.inl p)) (fun p => some (.inr p)))) fun L x hx => (altS alt1) x hx
noncomputable def F55x0 (v0 : LB) (k0 : Bool → Option R) : Option R :=
  bnd (G55x0x6 N v0 (v0.length : Int) 0) fun y0 =>
  bif (inlB y0) then
    k0 false
  else
    bif (inrQ y0).isSome then
      k0 (decide ((v0.length : Int) ≤ 60))
    else
      none
noncomputable def G55x0 (v0 : LB) : Option (Bool) := F55x0 N v0 (fun p => some p)
theorem bind55x0 (v0 : LB) (k0 : Bool → Option R) : F55x0 N v0 k0 = (G55x0 N v0).bind k0 := by
  unfold G55x0 F55x0
  repeat' (first | with_reducible apply cond_b | (with_reducible apply bnd_b; intro _) | rfl)
noncomputable def sh55x0 : Sh := { tmps := [(0, .c (.s))], mem := [] }
noncomputable def A55x0 (L : List Lf) : List (Bool × Res) := bnd (F55x0 N (ls L 0) (fun p => some p)) fun q => [(q.isSome, ([.c (.b (q.getD default))], []))]
theorem raw55x0 (L : List Lf) : bd Try.prog (T54x0 N) (h55x0s1 N).h 55 sh55x0 L = F55x0 N (ls L 0) (fun p => some ([.c (.b p)], [])) := by kernel_rfl
theorem ok55x0 : FnOk Try.prog 55 sh55x0 (A55x0 N) :=
  (h55x0s1 N).fn progOk (T54x0_ok N) fun L x hx => ((raw55x0 N L).trans ((bind55x0 N ..).trans (alt1 x hx)))
noncomputable def T55x0 : Oracle := ext 55 (spSh sh55x0 (A55x0 N)) (T54x0 N)
theorem T55x0_ok : OracleOk Try.prog (T55x0 N) := FnOk.to (ok55x0 N) (T54x0_ok N)
noncomputable def rg13x0 : List (Nat × List Nat) := [(0, [0]), (1, [1]), (3, [1]), (5, [1]), (7, [1]), (8, []), (6, []), (4, []), (2, []), (9, [1]), (10, [45, 44, 43, 1]), (11, [45, 43, 1, 44]), (12, [3, 4, 1, 45, 44, 43]), (13, [3, 4, 1, 45, 44, 43]), (15, [4, 1, 45, 44, 43]), (16, []), (14, []), (17, [45, 44, 43, 1]), (18, [1]), (19, [1, 5]), (20, [95, 94, 93, 5, 1]), (21, [95, 93, 5, 1, 94]), (22, [7, 5, 6, 1, 95, 94, 93]), (24, [6, 7, 1, 95, 94, 93, 5]), (26, [7, 95, 94, 93, 5, 1]), (27, []), (25, []), (23, []), (28, [95, 94, 93, 5, 1]), (29, [1]), (30, [141, 140, 139, 1]), (31, [141, 139, 1, 140]), (32, [9, 8, 1, 141, 140, 139]), (34, [8, 9, 1, 141, 140, 139]), (35, []), (33, []), (36, [141, 140, 139, 1]), (37, [])]
noncomputable def hd13x0 : Hints := [(30, [45, 44, 43, 1], [1], []), (40, [3, 4, 1, 45, 44, 43], [4, 1], []), (39002, [4, 1, 45, 44, 43, 50, 3], [4, 1], []), (46, [4, 1, 45, 44, 43], [4, 1], []), (60, [95, 94, 93, 5, 1], [1], []), (73, [6, 7, 1, 95, 94, 93, 5], [7, 1], []), (90, [141, 140, 139, 1], [1], [])]
noncomputable def h13x0s0 (N : Nat) : Sg Try.prog 0 13 := .start hd13x0 rg13x0
noncomputable def F13x0x40 (N : Nat) (w0 : Int) (w9 : LD) (w14 : Int) (k0 : Bool → Option R) : Option R :=
  bif (decide (w0 > 0)) then
    bif (inB (IntKind.wrap .i64 (w0 - 1)) w9.length) then
      bnd ((w9.getD (IntKind.wrap .i64 (w0 - 1)).toNat (.i 0)).cell 0).toI fun y0 =>
      k0 (decide (w14 ≤ y0))
    else
      none
  else
    k0 false
noncomputable def G13x0x40 (w0 : Int) (w9 : LD) (w14 : Int) : Option (Bool) := F13x0x40 N w0 w9 w14 (fun p => some p)
theorem bind13x0x40 (w0 : Int) (w9 : LD) (w14 : Int) (k0 : Bool → Option R) : F13x0x40 N w0 w9 w14 k0 = (G13x0x40 N w0 w9 w14).bind k0 := by
  unfold G13x0x40 F13x0x40
  repeat' (first | with_reducible apply cond_b | (with_reducible apply bnd_b; intro _) | rfl)
noncomputable def sh13x0x40 : Sh := { tmps := [(1, .c (.p 1 0)), (3, .c (.i .i64)), (4, .c (.p 4 0)), (43, .c (.sl 78)), (44, .c (.i .i64)), (45, .c (.i .i64))], mem := [(1, .box (.s :: [.i .i64, .i .i64, .sl 78, .sl 82, .sl 9])), (4, .box (rI 7 ([])))] }
noncomputable def K13x0x40w0 (L : List Lf) (p : Bool) : Ex × St := (.normal, mg (ofSh sh13x0x40 L) [1, 4, 43, 44, 45, 50] [(50, .c (.b p))] [1, 4] [])
noncomputable def A13x0x40 (L : List Lf) : List (Bool × (Ex × St)) := bnd (F13x0x40 N (li L 0) (ll L 9) (li L 14) (fun p => some p)) fun q => [(q.isSome, K13x0x40w0 L (q.getD default))]
theorem raw13x0x40 (L : List Lf) : pc Try.prog (T55x0 N) (h13x0s0 N).h 0 100 13 40 sh13x0x40 L [4, 1, 45, 44, 43, 50] [4, 1] = F13x0x40 N (li L 0) (ll L 9) (li L 14) (fun p => some (K13x0x40w0 L p)) := by kernel_rfl
noncomputable def h13x0s1 : Sg Try.prog 0 13 :=
  (h13x0s0 N).cut (A13x0x40 N) progOk (T55x0_ok N) fun L x hx => (raw13x0x40 N L).trans ((bind13x0x40 N ..).trans (alt1 x hx))
noncomputable def F13x0x39002 (w0 : Int) (w5 : Bool) (w10 : LD) (w15 : Int) (k0 : Bool → Option R) : Option R :=
  bif w5 then
    k0 true
  else
    bnd (G13x0x40 N w0 w10 w15) fun y0 =>
    bif y0.isSome then
      k0 (y0.getD default)
    else
      none
noncomputable def G13x0x39002 (w0 : Int) (w5 : Bool) (w10 : LD) (w15 : Int) : Option (Bool) := F13x0x39002 N w0 w5 w10 w15 (fun p => some p)
theorem bind13x0x39002 (w0 : Int) (w5 : Bool) (w10 : LD) (w15 : Int) (k0 : Bool → Option R) : F13x0x39002 N w0 w5 w10 w15 k0 = (G13x0x39002 N w0 w5 w10 w15).bind k0 := by
  unfold G13x0x39002 F13x0x39002
  repeat' (first | with_reducible apply cond_b | (with_reducible apply bnd_b; intro _) | rfl)
noncomputable def J13x0x39002 (L : List Lf) (k0 : Bool → Option R) : Option R := F13x0x39002 N (li L 0) (lb L 5) (ll L 10) (li L 15) k0
noncomputable def sh13x0x39002 : Sh := { tmps := [(1, .c (.p 1 0)), (3, .c (.i .i64)), (4, .c (.p 4 0)), (43, .c (.sl 78)), (44, .c (.i .i64)), (45, .c (.i .i64)), (50, .c (.b))], mem := [(1, .box (.s :: [.i .i64, .i .i64, .sl 78, .sl 82, .sl 9])), (4, .box (rI 7 ([])))] }
noncomputable def K13x0x39002w0 (L : List Lf) (p : Bool) : Ex × St := (.normal, mg (ofSh sh13x0x39002 L) [1, 4, 43, 44, 45, 50] [(50, .c (.b p))] [1, 4] [])
noncomputable def A13x0x39002 (L : List Lf) : List (Bool × (Ex × St)) := bnd (J13x0x39002 N L (fun p => some p)) fun q => [(q.isSome, K13x0x39002w0 L (q.getD default))]
theorem raw13x0x39002 (L : List Lf) : pc Try.prog (T55x0 N) (h13x0s1 N).h 0 100 13 39002 sh13x0x39002 L [4, 1, 45, 44, 43, 50] [4, 1] = J13x0x39002 N L (fun p => some (K13x0x39002w0 L p)) := by kernel_rfl
noncomputable def h13x0s2 : Sg Try.prog 0 13 :=
  (h13x0s1 N).cut (A13x0x39002 N) progOk (T55x0_ok N) fun L x hx => (raw13x0x39002 N L).trans ((bind13x0x39002 N ..).trans (alt1 x hx))
noncomputable def F13x0x46 (w6 w13 w14 w15 w16 w17 w18 w19 : Int) (k0 : Bool → R) : R :=
  bnd (bif (decide (w13 > 1000000)) then true else (decide ((IntKind.wrap .i64 (w6 + w13)) > 86399999999))) fun y0 =>
  bif y0 then
    k0 true
  else
    bnd (V53x0 N w14 w15 w16 w17 w18 w19) fun y1 =>
    k0 (!y1)
noncomputable def V13x0x46 (w6 w13 w14 w15 w16 w17 w18 w19 : Int) : Bool := F13x0x46 N w6 w13 w14 w15 w16 w17 w18 w19 (fun p => p)
theorem tot13x0x46 (w6 w13 w14 w15 w16 w17 w18 w19 : Int) (k0 : Bool → R) : F13x0x46 N w6 w13 w14 w15 w16 w17 w18 w19 k0 = k0 (V13x0x46 N w6 w13 w14 w15 w16 w17 w18 w19) := by
  unfold V13x0x46 F13x0x46
  repeat' (first | rfl | apply cond_k | (apply bnd_k; intro _))
noncomputable def J13x0x46 (L : List Lf) (k0 : Bool → R) : R := F13x0x46 N (li L 6) (li L 13) (li L 14) (li L 15) (li L 16) (li L 17) (li L 18) (li L 19) k0
noncomputable def sh13x0x46 : Sh := { tmps := [(1, .c (.p 1 0)), (4, .c (.p 4 0)), (43, .c (.sl 78)), (44, .c (.i .i64)), (45, .c (.i .i64))], mem := [(1, .box (.s :: [.i .i64, .i .i64, .sl 78, .sl 82, .sl 9])), (4, .box (rI 7 ([])))] }
noncomputable def K13x0x46w0 (L : List Lf) (p : Bool) : Ex × St := (.normal, mg (ofSh sh13x0x46 L) [1, 43, 44, 45, 72] [(72, .c (.b p))] [1] [])
noncomputable def A13x0x46 (L : List Lf) : List (Bool × (Ex × St)) := bnd (J13x0x46 N L (fun p => p)) fun q => [(true, K13x0x46w0 L q)]
theorem raw13x0x46 (L : List Lf) : pc Try.prog (T55x0 N) (h13x0s2 N).h 0 100 13 46 sh13x0x46 L [45, 44, 43, 1, 72] [1] = J13x0x46 N L (fun p => some (K13x0x46w0 L p)) := by kernel_rfl
noncomputable def h13x0s3 : Sg Try.prog 0 13 :=
  (h13x0s2 N).cut (A13x0x46 N) progOk (T55x0_ok N) fun L x hx => (raw13x0x46 N L).trans ((tot13x0x46 N ..).trans (alt0 _ _ hx))
noncomputable def S13x0x30 (w1 : LD) (w2 w6 : Int) (w8 : LD) (w3 : Int) (kr : Int → Option R) (k0 : Int → Option R) (k1 : Unit → Option R) : Option R :=
  bif (decide (w3 < w2)) then
    bif (inB w3 w1.length) then
      bnd (bif (w3 == 0) then (((w1.getD w3.toNat (.i 0)).cell 0).toI != 0) else false) fun y0 =>
      bnd (G13x0x39002 N w3 y0 w8 ((w1.getD w3.toNat (.i 0)).cell 0).toI) fun y1 =>
      bif y1.isSome then
        bif (y1.getD default) then
          k0 10
        else
          bnd (V13x0x46 N w6 ((w1.getD w3.toNat (.i 0)).cell 0).toI ((w1.getD w3.toNat (.i 0)).cell 1).toI ((w1.getD w3.toNat (.i 0)).cell 2).toI ((w1.getD w3.toNat (.i 0)).cell 3).toI ((w1.getD w3.toNat (.i 0)).cell 4).toI ((w1.getD w3.toNat (.i 0)).cell 5).toI ((w1.getD w3.toNat (.i 0)).cell 6).toI) fun y2 =>
          bif y2 then
            k0 9
          else
            kr (IntKind.wrap .i64 (w3 + 1))
      else
        none
    else
      none
  else
    k1 ()
noncomputable def L13x0x30 (N : Nat) {R : Type} (w1 : LD) (w2 w6 : Int) (w8 : LD) : Nat → Int → (Int → Option R) → (Unit → Option R) → Option R
  | 0, _, _, _ => none
  | m + 1, w3, k0, k1 => S13x0x30 N w1 w2 w6 w8 w3 (fun w3 => L13x0x30 N w1 w2 w6 w8 m w3 k0 k1) k0 k1
noncomputable def G13x0x30 (w1 : LD) (w2 w6 : Int) (w8 : LD) (w3 : Int) : Option (Sum (Int) (Unit)) := L13x0x30 N (R := (Sum (Int) (Unit))) w1 w2 w6 w8 N w3 (fun p => some (.inl p)) (fun p => some (.inr p))
noncomputable def J13x0x30 (L x : List Lf) (kr : List Lf → Option R) (k0 : Int → Option R) (k1 : Unit → Option R) : Option R := S13x0x30 N (ll L 1) (li L 2) (li L 6) (ll L 8) (li x 0) (fun w3 => kr [.i w3]) k0 k1
theorem sb13x0x30 (L x : List Lf) (kr : List Lf → Option R) (k0 : Int → Option R) (k1 : Unit → Option R) : J13x0x30 N L x kr k0 k1 = (J13x0x30 N L x (fun y => some (.inl y)) (fun p => some (.inr (.inl p))) (fun p => some (.inr (.inr p)))).bind (sumE kr (sumE k0 k1)) := by
  unfold J13x0x30 S13x0x30
  repeat' (first | with_reducible apply cond_b | (with_reducible apply bnd_b; intro _) | rfl)
noncomputable def Q13x0x30 (L : List Lf) (m : Nat) (x : List Lf) : Option (Sum (Int) (Unit)) := L13x0x30 N (R := (Sum (Int) (Unit))) (ll L 1) (li L 2) (li L 6) (ll L 8) m (li x 0) (fun p => some (.inl p)) (fun p => some (.inr p))
noncomputable def sh13x0x30 : Sh := { tmps := [(1, .c (.p 1 0)), (43, .c (.sl 78)), (44, .c (.i .i64)), (45, .c (.i .i64))], mem := [(1, .box (.s :: [.i .i64, .i .i64, .sl 78, .sl 82, .sl 9]))] }
noncomputable def K13x0x30w0 (L : List Lf) (p : Int) : Ex × St := (.ret, mg (ofSh sh13x0x30 L) [2] [(2, .c (.i .i64 p))] [1] [])
noncomputable def A13x0x30 (L : List Lf) : List (Bool × (Ex × St)) := bnd (Q13x0x30 N L N (pk sh13x0x30 [3] L)) fun q => [((inlB q), K13x0x30w0 L (inlV q)), ((inrQ q).isSome, ((.exit 1), mg (ofSh sh13x0x30 L) [1] [] [1] []))]
theorem step13x0x30 (m : Nat) (kn : St → Option (Ex × St)) (L x : List Lf) : lpB Try.prog (T55x0 N) (h13x0s3 N).h 0 13 30 sh13x0x30 [3] [2, 1] [1] (m + 100) kn L x = J13x0x30 N L x (fun y => kn (ofSh sh13x0x30 (mx sh13x0x30 [3] L y))) (fun p => some (K13x0x30w0 L p)) (fun _ => some ((.exit 1), mg (ofSh sh13x0x30 L) [1] [] [1] [])) := by kernel_rfl
theorem ql13x0x30 (L : List Lf) (m : Nat) (x : List Lf) : Q13x0x30 N L (m + 1) x = J13x0x30 N L x (Q13x0x30 N L m) (fun p => some (.inl p)) (fun p => some (.inr p)) := by kernel_rfl
noncomputable def h13x0s4 : Sg Try.prog 0 13 :=
  (h13x0s3 N).lp (A13x0x30 N) N progOk (T55x0_ok N) (fun m kn L x => (step13x0x30 N m kn L x).trans (sb13x0x30 N L x _ _ _)) (fun L m x => (ql13x0x30 N L m x).trans (sb13x0x30 N L x (Q13x0x30 N L m) (fun p => some (.inl p)) (fun p => some (.inr p)))) fun L x hx => (altS alt1) x hx
noncomputable def F13x0x73 (N : Nat) (w1 : Int) (w12 : LD) (w15 : Int) (k0 : Bool → Option R) : Option R :=
  bif (decide (w1 > 0)) then
    bif (inB (IntKind.wrap .i64 (w1 - 1)) w12.length) then
      bnd ((w12.getD (IntKind.wrap .i64 (w1 - 1)).toNat (.i 0)).cell 1).toI fun y0 =>
      k0 (decide (w15 < y0))
    else
      none
  else
    k0 false
noncomputable def G13x0x73 (w1 : Int) (w12 : LD) (w15 : Int) : Option (Bool) := F13x0x73 N w1 w12 w15 (fun p => some p)
theorem bind13x0x73 (w1 : Int) (w12 : LD) (w15 : Int) (k0 : Bool → Option R) : F13x0x73 N w1 w12 w15 k0 = (G13x0x73 N w1 w12 w15).bind k0 := by
  unfold G13x0x73 F13x0x73
  repeat' (first | with_reducible apply cond_b | (with_reducible apply bnd_b; intro _) | rfl)
noncomputable def sh13x0x73 : Sh := { tmps := [(1, .c (.p 1 0)), (5, .c (.i .i64)), (6, .c (.i .i64)), (7, .c (.p 7 0)), (93, .c (.sl 82)), (94, .c (.i .i64)), (95, .c (.i .i64))], mem := [(1, .box (.s :: [.i .i64, .i .i64, .sl 78, .sl 82, .sl 9])), (7, .box ([.i .i64, .i .i64, .s]))] }
noncomputable def K13x0x73w0 (L : List Lf) (p : Bool) : Ex × St := (.normal, mg (ofSh sh13x0x73 L) [1, 5, 7, 93, 94, 95, 117] [(117, .c (.b p))] [1, 7] [])
noncomputable def A13x0x73 (L : List Lf) : List (Bool × (Ex × St)) := bnd (F13x0x73 N (li L 1) (ll L 12) (li L 15) (fun p => some p)) fun q => [(q.isSome, K13x0x73w0 L (q.getD default))]
theorem raw13x0x73 (L : List Lf) : pc Try.prog (T55x0 N) (h13x0s4 N).h 0 100 13 73 sh13x0x73 L [7, 95, 94, 93, 5, 1, 117] [7, 1] = F13x0x73 N (li L 1) (ll L 12) (li L 15) (fun p => some (K13x0x73w0 L p)) := by kernel_rfl
noncomputable def h13x0s5 : Sg Try.prog 0 13 :=
  (h13x0s4 N).cut (A13x0x73 N) progOk (T55x0_ok N) fun L x hx => (raw13x0x73 N L).trans ((bind13x0x73 N ..).trans (alt1 x hx))
noncomputable def S13x0x60 (w0 : Int) (w2 : LD) (w3 : Int) (w11 : LD) (w4 : Int) (kr : Int → Option R) (k0 : Int → Option R) (k1 : Unit → Option R) : Option R :=
  bif (decide (w4 < w3)) then
    bif (inB w4 w2.length) then
      bnd (bif (decide (((w2.getD w4.toNat (.i 0)).cell 0).toI < 0)) then true else (decide (((w2.getD w4.toNat (.i 0)).cell 0).toI ≥ ((w2.getD w4.toNat (.i 0)).cell 1).toI))) fun y0 =>
      bnd (bif y0 then true else (decide (((w2.getD w4.toNat (.i 0)).cell 1).toI > w0))) fun y1 =>
      bif y1 then
        k0 9
      else
        bnd (G13x0x73 N w4 w11 ((w2.getD w4.toNat (.i 0)).cell 0).toI) fun y2 =>
        bif y2.isSome then
          bif (y2.getD default) then
            k0 10
          else
            bnd (G55x0 N ((w2.getD w4.toNat (.i 0)).cell 2).toS) fun y3 =>
            bif y3.isSome then
              bif (!(y3.getD default)) then
                k0 8
              else
                kr (IntKind.wrap .i64 (w4 + 1))
            else
              none
        else
          none
    else
      none
  else
    k1 ()
noncomputable def L13x0x60 (N : Nat) {R : Type} (w0 : Int) (w2 : LD) (w3 : Int) (w11 : LD) : Nat → Int → (Int → Option R) → (Unit → Option R) → Option R
  | 0, _, _, _ => none
  | m + 1, w4, k0, k1 => S13x0x60 N w0 w2 w3 w11 w4 (fun w4 => L13x0x60 N w0 w2 w3 w11 m w4 k0 k1) k0 k1
noncomputable def G13x0x60 (w0 : Int) (w2 : LD) (w3 : Int) (w11 : LD) (w4 : Int) : Option (Sum (Int) (Unit)) := L13x0x60 N (R := (Sum (Int) (Unit))) w0 w2 w3 w11 N w4 (fun p => some (.inl p)) (fun p => some (.inr p))
noncomputable def J13x0x60 (L x : List Lf) (kr : List Lf → Option R) (k0 : Int → Option R) (k1 : Unit → Option R) : Option R := S13x0x60 N (li L 0) (ll L 2) (li L 3) (ll L 11) (li x 0) (fun w4 => kr [.i w4]) k0 k1
theorem sb13x0x60 (L x : List Lf) (kr : List Lf → Option R) (k0 : Int → Option R) (k1 : Unit → Option R) : J13x0x60 N L x kr k0 k1 = (J13x0x60 N L x (fun y => some (.inl y)) (fun p => some (.inr (.inl p))) (fun p => some (.inr (.inr p)))).bind (sumE kr (sumE k0 k1)) := by
  unfold J13x0x60 S13x0x60
  repeat' (first | with_reducible apply cond_b | (with_reducible apply bnd_b; intro _) | rfl)
noncomputable def Q13x0x60 (L : List Lf) (m : Nat) (x : List Lf) : Option (Sum (Int) (Unit)) := L13x0x60 N (R := (Sum (Int) (Unit))) (li L 0) (ll L 2) (li L 3) (ll L 11) m (li x 0) (fun p => some (.inl p)) (fun p => some (.inr p))
noncomputable def sh13x0x60 : Sh := { tmps := [(1, .c (.p 1 0)), (5, .c (.i .i64)), (93, .c (.sl 82)), (94, .c (.i .i64)), (95, .c (.i .i64))], mem := [(1, .box (.s :: [.i .i64, .i .i64, .sl 78, .sl 82, .sl 9]))] }
noncomputable def K13x0x60w0 (L : List Lf) (p : Int) : Ex × St := (.ret, mg (ofSh sh13x0x60 L) [2] [(2, .c (.i .i64 p))] [1] [])
noncomputable def A13x0x60 (L : List Lf) : List (Bool × (Ex × St)) := bnd (Q13x0x60 N L N (pk sh13x0x60 [4] L)) fun q => [((inlB q), K13x0x60w0 L (inlV q)), ((inrQ q).isSome, ((.exit 4), mg (ofSh sh13x0x60 L) [1] [] [1] []))]
theorem step13x0x60 (m : Nat) (kn : St → Option (Ex × St)) (L x : List Lf) : lpB Try.prog (T55x0 N) (h13x0s5 N).h 0 13 60 sh13x0x60 [4] [2, 1] [1] (m + 100) kn L x = J13x0x60 N L x (fun y => kn (ofSh sh13x0x60 (mx sh13x0x60 [4] L y))) (fun p => some (K13x0x60w0 L p)) (fun _ => some ((.exit 4), mg (ofSh sh13x0x60 L) [1] [] [1] [])) := by kernel_rfl
theorem ql13x0x60 (L : List Lf) (m : Nat) (x : List Lf) : Q13x0x60 N L (m + 1) x = J13x0x60 N L x (Q13x0x60 N L m) (fun p => some (.inl p)) (fun p => some (.inr p)) := by kernel_rfl
noncomputable def h13x0s6 : Sg Try.prog 0 13 :=
  (h13x0s5 N).lp (A13x0x60 N) N progOk (T55x0_ok N) (fun m kn L x => (step13x0x60 N m kn L x).trans (sb13x0x60 N L x _ _ _)) (fun L m x => (ql13x0x60 N L m x).trans (sb13x0x60 N L x (Q13x0x60 N L m) (fun p => some (.inl p)) (fun p => some (.inr p)))) fun L x hx => (altS alt1) x hx
noncomputable def S13x0x90 (w1 : LD) (w2 : Int) (w12 : LD) (w3 : Int) (kr : Int → Option R) (k0 : Int → Option R) (k1 : Unit → Option R) : Option R :=
  bif (decide (w3 < w2)) then
    bif (inB w3 w1.length) then
      bnd (G51x0 N (w1.getD w3.toNat (.i 0)).toS) fun y0 =>
      bif y0.isSome then
        bif (!(y0.getD default)) then
          k0 8
        else
          bif (bif (inB (IntKind.wrap .i64 (w3 - 1)) w12.length) then true else (!((decide (w3 > 0)) == true))) then
            bnd (bif (decide (w3 > 0)) then ((Op.bytesLess (w1.getD w3.toNat (.i 0)).toS (w12.getD (IntKind.wrap .i64 (w3 - 1)).toNat (.i 0)).toS) || ((w1.getD w3.toNat (.i 0)).toS == (w12.getD (IntKind.wrap .i64 (w3 - 1)).toNat (.i 0)).toS)) else false) fun y1 =>
            bif y1 then
              k0 10
            else
              kr (IntKind.wrap .i64 (w3 + 1))
          else
            none
      else
        none
    else
      none
  else
    k1 ()
noncomputable def L13x0x90 (N : Nat) {R : Type} (w1 : LD) (w2 : Int) (w12 : LD) : Nat → Int → (Int → Option R) → (Unit → Option R) → Option R
  | 0, _, _, _ => none
  | m + 1, w3, k0, k1 => S13x0x90 N w1 w2 w12 w3 (fun w3 => L13x0x90 N w1 w2 w12 m w3 k0 k1) k0 k1
noncomputable def G13x0x90 (w1 : LD) (w2 : Int) (w12 : LD) (w3 : Int) : Option (Sum (Int) (Unit)) := L13x0x90 N (R := (Sum (Int) (Unit))) w1 w2 w12 N w3 (fun p => some (.inl p)) (fun p => some (.inr p))
noncomputable def J13x0x90 (L x : List Lf) (kr : List Lf → Option R) (k0 : Int → Option R) (k1 : Unit → Option R) : Option R := S13x0x90 N (ll L 1) (li L 2) (ll L 12) (li x 0) (fun w3 => kr [.i w3]) k0 k1
theorem sb13x0x90 (L x : List Lf) (kr : List Lf → Option R) (k0 : Int → Option R) (k1 : Unit → Option R) : J13x0x90 N L x kr k0 k1 = (J13x0x90 N L x (fun y => some (.inl y)) (fun p => some (.inr (.inl p))) (fun p => some (.inr (.inr p)))).bind (sumE kr (sumE k0 k1)) := by
  unfold J13x0x90 S13x0x90
  repeat' (first | with_reducible apply cond_b | (with_reducible apply bnd_b; intro _) | rfl)
noncomputable def Q13x0x90 (L : List Lf) (m : Nat) (x : List Lf) : Option (Sum (Int) (Unit)) := L13x0x90 N (R := (Sum (Int) (Unit))) (ll L 1) (li L 2) (ll L 12) m (li x 0) (fun p => some (.inl p)) (fun p => some (.inr p))
noncomputable def sh13x0x90 : Sh := { tmps := [(1, .c (.p 1 0)), (139, .c (.sl 9)), (140, .c (.i .i64)), (141, .c (.i .i64))], mem := [(1, .box (.s :: [.i .i64, .i .i64, .sl 78, .sl 82, .sl 9]))] }
noncomputable def A13x0x90 (L : List Lf) : List (Bool × (Ex × St)) := bnd (Q13x0x90 N L N (pk sh13x0x90 [3] L)) fun q => [((inlB q), (.ret, ⟨[(2, .c (.i .i64 (inlV q)))], []⟩)), ((inrQ q).isSome, ((.exit 7), ⟨[], []⟩))]
theorem step13x0x90 (m : Nat) (kn : St → Option (Ex × St)) (L x : List Lf) : lpB Try.prog (T55x0 N) (h13x0s6 N).h 0 13 90 sh13x0x90 [3] [2] [] (m + 100) kn L x = J13x0x90 N L x (fun y => kn (ofSh sh13x0x90 (mx sh13x0x90 [3] L y))) (fun p => some (.ret, ⟨[(2, .c (.i .i64 p))], []⟩)) (fun _ => some ((.exit 7), ⟨[], []⟩)) := by kernel_rfl
theorem ql13x0x90 (L : List Lf) (m : Nat) (x : List Lf) : Q13x0x90 N L (m + 1) x = J13x0x90 N L x (Q13x0x90 N L m) (fun p => some (.inl p)) (fun p => some (.inr p)) := by kernel_rfl
noncomputable def h13x0s7 : Sg Try.prog 0 13 :=
  (h13x0s6 N).lp (A13x0x90 N) N progOk (T55x0_ok N) (fun m kn L x => (step13x0x90 N m kn L x).trans (sb13x0x90 N L x _ _ _)) (fun L m x => (ql13x0x90 N L m x).trans (sb13x0x90 N L x (Q13x0x90 N L m) (fun p => some (.inl p)) (fun p => some (.inr p)))) fun L x hx => (altS alt1) x hx
noncomputable def F13x0 (v0 : LB) (v1 v2 : Int) (v4 v6 v8 : LD) (k0 : Int → Option R) : Option R :=
  bnd (G51x0 N v0) fun y0 =>
  bif y0.isSome then
    bif (!(y0.getD default)) then
      k0 8
    else
      bnd (V52x0 N v1 1 5) fun y1 =>
      bif (!y1) then
        k0 7
      else
        bnd (V52x0 N v2 0 86399999999) fun y2 =>
        bif (!y2) then
          k0 9
        else
          bnd (bif (decide ((v4.length : Int) > 20000)) then true else (decide ((v6.length : Int) > 200))) fun y3 =>
          bnd (bif y3 then true else (decide ((v8.length : Int) > 20))) fun y4 =>
          bif y4 then
            k0 3
          else
            bnd (G13x0x30 N v4 (v4.length : Int) v2 v4 0) fun y5 =>
            bif (inlB y5) then
              k0 (inlV y5)
            else
              bif (inrQ y5).isSome then
                bnd (G54x0 N v4) fun y6 =>
                bif y6.isSome then
                  bnd (G13x0x60 N (y6.getD default) v6 (v6.length : Int) v6 0) fun y7 =>
                  bif (inlB y7) then
                    k0 (inlV y7)
                  else
                    bif (inrQ y7).isSome then
                      bnd (G13x0x90 N v8 (v8.length : Int) v8 0) fun y8 =>
                      bif (inlB y8) then
                        k0 (inlV y8)
                      else
                        bif (inrQ y8).isSome then
                          k0 0
                        else
                          none
                    else
                      none
                else
                  none
              else
                none
  else
    none
noncomputable def G13x0 (v0 : LB) (v1 v2 : Int) (v4 v6 v8 : LD) : Option (Int) := F13x0 N v0 v1 v2 v4 v6 v8 (fun p => some p)
theorem bind13x0 (v0 : LB) (v1 v2 : Int) (v4 v6 v8 : LD) (k0 : Int → Option R) : F13x0 N v0 v1 v2 v4 v6 v8 k0 = (G13x0 N v0 v1 v2 v4 v6 v8).bind k0 := by
  unfold G13x0 F13x0
  repeat' (first | with_reducible apply cond_b | (with_reducible apply bnd_b; intro _) | rfl)
noncomputable def J13x0 (L : List Lf) (k0 : Int → Option R) : Option R := F13x0 N (ls L 0) (li L 1) (li L 2) (ll L 4) (ll L 6) (ll L 8) k0
noncomputable def sh13x0 : Sh := { tmps := [(0, .g (.s :: [.i .i64, .i .i64, .sl 78, .sl 82, .sl 9]))], mem := [] }
noncomputable def A13x0 (L : List Lf) : List (Bool × Res) := bnd (J13x0 N L (fun p => some p)) fun q => [(q.isSome, ([.c (.i .i64 (q.getD default))], []))]
theorem raw13x0 (L : List Lf) : bd Try.prog (T55x0 N) (h13x0s7 N).h 13 sh13x0 L = J13x0 N L (fun p => some ([.c (.i .i64 p)], [])) := by kernel_rfl
theorem ok13x0 : FnOk Try.prog 13 sh13x0 (A13x0 N) :=
  (h13x0s7 N).fn progOk (T55x0_ok N) fun L x hx => ((raw13x0 N L).trans ((bind13x0 N ..).trans (alt1 x hx)))
noncomputable def T13x0 : Oracle := ext 13 (spSh sh13x0 (A13x0 N)) (T55x0 N)
theorem T13x0_ok : OracleOk Try.prog (T13x0 N) := FnOk.to (ok13x0 N) (T55x0_ok N)
noncomputable def rg41x0 : List (Nat × List Nat) := [(0, [0]), (1, [1, 2]), (2, [4, 2, 1]), (3, [4, 2]), (4, [1, 2]), (5, [5, 2]), (6, [5, 6, 2]), (7, [5, 6, 2, 7]), (8, [23, 22, 21, 6, 2, 5, 7]), (9, [21, 23, 6, 2, 5, 22, 7]), (10, [9, 6, 2, 5, 23, 22, 21, 7]), (11, [9, 6, 2, 5]), (12, [9, 6, 2, 5]), (13, [23, 22, 21, 6, 2, 5, 7]), (14, [7, 6, 2, 5]), (15, [2]), (16, [5, 6, 2]), (17, [58, 57, 56, 6, 2]), (18, [56, 58, 6, 2, 57]), (19, [11, 6, 2, 58, 57, 56]), (20, [2]), (21, [58, 57, 56, 6, 2]), (22, [6, 2]), (23, [12, 2, 6]), (24, [12, 2]), (25, [6, 2])]
noncomputable def hd41x0 : Hints := [(24, [23, 22, 21, 6, 2, 5, 7], [6, 2, 50006005, 50006004, 50006003], [50006005, 50006004, 50006003]), (51, [58, 57, 56, 6, 2], [50006005, 50006004, 50006003, 6, 2], [50006005, 50006004, 50006003]), (58, [11, 6, 2, 58, 57, 56], [11, 50006005, 50006004, 50006003, 6, 2], [])]
noncomputable def h41x0s0 (N : Nat) : Sg Try.prog 0 41 := .start hd41x0 rg41x0
noncomputable def S41x0x24 (w2 : Bool) (w4 : LD) (w5 : Int) (w16 : LB) (w17 w18 : Int) (w6 : Int) (kr : Int → Option R) (k0 : Ty7 → Option R) : Option R :=
  bif (decide (w6 < w5)) then
    bif (inB w6 w4.length) then
      bif (((w4.getD w6.toNat (.i 0)).cell 0).toI == 0) then
        bnd (G86x0 N ((w4.getD w6.toNat (.i 0)).cell 2).items 1) fun y0 =>
        bif y0.isSome then
          bnd (G87x0 N ((w4.getD w6.toNat (.i 0)).cell 2).items 2 0) fun y1 =>
          bif y1.isSome then
            k0 ((y1.getD default).2, (y0.getD default), (y1.getD default).1, ((w4.getD w6.toNat (.i 0)).cell 1).toI)
          else
            none
        else
          none
      else
        kr (IntKind.wrap .i64 (w6 + 1))
    else
      none
  else
    k0 (w2, w16, w17, w18)
noncomputable def L41x0x24 (N : Nat) {R : Type} (w2 : Bool) (w4 : LD) (w5 : Int) (w16 : LB) (w17 w18 : Int) : Nat → Int → (Ty7 → Option R) → Option R
  | 0, _, _ => none
  | m + 1, w6, k0 => S41x0x24 N w2 w4 w5 w16 w17 w18 w6 (fun w6 => L41x0x24 N w2 w4 w5 w16 w17 w18 m w6 k0) k0
noncomputable def G41x0x24 (w2 : Bool) (w4 : LD) (w5 : Int) (w16 : LB) (w17 w18 : Int) (w6 : Int) : Option (Ty7) := L41x0x24 N (R := (Ty7)) w2 w4 w5 w16 w17 w18 N w6 (fun p => some p)
noncomputable def J41x0x24 (L x : List Lf) (kr : List Lf → Option R) (k0 : Ty7 → Option R) : Option R := S41x0x24 N (lb L 2) (ll L 4) (li L 5) (ls L 16) (li L 17) (li L 18) (li x 0) (fun w6 => kr [.i w6]) k0
theorem sb41x0x24 (L x : List Lf) (kr : List Lf → Option R) (k0 : Ty7 → Option R) : J41x0x24 N L x kr k0 = (J41x0x24 N L x (fun y => some (.inl y)) (fun p => some (.inr p))).bind (sumE kr k0) := by
  unfold J41x0x24 S41x0x24
  repeat' (first | with_reducible apply cond_b | (with_reducible apply bnd_b; intro _) | rfl)
noncomputable def Q41x0x24 (L : List Lf) (m : Nat) (x : List Lf) : Option (Ty7) := L41x0x24 N (R := (Ty7)) (lb L 2) (ll L 4) (li L 5) (ls L 16) (li L 17) (li L 18) m (li x 0) (fun p => some p)
noncomputable def sh41x0x24 : Sh := { tmps := [(2, .c (.p 2 0)), (5, .c (.sl 129)), (6, .c (.p 6 0)), (7, .c (.b)), (21, .c (.sl 129)), (22, .c (.i .i64)), (23, .c (.i .i64))], mem := [(2, .box (.s :: [.i .i64, .i .i64, .sl 78, .sl 82, .sl 9])), (6, .box (.s :: [.i .i64, .i .i64, .o 50006003, .o 50006004, .o 50006005])), (50006003, .row 78 true), (50006004, .row 82 true), (50006005, .row 9 true)] }
noncomputable def K41x0x24w0 (L : List Lf) (p : Ty7) : Ex × St := ((.exit 0), mg (ofSh sh41x0x24 L) [2, 5, 6, 7] [(7, .c (.b p.1))] [2, 6, 50006003, 50006004, 50006005] [(6, .box [.s p.2.1, .i .i64 p.2.2.1, .i .i64 p.2.2.2, .o 50006003, .o 50006004, .o 50006005])])
noncomputable def A41x0x24 (L : List Lf) : List (Bool × (Ex × St)) := bnd (Q41x0x24 N L N (pk sh41x0x24 [6] L)) fun q => [(q.isSome, K41x0x24w0 L (q.getD default))]
theorem step41x0x24 (m : Nat) (kn : St → Option (Ex × St)) (L x : List Lf) : lpB Try.prog (T13x0 N) (h41x0s0 N).h 0 41 24 sh41x0x24 [6] [2, 3, 7, 6, 5] [50006005, 50006004, 50006003, 6, 2] (m + 100) kn L x = J41x0x24 N L x (fun y => kn (ofSh sh41x0x24 (mx sh41x0x24 [6] L y))) (fun p => some (K41x0x24w0 L p)) := by kernel_rfl
theorem ql41x0x24 (L : List Lf) (m : Nat) (x : List Lf) : Q41x0x24 N L (m + 1) x = J41x0x24 N L x (Q41x0x24 N L m) some := by kernel_rfl
noncomputable def h41x0s1 : Sg Try.prog 0 41 :=
  (h41x0s0 N).lp (A41x0x24 N) N progOk (T13x0_ok N) (fun m kn L x => (step41x0x24 N m kn L x).trans (sb41x0x24 N L x _ _)) (fun L m x => (ql41x0x24 N L m x).trans (sb41x0x24 N L x (Q41x0x24 N L m) some)) fun L x hx => alt1 x hx
noncomputable def F41x0x58 (w15 w16 w17 : Int) (w19 w21 w23 w25 : LD) (k0 : Bool × LD → Option R) (k1 : Bool × LD → Option R) (k2 : Bool × LD → Option R) (k3 : Unit → Option R) : Option R :=
  bnd (G88x0 N w16 w17 w19 w15 w21 w23 w25) fun y0 =>
  bif (inlB y0) then
    k0 ((!(inlV y0).1), (inlV y0).2)
  else
    bif (inlB (inrQ y0)) then
      k1 ((!(inlV (inrQ y0)).1), (inlV (inrQ y0)).2)
    else
      bif (inlB (inrQ (inrQ y0))) then
        k2 ((!(inlV (inrQ (inrQ y0))).1), (inlV (inrQ (inrQ y0))).2)
      else
        bif (inrQ (inrQ (inrQ y0))).isSome then
          k3 ()
        else
          none
noncomputable def G41x0x58 (w15 w16 w17 : Int) (w19 w21 w23 w25 : LD) : Option (Sum (Bool × LD) (Sum (Bool × LD) (Sum (Bool × LD) (Unit)))) := F41x0x58 N w15 w16 w17 w19 w21 w23 w25 (fun p => some (.inl p)) (fun p => some (.inr (.inl p))) (fun p => some (.inr (.inr (.inl p)))) (fun p => some (.inr (.inr (.inr p))))
theorem bind41x0x58 (w15 w16 w17 : Int) (w19 w21 w23 w25 : LD) (k0 : Bool × LD → Option R) (k1 : Bool × LD → Option R) (k2 : Bool × LD → Option R) (k3 : Unit → Option R) : F41x0x58 N w15 w16 w17 w19 w21 w23 w25 k0 k1 k2 k3 = (G41x0x58 N w15 w16 w17 w19 w21 w23 w25).bind (sumE k0 (sumE k1 (sumE k2 k3))) := by
  unfold G41x0x58 F41x0x58
  repeat' (first | with_reducible apply cond_b | (with_reducible apply bnd_b; intro _) | rfl)
noncomputable def J41x0x58 (L : List Lf) (k0 : Bool × LD → Option R) (k1 : Bool × LD → Option R) (k2 : Bool × LD → Option R) (k3 : Unit → Option R) : Option R := F41x0x58 N (li L 15) (li L 16) (li L 17) (ll L 19) (ll L 21) (ll L 23) (ll L 25) k0 k1 k2 k3
noncomputable def sh41x0x58 : Sh := { tmps := [(2, .c (.p 2 0)), (6, .c (.p 6 0)), (11, .c (.p 11 0)), (56, .c (.sl 129)), (57, .c (.i .i64)), (58, .c (.i .i64))], mem := [(2, .box (.s :: [.i .i64, .i .i64, .sl 78, .sl 82, .sl 9])), (6, .box (.s :: [.i .i64, .i .i64, .o 50006003, .o 50006004, .o 50006005])), (11, .box ([.i .i64, .i .i64, .sl 65])), (50006003, .row 78 true), (50006004, .row 82 true), (50006005, .row 9 true)] }
noncomputable def K41x0x58w0 (L : List Lf) (p : Bool × LD) : Ex × St := (.normal, mg (ofSh sh41x0x58 L) [2, 6, 56, 57, 58, 64] [(64, .c (.b p.1))] [2, 6, 50006004, 50006005, 64000000092] [(6, .box [.s (ls L 13), .i .i64 (li L 14), .i .i64 (li L 15), .o 64000000092, .o 50006004, .o 50006005]), (64000000092, .row 78 true false p.2)])
noncomputable def K41x0x58w1 (L : List Lf) (p : Bool × LD) : Ex × St := (.normal, mg (ofSh sh41x0x58 L) [2, 6, 56, 57, 58, 64] [(64, .c (.b p.1))] [2, 6, 50006003, 50006005, 64000000125] [(6, .box [.s (ls L 13), .i .i64 (li L 14), .i .i64 (li L 15), .o 50006003, .o 64000000125, .o 50006005]), (64000000125, .row 82 true false p.2)])
noncomputable def K41x0x58w2 (L : List Lf) (p : Bool × LD) : Ex × St := (.normal, mg (ofSh sh41x0x58 L) [2, 6, 56, 57, 58, 64] [(64, .c (.b p.1))] [2, 6, 50006003, 50006004, 64000000145] [(6, .box [.s (ls L 13), .i .i64 (li L 14), .i .i64 (li L 15), .o 50006003, .o 50006004, .o 64000000145]), (64000000145, .row 9 true false p.2)])
noncomputable def K41x0x58w3 (L : List Lf) (_ : Unit) : Ex × St := (.normal, mg (ofSh sh41x0x58 L) [2, 6, 56, 57, 58, 64] [(64, .c (.b false))] [2, 6, 50006003, 50006004, 50006005] [])
noncomputable def A41x0x58 (L : List Lf) : List (Bool × (Ex × St)) := bnd (J41x0x58 N L (fun p => some (.inl p)) (fun p => some (.inr (.inl p))) (fun p => some (.inr (.inr (.inl p)))) (fun p => some (.inr (.inr (.inr p))))) fun q => [((inlB q), K41x0x58w0 L (inlV q)), ((inlB (inrQ q)), K41x0x58w1 L (inlV (inrQ q))), ((inlB (inrQ (inrQ q))), K41x0x58w2 L (inlV (inrQ (inrQ q)))), ((inrQ (inrQ (inrQ q))).isSome, K41x0x58w3 L ())]
theorem raw41x0x58 (L : List Lf) : pc Try.prog (T13x0 N) (h41x0s1 N).h 0 100 41 58 sh41x0x58 L [2, 58, 57, 56, 6, 64] [50006005, 50006004, 64000000092, 6, 2, 64000000125, 50006003, 64000000145] = J41x0x58 N L (fun p => some (K41x0x58w0 L p)) (fun p => some (K41x0x58w1 L p)) (fun p => some (K41x0x58w2 L p)) (fun _ => some (K41x0x58w3 L ())) := by kernel_rfl
noncomputable def h41x0s2 : Sg Try.prog 0 41 :=
  (h41x0s1 N).cut (A41x0x58 N) progOk (T13x0_ok N) fun L x hx => (raw41x0x58 N L).trans ((bind41x0x58 N ..).trans ((altS (altS (altS alt1))) x hx))
noncomputable def S41x0x51 (w1 : LD) (w2 w15 : Int) (w3 : Int) (w16 : Bool) (w17 : LD) (w18 : Bool) (w19 : LD) (w20 : Bool) (w21 : LD) (kr : Int → Bool → LD → Bool → LD → Bool → LD → Option R) (k0 : Ty3 → Option R) (k1 : Ty3 → Option R) (k2 : Ty3 → Option R) (k3 : Ty2 → Option R) : Option R :=
  bif (decide (w3 < w2)) then
    bif (inB w3 w1.length) then
      bnd (G41x0x58 N w15 ((w1.getD w3.toNat (.i 0)).cell 0).toI ((w1.getD w3.toNat (.i 0)).cell 1).toI ((w1.getD w3.toNat (.i 0)).cell 2).items w17 w19 w21) fun y0 =>
      bif (inlB y0) then
        bif (inlV y0).1 then
          k0 (([] : List UInt8), w18, w19, w20, w21)
        else
          kr (IntKind.wrap .i64 (w3 + 1)) false (inlV y0).2 w18 w19 w20 w21
      else
        bif (inlB (inrQ y0)) then
          bif (inlV (inrQ y0)).1 then
            k1 (([] : List UInt8), w16, w17, w20, w21)
          else
            kr (IntKind.wrap .i64 (w3 + 1)) w16 w17 false (inlV (inrQ y0)).2 w20 w21
        else
          bif (inlB (inrQ (inrQ y0))) then
            bif (inlV (inrQ (inrQ y0))).1 then
              k2 (([] : List UInt8), w16, w17, w18, w19)
            else
              kr (IntKind.wrap .i64 (w3 + 1)) w16 w17 w18 w19 false (inlV (inrQ (inrQ y0))).2
          else
            bif (inrQ (inrQ (inrQ y0))).isSome then
              kr (IntKind.wrap .i64 (w3 + 1)) w16 w17 w18 w19 w20 w21
            else
              none
    else
      none
  else
    k3 (w16, w17, w18, w19, w20, w21)
noncomputable def L41x0x51 (N : Nat) {R : Type} (w1 : LD) (w2 w15 : Int) : Nat → Int → Bool → LD → Bool → LD → Bool → LD → (Ty3 → Option R) → (Ty3 → Option R) → (Ty3 → Option R) → (Ty2 → Option R) → Option R
  | 0, _, _, _, _, _, _, _, _, _, _, _ => none
  | m + 1, w3, w16, w17, w18, w19, w20, w21, k0, k1, k2, k3 => S41x0x51 N w1 w2 w15 w3 w16 w17 w18 w19 w20 w21 (fun w3 w16 w17 w18 w19 w20 w21 => L41x0x51 N w1 w2 w15 m w3 w16 w17 w18 w19 w20 w21 k0 k1 k2 k3) k0 k1 k2 k3
noncomputable def G41x0x51 (w1 : LD) (w2 w15 : Int) (w3 : Int) (w16 : Bool) (w17 : LD) (w18 : Bool) (w19 : LD) (w20 : Bool) (w21 : LD) : Option (Sum (Ty3) (Sum (Ty3) (Sum (Ty3) (Ty2)))) := L41x0x51 N (R := (Sum (Ty3) (Sum (Ty3) (Sum (Ty3) (Ty2))))) w1 w2 w15 N w3 w16 w17 w18 w19 w20 w21 (fun p => some (.inl p)) (fun p => some (.inr (.inl p))) (fun p => some (.inr (.inr (.inl p)))) (fun p => some (.inr (.inr (.inr p))))
noncomputable def J41x0x51 (L x : List Lf) (kr : List Lf → Option R) (k0 : Ty3 → Option R) (k1 : Ty3 → Option R) (k2 : Ty3 → Option R) (k3 : Ty2 → Option R) : Option R := S41x0x51 N (ll L 1) (li L 2) (li L 15) (li x 0) (lb x 1) (ll x 2) (lb x 3) (ll x 4) (lb x 5) (ll x 6) (fun w3 w16 w17 w18 w19 w20 w21 => kr [.i w3, .b w16, .l w17, .b w18, .l w19, .b w20, .l w21]) k0 k1 k2 k3
theorem sb41x0x51 (L x : List Lf) (kr : List Lf → Option R) (k0 : Ty3 → Option R) (k1 : Ty3 → Option R) (k2 : Ty3 → Option R) (k3 : Ty2 → Option R) : J41x0x51 N L x kr k0 k1 k2 k3 = (J41x0x51 N L x (fun y => some (.inl y)) (fun p => some (.inr (.inl p))) (fun p => some (.inr (.inr (.inl p)))) (fun p => some (.inr (.inr (.inr (.inl p))))) (fun p => some (.inr (.inr (.inr (.inr p)))))).bind (sumE kr (sumE k0 (sumE k1 (sumE k2 k3)))) := by
  unfold J41x0x51 S41x0x51
  repeat' (first | with_reducible apply cond_b | (with_reducible apply bnd_b; intro _) | rfl)
noncomputable def Q41x0x51 (L : List Lf) (m : Nat) (x : List Lf) : Option (Sum (Ty3) (Sum (Ty3) (Sum (Ty3) (Ty2)))) := L41x0x51 N (R := (Sum (Ty3) (Sum (Ty3) (Sum (Ty3) (Ty2))))) (ll L 1) (li L 2) (li L 15) m (li x 0) (lb x 1) (ll x 2) (lb x 3) (ll x 4) (lb x 5) (ll x 6) (fun p => some (.inl p)) (fun p => some (.inr (.inl p))) (fun p => some (.inr (.inr (.inl p)))) (fun p => some (.inr (.inr (.inr p))))
noncomputable def sh41x0x51 : Sh := { tmps := [(2, .c (.p 2 0)), (6, .c (.p 6 0)), (56, .c (.sl 129)), (57, .c (.i .i64)), (58, .c (.i .i64))], mem := [(2, .box (.s :: [.i .i64, .i .i64, .sl 78, .sl 82, .sl 9])), (6, .box (.s :: [.i .i64, .i .i64, .o 50006003, .o 50006004, .o 50006005])), (50006003, .row 78 true), (50006004, .row 82 true), (50006005, .row 9 true)] }
noncomputable def K41x0x51w0 (L : List Lf) (p : Ty3) : Ex × St := (.ret, ⟨[(2, .c (.p 2 0)), (3, .c (.i .i64 2))], [(2, .box [.s p.1, .i .i64 0, .i .i64 0, .sl 78 true [], .sl 82 true [], .sl 9 true []]), (6, .box [.s (ls L 13), .i .i64 (li L 14), .i .i64 (li L 15), .o 64000000092, .o 50006004, .o 50006005]), (50006004, .row 82 true p.2.1 p.2.2.1), (50006005, .row 9 true p.2.2.2.1 p.2.2.2.2)]⟩)
noncomputable def K41x0x51w1 (L : List Lf) (p : Ty3) : Ex × St := (.ret, ⟨[(2, .c (.p 2 0)), (3, .c (.i .i64 2))], [(2, .box [.s p.1, .i .i64 0, .i .i64 0, .sl 78 true [], .sl 82 true [], .sl 9 true []]), (6, .box [.s (ls L 13), .i .i64 (li L 14), .i .i64 (li L 15), .o 50006003, .o 64000000125, .o 50006005]), (50006003, .row 78 true p.2.1 p.2.2.1), (50006005, .row 9 true p.2.2.2.1 p.2.2.2.2)]⟩)
noncomputable def K41x0x51w2 (L : List Lf) (p : Ty3) : Ex × St := (.ret, ⟨[(2, .c (.p 2 0)), (3, .c (.i .i64 2))], [(2, .box [.s p.1, .i .i64 0, .i .i64 0, .sl 78 true [], .sl 82 true [], .sl 9 true []]), (6, .box [.s (ls L 13), .i .i64 (li L 14), .i .i64 (li L 15), .o 50006003, .o 50006004, .o 64000000145]), (50006003, .row 78 true p.2.1 p.2.2.1), (50006004, .row 82 true p.2.2.2.1 p.2.2.2.2)]⟩)
noncomputable def K41x0x51w3 (L : List Lf) (p : Ty2) : Ex × St := let p1 := p.2; let p2 := p1.2; let p3 := p2.2; let p4 := p3.2; let p5 := p4.2; ((.exit 2), mg (ofSh sh41x0x51 L) [2, 6] [] [2, 6, 50006003, 50006004, 50006005] [(50006003, .row 78 true p.1 p1.1), (50006004, .row 82 true p2.1 p3.1), (50006005, .row 9 true p4.1 p5)])
noncomputable def A41x0x51 (L : List Lf) : List (Bool × (Ex × St)) := bnd (Q41x0x51 N L N (pk sh41x0x51 [3, 16, 17, 18, 19, 20, 21] L)) fun q => [((inlB q), K41x0x51w0 L (inlV q)), ((inlB (inrQ q)), K41x0x51w1 L (inlV (inrQ q))), ((inlB (inrQ (inrQ q))), K41x0x51w2 L (inlV (inrQ (inrQ q)))), ((inrQ (inrQ (inrQ q))).isSome, K41x0x51w3 L ((inrQ (inrQ (inrQ q))).getD default))]
theorem step41x0x51 (m : Nat) (kn : St → Option (Ex × St)) (L x : List Lf) : lpB Try.prog (T13x0 N) (h41x0s2 N).h 0 41 51 sh41x0x51 [3, 16, 17, 18, 19, 20, 21] [2, 3, 6] [2, 50006005, 50006004, 50006003, 6] (m + 100) kn L x = J41x0x51 N L x (fun y => kn (ofSh sh41x0x51 (mx sh41x0x51 [3, 16, 17, 18, 19, 20, 21] L y))) (fun p => some (K41x0x51w0 L p)) (fun p => some (K41x0x51w1 L p)) (fun p => some (K41x0x51w2 L p)) (fun p => some (K41x0x51w3 L p)) := by kernel_rfl
theorem ql41x0x51 (L : List Lf) (m : Nat) (x : List Lf) : Q41x0x51 N L (m + 1) x = J41x0x51 N L x (Q41x0x51 N L m) (fun p => some (.inl p)) (fun p => some (.inr (.inl p))) (fun p => some (.inr (.inr (.inl p)))) (fun p => some (.inr (.inr (.inr p)))) := by kernel_rfl
noncomputable def h41x0s3 : Sg Try.prog 0 41 :=
  (h41x0s2 N).lp (A41x0x51 N) N progOk (T13x0_ok N) (fun m kn L x => (step41x0x51 N m kn L x).trans (sb41x0x51 N L x _ _ _ _ _)) (fun L m x => (ql41x0x51 N L m x).trans (sb41x0x51 N L x (Q41x0x51 N L m) (fun p => some (.inl p)) (fun p => some (.inr (.inl p))) (fun p => some (.inr (.inr (.inl p)))) (fun p => some (.inr (.inr (.inr p)))))) fun L x hx => (altS (altS (altS alt1))) x hx
noncomputable def F41x0 (v1 : LD) (k0 : Ty0 → Option R) : Option R :=
  bnd (G22x0 N v1) fun y0 =>
  bif y0.isSome then
    bif ((y0.getD default) != 0) then
      k0 (([] : List UInt8), 0, 0, true, [], true, [], true, [], (y0.getD default))
    else
      bnd (G85x0 N v1) fun y1 =>
      bif y1.isSome then
        bnd (G41x0x24 N false (y1.getD default).2 ((y1.getD default).2.length : Int) ([] : List UInt8) 0 0 0) fun y2 =>
        bif y2.isSome then
          bnd (bif (!(y2.getD default).1) then true else ((y2.getD default).2.1 == ([] : List UInt8))) fun y3 =>
          bnd (bif y3 then true else (decide ((y2.getD default).2.2.2 < 0))) fun y4 =>
          bif y4 then
            k0 (([] : List UInt8), 0, 0, true, [], true, [], true, [], 4)
          else
            bnd (G41x0x51 N (y1.getD default).2 ((y1.getD default).2.length : Int) (y2.getD default).2.2.2 0 true [] true [] true []) fun y5 =>
            bif (inlB y5) then
              k0 ((inlV y5).1, 0, 0, true, [], true, [], true, [], 2)
            else
              bif (inlB (inrQ y5)) then
                k0 ((inlV (inrQ y5)).1, 0, 0, true, [], true, [], true, [], 2)
              else
                bif (inlB (inrQ (inrQ y5))) then
                  k0 ((inlV (inrQ (inrQ y5))).1, 0, 0, true, [], true, [], true, [], 2)
                else
                  bif (inrQ (inrQ (inrQ y5))).isSome then
                    bnd (G13x0 N (y2.getD default).2.1 (y2.getD default).2.2.1 (y2.getD default).2.2.2 ((inrQ (inrQ (inrQ y5))).getD default).2.1 ((inrQ (inrQ (inrQ y5))).getD default).2.2.2.1 ((inrQ (inrQ (inrQ y5))).getD default).2.2.2.2.2) fun y6 =>
                    bif y6.isSome then
                      bif ((y6.getD default) != 0) then
                        k0 (([] : List UInt8), 0, 0, true, [], true, [], true, [], (y6.getD default))
                      else
                        k0 ((y2.getD default).2.1, (y2.getD default).2.2.1, (y2.getD default).2.2.2, ((inrQ (inrQ (inrQ y5))).getD default).1, ((inrQ (inrQ (inrQ y5))).getD default).2.1, ((inrQ (inrQ (inrQ y5))).getD default).2.2.1, ((inrQ (inrQ (inrQ y5))).getD default).2.2.2.1, ((inrQ (inrQ (inrQ y5))).getD default).2.2.2.2.1, ((inrQ (inrQ (inrQ y5))).getD default).2.2.2.2.2, 0)
                    else
                      none
                  else
                    none
        else
          none
      else
        none
  else
    none
noncomputable def G41x0 (v1 : LD) : Option (Ty0) := F41x0 N v1 (fun p => some p)
theorem bind41x0 (v1 : LD) (k0 : Ty0 → Option R) : F41x0 N v1 k0 = (G41x0 N v1).bind k0 := by
  unfold G41x0 F41x0
  repeat' (first | with_reducible apply cond_b | (with_reducible apply bnd_b; intro _) | rfl)
noncomputable def sh41x0 : Sh := { tmps := [(0, .g ([.sl 53]))], mem := [] }
noncomputable def K41x0w0 (L : List Lf) (p : Ty0) : Res := let p1 := p.2; let p2 := p1.2; let p3 := p2.2; let p4 := p3.2; let p5 := p4.2; let p6 := p5.2; let p7 := p6.2; let p8 := p7.2; let p9 := p8.2; ([.g [.s p.1, .i .i64 p1.1, .i .i64 p2.1, .sl 78 p3.1 p4.1, .sl 82 p5.1 p6.1, .sl 9 p7.1 p8.1], .c (.i .i64 p9)], [])
noncomputable def A41x0 (L : List Lf) : List (Bool × Res) := bnd (F41x0 N (ll L 1) (fun p => some p)) fun q => [(q.isSome, K41x0w0 L (q.getD default))]
theorem raw41x0 (L : List Lf) : bd Try.prog (T13x0 N) (h41x0s3 N).h 41 sh41x0 L = F41x0 N (ll L 1) (fun p => some (K41x0w0 L p)) := by kernel_rfl
theorem ok41x0 : FnOk Try.prog 41 sh41x0 (A41x0 N) :=
  (h41x0s3 N).fn progOk (T13x0_ok N) fun L x hx => ((raw41x0 N L).trans ((bind41x0 N ..).trans (alt1 x hx)))
noncomputable def T41x0 : Oracle := ext 41 (spSh sh41x0 (A41x0 N)) (T13x0 N)
theorem T41x0_ok : OracleOk Try.prog (T41x0 N) := FnOk.to (ok41x0 N) (T13x0_ok N)
noncomputable def rg57x0 : List (Nat × List Nat) := [(0, [0, 1, 2]), (1, [0, 1, 2])]
noncomputable def hd57x0 : Hints := []
noncomputable def h57x0s0 (N : Nat) : Sg Try.prog 0 57 := .start hd57x0 rg57x0
noncomputable def F57x0 (N : Nat) (v0 v1 v2 : Int) (k0 : Bool → R) : R :=
  k0 (bif (decide (v0 < v1)) then true else (decide (v0 > v2)))
noncomputable def V57x0 (v0 v1 v2 : Int) : Bool := F57x0 N v0 v1 v2 (fun p => p)
theorem tot57x0 (v0 v1 v2 : Int) (k0 : Bool → R) : F57x0 N v0 v1 v2 k0 = k0 (V57x0 N v0 v1 v2) := by
  unfold V57x0 F57x0
  repeat' (first | rfl | apply cond_k | (apply bnd_k; intro _))
noncomputable def sh57x0 : Sh := { tmps := [(0, .c (.i .i64)), (1, .c (.i .i64)), (2, .c (.i .i64))], mem := [] }
noncomputable def A57x0 (L : List Lf) : List (Bool × Res) := bnd (F57x0 N (li L 0) (li L 1) (li L 2) (fun p => p)) fun q => [(true, ([.c (.b q)], []))]
theorem raw57x0 (L : List Lf) : bd Try.prog (T41x0 N) (h57x0s0 N).h 57 sh57x0 L = F57x0 N (li L 0) (li L 1) (li L 2) (fun p => some ([.c (.b p)], [])) := by kernel_rfl
theorem ok57x0 : FnOk Try.prog 57 sh57x0 (A57x0 N) :=
  (h57x0s0 N).fn progOk (T41x0_ok N) fun L x hx => ((raw57x0 N L).trans ((tot57x0 N ..).trans (alt0 _ _ hx)))
noncomputable def T57x0 : Oracle := ext 57 (spSh sh57x0 (A57x0 N)) (T41x0 N)
theorem T57x0_ok : OracleOk Try.prog (T57x0 N) := FnOk.to (ok57x0 N) (T41x0_ok N)
noncomputable def rg125x0 : List (Nat × List Nat) := [(0, [0]), (1, [1]), (2, []), (3, [1]), (4, []), (5, [1]), (6, [17, 16, 15, 1]), (7, [17, 15, 1, 16]), (8, [4, 1, 3, 17, 16, 15]), (10, [4, 1, 3, 17, 16, 15]), (12, [4, 1, 3, 17, 16, 15]), (13, []), (11, []), (9, []), (14, [1, 3, 4, 17, 16, 15]), (15, [59, 58, 57, 4, 17, 16, 15, 1]), (16, [57, 59, 4, 58, 17, 16, 15, 1]), (17, [6, 4, 59, 58, 57, 17, 16, 15, 1]), (18, []), (19, [59, 58, 57, 4, 17, 16, 15, 1]), (20, [17, 16, 15, 1]), (21, [])]
noncomputable def hd125x0 : Hints := [(18, [17, 16, 15, 1], [1], []), (25, [4, 1, 3, 17, 16, 15], [4, 1], []), (45, [59, 58, 57, 4, 17, 16, 15, 1], [4, 1], [])]
noncomputable def h125x0s0 (N : Nat) : Sg Try.prog 0 125 := .start hd125x0 rg125x0
noncomputable def F125x0x25 (w9 w10 : Int) (k0 : Bool → R) : R :=
  bnd (V57x0 N w9 0 255) fun y0 =>
  bif y0 then
    k0 true
  else
    bnd (V57x0 N w10 1 255) fun y1 =>
    k0 y1
noncomputable def V125x0x25 (w9 w10 : Int) : Bool := F125x0x25 N w9 w10 (fun p => p)
theorem tot125x0x25 (w9 w10 : Int) (k0 : Bool → R) : F125x0x25 N w9 w10 k0 = k0 (V125x0x25 N w9 w10) := by
  unfold V125x0x25 F125x0x25
  repeat' (first | rfl | apply cond_k | (apply bnd_k; intro _))
noncomputable def sh125x0x25 : Sh := { tmps := [(1, .c (.p 1 0)), (3, .c (.i .i64)), (4, .c (.p 4 0)), (15, .c (.sl 146)), (16, .c (.i .i64)), (17, .c (.i .i64))], mem := [(1, .box ([.b, .i .i64, .sl 146])), (4, .box ([.i .i64, .i .i64, .i .i64]))] }
noncomputable def K125x0x25w0 (L : List Lf) (p : Bool) : Ex × St := (.normal, mg (ofSh sh125x0x25 L) [1, 3, 4, 15, 16, 17, 22] [(22, .c (.b p))] [1, 4] [])
noncomputable def A125x0x25 (L : List Lf) : List (Bool × (Ex × St)) := bnd (F125x0x25 N (li L 9) (li L 10) (fun p => p)) fun q => [(true, K125x0x25w0 L q)]
theorem raw125x0x25 (L : List Lf) : pc Try.prog (T57x0 N) (h125x0s0 N).h 0 100 125 25 sh125x0x25 L [4, 1, 3, 17, 16, 15, 22] [4, 1] = F125x0x25 N (li L 9) (li L 10) (fun p => some (K125x0x25w0 L p)) := by kernel_rfl
noncomputable def h125x0s1 : Sg Try.prog 0 125 :=
  (h125x0s0 N).cut (A125x0x25 N) progOk (T57x0_ok N) fun L x hx => (raw125x0x25 N L).trans ((tot125x0x25 N ..).trans (alt0 _ _ hx))
noncomputable def S125x0x45 (N : Nat) (w5 : LD) (w6 w12 : Int) (w7 : Int) (kr : Int → Option R) (k0 : Unit → Option R) (k1 : Unit → Option R) : Option R :=
  bif (decide (w7 < w6)) then
    bif (inB w7 w5.length) then
      bif (((w5.getD w7.toNat (.i 0)).cell 0).toI == w12) then
        k0 ()
      else
        kr (IntKind.wrap .i64 (w7 + 1))
    else
      none
  else
    k1 ()
noncomputable def L125x0x45 (N : Nat) {R : Type} (w5 : LD) (w6 w12 : Int) : Nat → Int → (Unit → Option R) → (Unit → Option R) → Option R
  | 0, _, _, _ => none
  | m + 1, w7, k0, k1 => S125x0x45 N w5 w6 w12 w7 (fun w7 => L125x0x45 N w5 w6 w12 m w7 k0 k1) k0 k1
noncomputable def G125x0x45 (w5 : LD) (w6 w12 : Int) (w7 : Int) : Option (Sum (Unit) (Unit)) := L125x0x45 N (R := (Sum (Unit) (Unit))) w5 w6 w12 N w7 (fun p => some (.inl p)) (fun p => some (.inr p))
noncomputable def J125x0x45 (L x : List Lf) (kr : List Lf → Option R) (k0 : Unit → Option R) (k1 : Unit → Option R) : Option R := S125x0x45 N (ll L 5) (li L 6) (li L 12) (li x 0) (fun w7 => kr [.i w7]) k0 k1
theorem sb125x0x45 (L x : List Lf) (kr : List Lf → Option R) (k0 : Unit → Option R) (k1 : Unit → Option R) : J125x0x45 N L x kr k0 k1 = (J125x0x45 N L x (fun y => some (.inl y)) (fun p => some (.inr (.inl p))) (fun p => some (.inr (.inr p)))).bind (sumE kr (sumE k0 k1)) := by
  unfold J125x0x45 S125x0x45
  repeat' (first | with_reducible apply cond_b | (with_reducible apply bnd_b; intro _) | rfl)
noncomputable def Q125x0x45 (L : List Lf) (m : Nat) (x : List Lf) : Option (Sum (Unit) (Unit)) := L125x0x45 N (R := (Sum (Unit) (Unit))) (ll L 5) (li L 6) (li L 12) m (li x 0) (fun p => some (.inl p)) (fun p => some (.inr p))
noncomputable def sh125x0x45 : Sh := { tmps := [(1, .c (.p 1 0)), (4, .c (.p 4 0)), (15, .c (.sl 146)), (16, .c (.i .i64)), (17, .c (.i .i64)), (57, .c (.sl 146)), (58, .c (.i .i64)), (59, .c (.i .i64))], mem := [(1, .box ([.b, .i .i64, .sl 146])), (4, .box ([.i .i64, .i .i64, .i .i64]))] }
noncomputable def K125x0x45w0 (L : List Lf) (_ : Unit) : Ex × St := (.ret, mg (ofSh sh125x0x45 L) [2] [(2, .c (.i .i64 5))] [1] [])
noncomputable def K125x0x45w1 (L : List Lf) (_ : Unit) : Ex × St := ((.exit 3), mg (ofSh sh125x0x45 L) [1, 15, 16, 17] [] [1] [])
noncomputable def A125x0x45 (L : List Lf) : List (Bool × (Ex × St)) := bnd (Q125x0x45 N L N (pk sh125x0x45 [7] L)) fun q => [((inlB q), K125x0x45w0 L ()), ((inrQ q).isSome, K125x0x45w1 L ())]
theorem step125x0x45 (m : Nat) (kn : St → Option (Ex × St)) (L x : List Lf) : lpB Try.prog (T57x0 N) (h125x0s1 N).h 0 125 45 sh125x0x45 [7] [2, 17, 16, 15, 1] [1] (m + 100) kn L x = J125x0x45 N L x (fun y => kn (ofSh sh125x0x45 (mx sh125x0x45 [7] L y))) (fun _ => some (K125x0x45w0 L ())) (fun _ => some (K125x0x45w1 L ())) := by kernel_rfl
theorem ql125x0x45 (L : List Lf) (m : Nat) (x : List Lf) : Q125x0x45 N L (m + 1) x = J125x0x45 N L x (Q125x0x45 N L m) (fun p => some (.inl p)) (fun p => some (.inr p)) := by kernel_rfl
noncomputable def h125x0s2 : Sg Try.prog 0 125 :=
  (h125x0s1 N).lp (A125x0x45 N) N progOk (T57x0_ok N) (fun m kn L x => (step125x0x45 N m kn L x).trans (sb125x0x45 N L x _ _ _)) (fun L m x => (ql125x0x45 N L m x).trans (sb125x0x45 N L x (Q125x0x45 N L m) (fun p => some (.inl p)) (fun p => some (.inr p)))) fun L x hx => (altS alt1) x hx
noncomputable def S125x0x18 (w1 : LD) (w2 : Int) (w7 : LD) (w3 : Int) (kr : Int → Option R) (k0 : Int → Option R) (k1 : Unit → Option R) : Option R :=
  bif (decide (w3 < w2)) then
    bif (inB w3 w1.length) then
      bnd (V125x0x25 N ((w1.getD w3.toNat (.i 0)).cell 0).toI ((w1.getD w3.toNat (.i 0)).cell 1).toI) fun y0 =>
      bif y0 then
        k0 9
      else
        bnd (V57x0 N ((w1.getD w3.toNat (.i 0)).cell 2).toI 0 3) fun y1 =>
        bif y1 then
          k0 7
        else
          bnd (bif (decide (((w1.getD w3.toNat (.i 0)).cell 2).toI ≤ 1)) then (((w1.getD w3.toNat (.i 0)).cell 1).toI != 1) else false) fun y2 =>
          bnd (bif y2 then (((w1.getD w3.toNat (.i 0)).cell 1).toI != 2) else false) fun y3 =>
          bnd (bif y3 then (((w1.getD w3.toNat (.i 0)).cell 1).toI != 4) else false) fun y4 =>
          bif y4 then
            k0 2
          else
            bif ((decide (0 ≤ w3)) && (decide (w3 ≤ (w7.length : Int)))) then
              bnd (G125x0x45 N ((w7.take w3.toNat).drop 0) (((w7.take w3.toNat).drop 0).length : Int) ((w1.getD w3.toNat (.i 0)).cell 0).toI 0) fun y5 =>
              bif (inlB y5) then
                k0 5
              else
                bif (inrQ y5).isSome then
                  kr (IntKind.wrap .i64 (w3 + 1))
                else
                  none
            else
              none
    else
      none
  else
    k1 ()
noncomputable def L125x0x18 (N : Nat) {R : Type} (w1 : LD) (w2 : Int) (w7 : LD) : Nat → Int → (Int → Option R) → (Unit → Option R) → Option R
  | 0, _, _, _ => none
  | m + 1, w3, k0, k1 => S125x0x18 N w1 w2 w7 w3 (fun w3 => L125x0x18 N w1 w2 w7 m w3 k0 k1) k0 k1
noncomputable def G125x0x18 (w1 : LD) (w2 : Int) (w7 : LD) (w3 : Int) : Option (Sum (Int) (Unit)) := L125x0x18 N (R := (Sum (Int) (Unit))) w1 w2 w7 N w3 (fun p => some (.inl p)) (fun p => some (.inr p))
noncomputable def J125x0x18 (L x : List Lf) (kr : List Lf → Option R) (k0 : Int → Option R) (k1 : Unit → Option R) : Option R := S125x0x18 N (ll L 1) (li L 2) (ll L 7) (li x 0) (fun w3 => kr [.i w3]) k0 k1
theorem sb125x0x18 (L x : List Lf) (kr : List Lf → Option R) (k0 : Int → Option R) (k1 : Unit → Option R) : J125x0x18 N L x kr k0 k1 = (J125x0x18 N L x (fun y => some (.inl y)) (fun p => some (.inr (.inl p))) (fun p => some (.inr (.inr p)))).bind (sumE kr (sumE k0 k1)) := by
  unfold J125x0x18 S125x0x18
  repeat' (first | with_reducible apply cond_b | (with_reducible apply bnd_b; intro _) | rfl)
noncomputable def Q125x0x18 (L : List Lf) (m : Nat) (x : List Lf) : Option (Sum (Int) (Unit)) := L125x0x18 N (R := (Sum (Int) (Unit))) (ll L 1) (li L 2) (ll L 7) m (li x 0) (fun p => some (.inl p)) (fun p => some (.inr p))
noncomputable def sh125x0x18 : Sh := { tmps := [(1, .c (.p 1 0)), (15, .c (.sl 146)), (16, .c (.i .i64)), (17, .c (.i .i64))], mem := [(1, .box ([.b, .i .i64, .sl 146]))] }
noncomputable def A125x0x18 (L : List Lf) : List (Bool × (Ex × St)) := bnd (Q125x0x18 N L N (pk sh125x0x18 [3] L)) fun q => [((inlB q), (.ret, ⟨[(2, .c (.i .i64 (inlV q)))], []⟩)), ((inrQ q).isSome, ((.exit 0), ⟨[], []⟩))]
theorem step125x0x18 (m : Nat) (kn : St → Option (Ex × St)) (L x : List Lf) : lpB Try.prog (T57x0 N) (h125x0s2 N).h 0 125 18 sh125x0x18 [3] [2] [] (m + 100) kn L x = J125x0x18 N L x (fun y => kn (ofSh sh125x0x18 (mx sh125x0x18 [3] L y))) (fun p => some (.ret, ⟨[(2, .c (.i .i64 p))], []⟩)) (fun _ => some ((.exit 0), ⟨[], []⟩)) := by kernel_rfl
theorem ql125x0x18 (L : List Lf) (m : Nat) (x : List Lf) : Q125x0x18 N L (m + 1) x = J125x0x18 N L x (Q125x0x18 N L m) (fun p => some (.inl p)) (fun p => some (.inr p)) := by kernel_rfl
noncomputable def h125x0s3 : Sg Try.prog 0 125 :=
  (h125x0s2 N).lp (A125x0x18 N) N progOk (T57x0_ok N) (fun m kn L x => (step125x0x18 N m kn L x).trans (sb125x0x18 N L x _ _ _)) (fun L m x => (ql125x0x18 N L m x).trans (sb125x0x18 N L x (Q125x0x18 N L m) (fun p => some (.inl p)) (fun p => some (.inr p)))) fun L x hx => (altS alt1) x hx
noncomputable def F125x0 (v1 : Int) (v3 : LD) (k0 : Int → Option R) : Option R :=
  bnd (V57x0 N v1 0 65535) fun y0 =>
  bif y0 then
    k0 9
  else
    bif (decide ((v3.length : Int) > 30)) then
      k0 3
    else
      bnd (G125x0x18 N v3 (v3.length : Int) v3 0) fun y1 =>
      bif (inlB y1) then
        k0 (inlV y1)
      else
        bif (inrQ y1).isSome then
          k0 0
        else
          none
noncomputable def G125x0 (v1 : Int) (v3 : LD) : Option (Int) := F125x0 N v1 v3 (fun p => some p)
theorem bind125x0 (v1 : Int) (v3 : LD) (k0 : Int → Option R) : F125x0 N v1 v3 k0 = (G125x0 N v1 v3).bind k0 := by
  unfold G125x0 F125x0
  repeat' (first | with_reducible apply cond_b | (with_reducible apply bnd_b; intro _) | rfl)
noncomputable def sh125x0 : Sh := { tmps := [(0, .g ([.b, .i .i64, .sl 146]))], mem := [] }
noncomputable def A125x0 (L : List Lf) : List (Bool × Res) := bnd (F125x0 N (li L 1) (ll L 3) (fun p => some p)) fun q => [(q.isSome, ([.c (.i .i64 (q.getD default))], []))]
theorem raw125x0 (L : List Lf) : bd Try.prog (T57x0 N) (h125x0s3 N).h 125 sh125x0 L = F125x0 N (li L 1) (ll L 3) (fun p => some ([.c (.i .i64 p)], [])) := by kernel_rfl
theorem ok125x0 : FnOk Try.prog 125 sh125x0 (A125x0 N) :=
  (h125x0s3 N).fn progOk (T57x0_ok N) fun L x hx => ((raw125x0 N L).trans ((bind125x0 N ..).trans (alt1 x hx)))
noncomputable def T125x0 : Oracle := ext 125 (spSh sh125x0 (A125x0 N)) (T57x0 N)
theorem T125x0_ok : OracleOk Try.prog (T125x0 N) := FnOk.to (ok125x0 N) (T57x0_ok N)
noncomputable def rg132x0 : List (Nat × List Nat) := [(0, [0]), (1, [1])]
noncomputable def hd132x0 : Hints := []
noncomputable def h132x0s0 (N : Nat) : Sg Try.prog 0 132 := .start hd132x0 rg132x0
noncomputable def F132x0 (N : Nat) (v0 v1 v2 : Int) (k0 : Bool → R) : R :=
  bnd (bif (bif (v0 == 253) then (v2 == 0) else false) then (v1 == 4) else false) fun y0 =>
  k0 y0
noncomputable def V132x0 (v0 v1 v2 : Int) : Bool := F132x0 N v0 v1 v2 (fun p => p)
theorem tot132x0 (v0 v1 v2 : Int) (k0 : Bool → R) : F132x0 N v0 v1 v2 k0 = k0 (V132x0 N v0 v1 v2) := by
  unfold V132x0 F132x0
  repeat' (first | rfl | apply cond_k | (apply bnd_k; intro _))
noncomputable def sh132x0 : Sh := { tmps := [(0, .g ([.i .i64, .i .i64, .i .i64]))], mem := [] }
noncomputable def A132x0 (L : List Lf) : List (Bool × Res) := bnd (F132x0 N (li L 0) (li L 1) (li L 2) (fun p => p)) fun q => [(true, ([.c (.b q)], []))]
theorem raw132x0 (L : List Lf) : bd Try.prog (T125x0 N) (h132x0s0 N).h 132 sh132x0 L = F132x0 N (li L 0) (li L 1) (li L 2) (fun p => some ([.c (.b p)], [])) := by kernel_rfl
theorem ok132x0 : FnOk Try.prog 132 sh132x0 (A132x0 N) :=
  (h132x0s0 N).fn progOk (T125x0_ok N) fun L x hx => ((raw132x0 N L).trans ((tot132x0 N ..).trans (alt0 _ _ hx)))
noncomputable def T132x0 : Oracle := ext 132 (spSh sh132x0 (A132x0 N)) (T125x0 N)
theorem T132x0_ok : OracleOk Try.prog (T132x0 N) := FnOk.to (ok132x0 N) (T125x0_ok N)
noncomputable def rg79x0 : List (Nat × List Nat) := [(0, [0]), (1, [1]), (2, [1, 4]), (3, [10, 9, 8, 4]), (4, [8, 10, 4, 9]), (5, [6, 4, 10, 9, 8]), (6, [4]), (7, [4, 6, 10, 9, 8]), (8, [10, 9, 8, 4]), (9, [])]
noncomputable def hd79x0 : Hints := [(9, [10, 9, 8, 4], [], [])]
noncomputable def h79x0s0 (N : Nat) : Sg Try.prog 0 79 := .start hd79x0 rg79x0
noncomputable def S79x0x9 (w2 : LD) (w3 : Int) (w0 w4 : Int) (kr : Int → Int → Option R) (k0 : Int → Option R) (k1 : Unit → Option R) : Option R :=
  bif (decide (w4 < w3)) then
    bif (inB w4 w2.length) then
      bnd (V132x0 N ((w2.getD w4.toNat (.i 0)).cell 0).toI ((w2.getD w4.toNat (.i 0)).cell 1).toI ((w2.getD w4.toNat (.i 0)).cell 2).toI) fun y0 =>
      bif y0 then
        k0 w0
      else
        bnd (IntKind.wrap .i64 (w0 + ((w2.getD w4.toNat (.i 0)).cell 1).toI)) fun y1 =>
        kr y1 (IntKind.wrap .i64 (w4 + 1))
    else
      none
  else
    k1 ()
noncomputable def L79x0x9 (N : Nat) {R : Type} (w2 : LD) (w3 : Int) : Nat → Int → Int → (Int → Option R) → (Unit → Option R) → Option R
  | 0, _, _, _, _ => none
  | m + 1, w0, w4, k0, k1 => S79x0x9 N w2 w3 w0 w4 (fun w0 w4 => L79x0x9 N w2 w3 m w0 w4 k0 k1) k0 k1
noncomputable def G79x0x9 (w2 : LD) (w3 : Int) (w0 w4 : Int) : Option (Sum (Int) (Unit)) := L79x0x9 N (R := (Sum (Int) (Unit))) w2 w3 N w0 w4 (fun p => some (.inl p)) (fun p => some (.inr p))
noncomputable def J79x0x9 (L x : List Lf) (kr : List Lf → Option R) (k0 : Int → Option R) (k1 : Unit → Option R) : Option R := S79x0x9 N (ll L 2) (li L 3) (li x 0) (li x 1) (fun w0 w4 => kr [.i w0, .i w4]) k0 k1
theorem sb79x0x9 (L x : List Lf) (kr : List Lf → Option R) (k0 : Int → Option R) (k1 : Unit → Option R) : J79x0x9 N L x kr k0 k1 = (J79x0x9 N L x (fun y => some (.inl y)) (fun p => some (.inr (.inl p))) (fun p => some (.inr (.inr p)))).bind (sumE kr (sumE k0 k1)) := by
  unfold J79x0x9 S79x0x9
  repeat' (first | with_reducible apply cond_b | (with_reducible apply bnd_b; intro _) | rfl)
noncomputable def Q79x0x9 (L : List Lf) (m : Nat) (x : List Lf) : Option (Sum (Int) (Unit)) := L79x0x9 N (R := (Sum (Int) (Unit))) (ll L 2) (li L 3) m (li x 0) (li x 1) (fun p => some (.inl p)) (fun p => some (.inr p))
noncomputable def sh79x0x9 : Sh := { tmps := [(4, .c (.i .i64)), (8, .c (.sl 146)), (9, .c (.i .i64)), (10, .c (.i .i64))], mem := [] }
noncomputable def A79x0x9 (L : List Lf) : List (Bool × (Ex × St)) := bnd (Q79x0x9 N L N (pk sh79x0x9 [0, 4] L)) fun q => [((inlB q), (.ret, ⟨[(2, .c (.i .i64 (inlV q))), (3, .c (.b true))], []⟩)), ((inrQ q).isSome, ((.exit 0), ⟨[], []⟩))]
theorem step79x0x9 (m : Nat) (kn : St → Option (Ex × St)) (L x : List Lf) : lpB Try.prog (T132x0 N) (h79x0s0 N).h 0 79 9 sh79x0x9 [0, 4] [2, 3] [] (m + 100) kn L x = J79x0x9 N L x (fun y => kn (ofSh sh79x0x9 (mx sh79x0x9 [0, 4] L y))) (fun p => some (.ret, ⟨[(2, .c (.i .i64 p)), (3, .c (.b true))], []⟩)) (fun _ => some ((.exit 0), ⟨[], []⟩)) := by kernel_rfl
theorem ql79x0x9 (L : List Lf) (m : Nat) (x : List Lf) : Q79x0x9 N L (m + 1) x = J79x0x9 N L x (Q79x0x9 N L m) (fun p => some (.inl p)) (fun p => some (.inr p)) := by kernel_rfl
noncomputable def h79x0s1 : Sg Try.prog 0 79 :=
  (h79x0s0 N).lp (A79x0x9 N) N progOk (T132x0_ok N) (fun m kn L x => (step79x0x9 N m kn L x).trans (sb79x0x9 N L x _ _ _)) (fun L m x => (ql79x0x9 N L m x).trans (sb79x0x9 N L x (Q79x0x9 N L m) (fun p => some (.inl p)) (fun p => some (.inr p)))) fun L x hx => (altS alt1) x hx
noncomputable def F79x0 (v3 : LD) (k0 : Int × Bool → Option R) : Option R :=
  bnd (G79x0x9 N v3 (v3.length : Int) 0 0) fun y0 =>
  bif (inlB y0) then
    k0 ((inlV y0), true)
  else
    bif (inrQ y0).isSome then
      k0 (0, false)
    else
      none
noncomputable def G79x0 (v3 : LD) : Option (Int × Bool) := F79x0 N v3 (fun p => some p)
theorem bind79x0 (v3 : LD) (k0 : Int × Bool → Option R) : F79x0 N v3 k0 = (G79x0 N v3).bind k0 := by
  unfold G79x0 F79x0
  repeat' (first | with_reducible apply cond_b | (with_reducible apply bnd_b; intro _) | rfl)
noncomputable def sh79x0 : Sh := { tmps := [(0, .g ([.b, .i .i64, .sl 146]))], mem := [] }
noncomputable def A79x0 (L : List Lf) : List (Bool × Res) := bnd (F79x0 N (ll L 3) (fun p => some p)) fun q => [(q.isSome, ([.c (.i .i64 (q.getD default).1), .c (.b (q.getD default).2)], []))]
theorem raw79x0 (L : List Lf) : bd Try.prog (T132x0 N) (h79x0s1 N).h 79 sh79x0 L = F79x0 N (ll L 3) (fun p => some ([.c (.i .i64 p.1), .c (.b p.2)], [])) := by kernel_rfl
theorem ok79x0 : FnOk Try.prog 79 sh79x0 (A79x0 N) :=
  (h79x0s1 N).fn progOk (T132x0_ok N) fun L x hx => ((raw79x0 N L).trans ((bind79x0 N ..).trans (alt1 x hx)))
noncomputable def T79x0 : Oracle := ext 79 (spSh sh79x0 (A79x0 N)) (T132x0 N)
theorem T79x0_ok : OracleOk Try.prog (T79x0 N) := FnOk.to (ok79x0 N) (T132x0_ok N)
noncomputable def rg100x0 : List (Nat × List Nat) := [(0, [0, 1]), (1, [1, 2]), (2, [1, 2, 5]), (3, [2, 6, 5]), (4, [13, 12, 11, 6, 5]), (5, [11, 13, 6, 12, 5]), (6, [6, 8, 13, 12, 11, 5]), (7, [13, 12, 11, 5]), (8, [5, 8, 13, 12, 11, 6]), (9, [13, 12, 11, 6, 5]), (10, [5])]
noncomputable def hd100x0 : Hints := [(12, [13, 12, 11, 6, 5], [5], [5]), (19, [6, 8, 13, 12, 11, 5], [8, 5], [])]
noncomputable def h100x0s0 (N : Nat) : Sg Try.prog 0 100 := .start hd100x0 rg100x0
noncomputable def F100x0x19 (w0 : Bool) (w7 w8 w9 : Int) (k0 : Bool → R) : R :=
  bif w0 then
    bnd (V132x0 N w7 w8 w9) fun y0 =>
    k0 y0
  else
    k0 false
noncomputable def V100x0x19 (w0 : Bool) (w7 w8 w9 : Int) : Bool := F100x0x19 N w0 w7 w8 w9 (fun p => p)
theorem tot100x0x19 (w0 : Bool) (w7 w8 w9 : Int) (k0 : Bool → R) : F100x0x19 N w0 w7 w8 w9 k0 = k0 (V100x0x19 N w0 w7 w8 w9) := by
  unfold V100x0x19 F100x0x19
  repeat' (first | rfl | apply cond_k | (apply bnd_k; intro _))
noncomputable def J100x0x19 (L : List Lf) (k0 : Bool → R) : R := F100x0x19 N (lb L 0) (li L 7) (li L 8) (li L 9) k0
noncomputable def sh100x0x19 : Sh := { tmps := [(5, .c (.o 5)), (6, .c (.b)), (8, .c (.p 8 0)), (11, .c (.sl 146)), (12, .c (.i .i64)), (13, .c (.i .i64))], mem := [(5, .row 146 true), (8, .box ([.i .i64, .i .i64, .i .i64]))] }
noncomputable def K100x0x19w0 (L : List Lf) (p : Bool) : Ex × St := (.normal, mg (ofSh sh100x0x19 L) [5, 6, 8, 11, 12, 13, 21] [(21, .c (.b p))] [5, 8] [])
noncomputable def A100x0x19 (L : List Lf) : List (Bool × (Ex × St)) := bnd (J100x0x19 N L (fun p => p)) fun q => [(true, K100x0x19w0 L q)]
theorem raw100x0x19 (L : List Lf) : pc Try.prog (T79x0 N) (h100x0s0 N).h 0 100 100 19 sh100x0x19 L [13, 12, 11, 5, 8, 6, 21] [8, 5] = J100x0x19 N L (fun p => some (K100x0x19w0 L p)) := by kernel_rfl
noncomputable def h100x0s1 : Sg Try.prog 0 100 :=
  (h100x0s0 N).cut (A100x0x19 N) progOk (T79x0_ok N) fun L x hx => (raw100x0x19 N L).trans ((tot100x0x19 N ..).trans (alt0 _ _ hx))
noncomputable def S100x0x12 (w2 : LD) (w3 : Int) (w0 : Bool) (w4 : Int) (w5 : Bool) (w6 : LD) (kr : Bool → Int → Bool → LD → Option R) (k0 : Bool × LD → Option R) : Option R :=
  bif (decide (w4 < w3)) then
    bif (inB w4 w2.length) then
      bnd (V100x0x19 N w0 ((w2.getD w4.toNat (.i 0)).cell 0).toI ((w2.getD w4.toNat (.i 0)).cell 1).toI ((w2.getD w4.toNat (.i 0)).cell 2).toI) fun y0 =>
      bif y0 then
        kr false (IntKind.wrap .i64 (w4 + 1)) w5 w6
      else
        bif (decide ((w6.length + 1) * 24 ≤ room) && decide ((w6.length + 1) ≤ strMax)) then
          bnd ((w6 ++ [(.a [(.i ((w2.getD w4.toNat (.i 0)).cell 0).toI), (.i ((w2.getD w4.toNat (.i 0)).cell 1).toI), (.i ((w2.getD w4.toNat (.i 0)).cell 2).toI)])]) : List D) fun y1 =>
          kr w0 (IntKind.wrap .i64 (w4 + 1)) false y1
        else
          none
    else
      none
  else
    k0 (w5, w6)
noncomputable def L100x0x12 (N : Nat) {R : Type} (w2 : LD) (w3 : Int) : Nat → Bool → Int → Bool → LD → (Bool × LD → Option R) → Option R
  | 0, _, _, _, _, _ => none
  | m + 1, w0, w4, w5, w6, k0 => S100x0x12 N w2 w3 w0 w4 w5 w6 (fun w0 w4 w5 w6 => L100x0x12 N w2 w3 m w0 w4 w5 w6 k0) k0
noncomputable def G100x0x12 (w2 : LD) (w3 : Int) (w0 : Bool) (w4 : Int) (w5 : Bool) (w6 : LD) : Option (Bool × LD) := L100x0x12 N (R := (Bool × LD)) w2 w3 N w0 w4 w5 w6 (fun p => some p)
noncomputable def J100x0x12 (L x : List Lf) (kr : List Lf → Option R) (k0 : Bool × LD → Option R) : Option R := S100x0x12 N (ll L 2) (li L 3) (lb x 0) (li x 1) (lb x 2) (ll x 3) (fun w0 w4 w5 w6 => kr [.b w0, .i w4, .b w5, .l w6]) k0
theorem sb100x0x12 (L x : List Lf) (kr : List Lf → Option R) (k0 : Bool × LD → Option R) : J100x0x12 N L x kr k0 = (J100x0x12 N L x (fun y => some (.inl y)) (fun p => some (.inr p))).bind (sumE kr k0) := by
  unfold J100x0x12 S100x0x12
  repeat' (first | with_reducible apply cond_b | (with_reducible apply bnd_b; intro _) | rfl)
noncomputable def Q100x0x12 (L : List Lf) (m : Nat) (x : List Lf) : Option (Bool × LD) := L100x0x12 N (R := (Bool × LD)) (ll L 2) (li L 3) m (lb x 0) (li x 1) (lb x 2) (ll x 3) (fun p => some p)
noncomputable def sh100x0x12 : Sh := { tmps := [(5, .c (.o 5)), (6, .c (.b)), (11, .c (.sl 146)), (12, .c (.i .i64)), (13, .c (.i .i64))], mem := [(5, .row 146 true)] }
noncomputable def K100x0x12w0 (L : List Lf) (p : Bool × LD) : Ex × St := ((.exit 0), ⟨[(5, .c (.o 5))], [(5, .row 146 true p.1 p.2)]⟩)
noncomputable def A100x0x12 (L : List Lf) : List (Bool × (Ex × St)) := bnd (Q100x0x12 N L N (pk sh100x0x12 [0, 4, 5, 6] L)) fun q => [(q.isSome, K100x0x12w0 L (q.getD default))]
theorem step100x0x12 (m : Nat) (kn : St → Option (Ex × St)) (L x : List Lf) : lpB Try.prog (T79x0 N) (h100x0s1 N).h 0 100 12 sh100x0x12 [0, 4, 5, 6] [4, 5] [5] (m + 100) kn L x = J100x0x12 N L x (fun y => kn (ofSh sh100x0x12 (mx sh100x0x12 [0, 4, 5, 6] L y))) (fun p => some (K100x0x12w0 L p)) := by kernel_rfl
theorem ql100x0x12 (L : List Lf) (m : Nat) (x : List Lf) : Q100x0x12 N L (m + 1) x = J100x0x12 N L x (Q100x0x12 N L m) some := by kernel_rfl
noncomputable def h100x0s2 : Sg Try.prog 0 100 :=
  (h100x0s1 N).lp (A100x0x12 N) N progOk (T79x0_ok N) (fun m kn L x => (step100x0x12 N m kn L x).trans (sb100x0x12 N L x _ _)) (fun L m x => (ql100x0x12 N L m x).trans (sb100x0x12 N L x (Q100x0x12 N L m) some)) fun L x hx => alt1 x hx
noncomputable def F100x0 (v3 : LD) (v4 : Bool) (k0 : Bool × LD → Option R) : Option R :=
  bnd (G100x0x12 N v3 (v3.length : Int) v4 0 true []) fun y0 =>
  bif y0.isSome then
    k0 (y0.getD default)
  else
    none
noncomputable def G100x0 (v3 : LD) (v4 : Bool) : Option (Bool × LD) := F100x0 N v3 v4 (fun p => some p)
theorem bind100x0 (v3 : LD) (v4 : Bool) (k0 : Bool × LD → Option R) : F100x0 N v3 v4 k0 = (G100x0 N v3 v4).bind k0 := by
  unfold G100x0 F100x0
  repeat' (first | with_reducible apply cond_b | (with_reducible apply bnd_b; intro _) | rfl)
noncomputable def sh100x0 : Sh := { tmps := [(0, .g ([.b, .i .i64, .sl 146])), (1, .c (.b))], mem := [] }
noncomputable def A100x0 (L : List Lf) : List (Bool × Res) := bnd (F100x0 N (ll L 3) (lb L 4) (fun p => some p)) fun q => [(q.isSome, ([.c (.sl 146 (q.getD default).1 (q.getD default).2)], []))]
theorem raw100x0 (L : List Lf) : bd Try.prog (T79x0 N) (h100x0s2 N).h 100 sh100x0 L = F100x0 N (ll L 3) (lb L 4) (fun p => some ([.c (.sl 146 p.1 p.2)], [])) := by kernel_rfl
theorem ok100x0 : FnOk Try.prog 100 sh100x0 (A100x0 N) :=
  (h100x0s2 N).fn progOk (T79x0_ok N) fun L x hx => ((raw100x0 N L).trans ((bind100x0 N ..).trans (alt1 x hx)))
noncomputable def T100x0 : Oracle := ext 100 (spSh sh100x0 (A100x0 N)) (T79x0 N)
theorem T100x0_ok : OracleOk Try.prog (T100x0 N) := FnOk.to (ok100x0 N) (T79x0_ok N)
noncomputable def rg126x0 : List (Nat × List Nat) := [(0, [0]), (1, [0]), (2, [0, 3]), (3, [8, 7, 6, 3]), (4, [6, 8, 3, 7]), (5, [3, 5, 8, 7, 6]), (6, [8, 7, 6, 3]), (7, [3])]
noncomputable def hd126x0 : Hints := [(9, [8, 7, 6, 3], [], [])]
noncomputable def h126x0s0 (N : Nat) : Sg Try.prog 0 126 := .start hd126x0 rg126x0
noncomputable def S126x0x9 (N : Nat) (w2 : LD) (w3 : Int) (w0 w4 : Int) (kr : Int → Int → Option R) (k0 : Int → Option R) : Option R :=
  bif (decide (w4 < w3)) then
    bif (inB w4 w2.length) then
      bnd (IntKind.wrap .i64 (w0 + ((w2.getD w4.toNat (.i 0)).cell 1).toI)) fun y0 =>
      kr y0 (IntKind.wrap .i64 (w4 + 1))
    else
      none
  else
    k0 w0
noncomputable def L126x0x9 (N : Nat) {R : Type} (w2 : LD) (w3 : Int) : Nat → Int → Int → (Int → Option R) → Option R
  | 0, _, _, _ => none
  | m + 1, w0, w4, k0 => S126x0x9 N w2 w3 w0 w4 (fun w0 w4 => L126x0x9 N w2 w3 m w0 w4 k0) k0
noncomputable def G126x0x9 (w2 : LD) (w3 : Int) (w0 w4 : Int) : Option (Int) := L126x0x9 N (R := (Int)) w2 w3 N w0 w4 (fun p => some p)
noncomputable def J126x0x9 (L x : List Lf) (kr : List Lf → Option R) (k0 : Int → Option R) : Option R := S126x0x9 N (ll L 2) (li L 3) (li x 0) (li x 1) (fun w0 w4 => kr [.i w0, .i w4]) k0
theorem sb126x0x9 (L x : List Lf) (kr : List Lf → Option R) (k0 : Int → Option R) : J126x0x9 N L x kr k0 = (J126x0x9 N L x (fun y => some (.inl y)) (fun p => some (.inr p))).bind (sumE kr k0) := by
  unfold J126x0x9 S126x0x9
  repeat' (first | with_reducible apply cond_b | (with_reducible apply bnd_b; intro _) | rfl)
noncomputable def Q126x0x9 (L : List Lf) (m : Nat) (x : List Lf) : Option (Int) := L126x0x9 N (R := (Int)) (ll L 2) (li L 3) m (li x 0) (li x 1) (fun p => some p)
noncomputable def sh126x0x9 : Sh := { tmps := [(3, .c (.i .i64)), (6, .c (.sl 146)), (7, .c (.i .i64)), (8, .c (.i .i64))], mem := [] }
noncomputable def A126x0x9 (L : List Lf) : List (Bool × (Ex × St)) := bnd (Q126x0x9 N L N (pk sh126x0x9 [0, 4] L)) fun q => [(q.isSome, ((.exit 0), ⟨[(3, .c (.i .i64 (q.getD default)))], []⟩))]
theorem step126x0x9 (m : Nat) (kn : St → Option (Ex × St)) (L x : List Lf) : lpB Try.prog (T100x0 N) (h126x0s0 N).h 0 126 9 sh126x0x9 [0, 4] [2, 3] [] (m + 100) kn L x = J126x0x9 N L x (fun y => kn (ofSh sh126x0x9 (mx sh126x0x9 [0, 4] L y))) (fun p => some ((.exit 0), ⟨[(3, .c (.i .i64 p))], []⟩)) := by kernel_rfl
theorem ql126x0x9 (L : List Lf) (m : Nat) (x : List Lf) : Q126x0x9 N L (m + 1) x = J126x0x9 N L x (Q126x0x9 N L m) some := by kernel_rfl
noncomputable def h126x0s1 : Sg Try.prog 0 126 :=
  (h126x0s0 N).lp (A126x0x9 N) N progOk (T100x0_ok N) (fun m kn L x => (step126x0x9 N m kn L x).trans (sb126x0x9 N L x _ _)) (fun L m x => (ql126x0x9 N L m x).trans (sb126x0x9 N L x (Q126x0x9 N L m) some)) fun L x hx => alt1 x hx
noncomputable def F126x0 (v1 : LD) (k0 : Int → Option R) : Option R :=
  bnd (G126x0x9 N v1 (v1.length : Int) 0 0) fun y0 =>
  bif y0.isSome then
    k0 (y0.getD default)
  else
    none
noncomputable def G126x0 (v1 : LD) : Option (Int) := F126x0 N v1 (fun p => some p)
theorem bind126x0 (v1 : LD) (k0 : Int → Option R) : F126x0 N v1 k0 = (G126x0 N v1).bind k0 := by
  unfold G126x0 F126x0
  repeat' (first | with_reducible apply cond_b | (with_reducible apply bnd_b; intro _) | rfl)
noncomputable def sh126x0 : Sh := { tmps := [(0, .c (.sl 146))], mem := [] }
noncomputable def A126x0 (L : List Lf) : List (Bool × Res) := bnd (F126x0 N (ll L 1) (fun p => some p)) fun q => [(q.isSome, ([.c (.i .i64 (q.getD default))], []))]
theorem raw126x0 (L : List Lf) : bd Try.prog (T100x0 N) (h126x0s1 N).h 126 sh126x0 L = F126x0 N (ll L 1) (fun p => some ([.c (.i .i64 p)], [])) := by kernel_rfl
theorem ok126x0 : FnOk Try.prog 126 sh126x0 (A126x0 N) :=
  (h126x0s1 N).fn progOk (T100x0_ok N) fun L x hx => ((raw126x0 N L).trans ((bind126x0 N ..).trans (alt1 x hx)))
noncomputable def T126x0 : Oracle := ext 126 (spSh sh126x0 (A126x0 N)) (T100x0 N)
theorem T126x0_ok : OracleOk Try.prog (T126x0 N) := FnOk.to (ok126x0 N) (T100x0_ok N)
noncomputable def rg73x0 : List (Nat × List Nat) := [(0, [1, 0]), (1, [3, 0]), (2, []), (3, [3, 0]), (4, [3, 0, 5, 6]), (5, [3, 0]), (6, [3, 5, 6, 0]), (7, []), (8, [3, 0]), (9, [3]), (10, []), (11, [3]), (12, [3, 0]), (13, []), (14, [0, 3]), (15, []), (16, [0, 3]), (17, [7, 3, 0]), (18, [3, 9, 0, 7]), (19, []), (20, [3, 7]), (21, []), (22, [])]
noncomputable def hd73x0 : Hints := [(17, [3, 0, 5, 6, 15], [4, 0], []), (19, [3, 5, 6, 0], [4, 0], [])]
noncomputable def h73x0s0 (N : Nat) : Sg Try.prog 1 73 := .start hd73x0 rg73x0
noncomputable def F73x0x17 (N : Nat) (w0 w1 : Int) (w2 : Bool) (k0 : Int × Int → R) : R :=
  bif w2 then
    k0 (3, 31)
  else
    k0 (w0, w1)
noncomputable def V73x0x17 (w0 w1 : Int) (w2 : Bool) : Int × Int := F73x0x17 N w0 w1 w2 (fun p => p)
theorem tot73x0x17 (w0 w1 : Int) (w2 : Bool) (k0 : Int × Int → R) : F73x0x17 N w0 w1 w2 k0 = k0 (V73x0x17 N w0 w1 w2) := by
  unfold V73x0x17 F73x0x17
  repeat' (first | rfl | apply cond_k | (apply bnd_k; intro _))
noncomputable def sh73x0x17 : Sh := { tmps := [(0, .c (.p 0 0)), (3, .c (.p 4 0)), (5, .c (.i .i64)), (6, .c (.i .i64)), (15, .c (.b))], mem := [(0, .dat 106), (4, .box ([.i .i64, .i .i64, .i .i64, .sl 103, .sl 5]))] }
noncomputable def K73x0x17w0 (L : List Lf) (p : Int × Int) : Ex × St := (.normal, mg (ofSh sh73x0x17 L) [0, 3, 5, 6] [(5, .c (.i .i64 p.1)), (6, .c (.i .i64 p.2))] [0, 4] [])
noncomputable def A73x0x17 (L : List Lf) : List (Bool × (Ex × St)) := bnd (F73x0x17 N (li L 0) (li L 1) (lb L 2) (fun p => p)) fun q => [(true, K73x0x17w0 L q)]
theorem raw73x0x17 (L : List Lf) : pc Try.prog (T126x0 N) (h73x0s0 N).h 1 100 73 17 sh73x0x17 L [3, 5, 6, 0] [4, 0] = F73x0x17 N (li L 0) (li L 1) (lb L 2) (fun p => some (K73x0x17w0 L p)) := by kernel_rfl
noncomputable def h73x0s1 : Sg Try.prog 1 73 :=
  (h73x0s0 N).cut (A73x0x17 N) progOk (T126x0_ok N) fun L x hx => (raw73x0x17 N L).trans ((tot73x0x17 N ..).trans (alt0 _ _ hx))
noncomputable def F73x0x19 (w0 w1 w4 w5 : Int) (k0 : Bool → R) : R :=
  bnd (V57x0 N w4 0 w0) fun y0 =>
  bif y0 then
    k0 true
  else
    bnd (V57x0 N w5 0 w1) fun y1 =>
    k0 y1
noncomputable def V73x0x19 (w0 w1 w4 w5 : Int) : Bool := F73x0x19 N w0 w1 w4 w5 (fun p => p)
theorem tot73x0x19 (w0 w1 w4 w5 : Int) (k0 : Bool → R) : F73x0x19 N w0 w1 w4 w5 k0 = k0 (V73x0x19 N w0 w1 w4 w5) := by
  unfold V73x0x19 F73x0x19
  repeat' (first | rfl | apply cond_k | (apply bnd_k; intro _))
noncomputable def J73x0x19 (L : List Lf) (k0 : Bool → R) : R := F73x0x19 N (li L 0) (li L 1) (li L 4) (li L 5) k0
noncomputable def sh73x0x19 : Sh := { tmps := [(0, .c (.p 0 0)), (3, .c (.p 4 0)), (5, .c (.i .i64)), (6, .c (.i .i64))], mem := [(0, .dat 106), (4, .box ([.i .i64, .i .i64, .i .i64, .sl 103, .sl 5]))] }
noncomputable def K73x0x19w0 (L : List Lf) (p : Bool) : Ex × St := (.normal, mg (ofSh sh73x0x19 L) [0, 3, 25] [(25, .c (.b p))] [0, 4] [])
noncomputable def A73x0x19 (L : List Lf) : List (Bool × (Ex × St)) := bnd (J73x0x19 N L (fun p => p)) fun q => [(true, K73x0x19w0 L q)]
theorem raw73x0x19 (L : List Lf) : pc Try.prog (T126x0 N) (h73x0s1 N).h 1 100 73 19 sh73x0x19 L [3, 0, 25] [4, 0] = J73x0x19 N L (fun p => some (K73x0x19w0 L p)) := by kernel_rfl
noncomputable def h73x0s2 : Sg Try.prog 1 73 :=
  (h73x0s1 N).cut (A73x0x19 N) progOk (T126x0_ok N) fun L x hx => (raw73x0x19 N L).trans ((tot73x0x19 N ..).trans (alt0 _ _ hx))
noncomputable def F73x0 (v0 v1 v2 : Int) (v4 v6 : LD) (v7 : D) (k0 : Int → Option R) : Option R :=
  bnd (V57x0 N v0 1 3) fun y0 =>
  bif y0 then
    k0 7
  else
    bnd (V73x0x17 N 15 0 (v0 == 3)) fun y1 =>
    bnd (V73x0x19 N y1.1 y1.2 v1 v2) fun y2 =>
    bif y2 then
      k0 9
    else
      bif (v0 == 1) then
        bnd (bif ((v4.length : Int) != 1) then true else (decide ((v6.length : Int) > 0))) fun y3 =>
        bif y3 then
          k0 2
        else
          bif (inB 0 v4.length) then
            bnd (G125x0 N ((v4.getD 0 (.i 0)).cell 1).toI ((v4.getD 0 (.i 0)).cell 2).items) fun y4 =>
            bif y4.isSome then
              k0 (y4.getD default)
            else
              none
          else
            none
      else
        bif (decide ((v4.length : Int) > 0)) then
          k0 2
        else
          bif (inB v1 16) then
            bif (!(v7.cell (0 + (v1.toNat * 1))).toB) then
              k0 11
            else
              bif (inB v1 16) then
                bnd (G79x0 N (v7.cell (18 + (v1.toNat * 3))).items) fun y5 =>
                bif y5.isSome then
                  bnd (bif (v0 == 3) then (bif (!(y5.getD default).2) then true else (decide ((v7.cell 64).toI < 0))) else false) fun y6 =>
                  bif y6 then
                    k0 11
                  else
                    bnd (G100x0 N (v7.cell (18 + (v1.toNat * 3))).items (v0 == 3)) fun y7 =>
                    bif y7.isSome then
                      bnd (G126x0 N (y7.getD default).2) fun y8 =>
                      bif y8.isSome then
                        bif ((v6.length : Int) != (y8.getD default)) then
                          k0 2
                        else
                          k0 0
                      else
                        none
                    else
                      none
                else
                  none
              else
                none
          else
            none
noncomputable def G73x0 (v0 v1 v2 : Int) (v4 v6 : LD) (v7 : D) : Option (Int) := F73x0 N v0 v1 v2 v4 v6 v7 (fun p => some p)
theorem bind73x0 (v0 v1 v2 : Int) (v4 v6 : LD) (v7 : D) (k0 : Int → Option R) : F73x0 N v0 v1 v2 v4 v6 v7 k0 = (G73x0 N v0 v1 v2 v4 v6 v7).bind k0 := by
  unfold G73x0 F73x0
  repeat' (first | with_reducible apply cond_b | (with_reducible apply bnd_b; intro _) | rfl)
noncomputable def J73x0 (L : List Lf) (k0 : Int → Option R) : Option R := F73x0 N (li L 0) (li L 1) (li L 2) (ll L 4) (ll L 6) (ld L 7) k0
noncomputable def sh73x0 : Sh := { tmps := [(0, .c (.p 0 0)), (1, .g ([.i .i64, .i .i64, .i .i64, .sl 103, .sl 5]))], mem := [(0, .dat 106)] }
noncomputable def A73x0 (L : List Lf) : List (Bool × Res) := bnd (J73x0 N L (fun p => some p)) fun q => [(q.isSome, ([.c (.i .i64 (q.getD default))], [(0, .dat 106 (ld L 7))]))]
theorem raw73x0 (L : List Lf) : bd Try.prog (T126x0 N) (h73x0s2 N).h 73 sh73x0 L = J73x0 N L (fun p => some ([.c (.i .i64 p)], [(0, .dat 106 (ld L 7))])) := by kernel_rfl
theorem ok73x0 : FnOk Try.prog 73 sh73x0 (A73x0 N) :=
  (h73x0s2 N).fn progOk (T126x0_ok N) fun L x hx => ((raw73x0 N L).trans ((bind73x0 N ..).trans (alt1 x hx)))
noncomputable def T73x0 : Oracle := ext 73 (spSh sh73x0 (A73x0 N)) (T126x0 N)
theorem T73x0_ok : OracleOk Try.prog (T73x0 N) := FnOk.to (ok73x0 N) (T126x0_ok N)
noncomputable def rg83x0 : List (Nat × List Nat) := [(0, [0, 1]), (1, [0, 1]), (2, [0, 1, 5]), (3, [10, 9, 1, 0, 5]), (4, [10, 1, 0, 5, 9]), (5, [6, 1, 0, 5, 10, 9]), (6, [1, 0, 6, 5, 10, 9, 7]), (7, [0, 6, 5, 10, 9, 1]), (8, [5, 0, 7, 10, 9, 1]), (9, [10, 9, 1, 0, 5]), (10, [5])]
noncomputable def hd83x0 : Hints := [(9, [10, 9, 1, 0, 5], [], []), (23, [0, 6, 5, 10, 9, 1, 7, 15], [], [])]
noncomputable def h83x0s0 (N : Nat) : Sg Try.prog 0 83 := .start hd83x0 rg83x0
noncomputable def F83x0x23 (N : Nat) (w1 : LD) (w4 w5 : Int) (w8 : Bool) (k0 : Int → R) : R :=
  bif w8 then
    bnd (IntKind.wrap .i64 ((IntKind.wrap .i64 ((w1.length : Int) - 1)) - w4)) fun y0 =>
    k0 y0
  else
    k0 w5
noncomputable def V83x0x23 (w1 : LD) (w4 w5 : Int) (w8 : Bool) : Int := F83x0x23 N w1 w4 w5 w8 (fun p => p)
theorem tot83x0x23 (w1 : LD) (w4 w5 : Int) (w8 : Bool) (k0 : Int → R) : F83x0x23 N w1 w4 w5 w8 k0 = k0 (V83x0x23 N w1 w4 w5 w8) := by
  unfold V83x0x23 F83x0x23
  repeat' (first | rfl | apply cond_k | (apply bnd_k; intro _))
noncomputable def J83x0x23 (L : List Lf) (k0 : Int → R) : R := F83x0x23 N (ll L 1) (li L 4) (li L 5) (lb L 8) k0
noncomputable def sh83x0x23 : Sh := { tmps := [(0, .c (.sl 5)), (1, .c (.b)), (5, .c (.i .i64)), (6, .c (.i .i64)), (7, .c (.i .i64)), (9, .c (.i .i64)), (10, .c (.i .i64)), (15, .c (.b))], mem := [] }
noncomputable def K83x0x23w0 (L : List Lf) (p : Int) : Ex × St := (.normal, mg (ofSh sh83x0x23 L) [0, 1, 5, 7, 9, 10] [(7, .c (.i .i64 p))] [] [])
noncomputable def A83x0x23 (L : List Lf) : List (Bool × (Ex × St)) := bnd (J83x0x23 N L (fun p => p)) fun q => [(true, K83x0x23w0 L q)]
theorem raw83x0x23 (L : List Lf) : pc Try.prog (T73x0 N) (h83x0s0 N).h 0 100 83 23 sh83x0x23 L [5, 0, 7, 10, 9, 1] [] = J83x0x23 N L (fun p => some (K83x0x23w0 L p)) := by kernel_rfl
noncomputable def h83x0s1 : Sg Try.prog 0 83 :=
  (h83x0s0 N).cut (A83x0x23 N) progOk (T73x0_ok N) fun L x hx => (raw83x0x23 N L).trans ((tot83x0x23 N ..).trans (alt0 _ _ hx))
noncomputable def S83x0x9 (w1 : LD) (w2 : Bool) (w4 : Int) (w3 w5 : Int) (kr : Int → Int → Option R) (k0 : Int → Option R) : Option R :=
  bif (decide (w5 < w4)) then
    bnd (V83x0x23 N w1 w5 w5 (!w2)) fun y0 =>
    bif (inB y0 w1.length) then
      bnd (IntKind.wrap .i64 ((IntKind.wrap .i64 (256 * w3)) + (IntKind.wrap .i64 (w1.getD y0.toNat (.i 0)).toI))) fun y1 =>
      kr y1 (IntKind.wrap .i64 (w5 + 1))
    else
      none
  else
    k0 w3
noncomputable def L83x0x9 (N : Nat) {R : Type} (w1 : LD) (w2 : Bool) (w4 : Int) : Nat → Int → Int → (Int → Option R) → Option R
  | 0, _, _, _ => none
  | m + 1, w3, w5, k0 => S83x0x9 N w1 w2 w4 w3 w5 (fun w3 w5 => L83x0x9 N w1 w2 w4 m w3 w5 k0) k0
noncomputable def G83x0x9 (w1 : LD) (w2 : Bool) (w4 : Int) (w3 w5 : Int) : Option (Int) := L83x0x9 N (R := (Int)) w1 w2 w4 N w3 w5 (fun p => some p)
noncomputable def J83x0x9 (L x : List Lf) (kr : List Lf → Option R) (k0 : Int → Option R) : Option R := S83x0x9 N (ll L 1) (lb L 2) (li L 4) (li x 0) (li x 1) (fun w3 w5 => kr [.i w3, .i w5]) k0
theorem sb83x0x9 (L x : List Lf) (kr : List Lf → Option R) (k0 : Int → Option R) : J83x0x9 N L x kr k0 = (J83x0x9 N L x (fun y => some (.inl y)) (fun p => some (.inr p))).bind (sumE kr k0) := by
  unfold J83x0x9 S83x0x9
  repeat' (first | with_reducible apply cond_b | (with_reducible apply bnd_b; intro _) | rfl)
noncomputable def Q83x0x9 (L : List Lf) (m : Nat) (x : List Lf) : Option (Int) := L83x0x9 N (R := (Int)) (ll L 1) (lb L 2) (li L 4) m (li x 0) (li x 1) (fun p => some p)
noncomputable def sh83x0x9 : Sh := { tmps := [(0, .c (.sl 5)), (1, .c (.b)), (5, .c (.i .i64)), (9, .c (.i .i64)), (10, .c (.i .i64))], mem := [] }
noncomputable def A83x0x9 (L : List Lf) : List (Bool × (Ex × St)) := bnd (Q83x0x9 N L N (pk sh83x0x9 [3, 5] L)) fun q => [(q.isSome, ((.exit 0), ⟨[(5, .c (.i .i64 (q.getD default)))], []⟩))]
theorem step83x0x9 (m : Nat) (kn : St → Option (Ex × St)) (L x : List Lf) : lpB Try.prog (T73x0 N) (h83x0s1 N).h 0 83 9 sh83x0x9 [3, 5] [4, 5] [] (m + 100) kn L x = J83x0x9 N L x (fun y => kn (ofSh sh83x0x9 (mx sh83x0x9 [3, 5] L y))) (fun p => some ((.exit 0), ⟨[(5, .c (.i .i64 p))], []⟩)) := by kernel_rfl
theorem ql83x0x9 (L : List Lf) (m : Nat) (x : List Lf) : Q83x0x9 N L (m + 1) x = J83x0x9 N L x (Q83x0x9 N L m) some := by kernel_rfl
noncomputable def h83x0s2 : Sg Try.prog 0 83 :=
  (h83x0s1 N).lp (A83x0x9 N) N progOk (T73x0_ok N) (fun m kn L x => (step83x0x9 N m kn L x).trans (sb83x0x9 N L x _ _)) (fun L m x => (ql83x0x9 N L m x).trans (sb83x0x9 N L x (Q83x0x9 N L m) some)) fun L x hx => alt1 x hx
noncomputable def F83x0 (v1 : LD) (v2 : Bool) (k0 : Int → Option R) : Option R :=
  bnd (G83x0x9 N v1 v2 (v1.length : Int) 0 0) fun y0 =>
  bif y0.isSome then
    k0 (y0.getD default)
  else
    none
noncomputable def G83x0 (v1 : LD) (v2 : Bool) : Option (Int) := F83x0 N v1 v2 (fun p => some p)
theorem bind83x0 (v1 : LD) (v2 : Bool) (k0 : Int → Option R) : F83x0 N v1 v2 k0 = (G83x0 N v1 v2).bind k0 := by
  unfold G83x0 F83x0
  repeat' (first | with_reducible apply cond_b | (with_reducible apply bnd_b; intro _) | rfl)
noncomputable def sh83x0 : Sh := { tmps := [(0, .c (.sl 5)), (1, .c (.b))], mem := [] }
noncomputable def A83x0 (L : List Lf) : List (Bool × Res) := bnd (F83x0 N (ll L 1) (lb L 2) (fun p => some p)) fun q => [(q.isSome, ([.c (.i .i64 (q.getD default))], []))]
theorem raw83x0 (L : List Lf) : bd Try.prog (T73x0 N) (h83x0s2 N).h 83 sh83x0 L = F83x0 N (ll L 1) (lb L 2) (fun p => some ([.c (.i .i64 p)], [])) := by kernel_rfl
theorem ok83x0 : FnOk Try.prog 83 sh83x0 (A83x0 N) :=
  (h83x0s2 N).fn progOk (T73x0_ok N) fun L x hx => ((raw83x0 N L).trans ((bind83x0 N ..).trans (alt1 x hx)))
noncomputable def T83x0 : Oracle := ext 83 (spSh sh83x0 (A83x0 N)) (T73x0 N)
theorem T83x0_ok : OracleOk Try.prog (T83x0 N) := FnOk.to (ok83x0 N) (T73x0_ok N)
noncomputable def rg74x0 : List (Nat × List Nat) := [(0, [1, 0]), (1, [3, 0]), (2, [10, 0, 3]), (5, [10, 0, 3]), (6, [0, 3]), (7, [0]), (3, [0, 3]), (4, []), (8, [0, 3]), (9, [5, 3, 0]), (10, [7, 3, 6, 5, 0]), (11, []), (12, [3, 6, 5, 0]), (13, [8, 0]), (14, []), (15, [0, 8]), (16, [8])]
noncomputable def hd74x0 : Hints := []
noncomputable def h74x0s0 (N : Nat) : Sg Try.prog 1 74 := .start hd74x0 rg74x0
noncomputable def F74x0 (v0 v1 v2 : Int) (v4 v6 : LD) (v7 : D) (k0 : Int × D → Option R) : Option R :=
  bif (v0 == 1) then
    bif (inB 0 v4.length) then
      bif (inB v1 16) then
        bif (inB v1 16) then
          bnd (((((v7.put (0 + (v1.toNat * 1)) (.b true)).put (16 + (v1.toNat * 3)) (.b ((v4.getD 0 (.i 0)).cell 0).toB)).put (17 + (v1.toNat * 3)) (.i ((v4.getD 0 (.i 0)).cell 1).toI)).put (18 + (v1.toNat * 3)) (.l ((v4.getD 0 (.i 0)).cell 2).isNil ((v4.getD 0 (.i 0)).cell 2).items)) : D) fun y0 =>
          k0 ((-1), y0)
        else
          none
      else
        none
    else
      none
  else
    bif (v0 == 3) then
      bnd (IntKind.wrap .i64 ((IntKind.wrap .i64 (v2 - ((v7.cell 64).toI.tmod 32))) + 32)) fun y1 =>
      bnd ((v7.put 64 (.i (IntKind.wrap .i64 ((v7.cell 64).toI + (y1.tmod 32))))) : D) fun y2 =>
      k0 ((y2.cell 64).toI, y2)
    else
      bif (inB v1 16) then
        bnd (G79x0 N (v7.cell (18 + (v1.toNat * 3))).items) fun y3 =>
        bif y3.isSome then
          bif (!(y3.getD default).2) then
            k0 ((-1), v7)
          else
            bif (((decide (0 ≤ (y3.getD default).1)) && (decide ((y3.getD default).1 ≤ (IntKind.wrap .i64 ((y3.getD default).1 + 4))))) && (decide ((IntKind.wrap .i64 ((y3.getD default).1 + 4)) ≤ (v6.length : Int)))) then
              bnd (((v6.take (IntKind.wrap .i64 ((y3.getD default).1 + 4)).toNat).drop (y3.getD default).1.toNat) : List D) fun y4 =>
              bnd (G83x0 N y4 (v7.cell (16 + (v1.toNat * 3))).toB) fun y5 =>
              bif y5.isSome then
                bif ((y5.getD default) == 4294967295) then
                  k0 ((-1), v7)
                else
                  k0 ((y5.getD default), (v7.put 64 (.i (y5.getD default))))
              else
                none
            else
              none
        else
          none
      else
        none
noncomputable def G74x0 (v0 v1 v2 : Int) (v4 v6 : LD) (v7 : D) : Option (Int × D) := F74x0 N v0 v1 v2 v4 v6 v7 (fun p => some p)
theorem bind74x0 (v0 v1 v2 : Int) (v4 v6 : LD) (v7 : D) (k0 : Int × D → Option R) : F74x0 N v0 v1 v2 v4 v6 v7 k0 = (G74x0 N v0 v1 v2 v4 v6 v7).bind k0 := by
  unfold G74x0 F74x0
  repeat' (first | with_reducible apply cond_b | (with_reducible apply bnd_b; intro _) | rfl)
noncomputable def J74x0 (L : List Lf) (k0 : Int × D → Option R) : Option R := F74x0 N (li L 0) (li L 1) (li L 2) (ll L 4) (ll L 6) (ld L 7) k0
noncomputable def sh74x0 : Sh := { tmps := [(0, .c (.p 0 0)), (1, .g ([.i .i64, .i .i64, .i .i64, .sl 103, .sl 5]))], mem := [(0, .dat 106)] }
noncomputable def A74x0 (L : List Lf) : List (Bool × Res) := bnd (J74x0 N L (fun p => some p)) fun q => [(q.isSome, ([.c (.i .i64 (q.getD default).1)], [(0, .dat 106 (q.getD default).2)]))]
theorem raw74x0 (L : List Lf) : bd Try.prog (T83x0 N) (h74x0s0 N).h 74 sh74x0 L = J74x0 N L (fun p => some ([.c (.i .i64 p.1)], [(0, .dat 106 p.2)])) := by kernel_rfl
theorem ok74x0 : FnOk Try.prog 74 sh74x0 (A74x0 N) :=
  (h74x0s0 N).fn progOk (T83x0_ok N) fun L x hx => ((raw74x0 N L).trans ((bind74x0 N ..).trans (alt1 x hx)))
noncomputable def T74x0 : Oracle := ext 74 (spSh sh74x0 (A74x0 N)) (T83x0 N)
theorem T74x0_ok : OracleOk Try.prog (T74x0 N) := FnOk.to (ok74x0 N) (T83x0_ok N)
noncomputable def rg23x0 : List (Nat × List Nat) := [(0, [0]), (1, [1]), (2, []), (3, [1]), (4, [1, 3]), (5, [16, 15, 14, 3]), (6, [14, 16, 3, 15]), (7, [3, 5, 16, 15, 14]), (8, [6, 3, 5, 16, 15, 14]), (9, [6]), (10, [3, 5, 16, 15, 14]), (11, [16, 15, 14, 3]), (12, [])]
noncomputable def hd23x0 : Hints := [(15, [16, 15, 14, 3], [12], [])]
noncomputable def h23x0s0 (N : Nat) : Sg Try.prog 0 23 := .start hd23x0 rg23x0
noncomputable def S23x0x15 (w1 : LD) (w2 : Int) (w3 : Int) (w4 : D) (kr : Int → D → Option R) (k0 : Int → Option R) (k1 : Unit → Option R) : Option R :=
  bif (decide (w3 < w2)) then
    bif (inB w3 w1.length) then
      bnd (G73x0 N ((w1.getD w3.toNat (.i 0)).cell 0).toI ((w1.getD w3.toNat (.i 0)).cell 1).toI ((w1.getD w3.toNat (.i 0)).cell 2).toI ((w1.getD w3.toNat (.i 0)).cell 3).items ((w1.getD w3.toNat (.i 0)).cell 4).items w4) fun y0 =>
      bif y0.isSome then
        bif ((y0.getD default) != 0) then
          k0 (y0.getD default)
        else
          bnd (G74x0 N ((w1.getD w3.toNat (.i 0)).cell 0).toI ((w1.getD w3.toNat (.i 0)).cell 1).toI ((w1.getD w3.toNat (.i 0)).cell 2).toI ((w1.getD w3.toNat (.i 0)).cell 3).items ((w1.getD w3.toNat (.i 0)).cell 4).items w4) fun y1 =>
          bif y1.isSome then
            kr (IntKind.wrap .i64 (w3 + 1)) (y1.getD default).2
          else
            none
      else
        none
    else
      none
  else
    k1 ()
noncomputable def L23x0x15 (N : Nat) {R : Type} (w1 : LD) (w2 : Int) : Nat → Int → D → (Int → Option R) → (Unit → Option R) → Option R
  | 0, _, _, _, _ => none
  | m + 1, w3, w4, k0, k1 => S23x0x15 N w1 w2 w3 w4 (fun w3 w4 => L23x0x15 N w1 w2 m w3 w4 k0 k1) k0 k1
noncomputable def G23x0x15 (w1 : LD) (w2 : Int) (w3 : Int) (w4 : D) : Option (Sum (Int) (Unit)) := L23x0x15 N (R := (Sum (Int) (Unit))) w1 w2 N w3 w4 (fun p => some (.inl p)) (fun p => some (.inr p))
noncomputable def J23x0x15 (L x : List Lf) (kr : List Lf → Option R) (k0 : Int → Option R) (k1 : Unit → Option R) : Option R := S23x0x15 N (ll L 1) (li L 2) (li x 0) (ld x 1) (fun w3 w4 => kr [.i w3, .d w4]) k0 k1
theorem sb23x0x15 (L x : List Lf) (kr : List Lf → Option R) (k0 : Int → Option R) (k1 : Unit → Option R) : J23x0x15 N L x kr k0 k1 = (J23x0x15 N L x (fun y => some (.inl y)) (fun p => some (.inr (.inl p))) (fun p => some (.inr (.inr p)))).bind (sumE kr (sumE k0 k1)) := by
  unfold J23x0x15 S23x0x15
  repeat' (first | with_reducible apply cond_b | (with_reducible apply bnd_b; intro _) | rfl)
noncomputable def Q23x0x15 (L : List Lf) (m : Nat) (x : List Lf) : Option (Sum (Int) (Unit)) := L23x0x15 N (R := (Sum (Int) (Unit))) (ll L 1) (li L 2) m (li x 0) (ld x 1) (fun p => some (.inl p)) (fun p => some (.inr p))
noncomputable def sh23x0x15 : Sh := { tmps := [(3, .c (.p 12 0)), (14, .c (.sl 53)), (15, .c (.i .i64)), (16, .c (.i .i64))], mem := [(12, .dat 106)] }
noncomputable def A23x0x15 (L : List Lf) : List (Bool × (Ex × St)) := bnd (Q23x0x15 N L N (pk sh23x0x15 [3, 4] L)) fun q => [((inlB q), (.ret, ⟨[(2, .c (.i .i64 (inlV q)))], []⟩)), ((inrQ q).isSome, ((.exit 0), ⟨[], []⟩))]
theorem step23x0x15 (m : Nat) (kn : St → Option (Ex × St)) (L x : List Lf) : lpB Try.prog (T74x0 N) (h23x0s0 N).h 0 23 15 sh23x0x15 [3, 4] [2] [] (m + 100) kn L x = J23x0x15 N L x (fun y => kn (ofSh sh23x0x15 (mx sh23x0x15 [3, 4] L y))) (fun p => some (.ret, ⟨[(2, .c (.i .i64 p))], []⟩)) (fun _ => some ((.exit 0), ⟨[], []⟩)) := by kernel_rfl
theorem ql23x0x15 (L : List Lf) (m : Nat) (x : List Lf) : Q23x0x15 N L (m + 1) x = J23x0x15 N L x (Q23x0x15 N L m) (fun p => some (.inl p)) (fun p => some (.inr p)) := by kernel_rfl
noncomputable def h23x0s1 : Sg Try.prog 0 23 :=
  (h23x0s0 N).lp (A23x0x15 N) N progOk (T74x0_ok N) (fun m kn L x => (step23x0x15 N m kn L x).trans (sb23x0x15 N L x _ _ _)) (fun L m x => (ql23x0x15 N L m x).trans (sb23x0x15 N L x (Q23x0x15 N L m) (fun p => some (.inl p)) (fun p => some (.inr p)))) fun L x hx => (altS alt1) x hx
noncomputable def F23x0 (v1 : LD) (k0 : Int → Option R) : Option R :=
  bif (decide ((v1.length : Int) > 50000)) then
    k0 3
  else
    bnd ((.a [(.b false), (.b false), (.b false), (.b false), (.b false), (.b false), (.b false), (.b false), (.b false), (.b false), (.b false), (.b false), (.b false), (.b false), (.b false), (.b false), (.b false), (.i 0), (.l true []), (.b false), (.i 0), (.l true []), (.b false), (.i 0), (.l true []), (.b false), (.i 0), (.l true []), (.b false), (.i 0), (.l true []), (.b false), (.i 0), (.l true []), (.b false), (.i 0), (.l true []), (.b false), (.i 0), (.l true []), (.b false), (.i 0), (.l true []), (.b false), (.i 0), (.l true []), (.b false), (.i 0), (.l true []), (.b false), (.i 0), (.l true []), (.b false), (.i 0), (.l true []), (.b false), (.i 0), (.l true []), (.b false), (.i 0), (.l true []), (.b false), (.i 0), (.l true []), (.i (-1))]) : D) fun y0 =>
    bnd (G23x0x15 N v1 (v1.length : Int) 0 y0) fun y1 =>
    bif (inlB y1) then
      k0 (inlV y1)
    else
      bif (inrQ y1).isSome then
        k0 0
      else
        none
noncomputable def G23x0 (v1 : LD) : Option (Int) := F23x0 N v1 (fun p => some p)
theorem bind23x0 (v1 : LD) (k0 : Int → Option R) : F23x0 N v1 k0 = (G23x0 N v1).bind k0 := by
  unfold G23x0 F23x0
  repeat' (first | with_reducible apply cond_b | (with_reducible apply bnd_b; intro _) | rfl)
noncomputable def sh23x0 : Sh := { tmps := [(0, .g ([.sl 53]))], mem := [] }
noncomputable def A23x0 (L : List Lf) : List (Bool × Res) := bnd (F23x0 N (ll L 1) (fun p => some p)) fun q => [(q.isSome, ([.c (.i .i64 (q.getD default))], []))]
theorem raw23x0 (L : List Lf) : bd Try.prog (T74x0 N) (h23x0s1 N).h 23 sh23x0 L = F23x0 N (ll L 1) (fun p => some ([.c (.i .i64 p)], [])) := by kernel_rfl
theorem ok23x0 : FnOk Try.prog 23 sh23x0 (A23x0 N) :=
  (h23x0s1 N).fn progOk (T74x0_ok N) fun L x hx => ((raw23x0 N L).trans ((bind23x0 N ..).trans (alt1 x hx)))
noncomputable def T23x0 : Oracle := ext 23 (spSh sh23x0 (A23x0 N)) (T74x0 N)
theorem T23x0_ok : OracleOk Try.prog (T23x0 N) := FnOk.to (ok23x0 N) (T74x0_ok N)
noncomputable def rg64x0 : List (Nat × List Nat) := [(0, [0]), (1, [1, 2]), (2, [1, 3, 2]), (3, [1, 4, 3, 2]), (4, [15, 14, 13, 4, 3, 2]), (5, [13, 15, 4, 3, 14, 2]), (6, [4, 6, 3, 15, 14, 13, 2]), (7, [6, 4, 3, 7, 15, 14, 13, 2]), (8, [6, 4, 3, 7, 15, 14, 13, 2, 8]), (9, [4, 6, 3, 7, 15, 14, 13, 2]), (10, [3, 8, 7, 15, 14, 13, 4, 2]), (11, [3, 7, 15, 14, 13, 4, 2]), (12, [15, 14, 13, 4, 3, 2]), (13, [3, 2])]
noncomputable def hd64x0 : Hints := [(12, [15, 14, 13, 4, 3, 2], [11, 3, 2, 50003001, 50003000], [50003001, 50003000]), (29, [4, 6, 3, 7, 15, 14, 13, 2, 8, 24], [6, 11, 50003001, 50003000, 3, 2], [])]
noncomputable def h64x0s0 (N : Nat) : Sg Try.prog 0 64 := .start hd64x0 rg64x0
noncomputable def F64x0x29 (N : Nat) (w7 : Bool) (w13 : Int) (w19 : D) (k0 : LD → Option R) (k1 : Unit → Option R) : Option R :=
  bif w7 then
    bif (inB w13 16) then
      k0 [(.a [(.b (w19.cell (16 + (w13.toNat * 3))).toB), (.i (w19.cell (17 + (w13.toNat * 3))).toI), (.l (w19.cell (18 + (w13.toNat * 3))).isNil (w19.cell (18 + (w13.toNat * 3))).items)])]
    else
      none
  else
    k1 ()
noncomputable def G64x0x29 (w7 : Bool) (w13 : Int) (w19 : D) : Option (Sum (LD) (Unit)) := F64x0x29 N w7 w13 w19 (fun p => some (.inl p)) (fun p => some (.inr p))
theorem bind64x0x29 (w7 : Bool) (w13 : Int) (w19 : D) (k0 : LD → Option R) (k1 : Unit → Option R) : F64x0x29 N w7 w13 w19 k0 k1 = (G64x0x29 N w7 w13 w19).bind (sumE k0 k1) := by
  unfold G64x0x29 F64x0x29
  repeat' (first | with_reducible apply cond_b | (with_reducible apply bnd_b; intro _) | rfl)
noncomputable def sh64x0x29 : Sh := { tmps := [(2, .c (.p 2 0)), (3, .c (.p 3 0)), (4, .c (.p 11 0)), (6, .c (.p 6 0)), (7, .c (.i .i64)), (8, .c (.sl 103)), (13, .c (.sl 53)), (14, .c (.i .i64)), (15, .c (.i .i64)), (24, .c (.b))], mem := [(2, .box ([.sl 51, .sl 3])), (3, .box ([.o 50003000, .o 50003001])), (6, .box ([.i .i64, .i .i64, .i .i64, .sl 103, .sl 5])), (11, .dat 106), (50003000, .row 51 true), (50003001, .row 3 true)] }
noncomputable def K64x0x29w0 (L : List Lf) (p : LD) : Ex × St := (.normal, mg (ofSh sh64x0x29 L) [2, 3, 4, 7, 8, 13, 14, 15] [(8, .c (.o 32))] [2, 3, 11, 32, 50003000, 50003001] [(32, .row 103 true false p)])
noncomputable def K64x0x29w1 (L : List Lf) (_ : Unit) : Ex × St := (.normal, mg (ofSh sh64x0x29 L) [2, 3, 4, 7, 8, 13, 14, 15] [] [2, 3, 11, 50003000, 50003001] [])
noncomputable def A64x0x29 (L : List Lf) : List (Bool × (Ex × St)) := bnd (F64x0x29 N (lb L 7) (li L 13) (ld L 19) (fun p => some (.inl p)) (fun p => some (.inr p))) fun q => [((inlB q), K64x0x29w0 L (inlV q)), ((inrQ q).isSome, K64x0x29w1 L ())]
theorem raw64x0x29 (L : List Lf) : pc Try.prog (T23x0 N) (h64x0s0 N).h 0 100 64 29 sh64x0x29 L [3, 8, 7, 15, 14, 13, 4, 2] [32, 11, 50003001, 50003000, 3, 2] = F64x0x29 N (lb L 7) (li L 13) (ld L 19) (fun p => some (K64x0x29w0 L p)) (fun _ => some (K64x0x29w1 L ())) := by kernel_rfl
noncomputable def h64x0s1 : Sg Try.prog 0 64 :=
  (h64x0s0 N).cut (A64x0x29 N) progOk (T23x0_ok N) fun L x hx => (raw64x0x29 N L).trans ((bind64x0x29 N ..).trans ((altS alt1) x hx))
noncomputable def S64x0x12 (w1 : LD) (w2 : Int) (w3 : Int) (w8 : D) (w9 : Bool) (w10 : LD) (w11 : Bool) (w12 : LD) (kr : Int → D → Bool → LD → Bool → LD → Option R) (k0 : Ty6 → Option R) : Option R :=
  bif (decide (w3 < w2)) then
    bif (inB w3 w1.length) then
      bnd (G74x0 N ((w1.getD w3.toNat (.i 0)).cell 0).toI ((w1.getD w3.toNat (.i 0)).cell 1).toI ((w1.getD w3.toNat (.i 0)).cell 2).toI ((w1.getD w3.toNat (.i 0)).cell 3).items ((w1.getD w3.toNat (.i 0)).cell 4).items w8) fun y0 =>
      bif y0.isSome then
        bnd (G64x0x29 N (((w1.getD w3.toNat (.i 0)).cell 0).toI != 1) ((w1.getD w3.toNat (.i 0)).cell 1).toI (y0.getD default).2) fun y1 =>
        bif (inlB y1) then
          bif (decide ((w10.length + 1) * 24 ≤ room) && decide ((w10.length + 1) ≤ strMax)) then
            bif (decide ((w12.length + 1) * 8 ≤ room) && decide ((w12.length + 1) ≤ strMax)) then
              kr (IntKind.wrap .i64 (w3 + 1)) (y0.getD default).2 false (w10 ++ [(.l false (inlV y1))]) false (w12 ++ [(.i (y0.getD default).1)])
            else
              none
          else
            none
        else
          bif (inrQ y1).isSome then
            bif (decide ((w10.length + 1) * 24 ≤ room) && decide ((w10.length + 1) ≤ strMax)) then
              bif (decide ((w12.length + 1) * 8 ≤ room) && decide ((w12.length + 1) ≤ strMax)) then
                kr (IntKind.wrap .i64 (w3 + 1)) (y0.getD default).2 false (w10 ++ [(.l true [])]) false (w12 ++ [(.i (y0.getD default).1)])
              else
                none
            else
              none
          else
            none
      else
        none
    else
      none
  else
    k0 (w9, w10, w11, w12)
noncomputable def L64x0x12 (N : Nat) {R : Type} (w1 : LD) (w2 : Int) : Nat → Int → D → Bool → LD → Bool → LD → (Ty6 → Option R) → Option R
  | 0, _, _, _, _, _, _, _ => none
  | m + 1, w3, w8, w9, w10, w11, w12, k0 => S64x0x12 N w1 w2 w3 w8 w9 w10 w11 w12 (fun w3 w8 w9 w10 w11 w12 => L64x0x12 N w1 w2 m w3 w8 w9 w10 w11 w12 k0) k0
noncomputable def G64x0x12 (w1 : LD) (w2 : Int) (w3 : Int) (w8 : D) (w9 : Bool) (w10 : LD) (w11 : Bool) (w12 : LD) : Option (Ty6) := L64x0x12 N (R := (Ty6)) w1 w2 N w3 w8 w9 w10 w11 w12 (fun p => some p)
noncomputable def J64x0x12 (L x : List Lf) (kr : List Lf → Option R) (k0 : Ty6 → Option R) : Option R := S64x0x12 N (ll L 1) (li L 2) (li x 0) (ld x 1) (lb x 2) (ll x 3) (lb x 4) (ll x 5) (fun w3 w8 w9 w10 w11 w12 => kr [.i w3, .d w8, .b w9, .l w10, .b w11, .l w12]) k0
theorem sb64x0x12 (L x : List Lf) (kr : List Lf → Option R) (k0 : Ty6 → Option R) : J64x0x12 N L x kr k0 = (J64x0x12 N L x (fun y => some (.inl y)) (fun p => some (.inr p))).bind (sumE kr k0) := by
  unfold J64x0x12 S64x0x12
  repeat' (first | with_reducible apply cond_b | (with_reducible apply bnd_b; intro _) | rfl)
noncomputable def Q64x0x12 (L : List Lf) (m : Nat) (x : List Lf) : Option (Ty6) := L64x0x12 N (R := (Ty6)) (ll L 1) (li L 2) m (li x 0) (ld x 1) (lb x 2) (ll x 3) (lb x 4) (ll x 5) (fun p => some p)
noncomputable def sh64x0x12 : Sh := { tmps := [(2, .c (.p 2 0)), (3, .c (.p 3 0)), (4, .c (.p 11 0)), (13, .c (.sl 53)), (14, .c (.i .i64)), (15, .c (.i .i64))], mem := [(2, .box ([.sl 51, .sl 3])), (3, .box ([.o 50003000, .o 50003001])), (11, .dat 106), (50003000, .row 51 true), (50003001, .row 3 true)] }
noncomputable def K64x0x12w0 (L : List Lf) (p : Ty6) : Ex × St := ((.exit 0), mg (ofSh sh64x0x12 L) [2, 3] [] [2, 3, 50003000, 50003001] [(50003000, .row 51 true p.1 p.2.1), (50003001, .row 3 true p.2.2.1 p.2.2.2)])
noncomputable def A64x0x12 (L : List Lf) : List (Bool × (Ex × St)) := bnd (Q64x0x12 N L N (pk sh64x0x12 [3, 8, 9, 10, 11, 12] L)) fun q => [(q.isSome, K64x0x12w0 L (q.getD default))]
theorem step64x0x12 (m : Nat) (kn : St → Option (Ex × St)) (L x : List Lf) : lpB Try.prog (T23x0 N) (h64x0s1 N).h 0 64 12 sh64x0x12 [3, 8, 9, 10, 11, 12] [2, 3] [50003001, 50003000, 3, 2] (m + 100) kn L x = J64x0x12 N L x (fun y => kn (ofSh sh64x0x12 (mx sh64x0x12 [3, 8, 9, 10, 11, 12] L y))) (fun p => some (K64x0x12w0 L p)) := by kernel_rfl
theorem ql64x0x12 (L : List Lf) (m : Nat) (x : List Lf) : Q64x0x12 N L (m + 1) x = J64x0x12 N L x (Q64x0x12 N L m) some := by kernel_rfl
noncomputable def h64x0s2 : Sg Try.prog 0 64 :=
  (h64x0s1 N).lp (A64x0x12 N) N progOk (T23x0_ok N) (fun m kn L x => (step64x0x12 N m kn L x).trans (sb64x0x12 N L x _ _)) (fun L m x => (ql64x0x12 N L m x).trans (sb64x0x12 N L x (Q64x0x12 N L m) some)) fun L x hx => alt1 x hx
noncomputable def F64x0 (v1 : LD) (k0 : Ty6 → Option R) : Option R :=
  bnd ((.a [(.b false), (.b false), (.b false), (.b false), (.b false), (.b false), (.b false), (.b false), (.b false), (.b false), (.b false), (.b false), (.b false), (.b false), (.b false), (.b false), (.b false), (.i 0), (.l true []), (.b false), (.i 0), (.l true []), (.b false), (.i 0), (.l true []), (.b false), (.i 0), (.l true []), (.b false), (.i 0), (.l true []), (.b false), (.i 0), (.l true []), (.b false), (.i 0), (.l true []), (.b false), (.i 0), (.l true []), (.b false), (.i 0), (.l true []), (.b false), (.i 0), (.l true []), (.b false), (.i 0), (.l true []), (.b false), (.i 0), (.l true []), (.b false), (.i 0), (.l true []), (.b false), (.i 0), (.l true []), (.b false), (.i 0), (.l true []), (.b false), (.i 0), (.l true []), (.i (-1))]) : D) fun y0 =>
  bnd (G64x0x12 N v1 (v1.length : Int) 0 y0 true [] true []) fun y1 =>
  bif y1.isSome then
    k0 (y1.getD default)
  else
    none
noncomputable def G64x0 (v1 : LD) : Option (Ty6) := F64x0 N v1 (fun p => some p)
theorem bind64x0 (v1 : LD) (k0 : Ty6 → Option R) : F64x0 N v1 k0 = (G64x0 N v1).bind k0 := by
  unfold G64x0 F64x0
  repeat' (first | with_reducible apply cond_b | (with_reducible apply bnd_b; intro _) | rfl)
noncomputable def sh64x0 : Sh := { tmps := [(0, .g ([.sl 53]))], mem := [] }
noncomputable def A64x0 (L : List Lf) : List (Bool × Res) := bnd (F64x0 N (ll L 1) (fun p => some p)) fun q => [(q.isSome, ([.g [.sl 51 (q.getD default).1 (q.getD default).2.1, .sl 3 (q.getD default).2.2.1 (q.getD default).2.2.2]], []))]
theorem raw64x0 (L : List Lf) : bd Try.prog (T23x0 N) (h64x0s2 N).h 64 sh64x0 L = F64x0 N (ll L 1) (fun p => some ([.g [.sl 51 p.1 p.2.1, .sl 3 p.2.2.1 p.2.2.2]], [])) := by kernel_rfl
theorem ok64x0 : FnOk Try.prog 64 sh64x0 (A64x0 N) :=
  (h64x0s2 N).fn progOk (T23x0_ok N) fun L x hx => ((raw64x0 N L).trans ((bind64x0 N ..).trans (alt1 x hx)))
noncomputable def T64x0 : Oracle := ext 64 (spSh sh64x0 (A64x0 N)) (T23x0 N)
theorem T64x0_ok : OracleOk Try.prog (T64x0 N) := FnOk.to (ok64x0 N) (T23x0_ok N)
noncomputable def rg139x0 : List (Nat × List Nat) := [(0, [0]), (1, [1]), (2, [1]), (3, [1])]
noncomputable def hd139x0 : Hints := []
noncomputable def h139x0s0 (N : Nat) : Sg Try.prog 0 139 := .start hd139x0 rg139x0
noncomputable def F139x0 (N : Nat) (v1 v2 : Int) (k0 : Int → Option R) : Option R :=
  bif (v2 == 1) then
    bif (decide (0 ≤ (IntKind.wrap .i64 ((IntKind.wrap .i64 (8 * v1)) - 1)))) then
      bnd (IntKind.wrap .i64 (1 * 2 ^ (min (IntKind.wrap .i64 ((IntKind.wrap .i64 (8 * v1)) - 1)).toNat 64))) fun y0 =>
      k0 (IntKind.wrap .i64 (y0 - 1))
    else
      none
  else
    bif (decide (0 ≤ (IntKind.wrap .i64 (8 * v1)))) then
      bnd (IntKind.wrap .i64 (1 * 2 ^ (min (IntKind.wrap .i64 (8 * v1)).toNat 64))) fun y1 =>
      k0 (IntKind.wrap .i64 (y1 - 1))
    else
      none
noncomputable def G139x0 (v1 v2 : Int) : Option (Int) := F139x0 N v1 v2 (fun p => some p)
theorem bind139x0 (v1 v2 : Int) (k0 : Int → Option R) : F139x0 N v1 v2 k0 = (G139x0 N v1 v2).bind k0 := by
  unfold G139x0 F139x0
  repeat' (first | with_reducible apply cond_b | (with_reducible apply bnd_b; intro _) | rfl)
noncomputable def sh139x0 : Sh := { tmps := [(0, .g ([.i .i64, .i .i64, .i .i64]))], mem := [] }
noncomputable def A139x0 (L : List Lf) : List (Bool × Res) := bnd (F139x0 N (li L 1) (li L 2) (fun p => some p)) fun q => [(q.isSome, ([.c (.i .i64 (q.getD default))], []))]
theorem raw139x0 (L : List Lf) : bd Try.prog (T64x0 N) (h139x0s0 N).h 139 sh139x0 L = F139x0 N (li L 1) (li L 2) (fun p => some ([.c (.i .i64 p)], [])) := by kernel_rfl
theorem ok139x0 : FnOk Try.prog 139 sh139x0 (A139x0 N) :=
  (h139x0s0 N).fn progOk (T64x0_ok N) fun L x hx => ((raw139x0 N L).trans ((bind139x0 N ..).trans (alt1 x hx)))
noncomputable def T139x0 : Oracle := ext 139 (spSh sh139x0 (A139x0 N)) (T64x0 N)
theorem T139x0_ok : OracleOk Try.prog (T139x0 N) := FnOk.to (ok139x0 N) (T64x0_ok N)
noncomputable def rg136x0 : List (Nat × List Nat) := [(0, [0, 1, 2]), (1, [3, 1, 6, 2]), (2, [3, 1, 7, 6, 2]), (10, [15, 1, 7, 6, 2, 3]), (13, [15, 1, 7, 6, 2, 3]), (3, [1, 2, 3, 7, 6]), (4, [8, 3, 7, 6]), (5, [7, 6]), (6, [7, 6]), (7, [3, 8, 7, 6]), (8, [8, 3, 7, 6]), (9, [8, 7, 6]), (14, [1, 7, 6]), (11, [1, 7, 6]), (12, [7, 6]), (15, [7, 6])]
noncomputable def hd136x0 : Hints := [(26, [8, 3, 7, 6, 36], [7, 6, 3], []), (9044, [1, 7, 6, 2, 3, 59], [7, 6, 3], []), (39035, [1, 7, 6, 15, 2, 3, 45], [7, 6, 3], [])]
noncomputable def h136x0s0 (N : Nat) : Sg Try.prog 0 136 := .start hd136x0 rg136x0
noncomputable def F136x0x26 (N : Nat) (w0 : Int) (w1 : Bool) (w3 : Int) (k0 : Int → Option R) : Option R :=
  bif w1 then
    bif (decide (0 ≤ (IntKind.wrap .i64 (8 * w3)))) then
      bnd (IntKind.wrap .i64 (1 * 2 ^ (min (IntKind.wrap .i64 (8 * w3)).toNat 64))) fun y0 =>
      k0 (IntKind.wrap .i64 (w0 - y0))
    else
      none
  else
    k0 w0
noncomputable def G136x0x26 (w0 : Int) (w1 : Bool) (w3 : Int) : Option (Int) := F136x0x26 N w0 w1 w3 (fun p => some p)
theorem bind136x0x26 (w0 : Int) (w1 : Bool) (w3 : Int) (k0 : Int → Option R) : F136x0x26 N w0 w1 w3 k0 = (G136x0x26 N w0 w1 w3).bind k0 := by
  unfold G136x0x26 F136x0x26
  repeat' (first | with_reducible apply cond_b | (with_reducible apply bnd_b; intro _) | rfl)
noncomputable def sh136x0x26 : Sh := { tmps := [(3, .c (.p 3 0)), (6, .c (.p 6 0)), (7, .c (.p 7 0)), (8, .c (.i .i64)), (36, .c (.b))], mem := [(3, .box ([.i .i64, .i .i64, .i .i64])), (6, .box ([.i .i64, .i .i64, .i .i64, .s, .b])), (7, .box ([.i .i64, .i .i64, .i .i64, .s, .b]))] }
noncomputable def K136x0x26w0 (L : List Lf) (p : Int) : Ex × St := (.normal, mg (ofSh sh136x0x26 L) [6, 7, 8] [(8, .c (.i .i64 p))] [6, 7] [])
noncomputable def A136x0x26 (L : List Lf) : List (Bool × (Ex × St)) := bnd (F136x0x26 N (li L 0) (lb L 1) (li L 3) (fun p => some p)) fun q => [(q.isSome, K136x0x26w0 L (q.getD default))]
theorem raw136x0x26 (L : List Lf) : pc Try.prog (T139x0 N) (h136x0s0 N).h 0 100 136 26 sh136x0x26 L [8, 7, 6] [7, 6] = F136x0x26 N (li L 0) (lb L 1) (li L 3) (fun p => some (K136x0x26w0 L p)) := by kernel_rfl
noncomputable def h136x0s1 : Sg Try.prog 0 136 :=
  (h136x0s0 N).cut (A136x0x26 N) progOk (T139x0_ok N) fun L x hx => (raw136x0x26 N L).trans ((bind136x0x26 N ..).trans (alt1 x hx))
noncomputable def F136x0x9044 (w1 : LD) (w2 w3 : Bool) (w5 w6 w14 : Int) (w15 : LB) (k0 : Int × LB → Option R) (k1 : Unit → Option R) : Option R :=
  bif w3 then
    k0 (w14, (strD w1))
  else
    bnd (G83x0 N w1 w2) fun y0 =>
    bif y0.isSome then
      bnd (G139x0 N w5 w6) fun y1 =>
      bif y1.isSome then
        bif ((y0.getD default) == (y1.getD default)) then
          k1 ()
        else
          bif (bif (decide (0 ≤ (IntKind.wrap .i64 ((IntKind.wrap .i64 (8 * w5)) - 1)))) then true else (!((w6 == 1) == true))) then
            bnd (bif (w6 == 1) then (decide ((y0.getD default) ≥ (IntKind.wrap .i64 (1 * 2 ^ (min (IntKind.wrap .i64 ((IntKind.wrap .i64 (8 * w5)) - 1)).toNat 64))))) else false) fun y2 =>
            bnd (G136x0x26 N (y0.getD default) y2 w5) fun y3 =>
            bif y3.isSome then
              k0 ((y3.getD default), w15)
            else
              none
          else
            none
      else
        none
    else
      none
noncomputable def G136x0x9044 (w1 : LD) (w2 w3 : Bool) (w5 w6 w14 : Int) (w15 : LB) : Option (Sum (Int × LB) (Unit)) := F136x0x9044 N w1 w2 w3 w5 w6 w14 w15 (fun p => some (.inl p)) (fun p => some (.inr p))
theorem bind136x0x9044 (w1 : LD) (w2 w3 : Bool) (w5 w6 w14 : Int) (w15 : LB) (k0 : Int × LB → Option R) (k1 : Unit → Option R) : F136x0x9044 N w1 w2 w3 w5 w6 w14 w15 k0 k1 = (G136x0x9044 N w1 w2 w3 w5 w6 w14 w15).bind (sumE k0 k1) := by
  unfold G136x0x9044 F136x0x9044
  repeat' (first | with_reducible apply cond_b | (with_reducible apply bnd_b; intro _) | rfl)
noncomputable def J136x0x9044 (L : List Lf) (k0 : Int × LB → Option R) (k1 : Unit → Option R) : Option R := F136x0x9044 N (ll L 1) (lb L 2) (lb L 3) (li L 5) (li L 6) (li L 14) (ls L 15) k0 k1
noncomputable def sh136x0x9044 : Sh := { tmps := [(1, .c (.sl 5)), (2, .c (.b)), (3, .c (.p 3 0)), (6, .c (.p 6 0)), (7, .c (.p 7 0)), (59, .c (.b))], mem := [(3, .box ([.i .i64, .i .i64, .i .i64])), (6, .box ([.i .i64, .i .i64, .i .i64, .s, .b])), (7, .box ([.i .i64, .i .i64, .i .i64, .s, .b]))] }
noncomputable def K136x0x9044w0 (L : List Lf) (p : Int × LB) : Ex × St := (.normal, mg (ofSh sh136x0x9044 L) [6, 7] [] [6, 7] [(7, .box [.i .i64 (li L 12), .i .i64 (li L 13), .i .i64 p.1, .s p.2, .b (lb L 16)])])
noncomputable def K136x0x9044w1 (L : List Lf) (_ : Unit) : Ex × St := (.ret, ⟨[(6, .c (.p 6 0)), (7, .c (.p 7 0))], [(6, .box [.i .i64 (li L 12), .i .i64 (li L 13), .i .i64 (li L 14), .s (ls L 15), .b true]), (7, .box [.i .i64 (li L 12), .i .i64 (li L 13), .i .i64 (li L 14), .s (ls L 15), .b true])]⟩)
noncomputable def A136x0x9044 (L : List Lf) : List (Bool × (Ex × St)) := bnd (J136x0x9044 N L (fun p => some (.inl p)) (fun p => some (.inr p))) fun q => [((inlB q), K136x0x9044w0 L (inlV q)), ((inrQ q).isSome, K136x0x9044w1 L ())]
theorem raw136x0x9044 (L : List Lf) : pc Try.prog (T139x0 N) (h136x0s1 N).h 0 100 136 9044 sh136x0x9044 L [7, 6] [7, 6] = J136x0x9044 N L (fun p => some (K136x0x9044w0 L p)) (fun _ => some (K136x0x9044w1 L ())) := by kernel_rfl
noncomputable def h136x0s2 : Sg Try.prog 0 136 :=
  (h136x0s1 N).cut (A136x0x9044 N) progOk (T139x0_ok N) fun L x hx => (raw136x0x9044 N L).trans ((bind136x0x9044 N ..).trans ((altS alt1) x hx))
noncomputable def F136x0x39035 (w1 : LD) (w2 : Bool) (w3 : Int) (w4 : Bool) (w6 w7 w15 : Int) (w16 : LB) (w17 : Bool) (k0 : Ty8 → Option R) (k1 : Unit → Option R) : Option R :=
  bif w4 then
    bnd (G144x0 N (strD w1)) fun y0 =>
    bif y0.isSome then
      k0 (w15, (y0.getD default).1, ((y0.getD default).1 == ([] : List UInt8)))
    else
      none
  else
    bnd (G136x0x9044 N w1 w2 (w3 == 3) w6 w7 w15 w16) fun y1 =>
    bif (inlB y1) then
      k0 ((inlV y1).1, (inlV y1).2, w17)
    else
      bif (inrQ y1).isSome then
        k1 ()
      else
        none
noncomputable def G136x0x39035 (w1 : LD) (w2 : Bool) (w3 : Int) (w4 : Bool) (w6 w7 w15 : Int) (w16 : LB) (w17 : Bool) : Option (Sum (Ty8) (Unit)) := F136x0x39035 N w1 w2 w3 w4 w6 w7 w15 w16 w17 (fun p => some (.inl p)) (fun p => some (.inr p))
theorem bind136x0x39035 (w1 : LD) (w2 : Bool) (w3 : Int) (w4 : Bool) (w6 w7 w15 : Int) (w16 : LB) (w17 : Bool) (k0 : Ty8 → Option R) (k1 : Unit → Option R) : F136x0x39035 N w1 w2 w3 w4 w6 w7 w15 w16 w17 k0 k1 = (G136x0x39035 N w1 w2 w3 w4 w6 w7 w15 w16 w17).bind (sumE k0 k1) := by
  unfold G136x0x39035 F136x0x39035
  repeat' (first | with_reducible apply cond_b | (with_reducible apply bnd_b; intro _) | rfl)
noncomputable def J136x0x39035 (L : List Lf) (k0 : Ty8 → Option R) (k1 : Unit → Option R) : Option R := F136x0x39035 N (ll L 1) (lb L 2) (li L 3) (lb L 4) (li L 6) (li L 7) (li L 15) (ls L 16) (lb L 17) k0 k1
noncomputable def sh136x0x39035 : Sh := { tmps := [(1, .c (.sl 5)), (2, .c (.b)), (3, .c (.p 3 0)), (6, .c (.p 6 0)), (7, .c (.p 7 0)), (15, .c (.i .i64)), (45, .c (.b))], mem := [(3, .box ([.i .i64, .i .i64, .i .i64])), (6, .box ([.i .i64, .i .i64, .i .i64, .s, .b])), (7, .box ([.i .i64, .i .i64, .i .i64, .s, .b]))] }
noncomputable def K136x0x39035w0 (L : List Lf) (p : Ty8) : Ex × St := (.normal, mg (ofSh sh136x0x39035 L) [6, 7] [] [6, 7] [(7, .box [.i .i64 (li L 13), .i .i64 (li L 14), .i .i64 p.1, .s p.2.1, .b p.2.2])])
noncomputable def K136x0x39035w1 (L : List Lf) (_ : Unit) : Ex × St := (.ret, ⟨[(6, .c (.p 6 0)), (7, .c (.p 7 0))], [(6, .box [.i .i64 (li L 13), .i .i64 (li L 14), .i .i64 (li L 15), .s (ls L 16), .b true]), (7, .box [.i .i64 (li L 13), .i .i64 (li L 14), .i .i64 (li L 15), .s (ls L 16), .b true])]⟩)
noncomputable def A136x0x39035 (L : List Lf) : List (Bool × (Ex × St)) := bnd (J136x0x39035 N L (fun p => some (.inl p)) (fun p => some (.inr p))) fun q => [((inlB q), K136x0x39035w0 L (inlV q)), ((inrQ q).isSome, K136x0x39035w1 L ())]
theorem raw136x0x39035 (L : List Lf) : pc Try.prog (T139x0 N) (h136x0s2 N).h 0 100 136 39035 sh136x0x39035 L [7, 6] [7, 6] = J136x0x39035 N L (fun p => some (K136x0x39035w0 L p)) (fun _ => some (K136x0x39035w1 L ())) := by kernel_rfl
noncomputable def h136x0s3 : Sg Try.prog 0 136 :=
  (h136x0s2 N).cut (A136x0x39035 N) progOk (T139x0_ok N) fun L x hx => (raw136x0x39035 N L).trans ((bind136x0x39035 N ..).trans ((altS alt1) x hx))
noncomputable def F136x0 (v1 v2 : Int) (v4 : LD) (v5 : Bool) (k0 : Ty8 → Option R) : Option R :=
  bnd (G136x0x39035 N v4 v5 v2 (v2 == 2) v1 v2 0 ([] : List UInt8) false) fun y0 =>
  bif (inlB y0) then
    k0 (inlV y0)
  else
    bif (inrQ y0).isSome then
      k0 (0, ([] : List UInt8), true)
    else
      none
noncomputable def G136x0 (v1 v2 : Int) (v4 : LD) (v5 : Bool) : Option (Ty8) := F136x0 N v1 v2 v4 v5 (fun p => some p)
theorem bind136x0 (v1 v2 : Int) (v4 : LD) (v5 : Bool) (k0 : Ty8 → Option R) : F136x0 N v1 v2 v4 v5 k0 = (G136x0 N v1 v2 v4 v5).bind k0 := by
  unfold G136x0 F136x0
  repeat' (first | with_reducible apply cond_b | (with_reducible apply bnd_b; intro _) | rfl)
noncomputable def J136x0 (L : List Lf) (k0 : Ty8 → Option R) : Option R := F136x0 N (li L 1) (li L 2) (ll L 4) (lb L 5) k0
noncomputable def sh136x0 : Sh := { tmps := [(0, .g ([.i .i64, .i .i64, .i .i64])), (1, .c (.sl 5)), (2, .c (.b))], mem := [] }
noncomputable def K136x0w0 (L : List Lf) (p : Ty8) : Res := ([.g [.i .i64 (li L 0), .i .i64 (li L 2), .i .i64 p.1, .s p.2.1, .b p.2.2]], [])
noncomputable def A136x0 (L : List Lf) : List (Bool × Res) := bnd (J136x0 N L (fun p => some p)) fun q => [(q.isSome, K136x0w0 L (q.getD default))]
theorem raw136x0 (L : List Lf) : bd Try.prog (T139x0 N) (h136x0s3 N).h 136 sh136x0 L = J136x0 N L (fun p => some (K136x0w0 L p)) := by kernel_rfl
theorem ok136x0 : FnOk Try.prog 136 sh136x0 (A136x0 N) :=
  (h136x0s3 N).fn progOk (T139x0_ok N) fun L x hx => ((raw136x0 N L).trans ((bind136x0 N ..).trans (alt1 x hx)))
noncomputable def T136x0 : Oracle := ext 136 (spSh sh136x0 (A136x0 N)) (T139x0 N)
theorem T136x0_ok : OracleOk Try.prog (T136x0 N) := FnOk.to (ok136x0 N) (T139x0_ok N)
noncomputable def rg89x0 : List (Nat × List Nat) := [(0, [0, 1]), (1, [2, 3]), (2, [2, 3, 5]), (3, [2, 3, 5, 6]), (4, [15, 14, 13, 5, 3, 6, 2]), (5, [13, 15, 5, 3, 6, 2, 14]), (6, [5, 8, 3, 6, 2, 15, 14, 13]), (7, [6, 8, 15, 14, 13, 5, 3, 2]), (8, [15, 14, 13, 5, 3, 6, 2]), (9, [5])]
noncomputable def hd89x0 : Hints := [(12, [15, 14, 13, 5, 3, 6, 2], [3, 2, 5], [5])]
noncomputable def h89x0s0 (N : Nat) : Sg Try.prog 0 89 := .start hd89x0 rg89x0
noncomputable def S89x0x12 (w2 : LD) (w3 : Int) (w5 : Bool) (w15 : LD) (w0 w4 : Int) (w16 : Bool) (w17 : LD) (kr : Int → Int → Bool → LD → Option R) (k0 : Bool × LD → Option R) : Option R :=
  bif (decide (w4 < w3)) then
    bif (inB w4 w2.length) then
      bnd (IntKind.wrap .i64 (w0 + ((w2.getD w4.toNat (.i 0)).cell 1).toI)) fun y0 =>
      bif (((decide (0 ≤ w0)) && (decide (w0 ≤ y0))) && (decide (y0 ≤ (w15.length : Int)))) then
        bnd (G136x0 N ((w2.getD w4.toNat (.i 0)).cell 1).toI ((w2.getD w4.toNat (.i 0)).cell 2).toI ((w15.take y0.toNat).drop w0.toNat) w5) fun y1 =>
        bif y1.isSome then
          bif (decide ((w17.length + 1) * 48 ≤ room) && decide ((w17.length + 1) ≤ strMax)) then
            bnd ((w17 ++ [(.a [(.i ((w2.getD w4.toNat (.i 0)).cell 0).toI), (.i ((w2.getD w4.toNat (.i 0)).cell 2).toI), (.i (y1.getD default).1), (.s (y1.getD default).2.1), (.b (y1.getD default).2.2)])]) : List D) fun y2 =>
            bnd (IntKind.wrap .i64 (w0 + ((w2.getD w4.toNat (.i 0)).cell 1).toI)) fun y0 =>
            kr y0 (IntKind.wrap .i64 (w4 + 1)) false y2
          else
            none
        else
          none
      else
        none
    else
      none
  else
    k0 (w16, w17)
noncomputable def L89x0x12 (N : Nat) {R : Type} (w2 : LD) (w3 : Int) (w5 : Bool) (w15 : LD) : Nat → Int → Int → Bool → LD → (Bool × LD → Option R) → Option R
  | 0, _, _, _, _, _ => none
  | m + 1, w0, w4, w16, w17, k0 => S89x0x12 N w2 w3 w5 w15 w0 w4 w16 w17 (fun w0 w4 w16 w17 => L89x0x12 N w2 w3 w5 w15 m w0 w4 w16 w17 k0) k0
noncomputable def G89x0x12 (w2 : LD) (w3 : Int) (w5 : Bool) (w15 : LD) (w0 w4 : Int) (w16 : Bool) (w17 : LD) : Option (Bool × LD) := L89x0x12 N (R := (Bool × LD)) w2 w3 w5 w15 N w0 w4 w16 w17 (fun p => some p)
noncomputable def J89x0x12 (L x : List Lf) (kr : List Lf → Option R) (k0 : Bool × LD → Option R) : Option R := S89x0x12 N (ll L 2) (li L 3) (lb L 5) (ll L 15) (li x 0) (li x 1) (lb x 2) (ll x 3) (fun w0 w4 w16 w17 => kr [.i w0, .i w4, .b w16, .l w17]) k0
theorem sb89x0x12 (L x : List Lf) (kr : List Lf → Option R) (k0 : Bool × LD → Option R) : J89x0x12 N L x kr k0 = (J89x0x12 N L x (fun y => some (.inl y)) (fun p => some (.inr p))).bind (sumE kr k0) := by
  unfold J89x0x12 S89x0x12
  repeat' (first | with_reducible apply cond_b | (with_reducible apply bnd_b; intro _) | rfl)
noncomputable def Q89x0x12 (L : List Lf) (m : Nat) (x : List Lf) : Option (Bool × LD) := L89x0x12 N (R := (Bool × LD)) (ll L 2) (li L 3) (lb L 5) (ll L 15) m (li x 0) (li x 1) (lb x 2) (ll x 3) (fun p => some p)
noncomputable def sh89x0x12 : Sh := { tmps := [(2, .c (.p 2 0)), (3, .c (.p 3 0)), (5, .c (.o 5)), (6, .c (.i .i64)), (13, .c (.sl 146)), (14, .c (.i .i64)), (15, .c (.i .i64))], mem := [(2, .box ([.b, .i .i64, .sl 146])), (3, .box ([.i .i64, .i .i64, .i .i64, .sl 103, .sl 5])), (5, .row 65 true)] }
noncomputable def A89x0x12 (L : List Lf) : List (Bool × (Ex × St)) := bnd (Q89x0x12 N L N (pk sh89x0x12 [0, 4, 16, 17] L)) fun q => [(q.isSome, ((.exit 0), ⟨[(5, .c (.o 5))], [(5, .row 65 true (q.getD default).1 (q.getD default).2)]⟩))]
theorem step89x0x12 (m : Nat) (kn : St → Option (Ex × St)) (L x : List Lf) : lpB Try.prog (T136x0 N) (h89x0s0 N).h 0 89 12 sh89x0x12 [0, 4, 16, 17] [4, 5] [5] (m + 100) kn L x = J89x0x12 N L x (fun y => kn (ofSh sh89x0x12 (mx sh89x0x12 [0, 4, 16, 17] L y))) (fun p => some ((.exit 0), ⟨[(5, .c (.o 5))], [(5, .row 65 true p.1 p.2)]⟩)) := by kernel_rfl
theorem ql89x0x12 (L : List Lf) (m : Nat) (x : List Lf) : Q89x0x12 N L (m + 1) x = J89x0x12 N L x (Q89x0x12 N L m) some := by kernel_rfl
noncomputable def h89x0s1 : Sg Try.prog 0 89 :=
  (h89x0s0 N).lp (A89x0x12 N) N progOk (T136x0_ok N) (fun m kn L x => (step89x0x12 N m kn L x).trans (sb89x0x12 N L x _ _)) (fun L m x => (ql89x0x12 N L m x).trans (sb89x0x12 N L x (Q89x0x12 N L m) some)) fun L x hx => alt1 x hx
noncomputable def F89x0 (v0 : Bool) (v3 : LD) (v4 : Int) (v10 : LD) (k0 : Bool × LD → Option R) : Option R :=
  bnd (G100x0 N v3 (v4 == 3)) fun y0 =>
  bif y0.isSome then
    bnd (G89x0x12 N (y0.getD default).2 ((y0.getD default).2.length : Int) v0 v10 0 0 true []) fun y1 =>
    bif y1.isSome then
      k0 (y1.getD default)
    else
      none
  else
    none
noncomputable def G89x0 (v0 : Bool) (v3 : LD) (v4 : Int) (v10 : LD) : Option (Bool × LD) := F89x0 N v0 v3 v4 v10 (fun p => some p)
theorem bind89x0 (v0 : Bool) (v3 : LD) (v4 : Int) (v10 : LD) (k0 : Bool × LD → Option R) : F89x0 N v0 v3 v4 v10 k0 = (G89x0 N v0 v3 v4 v10).bind k0 := by
  unfold G89x0 F89x0
  repeat' (first | with_reducible apply cond_b | (with_reducible apply bnd_b; intro _) | rfl)
noncomputable def J89x0 (L : List Lf) (k0 : Bool × LD → Option R) : Option R := F89x0 N (lb L 0) (ll L 3) (li L 4) (ll L 10) k0
noncomputable def sh89x0 : Sh := { tmps := [(0, .g ([.b, .i .i64, .sl 146])), (1, .g ([.i .i64, .i .i64, .i .i64, .sl 103, .sl 5]))], mem := [] }
noncomputable def A89x0 (L : List Lf) : List (Bool × Res) := bnd (J89x0 N L (fun p => some p)) fun q => [(q.isSome, ([.c (.sl 65 (q.getD default).1 (q.getD default).2)], []))]
theorem raw89x0 (L : List Lf) : bd Try.prog (T136x0 N) (h89x0s1 N).h 89 sh89x0 L = J89x0 N L (fun p => some ([.c (.sl 65 p.1 p.2)], [])) := by kernel_rfl
theorem ok89x0 : FnOk Try.prog 89 sh89x0 (A89x0 N) :=
  (h89x0s1 N).fn progOk (T136x0_ok N) fun L x hx => ((raw89x0 N L).trans ((bind89x0 N ..).trans (alt1 x hx)))
noncomputable def T89x0 : Oracle := ext 89 (spSh sh89x0 (A89x0 N)) (T136x0 N)
theorem T89x0_ok : OracleOk Try.prog (T89x0 N) := FnOk.to (ok89x0 N) (T136x0_ok N)
noncomputable def rg90x0 : List (Nat × List Nat) := [(0, [0, 1, 2]), (1, [0, 1, 2]), (2, [12, 11, 10, 1, 2]), (3, [10, 12, 1, 2, 11]), (4, [9, 1, 2, 12, 11, 10]), (5, [9]), (6, [12, 11, 10, 1, 2]), (7, [])]
noncomputable def hd90x0 : Hints := [(6, [12, 11, 10, 1, 2], [], [])]
noncomputable def h90x0s0 (N : Nat) : Sg Try.prog 0 90 := .start hd90x0 rg90x0
noncomputable def S90x0x6 (N : Nat) (w0 w1 : Int) (w3 : LD) (w4 : Int) (w5 : Int) (kr : Int → Option R) (k0 : Int → Option R) (k1 : Unit → Option R) : Option R :=
  bif (decide (w5 < w4)) then
    bif (inB w5 w3.length) then
      bnd (bif (((w3.getD w5.toNat (.i 0)).cell 0).toI == w0) then (((w3.getD w5.toNat (.i 0)).cell 1).toI == w1) else false) fun y0 =>
      bnd (bif y0 then (!((w3.getD w5.toNat (.i 0)).cell 4).toB) else false) fun y1 =>
      bif y1 then
        k0 ((w3.getD w5.toNat (.i 0)).cell 2).toI
      else
        kr (IntKind.wrap .i64 (w5 + 1))
    else
      none
  else
    k1 ()
noncomputable def L90x0x6 (N : Nat) {R : Type} (w0 w1 : Int) (w3 : LD) (w4 : Int) : Nat → Int → (Int → Option R) → (Unit → Option R) → Option R
  | 0, _, _, _ => none
  | m + 1, w5, k0, k1 => S90x0x6 N w0 w1 w3 w4 w5 (fun w5 => L90x0x6 N w0 w1 w3 w4 m w5 k0 k1) k0 k1
noncomputable def G90x0x6 (w0 w1 : Int) (w3 : LD) (w4 : Int) (w5 : Int) : Option (Sum (Int) (Unit)) := L90x0x6 N (R := (Sum (Int) (Unit))) w0 w1 w3 w4 N w5 (fun p => some (.inl p)) (fun p => some (.inr p))
noncomputable def J90x0x6 (L x : List Lf) (kr : List Lf → Option R) (k0 : Int → Option R) (k1 : Unit → Option R) : Option R := S90x0x6 N (li L 0) (li L 1) (ll L 3) (li L 4) (li x 0) (fun w5 => kr [.i w5]) k0 k1
theorem sb90x0x6 (L x : List Lf) (kr : List Lf → Option R) (k0 : Int → Option R) (k1 : Unit → Option R) : J90x0x6 N L x kr k0 k1 = (J90x0x6 N L x (fun y => some (.inl y)) (fun p => some (.inr (.inl p))) (fun p => some (.inr (.inr p)))).bind (sumE kr (sumE k0 k1)) := by
  unfold J90x0x6 S90x0x6
  repeat' (first | with_reducible apply cond_b | (with_reducible apply bnd_b; intro _) | rfl)
noncomputable def Q90x0x6 (L : List Lf) (m : Nat) (x : List Lf) : Option (Sum (Int) (Unit)) := L90x0x6 N (R := (Sum (Int) (Unit))) (li L 0) (li L 1) (ll L 3) (li L 4) m (li x 0) (fun p => some (.inl p)) (fun p => some (.inr p))
noncomputable def sh90x0x6 : Sh := { tmps := [(1, .c (.i .i64)), (2, .c (.i .i64)), (10, .c (.sl 65)), (11, .c (.i .i64)), (12, .c (.i .i64))], mem := [] }
noncomputable def A90x0x6 (L : List Lf) : List (Bool × (Ex × St)) := bnd (Q90x0x6 N L N (pk sh90x0x6 [5] L)) fun q => [((inlB q), (.ret, ⟨[(6, .c (.i .i64 (inlV q))), (7, .c (.b true))], []⟩)), ((inrQ q).isSome, ((.exit 0), ⟨[], []⟩))]
theorem step90x0x6 (m : Nat) (kn : St → Option (Ex × St)) (L x : List Lf) : lpB Try.prog (T89x0 N) (h90x0s0 N).h 0 90 6 sh90x0x6 [5] [6, 7] [] (m + 100) kn L x = J90x0x6 N L x (fun y => kn (ofSh sh90x0x6 (mx sh90x0x6 [5] L y))) (fun p => some (.ret, ⟨[(6, .c (.i .i64 p)), (7, .c (.b true))], []⟩)) (fun _ => some ((.exit 0), ⟨[], []⟩)) := by kernel_rfl
theorem ql90x0x6 (L : List Lf) (m : Nat) (x : List Lf) : Q90x0x6 N L (m + 1) x = J90x0x6 N L x (Q90x0x6 N L m) (fun p => some (.inl p)) (fun p => some (.inr p)) := by kernel_rfl
noncomputable def h90x0s1 : Sg Try.prog 0 90 :=
  (h90x0s0 N).lp (A90x0x6 N) N progOk (T89x0_ok N) (fun m kn L x => (step90x0x6 N m kn L x).trans (sb90x0x6 N L x _ _ _)) (fun L m x => (ql90x0x6 N L m x).trans (sb90x0x6 N L x (Q90x0x6 N L m) (fun p => some (.inl p)) (fun p => some (.inr p)))) fun L x hx => (altS alt1) x hx
noncomputable def F90x0 (v1 : LD) (v2 v3 : Int) (k0 : Int × Bool → Option R) : Option R :=
  bnd (G90x0x6 N v2 v3 v1 (v1.length : Int) 0) fun y0 =>
  bif (inlB y0) then
    k0 ((inlV y0), true)
  else
    bif (inrQ y0).isSome then
      k0 (0, false)
    else
      none
noncomputable def G90x0 (v1 : LD) (v2 v3 : Int) : Option (Int × Bool) := F90x0 N v1 v2 v3 (fun p => some p)
theorem bind90x0 (v1 : LD) (v2 v3 : Int) (k0 : Int × Bool → Option R) : F90x0 N v1 v2 v3 k0 = (G90x0 N v1 v2 v3).bind k0 := by
  unfold G90x0 F90x0
  repeat' (first | with_reducible apply cond_b | (with_reducible apply bnd_b; intro _) | rfl)
noncomputable def sh90x0 : Sh := { tmps := [(0, .c (.sl 65)), (1, .c (.i .i64)), (2, .c (.i .i64))], mem := [] }
noncomputable def A90x0 (L : List Lf) : List (Bool × Res) := bnd (F90x0 N (ll L 1) (li L 2) (li L 3) (fun p => some p)) fun q => [(q.isSome, ([.c (.i .i64 (q.getD default).1), .c (.b (q.getD default).2)], []))]
theorem raw90x0 (L : List Lf) : bd Try.prog (T89x0 N) (h90x0s1 N).h 90 sh90x0 L = F90x0 N (ll L 1) (li L 2) (li L 3) (fun p => some ([.c (.i .i64 p.1), .c (.b p.2)], [])) := by kernel_rfl
theorem ok90x0 : FnOk Try.prog 90 sh90x0 (A90x0 N) :=
  (h90x0s1 N).fn progOk (T89x0_ok N) fun L x hx => ((raw90x0 N L).trans ((bind90x0 N ..).trans (alt1 x hx)))
noncomputable def T90x0 : Oracle := ext 90 (spSh sh90x0 (A90x0 N)) (T89x0 N)
theorem T90x0_ok : OracleOk Try.prog (T90x0 N) := FnOk.to (ok90x0 N) (T89x0_ok N)
noncomputable def rg91x0 : List (Nat × List Nat) := [(0, [0, 1]), (1, [0, 1]), (2, [9, 8, 7, 1]), (3, [7, 9, 1, 8]), (4, [6, 1, 9, 8, 7]), (5, [6]), (6, [9, 8, 7, 1]), (7, [])]
noncomputable def hd91x0 : Hints := [(6, [9, 8, 7, 1], [], [])]
noncomputable def h91x0s0 (N : Nat) : Sg Try.prog 0 91 := .start hd91x0 rg91x0
noncomputable def S91x0x6 (N : Nat) (w0 : Int) (w2 : LD) (w3 : Int) (w4 : Int) (kr : Int → Option R) (k0 : LB → Option R) (k1 : Unit → Option R) : Option R :=
  bif (decide (w4 < w3)) then
    bif (inB w4 w2.length) then
      bnd (bif (((w2.getD w4.toNat (.i 0)).cell 0).toI == w0) then (((w2.getD w4.toNat (.i 0)).cell 1).toI == 2) else false) fun y0 =>
      bif y0 then
        k0 ((w2.getD w4.toNat (.i 0)).cell 3).toS
      else
        kr (IntKind.wrap .i64 (w4 + 1))
    else
      none
  else
    k1 ()
noncomputable def L91x0x6 (N : Nat) {R : Type} (w0 : Int) (w2 : LD) (w3 : Int) : Nat → Int → (LB → Option R) → (Unit → Option R) → Option R
  | 0, _, _, _ => none
  | m + 1, w4, k0, k1 => S91x0x6 N w0 w2 w3 w4 (fun w4 => L91x0x6 N w0 w2 w3 m w4 k0 k1) k0 k1
noncomputable def G91x0x6 (w0 : Int) (w2 : LD) (w3 : Int) (w4 : Int) : Option (Sum (LB) (Unit)) := L91x0x6 N (R := (Sum (LB) (Unit))) w0 w2 w3 N w4 (fun p => some (.inl p)) (fun p => some (.inr p))
noncomputable def J91x0x6 (L x : List Lf) (kr : List Lf → Option R) (k0 : LB → Option R) (k1 : Unit → Option R) : Option R := S91x0x6 N (li L 0) (ll L 2) (li L 3) (li x 0) (fun w4 => kr [.i w4]) k0 k1
theorem sb91x0x6 (L x : List Lf) (kr : List Lf → Option R) (k0 : LB → Option R) (k1 : Unit → Option R) : J91x0x6 N L x kr k0 k1 = (J91x0x6 N L x (fun y => some (.inl y)) (fun p => some (.inr (.inl p))) (fun p => some (.inr (.inr p)))).bind (sumE kr (sumE k0 k1)) := by
  unfold J91x0x6 S91x0x6
  repeat' (first | with_reducible apply cond_b | (with_reducible apply bnd_b; intro _) | rfl)
noncomputable def Q91x0x6 (L : List Lf) (m : Nat) (x : List Lf) : Option (Sum (LB) (Unit)) := L91x0x6 N (R := (Sum (LB) (Unit))) (li L 0) (ll L 2) (li L 3) m (li x 0) (fun p => some (.inl p)) (fun p => some (.inr p))
noncomputable def sh91x0x6 : Sh := { tmps := [(1, .c (.i .i64)), (7, .c (.sl 65)), (8, .c (.i .i64)), (9, .c (.i .i64))], mem := [] }
noncomputable def A91x0x6 (L : List Lf) : List (Bool × (Ex × St)) := bnd (Q91x0x6 N L N (pk sh91x0x6 [4] L)) fun q => [((inlB q), (.ret, ⟨[(4, .c (.s (inlV q)))], []⟩)), ((inrQ q).isSome, ((.exit 0), ⟨[], []⟩))]
theorem step91x0x6 (m : Nat) (kn : St → Option (Ex × St)) (L x : List Lf) : lpB Try.prog (T90x0 N) (h91x0s0 N).h 0 91 6 sh91x0x6 [4] [4] [] (m + 100) kn L x = J91x0x6 N L x (fun y => kn (ofSh sh91x0x6 (mx sh91x0x6 [4] L y))) (fun p => some (.ret, ⟨[(4, .c (.s p))], []⟩)) (fun _ => some ((.exit 0), ⟨[], []⟩)) := by kernel_rfl
theorem ql91x0x6 (L : List Lf) (m : Nat) (x : List Lf) : Q91x0x6 N L (m + 1) x = J91x0x6 N L x (Q91x0x6 N L m) (fun p => some (.inl p)) (fun p => some (.inr p)) := by kernel_rfl
noncomputable def h91x0s1 : Sg Try.prog 0 91 :=
  (h91x0s0 N).lp (A91x0x6 N) N progOk (T90x0_ok N) (fun m kn L x => (step91x0x6 N m kn L x).trans (sb91x0x6 N L x _ _ _)) (fun L m x => (ql91x0x6 N L m x).trans (sb91x0x6 N L x (Q91x0x6 N L m) (fun p => some (.inl p)) (fun p => some (.inr p)))) fun L x hx => (altS alt1) x hx
noncomputable def F91x0 (v1 : LD) (v2 : Int) (k0 : LB → Option R) : Option R :=
  bnd (G91x0x6 N v2 v1 (v1.length : Int) 0) fun y0 =>
  bif (inlB y0) then
    k0 (inlV y0)
  else
    bif (inrQ y0).isSome then
      k0 ([] : List UInt8)
    else
      none
noncomputable def G91x0 (v1 : LD) (v2 : Int) : Option (LB) := F91x0 N v1 v2 (fun p => some p)
theorem bind91x0 (v1 : LD) (v2 : Int) (k0 : LB → Option R) : F91x0 N v1 v2 k0 = (G91x0 N v1 v2).bind k0 := by
  unfold G91x0 F91x0
  repeat' (first | with_reducible apply cond_b | (with_reducible apply bnd_b; intro _) | rfl)
noncomputable def sh91x0 : Sh := { tmps := [(0, .c (.sl 65)), (1, .c (.i .i64))], mem := [] }
noncomputable def A91x0 (L : List Lf) : List (Bool × Res) := bnd (F91x0 N (ll L 1) (li L 2) (fun p => some p)) fun q => [(q.isSome, ([.c (.s (q.getD default))], []))]
theorem raw91x0 (L : List Lf) : bd Try.prog (T90x0 N) (h91x0s1 N).h 91 sh91x0 L = F91x0 N (ll L 1) (li L 2) (fun p => some ([.c (.s p)], [])) := by kernel_rfl
theorem ok91x0 : FnOk Try.prog 91 sh91x0 (A91x0 N) :=
  (h91x0s1 N).fn progOk (T90x0_ok N) fun L x hx => ((raw91x0 N L).trans ((bind91x0 N ..).trans (alt1 x hx)))
noncomputable def T91x0 : Oracle := ext 91 (spSh sh91x0 (A91x0 N)) (T90x0 N)
theorem T91x0_ok : OracleOk Try.prog (T91x0 N) := FnOk.to (ok91x0 N) (T90x0_ok N)
noncomputable def rg92x0 : List (Nat × List Nat) := [(0, [0, 1]), (1, [0, 1]), (2, [6, 5]), (3, []), (4, [5])]
noncomputable def hd92x0 : Hints := []
noncomputable def h92x0s0 (N : Nat) : Sg Try.prog 0 92 := .start hd92x0 rg92x0
noncomputable def F92x0 (v1 : LD) (v2 : Int) (k0 : Int → Option R) : Option R :=
  bnd (G90x0 N v1 v2 0) fun y0 =>
  bif y0.isSome then
    bif (!(y0.getD default).2) then
      k0 (-1)
    else
      k0 (y0.getD default).1
  else
    none
noncomputable def G92x0 (v1 : LD) (v2 : Int) : Option (Int) := F92x0 N v1 v2 (fun p => some p)
theorem bind92x0 (v1 : LD) (v2 : Int) (k0 : Int → Option R) : F92x0 N v1 v2 k0 = (G92x0 N v1 v2).bind k0 := by
  unfold G92x0 F92x0
  repeat' (first | with_reducible apply cond_b | (with_reducible apply bnd_b; intro _) | rfl)
noncomputable def sh92x0 : Sh := { tmps := [(0, .c (.sl 65)), (1, .c (.i .i64))], mem := [] }
noncomputable def A92x0 (L : List Lf) : List (Bool × Res) := bnd (F92x0 N (ll L 1) (li L 2) (fun p => some p)) fun q => [(q.isSome, ([.c (.i .i64 (q.getD default))], []))]
theorem raw92x0 (L : List Lf) : bd Try.prog (T91x0 N) (h92x0s0 N).h 92 sh92x0 L = F92x0 N (ll L 1) (li L 2) (fun p => some ([.c (.i .i64 p)], [])) := by kernel_rfl
theorem ok92x0 : FnOk Try.prog 92 sh92x0 (A92x0 N) :=
  (h92x0s0 N).fn progOk (T91x0_ok N) fun L x hx => ((raw92x0 N L).trans ((bind92x0 N ..).trans (alt1 x hx)))
noncomputable def T92x0 : Oracle := ext 92 (spSh sh92x0 (A92x0 N)) (T91x0 N)
theorem T92x0_ok : OracleOk Try.prog (T92x0 N) := FnOk.to (ok92x0 N) (T91x0_ok N)
noncomputable def rg56x0 : List (Nat × List Nat) := [(0, [0]), (1, [0]), (2, [3, 0]), (4, [0, 3]), (5, [4, 3, 0]), (6, []), (3, [3, 0]), (7, [0])]
noncomputable def hd56x0 : Hints := [(6, [3, 0], [], [])]
noncomputable def h56x0s0 (N : Nat) : Sg Try.prog 0 56 := .start hd56x0 rg56x0
noncomputable def S56x0x6 (N : Nat) (w0 : LB) (w1 : Int) (kr : Int → Option R) (k0 : Unit → Option R) (k1 : Unit → Option R) : Option R :=
  bif (decide (w1 < (w0.length : Int))) then
    bif (inB w1 w0.length) then
      bnd (bif (decide (((w0.getD w1.toNat 0).toNat : Int) ≥ 97)) then (decide (((w0.getD w1.toNat 0).toNat : Int) ≤ 122)) else false) fun y0 =>
      bnd (bif y0 then true else (bif (decide (((w0.getD w1.toNat 0).toNat : Int) ≥ 65)) then (decide (((w0.getD w1.toNat 0).toNat : Int) ≤ 90)) else false)) fun y1 =>
      bnd (bif y1 then true else (bif (decide (((w0.getD w1.toNat 0).toNat : Int) ≥ 48)) then (decide (((w0.getD w1.toNat 0).toNat : Int) ≤ 57)) else false)) fun y2 =>
      bnd (bif y2 then true else (((w0.getD w1.toNat 0).toNat : Int) == 45)) fun y3 =>
      bnd (bif y3 then true else (((w0.getD w1.toNat 0).toNat : Int) == 95)) fun y4 =>
      bnd (bif y4 then true else (((w0.getD w1.toNat 0).toNat : Int) == 46)) fun y5 =>
      bif (!y5) then
        k0 ()
      else
        kr (IntKind.wrap .i64 (w1 + 1))
    else
      none
  else
    k1 ()
noncomputable def L56x0x6 (N : Nat) {R : Type} (w0 : LB) : Nat → Int → (Unit → Option R) → (Unit → Option R) → Option R
  | 0, _, _, _ => none
  | m + 1, w1, k0, k1 => S56x0x6 N w0 w1 (fun w1 => L56x0x6 N w0 m w1 k0 k1) k0 k1
noncomputable def G56x0x6 (w0 : LB) (w1 : Int) : Option (Sum (Unit) (Unit)) := L56x0x6 N (R := (Sum (Unit) (Unit))) w0 N w1 (fun p => some (.inl p)) (fun p => some (.inr p))
noncomputable def J56x0x6 (L x : List Lf) (kr : List Lf → Option R) (k0 : Unit → Option R) (k1 : Unit → Option R) : Option R := S56x0x6 N (ls L 0) (li x 0) (fun w1 => kr [.i w1]) k0 k1
theorem sb56x0x6 (L x : List Lf) (kr : List Lf → Option R) (k0 : Unit → Option R) (k1 : Unit → Option R) : J56x0x6 N L x kr k0 k1 = (J56x0x6 N L x (fun y => some (.inl y)) (fun p => some (.inr (.inl p))) (fun p => some (.inr (.inr p)))).bind (sumE kr (sumE k0 k1)) := by
  unfold J56x0x6 S56x0x6
  repeat' (first | with_reducible apply cond_b | (with_reducible apply bnd_b; intro _) | rfl)
noncomputable def Q56x0x6 (L : List Lf) (m : Nat) (x : List Lf) : Option (Sum (Unit) (Unit)) := L56x0x6 N (R := (Sum (Unit) (Unit))) (ls L 0) m (li x 0) (fun p => some (.inl p)) (fun p => some (.inr p))
noncomputable def sh56x0x6 : Sh := { tmps := [(0, .c (.s)), (3, .c (.i .i64))], mem := [] }
noncomputable def A56x0x6 (L : List Lf) : List (Bool × (Ex × St)) := bnd (Q56x0x6 N L N (pk sh56x0x6 [1] L)) fun q => [((inlB q), (.ret, ⟨[(2, .c (.b false))], []⟩)), ((inrQ q).isSome, ((.exit 0), ⟨[(0, .c (.s (ls L 0)))], []⟩))]
theorem step56x0x6 (m : Nat) (kn : St → Option (Ex × St)) (L x : List Lf) : lpB Try.prog (T92x0 N) (h56x0s0 N).h 0 56 6 sh56x0x6 [1] [2, 0] [] (m + 100) kn L x = J56x0x6 N L x (fun y => kn (ofSh sh56x0x6 (mx sh56x0x6 [1] L y))) (fun _ => some (.ret, ⟨[(2, .c (.b false))], []⟩)) (fun _ => some ((.exit 0), ⟨[(0, .c (.s (ls L 0)))], []⟩)) := by kernel_rfl
theorem ql56x0x6 (L : List Lf) (m : Nat) (x : List Lf) : Q56x0x6 N L (m + 1) x = J56x0x6 N L x (Q56x0x6 N L m) (fun p => some (.inl p)) (fun p => some (.inr p)) := by kernel_rfl
noncomputable def h56x0s1 : Sg Try.prog 0 56 :=
  (h56x0s0 N).lp (A56x0x6 N) N progOk (T92x0_ok N) (fun m kn L x => (step56x0x6 N m kn L x).trans (sb56x0x6 N L x _ _ _)) (fun L m x => (ql56x0x6 N L m x).trans (sb56x0x6 N L x (Q56x0x6 N L m) (fun p => some (.inl p)) (fun p => some (.inr p)))) fun L x hx => (altS alt1) x hx
noncomputable def F56x0 (v0 : LB) (k0 : Bool → Option R) : Option R :=
  bnd (G56x0x6 N v0 0) fun y0 =>
  bif (inlB y0) then
    k0 false
  else
    bif (inrQ y0).isSome then
      bnd (bif (decide ((v0.length : Int) ≥ 1)) then (decide ((v0.length : Int) ≤ 60)) else false) fun y1 =>
      k0 y1
    else
      none
noncomputable def G56x0 (v0 : LB) : Option (Bool) := F56x0 N v0 (fun p => some p)
theorem bind56x0 (v0 : LB) (k0 : Bool → Option R) : F56x0 N v0 k0 = (G56x0 N v0).bind k0 := by
  unfold G56x0 F56x0
  repeat' (first | with_reducible apply cond_b | (with_reducible apply bnd_b; intro _) | rfl)
noncomputable def sh56x0 : Sh := { tmps := [(0, .c (.s))], mem := [] }
noncomputable def A56x0 (L : List Lf) : List (Bool × Res) := bnd (F56x0 N (ls L 0) (fun p => some p)) fun q => [(q.isSome, ([.c (.b (q.getD default))], []))]
theorem raw56x0 (L : List Lf) : bd Try.prog (T92x0 N) (h56x0s1 N).h 56 sh56x0 L = F56x0 N (ls L 0) (fun p => some ([.c (.b p)], [])) := by kernel_rfl
theorem ok56x0 : FnOk Try.prog 56 sh56x0 (A56x0 N) :=
  (h56x0s1 N).fn progOk (T92x0_ok N) fun L x hx => ((raw56x0 N L).trans ((bind56x0 N ..).trans (alt1 x hx)))
noncomputable def T56x0 : Oracle := ext 56 (spSh sh56x0 (A56x0 N)) (T92x0 N)
theorem T56x0_ok : OracleOk Try.prog (T56x0 N) := FnOk.to (ok56x0 N) (T92x0_ok N)
noncomputable def rg58x0 : List (Nat × List Nat) := [(0, [0, 1]), (1, [2, 1]), (2, [1, 5, 2]), (3, []), (4, [5, 2]), (5, []), (6, [5]), (7, []), (8, [5]), (9, []), (10, [])]
noncomputable def hd58x0 : Hints := [(7, [1, 5, 2], [5, 2], []), (19, [5], [5], []), (25, [5], [5], [])]
noncomputable def h58x0s0 (N : Nat) : Sg Try.prog 0 58 := .start hd58x0 rg58x0
noncomputable def F58x0x7 (N : Nat) (w0 : Int) (w5 : LD) (w10 : Int) (k0 : Bool → Option R) : Option R :=
  bif (w0 == 0) then
    bif (w10 != 0) then
      k0 true
    else
      bif (decide (w0 > 0)) then
        bif (inB (IntKind.wrap .i64 (w0 - 1)) w5.length) then
          bnd ((w5.getD (IntKind.wrap .i64 (w0 - 1)).toNat (.i 0)).cell 0).toI fun y0 =>
          k0 (decide (w10 ≤ y0))
        else
          none
      else
        k0 false
  else
    bif (decide (w0 > 0)) then
      bif (inB (IntKind.wrap .i64 (w0 - 1)) w5.length) then
        bnd ((w5.getD (IntKind.wrap .i64 (w0 - 1)).toNat (.i 0)).cell 0).toI fun y0 =>
        k0 (decide (w10 ≤ y0))
      else
        none
    else
      k0 false
noncomputable def G58x0x7 (w0 : Int) (w5 : LD) (w10 : Int) : Option (Bool) := F58x0x7 N w0 w5 w10 (fun p => some p)
theorem bind58x0x7 (w0 : Int) (w5 : LD) (w10 : Int) (k0 : Bool → Option R) : F58x0x7 N w0 w5 w10 k0 = (G58x0x7 N w0 w5 w10).bind k0 := by
  unfold G58x0x7 F58x0x7
  repeat' (first | with_reducible apply cond_b | (with_reducible apply bnd_b; intro _) | rfl)
noncomputable def sh58x0x7 : Sh := { tmps := [(1, .c (.i .i64)), (2, .c (.p 2 0)), (5, .c (.p 5 0))], mem := [(2, .box (.s :: [.i .i64, .i .i64, .sl 78, .sl 82, .sl 9])), (5, .box (rI 7 ([])))] }
noncomputable def K58x0x7w0 (L : List Lf) (p : Bool) : Ex × St := (.normal, mg (ofSh sh58x0x7 L) [2, 5, 33] [(33, .c (.b p))] [2, 5] [])
noncomputable def A58x0x7 (L : List Lf) : List (Bool × (Ex × St)) := bnd (F58x0x7 N (li L 0) (ll L 5) (li L 10) (fun p => some p)) fun q => [(q.isSome, K58x0x7w0 L (q.getD default))]
theorem raw58x0x7 (L : List Lf) : pc Try.prog (T56x0 N) (h58x0s0 N).h 0 100 58 7 sh58x0x7 L [5, 2, 33] [5, 2] = F58x0x7 N (li L 0) (ll L 5) (li L 10) (fun p => some (K58x0x7w0 L p)) := by kernel_rfl
noncomputable def h58x0s1 : Sg Try.prog 0 58 :=
  (h58x0s0 N).cut (A58x0x7 N) progOk (T56x0_ok N) fun L x hx => (raw58x0x7 N L).trans ((bind58x0x7 N ..).trans (alt1 x hx))
noncomputable def F58x0x19 (w1 w2 w3 : Int) (k0 : Bool → R) : R :=
  bnd (V57x0 N w1 (-100000000) 100000000) fun y0 =>
  bif y0 then
    k0 true
  else
    bnd (V57x0 N w2 (-100000000) 100000000) fun y1 =>
    bif y1 then
      k0 true
    else
      bnd (V57x0 N w3 (-100000) 100000) fun y2 =>
      k0 y2
noncomputable def V58x0x19 (w1 w2 w3 : Int) : Bool := F58x0x19 N w1 w2 w3 (fun p => p)
theorem tot58x0x19 (w1 w2 w3 : Int) (k0 : Bool → R) : F58x0x19 N w1 w2 w3 k0 = k0 (V58x0x19 N w1 w2 w3) := by
  unfold V58x0x19 F58x0x19
  repeat' (first | rfl | apply cond_k | (apply bnd_k; intro _))
noncomputable def sh58x0x19 : Sh := { tmps := [(5, .c (.p 5 0))], mem := [(5, .box (rI 7 ([])))] }
noncomputable def K58x0x19w0 (L : List Lf) (p : Bool) : Ex × St := (.normal, mg (ofSh sh58x0x19 L) [5, 57] [(57, .c (.b p))] [5] [])
noncomputable def A58x0x19 (L : List Lf) : List (Bool × (Ex × St)) := bnd (F58x0x19 N (li L 1) (li L 2) (li L 3) (fun p => p)) fun q => [(true, K58x0x19w0 L q)]
theorem raw58x0x19 (L : List Lf) : pc Try.prog (T56x0 N) (h58x0s1 N).h 0 100 58 19 sh58x0x19 L [5, 57] [5] = F58x0x19 N (li L 1) (li L 2) (li L 3) (fun p => some (K58x0x19w0 L p)) := by kernel_rfl
noncomputable def h58x0s2 : Sg Try.prog 0 58 :=
  (h58x0s1 N).cut (A58x0x19 N) progOk (T56x0_ok N) fun L x hx => (raw58x0x19 N L).trans ((tot58x0x19 N ..).trans (alt0 _ _ hx))
noncomputable def F58x0x25 (w4 w5 w6 : Int) (k0 : Bool → R) : R :=
  bnd (V57x0 N w4 (-1) 300) fun y0 =>
  bif y0 then
    k0 true
  else
    bnd (V57x0 N w5 (-1) 3000) fun y1 =>
    bif y1 then
      k0 true
    else
      bnd (V57x0 N w6 (-1) 300) fun y2 =>
      k0 y2
noncomputable def V58x0x25 (w4 w5 w6 : Int) : Bool := F58x0x25 N w4 w5 w6 (fun p => p)
theorem tot58x0x25 (w4 w5 w6 : Int) (k0 : Bool → R) : F58x0x25 N w4 w5 w6 k0 = k0 (V58x0x25 N w4 w5 w6) := by
  unfold V58x0x25 F58x0x25
  repeat' (first | rfl | apply cond_k | (apply bnd_k; intro _))
noncomputable def sh58x0x25 : Sh := { tmps := [(5, .c (.p 5 0))], mem := [(5, .box (rI 7 ([])))] }
noncomputable def A58x0x25 (L : List Lf) : List (Bool × (Ex × St)) := bnd (F58x0x25 N (li L 4) (li L 5) (li L 6) (fun p => p)) fun q => [(true, (.normal, ⟨[(70, .c (.b q))], []⟩))]
theorem raw58x0x25 (L : List Lf) : pc Try.prog (T56x0 N) (h58x0s2 N).h 0 100 58 25 sh58x0x25 L [70] [] = F58x0x25 N (li L 4) (li L 5) (li L 6) (fun p => some (.normal, ⟨[(70, .c (.b p))], []⟩)) := by kernel_rfl
noncomputable def h58x0s3 : Sg Try.prog 0 58 :=
  (h58x0s2 N).cut (A58x0x25 N) progOk (T56x0_ok N) fun L x hx => (raw58x0x25 N L).trans ((tot58x0x25 N ..).trans (alt0 _ _ hx))
noncomputable def F58x0 (v2 : Int) (v4 : LD) (v9 : Int) (k0 : Int → Option R) : Option R :=
  bif (inB v9 v4.length) then
    bnd (G58x0x7 N v9 v4 ((v4.getD v9.toNat (.i 0)).cell 0).toI) fun y0 =>
    bif y0.isSome then
      bif (y0.getD default) then
        k0 10
      else
        bnd (bif (decide (((v4.getD v9.toNat (.i 0)).cell 0).toI > 1000000)) then true else (decide ((IntKind.wrap .i64 (v2 + ((v4.getD v9.toNat (.i 0)).cell 0).toI)) > 86399999999))) fun y1 =>
        bif y1 then
          k0 9
        else
          bnd (V58x0x19 N ((v4.getD v9.toNat (.i 0)).cell 1).toI ((v4.getD v9.toNat (.i 0)).cell 2).toI ((v4.getD v9.toNat (.i 0)).cell 3).toI) fun y2 =>
          bif y2 then
            k0 9
          else
            bnd (V58x0x25 N ((v4.getD v9.toNat (.i 0)).cell 4).toI ((v4.getD v9.toNat (.i 0)).cell 5).toI ((v4.getD v9.toNat (.i 0)).cell 6).toI) fun y3 =>
            bif y3 then
              k0 9
            else
              k0 0
    else
      none
  else
    none
noncomputable def G58x0 (v2 : Int) (v4 : LD) (v9 : Int) : Option (Int) := F58x0 N v2 v4 v9 (fun p => some p)
theorem bind58x0 (v2 : Int) (v4 : LD) (v9 : Int) (k0 : Int → Option R) : F58x0 N v2 v4 v9 k0 = (G58x0 N v2 v4 v9).bind k0 := by
  unfold G58x0 F58x0
  repeat' (first | with_reducible apply cond_b | (with_reducible apply bnd_b; intro _) | rfl)
noncomputable def sh58x0 : Sh := { tmps := [(0, .g (.s :: [.i .i64, .i .i64, .sl 78, .sl 82, .sl 9])), (1, .c (.i .i64))], mem := [] }
noncomputable def A58x0 (L : List Lf) : List (Bool × Res) := bnd (F58x0 N (li L 2) (ll L 4) (li L 9) (fun p => some p)) fun q => [(q.isSome, ([.c (.i .i64 (q.getD default))], []))]
theorem raw58x0 (L : List Lf) : bd Try.prog (T56x0 N) (h58x0s3 N).h 58 sh58x0 L = F58x0 N (li L 2) (ll L 4) (li L 9) (fun p => some ([.c (.i .i64 p)], [])) := by kernel_rfl
end Go.Proofs.Ytnnofignhdijiaa
