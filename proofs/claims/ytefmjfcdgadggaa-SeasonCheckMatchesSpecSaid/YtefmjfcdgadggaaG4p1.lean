/- Functions of the program as plain Lean definitions, each with the proof that the program computes it. No condition. Printed by a program of the prover, part 1. -/
import Derived.Test.YtefmjfcdgadggaaAm35
import Derived.Test.YtefmjfcdgadggaaChecked
import Derived.KernelRfl
set_option linter.all false
set_option linter.unusedVariables false
set_option linter.unusedSimpArgs false
set_option maxRecDepth 100000
namespace Go.Proofs.Ytefmjfcdgadggaa
open Go Go.AM
theorem progOk : ProgOk Try.prog := progOk_of (by kernel_rfl)
noncomputable def rg48x0 : List (Nat × List Nat) := [(0, [0, 1, 2]), (1, [0, 1, 2])]
noncomputable def hd48x0 : Hints := []
noncomputable def h48x0s0 (N : Nat) : Hint := { loops := hd48x0, regs := rg48x0, los := [] }
theorem al48x0s0 (N : Nat) : AllCuts Try.prog (h48x0s0 N).los 0 48 := AllCuts.nil
noncomputable def F48x0 (N : Nat) {R : Type} (v0 v1 v2 : Int) (k0 : Bool → R) : R :=
  k0 (bif (decide (v0 ≥ v1)) then (decide (v0 ≤ v2)) else false)
noncomputable def V48x0 (N : Nat) (v0 v1 v2 : Int) : Bool := F48x0 N v0 v1 v2 (fun p => p)
theorem tot48x0 (N : Nat) {R : Type} (v0 v1 v2 : Int) (k0 : Bool → R) : F48x0 N v0 v1 v2 k0 = k0 (V48x0 N v0 v1 v2) := by
  unfold V48x0 F48x0
  repeat' (first | rfl | apply cond_k | (apply bnd_k; intro _))
noncomputable def sh48x0 : Sh := { tmps := [(0, .c (.i .i64)), (1, .c (.i .i64)), (2, .c (.i .i64))], mem := [] }
noncomputable def A48x0 (N : Nat) (L : List Lf) : List (Bool × Res) := bnd (F48x0 N (li L 0) (li L 1) (li L 2) (fun p => p)) fun q => [(true, ([.c (.b q)], []))]
theorem raw48x0 (N : Nat) (L : List Lf) : (body Try.prog noOracle (h48x0s0 N) 200 48 (valsOf (ofSh sh48x0 L).tmps) (ofSh sh48x0 L).mem : Option Res) = F48x0 N (li L 0) (li L 1) (li L 2) (fun p => some ([.c (.b p)], [])) := by kernel_rfl
theorem ok48x0 (N : Nat) : ∀ args mem alts, spSh sh48x0 (A48x0 N) args mem = some alts → ∀ res, altK alts some = some res → CallOk Try.prog 48 args mem res :=
  spSh_law fun L x hx => callOk_of (n := 200) progOk noOracle_ok (al48x0s0 N) rfl ((raw48x0 N L).trans ((tot48x0 N ..).trans (alt0 _ _ hx)))
noncomputable def T48x0 (N : Nat) : Oracle := ext 48 (spSh sh48x0 (A48x0 N)) noOracle
theorem T48x0_ok (N : Nat) : OracleOk Try.prog (T48x0 N) := ext_ok noOracle_ok (enters_of (by kernel_rfl)) (ok48x0 N)
noncomputable def rg80x0 : List (Nat × List Nat) := [(0, [0]), (1, [0])]
noncomputable def hd80x0 : Hints := []
noncomputable def h80x0s0 (N : Nat) : Hint := { loops := hd80x0, regs := rg80x0, los := [] }
theorem al80x0s0 (N : Nat) : AllCuts Try.prog (h80x0s0 N).los 0 80 := AllCuts.nil
noncomputable def F80x0 (N : Nat) {R : Type} (v0 : Int) (k0 : Bool → R) : R :=
  k0 (bif (decide (v0 ≥ 48)) then (decide (v0 ≤ 57)) else false)
noncomputable def V80x0 (N : Nat) (v0 : Int) : Bool := F80x0 N v0 (fun p => p)
theorem tot80x0 (N : Nat) {R : Type} (v0 : Int) (k0 : Bool → R) : F80x0 N v0 k0 = k0 (V80x0 N v0) := by
  unfold V80x0 F80x0
  repeat' (first | rfl | apply cond_k | (apply bnd_k; intro _))
noncomputable def sh80x0 : Sh := { tmps := [(0, .c (.i .u8))], mem := [] }
noncomputable def A80x0 (N : Nat) (L : List Lf) : List (Bool × Res) := bnd (F80x0 N (li L 0) (fun p => p)) fun q => [(true, ([.c (.b q)], []))]
theorem raw80x0 (N : Nat) (L : List Lf) : (body Try.prog (T48x0 N) (h80x0s0 N) 200 80 (valsOf (ofSh sh80x0 L).tmps) (ofSh sh80x0 L).mem : Option Res) = F80x0 N (li L 0) (fun p => some ([.c (.b p)], [])) := by kernel_rfl
theorem ok80x0 (N : Nat) : ∀ args mem alts, spSh sh80x0 (A80x0 N) args mem = some alts → ∀ res, altK alts some = some res → CallOk Try.prog 80 args mem res :=
  spSh_law fun L x hx => callOk_of (n := 200) progOk (T48x0_ok N) (al80x0s0 N) rfl ((raw80x0 N L).trans ((tot80x0 N ..).trans (alt0 _ _ hx)))
noncomputable def T80x0 (N : Nat) : Oracle := ext 80 (spSh sh80x0 (A80x0 N)) (T48x0 N)
theorem T80x0_ok (N : Nat) : OracleOk Try.prog (T80x0 N) := ext_ok (T48x0_ok N) (enters_of (by kernel_rfl)) (ok80x0 N)
noncomputable def rg51x0 : List (Nat × List Nat) := [(0, [0]), (1, [0]), (2, [8, 7, 0]), (3, [8, 0, 7]), (4, [0, 3, 8, 7]), (5, [4, 8, 7, 0]), (6, [5, 4, 8, 7, 0]), (7, []), (8, [8, 7, 0]), (9, [0])]
noncomputable def hd51x0 : Hints := [(6, [8, 7, 0], [], []), (19, [5, 4, 8, 7, 0], [], [])]
noncomputable def h51x0s0 (N : Nat) : Hint := { loops := hd51x0, regs := rg51x0, los := [] }
theorem al51x0s0 (N : Nat) : AllCuts Try.prog (h51x0s0 N).los 0 51 := AllCuts.nil
noncomputable def F51x0x19 (N : Nat) {R : Type} (w1 : Int) (w2 : Bool) (k0 : Bool → R) : R :=
  bif (!w2) then
    bnd (V80x0 N w1) fun x22394871 =>
    bnd (bif (bif (!x22394871) then (w1 != 45) else false) then (w1 != 95) else false) fun x66279356 =>
    k0 (bif x66279356 then (w1 != 46) else false)
  else
    k0 false
noncomputable def V51x0x19 (N : Nat) (w1 : Int) (w2 : Bool) : Bool := F51x0x19 N w1 w2 (fun p => p)
theorem tot51x0x19 (N : Nat) {R : Type} (w1 : Int) (w2 : Bool) (k0 : Bool → R) : F51x0x19 N w1 w2 k0 = k0 (V51x0x19 N w1 w2) := by
  unfold V51x0x19 F51x0x19
  repeat' (first | rfl | apply cond_k | (apply bnd_k; intro _))
noncomputable def sh51x0x19 : Sh := { tmps := [(0, .c (.s)), (4, .c (.i .u8)), (5, .c (.b)), (7, .c (.i .i64)), (8, .c (.i .i64))], mem := [] }
noncomputable def K51x0x19w0 (L : List Lf) (p : Bool) : Ex × St := (.normal, ⟨[(0, .c (.s (ls L 0))), (7, .c (.i .i64 (li L 3))), (8, .c (.i .i64 (li L 4))), (46, .c (.b p))], []⟩)
noncomputable def A51x0x19 (N : Nat) (L : List Lf) : List (Bool × (Ex × St)) := bnd (F51x0x19 N (li L 1) (lb L 2) (fun p => p)) fun q => [(true, K51x0x19w0 L q)]
theorem raw51x0x19 (N : Nat) (L : List Lf) : (exec Try.prog (T80x0 N) (h51x0s0 N) 0 100 (piece Try.prog 51 19) (ofSh sh51x0x19 L) (fun e st => some (e, cutSt [8, 7, 0, 46] [] st)) : Option (Ex × St)) = F51x0x19 N (li L 1) (lb L 2) (fun p => some (K51x0x19w0 L p)) := by kernel_rfl
theorem one51x0x19 : oneB Try.prog 51 19 = true := by kernel_rfl
theorem law51x0x19 (N : Nat) : CutLaw Try.prog 0 (piece Try.prog 51 19) (loSh sh51x0x19 (A51x0x19 N)) :=
  law_sh progOk (T80x0_ok N) (al51x0s0 N) one51x0x19 fun L x hx => (raw51x0x19 N L).trans ((tot51x0x19 N ..).trans (alt0 _ _ hx))
noncomputable def h51x0s1 (N : Nat) : Hint := { (h51x0s0 N) with los := (19, loSh sh51x0x19 (A51x0x19 N)) :: (h51x0s0 N).los }
theorem al51x0s1 (N : Nat) : AllCuts Try.prog (h51x0s1 N).los 0 51 := AllCuts.cons (al51x0s0 N) one51x0x19 (law51x0x19 N)
noncomputable def P51x0x6 (w0 : (List UInt8)) (w1 w2 : Int) : St := ⟨[(0, .c (.s w0)), (7, .c (.i .i64 w1)), (8, .c (.i .i64 w2))], []⟩
noncomputable def S51x0x6 (N : Nat) {R : Type} (w0 : (List UInt8)) (w1 : Int) (w2 : Int) (kr : Int → Option R) (k0 : Unit → Option R) (k1 : Unit → Option R) : Option R :=
  bif (decide (w2 < w1)) then
    bif (inB w2 w0.length) then
      bnd (bif (decide (((w0.getD w2.toNat 0).toNat : Int) ≥ 97)) then (decide (((w0.getD w2.toNat 0).toNat : Int) ≤ 122)) else false) fun x12823211 =>
      bnd (bif x12823211 then true else (bif (decide (((w0.getD w2.toNat 0).toNat : Int) ≥ 65)) then (decide (((w0.getD w2.toNat 0).toNat : Int) ≤ 90)) else false)) fun x44499659 =>
      bnd (V51x0x19 N ((w0.getD w2.toNat 0).toNat : Int) x44499659) fun x78327783 =>
      bif x78327783 then
        k0 ()
      else
        kr (IntKind.wrap .i64 (w2 + 1))
    else
      none
  else
    k1 ()
theorem mono51x0x6 (N : Nat) {R : Type} (w0 : (List UInt8)) (w1 : Int) (w2 : Int) {kr kr' : Int → Option R} (k0 : Unit → Option R) (k1 : Unit → Option R) {r : R} (hk : ∀ w2', kr w2' = some r → kr' w2' = some r) : S51x0x6 N w0 w1 w2 kr k0 k1 = some r → S51x0x6 N w0 w1 w2 kr' k0 k1 = some r := by
  unfold S51x0x6
  repeat' (first | exact hk _ | exact fun h => h | apply cond_mono | (apply bnd_mono; intro _))
noncomputable def L51x0x6 (N : Nat) {R : Type} (w0 : (List UInt8)) (w1 : Int) : Nat → Int → (Unit → Option R) → (Unit → Option R) → Option R
  | 0, _, _, _ => none
  | m + 1, w2, k0, k1 => S51x0x6 N w0 w1 w2 (fun w2 => L51x0x6 N w0 w1 m w2 k0 k1) k0 k1
theorem lp51x0x6 : piece Try.prog 51 6 = .loop (loopB (piece Try.prog 51 6)) := by kernel_rfl
theorem nl51x0x6 (N : Nat) : lawOf (h51x0s1 N) (.loop (loopB (piece Try.prog 51 6))) = none := by kernel_rfl
theorem cl51x0x6 (N : Nat) (w0 : (List UInt8)) (w1 : Int) (w2 : Int) : clearSt Try.prog 0 (h51x0s1 N).loops 6 (P51x0x6 w0 w1 w2) = (P51x0x6 w0 w1 w2) := by kernel_rfl
theorem step51x0x6 (N : Nat) (m : Nat) (kn : St → Option (Ex × St)) (w0 : (List UInt8)) (w1 : Int) (w2 : Int) : exec Try.prog (T80x0 N) (h51x0s1 N) 0 (m + 100) (loopB (piece Try.prog 51 6)) (P51x0x6 w0 w1 w2) (reK (fun st => kn (clearSt Try.prog 0 (h51x0s1 N).loops 6 st)) (fun e st => some (e, cutSt [2, 0] [] st))) = S51x0x6 N w0 w1 w2 (fun w2 => kn (P51x0x6 w0 w1 w2)) (fun p => some (.ret, ⟨[(2, .c (.b false))], []⟩)) (fun p => some ((.exit 0), ⟨[(0, .c (.s w0))], []⟩)) := by kernel_rfl
theorem run51x0x6 (N : Nat) (w0 : (List UInt8)) (w1 : Int) : ∀ (m : Nat) (w2 : Int) (x : Ex × St), L51x0x6 N w0 w1 m w2 (fun p => some (.ret, ⟨[(2, .c (.b false))], []⟩)) (fun p => some ((.exit 0), ⟨[(0, .c (.s w0))], []⟩)) = some x → exec Try.prog (T80x0 N) (h51x0s1 N) 0 (m + 101) (.loop (loopB (piece Try.prog 51 6))) (P51x0x6 w0 w1 w2) (fun e st => some (e, cutSt [2, 0] [] st)) = some x := by
  intro m
  induction m with
  | zero => intro w2 x h; cases h
  | succ m ih =>
    intro w2 x h
    exact loop_round (n := m + 101) (nl51x0x6 N) (by kernel_rfl) (cl51x0x6 N ..) (fun kn => step51x0x6 N (m + 1) kn ..) (mono51x0x6 N _ _ _ _ _ (fun w2 => ih w2 x) h)
noncomputable def G51x0x6 (N : Nat) (w0 : (List UInt8)) (w1 : Int) (w2 : Int) : Option (Sum (Unit) (Unit)) := L51x0x6 N (R := (Sum (Unit) (Unit))) w0 w1 N w2 (fun p => some (.inl p)) (fun p => some (.inr p))
theorem sb51x0x6 (N : Nat) {R A : Type} (w0 : (List UInt8)) (w1 : Int) (w2 : Int) (kr : Int → Option R) (kr' : Int → Option A) (k0 : Unit → Option R) (k1 : Unit → Option R) (j0 : Unit → Option A) (j1 : Unit → Option A) (K : A → Option R) (hr : ∀ w2', kr w2' = (kr' w2').bind K) (h0 : ∀ p, k0 p = (j0 p).bind K) (h1 : ∀ p, k1 p = (j1 p).bind K) : S51x0x6 N w0 w1 w2 kr k0 k1 = (S51x0x6 N w0 w1 w2 kr' j0 j1).bind K := by
  unfold S51x0x6
  repeat' (first | rfl | apply hr | apply h0 | apply h1 | apply cond_b | (apply bnd_b; intro _))
theorem lbind51x0x6 (N : Nat) {R : Type} (w0 : (List UInt8)) (w1 : Int) : ∀ (m : Nat) (w2 : Int) (k0 : Unit → Option R) (k1 : Unit → Option R), L51x0x6 N w0 w1 m w2 k0 k1 = (L51x0x6 N (R := (Sum (Unit) (Unit))) w0 w1 m w2 (fun p => some (.inl p)) (fun p => some (.inr p))).bind (sumE k0 k1) := by
  intro m
  induction m with
  | zero => intros; rfl
  | succ m ih =>
    intro w2 k0 k1
    exact sb51x0x6 N _ _ _ _ _ _ _ _ _ _ (fun w2 => ih w2 k0 k1) (fun _ => rfl) (fun _ => rfl)
theorem one51x0x6 : oneB Try.prog 51 6 = true := by kernel_rfl
noncomputable def sh51x0x6 : Sh := { tmps := [(0, .c (.s)), (7, .c (.i .i64)), (8, .c (.i .i64))], mem := [] }
noncomputable def A51x0x6 (N : Nat) (L : List Lf) : List (Bool × (Ex × St)) := bnd (G51x0x6 N (ls L 0) (li L 1) (li L 2)) fun q => [((inlB q), (.ret, ⟨[(2, .c (.b false))], []⟩)), ((inrQ q).isSome, ((.exit 0), ⟨[(0, .c (.s (ls L 0)))], []⟩))]
theorem eq51x0x6 (L : List Lf) : ofSh sh51x0x6 L = (P51x0x6 (ls L 0) (li L 1) (li L 2)) := by kernel_rfl
theorem law51x0x6 (N : Nat) : CutLaw Try.prog 0 (piece Try.prog 51 6) (loSh sh51x0x6 (A51x0x6 N)) :=
  law_shL progOk (T80x0_ok N) (al51x0s1 N) one51x0x6 lp51x0x6 eq51x0x6 fun L x hx => run51x0x6 N _ _ N _ x ((lbind51x0x6 N _ _ N _ _ _).trans ((altS alt1) x hx))
noncomputable def h51x0s2 (N : Nat) : Hint := { (h51x0s1 N) with los := (6, loSh sh51x0x6 (A51x0x6 N)) :: (h51x0s1 N).los }
theorem al51x0s2 (N : Nat) : AllCuts Try.prog (h51x0s2 N).los 0 51 := AllCuts.cons (al51x0s1 N) one51x0x6 (law51x0x6 N)
noncomputable def F51x0 (N : Nat) {R : Type} (v0 : (List UInt8)) (k0 : Bool → Option R) : Option R :=
  bnd (G51x0x6 N v0 (v0.length : Int) 0) fun x44033271 =>
  bif (inlB x44033271) then
    k0 false
  else
    bif (inrQ x44033271).isSome then
      bnd (bif (decide ((v0.length : Int) ≥ 1)) then (decide ((v0.length : Int) ≤ 60)) else false) fun x3431527 =>
      k0 x3431527
    else
      none
noncomputable def G51x0 (N : Nat) (v0 : (List UInt8)) : Option (Bool) := F51x0 N v0 (fun p => some p)
theorem bind51x0 (N : Nat) {R : Type} (v0 : (List UInt8)) (k0 : Bool → Option R) : F51x0 N v0 k0 = (G51x0 N v0).bind k0 := by
  unfold G51x0 F51x0
  repeat' (first | rfl | apply cond_b | (apply bnd_b; intro _))
noncomputable def sh51x0 : Sh := { tmps := [(0, .c (.s))], mem := [] }
noncomputable def A51x0 (N : Nat) (L : List Lf) : List (Bool × Res) := bnd (F51x0 N (ls L 0) (fun p => some p)) fun q => [(q.isSome, ([.c (.b (q.getD default))], []))]
theorem raw51x0 (N : Nat) (L : List Lf) : (body Try.prog (T80x0 N) (h51x0s2 N) 200 51 (valsOf (ofSh sh51x0 L).tmps) (ofSh sh51x0 L).mem : Option Res) = F51x0 N (ls L 0) (fun p => some ([.c (.b p)], [])) := by kernel_rfl
theorem ok51x0 (N : Nat) : ∀ args mem alts, spSh sh51x0 (A51x0 N) args mem = some alts → ∀ res, altK alts some = some res → CallOk Try.prog 51 args mem res :=
  spSh_law fun L x hx => callOk_of (n := 200) progOk (T80x0_ok N) (al51x0s2 N) rfl ((raw51x0 N L).trans ((bind51x0 N ..).trans (alt1 x hx)))
noncomputable def T51x0 (N : Nat) : Oracle := ext 51 (spSh sh51x0 (A51x0 N)) (T80x0 N)
theorem T51x0_ok (N : Nat) : OracleOk Try.prog (T51x0 N) := ext_ok (T80x0_ok N) (enters_of (by kernel_rfl)) (ok51x0 N)
noncomputable def rg82x0 : List (Nat × List Nat) := [(0, [0, 1]), (1, [2, 1])]
noncomputable def hd82x0 : Hints := []
noncomputable def h82x0s0 (N : Nat) : Hint := { loops := hd82x0, regs := rg82x0, los := [] }
theorem al82x0s0 (N : Nat) : AllCuts Try.prog (h82x0s0 N).los 1 82 := AllCuts.nil
noncomputable def F82x0 (N : Nat) {R : Type} (v0 v5 : (List UInt8)) (k0 : Bool → R) : R :=
  k0 (v0 == v5)
noncomputable def V82x0 (N : Nat) (v0 v5 : (List UInt8)) : Bool := F82x0 N v0 v5 (fun p => p)
theorem tot82x0 (N : Nat) {R : Type} (v0 v5 : (List UInt8)) (k0 : Bool → R) : F82x0 N v0 v5 k0 = k0 (V82x0 N v0 v5) := by
  unfold V82x0 F82x0
  repeat' (first | rfl | apply cond_k | (apply bnd_k; intro _))
noncomputable def sh82x0 : Sh := { tmps := [(0, .g [.s, .i .i64, .i .i64, .i .i64, .b]), (1, .c (.p 0 0))], mem := [(0, .box [.s])] }
noncomputable def A82x0 (N : Nat) (L : List Lf) : List (Bool × Res) := bnd (F82x0 N (ls L 0) (ls L 5) (fun p => p)) fun q => [(true, ([.c (.b q)], [(0, .box [.s (ls L 5)])]))]
theorem raw82x0 (N : Nat) (L : List Lf) : (body Try.prog (T51x0 N) (h82x0s0 N) 200 82 (valsOf (ofSh sh82x0 L).tmps) (ofSh sh82x0 L).mem : Option Res) = F82x0 N (ls L 0) (ls L 5) (fun p => some ([.c (.b p)], [(0, .box [.s (ls L 5)])])) := by kernel_rfl
theorem ok82x0 (N : Nat) : ∀ args mem alts, spSh sh82x0 (A82x0 N) args mem = some alts → ∀ res, altK alts some = some res → CallOk Try.prog 82 args mem res :=
  spSh_law fun L x hx => callOk_of (n := 200) progOk (T51x0_ok N) (al82x0s0 N) rfl ((raw82x0 N L).trans ((tot82x0 N ..).trans (alt0 _ _ hx)))
noncomputable def T82x0 (N : Nat) : Oracle := ext 82 (spSh sh82x0 (A82x0 N)) (T51x0 N)
theorem T82x0_ok (N : Nat) : OracleOk Try.prog (T82x0 N) := ext_ok (T51x0_ok N) (enters_of (by kernel_rfl)) (ok82x0 N)
noncomputable def rg81x0 : List (Nat × List Nat) := [(0, [0, 1]), (1, [0, 1]), (2, [8, 7, 1, 0]), (3, [8, 1, 0, 7]), (4, [1, 0, 5, 8, 7]), (5, [5]), (6, [8, 7, 1, 0]), (7, [])]
noncomputable def hd81x0 : Hints := [(6, [8, 7, 1, 0], [0], [])]
noncomputable def h81x0s0 (N : Nat) : Hint := { loops := hd81x0, regs := rg81x0, los := [] }
theorem al81x0s0 (N : Nat) : AllCuts Try.prog (h81x0s0 N).los 1 81 := AllCuts.nil
noncomputable def P81x0x6 (w0 : Bool) (w1 : (List D)) (w2 w3 : Int) (w4 : (List UInt8)) : St := ⟨[(0, .c (.sl 66 w0 w1)), (1, .c (.f 82 [(0, 0)])), (7, .c (.i .i64 w2)), (8, .c (.i .i64 w3))], [(0, .box [.s w4])]⟩
noncomputable def S81x0x6 (N : Nat) {R : Type} (w1 : (List D)) (w2 : Int) (w4 : (List UInt8)) (w3 : Int) (kr : Int → Option R) (k0 : Int → Option R) (k1 : Unit → Option R) : Option R :=
  bif (decide (w3 < w2)) then
    bif (inB w3 w1.length) then
      bnd (V82x0 N ((w1.getD w3.toNat (.i 0)).cell 0).toS w4) fun x37986294 =>
      bif x37986294 then
        k0 w3
      else
        kr (IntKind.wrap .i64 (w3 + 1))
    else
      none
  else
    k1 ()
theorem mono81x0x6 (N : Nat) {R : Type} (w1 : (List D)) (w2 : Int) (w4 : (List UInt8)) (w3 : Int) {kr kr' : Int → Option R} (k0 : Int → Option R) (k1 : Unit → Option R) {r : R} (hk : ∀ w3', kr w3' = some r → kr' w3' = some r) : S81x0x6 N w1 w2 w4 w3 kr k0 k1 = some r → S81x0x6 N w1 w2 w4 w3 kr' k0 k1 = some r := by
  unfold S81x0x6
  repeat' (first | exact hk _ | exact fun h => h | apply cond_mono | (apply bnd_mono; intro _))
noncomputable def L81x0x6 (N : Nat) {R : Type} (w1 : (List D)) (w2 : Int) (w4 : (List UInt8)) : Nat → Int → (Int → Option R) → (Unit → Option R) → Option R
  | 0, _, _, _ => none
  | m + 1, w3, k0, k1 => S81x0x6 N w1 w2 w4 w3 (fun w3 => L81x0x6 N w1 w2 w4 m w3 k0 k1) k0 k1
theorem lp81x0x6 : piece Try.prog 81 6 = .loop (loopB (piece Try.prog 81 6)) := by kernel_rfl
theorem nl81x0x6 (N : Nat) : lawOf (h81x0s0 N) (.loop (loopB (piece Try.prog 81 6))) = none := by kernel_rfl
theorem cl81x0x6 (N : Nat) (w0 : Bool) (w1 : (List D)) (w2 : Int) (w4 : (List UInt8)) (w3 : Int) : clearSt Try.prog 1 (h81x0s0 N).loops 6 (P81x0x6 w0 w1 w2 w3 w4) = (P81x0x6 w0 w1 w2 w3 w4) := by kernel_rfl
theorem step81x0x6 (N : Nat) (m : Nat) (kn : St → Option (Ex × St)) (w0 : Bool) (w1 : (List D)) (w2 : Int) (w4 : (List UInt8)) (w3 : Int) : exec Try.prog (T82x0 N) (h81x0s0 N) 1 (m + 100) (loopB (piece Try.prog 81 6)) (P81x0x6 w0 w1 w2 w3 w4) (reK (fun st => kn (clearSt Try.prog 1 (h81x0s0 N).loops 6 st)) (fun e st => some (e, cutSt [4] [0] st))) = S81x0x6 N w1 w2 w4 w3 (fun w3 => kn (P81x0x6 w0 w1 w2 w3 w4)) (fun p => some (.ret, ⟨[(4, .c (.i .i64 p))], [(0, .box [.s w4])]⟩)) (fun p => some ((.exit 0), ⟨[], [(0, .box [.s w4])]⟩)) := by kernel_rfl
theorem run81x0x6 (N : Nat) (w0 : Bool) (w1 : (List D)) (w2 : Int) (w4 : (List UInt8)) : ∀ (m : Nat) (w3 : Int) (x : Ex × St), L81x0x6 N w1 w2 w4 m w3 (fun p => some (.ret, ⟨[(4, .c (.i .i64 p))], [(0, .box [.s w4])]⟩)) (fun p => some ((.exit 0), ⟨[], [(0, .box [.s w4])]⟩)) = some x → exec Try.prog (T82x0 N) (h81x0s0 N) 1 (m + 101) (.loop (loopB (piece Try.prog 81 6))) (P81x0x6 w0 w1 w2 w3 w4) (fun e st => some (e, cutSt [4] [0] st)) = some x := by
  intro m
  induction m with
  | zero => intro w3 x h; cases h
  | succ m ih =>
    intro w3 x h
    exact loop_round (n := m + 101) (nl81x0x6 N) (by kernel_rfl) (cl81x0x6 N ..) (fun kn => step81x0x6 N (m + 1) kn ..) (mono81x0x6 N _ _ _ _ _ _ (fun w3 => ih w3 x) h)
noncomputable def G81x0x6 (N : Nat) (w1 : (List D)) (w2 : Int) (w4 : (List UInt8)) (w3 : Int) : Option (Sum (Int) (Unit)) := L81x0x6 N (R := (Sum (Int) (Unit))) w1 w2 w4 N w3 (fun p => some (.inl p)) (fun p => some (.inr p))
theorem sb81x0x6 (N : Nat) {R A : Type} (w1 : (List D)) (w2 : Int) (w4 : (List UInt8)) (w3 : Int) (kr : Int → Option R) (kr' : Int → Option A) (k0 : Int → Option R) (k1 : Unit → Option R) (j0 : Int → Option A) (j1 : Unit → Option A) (K : A → Option R) (hr : ∀ w3', kr w3' = (kr' w3').bind K) (h0 : ∀ p, k0 p = (j0 p).bind K) (h1 : ∀ p, k1 p = (j1 p).bind K) : S81x0x6 N w1 w2 w4 w3 kr k0 k1 = (S81x0x6 N w1 w2 w4 w3 kr' j0 j1).bind K := by
  unfold S81x0x6
  repeat' (first | rfl | apply hr | apply h0 | apply h1 | apply cond_b | (apply bnd_b; intro _))
theorem lbind81x0x6 (N : Nat) {R : Type} (w1 : (List D)) (w2 : Int) (w4 : (List UInt8)) : ∀ (m : Nat) (w3 : Int) (k0 : Int → Option R) (k1 : Unit → Option R), L81x0x6 N w1 w2 w4 m w3 k0 k1 = (L81x0x6 N (R := (Sum (Int) (Unit))) w1 w2 w4 m w3 (fun p => some (.inl p)) (fun p => some (.inr p))).bind (sumE k0 k1) := by
  intro m
  induction m with
  | zero => intros; rfl
  | succ m ih =>
    intro w3 k0 k1
    exact sb81x0x6 N _ _ _ _ _ _ _ _ _ _ _ (fun w3 => ih w3 k0 k1) (fun _ => rfl) (fun _ => rfl)
theorem one81x0x6 : oneB Try.prog 81 6 = true := by kernel_rfl
noncomputable def sh81x0x6 : Sh := { tmps := [(0, .c (.sl 66)), (1, .c (.f 82 [(0, 0)])), (7, .c (.i .i64)), (8, .c (.i .i64))], mem := [(0, .box [.s])] }
noncomputable def A81x0x6 (N : Nat) (L : List Lf) : List (Bool × (Ex × St)) := bnd (G81x0x6 N (ll L 1) (li L 2) (ls L 4) (li L 3)) fun q => [((inlB q), (.ret, ⟨[(4, .c (.i .i64 (inlV q)))], [(0, .box [.s (ls L 4)])]⟩)), ((inrQ q).isSome, ((.exit 0), ⟨[], [(0, .box [.s (ls L 4)])]⟩))]
theorem eq81x0x6 (L : List Lf) : ofSh sh81x0x6 L = (P81x0x6 (lb L 0) (ll L 1) (li L 2) (li L 3) (ls L 4)) := by kernel_rfl
theorem law81x0x6 (N : Nat) : CutLaw Try.prog 1 (piece Try.prog 81 6) (loSh sh81x0x6 (A81x0x6 N)) :=
  law_shL progOk (T82x0_ok N) (al81x0s0 N) one81x0x6 lp81x0x6 eq81x0x6 fun L x hx => run81x0x6 N _ _ _ _ N _ x ((lbind81x0x6 N _ _ _ N _ _ _).trans ((altS alt1) x hx))
noncomputable def h81x0s1 (N : Nat) : Hint := { (h81x0s0 N) with los := (6, loSh sh81x0x6 (A81x0x6 N)) :: (h81x0s0 N).los }
theorem al81x0s1 (N : Nat) : AllCuts Try.prog (h81x0s1 N).los 1 81 := AllCuts.cons (al81x0s0 N) one81x0x6 (law81x0x6 N)
noncomputable def F81x0 (N : Nat) {R : Type} (v1 : (List D)) (v2 : (List UInt8)) (k0 : Int → Option R) : Option R :=
  bnd (G81x0x6 N v1 (v1.length : Int) v2 0) fun x88587109 =>
  bif (inlB x88587109) then
    k0 (inlV x88587109)
  else
    bif (inrQ x88587109).isSome then
      k0 (-1)
    else
      none
noncomputable def G81x0 (N : Nat) (v1 : (List D)) (v2 : (List UInt8)) : Option (Int) := F81x0 N v1 v2 (fun p => some p)
theorem bind81x0 (N : Nat) {R : Type} (v1 : (List D)) (v2 : (List UInt8)) (k0 : Int → Option R) : F81x0 N v1 v2 k0 = (G81x0 N v1 v2).bind k0 := by
  unfold G81x0 F81x0
  repeat' (first | rfl | apply cond_b | (apply bnd_b; intro _))
noncomputable def sh81x0 : Sh := { tmps := [(0, .c (.sl 66)), (1, .c (.f 82 [(0, 0)]))], mem := [(0, .box [.s])] }
noncomputable def A81x0 (N : Nat) (L : List Lf) : List (Bool × Res) := bnd (F81x0 N (ll L 1) (ls L 2) (fun p => some p)) fun q => [(q.isSome, ([.c (.i .i64 (q.getD default))], [(0, .box [.s (ls L 2)])]))]
theorem raw81x0 (N : Nat) (L : List Lf) : (body Try.prog (T82x0 N) (h81x0s1 N) 200 81 (valsOf (ofSh sh81x0 L).tmps) (ofSh sh81x0 L).mem : Option Res) = F81x0 N (ll L 1) (ls L 2) (fun p => some ([.c (.i .i64 p)], [(0, .box [.s (ls L 2)])])) := by kernel_rfl
theorem ok81x0 (N : Nat) : ∀ args mem alts, spSh sh81x0 (A81x0 N) args mem = some alts → ∀ res, altK alts some = some res → CallOk Try.prog 81 args mem res :=
  spSh_law fun L x hx => callOk_of (n := 200) progOk (T82x0_ok N) (al81x0s1 N) rfl ((raw81x0 N L).trans ((bind81x0 N ..).trans (alt1 x hx)))
noncomputable def T81x0 (N : Nat) : Oracle := ext 81 (spSh sh81x0 (A81x0 N)) (T82x0 N)
theorem T81x0_ok (N : Nat) : OracleOk Try.prog (T81x0 N) := ext_ok (T82x0_ok N) (enters_of (by kernel_rfl)) (ok81x0 N)
noncomputable def rg52x0 : List (Nat × List Nat) := [(0, [0, 1]), (1, [2, 3])]
noncomputable def hd52x0 : Hints := []
noncomputable def h52x0s0 (N : Nat) : Hint := { loops := hd52x0, regs := rg52x0, los := [] }
theorem al52x0s0 (N : Nat) : AllCuts Try.prog (h52x0s0 N).los 0 52 := AllCuts.nil
noncomputable def F52x0 (N : Nat) {R : Type} (v4 : (List D)) (v7 : (List UInt8)) (k0 : Int → Option R) : Option R :=
  bnd (G81x0 N v4 v7) fun x72077139 =>
  bif x72077139.isSome then
    k0 (x72077139.getD default)
  else
    none
noncomputable def G52x0 (N : Nat) (v4 : (List D)) (v7 : (List UInt8)) : Option (Int) := F52x0 N v4 v7 (fun p => some p)
theorem bind52x0 (N : Nat) {R : Type} (v4 : (List D)) (v7 : (List UInt8)) (k0 : Int → Option R) : F52x0 N v4 v7 k0 = (G52x0 N v4 v7).bind k0 := by
  unfold G52x0 F52x0
  repeat' (first | rfl | apply cond_b | (apply bnd_b; intro _))
noncomputable def sh52x0 : Sh := { tmps := [(0, .g [.i .i64, .i .i64, .i .i64, .sl 66, .sl 68]), (1, .c (.s))], mem := [] }
noncomputable def A52x0 (N : Nat) (L : List Lf) : List (Bool × Res) := bnd (F52x0 N (ll L 4) (ls L 7) (fun p => some p)) fun q => [(q.isSome, ([.c (.i .i64 (q.getD default))], []))]
theorem raw52x0 (N : Nat) (L : List Lf) : (body Try.prog (T81x0 N) (h52x0s0 N) 200 52 (valsOf (ofSh sh52x0 L).tmps) (ofSh sh52x0 L).mem : Option Res) = F52x0 N (ll L 4) (ls L 7) (fun p => some ([.c (.i .i64 p)], [])) := by kernel_rfl
theorem ok52x0 (N : Nat) : ∀ args mem alts, spSh sh52x0 (A52x0 N) args mem = some alts → ∀ res, altK alts some = some res → CallOk Try.prog 52 args mem res :=
  spSh_law fun L x hx => callOk_of (n := 200) progOk (T81x0_ok N) (al52x0s0 N) rfl ((raw52x0 N L).trans ((bind52x0 N ..).trans (alt1 x hx)))
noncomputable def T52x0 (N : Nat) : Oracle := ext 52 (spSh sh52x0 (A52x0 N)) (T81x0 N)
theorem T52x0_ok (N : Nat) : OracleOk Try.prog (T52x0 N) := ext_ok (T81x0_ok N) (enters_of (by kernel_rfl)) (ok52x0 N)
noncomputable def rg83x0 : List (Nat × List Nat) := [(0, [0]), (1, [0, 2]), (2, [3, 2]), (4, [3, 2]), (6, [3, 2]), (8, [3, 2]), (10, [3, 2]), (11, [2]), (9, [2]), (7, [2]), (5, [2]), (3, [2]), (12, [2])]
noncomputable def hd83x0 : Hints := []
noncomputable def h83x0s0 (N : Nat) : Hint := { loops := hd83x0, regs := rg83x0, los := [] }
theorem al83x0s0 (N : Nat) : AllCuts Try.prog (h83x0s0 N).los 0 83 := AllCuts.nil
noncomputable def F83x0 (N : Nat) {R : Type} (v0 : Int) (k0 : Bool × Bool × Bool × Bool × Bool → R) : R :=
  bif (v0 == 1) then
    k0 (true, false, false, false, false)
  else
    bif (v0 == 2) then
      k0 (true, true, false, false, false)
    else
      bif (v0 == 6) then
        k0 (false, false, true, true, true)
      else
        bif (v0 == 8) then
          k0 (true, false, false, false, true)
        else
          bif (v0 == 9) then
            k0 (true, true, true, false, false)
          else
            k0 (false, true, false, false, false)
noncomputable def V83x0 (N : Nat) (v0 : Int) : Bool × Bool × Bool × Bool × Bool := F83x0 N v0 (fun p => p)
theorem tot83x0 (N : Nat) {R : Type} (v0 : Int) (k0 : Bool × Bool × Bool × Bool × Bool → R) : F83x0 N v0 k0 = k0 (V83x0 N v0) := by
  unfold V83x0 F83x0
  repeat' (first | rfl | apply cond_k | (apply bnd_k; intro _))
noncomputable def sh83x0 : Sh := { tmps := [(0, .c (.i .i64))], mem := [] }
noncomputable def K83x0w0 (L : List Lf) (p : Bool × Bool × Bool × Bool × Bool) : Res := ([.g [.b p.1, .b p.2.1, .b p.2.2.1, .b p.2.2.2.1, .b p.2.2.2.2]], [])
noncomputable def A83x0 (N : Nat) (L : List Lf) : List (Bool × Res) := bnd (F83x0 N (li L 0) (fun p => p)) fun q => [(true, K83x0w0 L q)]
theorem raw83x0 (N : Nat) (L : List Lf) : (body Try.prog (T52x0 N) (h83x0s0 N) 200 83 (valsOf (ofSh sh83x0 L).tmps) (ofSh sh83x0 L).mem : Option Res) = F83x0 N (li L 0) (fun p => some (K83x0w0 L p)) := by kernel_rfl
theorem ok83x0 (N : Nat) : ∀ args mem alts, spSh sh83x0 (A83x0 N) args mem = some alts → ∀ res, altK alts some = some res → CallOk Try.prog 83 args mem res :=
  spSh_law fun L x hx => callOk_of (n := 200) progOk (T52x0_ok N) (al83x0s0 N) rfl ((raw83x0 N L).trans ((tot83x0 N ..).trans (alt0 _ _ hx)))
noncomputable def T83x0 (N : Nat) : Oracle := ext 83 (spSh sh83x0 (A83x0 N)) (T52x0 N)
theorem T83x0_ok (N : Nat) : OracleOk Try.prog (T83x0 N) := ext_ok (T52x0_ok N) (enters_of (by kernel_rfl)) (ok83x0 N)
noncomputable def rg53x0 : List (Nat × List Nat) := [(0, [0, 1]), (1, [3, 2]), (2, []), (3, [3, 2]), (4, [3, 2, 5]), (5, [3, 2, 5, 7, 8, 6]), (6, [2, 3, 5, 7, 8]), (7, [3, 5, 6, 2, 7, 8]), (8, [3, 5, 6, 2]), (9, [3, 5, 6, 2, 7, 8]), (10, [5, 3, 6, 9, 2, 7, 8]), (11, [5, 3, 7, 8, 9, 2]), (13, [3, 9, 5, 2]), (14, [3, 5, 2]), (16, [5, 2, 3]), (18, [5, 3]), (19, [5, 3]), (20, [5, 3]), (21, [5, 3]), (22, [5, 3]), (23, []), (17, []), (15, []), (12, []), (24, [])]
noncomputable def hd53x0 : Hints := [(20, [2, 3, 5, 7, 8, 6, 24], [5, 3, 2], []), (26, [3, 5, 6, 2, 7, 8, 30], [5, 3, 2], []), (31, [5, 3, 6, 9, 2, 7, 8], [5, 3, 2], []), (34, [5, 3, 7, 8, 9, 2], [5, 3, 2], []), (33002, [3, 9, 5, 2, 46, 7, 8], [5, 3, 2], []), (43, [3, 5, 2], [5, 3, 2], []), (42002, [5, 2, 3, 66], [5, 3, 2], []), (49, [5, 2, 3], [5, 3, 2], []), (66002, [103, 5, 3], [5, 3], []), (63002, [103, 5, 3], [5, 3], []), (60002, [103, 5, 3], [5, 3], []), (57002, [103, 5, 3], [5, 3], [])]
noncomputable def h53x0s0 (N : Nat) : Hint := { loops := hd53x0, regs := rg53x0, los := [] }
theorem al53x0s0 (N : Nat) : AllCuts Try.prog (h53x0s0 N).los 0 53 := AllCuts.nil
noncomputable def F53x0x20 (N : Nat) {R : Type} (w0 : Int) (w3 : Bool) (w5 : Int) (k0 : Int → R) : R :=
  bif w3 then
    k0 (IntKind.wrap .i64 (w5 - 1))
  else
    k0 w0
noncomputable def V53x0x20 (N : Nat) (w0 : Int) (w3 : Bool) (w5 : Int) : Int := F53x0x20 N w0 w3 w5 (fun p => p)
theorem tot53x0x20 (N : Nat) {R : Type} (w0 : Int) (w3 : Bool) (w5 : Int) (k0 : Int → R) : F53x0x20 N w0 w3 w5 k0 = k0 (V53x0x20 N w0 w3 w5) := by
  unfold V53x0x20 F53x0x20
  repeat' (first | rfl | apply cond_k | (apply bnd_k; intro _))
noncomputable def sh53x0x20 : Sh := { tmps := [(2, .c (.p 2 0)), (3, .c (.p 3 0)), (5, .c (.p 5 0)), (6, .c (.i .i64)), (7, .c (.i .i64)), (8, .c (.i .i64)), (24, .c (.b))], mem := [(2, .box [.i .i64, .i .i64, .i .i64, .sl 66, .sl 68]), (3, .box [.i .i64, .i .i64, .i .i64, .i .i64, .i .i64, .s]), (5, .box [.b, .b, .b, .b, .b])] }
noncomputable def K53x0x20w0 (L : List Lf) (p : Int) : Ex × St := (.normal, ⟨[(2, .c (.p 2 0)), (3, .c (.p 3 0)), (5, .c (.p 5 0)), (6, .c (.i .i64 p)), (7, .c (.i .i64 (li L 1))), (8, .c (.i .i64 (li L 2)))], [(2, .box [.i .i64 (li L 4), .i .i64 (li L 5), .i .i64 (li L 6), .sl 66 (lb L 7) (ll L 8), .sl 68 (lb L 9) (ll L 10)]), (3, .box [.i .i64 (li L 11), .i .i64 (li L 12), .i .i64 (li L 13), .i .i64 (li L 14), .i .i64 (li L 15), .s (ls L 16)]), (5, .box [.b (lb L 17), .b (lb L 18), .b (lb L 19), .b (lb L 20), .b (lb L 21)])]⟩)
noncomputable def A53x0x20 (N : Nat) (L : List Lf) : List (Bool × (Ex × St)) := bnd (F53x0x20 N (li L 0) (lb L 3) (li L 5) (fun p => p)) fun q => [(true, K53x0x20w0 L q)]
theorem raw53x0x20 (N : Nat) (L : List Lf) : (exec Try.prog (T83x0 N) (h53x0s0 N) 0 100 (piece Try.prog 53 20) (ofSh sh53x0x20 L) (fun e st => some (e, cutSt [3, 5, 6, 2, 7, 8] [5, 3, 2] st)) : Option (Ex × St)) = F53x0x20 N (li L 0) (lb L 3) (li L 5) (fun p => some (K53x0x20w0 L p)) := by kernel_rfl
theorem one53x0x20 : oneB Try.prog 53 20 = true := by kernel_rfl
theorem law53x0x20 (N : Nat) : CutLaw Try.prog 0 (piece Try.prog 53 20) (loSh sh53x0x20 (A53x0x20 N)) :=
  law_sh progOk (T83x0_ok N) (al53x0s0 N) one53x0x20 fun L x hx => (raw53x0x20 N L).trans ((tot53x0x20 N ..).trans (alt0 _ _ hx))
noncomputable def h53x0s1 (N : Nat) : Hint := { (h53x0s0 N) with los := (20, loSh sh53x0x20 (A53x0x20 N)) :: (h53x0s0 N).los }
theorem al53x0s1 (N : Nat) : AllCuts Try.prog (h53x0s1 N).los 0 53 := AllCuts.cons (al53x0s0 N) one53x0x20 (law53x0x20 N)
noncomputable def F53x0x26 (N : Nat) {R : Type} (w1 w2 : Int) (w3 : Bool) (k0 : Int × Int → R) : R :=
  bif w3 then
    k0 (1, 14)
  else
    k0 (w1, w2)
noncomputable def V53x0x26 (N : Nat) (w1 w2 : Int) (w3 : Bool) : Int × Int := F53x0x26 N w1 w2 w3 (fun p => p)
theorem tot53x0x26 (N : Nat) {R : Type} (w1 w2 : Int) (w3 : Bool) (k0 : Int × Int → R) : F53x0x26 N w1 w2 w3 k0 = k0 (V53x0x26 N w1 w2 w3) := by
  unfold V53x0x26 F53x0x26
  repeat' (first | rfl | apply cond_k | (apply bnd_k; intro _))
noncomputable def sh53x0x26 : Sh := { tmps := [(2, .c (.p 2 0)), (3, .c (.p 3 0)), (5, .c (.p 5 0)), (6, .c (.i .i64)), (7, .c (.i .i64)), (8, .c (.i .i64)), (30, .c (.b))], mem := [(2, .box [.i .i64, .i .i64, .i .i64, .sl 66, .sl 68]), (3, .box [.i .i64, .i .i64, .i .i64, .i .i64, .i .i64, .s]), (5, .box [.b, .b, .b, .b, .b])] }
noncomputable def K53x0x26w0 (L : List Lf) (p : Int × Int) : Ex × St := (.normal, ⟨[(2, .c (.p 2 0)), (3, .c (.p 3 0)), (5, .c (.p 5 0)), (6, .c (.i .i64 (li L 0))), (7, .c (.i .i64 p.1)), (8, .c (.i .i64 p.2))], [(2, .box [.i .i64 (li L 4), .i .i64 (li L 5), .i .i64 (li L 6), .sl 66 (lb L 7) (ll L 8), .sl 68 (lb L 9) (ll L 10)]), (3, .box [.i .i64 (li L 11), .i .i64 (li L 12), .i .i64 (li L 13), .i .i64 (li L 14), .i .i64 (li L 15), .s (ls L 16)]), (5, .box [.b (lb L 17), .b (lb L 18), .b (lb L 19), .b (lb L 20), .b (lb L 21)])]⟩)
noncomputable def A53x0x26 (N : Nat) (L : List Lf) : List (Bool × (Ex × St)) := bnd (F53x0x26 N (li L 1) (li L 2) (lb L 3) (fun p => p)) fun q => [(true, K53x0x26w0 L q)]
theorem raw53x0x26 (N : Nat) (L : List Lf) : (exec Try.prog (T83x0 N) (h53x0s1 N) 0 100 (piece Try.prog 53 26) (ofSh sh53x0x26 L) (fun e st => some (e, cutSt [3, 5, 6, 2, 7, 8] [5, 3, 2] st)) : Option (Ex × St)) = F53x0x26 N (li L 1) (li L 2) (lb L 3) (fun p => some (K53x0x26w0 L p)) := by kernel_rfl
theorem one53x0x26 : oneB Try.prog 53 26 = true := by kernel_rfl
theorem law53x0x26 (N : Nat) : CutLaw Try.prog 0 (piece Try.prog 53 26) (loSh sh53x0x26 (A53x0x26 N)) :=
  law_sh progOk (T83x0_ok N) (al53x0s1 N) one53x0x26 fun L x hx => (raw53x0x26 N L).trans ((tot53x0x26 N ..).trans (alt0 _ _ hx))
noncomputable def h53x0s2 (N : Nat) : Hint := { (h53x0s1 N) with los := (26, loSh sh53x0x26 (A53x0x26 N)) :: (h53x0s1 N).los }
theorem al53x0s2 (N : Nat) : AllCuts Try.prog (h53x0s2 N).los 0 53 := AllCuts.cons (al53x0s1 N) one53x0x26 (law53x0x26 N)
noncomputable def F53x0x31 (N : Nat) {R : Type} (w0 w12 : Int) (w17 : Bool) (k0 : Bool → R) : R :=
  bif w17 then
    bnd (V48x0 N w12 0 w0) fun x67226955 =>
    k0 (!x67226955)
  else
    k0 false
noncomputable def V53x0x31 (N : Nat) (w0 w12 : Int) (w17 : Bool) : Bool := F53x0x31 N w0 w12 w17 (fun p => p)
theorem tot53x0x31 (N : Nat) {R : Type} (w0 w12 : Int) (w17 : Bool) (k0 : Bool → R) : F53x0x31 N w0 w12 w17 k0 = k0 (V53x0x31 N w0 w12 w17) := by
  unfold V53x0x31 F53x0x31
  repeat' (first | rfl | apply cond_k | (apply bnd_k; intro _))
noncomputable def sh53x0x31 : Sh := { tmps := [(2, .c (.p 2 0)), (3, .c (.p 3 0)), (5, .c (.p 5 0)), (6, .c (.i .i64)), (7, .c (.i .i64)), (8, .c (.i .i64)), (9, .c (.b))], mem := [(2, .box [.i .i64, .i .i64, .i .i64, .sl 66, .sl 68]), (3, .box [.i .i64, .i .i64, .i .i64, .i .i64, .i .i64, .s]), (5, .box [.b, .b, .b, .b, .b])] }
noncomputable def K53x0x31w0 (L : List Lf) (p : Bool) : Ex × St := (.normal, ⟨[(2, .c (.p 2 0)), (3, .c (.p 3 0)), (5, .c (.p 5 0)), (7, .c (.i .i64 (li L 1))), (8, .c (.i .i64 (li L 2))), (9, .c (.b (lb L 3))), (46, .c (.b p))], [(2, .box [.i .i64 (li L 4), .i .i64 (li L 5), .i .i64 (li L 6), .sl 66 (lb L 7) (ll L 8), .sl 68 (lb L 9) (ll L 10)]), (3, .box [.i .i64 (li L 11), .i .i64 (li L 12), .i .i64 (li L 13), .i .i64 (li L 14), .i .i64 (li L 15), .s (ls L 16)]), (5, .box [.b (lb L 17), .b (lb L 18), .b (lb L 19), .b (lb L 20), .b (lb L 21)])]⟩)
noncomputable def A53x0x31 (N : Nat) (L : List Lf) : List (Bool × (Ex × St)) := bnd (F53x0x31 N (li L 0) (li L 12) (lb L 17) (fun p => p)) fun q => [(true, K53x0x31w0 L q)]
theorem raw53x0x31 (N : Nat) (L : List Lf) : (exec Try.prog (T83x0 N) (h53x0s2 N) 0 100 (piece Try.prog 53 31) (ofSh sh53x0x31 L) (fun e st => some (e, cutSt [3, 9, 5, 2, 46, 7, 8] [5, 3, 2] st)) : Option (Ex × St)) = F53x0x31 N (li L 0) (li L 12) (lb L 17) (fun p => some (K53x0x31w0 L p)) := by kernel_rfl
theorem one53x0x31 : oneB Try.prog 53 31 = true := by kernel_rfl
theorem law53x0x31 (N : Nat) : CutLaw Try.prog 0 (piece Try.prog 53 31) (loSh sh53x0x31 (A53x0x31 N)) :=
  law_sh progOk (T83x0_ok N) (al53x0s2 N) one53x0x31 fun L x hx => (raw53x0x31 N L).trans ((tot53x0x31 N ..).trans (alt0 _ _ hx))
noncomputable def h53x0s3 (N : Nat) : Hint := { (h53x0s2 N) with los := (31, loSh sh53x0x31 (A53x0x31 N)) :: (h53x0s2 N).los }
theorem al53x0s3 (N : Nat) : AllCuts Try.prog (h53x0s3 N).los 0 53 := AllCuts.cons (al53x0s2 N) one53x0x31 (law53x0x31 N)
noncomputable def F53x0x34 (N : Nat) {R : Type} (w0 w1 w12 : Int) (w17 : Bool) (k0 : Bool → R) : R :=
  bif w17 then
    bnd (V48x0 N w12 w0 w1) fun x89752443 =>
    k0 (!x89752443)
  else
    k0 false
noncomputable def V53x0x34 (N : Nat) (w0 w1 w12 : Int) (w17 : Bool) : Bool := F53x0x34 N w0 w1 w12 w17 (fun p => p)
theorem tot53x0x34 (N : Nat) {R : Type} (w0 w1 w12 : Int) (w17 : Bool) (k0 : Bool → R) : F53x0x34 N w0 w1 w12 w17 k0 = k0 (V53x0x34 N w0 w1 w12 w17) := by
  unfold V53x0x34 F53x0x34
  repeat' (first | rfl | apply cond_k | (apply bnd_k; intro _))
noncomputable def J53x0x34 (N : Nat) (L : List Lf) {R : Type} (k0 : Bool → R) : R := F53x0x34 N (li L 0) (li L 1) (li L 12) (lb L 17) k0
noncomputable def sh53x0x34 : Sh := { tmps := [(2, .c (.p 2 0)), (3, .c (.p 3 0)), (5, .c (.p 5 0)), (7, .c (.i .i64)), (8, .c (.i .i64)), (9, .c (.b))], mem := [(2, .box [.i .i64, .i .i64, .i .i64, .sl 66, .sl 68]), (3, .box [.i .i64, .i .i64, .i .i64, .i .i64, .i .i64, .s]), (5, .box [.b, .b, .b, .b, .b])] }
noncomputable def K53x0x34w0 (L : List Lf) (p : Bool) : Ex × St := (.normal, ⟨[(2, .c (.p 2 0)), (3, .c (.p 3 0)), (5, .c (.p 5 0)), (9, .c (.b (lb L 2))), (46, .c (.b p))], [(2, .box [.i .i64 (li L 3), .i .i64 (li L 4), .i .i64 (li L 5), .sl 66 (lb L 6) (ll L 7), .sl 68 (lb L 8) (ll L 9)]), (3, .box [.i .i64 (li L 10), .i .i64 (li L 11), .i .i64 (li L 12), .i .i64 (li L 13), .i .i64 (li L 14), .s (ls L 15)]), (5, .box [.b (lb L 16), .b (lb L 17), .b (lb L 18), .b (lb L 19), .b (lb L 20)])]⟩)
noncomputable def A53x0x34 (N : Nat) (L : List Lf) : List (Bool × (Ex × St)) := bnd (J53x0x34 N L (fun p => p)) fun q => [(true, K53x0x34w0 L q)]
theorem raw53x0x34 (N : Nat) (L : List Lf) : (exec Try.prog (T83x0 N) (h53x0s3 N) 0 100 (piece Try.prog 53 34) (ofSh sh53x0x34 L) (fun e st => some (e, cutSt [3, 9, 5, 2, 46] [5, 3, 2] st)) : Option (Ex × St)) = J53x0x34 N L (fun p => some (K53x0x34w0 L p)) := by kernel_rfl
theorem one53x0x34 : oneB Try.prog 53 34 = true := by kernel_rfl
theorem law53x0x34 (N : Nat) : CutLaw Try.prog 0 (piece Try.prog 53 34) (loSh sh53x0x34 (A53x0x34 N)) :=
  law_sh progOk (T83x0_ok N) (al53x0s3 N) one53x0x34 fun L x hx => (raw53x0x34 N L).trans ((tot53x0x34 N ..).trans (alt0 _ _ hx))
noncomputable def h53x0s4 (N : Nat) : Hint := { (h53x0s3 N) with los := (34, loSh sh53x0x34 (A53x0x34 N)) :: (h53x0s3 N).los }
theorem al53x0s4 (N : Nat) : AllCuts Try.prog (h53x0s4 N).los 0 53 := AllCuts.cons (al53x0s3 N) one53x0x34 (law53x0x34 N)
noncomputable def F53x0x33002 (N : Nat) {R : Type} (w0 w1 : Int) (w3 : Bool) (w13 : Int) (w18 : Bool) (k0 : Bool → R) : R :=
  bif w3 then
    k0 true
  else
    bnd (V53x0x34 N w0 w1 w13 w18) fun x6010739 =>
    k0 x6010739
noncomputable def V53x0x33002 (N : Nat) (w0 w1 : Int) (w3 : Bool) (w13 : Int) (w18 : Bool) : Bool := F53x0x33002 N w0 w1 w3 w13 w18 (fun p => p)
theorem tot53x0x33002 (N : Nat) {R : Type} (w0 w1 : Int) (w3 : Bool) (w13 : Int) (w18 : Bool) (k0 : Bool → R) : F53x0x33002 N w0 w1 w3 w13 w18 k0 = k0 (V53x0x33002 N w0 w1 w3 w13 w18) := by
  unfold V53x0x33002 F53x0x33002
  repeat' (first | rfl | apply cond_k | (apply bnd_k; intro _))
noncomputable def J53x0x33002 (N : Nat) (L : List Lf) {R : Type} (k0 : Bool → R) : R := F53x0x33002 N (li L 0) (li L 1) (lb L 3) (li L 13) (lb L 18) k0
noncomputable def sh53x0x33002 : Sh := { tmps := [(2, .c (.p 2 0)), (3, .c (.p 3 0)), (5, .c (.p 5 0)), (7, .c (.i .i64)), (8, .c (.i .i64)), (9, .c (.b)), (46, .c (.b))], mem := [(2, .box [.i .i64, .i .i64, .i .i64, .sl 66, .sl 68]), (3, .box [.i .i64, .i .i64, .i .i64, .i .i64, .i .i64, .s]), (5, .box [.b, .b, .b, .b, .b])] }
noncomputable def K53x0x33002w0 (L : List Lf) (p : Bool) : Ex × St := (.normal, ⟨[(2, .c (.p 2 0)), (3, .c (.p 3 0)), (5, .c (.p 5 0)), (9, .c (.b (lb L 2))), (46, .c (.b p))], [(2, .box [.i .i64 (li L 4), .i .i64 (li L 5), .i .i64 (li L 6), .sl 66 (lb L 7) (ll L 8), .sl 68 (lb L 9) (ll L 10)]), (3, .box [.i .i64 (li L 11), .i .i64 (li L 12), .i .i64 (li L 13), .i .i64 (li L 14), .i .i64 (li L 15), .s (ls L 16)]), (5, .box [.b (lb L 17), .b (lb L 18), .b (lb L 19), .b (lb L 20), .b (lb L 21)])]⟩)
noncomputable def A53x0x33002 (N : Nat) (L : List Lf) : List (Bool × (Ex × St)) := bnd (J53x0x33002 N L (fun p => p)) fun q => [(true, K53x0x33002w0 L q)]
theorem raw53x0x33002 (N : Nat) (L : List Lf) : (exec Try.prog (T83x0 N) (h53x0s4 N) 0 100 (piece Try.prog 53 33002) (ofSh sh53x0x33002 L) (fun e st => some (e, cutSt [3, 9, 5, 2, 46] [5, 3, 2] st)) : Option (Ex × St)) = J53x0x33002 N L (fun p => some (K53x0x33002w0 L p)) := by kernel_rfl
theorem one53x0x33002 : oneB Try.prog 53 33002 = true := by kernel_rfl
theorem law53x0x33002 (N : Nat) : CutLaw Try.prog 0 (piece Try.prog 53 33002) (loSh sh53x0x33002 (A53x0x33002 N)) :=
  law_sh progOk (T83x0_ok N) (al53x0s4 N) one53x0x33002 fun L x hx => (raw53x0x33002 N L).trans ((tot53x0x33002 N ..).trans (alt0 _ _ hx))
noncomputable def h53x0s5 (N : Nat) : Hint := { (h53x0s4 N) with los := (33002, loSh sh53x0x33002 (A53x0x33002 N)) :: (h53x0s4 N).los }
theorem al53x0s5 (N : Nat) : AllCuts Try.prog (h53x0s5 N).los 0 53 := AllCuts.cons (al53x0s4 N) one53x0x33002 (law53x0x33002 N)
noncomputable def F53x0x43 (N : Nat) {R : Type} (w7 w10 : Int) (k0 : Bool → R) : R :=
  bif (w7 == 9) then
    bnd (V48x0 N w10 1 14) fun x28566786 =>
    k0 (!x28566786)
  else
    k0 false
noncomputable def V53x0x43 (N : Nat) (w7 w10 : Int) : Bool := F53x0x43 N w7 w10 (fun p => p)
theorem tot53x0x43 (N : Nat) {R : Type} (w7 w10 : Int) (k0 : Bool → R) : F53x0x43 N w7 w10 k0 = k0 (V53x0x43 N w7 w10) := by
  unfold V53x0x43 F53x0x43
  repeat' (first | rfl | apply cond_k | (apply bnd_k; intro _))
noncomputable def sh53x0x43 : Sh := { tmps := [(2, .c (.p 2 0)), (3, .c (.p 3 0)), (5, .c (.p 5 0))], mem := [(2, .box [.i .i64, .i .i64, .i .i64, .sl 66, .sl 68]), (3, .box [.i .i64, .i .i64, .i .i64, .i .i64, .i .i64, .s]), (5, .box [.b, .b, .b, .b, .b])] }
noncomputable def K53x0x43w0 (L : List Lf) (p : Bool) : Ex × St := (.normal, ⟨[(2, .c (.p 2 0)), (3, .c (.p 3 0)), (5, .c (.p 5 0)), (66, .c (.b p))], [(2, .box [.i .i64 (li L 0), .i .i64 (li L 1), .i .i64 (li L 2), .sl 66 (lb L 3) (ll L 4), .sl 68 (lb L 5) (ll L 6)]), (3, .box [.i .i64 (li L 7), .i .i64 (li L 8), .i .i64 (li L 9), .i .i64 (li L 10), .i .i64 (li L 11), .s (ls L 12)]), (5, .box [.b (lb L 13), .b (lb L 14), .b (lb L 15), .b (lb L 16), .b (lb L 17)])]⟩)
noncomputable def A53x0x43 (N : Nat) (L : List Lf) : List (Bool × (Ex × St)) := bnd (F53x0x43 N (li L 7) (li L 10) (fun p => p)) fun q => [(true, K53x0x43w0 L q)]
theorem raw53x0x43 (N : Nat) (L : List Lf) : (exec Try.prog (T83x0 N) (h53x0s5 N) 0 100 (piece Try.prog 53 43) (ofSh sh53x0x43 L) (fun e st => some (e, cutSt [5, 2, 3, 66] [5, 3, 2] st)) : Option (Ex × St)) = F53x0x43 N (li L 7) (li L 10) (fun p => some (K53x0x43w0 L p)) := by kernel_rfl
theorem one53x0x43 : oneB Try.prog 53 43 = true := by kernel_rfl
theorem law53x0x43 (N : Nat) : CutLaw Try.prog 0 (piece Try.prog 53 43) (loSh sh53x0x43 (A53x0x43 N)) :=
  law_sh progOk (T83x0_ok N) (al53x0s5 N) one53x0x43 fun L x hx => (raw53x0x43 N L).trans ((tot53x0x43 N ..).trans (alt0 _ _ hx))
noncomputable def h53x0s6 (N : Nat) : Hint := { (h53x0s5 N) with los := (43, loSh sh53x0x43 (A53x0x43 N)) :: (h53x0s5 N).los }
theorem al53x0s6 (N : Nat) : AllCuts Try.prog (h53x0s6 N).los 0 53 := AllCuts.cons (al53x0s5 N) one53x0x43 (law53x0x43 N)
noncomputable def F53x0x42002 (N : Nat) {R : Type} (w0 : Bool) (w8 w11 : Int) (k0 : Bool → R) : R :=
  bif w0 then
    k0 true
  else
    bnd (V53x0x43 N w8 w11) fun x17181221 =>
    k0 x17181221
noncomputable def V53x0x42002 (N : Nat) (w0 : Bool) (w8 w11 : Int) : Bool := F53x0x42002 N w0 w8 w11 (fun p => p)
theorem tot53x0x42002 (N : Nat) {R : Type} (w0 : Bool) (w8 w11 : Int) (k0 : Bool → R) : F53x0x42002 N w0 w8 w11 k0 = k0 (V53x0x42002 N w0 w8 w11) := by
  unfold V53x0x42002 F53x0x42002
  repeat' (first | rfl | apply cond_k | (apply bnd_k; intro _))
noncomputable def sh53x0x42002 : Sh := { tmps := [(2, .c (.p 2 0)), (3, .c (.p 3 0)), (5, .c (.p 5 0)), (66, .c (.b))], mem := [(2, .box [.i .i64, .i .i64, .i .i64, .sl 66, .sl 68]), (3, .box [.i .i64, .i .i64, .i .i64, .i .i64, .i .i64, .s]), (5, .box [.b, .b, .b, .b, .b])] }
noncomputable def K53x0x42002w0 (L : List Lf) (p : Bool) : Ex × St := (.normal, ⟨[(2, .c (.p 2 0)), (3, .c (.p 3 0)), (5, .c (.p 5 0)), (66, .c (.b p))], [(2, .box [.i .i64 (li L 1), .i .i64 (li L 2), .i .i64 (li L 3), .sl 66 (lb L 4) (ll L 5), .sl 68 (lb L 6) (ll L 7)]), (3, .box [.i .i64 (li L 8), .i .i64 (li L 9), .i .i64 (li L 10), .i .i64 (li L 11), .i .i64 (li L 12), .s (ls L 13)]), (5, .box [.b (lb L 14), .b (lb L 15), .b (lb L 16), .b (lb L 17), .b (lb L 18)])]⟩)
noncomputable def A53x0x42002 (N : Nat) (L : List Lf) : List (Bool × (Ex × St)) := bnd (F53x0x42002 N (lb L 0) (li L 8) (li L 11) (fun p => p)) fun q => [(true, K53x0x42002w0 L q)]
theorem raw53x0x42002 (N : Nat) (L : List Lf) : (exec Try.prog (T83x0 N) (h53x0s6 N) 0 100 (piece Try.prog 53 42002) (ofSh sh53x0x42002 L) (fun e st => some (e, cutSt [5, 2, 3, 66] [5, 3, 2] st)) : Option (Ex × St)) = F53x0x42002 N (lb L 0) (li L 8) (li L 11) (fun p => some (K53x0x42002w0 L p)) := by kernel_rfl
theorem one53x0x42002 : oneB Try.prog 53 42002 = true := by kernel_rfl
theorem law53x0x42002 (N : Nat) : CutLaw Try.prog 0 (piece Try.prog 53 42002) (loSh sh53x0x42002 (A53x0x42002 N)) :=
  law_sh progOk (T83x0_ok N) (al53x0s6 N) one53x0x42002 fun L x hx => (raw53x0x42002 N L).trans ((tot53x0x42002 N ..).trans (alt0 _ _ hx))
noncomputable def h53x0s7 (N : Nat) : Hint := { (h53x0s6 N) with los := (42002, loSh sh53x0x42002 (A53x0x42002 N)) :: (h53x0s6 N).los }
theorem al53x0s7 (N : Nat) : AllCuts Try.prog (h53x0s7 N).los 0 53 := AllCuts.cons (al53x0s6 N) one53x0x42002 (law53x0x42002 N)
noncomputable def F53x0x49 (N : Nat) {R : Type} (w4 : (List D)) (w7 : Int) (w12 : (List UInt8)) (w17 : Bool) (k0 : Bool → Option R) : Option R :=
  bif w17 then
    bnd (G52x0 N w4 w12) fun x64972985 =>
    bif x64972985.isSome then
      bnd (bif (decide ((x64972985.getD default) < 0)) then (bif (w7 == 6) then true else (!(w12 == ([] : List UInt8)))) else false) fun x92337514 =>
      k0 x92337514
    else
      none
  else
    k0 false
noncomputable def G53x0x49 (N : Nat) (w4 : (List D)) (w7 : Int) (w12 : (List UInt8)) (w17 : Bool) : Option (Bool) := F53x0x49 N w4 w7 w12 w17 (fun p => some p)
theorem bind53x0x49 (N : Nat) {R : Type} (w4 : (List D)) (w7 : Int) (w12 : (List UInt8)) (w17 : Bool) (k0 : Bool → Option R) : F53x0x49 N w4 w7 w12 w17 k0 = (G53x0x49 N w4 w7 w12 w17).bind k0 := by
  unfold G53x0x49 F53x0x49
  repeat' (first | rfl | apply cond_b | (apply bnd_b; intro _))
noncomputable def J53x0x49 (N : Nat) (L : List Lf) {R : Type} (k0 : Bool → Option R) : Option R := F53x0x49 N (ll L 4) (li L 7) (ls L 12) (lb L 17) k0
noncomputable def sh53x0x49 : Sh := { tmps := [(2, .c (.p 2 0)), (3, .c (.p 3 0)), (5, .c (.p 5 0))], mem := [(2, .box [.i .i64, .i .i64, .i .i64, .sl 66, .sl 68]), (3, .box [.i .i64, .i .i64, .i .i64, .i .i64, .i .i64, .s]), (5, .box [.b, .b, .b, .b, .b])] }
noncomputable def K53x0x49w0 (L : List Lf) (p : Bool) : Ex × St := (.normal, ⟨[(3, .c (.p 3 0)), (5, .c (.p 5 0)), (83, .c (.b p))], [(3, .box [.i .i64 (li L 7), .i .i64 (li L 8), .i .i64 (li L 9), .i .i64 (li L 10), .i .i64 (li L 11), .s (ls L 12)]), (5, .box [.b (lb L 13), .b (lb L 14), .b (lb L 15), .b (lb L 16), .b (lb L 17)])]⟩)
noncomputable def A53x0x49 (N : Nat) (L : List Lf) : List (Bool × (Ex × St)) := bnd (J53x0x49 N L (fun p => some p)) fun q => [(q.isSome, K53x0x49w0 L (q.getD default))]
theorem raw53x0x49 (N : Nat) (L : List Lf) : (exec Try.prog (T83x0 N) (h53x0s7 N) 0 100 (piece Try.prog 53 49) (ofSh sh53x0x49 L) (fun e st => some (e, cutSt [5, 3, 83] [5, 3] st)) : Option (Ex × St)) = J53x0x49 N L (fun p => some (K53x0x49w0 L p)) := by kernel_rfl
theorem one53x0x49 : oneB Try.prog 53 49 = true := by kernel_rfl
theorem law53x0x49 (N : Nat) : CutLaw Try.prog 0 (piece Try.prog 53 49) (loSh sh53x0x49 (A53x0x49 N)) :=
  law_sh progOk (T83x0_ok N) (al53x0s7 N) one53x0x49 fun L x hx => (raw53x0x49 N L).trans ((bind53x0x49 N ..).trans (alt1 x hx))
noncomputable def h53x0s8 (N : Nat) : Hint := { (h53x0s7 N) with los := (49, loSh sh53x0x49 (A53x0x49 N)) :: (h53x0s7 N).los }
theorem al53x0s8 (N : Nat) : AllCuts Try.prog (h53x0s8 N).los 0 53 := AllCuts.cons (al53x0s7 N) one53x0x49 (law53x0x49 N)
noncomputable def F53x0x66002 (N : Nat) {R : Type} (w0 : Bool) (w6 : (List UInt8)) (w11 : Bool) (k0 : Bool → R) : R :=
  bif w0 then
    k0 true
  else
    k0 (bif (!w11) then (!(w6 == ([] : List UInt8))) else false)
noncomputable def V53x0x66002 (N : Nat) (w0 : Bool) (w6 : (List UInt8)) (w11 : Bool) : Bool := F53x0x66002 N w0 w6 w11 (fun p => p)
theorem tot53x0x66002 (N : Nat) {R : Type} (w0 : Bool) (w6 : (List UInt8)) (w11 : Bool) (k0 : Bool → R) : F53x0x66002 N w0 w6 w11 k0 = k0 (V53x0x66002 N w0 w6 w11) := by
  unfold V53x0x66002 F53x0x66002
  repeat' (first | rfl | apply cond_k | (apply bnd_k; intro _))
noncomputable def sh53x0x66002 : Sh := { tmps := [(3, .c (.p 3 0)), (5, .c (.p 5 0)), (103, .c (.b))], mem := [(3, .box [.i .i64, .i .i64, .i .i64, .i .i64, .i .i64, .s]), (5, .box [.b, .b, .b, .b, .b])] }
noncomputable def A53x0x66002 (N : Nat) (L : List Lf) : List (Bool × (Ex × St)) := bnd (F53x0x66002 N (lb L 0) (ls L 6) (lb L 11) (fun p => p)) fun q => [(true, (.normal, ⟨[(103, .c (.b q))], []⟩))]
theorem raw53x0x66002 (N : Nat) (L : List Lf) : (exec Try.prog (T83x0 N) (h53x0s8 N) 0 100 (piece Try.prog 53 66002) (ofSh sh53x0x66002 L) (fun e st => some (e, cutSt [103] [] st)) : Option (Ex × St)) = F53x0x66002 N (lb L 0) (ls L 6) (lb L 11) (fun p => some (.normal, ⟨[(103, .c (.b p))], []⟩)) := by kernel_rfl
theorem one53x0x66002 : oneB Try.prog 53 66002 = true := by kernel_rfl
theorem law53x0x66002 (N : Nat) : CutLaw Try.prog 0 (piece Try.prog 53 66002) (loSh sh53x0x66002 (A53x0x66002 N)) :=
  law_sh progOk (T83x0_ok N) (al53x0s8 N) one53x0x66002 fun L x hx => (raw53x0x66002 N L).trans ((tot53x0x66002 N ..).trans (alt0 _ _ hx))
noncomputable def h53x0s9 (N : Nat) : Hint := { (h53x0s8 N) with los := (66002, loSh sh53x0x66002 (A53x0x66002 N)) :: (h53x0s8 N).los }
theorem al53x0s9 (N : Nat) : AllCuts Try.prog (h53x0s9 N).los 0 53 := AllCuts.cons (al53x0s8 N) one53x0x66002 (law53x0x66002 N)
noncomputable def F53x0x63002 (N : Nat) {R : Type} (w0 : Bool) (w5 : Int) (w6 : (List UInt8)) (w10 w11 : Bool) (k0 : Bool → R) : R :=
  bif w0 then
    k0 true
  else
    bnd (V53x0x66002 N (bif (!w10) then (w5 != 0) else false) w6 w11) fun x50117057 =>
    k0 x50117057
noncomputable def V53x0x63002 (N : Nat) (w0 : Bool) (w5 : Int) (w6 : (List UInt8)) (w10 w11 : Bool) : Bool := F53x0x63002 N w0 w5 w6 w10 w11 (fun p => p)
theorem tot53x0x63002 (N : Nat) {R : Type} (w0 : Bool) (w5 : Int) (w6 : (List UInt8)) (w10 w11 : Bool) (k0 : Bool → R) : F53x0x63002 N w0 w5 w6 w10 w11 k0 = k0 (V53x0x63002 N w0 w5 w6 w10 w11) := by
  unfold V53x0x63002 F53x0x63002
  repeat' (first | rfl | apply cond_k | (apply bnd_k; intro _))
noncomputable def J53x0x63002 (N : Nat) (L : List Lf) {R : Type} (k0 : Bool → R) : R := F53x0x63002 N (lb L 0) (li L 5) (ls L 6) (lb L 10) (lb L 11) k0
noncomputable def sh53x0x63002 : Sh := { tmps := [(3, .c (.p 3 0)), (5, .c (.p 5 0)), (103, .c (.b))], mem := [(3, .box [.i .i64, .i .i64, .i .i64, .i .i64, .i .i64, .s]), (5, .box [.b, .b, .b, .b, .b])] }
noncomputable def A53x0x63002 (N : Nat) (L : List Lf) : List (Bool × (Ex × St)) := bnd (J53x0x63002 N L (fun p => p)) fun q => [(true, (.normal, ⟨[(103, .c (.b q))], []⟩))]
theorem raw53x0x63002 (N : Nat) (L : List Lf) : (exec Try.prog (T83x0 N) (h53x0s9 N) 0 100 (piece Try.prog 53 63002) (ofSh sh53x0x63002 L) (fun e st => some (e, cutSt [103] [] st)) : Option (Ex × St)) = J53x0x63002 N L (fun p => some (.normal, ⟨[(103, .c (.b p))], []⟩)) := by kernel_rfl
theorem one53x0x63002 : oneB Try.prog 53 63002 = true := by kernel_rfl
theorem law53x0x63002 (N : Nat) : CutLaw Try.prog 0 (piece Try.prog 53 63002) (loSh sh53x0x63002 (A53x0x63002 N)) :=
  law_sh progOk (T83x0_ok N) (al53x0s9 N) one53x0x63002 fun L x hx => (raw53x0x63002 N L).trans ((tot53x0x63002 N ..).trans (alt0 _ _ hx))
noncomputable def h53x0s10 (N : Nat) : Hint := { (h53x0s9 N) with los := (63002, loSh sh53x0x63002 (A53x0x63002 N)) :: (h53x0s9 N).los }
theorem al53x0s10 (N : Nat) : AllCuts Try.prog (h53x0s10 N).los 0 53 := AllCuts.cons (al53x0s9 N) one53x0x63002 (law53x0x63002 N)
noncomputable def F53x0x60002 (N : Nat) {R : Type} (w0 : Bool) (w4 w5 : Int) (w6 : (List UInt8)) (w9 w10 w11 : Bool) (k0 : Bool → R) : R :=
  bif w0 then
    k0 true
  else
    bnd (V53x0x63002 N (bif (!w9) then (w4 != 0) else false) w5 w6 w10 w11) fun x21426103 =>
    k0 x21426103
noncomputable def V53x0x60002 (N : Nat) (w0 : Bool) (w4 w5 : Int) (w6 : (List UInt8)) (w9 w10 w11 : Bool) : Bool := F53x0x60002 N w0 w4 w5 w6 w9 w10 w11 (fun p => p)
theorem tot53x0x60002 (N : Nat) {R : Type} (w0 : Bool) (w4 w5 : Int) (w6 : (List UInt8)) (w9 w10 w11 : Bool) (k0 : Bool → R) : F53x0x60002 N w0 w4 w5 w6 w9 w10 w11 k0 = k0 (V53x0x60002 N w0 w4 w5 w6 w9 w10 w11) := by
  unfold V53x0x60002 F53x0x60002
  repeat' (first | rfl | apply cond_k | (apply bnd_k; intro _))
noncomputable def J53x0x60002 (N : Nat) (L : List Lf) {R : Type} (k0 : Bool → R) : R := F53x0x60002 N (lb L 0) (li L 4) (li L 5) (ls L 6) (lb L 9) (lb L 10) (lb L 11) k0
noncomputable def sh53x0x60002 : Sh := { tmps := [(3, .c (.p 3 0)), (5, .c (.p 5 0)), (103, .c (.b))], mem := [(3, .box [.i .i64, .i .i64, .i .i64, .i .i64, .i .i64, .s]), (5, .box [.b, .b, .b, .b, .b])] }
noncomputable def A53x0x60002 (N : Nat) (L : List Lf) : List (Bool × (Ex × St)) := bnd (J53x0x60002 N L (fun p => p)) fun q => [(true, (.normal, ⟨[(103, .c (.b q))], []⟩))]
theorem raw53x0x60002 (N : Nat) (L : List Lf) : (exec Try.prog (T83x0 N) (h53x0s10 N) 0 100 (piece Try.prog 53 60002) (ofSh sh53x0x60002 L) (fun e st => some (e, cutSt [103] [] st)) : Option (Ex × St)) = J53x0x60002 N L (fun p => some (.normal, ⟨[(103, .c (.b p))], []⟩)) := by kernel_rfl
theorem one53x0x60002 : oneB Try.prog 53 60002 = true := by kernel_rfl
theorem law53x0x60002 (N : Nat) : CutLaw Try.prog 0 (piece Try.prog 53 60002) (loSh sh53x0x60002 (A53x0x60002 N)) :=
  law_sh progOk (T83x0_ok N) (al53x0s10 N) one53x0x60002 fun L x hx => (raw53x0x60002 N L).trans ((tot53x0x60002 N ..).trans (alt0 _ _ hx))
noncomputable def h53x0s11 (N : Nat) : Hint := { (h53x0s10 N) with los := (60002, loSh sh53x0x60002 (A53x0x60002 N)) :: (h53x0s10 N).los }
theorem al53x0s11 (N : Nat) : AllCuts Try.prog (h53x0s11 N).los 0 53 := AllCuts.cons (al53x0s10 N) one53x0x60002 (law53x0x60002 N)
noncomputable def F53x0x57002 (N : Nat) {R : Type} (w0 : Bool) (w3 w4 w5 : Int) (w6 : (List UInt8)) (w8 w9 w10 w11 : Bool) (k0 : Bool → R) : R :=
  bif w0 then
    k0 true
  else
    bnd (V53x0x60002 N (bif (!w8) then (w3 != 0) else false) w4 w5 w6 w9 w10 w11) fun x90071369 =>
    k0 x90071369
noncomputable def V53x0x57002 (N : Nat) (w0 : Bool) (w3 w4 w5 : Int) (w6 : (List UInt8)) (w8 w9 w10 w11 : Bool) : Bool := F53x0x57002 N w0 w3 w4 w5 w6 w8 w9 w10 w11 (fun p => p)
theorem tot53x0x57002 (N : Nat) {R : Type} (w0 : Bool) (w3 w4 w5 : Int) (w6 : (List UInt8)) (w8 w9 w10 w11 : Bool) (k0 : Bool → R) : F53x0x57002 N w0 w3 w4 w5 w6 w8 w9 w10 w11 k0 = k0 (V53x0x57002 N w0 w3 w4 w5 w6 w8 w9 w10 w11) := by
  unfold V53x0x57002 F53x0x57002
  repeat' (first | rfl | apply cond_k | (apply bnd_k; intro _))
noncomputable def J53x0x57002 (N : Nat) (L : List Lf) {R : Type} (k0 : Bool → R) : R := F53x0x57002 N (lb L 0) (li L 3) (li L 4) (li L 5) (ls L 6) (lb L 8) (lb L 9) (lb L 10) (lb L 11) k0
noncomputable def sh53x0x57002 : Sh := { tmps := [(3, .c (.p 3 0)), (5, .c (.p 5 0)), (103, .c (.b))], mem := [(3, .box [.i .i64, .i .i64, .i .i64, .i .i64, .i .i64, .s]), (5, .box [.b, .b, .b, .b, .b])] }
noncomputable def A53x0x57002 (N : Nat) (L : List Lf) : List (Bool × (Ex × St)) := bnd (J53x0x57002 N L (fun p => p)) fun q => [(true, (.normal, ⟨[(103, .c (.b q))], []⟩))]
theorem raw53x0x57002 (N : Nat) (L : List Lf) : (exec Try.prog (T83x0 N) (h53x0s11 N) 0 100 (piece Try.prog 53 57002) (ofSh sh53x0x57002 L) (fun e st => some (e, cutSt [103] [] st)) : Option (Ex × St)) = J53x0x57002 N L (fun p => some (.normal, ⟨[(103, .c (.b p))], []⟩)) := by kernel_rfl
theorem one53x0x57002 : oneB Try.prog 53 57002 = true := by kernel_rfl
theorem law53x0x57002 (N : Nat) : CutLaw Try.prog 0 (piece Try.prog 53 57002) (loSh sh53x0x57002 (A53x0x57002 N)) :=
  law_sh progOk (T83x0_ok N) (al53x0s11 N) one53x0x57002 fun L x hx => (raw53x0x57002 N L).trans ((tot53x0x57002 N ..).trans (alt0 _ _ hx))
noncomputable def h53x0s12 (N : Nat) : Hint := { (h53x0s11 N) with los := (57002, loSh sh53x0x57002 (A53x0x57002 N)) :: (h53x0s11 N).los }
theorem al53x0s12 (N : Nat) : AllCuts Try.prog (h53x0s12 N).los 0 53 := AllCuts.cons (al53x0s11 N) one53x0x57002 (law53x0x57002 N)
noncomputable def F53x0 (N : Nat) {R : Type} (v1 : Int) (v4 : (List D)) (v7 v8 v9 v10 v11 : Int) (v12 : (List UInt8)) (k0 : Int → Option R) : Option R :=
  bnd (V48x0 N v7 1 9) fun x47782143 =>
  bif (!x47782143) then
    k0 7
  else
    bnd (V83x0 N v7) fun x60463858 =>
    bnd (V53x0x20 N 6 (bif (v7 == 8) then true else (v7 == 9)) v1) fun x13513498 =>
    bnd (V53x0x26 N 0 100000 (v7 == 5)) fun x39818367 =>
    bnd (bif (decide (v10 ≥ 0)) then (decide (v10 ≤ v11)) else false) fun x72438128 =>
    bnd (V53x0x31 N x13513498 v8 x60463858.1) fun x49068470 =>
    bnd (V53x0x33002 N x39818367.1 x39818367.2 x49068470 v9 x60463858.2.1) fun x39504576 =>
    bif x39504576 then
      k0 9
    else
      bnd (bif (v7 == 6) then (!(bif x72438128 then (decide (v11 ≤ 7)) else false)) else false) fun x45883576 =>
      bnd (V53x0x42002 N x45883576 v7 v10) fun x24487658 =>
      bif x24487658 then
        k0 9
      else
        bnd (G53x0x49 N v4 v7 v12 x60463858.2.2.2.2) fun x69510687 =>
        bif x69510687.isSome then
          bif (x69510687.getD default) then
            k0 4
          else
            bnd (V53x0x57002 N (bif (!x60463858.1) then (v8 != 0) else false) v9 v10 v11 v12 x60463858.2.1 x60463858.2.2.1 x60463858.2.2.2.1 x60463858.2.2.2.2) fun x49449816 =>
            bif x49449816 then
              k0 2
            else
              k0 0
        else
          none
noncomputable def G53x0 (N : Nat) (v1 : Int) (v4 : (List D)) (v7 v8 v9 v10 v11 : Int) (v12 : (List UInt8)) : Option (Int) := F53x0 N v1 v4 v7 v8 v9 v10 v11 v12 (fun p => some p)
theorem bind53x0 (N : Nat) {R : Type} (v1 : Int) (v4 : (List D)) (v7 v8 v9 v10 v11 : Int) (v12 : (List UInt8)) (k0 : Int → Option R) : F53x0 N v1 v4 v7 v8 v9 v10 v11 v12 k0 = (G53x0 N v1 v4 v7 v8 v9 v10 v11 v12).bind k0 := by
  unfold G53x0 F53x0
  repeat' (first | rfl | apply cond_b | (apply bnd_b; intro _))
noncomputable def J53x0 (N : Nat) (L : List Lf) {R : Type} (k0 : Int → Option R) : Option R := F53x0 N (li L 1) (ll L 4) (li L 7) (li L 8) (li L 9) (li L 10) (li L 11) (ls L 12) k0
noncomputable def sh53x0 : Sh := { tmps := [(0, .g [.i .i64, .i .i64, .i .i64, .sl 66, .sl 68]), (1, .g [.i .i64, .i .i64, .i .i64, .i .i64, .i .i64, .s])], mem := [] }
noncomputable def A53x0 (N : Nat) (L : List Lf) : List (Bool × Res) := bnd (J53x0 N L (fun p => some p)) fun q => [(q.isSome, ([.c (.i .i64 (q.getD default))], []))]
theorem raw53x0 (N : Nat) (L : List Lf) : (body Try.prog (T83x0 N) (h53x0s12 N) 200 53 (valsOf (ofSh sh53x0 L).tmps) (ofSh sh53x0 L).mem : Option Res) = J53x0 N L (fun p => some ([.c (.i .i64 p)], [])) := by kernel_rfl
theorem ok53x0 (N : Nat) : ∀ args mem alts, spSh sh53x0 (A53x0 N) args mem = some alts → ∀ res, altK alts some = some res → CallOk Try.prog 53 args mem res :=
  spSh_law fun L x hx => callOk_of (n := 200) progOk (T83x0_ok N) (al53x0s12 N) rfl ((raw53x0 N L).trans ((bind53x0 N ..).trans (alt1 x hx)))
noncomputable def T53x0 (N : Nat) : Oracle := ext 53 (spSh sh53x0 (A53x0 N)) (T83x0 N)
theorem T53x0_ok (N : Nat) : OracleOk Try.prog (T53x0 N) := ext_ok (T83x0_ok N) (enters_of (by kernel_rfl)) (ok53x0 N)
noncomputable def rg19x0 : List (Nat × List Nat) := [(0, [0]), (1, [1]), (3, [1]), (4, []), (2, []), (5, [1]), (6, [39, 38, 37, 1]), (7, [39, 37, 1, 38]), (8, [4, 1, 3, 39, 38, 37]), (10, [1, 4, 3, 39, 38, 37]), (12, [4, 39, 38, 37, 1]), (13, []), (11, []), (9, []), (14, [39, 38, 37, 1]), (15, [1]), (16, [77, 76, 75, 1]), (17, [75, 77, 1, 76]), (18, [1, 6, 77, 76, 75]), (19, [7, 77, 76, 75, 1]), (20, [7]), (21, [77, 76, 75, 1]), (22, [])]
noncomputable def hd19x0 : Hints := [(4, [1], [1], []), (18, [39, 38, 37, 1], [1], []), (37, [4, 39, 38, 37, 1], [4, 1], []), (48, [77, 76, 75, 1], [1], [])]
noncomputable def h19x0s0 (N : Nat) : Hint := { loops := hd19x0, regs := rg19x0, los := [] }
theorem al19x0s0 (N : Nat) : AllCuts Try.prog (h19x0s0 N).los 0 19 := AllCuts.nil
noncomputable def F19x0x4 (N : Nat) {R : Type} (w0 w1 w2 : Int) (k0 : Bool → R) : R :=
  bnd (V48x0 N w0 0 999985) fun x31595385 =>
  bif (!x31595385) then
    k0 true
  else
    bnd (V48x0 N w1 1 14) fun x77965528 =>
    bif (!x77965528) then
      k0 true
    else
      bnd (V48x0 N w2 0 100000) fun x42042982 =>
      k0 (!x42042982)
noncomputable def V19x0x4 (N : Nat) (w0 w1 w2 : Int) : Bool := F19x0x4 N w0 w1 w2 (fun p => p)
theorem tot19x0x4 (N : Nat) {R : Type} (w0 w1 w2 : Int) (k0 : Bool → R) : F19x0x4 N w0 w1 w2 k0 = k0 (V19x0x4 N w0 w1 w2) := by
  unfold V19x0x4 F19x0x4
  repeat' (first | rfl | apply cond_k | (apply bnd_k; intro _))
noncomputable def sh19x0x4 : Sh := { tmps := [(1, .c (.p 1 0))], mem := [(1, .box [.i .i64, .i .i64, .i .i64, .sl 66, .sl 68])] }
noncomputable def K19x0x4w0 (L : List Lf) (p : Bool) : Ex × St := (.normal, ⟨[(1, .c (.p 1 0)), (8, .c (.b p))], [(1, .box [.i .i64 (li L 0), .i .i64 (li L 1), .i .i64 (li L 2), .sl 66 (lb L 3) (ll L 4), .sl 68 (lb L 5) (ll L 6)])]⟩)
noncomputable def A19x0x4 (N : Nat) (L : List Lf) : List (Bool × (Ex × St)) := bnd (F19x0x4 N (li L 0) (li L 1) (li L 2) (fun p => p)) fun q => [(true, K19x0x4w0 L q)]
theorem raw19x0x4 (N : Nat) (L : List Lf) : (exec Try.prog (T53x0 N) (h19x0s0 N) 0 100 (piece Try.prog 19 4) (ofSh sh19x0x4 L) (fun e st => some (e, cutSt [1, 8] [1] st)) : Option (Ex × St)) = F19x0x4 N (li L 0) (li L 1) (li L 2) (fun p => some (K19x0x4w0 L p)) := by kernel_rfl
theorem one19x0x4 : oneB Try.prog 19 4 = true := by kernel_rfl
theorem law19x0x4 (N : Nat) : CutLaw Try.prog 0 (piece Try.prog 19 4) (loSh sh19x0x4 (A19x0x4 N)) :=
  law_sh progOk (T53x0_ok N) (al19x0s0 N) one19x0x4 fun L x hx => (raw19x0x4 N L).trans ((tot19x0x4 N ..).trans (alt0 _ _ hx))
noncomputable def h19x0s1 (N : Nat) : Hint := { (h19x0s0 N) with los := (4, loSh sh19x0x4 (A19x0x4 N)) :: (h19x0s0 N).los }
theorem al19x0s1 (N : Nat) : AllCuts Try.prog (h19x0s1 N).los 0 19 := AllCuts.cons (al19x0s0 N) one19x0x4 (law19x0x4 N)
noncomputable def F19x0x37 (N : Nat) {R : Type} (w12 w13 w14 : Int) (k0 : Bool → R) : R :=
  bnd (V48x0 N w12 0 1000) fun x29281004 =>
  bif (!x29281004) then
    k0 true
  else
    bnd (V48x0 N w13 0 1000) fun x94284342 =>
    bif (!x94284342) then
      k0 true
    else
      bnd (V48x0 N w14 0 1000) fun x97085946 =>
      k0 (!x97085946)
noncomputable def V19x0x37 (N : Nat) (w12 w13 w14 : Int) : Bool := F19x0x37 N w12 w13 w14 (fun p => p)
theorem tot19x0x37 (N : Nat) {R : Type} (w12 w13 w14 : Int) (k0 : Bool → R) : F19x0x37 N w12 w13 w14 k0 = k0 (V19x0x37 N w12 w13 w14) := by
  unfold V19x0x37 F19x0x37
  repeat' (first | rfl | apply cond_k | (apply bnd_k; intro _))
noncomputable def sh19x0x37 : Sh := { tmps := [(1, .c (.p 1 0)), (4, .c (.p 4 0)), (37, .c (.sl 66)), (38, .c (.i .i64)), (39, .c (.i .i64))], mem := [(1, .box [.i .i64, .i .i64, .i .i64, .sl 66, .sl 68]), (4, .box [.s, .i .i64, .i .i64, .i .i64, .b])] }
noncomputable def K19x0x37w0 (L : List Lf) (p : Bool) : Ex × St := (.normal, ⟨[(1, .c (.p 1 0)), (37, .c (.sl 66 (lb L 0) (ll L 1))), (38, .c (.i .i64 (li L 2))), (39, .c (.i .i64 (li L 3))), (56, .c (.b p))], [(1, .box [.i .i64 (li L 4), .i .i64 (li L 5), .i .i64 (li L 6), .sl 66 (lb L 7) (ll L 8), .sl 68 (lb L 9) (ll L 10)])]⟩)
noncomputable def A19x0x37 (N : Nat) (L : List Lf) : List (Bool × (Ex × St)) := bnd (F19x0x37 N (li L 12) (li L 13) (li L 14) (fun p => p)) fun q => [(true, K19x0x37w0 L q)]
theorem raw19x0x37 (N : Nat) (L : List Lf) : (exec Try.prog (T53x0 N) (h19x0s1 N) 0 100 (piece Try.prog 19 37) (ofSh sh19x0x37 L) (fun e st => some (e, cutSt [39, 38, 37, 1, 56] [1] st)) : Option (Ex × St)) = F19x0x37 N (li L 12) (li L 13) (li L 14) (fun p => some (K19x0x37w0 L p)) := by kernel_rfl
theorem one19x0x37 : oneB Try.prog 19 37 = true := by kernel_rfl
theorem law19x0x37 (N : Nat) : CutLaw Try.prog 0 (piece Try.prog 19 37) (loSh sh19x0x37 (A19x0x37 N)) :=
  law_sh progOk (T53x0_ok N) (al19x0s1 N) one19x0x37 fun L x hx => (raw19x0x37 N L).trans ((tot19x0x37 N ..).trans (alt0 _ _ hx))
noncomputable def h19x0s2 (N : Nat) : Hint := { (h19x0s1 N) with los := (37, loSh sh19x0x37 (A19x0x37 N)) :: (h19x0s1 N).los }
theorem al19x0s2 (N : Nat) : AllCuts Try.prog (h19x0s2 N).los 0 19 := AllCuts.cons (al19x0s1 N) one19x0x37 (law19x0x37 N)
noncomputable def P19x0x18 (w0 : Bool) (w1 : (List D)) (w2 w3 w4 w5 w6 : Int) (w7 : Bool) (w8 : (List D)) (w9 : Bool) (w10 : (List D)) : St := ⟨[(1, .c (.p 1 0)), (37, .c (.sl 66 w0 w1)), (38, .c (.i .i64 w2)), (39, .c (.i .i64 w3))], [(1, .box [.i .i64 w4, .i .i64 w5, .i .i64 w6, .sl 66 w7 w8, .sl 68 w9 w10])]⟩
noncomputable def S19x0x18 (N : Nat) {R : Type} (w1 : (List D)) (w2 : Int) (w8 : (List D)) (w3 : Int) (kr : Int → Option R) (k0 : Int → Option R) (k1 : Unit → Option R) : Option R :=
  bif (decide (w3 < w2)) then
    bif (inB w3 w1.length) then
      bnd (G51x0 N ((w1.getD w3.toNat (.i 0)).cell 0).toS) fun x95366834 =>
      bif x95366834.isSome then
        bif (!(x95366834.getD default)) then
          k0 8
        else
          bnd (G52x0 N w8 ((w1.getD w3.toNat (.i 0)).cell 0).toS) fun x41394392 =>
          bif x41394392.isSome then
            bif (decide ((x41394392.getD default) < w3)) then
              k0 5
            else
              bnd (V19x0x37 N ((w1.getD w3.toNat (.i 0)).cell 1).toI ((w1.getD w3.toNat (.i 0)).cell 2).toI ((w1.getD w3.toNat (.i 0)).cell 3).toI) fun x86414169 =>
              bif x86414169 then
                k0 9
              else
                kr (IntKind.wrap .i64 (w3 + 1))
          else
            none
      else
        none
    else
      none
  else
    k1 ()
theorem mono19x0x18 (N : Nat) {R : Type} (w1 : (List D)) (w2 : Int) (w8 : (List D)) (w3 : Int) {kr kr' : Int → Option R} (k0 : Int → Option R) (k1 : Unit → Option R) {r : R} (hk : ∀ w3', kr w3' = some r → kr' w3' = some r) : S19x0x18 N w1 w2 w8 w3 kr k0 k1 = some r → S19x0x18 N w1 w2 w8 w3 kr' k0 k1 = some r := by
  unfold S19x0x18
  repeat' (first | exact hk _ | exact fun h => h | apply cond_mono | (apply bnd_mono; intro _))
noncomputable def L19x0x18 (N : Nat) {R : Type} (w1 : (List D)) (w2 : Int) (w8 : (List D)) : Nat → Int → (Int → Option R) → (Unit → Option R) → Option R
  | 0, _, _, _ => none
  | m + 1, w3, k0, k1 => S19x0x18 N w1 w2 w8 w3 (fun w3 => L19x0x18 N w1 w2 w8 m w3 k0 k1) k0 k1
theorem lp19x0x18 : piece Try.prog 19 18 = .loop (loopB (piece Try.prog 19 18)) := by kernel_rfl
theorem nl19x0x18 (N : Nat) : lawOf (h19x0s2 N) (.loop (loopB (piece Try.prog 19 18))) = none := by kernel_rfl
theorem cl19x0x18 (N : Nat) (w0 : Bool) (w1 : (List D)) (w2 w4 w5 w6 : Int) (w7 : Bool) (w8 : (List D)) (w9 : Bool) (w10 : (List D)) (w3 : Int) : clearSt Try.prog 0 (h19x0s2 N).loops 18 (P19x0x18 w0 w1 w2 w3 w4 w5 w6 w7 w8 w9 w10) = (P19x0x18 w0 w1 w2 w3 w4 w5 w6 w7 w8 w9 w10) := by kernel_rfl
theorem step19x0x18 (N : Nat) (m : Nat) (kn : St → Option (Ex × St)) (w0 : Bool) (w1 : (List D)) (w2 w4 w5 w6 : Int) (w7 : Bool) (w8 : (List D)) (w9 : Bool) (w10 : (List D)) (w3 : Int) : exec Try.prog (T53x0 N) (h19x0s2 N) 0 (m + 100) (loopB (piece Try.prog 19 18)) (P19x0x18 w0 w1 w2 w3 w4 w5 w6 w7 w8 w9 w10) (reK (fun st => kn (clearSt Try.prog 0 (h19x0s2 N).loops 18 st)) (fun e st => some (e, cutSt [2, 1] [1] st))) = S19x0x18 N w1 w2 w8 w3 (fun w3 => kn (P19x0x18 w0 w1 w2 w3 w4 w5 w6 w7 w8 w9 w10)) (fun p => some (.ret, ⟨[(2, .c (.i .i64 p))], [(1, .box [.i .i64 w4, .i .i64 w5, .i .i64 w6, .sl 66 w7 w8, .sl 68 w9 w10])]⟩)) (fun p => some ((.exit 1), ⟨[(1, .c (.p 1 0))], [(1, .box [.i .i64 w4, .i .i64 w5, .i .i64 w6, .sl 66 w7 w8, .sl 68 w9 w10])]⟩)) := by kernel_rfl
theorem run19x0x18 (N : Nat) (w0 : Bool) (w1 : (List D)) (w2 w4 w5 w6 : Int) (w7 : Bool) (w8 : (List D)) (w9 : Bool) (w10 : (List D)) : ∀ (m : Nat) (w3 : Int) (x : Ex × St), L19x0x18 N w1 w2 w8 m w3 (fun p => some (.ret, ⟨[(2, .c (.i .i64 p))], [(1, .box [.i .i64 w4, .i .i64 w5, .i .i64 w6, .sl 66 w7 w8, .sl 68 w9 w10])]⟩)) (fun p => some ((.exit 1), ⟨[(1, .c (.p 1 0))], [(1, .box [.i .i64 w4, .i .i64 w5, .i .i64 w6, .sl 66 w7 w8, .sl 68 w9 w10])]⟩)) = some x → exec Try.prog (T53x0 N) (h19x0s2 N) 0 (m + 101) (.loop (loopB (piece Try.prog 19 18))) (P19x0x18 w0 w1 w2 w3 w4 w5 w6 w7 w8 w9 w10) (fun e st => some (e, cutSt [2, 1] [1] st)) = some x := by
  intro m
  induction m with
  | zero => intro w3 x h; cases h
  | succ m ih =>
    intro w3 x h
    exact loop_round (n := m + 101) (nl19x0x18 N) (by kernel_rfl) (cl19x0x18 N ..) (fun kn => step19x0x18 N (m + 1) kn ..) (mono19x0x18 N _ _ _ _ _ _ (fun w3 => ih w3 x) h)
noncomputable def G19x0x18 (N : Nat) (w1 : (List D)) (w2 : Int) (w8 : (List D)) (w3 : Int) : Option (Sum (Int) (Unit)) := L19x0x18 N (R := (Sum (Int) (Unit))) w1 w2 w8 N w3 (fun p => some (.inl p)) (fun p => some (.inr p))
theorem sb19x0x18 (N : Nat) {R A : Type} (w1 : (List D)) (w2 : Int) (w8 : (List D)) (w3 : Int) (kr : Int → Option R) (kr' : Int → Option A) (k0 : Int → Option R) (k1 : Unit → Option R) (j0 : Int → Option A) (j1 : Unit → Option A) (K : A → Option R) (hr : ∀ w3', kr w3' = (kr' w3').bind K) (h0 : ∀ p, k0 p = (j0 p).bind K) (h1 : ∀ p, k1 p = (j1 p).bind K) : S19x0x18 N w1 w2 w8 w3 kr k0 k1 = (S19x0x18 N w1 w2 w8 w3 kr' j0 j1).bind K := by
  unfold S19x0x18
  repeat' (first | rfl | apply hr | apply h0 | apply h1 | apply cond_b | (apply bnd_b; intro _))
theorem lbind19x0x18 (N : Nat) {R : Type} (w1 : (List D)) (w2 : Int) (w8 : (List D)) : ∀ (m : Nat) (w3 : Int) (k0 : Int → Option R) (k1 : Unit → Option R), L19x0x18 N w1 w2 w8 m w3 k0 k1 = (L19x0x18 N (R := (Sum (Int) (Unit))) w1 w2 w8 m w3 (fun p => some (.inl p)) (fun p => some (.inr p))).bind (sumE k0 k1) := by
  intro m
  induction m with
  | zero => intros; rfl
  | succ m ih =>
    intro w3 k0 k1
    exact sb19x0x18 N _ _ _ _ _ _ _ _ _ _ _ (fun w3 => ih w3 k0 k1) (fun _ => rfl) (fun _ => rfl)
theorem one19x0x18 : oneB Try.prog 19 18 = true := by kernel_rfl
noncomputable def sh19x0x18 : Sh := { tmps := [(1, .c (.p 1 0)), (37, .c (.sl 66)), (38, .c (.i .i64)), (39, .c (.i .i64))], mem := [(1, .box [.i .i64, .i .i64, .i .i64, .sl 66, .sl 68])] }
noncomputable def K19x0x18w0 (L : List Lf) (p : Int) : Ex × St := (.ret, ⟨[(2, .c (.i .i64 p))], [(1, .box [.i .i64 (li L 4), .i .i64 (li L 5), .i .i64 (li L 6), .sl 66 (lb L 7) (ll L 8), .sl 68 (lb L 9) (ll L 10)])]⟩)
noncomputable def K19x0x18w1 (L : List Lf) (_ : Unit) : Ex × St := ((.exit 1), ⟨[(1, .c (.p 1 0))], [(1, .box [.i .i64 (li L 4), .i .i64 (li L 5), .i .i64 (li L 6), .sl 66 (lb L 7) (ll L 8), .sl 68 (lb L 9) (ll L 10)])]⟩)
noncomputable def A19x0x18 (N : Nat) (L : List Lf) : List (Bool × (Ex × St)) := bnd (G19x0x18 N (ll L 1) (li L 2) (ll L 8) (li L 3)) fun q => [((inlB q), K19x0x18w0 L (inlV q)), ((inrQ q).isSome, K19x0x18w1 L ())]
theorem eq19x0x18 (L : List Lf) : ofSh sh19x0x18 L = (P19x0x18 (lb L 0) (ll L 1) (li L 2) (li L 3) (li L 4) (li L 5) (li L 6) (lb L 7) (ll L 8) (lb L 9) (ll L 10)) := by kernel_rfl
theorem law19x0x18 (N : Nat) : CutLaw Try.prog 0 (piece Try.prog 19 18) (loSh sh19x0x18 (A19x0x18 N)) :=
  law_shL progOk (T53x0_ok N) (al19x0s2 N) one19x0x18 lp19x0x18 eq19x0x18 fun L x hx => run19x0x18 N _ _ _ _ _ _ _ _ _ _ N _ x ((lbind19x0x18 N _ _ _ N _ _ _).trans ((altS alt1) x hx))
noncomputable def h19x0s3 (N : Nat) : Hint := { (h19x0s2 N) with los := (18, loSh sh19x0x18 (A19x0x18 N)) :: (h19x0s2 N).los }
theorem al19x0s3 (N : Nat) : AllCuts Try.prog (h19x0s3 N).los 0 19 := AllCuts.cons (al19x0s2 N) one19x0x18 (law19x0x18 N)
noncomputable def P19x0x48 (w0 : Bool) (w1 : (List D)) (w2 w3 w4 w5 w6 : Int) (w7 : Bool) (w8 : (List D)) (w9 : Bool) (w10 : (List D)) : St := ⟨[(1, .c (.p 1 0)), (75, .c (.sl 68 w0 w1)), (76, .c (.i .i64 w2)), (77, .c (.i .i64 w3))], [(1, .box [.i .i64 w4, .i .i64 w5, .i .i64 w6, .sl 66 w7 w8, .sl 68 w9 w10])]⟩
noncomputable def S19x0x48 (N : Nat) {R : Type} (w1 : (List D)) (w2 w5 : Int) (w8 : (List D)) (w3 : Int) (kr : Int → Option R) (k0 : Int → Option R) (k1 : Unit → Option R) : Option R :=
  bif (decide (w3 < w2)) then
    bif (inB w3 w1.length) then
      bnd (G53x0 N w5 w8 ((w1.getD w3.toNat (.i 0)).cell 0).toI ((w1.getD w3.toNat (.i 0)).cell 1).toI ((w1.getD w3.toNat (.i 0)).cell 2).toI ((w1.getD w3.toNat (.i 0)).cell 3).toI ((w1.getD w3.toNat (.i 0)).cell 4).toI ((w1.getD w3.toNat (.i 0)).cell 5).toS) fun x61046025 =>
      bif x61046025.isSome then
        bif ((x61046025.getD default) != 0) then
          k0 (x61046025.getD default)
        else
          kr (IntKind.wrap .i64 (w3 + 1))
      else
        none
    else
      none
  else
    k1 ()
theorem mono19x0x48 (N : Nat) {R : Type} (w1 : (List D)) (w2 w5 : Int) (w8 : (List D)) (w3 : Int) {kr kr' : Int → Option R} (k0 : Int → Option R) (k1 : Unit → Option R) {r : R} (hk : ∀ w3', kr w3' = some r → kr' w3' = some r) : S19x0x48 N w1 w2 w5 w8 w3 kr k0 k1 = some r → S19x0x48 N w1 w2 w5 w8 w3 kr' k0 k1 = some r := by
  unfold S19x0x48
  repeat' (first | exact hk _ | exact fun h => h | apply cond_mono | (apply bnd_mono; intro _))
noncomputable def L19x0x48 (N : Nat) {R : Type} (w1 : (List D)) (w2 w5 : Int) (w8 : (List D)) : Nat → Int → (Int → Option R) → (Unit → Option R) → Option R
  | 0, _, _, _ => none
  | m + 1, w3, k0, k1 => S19x0x48 N w1 w2 w5 w8 w3 (fun w3 => L19x0x48 N w1 w2 w5 w8 m w3 k0 k1) k0 k1
theorem lp19x0x48 : piece Try.prog 19 48 = .loop (loopB (piece Try.prog 19 48)) := by kernel_rfl
theorem nl19x0x48 (N : Nat) : lawOf (h19x0s3 N) (.loop (loopB (piece Try.prog 19 48))) = none := by kernel_rfl
theorem cl19x0x48 (N : Nat) (w0 : Bool) (w1 : (List D)) (w2 w4 w5 w6 : Int) (w7 : Bool) (w8 : (List D)) (w9 : Bool) (w10 : (List D)) (w3 : Int) : clearSt Try.prog 0 (h19x0s3 N).loops 48 (P19x0x48 w0 w1 w2 w3 w4 w5 w6 w7 w8 w9 w10) = (P19x0x48 w0 w1 w2 w3 w4 w5 w6 w7 w8 w9 w10) := by kernel_rfl
theorem step19x0x48 (N : Nat) (m : Nat) (kn : St → Option (Ex × St)) (w0 : Bool) (w1 : (List D)) (w2 w4 w5 w6 : Int) (w7 : Bool) (w8 : (List D)) (w9 : Bool) (w10 : (List D)) (w3 : Int) : exec Try.prog (T53x0 N) (h19x0s3 N) 0 (m + 100) (loopB (piece Try.prog 19 48)) (P19x0x48 w0 w1 w2 w3 w4 w5 w6 w7 w8 w9 w10) (reK (fun st => kn (clearSt Try.prog 0 (h19x0s3 N).loops 48 st)) (fun e st => some (e, cutSt [2] [] st))) = S19x0x48 N w1 w2 w5 w8 w3 (fun w3 => kn (P19x0x48 w0 w1 w2 w3 w4 w5 w6 w7 w8 w9 w10)) (fun p => some (.ret, ⟨[(2, .c (.i .i64 p))], []⟩)) (fun p => some ((.exit 4), ⟨[], []⟩)) := by kernel_rfl
theorem run19x0x48 (N : Nat) (w0 : Bool) (w1 : (List D)) (w2 w4 w5 w6 : Int) (w7 : Bool) (w8 : (List D)) (w9 : Bool) (w10 : (List D)) : ∀ (m : Nat) (w3 : Int) (x : Ex × St), L19x0x48 N w1 w2 w5 w8 m w3 (fun p => some (.ret, ⟨[(2, .c (.i .i64 p))], []⟩)) (fun p => some ((.exit 4), ⟨[], []⟩)) = some x → exec Try.prog (T53x0 N) (h19x0s3 N) 0 (m + 101) (.loop (loopB (piece Try.prog 19 48))) (P19x0x48 w0 w1 w2 w3 w4 w5 w6 w7 w8 w9 w10) (fun e st => some (e, cutSt [2] [] st)) = some x := by
  intro m
  induction m with
  | zero => intro w3 x h; cases h
  | succ m ih =>
    intro w3 x h
    exact loop_round (n := m + 101) (nl19x0x48 N) (by kernel_rfl) (cl19x0x48 N ..) (fun kn => step19x0x48 N (m + 1) kn ..) (mono19x0x48 N _ _ _ _ _ _ _ (fun w3 => ih w3 x) h)
noncomputable def G19x0x48 (N : Nat) (w1 : (List D)) (w2 w5 : Int) (w8 : (List D)) (w3 : Int) : Option (Sum (Int) (Unit)) := L19x0x48 N (R := (Sum (Int) (Unit))) w1 w2 w5 w8 N w3 (fun p => some (.inl p)) (fun p => some (.inr p))
theorem sb19x0x48 (N : Nat) {R A : Type} (w1 : (List D)) (w2 w5 : Int) (w8 : (List D)) (w3 : Int) (kr : Int → Option R) (kr' : Int → Option A) (k0 : Int → Option R) (k1 : Unit → Option R) (j0 : Int → Option A) (j1 : Unit → Option A) (K : A → Option R) (hr : ∀ w3', kr w3' = (kr' w3').bind K) (h0 : ∀ p, k0 p = (j0 p).bind K) (h1 : ∀ p, k1 p = (j1 p).bind K) : S19x0x48 N w1 w2 w5 w8 w3 kr k0 k1 = (S19x0x48 N w1 w2 w5 w8 w3 kr' j0 j1).bind K := by
  unfold S19x0x48
  repeat' (first | rfl | apply hr | apply h0 | apply h1 | apply cond_b | (apply bnd_b; intro _))
theorem lbind19x0x48 (N : Nat) {R : Type} (w1 : (List D)) (w2 w5 : Int) (w8 : (List D)) : ∀ (m : Nat) (w3 : Int) (k0 : Int → Option R) (k1 : Unit → Option R), L19x0x48 N w1 w2 w5 w8 m w3 k0 k1 = (L19x0x48 N (R := (Sum (Int) (Unit))) w1 w2 w5 w8 m w3 (fun p => some (.inl p)) (fun p => some (.inr p))).bind (sumE k0 k1) := by
  intro m
  induction m with
  | zero => intros; rfl
  | succ m ih =>
    intro w3 k0 k1
    exact sb19x0x48 N _ _ _ _ _ _ _ _ _ _ _ _ (fun w3 => ih w3 k0 k1) (fun _ => rfl) (fun _ => rfl)
theorem one19x0x48 : oneB Try.prog 19 48 = true := by kernel_rfl
noncomputable def sh19x0x48 : Sh := { tmps := [(1, .c (.p 1 0)), (75, .c (.sl 68)), (76, .c (.i .i64)), (77, .c (.i .i64))], mem := [(1, .box [.i .i64, .i .i64, .i .i64, .sl 66, .sl 68])] }
noncomputable def A19x0x48 (N : Nat) (L : List Lf) : List (Bool × (Ex × St)) := bnd (G19x0x48 N (ll L 1) (li L 2) (li L 5) (ll L 8) (li L 3)) fun q => [((inlB q), (.ret, ⟨[(2, .c (.i .i64 (inlV q)))], []⟩)), ((inrQ q).isSome, ((.exit 4), ⟨[], []⟩))]
theorem eq19x0x48 (L : List Lf) : ofSh sh19x0x48 L = (P19x0x48 (lb L 0) (ll L 1) (li L 2) (li L 3) (li L 4) (li L 5) (li L 6) (lb L 7) (ll L 8) (lb L 9) (ll L 10)) := by kernel_rfl
theorem law19x0x48 (N : Nat) : CutLaw Try.prog 0 (piece Try.prog 19 48) (loSh sh19x0x48 (A19x0x48 N)) :=
  law_shL progOk (T53x0_ok N) (al19x0s3 N) one19x0x48 lp19x0x48 eq19x0x48 fun L x hx => run19x0x48 N _ _ _ _ _ _ _ _ _ _ N _ x ((lbind19x0x48 N _ _ _ _ N _ _ _).trans ((altS alt1) x hx))
noncomputable def h19x0s4 (N : Nat) : Hint := { (h19x0s3 N) with los := (48, loSh sh19x0x48 (A19x0x48 N)) :: (h19x0s3 N).los }
theorem al19x0s4 (N : Nat) : AllCuts Try.prog (h19x0s4 N).los 0 19 := AllCuts.cons (al19x0s3 N) one19x0x48 (law19x0x48 N)
noncomputable def F19x0 (N : Nat) {R : Type} (v0 v1 v2 : Int) (v4 v6 : (List D)) (k0 : Int → Option R) : Option R :=
  bnd (V19x0x4 N v0 v1 v2) fun x96454571 =>
  bif x96454571 then
    k0 9
  else
    bnd (bif (decide ((v4.length : Int) > 4)) then true else (decide ((v6.length : Int) > 12))) fun x65452148 =>
    bif x65452148 then
      k0 3
    else
      bnd (G19x0x18 N v4 (v4.length : Int) v4 0) fun x41693841 =>
      bif (inlB x41693841) then
        k0 (inlV x41693841)
      else
        bif (inrQ x41693841).isSome then
          bnd (G19x0x48 N v6 (v6.length : Int) v1 v4 0) fun x28562210 =>
          bif (inlB x28562210) then
            k0 (inlV x28562210)
          else
            bif (inrQ x28562210).isSome then
              k0 0
            else
              none
        else
          none
noncomputable def G19x0 (N : Nat) (v0 v1 v2 : Int) (v4 v6 : (List D)) : Option (Int) := F19x0 N v0 v1 v2 v4 v6 (fun p => some p)
theorem bind19x0 (N : Nat) {R : Type} (v0 v1 v2 : Int) (v4 v6 : (List D)) (k0 : Int → Option R) : F19x0 N v0 v1 v2 v4 v6 k0 = (G19x0 N v0 v1 v2 v4 v6).bind k0 := by
  unfold G19x0 F19x0
  repeat' (first | rfl | apply cond_b | (apply bnd_b; intro _))
noncomputable def J19x0 (N : Nat) (L : List Lf) {R : Type} (k0 : Int → Option R) : Option R := F19x0 N (li L 0) (li L 1) (li L 2) (ll L 4) (ll L 6) k0
noncomputable def sh19x0 : Sh := { tmps := [(0, .g [.i .i64, .i .i64, .i .i64, .sl 66, .sl 68])], mem := [] }
noncomputable def A19x0 (N : Nat) (L : List Lf) : List (Bool × Res) := bnd (J19x0 N L (fun p => some p)) fun q => [(q.isSome, ([.c (.i .i64 (q.getD default))], []))]
theorem raw19x0 (N : Nat) (L : List Lf) : (body Try.prog (T53x0 N) (h19x0s4 N) 200 19 (valsOf (ofSh sh19x0 L).tmps) (ofSh sh19x0 L).mem : Option Res) = J19x0 N L (fun p => some ([.c (.i .i64 p)], [])) := by kernel_rfl
theorem ok19x0 (N : Nat) : ∀ args mem alts, spSh sh19x0 (A19x0 N) args mem = some alts → ∀ res, altK alts some = some res → CallOk Try.prog 19 args mem res :=
  spSh_law fun L x hx => callOk_of (n := 200) progOk (T53x0_ok N) (al19x0s4 N) rfl ((raw19x0 N L).trans ((bind19x0 N ..).trans (alt1 x hx)))
noncomputable def T19x0 (N : Nat) : Oracle := ext 19 (spSh sh19x0 (A19x0 N)) (T53x0 N)
theorem T19x0_ok (N : Nat) : OracleOk Try.prog (T19x0 N) := ext_ok (T53x0_ok N) (enters_of (by kernel_rfl)) (ok19x0 N)
noncomputable def rg49x0 : List (Nat × List Nat) := [(0, [0, 1]), (1, [2, 1])]
noncomputable def hd49x0 : Hints := []
noncomputable def h49x0s0 (N : Nat) : Hint := { loops := hd49x0, regs := rg49x0, los := [] }
theorem al49x0s0 (N : Nat) : AllCuts Try.prog (h49x0s0 N).los 0 49 := AllCuts.nil
noncomputable def F49x0 (N : Nat) {R : Type} (v0 v7 : Int) (k0 : Int → R) : R :=
  k0 ((IntKind.wrap .i64 (v0 + v7)).tmod 7)
noncomputable def V49x0 (N : Nat) (v0 v7 : Int) : Int := F49x0 N v0 v7 (fun p => p)
theorem tot49x0 (N : Nat) {R : Type} (v0 v7 : Int) (k0 : Int → R) : F49x0 N v0 v7 k0 = k0 (V49x0 N v0 v7) := by
  unfold V49x0 F49x0
  repeat' (first | rfl | apply cond_k | (apply bnd_k; intro _))
noncomputable def sh49x0 : Sh := { tmps := [(0, .g [.i .i64, .i .i64, .i .i64, .sl 66, .sl 68]), (1, .c (.i .i64))], mem := [] }
noncomputable def A49x0 (N : Nat) (L : List Lf) : List (Bool × Res) := bnd (F49x0 N (li L 0) (li L 7) (fun p => p)) fun q => [(true, ([.c (.i .i64 q)], []))]
theorem raw49x0 (N : Nat) (L : List Lf) : (body Try.prog (T19x0 N) (h49x0s0 N) 200 49 (valsOf (ofSh sh49x0 L).tmps) (ofSh sh49x0 L).mem : Option Res) = F49x0 N (li L 0) (li L 7) (fun p => some ([.c (.i .i64 p)], [])) := by kernel_rfl
theorem ok49x0 (N : Nat) : ∀ args mem alts, spSh sh49x0 (A49x0 N) args mem = some alts → ∀ res, altK alts some = some res → CallOk Try.prog 49 args mem res :=
  spSh_law fun L x hx => callOk_of (n := 200) progOk (T19x0_ok N) (al49x0s0 N) rfl ((raw49x0 N L).trans ((tot49x0 N ..).trans (alt0 _ _ hx)))
noncomputable def T49x0 (N : Nat) : Oracle := ext 49 (spSh sh49x0 (A49x0 N)) (T19x0 N)
theorem T49x0_ok (N : Nat) : OracleOk Try.prog (T49x0 N) := ext_ok (T19x0_ok N) (enters_of (by kernel_rfl)) (ok49x0 N)
noncomputable def rg17x0 : List (Nat × List Nat) := [(0, [0, 1]), (1, [2, 1]), (2, [6, 1, 2]), (3, [6]), (4, [1, 2]), (5, []), (6, [2, 1])]
noncomputable def hd17x0 : Hints := []
noncomputable def h17x0s0 (N : Nat) : Hint := { loops := hd17x0, regs := rg17x0, los := [] }
theorem al17x0s0 (N : Nat) : AllCuts Try.prog (h17x0s0 N).los 0 17 := AllCuts.nil
noncomputable def F17x0 (N : Nat) {R : Type} (v0 v1 v2 : Int) (v4 v6 : (List D)) (v7 : Int) (k0 : Int × Int → Option R) : Option R :=
  bnd (G19x0 N v0 v1 v2 v4 v6) fun x62429361 =>
  bif x62429361.isSome then
    bif ((x62429361.getD default) != 0) then
      k0 (0, (x62429361.getD default))
    else
      bnd (V48x0 N v7 0 (IntKind.wrap .i64 (v1 - 1))) fun x30713592 =>
      bif (!x30713592) then
        k0 (0, 9)
      else
        bnd (V49x0 N v0 v7) fun x82675360 =>
        k0 (x82675360, 0)
  else
    none
noncomputable def G17x0 (N : Nat) (v0 v1 v2 : Int) (v4 v6 : (List D)) (v7 : Int) : Option (Int × Int) := F17x0 N v0 v1 v2 v4 v6 v7 (fun p => some p)
theorem bind17x0 (N : Nat) {R : Type} (v0 v1 v2 : Int) (v4 v6 : (List D)) (v7 : Int) (k0 : Int × Int → Option R) : F17x0 N v0 v1 v2 v4 v6 v7 k0 = (G17x0 N v0 v1 v2 v4 v6 v7).bind k0 := by
  unfold G17x0 F17x0
  repeat' (first | rfl | apply cond_b | (apply bnd_b; intro _))
noncomputable def J17x0 (N : Nat) (L : List Lf) {R : Type} (k0 : Int × Int → Option R) : Option R := F17x0 N (li L 0) (li L 1) (li L 2) (ll L 4) (ll L 6) (li L 7) k0
noncomputable def sh17x0 : Sh := { tmps := [(0, .g [.i .i64, .i .i64, .i .i64, .sl 66, .sl 68]), (1, .c (.i .i64))], mem := [] }
noncomputable def A17x0 (N : Nat) (L : List Lf) : List (Bool × Res) := bnd (J17x0 N L (fun p => some p)) fun q => [(q.isSome, ([.c (.i .i64 (q.getD default).1), .c (.i .i64 (q.getD default).2)], []))]
theorem raw17x0 (N : Nat) (L : List Lf) : (body Try.prog (T49x0 N) (h17x0s0 N) 200 17 (valsOf (ofSh sh17x0 L).tmps) (ofSh sh17x0 L).mem : Option Res) = J17x0 N L (fun p => some ([.c (.i .i64 p.1), .c (.i .i64 p.2)], [])) := by kernel_rfl
theorem ok17x0 (N : Nat) : ∀ args mem alts, spSh sh17x0 (A17x0 N) args mem = some alts → ∀ res, altK alts some = some res → CallOk Try.prog 17 args mem res :=
  spSh_law fun L x hx => callOk_of (n := 200) progOk (T49x0_ok N) (al17x0s0 N) rfl ((raw17x0 N L).trans ((bind17x0 N ..).trans (alt1 x hx)))
noncomputable def T17x0 (N : Nat) : Oracle := ext 17 (spSh sh17x0 (A17x0 N)) (T49x0 N)
theorem T17x0_ok (N : Nat) : OracleOk Try.prog (T17x0 N) := ext_ok (T49x0_ok N) (enters_of (by kernel_rfl)) (ok17x0 N)
noncomputable def rg50x0 : List (Nat × List Nat) := [(0, [0, 1, 2]), (1, [0, 1, 2])]
noncomputable def hd50x0 : Hints := []
noncomputable def h50x0s0 (N : Nat) : Hint := { loops := hd50x0, regs := rg50x0, los := [] }
theorem al50x0s0 (N : Nat) : AllCuts Try.prog (h50x0s0 N).los 0 50 := AllCuts.nil
noncomputable def F50x0 (N : Nat) {R : Type} (v0 v1 v2 : Int) (k0 : Bool → R) : R :=
  k0 (bif (decide (v0 < v1)) then true else (decide (v0 > v2)))
noncomputable def V50x0 (N : Nat) (v0 v1 v2 : Int) : Bool := F50x0 N v0 v1 v2 (fun p => p)
theorem tot50x0 (N : Nat) {R : Type} (v0 v1 v2 : Int) (k0 : Bool → R) : F50x0 N v0 v1 v2 k0 = k0 (V50x0 N v0 v1 v2) := by
  unfold V50x0 F50x0
  repeat' (first | rfl | apply cond_k | (apply bnd_k; intro _))
noncomputable def sh50x0 : Sh := { tmps := [(0, .c (.i .i64)), (1, .c (.i .i64)), (2, .c (.i .i64))], mem := [] }
noncomputable def A50x0 (N : Nat) (L : List Lf) : List (Bool × Res) := bnd (F50x0 N (li L 0) (li L 1) (li L 2) (fun p => p)) fun q => [(true, ([.c (.b q)], []))]
theorem raw50x0 (N : Nat) (L : List Lf) : (body Try.prog (T17x0 N) (h50x0s0 N) 200 50 (valsOf (ofSh sh50x0 L).tmps) (ofSh sh50x0 L).mem : Option Res) = F50x0 N (li L 0) (li L 1) (li L 2) (fun p => some ([.c (.b p)], [])) := by kernel_rfl
theorem ok50x0 (N : Nat) : ∀ args mem alts, spSh sh50x0 (A50x0 N) args mem = some alts → ∀ res, altK alts some = some res → CallOk Try.prog 50 args mem res :=
  spSh_law fun L x hx => callOk_of (n := 200) progOk (T17x0_ok N) (al50x0s0 N) rfl ((raw50x0 N L).trans ((tot50x0 N ..).trans (alt0 _ _ hx)))
noncomputable def T50x0 (N : Nat) : Oracle := ext 50 (spSh sh50x0 (A50x0 N)) (T17x0 N)
theorem T50x0_ok (N : Nat) : OracleOk Try.prog (T50x0 N) := ext_ok (T17x0_ok N) (enters_of (by kernel_rfl)) (ok50x0 N)
noncomputable def rg54x0 : List (Nat × List Nat) := [(0, [0]), (1, [0]), (2, [3, 0]), (4, [0, 3]), (5, [4, 3, 0]), (6, []), (3, [3, 0]), (7, [0])]
noncomputable def hd54x0 : Hints := [(6, [3, 0], [], [])]
noncomputable def h54x0s0 (N : Nat) : Hint := { loops := hd54x0, regs := rg54x0, los := [] }
theorem al54x0s0 (N : Nat) : AllCuts Try.prog (h54x0s0 N).los 0 54 := AllCuts.nil
noncomputable def S54x0x6 (N : Nat) {R : Type} (w0 : (List UInt8)) (w1 : Int) (kr : Int → Option R) (k0 : Unit → Option R) (k1 : Unit → Option R) : Option R :=
  bif (decide (w1 < (w0.length : Int))) then
    bif (inB w1 w0.length) then
      bnd (bif (decide (((w0.getD w1.toNat 0).toNat : Int) ≥ 97)) then (decide (((w0.getD w1.toNat 0).toNat : Int) ≤ 122)) else false) fun x43821019 =>
      bnd (bif x43821019 then true else (bif (decide (((w0.getD w1.toNat 0).toNat : Int) ≥ 65)) then (decide (((w0.getD w1.toNat 0).toNat : Int) ≤ 90)) else false)) fun x65195296 =>
      bnd (bif x65195296 then true else (bif (decide (((w0.getD w1.toNat 0).toNat : Int) ≥ 48)) then (decide (((w0.getD w1.toNat 0).toNat : Int) ≤ 57)) else false)) fun x33847297 =>
      bnd (bif x33847297 then true else (((w0.getD w1.toNat 0).toNat : Int) == 45)) fun x13284537 =>
      bnd (bif x13284537 then true else (((w0.getD w1.toNat 0).toNat : Int) == 95)) fun x6232623 =>
      bnd (bif x6232623 then true else (((w0.getD w1.toNat 0).toNat : Int) == 46)) fun x71192643 =>
      bif (!x71192643) then
        k0 ()
      else
        kr (IntKind.wrap .i64 (w1 + 1))
    else
      none
  else
    k1 ()
theorem mono54x0x6 (N : Nat) {R : Type} (w0 : (List UInt8)) (w1 : Int) {kr kr' : Int → Option R} (k0 : Unit → Option R) (k1 : Unit → Option R) {r : R} (hk : ∀ w1', kr w1' = some r → kr' w1' = some r) : S54x0x6 N w0 w1 kr k0 k1 = some r → S54x0x6 N w0 w1 kr' k0 k1 = some r := by
  unfold S54x0x6
  repeat' (first | exact hk _ | exact fun h => h | apply cond_mono | (apply bnd_mono; intro _))
noncomputable def L54x0x6 (N : Nat) {R : Type} (w0 : (List UInt8)) : Nat → Int → (Unit → Option R) → (Unit → Option R) → Option R
  | 0, _, _, _ => none
  | m + 1, w1, k0, k1 => S54x0x6 N w0 w1 (fun w1 => L54x0x6 N w0 m w1 k0 k1) k0 k1
theorem lp54x0x6 : piece Try.prog 54 6 = .loop (loopB (piece Try.prog 54 6)) := by kernel_rfl
theorem nl54x0x6 (N : Nat) : lawOf (h54x0s0 N) (.loop (loopB (piece Try.prog 54 6))) = none := by kernel_rfl
theorem cl54x0x6 (N : Nat) (w0 : (List UInt8)) (w1 : Int) : clearSt Try.prog 0 (h54x0s0 N).loops 6 ⟨[(0, .c (.s w0)), (3, .c (.i .i64 w1))], []⟩ = ⟨[(0, .c (.s w0)), (3, .c (.i .i64 w1))], []⟩ := by kernel_rfl
theorem step54x0x6 (N : Nat) (m : Nat) (kn : St → Option (Ex × St)) (w0 : (List UInt8)) (w1 : Int) : exec Try.prog (T50x0 N) (h54x0s0 N) 0 (m + 100) (loopB (piece Try.prog 54 6)) ⟨[(0, .c (.s w0)), (3, .c (.i .i64 w1))], []⟩ (reK (fun st => kn (clearSt Try.prog 0 (h54x0s0 N).loops 6 st)) (fun e st => some (e, cutSt [2, 0] [] st))) = S54x0x6 N w0 w1 (fun w1 => kn ⟨[(0, .c (.s w0)), (3, .c (.i .i64 w1))], []⟩) (fun p => some (.ret, ⟨[(2, .c (.b false))], []⟩)) (fun p => some ((.exit 0), ⟨[(0, .c (.s w0))], []⟩)) := by kernel_rfl
theorem run54x0x6 (N : Nat) (w0 : (List UInt8)) : ∀ (m : Nat) (w1 : Int) (x : Ex × St), L54x0x6 N w0 m w1 (fun p => some (.ret, ⟨[(2, .c (.b false))], []⟩)) (fun p => some ((.exit 0), ⟨[(0, .c (.s w0))], []⟩)) = some x → exec Try.prog (T50x0 N) (h54x0s0 N) 0 (m + 101) (.loop (loopB (piece Try.prog 54 6))) ⟨[(0, .c (.s w0)), (3, .c (.i .i64 w1))], []⟩ (fun e st => some (e, cutSt [2, 0] [] st)) = some x := by
  intro m
  induction m with
  | zero => intro w1 x h; cases h
  | succ m ih =>
    intro w1 x h
    exact loop_round (n := m + 101) (nl54x0x6 N) (by kernel_rfl) (cl54x0x6 N ..) (fun kn => step54x0x6 N (m + 1) kn ..) (mono54x0x6 N _ _ _ _ (fun w1 => ih w1 x) h)
noncomputable def G54x0x6 (N : Nat) (w0 : (List UInt8)) (w1 : Int) : Option (Sum (Unit) (Unit)) := L54x0x6 N (R := (Sum (Unit) (Unit))) w0 N w1 (fun p => some (.inl p)) (fun p => some (.inr p))
theorem sb54x0x6 (N : Nat) {R A : Type} (w0 : (List UInt8)) (w1 : Int) (kr : Int → Option R) (kr' : Int → Option A) (k0 : Unit → Option R) (k1 : Unit → Option R) (j0 : Unit → Option A) (j1 : Unit → Option A) (K : A → Option R) (hr : ∀ w1', kr w1' = (kr' w1').bind K) (h0 : ∀ p, k0 p = (j0 p).bind K) (h1 : ∀ p, k1 p = (j1 p).bind K) : S54x0x6 N w0 w1 kr k0 k1 = (S54x0x6 N w0 w1 kr' j0 j1).bind K := by
  unfold S54x0x6
  repeat' (first | rfl | apply hr | apply h0 | apply h1 | apply cond_b | (apply bnd_b; intro _))
theorem lbind54x0x6 (N : Nat) {R : Type} (w0 : (List UInt8)) : ∀ (m : Nat) (w1 : Int) (k0 : Unit → Option R) (k1 : Unit → Option R), L54x0x6 N w0 m w1 k0 k1 = (L54x0x6 N (R := (Sum (Unit) (Unit))) w0 m w1 (fun p => some (.inl p)) (fun p => some (.inr p))).bind (sumE k0 k1) := by
  intro m
  induction m with
  | zero => intros; rfl
  | succ m ih =>
    intro w1 k0 k1
    exact sb54x0x6 N _ _ _ _ _ _ _ _ _ (fun w1 => ih w1 k0 k1) (fun _ => rfl) (fun _ => rfl)
theorem one54x0x6 : oneB Try.prog 54 6 = true := by kernel_rfl
noncomputable def sh54x0x6 : Sh := { tmps := [(0, .c (.s)), (3, .c (.i .i64))], mem := [] }
noncomputable def A54x0x6 (N : Nat) (L : List Lf) : List (Bool × (Ex × St)) := bnd (G54x0x6 N (ls L 0) (li L 1)) fun q => [((inlB q), (.ret, ⟨[(2, .c (.b false))], []⟩)), ((inrQ q).isSome, ((.exit 0), ⟨[(0, .c (.s (ls L 0)))], []⟩))]
theorem eq54x0x6 (L : List Lf) : ofSh sh54x0x6 L = ⟨[(0, .c (.s (ls L 0))), (3, .c (.i .i64 (li L 1)))], []⟩ := by kernel_rfl
theorem law54x0x6 (N : Nat) : CutLaw Try.prog 0 (piece Try.prog 54 6) (loSh sh54x0x6 (A54x0x6 N)) :=
  law_shL progOk (T50x0_ok N) (al54x0s0 N) one54x0x6 lp54x0x6 eq54x0x6 fun L x hx => run54x0x6 N _ N _ x ((lbind54x0x6 N _ N _ _ _).trans ((altS alt1) x hx))
noncomputable def h54x0s1 (N : Nat) : Hint := { (h54x0s0 N) with los := (6, loSh sh54x0x6 (A54x0x6 N)) :: (h54x0s0 N).los }
theorem al54x0s1 (N : Nat) : AllCuts Try.prog (h54x0s1 N).los 0 54 := AllCuts.cons (al54x0s0 N) one54x0x6 (law54x0x6 N)
noncomputable def F54x0 (N : Nat) {R : Type} (v0 : (List UInt8)) (k0 : Bool → Option R) : Option R :=
  bnd (G54x0x6 N v0 0) fun x89351999 =>
  bif (inlB x89351999) then
    k0 false
  else
    bif (inrQ x89351999).isSome then
      bnd (bif (decide ((v0.length : Int) ≥ 1)) then (decide ((v0.length : Int) ≤ 60)) else false) fun x3431527 =>
      k0 x3431527
    else
      none
noncomputable def G54x0 (N : Nat) (v0 : (List UInt8)) : Option (Bool) := F54x0 N v0 (fun p => some p)
theorem bind54x0 (N : Nat) {R : Type} (v0 : (List UInt8)) (k0 : Bool → Option R) : F54x0 N v0 k0 = (G54x0 N v0).bind k0 := by
  unfold G54x0 F54x0
  repeat' (first | rfl | apply cond_b | (apply bnd_b; intro _))
noncomputable def sh54x0 : Sh := { tmps := [(0, .c (.s))], mem := [] }
noncomputable def A54x0 (N : Nat) (L : List Lf) : List (Bool × Res) := bnd (F54x0 N (ls L 0) (fun p => some p)) fun q => [(q.isSome, ([.c (.b (q.getD default))], []))]
theorem raw54x0 (N : Nat) (L : List Lf) : (body Try.prog (T50x0 N) (h54x0s1 N) 200 54 (valsOf (ofSh sh54x0 L).tmps) (ofSh sh54x0 L).mem : Option Res) = F54x0 N (ls L 0) (fun p => some ([.c (.b p)], [])) := by kernel_rfl
theorem ok54x0 (N : Nat) : ∀ args mem alts, spSh sh54x0 (A54x0 N) args mem = some alts → ∀ res, altK alts some = some res → CallOk Try.prog 54 args mem res :=
  spSh_law fun L x hx => callOk_of (n := 200) progOk (T50x0_ok N) (al54x0s1 N) rfl ((raw54x0 N L).trans ((bind54x0 N ..).trans (alt1 x hx)))
noncomputable def T54x0 (N : Nat) : Oracle := ext 54 (spSh sh54x0 (A54x0 N)) (T50x0 N)
theorem T54x0_ok (N : Nat) : OracleOk Try.prog (T54x0 N) := ext_ok (T50x0_ok N) (enters_of (by kernel_rfl)) (ok54x0 N)
noncomputable def rg55x0 : List (Nat × List Nat) := [(0, [0, 1]), (1, [2, 1]), (2, [10, 9, 8, 1]), (3, [10, 8, 1, 9]), (4, [6, 1, 5, 10, 9, 8]), (5, [5]), (6, [10, 9, 8, 1]), (7, [])]
noncomputable def hd55x0 : Hints := [(6, [10, 9, 8, 1], [], [])]
noncomputable def h55x0s0 (N : Nat) : Hint := { loops := hd55x0, regs := rg55x0, los := [] }
theorem al55x0s0 (N : Nat) : AllCuts Try.prog (h55x0s0 N).los 0 55 := AllCuts.nil
noncomputable def P55x0x6 (w0 : (List UInt8)) (w1 : Bool) (w2 : (List D)) (w3 w4 : Int) : St := ⟨[(1, .c (.s w0)), (8, .c (.sl 66 w1 w2)), (9, .c (.i .i64 w3)), (10, .c (.i .i64 w4))], []⟩
noncomputable def S55x0x6 (N : Nat) {R : Type} (w0 : (List UInt8)) (w2 : (List D)) (w3 : Int) (w4 : Int) (kr : Int → Option R) (k0 : Int → Option R) (k1 : Unit → Option R) : Option R :=
  bif (decide (w4 < w3)) then
    bif (inB w4 w2.length) then
      bif (((w2.getD w4.toNat (.i 0)).cell 0).toS == w0) then
        k0 w4
      else
        kr (IntKind.wrap .i64 (w4 + 1))
    else
      none
  else
    k1 ()
theorem mono55x0x6 (N : Nat) {R : Type} (w0 : (List UInt8)) (w2 : (List D)) (w3 : Int) (w4 : Int) {kr kr' : Int → Option R} (k0 : Int → Option R) (k1 : Unit → Option R) {r : R} (hk : ∀ w4', kr w4' = some r → kr' w4' = some r) : S55x0x6 N w0 w2 w3 w4 kr k0 k1 = some r → S55x0x6 N w0 w2 w3 w4 kr' k0 k1 = some r := by
  unfold S55x0x6
  repeat' (first | exact hk _ | exact fun h => h | apply cond_mono | (apply bnd_mono; intro _))
noncomputable def L55x0x6 (N : Nat) {R : Type} (w0 : (List UInt8)) (w2 : (List D)) (w3 : Int) : Nat → Int → (Int → Option R) → (Unit → Option R) → Option R
  | 0, _, _, _ => none
  | m + 1, w4, k0, k1 => S55x0x6 N w0 w2 w3 w4 (fun w4 => L55x0x6 N w0 w2 w3 m w4 k0 k1) k0 k1
theorem lp55x0x6 : piece Try.prog 55 6 = .loop (loopB (piece Try.prog 55 6)) := by kernel_rfl
theorem nl55x0x6 (N : Nat) : lawOf (h55x0s0 N) (.loop (loopB (piece Try.prog 55 6))) = none := by kernel_rfl
theorem cl55x0x6 (N : Nat) (w0 : (List UInt8)) (w1 : Bool) (w2 : (List D)) (w3 : Int) (w4 : Int) : clearSt Try.prog 0 (h55x0s0 N).loops 6 (P55x0x6 w0 w1 w2 w3 w4) = (P55x0x6 w0 w1 w2 w3 w4) := by kernel_rfl
theorem step55x0x6 (N : Nat) (m : Nat) (kn : St → Option (Ex × St)) (w0 : (List UInt8)) (w1 : Bool) (w2 : (List D)) (w3 : Int) (w4 : Int) : exec Try.prog (T54x0 N) (h55x0s0 N) 0 (m + 100) (loopB (piece Try.prog 55 6)) (P55x0x6 w0 w1 w2 w3 w4) (reK (fun st => kn (clearSt Try.prog 0 (h55x0s0 N).loops 6 st)) (fun e st => some (e, cutSt [4] [] st))) = S55x0x6 N w0 w2 w3 w4 (fun w4 => kn (P55x0x6 w0 w1 w2 w3 w4)) (fun p => some (.ret, ⟨[(4, .c (.i .i64 p))], []⟩)) (fun p => some ((.exit 0), ⟨[], []⟩)) := by kernel_rfl
theorem run55x0x6 (N : Nat) (w0 : (List UInt8)) (w1 : Bool) (w2 : (List D)) (w3 : Int) : ∀ (m : Nat) (w4 : Int) (x : Ex × St), L55x0x6 N w0 w2 w3 m w4 (fun p => some (.ret, ⟨[(4, .c (.i .i64 p))], []⟩)) (fun p => some ((.exit 0), ⟨[], []⟩)) = some x → exec Try.prog (T54x0 N) (h55x0s0 N) 0 (m + 101) (.loop (loopB (piece Try.prog 55 6))) (P55x0x6 w0 w1 w2 w3 w4) (fun e st => some (e, cutSt [4] [] st)) = some x := by
  intro m
  induction m with
  | zero => intro w4 x h; cases h
  | succ m ih =>
    intro w4 x h
    exact loop_round (n := m + 101) (nl55x0x6 N) (by kernel_rfl) (cl55x0x6 N ..) (fun kn => step55x0x6 N (m + 1) kn ..) (mono55x0x6 N _ _ _ _ _ _ (fun w4 => ih w4 x) h)
noncomputable def G55x0x6 (N : Nat) (w0 : (List UInt8)) (w2 : (List D)) (w3 : Int) (w4 : Int) : Option (Sum (Int) (Unit)) := L55x0x6 N (R := (Sum (Int) (Unit))) w0 w2 w3 N w4 (fun p => some (.inl p)) (fun p => some (.inr p))
theorem sb55x0x6 (N : Nat) {R A : Type} (w0 : (List UInt8)) (w2 : (List D)) (w3 : Int) (w4 : Int) (kr : Int → Option R) (kr' : Int → Option A) (k0 : Int → Option R) (k1 : Unit → Option R) (j0 : Int → Option A) (j1 : Unit → Option A) (K : A → Option R) (hr : ∀ w4', kr w4' = (kr' w4').bind K) (h0 : ∀ p, k0 p = (j0 p).bind K) (h1 : ∀ p, k1 p = (j1 p).bind K) : S55x0x6 N w0 w2 w3 w4 kr k0 k1 = (S55x0x6 N w0 w2 w3 w4 kr' j0 j1).bind K := by
  unfold S55x0x6
  repeat' (first | rfl | apply hr | apply h0 | apply h1 | apply cond_b | (apply bnd_b; intro _))
theorem lbind55x0x6 (N : Nat) {R : Type} (w0 : (List UInt8)) (w2 : (List D)) (w3 : Int) : ∀ (m : Nat) (w4 : Int) (k0 : Int → Option R) (k1 : Unit → Option R), L55x0x6 N w0 w2 w3 m w4 k0 k1 = (L55x0x6 N (R := (Sum (Int) (Unit))) w0 w2 w3 m w4 (fun p => some (.inl p)) (fun p => some (.inr p))).bind (sumE k0 k1) := by
  intro m
  induction m with
  | zero => intros; rfl
  | succ m ih =>
    intro w4 k0 k1
    exact sb55x0x6 N _ _ _ _ _ _ _ _ _ _ _ (fun w4 => ih w4 k0 k1) (fun _ => rfl) (fun _ => rfl)
theorem one55x0x6 : oneB Try.prog 55 6 = true := by kernel_rfl
noncomputable def sh55x0x6 : Sh := { tmps := [(1, .c (.s)), (8, .c (.sl 66)), (9, .c (.i .i64)), (10, .c (.i .i64))], mem := [] }
noncomputable def A55x0x6 (N : Nat) (L : List Lf) : List (Bool × (Ex × St)) := bnd (G55x0x6 N (ls L 0) (ll L 2) (li L 3) (li L 4)) fun q => [((inlB q), (.ret, ⟨[(4, .c (.i .i64 (inlV q)))], []⟩)), ((inrQ q).isSome, ((.exit 0), ⟨[], []⟩))]
theorem eq55x0x6 (L : List Lf) : ofSh sh55x0x6 L = (P55x0x6 (ls L 0) (lb L 1) (ll L 2) (li L 3) (li L 4)) := by kernel_rfl
theorem law55x0x6 (N : Nat) : CutLaw Try.prog 0 (piece Try.prog 55 6) (loSh sh55x0x6 (A55x0x6 N)) :=
  law_shL progOk (T54x0_ok N) (al55x0s0 N) one55x0x6 lp55x0x6 eq55x0x6 fun L x hx => run55x0x6 N _ _ _ _ N _ x ((lbind55x0x6 N _ _ _ N _ _ _).trans ((altS alt1) x hx))
noncomputable def h55x0s1 (N : Nat) : Hint := { (h55x0s0 N) with los := (6, loSh sh55x0x6 (A55x0x6 N)) :: (h55x0s0 N).los }
theorem al55x0s1 (N : Nat) : AllCuts Try.prog (h55x0s1 N).los 0 55 := AllCuts.cons (al55x0s0 N) one55x0x6 (law55x0x6 N)
noncomputable def F55x0 (N : Nat) {R : Type} (v4 : (List D)) (v7 : (List UInt8)) (k0 : Int → Option R) : Option R :=
  bnd (G55x0x6 N v7 v4 (v4.length : Int) 0) fun x21586951 =>
  bif (inlB x21586951) then
    k0 (inlV x21586951)
  else
    bif (inrQ x21586951).isSome then
      k0 (-1)
    else
      none
noncomputable def G55x0 (N : Nat) (v4 : (List D)) (v7 : (List UInt8)) : Option (Int) := F55x0 N v4 v7 (fun p => some p)
theorem bind55x0 (N : Nat) {R : Type} (v4 : (List D)) (v7 : (List UInt8)) (k0 : Int → Option R) : F55x0 N v4 v7 k0 = (G55x0 N v4 v7).bind k0 := by
  unfold G55x0 F55x0
  repeat' (first | rfl | apply cond_b | (apply bnd_b; intro _))
noncomputable def sh55x0 : Sh := { tmps := [(0, .g [.i .i64, .i .i64, .i .i64, .sl 66, .sl 68]), (1, .c (.s))], mem := [] }
noncomputable def A55x0 (N : Nat) (L : List Lf) : List (Bool × Res) := bnd (F55x0 N (ll L 4) (ls L 7) (fun p => some p)) fun q => [(q.isSome, ([.c (.i .i64 (q.getD default))], []))]
theorem raw55x0 (N : Nat) (L : List Lf) : (body Try.prog (T54x0 N) (h55x0s1 N) 200 55 (valsOf (ofSh sh55x0 L).tmps) (ofSh sh55x0 L).mem : Option Res) = F55x0 N (ll L 4) (ls L 7) (fun p => some ([.c (.i .i64 p)], [])) := by kernel_rfl
theorem ok55x0 (N : Nat) : ∀ args mem alts, spSh sh55x0 (A55x0 N) args mem = some alts → ∀ res, altK alts some = some res → CallOk Try.prog 55 args mem res :=
  spSh_law fun L x hx => callOk_of (n := 200) progOk (T54x0_ok N) (al55x0s1 N) rfl ((raw55x0 N L).trans ((bind55x0 N ..).trans (alt1 x hx)))
noncomputable def T55x0 (N : Nat) : Oracle := ext 55 (spSh sh55x0 (A55x0 N)) (T54x0 N)
theorem T55x0_ok (N : Nat) : OracleOk Try.prog (T55x0 N) := ext_ok (T54x0_ok N) (enters_of (by kernel_rfl)) (ok55x0 N)
noncomputable def rg84x0 : List (Nat × List Nat) := [(0, [0]), (1, [1, 2]), (2, [1, 3, 2]), (4, [8, 1, 3, 2]), (6, [8, 1, 3, 2]), (8, [8, 1, 3, 2]), (9, [8, 1, 3, 2]), (10, [8, 1, 3, 2]), (11, [8, 1, 3, 2]), (13, [8, 1, 3, 2]), (15, [8, 1, 3, 2]), (3, [1, 3, 2]), (16, [1, 3, 2]), (14, [1, 3, 2]), (12, [1, 3, 2]), (7, [1, 3, 2]), (5, [1, 3, 2]), (17, [3, 2])]
noncomputable def hd84x0 : Hints := [(33002, [1, 3, 2, 8, 31], [3, 2, 1], []), (30002, [1, 3, 2, 8, 31], [3, 2, 1], []), (27002, [1, 3, 2, 8, 31], [3, 2, 1], []), (9050, [1, 3, 2, 50], [3, 2, 1], []), (45044, [1, 3, 2, 8, 39], [3, 2, 1], []), (39038, [1, 3, 2, 8, 31], [3, 2, 1], []), (24023, [1, 3, 2, 8, 23], [3, 2, 1], []), (18017, [1, 3, 2, 8, 18], [3, 2, 1], [])]
noncomputable def h84x0s0 (N : Nat) : Hint := { loops := hd84x0, regs := rg84x0, los := [] }
theorem al84x0s0 (N : Nat) : AllCuts Try.prog (h84x0s0 N).los 0 84 := AllCuts.nil
noncomputable def F84x0x33002 (N : Nat) {R : Type} (w0 : Int) (w1 : Bool) (k0 : Bool → R) : R :=
  bif w1 then
    k0 true
  else
    k0 (w0 == 7)
noncomputable def V84x0x33002 (N : Nat) (w0 : Int) (w1 : Bool) : Bool := F84x0x33002 N w0 w1 (fun p => p)
theorem tot84x0x33002 (N : Nat) {R : Type} (w0 : Int) (w1 : Bool) (k0 : Bool → R) : F84x0x33002 N w0 w1 k0 = k0 (V84x0x33002 N w0 w1) := by
  unfold V84x0x33002 F84x0x33002
  repeat' (first | rfl | apply cond_k | (apply bnd_k; intro _))
noncomputable def sh84x0x33002 : Sh := { tmps := [(1, .c (.p 1 0)), (2, .c (.p 2 0)), (3, .c (.p 3 0)), (8, .c (.i .i64)), (31, .c (.b))], mem := [(1, .box [.i .i64, .i .i64, .i .i64, .i .i64, .i .i64, .s]), (2, .box [.i .i64, .i .i64, .i .i64, .i .i64, .i .i64, .s]), (3, .box [.i .i64, .i .i64, .i .i64, .i .i64, .i .i64, .s])] }
noncomputable def K84x0x33002w0 (L : List Lf) (p : Bool) : Ex × St := (.normal, ⟨[(1, .c (.p 1 0)), (2, .c (.p 2 0)), (3, .c (.p 3 0)), (8, .c (.i .i64 (li L 0))), (31, .c (.b p))], [(1, .box [.i .i64 (li L 2), .i .i64 (li L 3), .i .i64 (li L 4), .i .i64 (li L 5), .i .i64 (li L 6), .s (ls L 7)]), (2, .box [.i .i64 (li L 8), .i .i64 (li L 9), .i .i64 (li L 10), .i .i64 (li L 11), .i .i64 (li L 12), .s (ls L 13)]), (3, .box [.i .i64 (li L 14), .i .i64 (li L 15), .i .i64 (li L 16), .i .i64 (li L 17), .i .i64 (li L 18), .s (ls L 19)])]⟩)
noncomputable def A84x0x33002 (N : Nat) (L : List Lf) : List (Bool × (Ex × St)) := bnd (F84x0x33002 N (li L 0) (lb L 1) (fun p => p)) fun q => [(true, K84x0x33002w0 L q)]
theorem raw84x0x33002 (N : Nat) (L : List Lf) : (exec Try.prog (T55x0 N) (h84x0s0 N) 0 100 (piece Try.prog 84 33002) (ofSh sh84x0x33002 L) (fun e st => some (e, cutSt [1, 3, 2, 8, 31] [3, 2, 1] st)) : Option (Ex × St)) = F84x0x33002 N (li L 0) (lb L 1) (fun p => some (K84x0x33002w0 L p)) := by kernel_rfl
theorem one84x0x33002 : oneB Try.prog 84 33002 = true := by kernel_rfl
theorem law84x0x33002 (N : Nat) : CutLaw Try.prog 0 (piece Try.prog 84 33002) (loSh sh84x0x33002 (A84x0x33002 N)) :=
  law_sh progOk (T55x0_ok N) (al84x0s0 N) one84x0x33002 fun L x hx => (raw84x0x33002 N L).trans ((tot84x0x33002 N ..).trans (alt0 _ _ hx))
noncomputable def h84x0s1 (N : Nat) : Hint := { (h84x0s0 N) with los := (33002, loSh sh84x0x33002 (A84x0x33002 N)) :: (h84x0s0 N).los }
theorem al84x0s1 (N : Nat) : AllCuts Try.prog (h84x0s1 N).los 0 84 := AllCuts.cons (al84x0s0 N) one84x0x33002 (law84x0x33002 N)
noncomputable def F84x0x30002 (N : Nat) {R : Type} (w0 : Int) (w1 : Bool) (k0 : Bool → R) : R :=
  bif w1 then
    k0 true
  else
    bnd (V84x0x33002 N w0 (w0 == 5)) fun x43206455 =>
    k0 x43206455
noncomputable def V84x0x30002 (N : Nat) (w0 : Int) (w1 : Bool) : Bool := F84x0x30002 N w0 w1 (fun p => p)
theorem tot84x0x30002 (N : Nat) {R : Type} (w0 : Int) (w1 : Bool) (k0 : Bool → R) : F84x0x30002 N w0 w1 k0 = k0 (V84x0x30002 N w0 w1) := by
  unfold V84x0x30002 F84x0x30002
  repeat' (first | rfl | apply cond_k | (apply bnd_k; intro _))
noncomputable def sh84x0x30002 : Sh := { tmps := [(1, .c (.p 1 0)), (2, .c (.p 2 0)), (3, .c (.p 3 0)), (8, .c (.i .i64)), (31, .c (.b))], mem := [(1, .box [.i .i64, .i .i64, .i .i64, .i .i64, .i .i64, .s]), (2, .box [.i .i64, .i .i64, .i .i64, .i .i64, .i .i64, .s]), (3, .box [.i .i64, .i .i64, .i .i64, .i .i64, .i .i64, .s])] }
noncomputable def K84x0x30002w0 (L : List Lf) (p : Bool) : Ex × St := (.normal, ⟨[(1, .c (.p 1 0)), (2, .c (.p 2 0)), (3, .c (.p 3 0)), (8, .c (.i .i64 (li L 0))), (31, .c (.b p))], [(1, .box [.i .i64 (li L 2), .i .i64 (li L 3), .i .i64 (li L 4), .i .i64 (li L 5), .i .i64 (li L 6), .s (ls L 7)]), (2, .box [.i .i64 (li L 8), .i .i64 (li L 9), .i .i64 (li L 10), .i .i64 (li L 11), .i .i64 (li L 12), .s (ls L 13)]), (3, .box [.i .i64 (li L 14), .i .i64 (li L 15), .i .i64 (li L 16), .i .i64 (li L 17), .i .i64 (li L 18), .s (ls L 19)])]⟩)
noncomputable def A84x0x30002 (N : Nat) (L : List Lf) : List (Bool × (Ex × St)) := bnd (F84x0x30002 N (li L 0) (lb L 1) (fun p => p)) fun q => [(true, K84x0x30002w0 L q)]
theorem raw84x0x30002 (N : Nat) (L : List Lf) : (exec Try.prog (T55x0 N) (h84x0s1 N) 0 100 (piece Try.prog 84 30002) (ofSh sh84x0x30002 L) (fun e st => some (e, cutSt [1, 3, 2, 8, 31] [3, 2, 1] st)) : Option (Ex × St)) = F84x0x30002 N (li L 0) (lb L 1) (fun p => some (K84x0x30002w0 L p)) := by kernel_rfl
theorem one84x0x30002 : oneB Try.prog 84 30002 = true := by kernel_rfl
theorem law84x0x30002 (N : Nat) : CutLaw Try.prog 0 (piece Try.prog 84 30002) (loSh sh84x0x30002 (A84x0x30002 N)) :=
  law_sh progOk (T55x0_ok N) (al84x0s1 N) one84x0x30002 fun L x hx => (raw84x0x30002 N L).trans ((tot84x0x30002 N ..).trans (alt0 _ _ hx))
noncomputable def h84x0s2 (N : Nat) : Hint := { (h84x0s1 N) with los := (30002, loSh sh84x0x30002 (A84x0x30002 N)) :: (h84x0s1 N).los }
theorem al84x0s2 (N : Nat) : AllCuts Try.prog (h84x0s2 N).los 0 84 := AllCuts.cons (al84x0s1 N) one84x0x30002 (law84x0x30002 N)
noncomputable def F84x0x27002 (N : Nat) {R : Type} (w0 : Int) (w1 : Bool) (k0 : Bool → R) : R :=
  bif w1 then
    k0 true
  else
    bnd (V84x0x30002 N w0 (w0 == 4)) fun x50982480 =>
    k0 x50982480
noncomputable def V84x0x27002 (N : Nat) (w0 : Int) (w1 : Bool) : Bool := F84x0x27002 N w0 w1 (fun p => p)
theorem tot84x0x27002 (N : Nat) {R : Type} (w0 : Int) (w1 : Bool) (k0 : Bool → R) : F84x0x27002 N w0 w1 k0 = k0 (V84x0x27002 N w0 w1) := by
  unfold V84x0x27002 F84x0x27002
  repeat' (first | rfl | apply cond_k | (apply bnd_k; intro _))
noncomputable def sh84x0x27002 : Sh := { tmps := [(1, .c (.p 1 0)), (2, .c (.p 2 0)), (3, .c (.p 3 0)), (8, .c (.i .i64)), (31, .c (.b))], mem := [(1, .box [.i .i64, .i .i64, .i .i64, .i .i64, .i .i64, .s]), (2, .box [.i .i64, .i .i64, .i .i64, .i .i64, .i .i64, .s]), (3, .box [.i .i64, .i .i64, .i .i64, .i .i64, .i .i64, .s])] }
noncomputable def K84x0x27002w0 (L : List Lf) (p : Bool) : Ex × St := (.normal, ⟨[(1, .c (.p 1 0)), (2, .c (.p 2 0)), (3, .c (.p 3 0)), (8, .c (.i .i64 (li L 0))), (31, .c (.b p))], [(1, .box [.i .i64 (li L 2), .i .i64 (li L 3), .i .i64 (li L 4), .i .i64 (li L 5), .i .i64 (li L 6), .s (ls L 7)]), (2, .box [.i .i64 (li L 8), .i .i64 (li L 9), .i .i64 (li L 10), .i .i64 (li L 11), .i .i64 (li L 12), .s (ls L 13)]), (3, .box [.i .i64 (li L 14), .i .i64 (li L 15), .i .i64 (li L 16), .i .i64 (li L 17), .i .i64 (li L 18), .s (ls L 19)])]⟩)
noncomputable def A84x0x27002 (N : Nat) (L : List Lf) : List (Bool × (Ex × St)) := bnd (F84x0x27002 N (li L 0) (lb L 1) (fun p => p)) fun q => [(true, K84x0x27002w0 L q)]
theorem raw84x0x27002 (N : Nat) (L : List Lf) : (exec Try.prog (T55x0 N) (h84x0s2 N) 0 100 (piece Try.prog 84 27002) (ofSh sh84x0x27002 L) (fun e st => some (e, cutSt [1, 3, 2, 8, 31] [3, 2, 1] st)) : Option (Ex × St)) = F84x0x27002 N (li L 0) (lb L 1) (fun p => some (K84x0x27002w0 L p)) := by kernel_rfl
theorem one84x0x27002 : oneB Try.prog 84 27002 = true := by kernel_rfl
theorem law84x0x27002 (N : Nat) : CutLaw Try.prog 0 (piece Try.prog 84 27002) (loSh sh84x0x27002 (A84x0x27002 N)) :=
  law_sh progOk (T55x0_ok N) (al84x0s2 N) one84x0x27002 fun L x hx => (raw84x0x27002 N L).trans ((tot84x0x27002 N ..).trans (alt0 _ _ hx))
noncomputable def h84x0s3 (N : Nat) : Hint := { (h84x0s2 N) with los := (27002, loSh sh84x0x27002 (A84x0x27002 N)) :: (h84x0s2 N).los }
theorem al84x0s3 (N : Nat) : AllCuts Try.prog (h84x0s3 N).los 0 84 := AllCuts.cons (al84x0s2 N) one84x0x27002 (law84x0x27002 N)
noncomputable def F84x0x9050 (N : Nat) {R : Type} (w0 : Bool) (w3 w4 : Int) (w6 : (List UInt8)) (w15 w16 : Int) (w18 : (List UInt8)) (k0 : Int × Int × (List UInt8) → R) : R :=
  bif w0 then
    k0 (w15, w16, w6)
  else
    k0 (w3, w4, w18)
noncomputable def V84x0x9050 (N : Nat) (w0 : Bool) (w3 w4 : Int) (w6 : (List UInt8)) (w15 w16 : Int) (w18 : (List UInt8)) : Int × Int × (List UInt8) := F84x0x9050 N w0 w3 w4 w6 w15 w16 w18 (fun p => p)
theorem tot84x0x9050 (N : Nat) {R : Type} (w0 : Bool) (w3 w4 : Int) (w6 : (List UInt8)) (w15 w16 : Int) (w18 : (List UInt8)) (k0 : Int × Int × (List UInt8) → R) : F84x0x9050 N w0 w3 w4 w6 w15 w16 w18 k0 = k0 (V84x0x9050 N w0 w3 w4 w6 w15 w16 w18) := by
  unfold V84x0x9050 F84x0x9050
  repeat' (first | rfl | apply cond_k | (apply bnd_k; intro _))
noncomputable def J84x0x9050 (N : Nat) (L : List Lf) {R : Type} (k0 : Int × Int × (List UInt8) → R) : R := F84x0x9050 N (lb L 0) (li L 3) (li L 4) (ls L 6) (li L 15) (li L 16) (ls L 18) k0
noncomputable def sh84x0x9050 : Sh := { tmps := [(1, .c (.p 1 0)), (2, .c (.p 2 0)), (3, .c (.p 3 0)), (50, .c (.b))], mem := [(1, .box [.i .i64, .i .i64, .i .i64, .i .i64, .i .i64, .s]), (2, .box [.i .i64, .i .i64, .i .i64, .i .i64, .i .i64, .s]), (3, .box [.i .i64, .i .i64, .i .i64, .i .i64, .i .i64, .s])] }
noncomputable def K84x0x9050w0 (L : List Lf) (p : Int × Int × (List UInt8)) : Ex × St := (.normal, ⟨[(2, .c (.p 2 0)), (3, .c (.p 3 0))], [(2, .box [.i .i64 (li L 7), .i .i64 (li L 8), .i .i64 (li L 9), .i .i64 (li L 10), .i .i64 (li L 11), .s (ls L 12)]), (3, .box [.i .i64 (li L 13), .i .i64 (li L 2), .i .i64 p.1, .i .i64 p.2.1, .i .i64 (li L 17), .s p.2.2])]⟩)
noncomputable def A84x0x9050 (N : Nat) (L : List Lf) : List (Bool × (Ex × St)) := bnd (J84x0x9050 N L (fun p => p)) fun q => [(true, K84x0x9050w0 L q)]
theorem raw84x0x9050 (N : Nat) (L : List Lf) : (exec Try.prog (T55x0 N) (h84x0s3 N) 0 100 (piece Try.prog 84 9050) (ofSh sh84x0x9050 L) (fun e st => some (e, cutSt [3, 2] [3, 2] st)) : Option (Ex × St)) = J84x0x9050 N L (fun p => some (K84x0x9050w0 L p)) := by kernel_rfl
theorem one84x0x9050 : oneB Try.prog 84 9050 = true := by kernel_rfl
theorem law84x0x9050 (N : Nat) : CutLaw Try.prog 0 (piece Try.prog 84 9050) (loSh sh84x0x9050 (A84x0x9050 N)) :=
  law_sh progOk (T55x0_ok N) (al84x0s3 N) one84x0x9050 fun L x hx => (raw84x0x9050 N L).trans ((tot84x0x9050 N ..).trans (alt0 _ _ hx))
noncomputable def h84x0s4 (N : Nat) : Hint := { (h84x0s3 N) with los := (9050, loSh sh84x0x9050 (A84x0x9050 N)) :: (h84x0s3 N).los }
theorem al84x0s4 (N : Nat) : AllCuts Try.prog (h84x0s4 N).los 0 84 := AllCuts.cons (al84x0s3 N) one84x0x9050 (law84x0x9050 N)
noncomputable def F84x0x45044 (N : Nat) {R : Type} (w0 : Int) (w1 : Bool) (w3 w4 w5 w6 : Int) (w7 : (List UInt8)) (w15 w16 w17 w18 : Int) (w19 : (List UInt8)) (k0 : Int × Int × Int × Int × (List UInt8) → R) : R :=
  bif w1 then
    k0 (w15, w16, w5, w6, w7)
  else
    bnd (V84x0x9050 N (w0 == 8) w4 w5 w7 w16 w17 w19) fun x491331 =>
    k0 (w3, x491331.1, x491331.2.1, w18, x491331.2.2)
noncomputable def V84x0x45044 (N : Nat) (w0 : Int) (w1 : Bool) (w3 w4 w5 w6 : Int) (w7 : (List UInt8)) (w15 w16 w17 w18 : Int) (w19 : (List UInt8)) : Int × Int × Int × Int × (List UInt8) := F84x0x45044 N w0 w1 w3 w4 w5 w6 w7 w15 w16 w17 w18 w19 (fun p => p)
theorem tot84x0x45044 (N : Nat) {R : Type} (w0 : Int) (w1 : Bool) (w3 w4 w5 w6 : Int) (w7 : (List UInt8)) (w15 w16 w17 w18 : Int) (w19 : (List UInt8)) (k0 : Int × Int × Int × Int × (List UInt8) → R) : F84x0x45044 N w0 w1 w3 w4 w5 w6 w7 w15 w16 w17 w18 w19 k0 = k0 (V84x0x45044 N w0 w1 w3 w4 w5 w6 w7 w15 w16 w17 w18 w19) := by
  unfold V84x0x45044 F84x0x45044
  repeat' (first | rfl | apply cond_k | (apply bnd_k; intro _))
noncomputable def J84x0x45044 (N : Nat) (L : List Lf) {R : Type} (k0 : Int × Int × Int × Int × (List UInt8) → R) : R := F84x0x45044 N (li L 0) (lb L 1) (li L 3) (li L 4) (li L 5) (li L 6) (ls L 7) (li L 15) (li L 16) (li L 17) (li L 18) (ls L 19) k0
noncomputable def sh84x0x45044 : Sh := { tmps := [(1, .c (.p 1 0)), (2, .c (.p 2 0)), (3, .c (.p 3 0)), (8, .c (.i .i64)), (39, .c (.b))], mem := [(1, .box [.i .i64, .i .i64, .i .i64, .i .i64, .i .i64, .s]), (2, .box [.i .i64, .i .i64, .i .i64, .i .i64, .i .i64, .s]), (3, .box [.i .i64, .i .i64, .i .i64, .i .i64, .i .i64, .s])] }
noncomputable def K84x0x45044w0 (L : List Lf) (p : Int × Int × Int × Int × (List UInt8)) : Ex × St := (.normal, ⟨[(2, .c (.p 2 0)), (3, .c (.p 3 0))], [(2, .box [.i .i64 (li L 8), .i .i64 (li L 9), .i .i64 (li L 10), .i .i64 (li L 11), .i .i64 (li L 12), .s (ls L 13)]), (3, .box [.i .i64 (li L 14), .i .i64 p.1, .i .i64 p.2.1, .i .i64 p.2.2.1, .i .i64 p.2.2.2.1, .s p.2.2.2.2])]⟩)
noncomputable def A84x0x45044 (N : Nat) (L : List Lf) : List (Bool × (Ex × St)) := bnd (J84x0x45044 N L (fun p => p)) fun q => [(true, K84x0x45044w0 L q)]
theorem raw84x0x45044 (N : Nat) (L : List Lf) : (exec Try.prog (T55x0 N) (h84x0s4 N) 0 100 (piece Try.prog 84 45044) (ofSh sh84x0x45044 L) (fun e st => some (e, cutSt [3, 2] [3, 2] st)) : Option (Ex × St)) = J84x0x45044 N L (fun p => some (K84x0x45044w0 L p)) := by kernel_rfl
theorem one84x0x45044 : oneB Try.prog 84 45044 = true := by kernel_rfl
theorem law84x0x45044 (N : Nat) : CutLaw Try.prog 0 (piece Try.prog 84 45044) (loSh sh84x0x45044 (A84x0x45044 N)) :=
  law_sh progOk (T55x0_ok N) (al84x0s4 N) one84x0x45044 fun L x hx => (raw84x0x45044 N L).trans ((tot84x0x45044 N ..).trans (alt0 _ _ hx))
noncomputable def h84x0s5 (N : Nat) : Hint := { (h84x0s4 N) with los := (45044, loSh sh84x0x45044 (A84x0x45044 N)) :: (h84x0s4 N).los }
theorem al84x0s5 (N : Nat) : AllCuts Try.prog (h84x0s5 N).los 0 84 := AllCuts.cons (al84x0s4 N) one84x0x45044 (law84x0x45044 N)
noncomputable def F84x0x39038 (N : Nat) {R : Type} (w0 : Int) (w1 : Bool) (w3 w4 w5 w6 : Int) (w7 : (List UInt8)) (w15 w16 w17 w18 : Int) (w19 : (List UInt8)) (k0 : Int × Int × Int × Int × (List UInt8) → R) : R :=
  bif w1 then
    k0 (w15, w4, w17, w18, w19)
  else
    bnd (V84x0x45044 N w0 (w0 == 6) w3 w4 w5 w6 w7 w15 w16 w17 w18 w19) fun x41632803 =>
    k0 (x41632803.1, x41632803.2.1, x41632803.2.2.1, x41632803.2.2.2.1, x41632803.2.2.2.2)
noncomputable def V84x0x39038 (N : Nat) (w0 : Int) (w1 : Bool) (w3 w4 w5 w6 : Int) (w7 : (List UInt8)) (w15 w16 w17 w18 : Int) (w19 : (List UInt8)) : Int × Int × Int × Int × (List UInt8) := F84x0x39038 N w0 w1 w3 w4 w5 w6 w7 w15 w16 w17 w18 w19 (fun p => p)
theorem tot84x0x39038 (N : Nat) {R : Type} (w0 : Int) (w1 : Bool) (w3 w4 w5 w6 : Int) (w7 : (List UInt8)) (w15 w16 w17 w18 : Int) (w19 : (List UInt8)) (k0 : Int × Int × Int × Int × (List UInt8) → R) : F84x0x39038 N w0 w1 w3 w4 w5 w6 w7 w15 w16 w17 w18 w19 k0 = k0 (V84x0x39038 N w0 w1 w3 w4 w5 w6 w7 w15 w16 w17 w18 w19) := by
  unfold V84x0x39038 F84x0x39038
  repeat' (first | rfl | apply cond_k | (apply bnd_k; intro _))
noncomputable def J84x0x39038 (N : Nat) (L : List Lf) {R : Type} (k0 : Int × Int × Int × Int × (List UInt8) → R) : R := F84x0x39038 N (li L 0) (lb L 1) (li L 3) (li L 4) (li L 5) (li L 6) (ls L 7) (li L 15) (li L 16) (li L 17) (li L 18) (ls L 19) k0
noncomputable def sh84x0x39038 : Sh := { tmps := [(1, .c (.p 1 0)), (2, .c (.p 2 0)), (3, .c (.p 3 0)), (8, .c (.i .i64)), (31, .c (.b))], mem := [(1, .box [.i .i64, .i .i64, .i .i64, .i .i64, .i .i64, .s]), (2, .box [.i .i64, .i .i64, .i .i64, .i .i64, .i .i64, .s]), (3, .box [.i .i64, .i .i64, .i .i64, .i .i64, .i .i64, .s])] }
noncomputable def K84x0x39038w0 (L : List Lf) (p : Int × Int × Int × Int × (List UInt8)) : Ex × St := (.normal, ⟨[(2, .c (.p 2 0)), (3, .c (.p 3 0))], [(2, .box [.i .i64 (li L 8), .i .i64 (li L 9), .i .i64 (li L 10), .i .i64 (li L 11), .i .i64 (li L 12), .s (ls L 13)]), (3, .box [.i .i64 (li L 14), .i .i64 p.1, .i .i64 p.2.1, .i .i64 p.2.2.1, .i .i64 p.2.2.2.1, .s p.2.2.2.2])]⟩)
noncomputable def A84x0x39038 (N : Nat) (L : List Lf) : List (Bool × (Ex × St)) := bnd (J84x0x39038 N L (fun p => p)) fun q => [(true, K84x0x39038w0 L q)]
theorem raw84x0x39038 (N : Nat) (L : List Lf) : (exec Try.prog (T55x0 N) (h84x0s5 N) 0 100 (piece Try.prog 84 39038) (ofSh sh84x0x39038 L) (fun e st => some (e, cutSt [3, 2] [3, 2] st)) : Option (Ex × St)) = J84x0x39038 N L (fun p => some (K84x0x39038w0 L p)) := by kernel_rfl
theorem one84x0x39038 : oneB Try.prog 84 39038 = true := by kernel_rfl
theorem law84x0x39038 (N : Nat) : CutLaw Try.prog 0 (piece Try.prog 84 39038) (loSh sh84x0x39038 (A84x0x39038 N)) :=
  law_sh progOk (T55x0_ok N) (al84x0s5 N) one84x0x39038 fun L x hx => (raw84x0x39038 N L).trans ((tot84x0x39038 N ..).trans (alt0 _ _ hx))
noncomputable def h84x0s6 (N : Nat) : Hint := { (h84x0s5 N) with los := (39038, loSh sh84x0x39038 (A84x0x39038 N)) :: (h84x0s5 N).los }
theorem al84x0s6 (N : Nat) : AllCuts Try.prog (h84x0s6 N).los 0 84 := AllCuts.cons (al84x0s5 N) one84x0x39038 (law84x0x39038 N)
noncomputable def F84x0x24023 (N : Nat) {R : Type} (w0 : Int) (w1 : Bool) (w3 w4 w5 w6 : Int) (w7 : (List UInt8)) (w15 w16 w17 w18 : Int) (w19 : (List UInt8)) (k0 : Int × Int × Int × Int × (List UInt8) → R) : R :=
  bif w1 then
    k0 (w3, w4, w17, w18, w19)
  else
    bnd (V84x0x27002 N w0 (w0 == 3)) fun x61437353 =>
    bnd (V84x0x39038 N w0 x61437353 w3 w4 w5 w6 w7 w15 w16 w17 w18 w19) fun x7182649 =>
    k0 (x7182649.1, x7182649.2.1, x7182649.2.2.1, x7182649.2.2.2.1, x7182649.2.2.2.2)
noncomputable def V84x0x24023 (N : Nat) (w0 : Int) (w1 : Bool) (w3 w4 w5 w6 : Int) (w7 : (List UInt8)) (w15 w16 w17 w18 : Int) (w19 : (List UInt8)) : Int × Int × Int × Int × (List UInt8) := F84x0x24023 N w0 w1 w3 w4 w5 w6 w7 w15 w16 w17 w18 w19 (fun p => p)
theorem tot84x0x24023 (N : Nat) {R : Type} (w0 : Int) (w1 : Bool) (w3 w4 w5 w6 : Int) (w7 : (List UInt8)) (w15 w16 w17 w18 : Int) (w19 : (List UInt8)) (k0 : Int × Int × Int × Int × (List UInt8) → R) : F84x0x24023 N w0 w1 w3 w4 w5 w6 w7 w15 w16 w17 w18 w19 k0 = k0 (V84x0x24023 N w0 w1 w3 w4 w5 w6 w7 w15 w16 w17 w18 w19) := by
  unfold V84x0x24023 F84x0x24023
  repeat' (first | rfl | apply cond_k | (apply bnd_k; intro _))
noncomputable def J84x0x24023 (N : Nat) (L : List Lf) {R : Type} (k0 : Int × Int × Int × Int × (List UInt8) → R) : R := F84x0x24023 N (li L 0) (lb L 1) (li L 3) (li L 4) (li L 5) (li L 6) (ls L 7) (li L 15) (li L 16) (li L 17) (li L 18) (ls L 19) k0
noncomputable def sh84x0x24023 : Sh := { tmps := [(1, .c (.p 1 0)), (2, .c (.p 2 0)), (3, .c (.p 3 0)), (8, .c (.i .i64)), (23, .c (.b))], mem := [(1, .box [.i .i64, .i .i64, .i .i64, .i .i64, .i .i64, .s]), (2, .box [.i .i64, .i .i64, .i .i64, .i .i64, .i .i64, .s]), (3, .box [.i .i64, .i .i64, .i .i64, .i .i64, .i .i64, .s])] }
noncomputable def K84x0x24023w0 (L : List Lf) (p : Int × Int × Int × Int × (List UInt8)) : Ex × St := (.normal, ⟨[(2, .c (.p 2 0)), (3, .c (.p 3 0))], [(2, .box [.i .i64 (li L 8), .i .i64 (li L 9), .i .i64 (li L 10), .i .i64 (li L 11), .i .i64 (li L 12), .s (ls L 13)]), (3, .box [.i .i64 (li L 14), .i .i64 p.1, .i .i64 p.2.1, .i .i64 p.2.2.1, .i .i64 p.2.2.2.1, .s p.2.2.2.2])]⟩)
noncomputable def A84x0x24023 (N : Nat) (L : List Lf) : List (Bool × (Ex × St)) := bnd (J84x0x24023 N L (fun p => p)) fun q => [(true, K84x0x24023w0 L q)]
theorem raw84x0x24023 (N : Nat) (L : List Lf) : (exec Try.prog (T55x0 N) (h84x0s6 N) 0 100 (piece Try.prog 84 24023) (ofSh sh84x0x24023 L) (fun e st => some (e, cutSt [3, 2] [3, 2] st)) : Option (Ex × St)) = J84x0x24023 N L (fun p => some (K84x0x24023w0 L p)) := by kernel_rfl
theorem one84x0x24023 : oneB Try.prog 84 24023 = true := by kernel_rfl
theorem law84x0x24023 (N : Nat) : CutLaw Try.prog 0 (piece Try.prog 84 24023) (loSh sh84x0x24023 (A84x0x24023 N)) :=
  law_sh progOk (T55x0_ok N) (al84x0s6 N) one84x0x24023 fun L x hx => (raw84x0x24023 N L).trans ((tot84x0x24023 N ..).trans (alt0 _ _ hx))
noncomputable def h84x0s7 (N : Nat) : Hint := { (h84x0s6 N) with los := (24023, loSh sh84x0x24023 (A84x0x24023 N)) :: (h84x0s6 N).los }
theorem al84x0s7 (N : Nat) : AllCuts Try.prog (h84x0s7 N).los 0 84 := AllCuts.cons (al84x0s6 N) one84x0x24023 (law84x0x24023 N)
noncomputable def F84x0x18017 (N : Nat) {R : Type} (w0 : Int) (w1 : Bool) (w3 w4 w5 w6 : Int) (w7 : (List UInt8)) (w15 w16 w17 w18 : Int) (w19 : (List UInt8)) (k0 : Int × Int × Int × Int × (List UInt8) → R) : R :=
  bif w1 then
    k0 (w3, w16, w17, w18, w19)
  else
    bnd (V84x0x24023 N w0 (w0 == 2) w3 w4 w5 w6 w7 w15 w16 w17 w18 w19) fun x16425039 =>
    k0 (x16425039.1, x16425039.2.1, x16425039.2.2.1, x16425039.2.2.2.1, x16425039.2.2.2.2)
noncomputable def V84x0x18017 (N : Nat) (w0 : Int) (w1 : Bool) (w3 w4 w5 w6 : Int) (w7 : (List UInt8)) (w15 w16 w17 w18 : Int) (w19 : (List UInt8)) : Int × Int × Int × Int × (List UInt8) := F84x0x18017 N w0 w1 w3 w4 w5 w6 w7 w15 w16 w17 w18 w19 (fun p => p)
theorem tot84x0x18017 (N : Nat) {R : Type} (w0 : Int) (w1 : Bool) (w3 w4 w5 w6 : Int) (w7 : (List UInt8)) (w15 w16 w17 w18 : Int) (w19 : (List UInt8)) (k0 : Int × Int × Int × Int × (List UInt8) → R) : F84x0x18017 N w0 w1 w3 w4 w5 w6 w7 w15 w16 w17 w18 w19 k0 = k0 (V84x0x18017 N w0 w1 w3 w4 w5 w6 w7 w15 w16 w17 w18 w19) := by
  unfold V84x0x18017 F84x0x18017
  repeat' (first | rfl | apply cond_k | (apply bnd_k; intro _))
noncomputable def J84x0x18017 (N : Nat) (L : List Lf) {R : Type} (k0 : Int × Int × Int × Int × (List UInt8) → R) : R := F84x0x18017 N (li L 0) (lb L 1) (li L 3) (li L 4) (li L 5) (li L 6) (ls L 7) (li L 15) (li L 16) (li L 17) (li L 18) (ls L 19) k0
noncomputable def sh84x0x18017 : Sh := { tmps := [(1, .c (.p 1 0)), (2, .c (.p 2 0)), (3, .c (.p 3 0)), (8, .c (.i .i64)), (18, .c (.b))], mem := [(1, .box [.i .i64, .i .i64, .i .i64, .i .i64, .i .i64, .s]), (2, .box [.i .i64, .i .i64, .i .i64, .i .i64, .i .i64, .s]), (3, .box [.i .i64, .i .i64, .i .i64, .i .i64, .i .i64, .s])] }
noncomputable def K84x0x18017w0 (L : List Lf) (p : Int × Int × Int × Int × (List UInt8)) : Ex × St := (.normal, ⟨[(2, .c (.p 2 0)), (3, .c (.p 3 0))], [(2, .box [.i .i64 (li L 8), .i .i64 (li L 9), .i .i64 (li L 10), .i .i64 (li L 11), .i .i64 (li L 12), .s (ls L 13)]), (3, .box [.i .i64 (li L 14), .i .i64 p.1, .i .i64 p.2.1, .i .i64 p.2.2.1, .i .i64 p.2.2.2.1, .s p.2.2.2.2])]⟩)
noncomputable def A84x0x18017 (N : Nat) (L : List Lf) : List (Bool × (Ex × St)) := bnd (J84x0x18017 N L (fun p => p)) fun q => [(true, K84x0x18017w0 L q)]
theorem raw84x0x18017 (N : Nat) (L : List Lf) : (exec Try.prog (T55x0 N) (h84x0s7 N) 0 100 (piece Try.prog 84 18017) (ofSh sh84x0x18017 L) (fun e st => some (e, cutSt [3, 2] [3, 2] st)) : Option (Ex × St)) = J84x0x18017 N L (fun p => some (K84x0x18017w0 L p)) := by kernel_rfl
theorem one84x0x18017 : oneB Try.prog 84 18017 = true := by kernel_rfl
theorem law84x0x18017 (N : Nat) : CutLaw Try.prog 0 (piece Try.prog 84 18017) (loSh sh84x0x18017 (A84x0x18017 N)) :=
  law_sh progOk (T55x0_ok N) (al84x0s7 N) one84x0x18017 fun L x hx => (raw84x0x18017 N L).trans ((tot84x0x18017 N ..).trans (alt0 _ _ hx))
noncomputable def h84x0s8 (N : Nat) : Hint := { (h84x0s7 N) with los := (18017, loSh sh84x0x18017 (A84x0x18017 N)) :: (h84x0s7 N).los }
theorem al84x0s8 (N : Nat) : AllCuts Try.prog (h84x0s8 N).los 0 84 := AllCuts.cons (al84x0s7 N) one84x0x18017 (law84x0x18017 N)
noncomputable def F84x0 (N : Nat) {R : Type} (v0 v1 v2 v3 v4 : Int) (v5 : (List UInt8)) (k0 : Int × Int × Int × Int × (List UInt8) → R) : R :=
  bnd (V84x0x18017 N v0 (v0 == 1) v1 v2 v3 v4 v5 0 0 0 0 ([] : List UInt8)) fun x85925353 =>
  k0 (x85925353.1, x85925353.2.1, x85925353.2.2.1, x85925353.2.2.2.1, x85925353.2.2.2.2)
noncomputable def V84x0 (N : Nat) (v0 v1 v2 v3 v4 : Int) (v5 : (List UInt8)) : Int × Int × Int × Int × (List UInt8) := F84x0 N v0 v1 v2 v3 v4 v5 (fun p => p)
theorem tot84x0 (N : Nat) {R : Type} (v0 v1 v2 v3 v4 : Int) (v5 : (List UInt8)) (k0 : Int × Int × Int × Int × (List UInt8) → R) : F84x0 N v0 v1 v2 v3 v4 v5 k0 = k0 (V84x0 N v0 v1 v2 v3 v4 v5) := by
  unfold V84x0 F84x0
  repeat' (first | rfl | apply cond_k | (apply bnd_k; intro _))
noncomputable def J84x0 (N : Nat) (L : List Lf) {R : Type} (k0 : Int × Int × Int × Int × (List UInt8) → R) : R := F84x0 N (li L 0) (li L 1) (li L 2) (li L 3) (li L 4) (ls L 5) k0
noncomputable def sh84x0 : Sh := { tmps := [(0, .g [.i .i64, .i .i64, .i .i64, .i .i64, .i .i64, .s])], mem := [] }
noncomputable def K84x0w0 (L : List Lf) (p : Int × Int × Int × Int × (List UInt8)) : Res := ([.g [.i .i64 (li L 0), .i .i64 p.1, .i .i64 p.2.1, .i .i64 p.2.2.1, .i .i64 p.2.2.2.1, .s p.2.2.2.2]], [])
noncomputable def A84x0 (N : Nat) (L : List Lf) : List (Bool × Res) := bnd (J84x0 N L (fun p => p)) fun q => [(true, K84x0w0 L q)]
theorem raw84x0 (N : Nat) (L : List Lf) : (body Try.prog (T55x0 N) (h84x0s8 N) 200 84 (valsOf (ofSh sh84x0 L).tmps) (ofSh sh84x0 L).mem : Option Res) = J84x0 N L (fun p => some (K84x0w0 L p)) := by kernel_rfl
theorem ok84x0 (N : Nat) : ∀ args mem alts, spSh sh84x0 (A84x0 N) args mem = some alts → ∀ res, altK alts some = some res → CallOk Try.prog 84 args mem res :=
  spSh_law fun L x hx => callOk_of (n := 200) progOk (T55x0_ok N) (al84x0s8 N) rfl ((raw84x0 N L).trans ((tot84x0 N ..).trans (alt0 _ _ hx)))
noncomputable def T84x0 (N : Nat) : Oracle := ext 84 (spSh sh84x0 (A84x0 N)) (T55x0 N)
theorem T84x0_ok (N : Nat) : OracleOk Try.prog (T84x0 N) := ext_ok (T55x0_ok N) (enters_of (by kernel_rfl)) (ok84x0 N)
noncomputable def rg56x0 : List (Nat × List Nat) := [(0, [0, 1]), (1, [3, 2]), (2, []), (3, [3, 2]), (4, [3, 2, 5]), (5, [10, 3, 2, 5]), (6, [10, 3, 2, 5]), (8, [10, 3, 2, 5]), (9, [10, 3, 2, 5]), (10, [3, 2]), (7, [3, 2]), (11, [3, 5, 2]), (12, [27, 5, 3, 2]), (13, [27, 5, 3, 2]), (14, [27, 5, 3, 2]), (15, [27, 5, 3, 2]), (16, [27, 5, 3, 2]), (18, [27, 5, 3, 2]), (20, [27, 5, 3, 2]), (21, [5, 3, 2]), (19, [5, 3, 2]), (17, [5, 3, 2]), (22, [3, 5, 2]), (23, [5, 3, 2]), (24, [5, 3, 2]), (25, []), (26, [3, 2]), (27, [2, 3]), (28, []), (29, [3]), (30, []), (31, [])]
noncomputable def hd56x0 : Hints := [(18002, [3, 2, 10, 5, 11], [3, 2], []), (27002, [3, 2, 5, 17, 10], [3, 2], []), (32, [3, 2, 5, 17], [3, 2], []), (24023, [3, 2, 10, 5, 11], [3, 2], []), (48002, [5, 3, 2, 27, 28], [3, 2], []), (45002, [5, 3, 2, 27, 28], [3, 2], []), (42002, [5, 3, 2, 27, 28], [3, 2], []), (39002, [5, 3, 2, 27, 28], [3, 2], []), (52, [5, 3, 2], [3, 2], []), (58, [5, 3, 2], [3, 2], []), (65, [5, 3, 2, 48], [3, 2], []), (60059, [5, 3, 2, 27, 40], [3, 2], []), (54053, [5, 3, 2, 27, 28], [3, 2], []), (70, [5, 3, 2], [3, 2], []), (71, [5, 3, 2, 70], [3, 2], []), (83, [2, 3, 90], [3, 2], [])]
noncomputable def h56x0s0 (N : Nat) : Hint := { loops := hd56x0, regs := rg56x0, los := [] }
theorem al56x0s0 (N : Nat) : AllCuts Try.prog (h56x0s0 N).los 0 56 := AllCuts.nil
noncomputable def F56x0x18002 (N : Nat) {R : Type} (w1 : Int) (w2 : Bool) (k0 : Bool → R) : R :=
  bif w2 then
    k0 true
  else
    k0 (w1 == 2)
noncomputable def V56x0x18002 (N : Nat) (w1 : Int) (w2 : Bool) : Bool := F56x0x18002 N w1 w2 (fun p => p)
theorem tot56x0x18002 (N : Nat) {R : Type} (w1 : Int) (w2 : Bool) (k0 : Bool → R) : F56x0x18002 N w1 w2 k0 = k0 (V56x0x18002 N w1 w2) := by
  unfold V56x0x18002 F56x0x18002
  repeat' (first | rfl | apply cond_k | (apply bnd_k; intro _))
noncomputable def sh56x0x18002 : Sh := { tmps := [(2, .c (.p 2 0)), (3, .c (.p 3 0)), (5, .c (.b)), (10, .c (.i .i64)), (11, .c (.b))], mem := [(2, .box [.i .i64, .i .i64, .i .i64, .sl 66, .sl 68]), (3, .box [.i .i64, .i .i64, .i .i64, .i .i64, .i .i64, .s])] }
noncomputable def K56x0x18002w0 (L : List Lf) (p : Bool) : Ex × St := (.normal, ⟨[(2, .c (.p 2 0)), (3, .c (.p 3 0)), (5, .c (.b (lb L 0))), (10, .c (.i .i64 (li L 1))), (11, .c (.b p))], [(2, .box [.i .i64 (li L 3), .i .i64 (li L 4), .i .i64 (li L 5), .sl 66 (lb L 6) (ll L 7), .sl 68 (lb L 8) (ll L 9)]), (3, .box [.i .i64 (li L 10), .i .i64 (li L 11), .i .i64 (li L 12), .i .i64 (li L 13), .i .i64 (li L 14), .s (ls L 15)])]⟩)
noncomputable def A56x0x18002 (N : Nat) (L : List Lf) : List (Bool × (Ex × St)) := bnd (F56x0x18002 N (li L 1) (lb L 2) (fun p => p)) fun q => [(true, K56x0x18002w0 L q)]
theorem raw56x0x18002 (N : Nat) (L : List Lf) : (exec Try.prog (T84x0 N) (h56x0s0 N) 0 100 (piece Try.prog 56 18002) (ofSh sh56x0x18002 L) (fun e st => some (e, cutSt [3, 2, 10, 5, 11] [3, 2] st)) : Option (Ex × St)) = F56x0x18002 N (li L 1) (lb L 2) (fun p => some (K56x0x18002w0 L p)) := by kernel_rfl
theorem one56x0x18002 : oneB Try.prog 56 18002 = true := by kernel_rfl
theorem law56x0x18002 (N : Nat) : CutLaw Try.prog 0 (piece Try.prog 56 18002) (loSh sh56x0x18002 (A56x0x18002 N)) :=
  law_sh progOk (T84x0_ok N) (al56x0s0 N) one56x0x18002 fun L x hx => (raw56x0x18002 N L).trans ((tot56x0x18002 N ..).trans (alt0 _ _ hx))
noncomputable def h56x0s1 (N : Nat) : Hint := { (h56x0s0 N) with los := (18002, loSh sh56x0x18002 (A56x0x18002 N)) :: (h56x0s0 N).los }
theorem al56x0s1 (N : Nat) : AllCuts Try.prog (h56x0s1 N).los 0 56 := AllCuts.cons (al56x0s0 N) one56x0x18002 (law56x0x18002 N)
noncomputable def F56x0x27002 (N : Nat) {R : Type} (w1 : Int) (w2 : Bool) (k0 : Bool → R) : R :=
  bif w2 then
    k0 true
  else
    k0 (w1 == 9)
noncomputable def V56x0x27002 (N : Nat) (w1 : Int) (w2 : Bool) : Bool := F56x0x27002 N w1 w2 (fun p => p)
theorem tot56x0x27002 (N : Nat) {R : Type} (w1 : Int) (w2 : Bool) (k0 : Bool → R) : F56x0x27002 N w1 w2 k0 = k0 (V56x0x27002 N w1 w2) := by
  unfold V56x0x27002 F56x0x27002
  repeat' (first | rfl | apply cond_k | (apply bnd_k; intro _))
noncomputable def sh56x0x27002 : Sh := { tmps := [(2, .c (.p 2 0)), (3, .c (.p 3 0)), (5, .c (.b)), (10, .c (.i .i64)), (17, .c (.b))], mem := [(2, .box [.i .i64, .i .i64, .i .i64, .sl 66, .sl 68]), (3, .box [.i .i64, .i .i64, .i .i64, .i .i64, .i .i64, .s])] }
noncomputable def K56x0x27002w0 (L : List Lf) (p : Bool) : Ex × St := (.normal, ⟨[(2, .c (.p 2 0)), (3, .c (.p 3 0)), (5, .c (.b (lb L 0))), (17, .c (.b p))], [(2, .box [.i .i64 (li L 3), .i .i64 (li L 4), .i .i64 (li L 5), .sl 66 (lb L 6) (ll L 7), .sl 68 (lb L 8) (ll L 9)]), (3, .box [.i .i64 (li L 10), .i .i64 (li L 11), .i .i64 (li L 12), .i .i64 (li L 13), .i .i64 (li L 14), .s (ls L 15)])]⟩)
noncomputable def A56x0x27002 (N : Nat) (L : List Lf) : List (Bool × (Ex × St)) := bnd (F56x0x27002 N (li L 1) (lb L 2) (fun p => p)) fun q => [(true, K56x0x27002w0 L q)]
theorem raw56x0x27002 (N : Nat) (L : List Lf) : (exec Try.prog (T84x0 N) (h56x0s1 N) 0 100 (piece Try.prog 56 27002) (ofSh sh56x0x27002 L) (fun e st => some (e, cutSt [3, 2, 5, 17] [3, 2] st)) : Option (Ex × St)) = F56x0x27002 N (li L 1) (lb L 2) (fun p => some (K56x0x27002w0 L p)) := by kernel_rfl
theorem one56x0x27002 : oneB Try.prog 56 27002 = true := by kernel_rfl
theorem law56x0x27002 (N : Nat) : CutLaw Try.prog 0 (piece Try.prog 56 27002) (loSh sh56x0x27002 (A56x0x27002 N)) :=
  law_sh progOk (T84x0_ok N) (al56x0s1 N) one56x0x27002 fun L x hx => (raw56x0x27002 N L).trans ((tot56x0x27002 N ..).trans (alt0 _ _ hx))
noncomputable def h56x0s2 (N : Nat) : Hint := { (h56x0s1 N) with los := (27002, loSh sh56x0x27002 (A56x0x27002 N)) :: (h56x0s1 N).los }
theorem al56x0s2 (N : Nat) : AllCuts Try.prog (h56x0s2 N).los 0 56 := AllCuts.cons (al56x0s1 N) one56x0x27002 (law56x0x27002 N)
noncomputable def F56x0x32 (N : Nat) {R : Type} (w0 w1 : Bool) (w3 w10 : Int) (k0 : Bool → R) : R :=
  bif w1 then
    bnd (V50x0 N w10 0 (IntKind.wrap .i64 (w3 - 1))) fun x45364617 =>
    k0 x45364617
  else
    k0 w0
noncomputable def V56x0x32 (N : Nat) (w0 w1 : Bool) (w3 w10 : Int) : Bool := F56x0x32 N w0 w1 w3 w10 (fun p => p)
theorem tot56x0x32 (N : Nat) {R : Type} (w0 w1 : Bool) (w3 w10 : Int) (k0 : Bool → R) : F56x0x32 N w0 w1 w3 w10 k0 = k0 (V56x0x32 N w0 w1 w3 w10) := by
  unfold V56x0x32 F56x0x32
  repeat' (first | rfl | apply cond_k | (apply bnd_k; intro _))
noncomputable def J56x0x32 (N : Nat) (L : List Lf) {R : Type} (k0 : Bool → R) : R := F56x0x32 N (lb L 0) (lb L 1) (li L 3) (li L 10) k0
noncomputable def sh56x0x32 : Sh := { tmps := [(2, .c (.p 2 0)), (3, .c (.p 3 0)), (5, .c (.b)), (17, .c (.b))], mem := [(2, .box [.i .i64, .i .i64, .i .i64, .sl 66, .sl 68]), (3, .box [.i .i64, .i .i64, .i .i64, .i .i64, .i .i64, .s])] }
noncomputable def K56x0x32w0 (L : List Lf) (p : Bool) : Ex × St := (.normal, ⟨[(2, .c (.p 2 0)), (3, .c (.p 3 0)), (5, .c (.b p))], [(2, .box [.i .i64 (li L 2), .i .i64 (li L 3), .i .i64 (li L 4), .sl 66 (lb L 5) (ll L 6), .sl 68 (lb L 7) (ll L 8)]), (3, .box [.i .i64 (li L 9), .i .i64 (li L 10), .i .i64 (li L 11), .i .i64 (li L 12), .i .i64 (li L 13), .s (ls L 14)])]⟩)
noncomputable def A56x0x32 (N : Nat) (L : List Lf) : List (Bool × (Ex × St)) := bnd (J56x0x32 N L (fun p => p)) fun q => [(true, K56x0x32w0 L q)]
theorem raw56x0x32 (N : Nat) (L : List Lf) : (exec Try.prog (T84x0 N) (h56x0s2 N) 0 100 (piece Try.prog 56 32) (ofSh sh56x0x32 L) (fun e st => some (e, cutSt [3, 5, 2] [3, 2] st)) : Option (Ex × St)) = J56x0x32 N L (fun p => some (K56x0x32w0 L p)) := by kernel_rfl
theorem one56x0x32 : oneB Try.prog 56 32 = true := by kernel_rfl
theorem law56x0x32 (N : Nat) : CutLaw Try.prog 0 (piece Try.prog 56 32) (loSh sh56x0x32 (A56x0x32 N)) :=
  law_sh progOk (T84x0_ok N) (al56x0s2 N) one56x0x32 fun L x hx => (raw56x0x32 N L).trans ((tot56x0x32 N ..).trans (alt0 _ _ hx))
noncomputable def h56x0s3 (N : Nat) : Hint := { (h56x0s2 N) with los := (32, loSh sh56x0x32 (A56x0x32 N)) :: (h56x0s2 N).los }
theorem al56x0s3 (N : Nat) : AllCuts Try.prog (h56x0s3 N).los 0 56 := AllCuts.cons (al56x0s2 N) one56x0x32 (law56x0x32 N)
noncomputable def F56x0x24023 (N : Nat) {R : Type} (w0 : Bool) (w1 : Int) (w2 : Bool) (w4 w11 : Int) (k0 : Bool → R) : R :=
  bif w2 then
    bnd (V50x0 N w11 0 6) fun x15896107 =>
    k0 x15896107
  else
    bnd (V56x0x27002 N w1 (w1 == 8)) fun x57778389 =>
    bnd (V56x0x32 N w0 x57778389 w4 w11) fun x27441555 =>
    k0 x27441555
noncomputable def V56x0x24023 (N : Nat) (w0 : Bool) (w1 : Int) (w2 : Bool) (w4 w11 : Int) : Bool := F56x0x24023 N w0 w1 w2 w4 w11 (fun p => p)
theorem tot56x0x24023 (N : Nat) {R : Type} (w0 : Bool) (w1 : Int) (w2 : Bool) (w4 w11 : Int) (k0 : Bool → R) : F56x0x24023 N w0 w1 w2 w4 w11 k0 = k0 (V56x0x24023 N w0 w1 w2 w4 w11) := by
  unfold V56x0x24023 F56x0x24023
  repeat' (first | rfl | apply cond_k | (apply bnd_k; intro _))
noncomputable def J56x0x24023 (N : Nat) (L : List Lf) {R : Type} (k0 : Bool → R) : R := F56x0x24023 N (lb L 0) (li L 1) (lb L 2) (li L 4) (li L 11) k0
noncomputable def sh56x0x24023 : Sh := { tmps := [(2, .c (.p 2 0)), (3, .c (.p 3 0)), (5, .c (.b)), (10, .c (.i .i64)), (11, .c (.b))], mem := [(2, .box [.i .i64, .i .i64, .i .i64, .sl 66, .sl 68]), (3, .box [.i .i64, .i .i64, .i .i64, .i .i64, .i .i64, .s])] }
noncomputable def K56x0x24023w0 (L : List Lf) (p : Bool) : Ex × St := (.normal, ⟨[(2, .c (.p 2 0)), (3, .c (.p 3 0)), (5, .c (.b p))], [(2, .box [.i .i64 (li L 3), .i .i64 (li L 4), .i .i64 (li L 5), .sl 66 (lb L 6) (ll L 7), .sl 68 (lb L 8) (ll L 9)]), (3, .box [.i .i64 (li L 10), .i .i64 (li L 11), .i .i64 (li L 12), .i .i64 (li L 13), .i .i64 (li L 14), .s (ls L 15)])]⟩)
noncomputable def A56x0x24023 (N : Nat) (L : List Lf) : List (Bool × (Ex × St)) := bnd (J56x0x24023 N L (fun p => p)) fun q => [(true, K56x0x24023w0 L q)]
theorem raw56x0x24023 (N : Nat) (L : List Lf) : (exec Try.prog (T84x0 N) (h56x0s3 N) 0 100 (piece Try.prog 56 24023) (ofSh sh56x0x24023 L) (fun e st => some (e, cutSt [3, 5, 2] [3, 2] st)) : Option (Ex × St)) = J56x0x24023 N L (fun p => some (K56x0x24023w0 L p)) := by kernel_rfl
theorem one56x0x24023 : oneB Try.prog 56 24023 = true := by kernel_rfl
theorem law56x0x24023 (N : Nat) : CutLaw Try.prog 0 (piece Try.prog 56 24023) (loSh sh56x0x24023 (A56x0x24023 N)) :=
  law_sh progOk (T84x0_ok N) (al56x0s3 N) one56x0x24023 fun L x hx => (raw56x0x24023 N L).trans ((tot56x0x24023 N ..).trans (alt0 _ _ hx))
noncomputable def h56x0s4 (N : Nat) : Hint := { (h56x0s3 N) with los := (24023, loSh sh56x0x24023 (A56x0x24023 N)) :: (h56x0s3 N).los }
theorem al56x0s4 (N : Nat) : AllCuts Try.prog (h56x0s4 N).los 0 56 := AllCuts.cons (al56x0s3 N) one56x0x24023 (law56x0x24023 N)
noncomputable def F56x0x48002 (N : Nat) {R : Type} (w1 : Int) (w2 : Bool) (k0 : Bool → R) : R :=
  bif w2 then
    k0 true
  else
    k0 (w1 == 9)
noncomputable def V56x0x48002 (N : Nat) (w1 : Int) (w2 : Bool) : Bool := F56x0x48002 N w1 w2 (fun p => p)
theorem tot56x0x48002 (N : Nat) {R : Type} (w1 : Int) (w2 : Bool) (k0 : Bool → R) : F56x0x48002 N w1 w2 k0 = k0 (V56x0x48002 N w1 w2) := by
  unfold V56x0x48002 F56x0x48002
  repeat' (first | rfl | apply cond_k | (apply bnd_k; intro _))
noncomputable def sh56x0x48002 : Sh := { tmps := [(2, .c (.p 2 0)), (3, .c (.p 3 0)), (5, .c (.b)), (27, .c (.i .i64)), (28, .c (.b))], mem := [(2, .box [.i .i64, .i .i64, .i .i64, .sl 66, .sl 68]), (3, .box [.i .i64, .i .i64, .i .i64, .i .i64, .i .i64, .s])] }
noncomputable def K56x0x48002w0 (L : List Lf) (p : Bool) : Ex × St := (.normal, ⟨[(2, .c (.p 2 0)), (3, .c (.p 3 0)), (5, .c (.b (lb L 0))), (27, .c (.i .i64 (li L 1))), (28, .c (.b p))], [(2, .box [.i .i64 (li L 3), .i .i64 (li L 4), .i .i64 (li L 5), .sl 66 (lb L 6) (ll L 7), .sl 68 (lb L 8) (ll L 9)]), (3, .box [.i .i64 (li L 10), .i .i64 (li L 11), .i .i64 (li L 12), .i .i64 (li L 13), .i .i64 (li L 14), .s (ls L 15)])]⟩)
noncomputable def A56x0x48002 (N : Nat) (L : List Lf) : List (Bool × (Ex × St)) := bnd (F56x0x48002 N (li L 1) (lb L 2) (fun p => p)) fun q => [(true, K56x0x48002w0 L q)]
theorem raw56x0x48002 (N : Nat) (L : List Lf) : (exec Try.prog (T84x0 N) (h56x0s4 N) 0 100 (piece Try.prog 56 48002) (ofSh sh56x0x48002 L) (fun e st => some (e, cutSt [5, 3, 2, 27, 28] [3, 2] st)) : Option (Ex × St)) = F56x0x48002 N (li L 1) (lb L 2) (fun p => some (K56x0x48002w0 L p)) := by kernel_rfl
theorem one56x0x48002 : oneB Try.prog 56 48002 = true := by kernel_rfl
theorem law56x0x48002 (N : Nat) : CutLaw Try.prog 0 (piece Try.prog 56 48002) (loSh sh56x0x48002 (A56x0x48002 N)) :=
  law_sh progOk (T84x0_ok N) (al56x0s4 N) one56x0x48002 fun L x hx => (raw56x0x48002 N L).trans ((tot56x0x48002 N ..).trans (alt0 _ _ hx))
noncomputable def h56x0s5 (N : Nat) : Hint := { (h56x0s4 N) with los := (48002, loSh sh56x0x48002 (A56x0x48002 N)) :: (h56x0s4 N).los }
theorem al56x0s5 (N : Nat) : AllCuts Try.prog (h56x0s5 N).los 0 56 := AllCuts.cons (al56x0s4 N) one56x0x48002 (law56x0x48002 N)
noncomputable def F56x0x45002 (N : Nat) {R : Type} (w1 : Int) (w2 : Bool) (k0 : Bool → R) : R :=
  bif w2 then
    k0 true
  else
    bnd (V56x0x48002 N w1 (w1 == 7)) fun x61552633 =>
    k0 x61552633
noncomputable def V56x0x45002 (N : Nat) (w1 : Int) (w2 : Bool) : Bool := F56x0x45002 N w1 w2 (fun p => p)
theorem tot56x0x45002 (N : Nat) {R : Type} (w1 : Int) (w2 : Bool) (k0 : Bool → R) : F56x0x45002 N w1 w2 k0 = k0 (V56x0x45002 N w1 w2) := by
  unfold V56x0x45002 F56x0x45002
  repeat' (first | rfl | apply cond_k | (apply bnd_k; intro _))
noncomputable def sh56x0x45002 : Sh := { tmps := [(2, .c (.p 2 0)), (3, .c (.p 3 0)), (5, .c (.b)), (27, .c (.i .i64)), (28, .c (.b))], mem := [(2, .box [.i .i64, .i .i64, .i .i64, .sl 66, .sl 68]), (3, .box [.i .i64, .i .i64, .i .i64, .i .i64, .i .i64, .s])] }
noncomputable def K56x0x45002w0 (L : List Lf) (p : Bool) : Ex × St := (.normal, ⟨[(2, .c (.p 2 0)), (3, .c (.p 3 0)), (5, .c (.b (lb L 0))), (27, .c (.i .i64 (li L 1))), (28, .c (.b p))], [(2, .box [.i .i64 (li L 3), .i .i64 (li L 4), .i .i64 (li L 5), .sl 66 (lb L 6) (ll L 7), .sl 68 (lb L 8) (ll L 9)]), (3, .box [.i .i64 (li L 10), .i .i64 (li L 11), .i .i64 (li L 12), .i .i64 (li L 13), .i .i64 (li L 14), .s (ls L 15)])]⟩)
noncomputable def A56x0x45002 (N : Nat) (L : List Lf) : List (Bool × (Ex × St)) := bnd (F56x0x45002 N (li L 1) (lb L 2) (fun p => p)) fun q => [(true, K56x0x45002w0 L q)]
theorem raw56x0x45002 (N : Nat) (L : List Lf) : (exec Try.prog (T84x0 N) (h56x0s5 N) 0 100 (piece Try.prog 56 45002) (ofSh sh56x0x45002 L) (fun e st => some (e, cutSt [5, 3, 2, 27, 28] [3, 2] st)) : Option (Ex × St)) = F56x0x45002 N (li L 1) (lb L 2) (fun p => some (K56x0x45002w0 L p)) := by kernel_rfl
theorem one56x0x45002 : oneB Try.prog 56 45002 = true := by kernel_rfl
theorem law56x0x45002 (N : Nat) : CutLaw Try.prog 0 (piece Try.prog 56 45002) (loSh sh56x0x45002 (A56x0x45002 N)) :=
  law_sh progOk (T84x0_ok N) (al56x0s5 N) one56x0x45002 fun L x hx => (raw56x0x45002 N L).trans ((tot56x0x45002 N ..).trans (alt0 _ _ hx))
noncomputable def h56x0s6 (N : Nat) : Hint := { (h56x0s5 N) with los := (45002, loSh sh56x0x45002 (A56x0x45002 N)) :: (h56x0s5 N).los }
theorem al56x0s6 (N : Nat) : AllCuts Try.prog (h56x0s6 N).los 0 56 := AllCuts.cons (al56x0s5 N) one56x0x45002 (law56x0x45002 N)
noncomputable def F56x0x42002 (N : Nat) {R : Type} (w1 : Int) (w2 : Bool) (k0 : Bool → R) : R :=
  bif w2 then
    k0 true
  else
    bnd (V56x0x45002 N w1 (w1 == 4)) fun x86725032 =>
    k0 x86725032
noncomputable def V56x0x42002 (N : Nat) (w1 : Int) (w2 : Bool) : Bool := F56x0x42002 N w1 w2 (fun p => p)
theorem tot56x0x42002 (N : Nat) {R : Type} (w1 : Int) (w2 : Bool) (k0 : Bool → R) : F56x0x42002 N w1 w2 k0 = k0 (V56x0x42002 N w1 w2) := by
  unfold V56x0x42002 F56x0x42002
  repeat' (first | rfl | apply cond_k | (apply bnd_k; intro _))
noncomputable def sh56x0x42002 : Sh := { tmps := [(2, .c (.p 2 0)), (3, .c (.p 3 0)), (5, .c (.b)), (27, .c (.i .i64)), (28, .c (.b))], mem := [(2, .box [.i .i64, .i .i64, .i .i64, .sl 66, .sl 68]), (3, .box [.i .i64, .i .i64, .i .i64, .i .i64, .i .i64, .s])] }
noncomputable def K56x0x42002w0 (L : List Lf) (p : Bool) : Ex × St := (.normal, ⟨[(2, .c (.p 2 0)), (3, .c (.p 3 0)), (5, .c (.b (lb L 0))), (27, .c (.i .i64 (li L 1))), (28, .c (.b p))], [(2, .box [.i .i64 (li L 3), .i .i64 (li L 4), .i .i64 (li L 5), .sl 66 (lb L 6) (ll L 7), .sl 68 (lb L 8) (ll L 9)]), (3, .box [.i .i64 (li L 10), .i .i64 (li L 11), .i .i64 (li L 12), .i .i64 (li L 13), .i .i64 (li L 14), .s (ls L 15)])]⟩)
noncomputable def A56x0x42002 (N : Nat) (L : List Lf) : List (Bool × (Ex × St)) := bnd (F56x0x42002 N (li L 1) (lb L 2) (fun p => p)) fun q => [(true, K56x0x42002w0 L q)]
theorem raw56x0x42002 (N : Nat) (L : List Lf) : (exec Try.prog (T84x0 N) (h56x0s6 N) 0 100 (piece Try.prog 56 42002) (ofSh sh56x0x42002 L) (fun e st => some (e, cutSt [5, 3, 2, 27, 28] [3, 2] st)) : Option (Ex × St)) = F56x0x42002 N (li L 1) (lb L 2) (fun p => some (K56x0x42002w0 L p)) := by kernel_rfl
theorem one56x0x42002 : oneB Try.prog 56 42002 = true := by kernel_rfl
theorem law56x0x42002 (N : Nat) : CutLaw Try.prog 0 (piece Try.prog 56 42002) (loSh sh56x0x42002 (A56x0x42002 N)) :=
  law_sh progOk (T84x0_ok N) (al56x0s6 N) one56x0x42002 fun L x hx => (raw56x0x42002 N L).trans ((tot56x0x42002 N ..).trans (alt0 _ _ hx))
noncomputable def h56x0s7 (N : Nat) : Hint := { (h56x0s6 N) with los := (42002, loSh sh56x0x42002 (A56x0x42002 N)) :: (h56x0s6 N).los }
theorem al56x0s7 (N : Nat) : AllCuts Try.prog (h56x0s7 N).los 0 56 := AllCuts.cons (al56x0s6 N) one56x0x42002 (law56x0x42002 N)
noncomputable def F56x0x39002 (N : Nat) {R : Type} (w1 : Int) (w2 : Bool) (k0 : Bool → R) : R :=
  bif w2 then
    k0 true
  else
    bnd (V56x0x42002 N w1 (w1 == 3)) fun x48371816 =>
    k0 x48371816
noncomputable def V56x0x39002 (N : Nat) (w1 : Int) (w2 : Bool) : Bool := F56x0x39002 N w1 w2 (fun p => p)
theorem tot56x0x39002 (N : Nat) {R : Type} (w1 : Int) (w2 : Bool) (k0 : Bool → R) : F56x0x39002 N w1 w2 k0 = k0 (V56x0x39002 N w1 w2) := by
  unfold V56x0x39002 F56x0x39002
  repeat' (first | rfl | apply cond_k | (apply bnd_k; intro _))
noncomputable def sh56x0x39002 : Sh := { tmps := [(2, .c (.p 2 0)), (3, .c (.p 3 0)), (5, .c (.b)), (27, .c (.i .i64)), (28, .c (.b))], mem := [(2, .box [.i .i64, .i .i64, .i .i64, .sl 66, .sl 68]), (3, .box [.i .i64, .i .i64, .i .i64, .i .i64, .i .i64, .s])] }
noncomputable def K56x0x39002w0 (L : List Lf) (p : Bool) : Ex × St := (.normal, ⟨[(2, .c (.p 2 0)), (3, .c (.p 3 0)), (5, .c (.b (lb L 0))), (27, .c (.i .i64 (li L 1))), (28, .c (.b p))], [(2, .box [.i .i64 (li L 3), .i .i64 (li L 4), .i .i64 (li L 5), .sl 66 (lb L 6) (ll L 7), .sl 68 (lb L 8) (ll L 9)]), (3, .box [.i .i64 (li L 10), .i .i64 (li L 11), .i .i64 (li L 12), .i .i64 (li L 13), .i .i64 (li L 14), .s (ls L 15)])]⟩)
noncomputable def A56x0x39002 (N : Nat) (L : List Lf) : List (Bool × (Ex × St)) := bnd (F56x0x39002 N (li L 1) (lb L 2) (fun p => p)) fun q => [(true, K56x0x39002w0 L q)]
theorem raw56x0x39002 (N : Nat) (L : List Lf) : (exec Try.prog (T84x0 N) (h56x0s7 N) 0 100 (piece Try.prog 56 39002) (ofSh sh56x0x39002 L) (fun e st => some (e, cutSt [5, 3, 2, 27, 28] [3, 2] st)) : Option (Ex × St)) = F56x0x39002 N (li L 1) (lb L 2) (fun p => some (K56x0x39002w0 L p)) := by kernel_rfl
theorem one56x0x39002 : oneB Try.prog 56 39002 = true := by kernel_rfl
theorem law56x0x39002 (N : Nat) : CutLaw Try.prog 0 (piece Try.prog 56 39002) (loSh sh56x0x39002 (A56x0x39002 N)) :=
  law_sh progOk (T84x0_ok N) (al56x0s7 N) one56x0x39002 fun L x hx => (raw56x0x39002 N L).trans ((tot56x0x39002 N ..).trans (alt0 _ _ hx))
noncomputable def h56x0s8 (N : Nat) : Hint := { (h56x0s7 N) with los := (39002, loSh sh56x0x39002 (A56x0x39002 N)) :: (h56x0s7 N).los }
theorem al56x0s8 (N : Nat) : AllCuts Try.prog (h56x0s8 N).los 0 56 := AllCuts.cons (al56x0s7 N) one56x0x39002 (law56x0x39002 N)
noncomputable def F56x0x52 (N : Nat) {R : Type} (w0 : Bool) (w10 : Int) (k0 : Bool → R) : R :=
  bif w0 then
    k0 true
  else
    bnd (V50x0 N w10 0 100000) fun x67744942 =>
    k0 x67744942
noncomputable def V56x0x52 (N : Nat) (w0 : Bool) (w10 : Int) : Bool := F56x0x52 N w0 w10 (fun p => p)
theorem tot56x0x52 (N : Nat) {R : Type} (w0 : Bool) (w10 : Int) (k0 : Bool → R) : F56x0x52 N w0 w10 k0 = k0 (V56x0x52 N w0 w10) := by
  unfold V56x0x52 F56x0x52
  repeat' (first | rfl | apply cond_k | (apply bnd_k; intro _))
noncomputable def sh56x0x52 : Sh := { tmps := [(2, .c (.p 2 0)), (3, .c (.p 3 0)), (5, .c (.b))], mem := [(2, .box [.i .i64, .i .i64, .i .i64, .sl 66, .sl 68]), (3, .box [.i .i64, .i .i64, .i .i64, .i .i64, .i .i64, .s])] }
noncomputable def K56x0x52w0 (L : List Lf) (p : Bool) : Ex × St := (.normal, ⟨[(2, .c (.p 2 0)), (3, .c (.p 3 0)), (5, .c (.b p))], [(2, .box [.i .i64 (li L 1), .i .i64 (li L 2), .i .i64 (li L 3), .sl 66 (lb L 4) (ll L 5), .sl 68 (lb L 6) (ll L 7)]), (3, .box [.i .i64 (li L 8), .i .i64 (li L 9), .i .i64 (li L 10), .i .i64 (li L 11), .i .i64 (li L 12), .s (ls L 13)])]⟩)
noncomputable def A56x0x52 (N : Nat) (L : List Lf) : List (Bool × (Ex × St)) := bnd (F56x0x52 N (lb L 0) (li L 10) (fun p => p)) fun q => [(true, K56x0x52w0 L q)]
theorem raw56x0x52 (N : Nat) (L : List Lf) : (exec Try.prog (T84x0 N) (h56x0s8 N) 0 100 (piece Try.prog 56 52) (ofSh sh56x0x52 L) (fun e st => some (e, cutSt [3, 5, 2] [3, 2] st)) : Option (Ex × St)) = F56x0x52 N (lb L 0) (li L 10) (fun p => some (K56x0x52w0 L p)) := by kernel_rfl
theorem one56x0x52 : oneB Try.prog 56 52 = true := by kernel_rfl
theorem law56x0x52 (N : Nat) : CutLaw Try.prog 0 (piece Try.prog 56 52) (loSh sh56x0x52 (A56x0x52 N)) :=
  law_sh progOk (T84x0_ok N) (al56x0s8 N) one56x0x52 fun L x hx => (raw56x0x52 N L).trans ((tot56x0x52 N ..).trans (alt0 _ _ hx))
noncomputable def h56x0s9 (N : Nat) : Hint := { (h56x0s8 N) with los := (52, loSh sh56x0x52 (A56x0x52 N)) :: (h56x0s8 N).los }
theorem al56x0s9 (N : Nat) : AllCuts Try.prog (h56x0s9 N).los 0 56 := AllCuts.cons (al56x0s8 N) one56x0x52 (law56x0x52 N)
noncomputable def F56x0x58 (N : Nat) {R : Type} (w0 : Bool) (w10 : Int) (k0 : Bool → R) : R :=
  bif w0 then
    k0 true
  else
    bnd (V50x0 N w10 1 14) fun x33079682 =>
    k0 x33079682
noncomputable def V56x0x58 (N : Nat) (w0 : Bool) (w10 : Int) : Bool := F56x0x58 N w0 w10 (fun p => p)
theorem tot56x0x58 (N : Nat) {R : Type} (w0 : Bool) (w10 : Int) (k0 : Bool → R) : F56x0x58 N w0 w10 k0 = k0 (V56x0x58 N w0 w10) := by
  unfold V56x0x58 F56x0x58
  repeat' (first | rfl | apply cond_k | (apply bnd_k; intro _))
noncomputable def sh56x0x58 : Sh := { tmps := [(2, .c (.p 2 0)), (3, .c (.p 3 0)), (5, .c (.b))], mem := [(2, .box [.i .i64, .i .i64, .i .i64, .sl 66, .sl 68]), (3, .box [.i .i64, .i .i64, .i .i64, .i .i64, .i .i64, .s])] }
noncomputable def K56x0x58w0 (L : List Lf) (p : Bool) : Ex × St := (.normal, ⟨[(2, .c (.p 2 0)), (3, .c (.p 3 0)), (5, .c (.b p))], [(2, .box [.i .i64 (li L 1), .i .i64 (li L 2), .i .i64 (li L 3), .sl 66 (lb L 4) (ll L 5), .sl 68 (lb L 6) (ll L 7)]), (3, .box [.i .i64 (li L 8), .i .i64 (li L 9), .i .i64 (li L 10), .i .i64 (li L 11), .i .i64 (li L 12), .s (ls L 13)])]⟩)
noncomputable def A56x0x58 (N : Nat) (L : List Lf) : List (Bool × (Ex × St)) := bnd (F56x0x58 N (lb L 0) (li L 10) (fun p => p)) fun q => [(true, K56x0x58w0 L q)]
theorem raw56x0x58 (N : Nat) (L : List Lf) : (exec Try.prog (T84x0 N) (h56x0s9 N) 0 100 (piece Try.prog 56 58) (ofSh sh56x0x58 L) (fun e st => some (e, cutSt [3, 5, 2] [3, 2] st)) : Option (Ex × St)) = F56x0x58 N (lb L 0) (li L 10) (fun p => some (K56x0x58w0 L p)) := by kernel_rfl
theorem one56x0x58 : oneB Try.prog 56 58 = true := by kernel_rfl
theorem law56x0x58 (N : Nat) : CutLaw Try.prog 0 (piece Try.prog 56 58) (loSh sh56x0x58 (A56x0x58 N)) :=
  law_sh progOk (T84x0_ok N) (al56x0s9 N) one56x0x58 fun L x hx => (raw56x0x58 N L).trans ((tot56x0x58 N ..).trans (alt0 _ _ hx))
noncomputable def h56x0s10 (N : Nat) : Hint := { (h56x0s9 N) with los := (58, loSh sh56x0x58 (A56x0x58 N)) :: (h56x0s9 N).los }
theorem al56x0s10 (N : Nat) : AllCuts Try.prog (h56x0s10 N).los 0 56 := AllCuts.cons (al56x0s9 N) one56x0x58 (law56x0x58 N)
noncomputable def F56x0x65 (N : Nat) {R : Type} (w0 w1 : Bool) (w12 w13 : Int) (k0 : Bool → R) : R :=
  bif w1 then
    bnd (bif (bif w0 then true else (decide (w12 < 0))) then true else (decide (w12 > w13))) fun x76540399 =>
    k0 (bif x76540399 then true else (decide (w13 > 7)))
  else
    k0 w0
noncomputable def V56x0x65 (N : Nat) (w0 w1 : Bool) (w12 w13 : Int) : Bool := F56x0x65 N w0 w1 w12 w13 (fun p => p)
theorem tot56x0x65 (N : Nat) {R : Type} (w0 w1 : Bool) (w12 w13 : Int) (k0 : Bool → R) : F56x0x65 N w0 w1 w12 w13 k0 = k0 (V56x0x65 N w0 w1 w12 w13) := by
  unfold V56x0x65 F56x0x65
  repeat' (first | rfl | apply cond_k | (apply bnd_k; intro _))
noncomputable def J56x0x65 (N : Nat) (L : List Lf) {R : Type} (k0 : Bool → R) : R := F56x0x65 N (lb L 0) (lb L 1) (li L 12) (li L 13) k0
noncomputable def sh56x0x65 : Sh := { tmps := [(2, .c (.p 2 0)), (3, .c (.p 3 0)), (5, .c (.b)), (48, .c (.b))], mem := [(2, .box [.i .i64, .i .i64, .i .i64, .sl 66, .sl 68]), (3, .box [.i .i64, .i .i64, .i .i64, .i .i64, .i .i64, .s])] }
noncomputable def K56x0x65w0 (L : List Lf) (p : Bool) : Ex × St := (.normal, ⟨[(2, .c (.p 2 0)), (3, .c (.p 3 0)), (5, .c (.b p))], [(2, .box [.i .i64 (li L 2), .i .i64 (li L 3), .i .i64 (li L 4), .sl 66 (lb L 5) (ll L 6), .sl 68 (lb L 7) (ll L 8)]), (3, .box [.i .i64 (li L 9), .i .i64 (li L 10), .i .i64 (li L 11), .i .i64 (li L 12), .i .i64 (li L 13), .s (ls L 14)])]⟩)
noncomputable def A56x0x65 (N : Nat) (L : List Lf) : List (Bool × (Ex × St)) := bnd (J56x0x65 N L (fun p => p)) fun q => [(true, K56x0x65w0 L q)]
theorem raw56x0x65 (N : Nat) (L : List Lf) : (exec Try.prog (T84x0 N) (h56x0s10 N) 0 100 (piece Try.prog 56 65) (ofSh sh56x0x65 L) (fun e st => some (e, cutSt [3, 5, 2] [3, 2] st)) : Option (Ex × St)) = J56x0x65 N L (fun p => some (K56x0x65w0 L p)) := by kernel_rfl
theorem one56x0x65 : oneB Try.prog 56 65 = true := by kernel_rfl
theorem law56x0x65 (N : Nat) : CutLaw Try.prog 0 (piece Try.prog 56 65) (loSh sh56x0x65 (A56x0x65 N)) :=
  law_sh progOk (T84x0_ok N) (al56x0s10 N) one56x0x65 fun L x hx => (raw56x0x65 N L).trans ((tot56x0x65 N ..).trans (alt0 _ _ hx))
noncomputable def h56x0s11 (N : Nat) : Hint := { (h56x0s10 N) with los := (65, loSh sh56x0x65 (A56x0x65 N)) :: (h56x0s10 N).los }
theorem al56x0s11 (N : Nat) : AllCuts Try.prog (h56x0s11 N).los 0 56 := AllCuts.cons (al56x0s10 N) one56x0x65 (law56x0x65 N)
noncomputable def F56x0x60059 (N : Nat) {R : Type} (w0 : Bool) (w1 : Int) (w2 : Bool) (w12 w13 w14 : Int) (k0 : Bool → R) : R :=
  bif w2 then
    bnd (V56x0x58 N w0 w12) fun x66452134 =>
    k0 x66452134
  else
    bnd (V56x0x65 N w0 (w1 == 6) w13 w14) fun x50082434 =>
    k0 x50082434
noncomputable def V56x0x60059 (N : Nat) (w0 : Bool) (w1 : Int) (w2 : Bool) (w12 w13 w14 : Int) : Bool := F56x0x60059 N w0 w1 w2 w12 w13 w14 (fun p => p)
theorem tot56x0x60059 (N : Nat) {R : Type} (w0 : Bool) (w1 : Int) (w2 : Bool) (w12 w13 w14 : Int) (k0 : Bool → R) : F56x0x60059 N w0 w1 w2 w12 w13 w14 k0 = k0 (V56x0x60059 N w0 w1 w2 w12 w13 w14) := by
  unfold V56x0x60059 F56x0x60059
  repeat' (first | rfl | apply cond_k | (apply bnd_k; intro _))
noncomputable def J56x0x60059 (N : Nat) (L : List Lf) {R : Type} (k0 : Bool → R) : R := F56x0x60059 N (lb L 0) (li L 1) (lb L 2) (li L 12) (li L 13) (li L 14) k0
noncomputable def sh56x0x60059 : Sh := { tmps := [(2, .c (.p 2 0)), (3, .c (.p 3 0)), (5, .c (.b)), (27, .c (.i .i64)), (40, .c (.b))], mem := [(2, .box [.i .i64, .i .i64, .i .i64, .sl 66, .sl 68]), (3, .box [.i .i64, .i .i64, .i .i64, .i .i64, .i .i64, .s])] }
noncomputable def K56x0x60059w0 (L : List Lf) (p : Bool) : Ex × St := (.normal, ⟨[(2, .c (.p 2 0)), (3, .c (.p 3 0)), (5, .c (.b p))], [(2, .box [.i .i64 (li L 3), .i .i64 (li L 4), .i .i64 (li L 5), .sl 66 (lb L 6) (ll L 7), .sl 68 (lb L 8) (ll L 9)]), (3, .box [.i .i64 (li L 10), .i .i64 (li L 11), .i .i64 (li L 12), .i .i64 (li L 13), .i .i64 (li L 14), .s (ls L 15)])]⟩)
noncomputable def A56x0x60059 (N : Nat) (L : List Lf) : List (Bool × (Ex × St)) := bnd (J56x0x60059 N L (fun p => p)) fun q => [(true, K56x0x60059w0 L q)]
theorem raw56x0x60059 (N : Nat) (L : List Lf) : (exec Try.prog (T84x0 N) (h56x0s11 N) 0 100 (piece Try.prog 56 60059) (ofSh sh56x0x60059 L) (fun e st => some (e, cutSt [3, 5, 2] [3, 2] st)) : Option (Ex × St)) = J56x0x60059 N L (fun p => some (K56x0x60059w0 L p)) := by kernel_rfl
theorem one56x0x60059 : oneB Try.prog 56 60059 = true := by kernel_rfl
theorem law56x0x60059 (N : Nat) : CutLaw Try.prog 0 (piece Try.prog 56 60059) (loSh sh56x0x60059 (A56x0x60059 N)) :=
  law_sh progOk (T84x0_ok N) (al56x0s11 N) one56x0x60059 fun L x hx => (raw56x0x60059 N L).trans ((tot56x0x60059 N ..).trans (alt0 _ _ hx))
noncomputable def h56x0s12 (N : Nat) : Hint := { (h56x0s11 N) with los := (60059, loSh sh56x0x60059 (A56x0x60059 N)) :: (h56x0s11 N).los }
theorem al56x0s12 (N : Nat) : AllCuts Try.prog (h56x0s12 N).los 0 56 := AllCuts.cons (al56x0s11 N) one56x0x60059 (law56x0x60059 N)
noncomputable def F56x0x54053 (N : Nat) {R : Type} (w0 : Bool) (w1 : Int) (w2 : Bool) (w12 w13 w14 : Int) (k0 : Bool → R) : R :=
  bif w2 then
    bnd (V56x0x52 N w0 w12) fun x21891086 =>
    k0 x21891086
  else
    bnd (V56x0x60059 N w0 w1 (w1 == 5) w12 w13 w14) fun x46803130 =>
    k0 x46803130
noncomputable def V56x0x54053 (N : Nat) (w0 : Bool) (w1 : Int) (w2 : Bool) (w12 w13 w14 : Int) : Bool := F56x0x54053 N w0 w1 w2 w12 w13 w14 (fun p => p)
theorem tot56x0x54053 (N : Nat) {R : Type} (w0 : Bool) (w1 : Int) (w2 : Bool) (w12 w13 w14 : Int) (k0 : Bool → R) : F56x0x54053 N w0 w1 w2 w12 w13 w14 k0 = k0 (V56x0x54053 N w0 w1 w2 w12 w13 w14) := by
  unfold V56x0x54053 F56x0x54053
  repeat' (first | rfl | apply cond_k | (apply bnd_k; intro _))
noncomputable def J56x0x54053 (N : Nat) (L : List Lf) {R : Type} (k0 : Bool → R) : R := F56x0x54053 N (lb L 0) (li L 1) (lb L 2) (li L 12) (li L 13) (li L 14) k0
noncomputable def sh56x0x54053 : Sh := { tmps := [(2, .c (.p 2 0)), (3, .c (.p 3 0)), (5, .c (.b)), (27, .c (.i .i64)), (28, .c (.b))], mem := [(2, .box [.i .i64, .i .i64, .i .i64, .sl 66, .sl 68]), (3, .box [.i .i64, .i .i64, .i .i64, .i .i64, .i .i64, .s])] }
noncomputable def K56x0x54053w0 (L : List Lf) (p : Bool) : Ex × St := (.normal, ⟨[(2, .c (.p 2 0)), (3, .c (.p 3 0)), (5, .c (.b p))], [(2, .box [.i .i64 (li L 3), .i .i64 (li L 4), .i .i64 (li L 5), .sl 66 (lb L 6) (ll L 7), .sl 68 (lb L 8) (ll L 9)]), (3, .box [.i .i64 (li L 10), .i .i64 (li L 11), .i .i64 (li L 12), .i .i64 (li L 13), .i .i64 (li L 14), .s (ls L 15)])]⟩)
noncomputable def A56x0x54053 (N : Nat) (L : List Lf) : List (Bool × (Ex × St)) := bnd (J56x0x54053 N L (fun p => p)) fun q => [(true, K56x0x54053w0 L q)]
theorem raw56x0x54053 (N : Nat) (L : List Lf) : (exec Try.prog (T84x0 N) (h56x0s12 N) 0 100 (piece Try.prog 56 54053) (ofSh sh56x0x54053 L) (fun e st => some (e, cutSt [3, 5, 2] [3, 2] st)) : Option (Ex × St)) = J56x0x54053 N L (fun p => some (K56x0x54053w0 L p)) := by kernel_rfl
theorem one56x0x54053 : oneB Try.prog 56 54053 = true := by kernel_rfl
theorem law56x0x54053 (N : Nat) : CutLaw Try.prog 0 (piece Try.prog 56 54053) (loSh sh56x0x54053 (A56x0x54053 N)) :=
  law_sh progOk (T84x0_ok N) (al56x0s12 N) one56x0x54053 fun L x hx => (raw56x0x54053 N L).trans ((tot56x0x54053 N ..).trans (alt0 _ _ hx))
noncomputable def h56x0s13 (N : Nat) : Hint := { (h56x0s12 N) with los := (54053, loSh sh56x0x54053 (A56x0x54053 N)) :: (h56x0s12 N).los }
theorem al56x0s13 (N : Nat) : AllCuts Try.prog (h56x0s13 N).los 0 56 := AllCuts.cons (al56x0s12 N) one56x0x54053 (law56x0x54053 N)
noncomputable def F56x0x70 (N : Nat) {R : Type} (w0 : Bool) (w11 : Int) (k0 : Bool → R) : R :=
  bif w0 then
    k0 true
  else
    bnd (V50x0 N w11 1 14) fun x84297972 =>
    k0 x84297972
noncomputable def V56x0x70 (N : Nat) (w0 : Bool) (w11 : Int) : Bool := F56x0x70 N w0 w11 (fun p => p)
theorem tot56x0x70 (N : Nat) {R : Type} (w0 : Bool) (w11 : Int) (k0 : Bool → R) : F56x0x70 N w0 w11 k0 = k0 (V56x0x70 N w0 w11) := by
  unfold V56x0x70 F56x0x70
  repeat' (first | rfl | apply cond_k | (apply bnd_k; intro _))
noncomputable def sh56x0x70 : Sh := { tmps := [(2, .c (.p 2 0)), (3, .c (.p 3 0)), (5, .c (.b))], mem := [(2, .box [.i .i64, .i .i64, .i .i64, .sl 66, .sl 68]), (3, .box [.i .i64, .i .i64, .i .i64, .i .i64, .i .i64, .s])] }
noncomputable def K56x0x70w0 (L : List Lf) (p : Bool) : Ex × St := (.normal, ⟨[(2, .c (.p 2 0)), (3, .c (.p 3 0)), (5, .c (.b p))], [(2, .box [.i .i64 (li L 1), .i .i64 (li L 2), .i .i64 (li L 3), .sl 66 (lb L 4) (ll L 5), .sl 68 (lb L 6) (ll L 7)]), (3, .box [.i .i64 (li L 8), .i .i64 (li L 9), .i .i64 (li L 10), .i .i64 (li L 11), .i .i64 (li L 12), .s (ls L 13)])]⟩)
noncomputable def A56x0x70 (N : Nat) (L : List Lf) : List (Bool × (Ex × St)) := bnd (F56x0x70 N (lb L 0) (li L 11) (fun p => p)) fun q => [(true, K56x0x70w0 L q)]
theorem raw56x0x70 (N : Nat) (L : List Lf) : (exec Try.prog (T84x0 N) (h56x0s13 N) 0 100 (piece Try.prog 56 70) (ofSh sh56x0x70 L) (fun e st => some (e, cutSt [5, 3, 2] [3, 2] st)) : Option (Ex × St)) = F56x0x70 N (lb L 0) (li L 11) (fun p => some (K56x0x70w0 L p)) := by kernel_rfl
theorem one56x0x70 : oneB Try.prog 56 70 = true := by kernel_rfl
theorem law56x0x70 (N : Nat) : CutLaw Try.prog 0 (piece Try.prog 56 70) (loSh sh56x0x70 (A56x0x70 N)) :=
  law_sh progOk (T84x0_ok N) (al56x0s13 N) one56x0x70 fun L x hx => (raw56x0x70 N L).trans ((tot56x0x70 N ..).trans (alt0 _ _ hx))
noncomputable def h56x0s14 (N : Nat) : Hint := { (h56x0s13 N) with los := (70, loSh sh56x0x70 (A56x0x70 N)) :: (h56x0s13 N).los }
theorem al56x0s14 (N : Nat) : AllCuts Try.prog (h56x0s14 N).los 0 56 := AllCuts.cons (al56x0s13 N) one56x0x70 (law56x0x70 N)
noncomputable def F56x0x71 (N : Nat) {R : Type} (w0 w1 : Bool) (w12 : Int) (k0 : Bool → R) : R :=
  bif w1 then
    bnd (V56x0x70 N w0 w12) fun x38509768 =>
    k0 x38509768
  else
    k0 w0
noncomputable def V56x0x71 (N : Nat) (w0 w1 : Bool) (w12 : Int) : Bool := F56x0x71 N w0 w1 w12 (fun p => p)
theorem tot56x0x71 (N : Nat) {R : Type} (w0 w1 : Bool) (w12 : Int) (k0 : Bool → R) : F56x0x71 N w0 w1 w12 k0 = k0 (V56x0x71 N w0 w1 w12) := by
  unfold V56x0x71 F56x0x71
  repeat' (first | rfl | apply cond_k | (apply bnd_k; intro _))
noncomputable def sh56x0x71 : Sh := { tmps := [(2, .c (.p 2 0)), (3, .c (.p 3 0)), (5, .c (.b)), (70, .c (.b))], mem := [(2, .box [.i .i64, .i .i64, .i .i64, .sl 66, .sl 68]), (3, .box [.i .i64, .i .i64, .i .i64, .i .i64, .i .i64, .s])] }
noncomputable def K56x0x71w0 (L : List Lf) (p : Bool) : Ex × St := (.normal, ⟨[(2, .c (.p 2 0)), (3, .c (.p 3 0)), (5, .c (.b p))], [(2, .box [.i .i64 (li L 2), .i .i64 (li L 3), .i .i64 (li L 4), .sl 66 (lb L 5) (ll L 6), .sl 68 (lb L 7) (ll L 8)]), (3, .box [.i .i64 (li L 9), .i .i64 (li L 10), .i .i64 (li L 11), .i .i64 (li L 12), .i .i64 (li L 13), .s (ls L 14)])]⟩)
noncomputable def A56x0x71 (N : Nat) (L : List Lf) : List (Bool × (Ex × St)) := bnd (F56x0x71 N (lb L 0) (lb L 1) (li L 12) (fun p => p)) fun q => [(true, K56x0x71w0 L q)]
theorem raw56x0x71 (N : Nat) (L : List Lf) : (exec Try.prog (T84x0 N) (h56x0s14 N) 0 100 (piece Try.prog 56 71) (ofSh sh56x0x71 L) (fun e st => some (e, cutSt [5, 3, 2] [3, 2] st)) : Option (Ex × St)) = F56x0x71 N (lb L 0) (lb L 1) (li L 12) (fun p => some (K56x0x71w0 L p)) := by kernel_rfl
theorem one56x0x71 : oneB Try.prog 56 71 = true := by kernel_rfl
theorem law56x0x71 (N : Nat) : CutLaw Try.prog 0 (piece Try.prog 56 71) (loSh sh56x0x71 (A56x0x71 N)) :=
  law_sh progOk (T84x0_ok N) (al56x0s14 N) one56x0x71 fun L x hx => (raw56x0x71 N L).trans ((tot56x0x71 N ..).trans (alt0 _ _ hx))
noncomputable def h56x0s15 (N : Nat) : Hint := { (h56x0s14 N) with los := (71, loSh sh56x0x71 (A56x0x71 N)) :: (h56x0s14 N).los }
theorem al56x0s15 (N : Nat) : AllCuts Try.prog (h56x0s15 N).los 0 56 := AllCuts.cons (al56x0s14 N) one56x0x71 (law56x0x71 N)
noncomputable def F56x0x83 (N : Nat) {R : Type} (w0 : Bool) (w5 : (List D)) (w13 : (List UInt8)) (k0 : Unit → Option R) (k1 : Unit → Option R) : Option R :=
  bif w0 then
    bnd (G55x0 N w5 w13) fun x23878321 =>
    bif x23878321.isSome then
      bif (decide ((x23878321.getD default) < 0)) then
        k0 ()
      else
        k1 ()
    else
      none
  else
    k1 ()
noncomputable def G56x0x83 (N : Nat) (w0 : Bool) (w5 : (List D)) (w13 : (List UInt8)) : Option (Sum (Unit) (Unit)) := F56x0x83 N w0 w5 w13 (fun p => some (.inl p)) (fun p => some (.inr p))
theorem bind56x0x83 (N : Nat) {R : Type} (w0 : Bool) (w5 : (List D)) (w13 : (List UInt8)) (k0 : Unit → Option R) (k1 : Unit → Option R) : F56x0x83 N w0 w5 w13 k0 k1 = (G56x0x83 N w0 w5 w13).bind (sumE k0 k1) := by
  unfold G56x0x83 F56x0x83
  repeat' (first | rfl | apply cond_b | (apply bnd_b; intro _))
noncomputable def sh56x0x83 : Sh := { tmps := [(2, .c (.p 2 0)), (3, .c (.p 3 0)), (90, .c (.b))], mem := [(2, .box [.i .i64, .i .i64, .i .i64, .sl 66, .sl 68]), (3, .box [.i .i64, .i .i64, .i .i64, .i .i64, .i .i64, .s])] }
noncomputable def K56x0x83w0 (L : List Lf) (_ : Unit) : Ex × St := (.ret, ⟨[(4, .c (.i .i64 4))], [(3, .box [.i .i64 (li L 8), .i .i64 (li L 9), .i .i64 (li L 10), .i .i64 (li L 11), .i .i64 (li L 12), .s (ls L 13)])]⟩)
noncomputable def K56x0x83w1 (L : List Lf) (_ : Unit) : Ex × St := (.normal, ⟨[(3, .c (.p 3 0))], [(3, .box [.i .i64 (li L 8), .i .i64 (li L 9), .i .i64 (li L 10), .i .i64 (li L 11), .i .i64 (li L 12), .s (ls L 13)])]⟩)
noncomputable def A56x0x83 (N : Nat) (L : List Lf) : List (Bool × (Ex × St)) := bnd (F56x0x83 N (lb L 0) (ll L 5) (ls L 13) (fun p => some (.inl p)) (fun p => some (.inr p))) fun q => [((inlB q), K56x0x83w0 L ()), ((inrQ q).isSome, K56x0x83w1 L ())]
theorem raw56x0x83 (N : Nat) (L : List Lf) : (exec Try.prog (T84x0 N) (h56x0s15 N) 0 100 (piece Try.prog 56 83) (ofSh sh56x0x83 L) (fun e st => some (e, cutSt [3, 4] [3] st)) : Option (Ex × St)) = F56x0x83 N (lb L 0) (ll L 5) (ls L 13) (fun _ => some (K56x0x83w0 L ())) (fun _ => some (K56x0x83w1 L ())) := by kernel_rfl
theorem one56x0x83 : oneB Try.prog 56 83 = true := by kernel_rfl
theorem law56x0x83 (N : Nat) : CutLaw Try.prog 0 (piece Try.prog 56 83) (loSh sh56x0x83 (A56x0x83 N)) :=
  law_sh progOk (T84x0_ok N) (al56x0s15 N) one56x0x83 fun L x hx => (raw56x0x83 N L).trans ((bind56x0x83 N ..).trans ((altS alt1) x hx))
noncomputable def h56x0s16 (N : Nat) : Hint := { (h56x0s15 N) with los := (83, loSh sh56x0x83 (A56x0x83 N)) :: (h56x0s15 N).los }
theorem al56x0s16 (N : Nat) : AllCuts Try.prog (h56x0s16 N).los 0 56 := AllCuts.cons (al56x0s15 N) one56x0x83 (law56x0x83 N)
noncomputable def F56x0 (N : Nat) {R : Type} (v1 : Int) (v4 : (List D)) (v7 v8 v9 v10 v11 : Int) (v12 : (List UInt8)) (k0 : Int → Option R) : Option R :=
  bnd (V50x0 N v7 1 9) fun x52619040 =>
  bif x52619040 then
    k0 7
  else
    bnd (V56x0x18002 N v7 (v7 == 1)) fun x89319899 =>
    bnd (V56x0x24023 N false v7 x89319899 v1 v8) fun x22238204 =>
    bnd (V56x0x39002 N v7 (v7 == 2)) fun x70035882 =>
    bnd (V56x0x54053 N x22238204 v7 x70035882 v9 v10 v11) fun x6342997 =>
    bnd (V56x0x71 N x6342997 (v7 == 9) v10) fun x89342526 =>
    bif x89342526 then
      k0 9
    else
      bnd (bif (v7 == 6) then true else (bif (v7 == 8) then (!(v12 == ([] : List UInt8))) else false)) fun x1836053 =>
      bnd (G56x0x83 N x1836053 v4 v12) fun x94485072 =>
      bif (inlB x94485072) then
        k0 4
      else
        bif (inrQ x94485072).isSome then
          bnd (V84x0 N v7 v8 v9 v10 v11 v12) fun x39980382 =>
          bnd (!((v7 == v7) && ((x39980382.1 == v8) && ((x39980382.2.1 == v9) && ((x39980382.2.2.1 == v10) && ((x39980382.2.2.2.1 == v11) && ((x39980382.2.2.2.2 == v12) && true))))))) fun x65911562 =>
          bif x65911562 then
            k0 2
          else
            k0 0
        else
          none
noncomputable def G56x0 (N : Nat) (v1 : Int) (v4 : (List D)) (v7 v8 v9 v10 v11 : Int) (v12 : (List UInt8)) : Option (Int) := F56x0 N v1 v4 v7 v8 v9 v10 v11 v12 (fun p => some p)
theorem bind56x0 (N : Nat) {R : Type} (v1 : Int) (v4 : (List D)) (v7 v8 v9 v10 v11 : Int) (v12 : (List UInt8)) (k0 : Int → Option R) : F56x0 N v1 v4 v7 v8 v9 v10 v11 v12 k0 = (G56x0 N v1 v4 v7 v8 v9 v10 v11 v12).bind k0 := by
  unfold G56x0 F56x0
  repeat' (first | rfl | apply cond_b | (apply bnd_b; intro _))
noncomputable def J56x0 (N : Nat) (L : List Lf) {R : Type} (k0 : Int → Option R) : Option R := F56x0 N (li L 1) (ll L 4) (li L 7) (li L 8) (li L 9) (li L 10) (li L 11) (ls L 12) k0
noncomputable def sh56x0 : Sh := { tmps := [(0, .g [.i .i64, .i .i64, .i .i64, .sl 66, .sl 68]), (1, .g [.i .i64, .i .i64, .i .i64, .i .i64, .i .i64, .s])], mem := [] }
noncomputable def A56x0 (N : Nat) (L : List Lf) : List (Bool × Res) := bnd (J56x0 N L (fun p => some p)) fun q => [(q.isSome, ([.c (.i .i64 (q.getD default))], []))]
theorem raw56x0 (N : Nat) (L : List Lf) : (body Try.prog (T84x0 N) (h56x0s16 N) 200 56 (valsOf (ofSh sh56x0 L).tmps) (ofSh sh56x0 L).mem : Option Res) = J56x0 N L (fun p => some ([.c (.i .i64 p)], [])) := by kernel_rfl
theorem ok56x0 (N : Nat) : ∀ args mem alts, spSh sh56x0 (A56x0 N) args mem = some alts → ∀ res, altK alts some = some res → CallOk Try.prog 56 args mem res :=
  spSh_law fun L x hx => callOk_of (n := 200) progOk (T84x0_ok N) (al56x0s16 N) rfl ((raw56x0 N L).trans ((bind56x0 N ..).trans (alt1 x hx)))
noncomputable def T56x0 (N : Nat) : Oracle := ext 56 (spSh sh56x0 (A56x0 N)) (T84x0 N)
theorem T56x0_ok (N : Nat) : OracleOk Try.prog (T56x0 N) := ext_ok (T84x0_ok N) (enters_of (by kernel_rfl)) (ok56x0 N)
noncomputable def rg20x0 : List (Nat × List Nat) := [(0, [0]), (1, [1]), (2, []), (3, [1]), (4, []), (5, [1]), (6, [34, 33, 32, 1]), (7, [34, 32, 1, 33]), (8, [4, 1, 3, 34, 33, 32]), (9, []), (10, [1, 4, 3, 34, 33, 32]), (11, []), (12, [4, 34, 33, 32, 1]), (13, []), (14, [34, 33, 32, 1]), (15, [1]), (16, [66, 65, 64, 1]), (17, [64, 66, 1, 65]), (18, [1, 6, 66, 65, 64]), (19, [7, 66, 65, 64, 1]), (20, [7]), (21, [66, 65, 64, 1]), (22, [])]
noncomputable def hd20x0 : Hints := [(4, [1], [1], []), (18, [34, 33, 32, 1], [1], []), (37, [4, 34, 33, 32, 1], [4, 1], []), (48, [66, 65, 64, 1], [1], [])]
noncomputable def h20x0s0 (N : Nat) : Hint := { loops := hd20x0, regs := rg20x0, los := [] }
theorem al20x0s0 (N : Nat) : AllCuts Try.prog (h20x0s0 N).los 0 20 := AllCuts.nil
noncomputable def F20x0x4 (N : Nat) {R : Type} (w0 w1 w2 : Int) (k0 : Bool → R) : R :=
  bnd (V50x0 N w0 0 999985) fun x77729423 =>
  bif x77729423 then
    k0 true
  else
    bnd (V50x0 N w1 1 14) fun x66734670 =>
    bif x66734670 then
      k0 true
    else
      bnd (V50x0 N w2 0 100000) fun x11596892 =>
      k0 x11596892
noncomputable def V20x0x4 (N : Nat) (w0 w1 w2 : Int) : Bool := F20x0x4 N w0 w1 w2 (fun p => p)
theorem tot20x0x4 (N : Nat) {R : Type} (w0 w1 w2 : Int) (k0 : Bool → R) : F20x0x4 N w0 w1 w2 k0 = k0 (V20x0x4 N w0 w1 w2) := by
  unfold V20x0x4 F20x0x4
  repeat' (first | rfl | apply cond_k | (apply bnd_k; intro _))
noncomputable def sh20x0x4 : Sh := { tmps := [(1, .c (.p 1 0))], mem := [(1, .box [.i .i64, .i .i64, .i .i64, .sl 66, .sl 68])] }
noncomputable def K20x0x4w0 (L : List Lf) (p : Bool) : Ex × St := (.normal, ⟨[(1, .c (.p 1 0)), (20, .c (.b p))], [(1, .box [.i .i64 (li L 0), .i .i64 (li L 1), .i .i64 (li L 2), .sl 66 (lb L 3) (ll L 4), .sl 68 (lb L 5) (ll L 6)])]⟩)
noncomputable def A20x0x4 (N : Nat) (L : List Lf) : List (Bool × (Ex × St)) := bnd (F20x0x4 N (li L 0) (li L 1) (li L 2) (fun p => p)) fun q => [(true, K20x0x4w0 L q)]
theorem raw20x0x4 (N : Nat) (L : List Lf) : (exec Try.prog (T56x0 N) (h20x0s0 N) 0 100 (piece Try.prog 20 4) (ofSh sh20x0x4 L) (fun e st => some (e, cutSt [1, 20] [1] st)) : Option (Ex × St)) = F20x0x4 N (li L 0) (li L 1) (li L 2) (fun p => some (K20x0x4w0 L p)) := by kernel_rfl
theorem one20x0x4 : oneB Try.prog 20 4 = true := by kernel_rfl
theorem law20x0x4 (N : Nat) : CutLaw Try.prog 0 (piece Try.prog 20 4) (loSh sh20x0x4 (A20x0x4 N)) :=
  law_sh progOk (T56x0_ok N) (al20x0s0 N) one20x0x4 fun L x hx => (raw20x0x4 N L).trans ((tot20x0x4 N ..).trans (alt0 _ _ hx))
noncomputable def h20x0s1 (N : Nat) : Hint := { (h20x0s0 N) with los := (4, loSh sh20x0x4 (A20x0x4 N)) :: (h20x0s0 N).los }
theorem al20x0s1 (N : Nat) : AllCuts Try.prog (h20x0s1 N).los 0 20 := AllCuts.cons (al20x0s0 N) one20x0x4 (law20x0x4 N)
noncomputable def F20x0x37 (N : Nat) {R : Type} (w12 w13 w14 : Int) (k0 : Bool → R) : R :=
  bnd (V50x0 N w12 0 1000) fun x41046482 =>
  bif x41046482 then
    k0 true
  else
    bnd (V50x0 N w13 0 1000) fun x27252875 =>
    bif x27252875 then
      k0 true
    else
      bnd (V50x0 N w14 0 1000) fun x44727410 =>
      k0 x44727410
noncomputable def V20x0x37 (N : Nat) (w12 w13 w14 : Int) : Bool := F20x0x37 N w12 w13 w14 (fun p => p)
theorem tot20x0x37 (N : Nat) {R : Type} (w12 w13 w14 : Int) (k0 : Bool → R) : F20x0x37 N w12 w13 w14 k0 = k0 (V20x0x37 N w12 w13 w14) := by
  unfold V20x0x37 F20x0x37
  repeat' (first | rfl | apply cond_k | (apply bnd_k; intro _))
noncomputable def sh20x0x37 : Sh := { tmps := [(1, .c (.p 1 0)), (4, .c (.p 4 0)), (32, .c (.sl 66)), (33, .c (.i .i64)), (34, .c (.i .i64))], mem := [(1, .box [.i .i64, .i .i64, .i .i64, .sl 66, .sl 68]), (4, .box [.s, .i .i64, .i .i64, .i .i64, .b])] }
noncomputable def K20x0x37w0 (L : List Lf) (p : Bool) : Ex × St := (.normal, ⟨[(1, .c (.p 1 0)), (32, .c (.sl 66 (lb L 0) (ll L 1))), (33, .c (.i .i64 (li L 2))), (34, .c (.i .i64 (li L 3))), (61, .c (.b p))], [(1, .box [.i .i64 (li L 4), .i .i64 (li L 5), .i .i64 (li L 6), .sl 66 (lb L 7) (ll L 8), .sl 68 (lb L 9) (ll L 10)])]⟩)
noncomputable def A20x0x37 (N : Nat) (L : List Lf) : List (Bool × (Ex × St)) := bnd (F20x0x37 N (li L 12) (li L 13) (li L 14) (fun p => p)) fun q => [(true, K20x0x37w0 L q)]
theorem raw20x0x37 (N : Nat) (L : List Lf) : (exec Try.prog (T56x0 N) (h20x0s1 N) 0 100 (piece Try.prog 20 37) (ofSh sh20x0x37 L) (fun e st => some (e, cutSt [34, 33, 32, 1, 61] [1] st)) : Option (Ex × St)) = F20x0x37 N (li L 12) (li L 13) (li L 14) (fun p => some (K20x0x37w0 L p)) := by kernel_rfl
theorem one20x0x37 : oneB Try.prog 20 37 = true := by kernel_rfl
theorem law20x0x37 (N : Nat) : CutLaw Try.prog 0 (piece Try.prog 20 37) (loSh sh20x0x37 (A20x0x37 N)) :=
  law_sh progOk (T56x0_ok N) (al20x0s1 N) one20x0x37 fun L x hx => (raw20x0x37 N L).trans ((tot20x0x37 N ..).trans (alt0 _ _ hx))
noncomputable def h20x0s2 (N : Nat) : Hint := { (h20x0s1 N) with los := (37, loSh sh20x0x37 (A20x0x37 N)) :: (h20x0s1 N).los }
theorem al20x0s2 (N : Nat) : AllCuts Try.prog (h20x0s2 N).los 0 20 := AllCuts.cons (al20x0s1 N) one20x0x37 (law20x0x37 N)
noncomputable def P20x0x18 (w0 : Bool) (w1 : (List D)) (w2 w3 w4 w5 w6 : Int) (w7 : Bool) (w8 : (List D)) (w9 : Bool) (w10 : (List D)) : St := ⟨[(1, .c (.p 1 0)), (32, .c (.sl 66 w0 w1)), (33, .c (.i .i64 w2)), (34, .c (.i .i64 w3))], [(1, .box [.i .i64 w4, .i .i64 w5, .i .i64 w6, .sl 66 w7 w8, .sl 68 w9 w10])]⟩
noncomputable def S20x0x18 (N : Nat) {R : Type} (w1 : (List D)) (w2 : Int) (w8 : (List D)) (w3 : Int) (kr : Int → Option R) (k0 : Int → Option R) (k1 : Unit → Option R) : Option R :=
  bif (decide (w3 < w2)) then
    bif (inB w3 w1.length) then
      bnd (G54x0 N ((w1.getD w3.toNat (.i 0)).cell 0).toS) fun x48973515 =>
      bif x48973515.isSome then
        bif (!(x48973515.getD default)) then
          k0 8
        else
          bnd (G55x0 N w8 ((w1.getD w3.toNat (.i 0)).cell 0).toS) fun x26012593 =>
          bif x26012593.isSome then
            bif (decide ((x26012593.getD default) < w3)) then
              k0 5
            else
              bnd (V20x0x37 N ((w1.getD w3.toNat (.i 0)).cell 1).toI ((w1.getD w3.toNat (.i 0)).cell 2).toI ((w1.getD w3.toNat (.i 0)).cell 3).toI) fun x2381944 =>
              bif x2381944 then
                k0 9
              else
                kr (IntKind.wrap .i64 (w3 + 1))
          else
            none
      else
        none
    else
      none
  else
    k1 ()
theorem mono20x0x18 (N : Nat) {R : Type} (w1 : (List D)) (w2 : Int) (w8 : (List D)) (w3 : Int) {kr kr' : Int → Option R} (k0 : Int → Option R) (k1 : Unit → Option R) {r : R} (hk : ∀ w3', kr w3' = some r → kr' w3' = some r) : S20x0x18 N w1 w2 w8 w3 kr k0 k1 = some r → S20x0x18 N w1 w2 w8 w3 kr' k0 k1 = some r := by
  unfold S20x0x18
  repeat' (first | exact hk _ | exact fun h => h | apply cond_mono | (apply bnd_mono; intro _))
noncomputable def L20x0x18 (N : Nat) {R : Type} (w1 : (List D)) (w2 : Int) (w8 : (List D)) : Nat → Int → (Int → Option R) → (Unit → Option R) → Option R
  | 0, _, _, _ => none
  | m + 1, w3, k0, k1 => S20x0x18 N w1 w2 w8 w3 (fun w3 => L20x0x18 N w1 w2 w8 m w3 k0 k1) k0 k1
theorem lp20x0x18 : piece Try.prog 20 18 = .loop (loopB (piece Try.prog 20 18)) := by kernel_rfl
theorem nl20x0x18 (N : Nat) : lawOf (h20x0s2 N) (.loop (loopB (piece Try.prog 20 18))) = none := by kernel_rfl
theorem cl20x0x18 (N : Nat) (w0 : Bool) (w1 : (List D)) (w2 w4 w5 w6 : Int) (w7 : Bool) (w8 : (List D)) (w9 : Bool) (w10 : (List D)) (w3 : Int) : clearSt Try.prog 0 (h20x0s2 N).loops 18 (P20x0x18 w0 w1 w2 w3 w4 w5 w6 w7 w8 w9 w10) = (P20x0x18 w0 w1 w2 w3 w4 w5 w6 w7 w8 w9 w10) := by kernel_rfl
theorem step20x0x18 (N : Nat) (m : Nat) (kn : St → Option (Ex × St)) (w0 : Bool) (w1 : (List D)) (w2 w4 w5 w6 : Int) (w7 : Bool) (w8 : (List D)) (w9 : Bool) (w10 : (List D)) (w3 : Int) : exec Try.prog (T56x0 N) (h20x0s2 N) 0 (m + 100) (loopB (piece Try.prog 20 18)) (P20x0x18 w0 w1 w2 w3 w4 w5 w6 w7 w8 w9 w10) (reK (fun st => kn (clearSt Try.prog 0 (h20x0s2 N).loops 18 st)) (fun e st => some (e, cutSt [2, 1] [1] st))) = S20x0x18 N w1 w2 w8 w3 (fun w3 => kn (P20x0x18 w0 w1 w2 w3 w4 w5 w6 w7 w8 w9 w10)) (fun p => some (.ret, ⟨[(2, .c (.i .i64 p))], [(1, .box [.i .i64 w4, .i .i64 w5, .i .i64 w6, .sl 66 w7 w8, .sl 68 w9 w10])]⟩)) (fun p => some ((.exit 0), ⟨[(1, .c (.p 1 0))], [(1, .box [.i .i64 w4, .i .i64 w5, .i .i64 w6, .sl 66 w7 w8, .sl 68 w9 w10])]⟩)) := by kernel_rfl
theorem run20x0x18 (N : Nat) (w0 : Bool) (w1 : (List D)) (w2 w4 w5 w6 : Int) (w7 : Bool) (w8 : (List D)) (w9 : Bool) (w10 : (List D)) : ∀ (m : Nat) (w3 : Int) (x : Ex × St), L20x0x18 N w1 w2 w8 m w3 (fun p => some (.ret, ⟨[(2, .c (.i .i64 p))], [(1, .box [.i .i64 w4, .i .i64 w5, .i .i64 w6, .sl 66 w7 w8, .sl 68 w9 w10])]⟩)) (fun p => some ((.exit 0), ⟨[(1, .c (.p 1 0))], [(1, .box [.i .i64 w4, .i .i64 w5, .i .i64 w6, .sl 66 w7 w8, .sl 68 w9 w10])]⟩)) = some x → exec Try.prog (T56x0 N) (h20x0s2 N) 0 (m + 101) (.loop (loopB (piece Try.prog 20 18))) (P20x0x18 w0 w1 w2 w3 w4 w5 w6 w7 w8 w9 w10) (fun e st => some (e, cutSt [2, 1] [1] st)) = some x := by
  intro m
  induction m with
  | zero => intro w3 x h; cases h
  | succ m ih =>
    intro w3 x h
    exact loop_round (n := m + 101) (nl20x0x18 N) (by kernel_rfl) (cl20x0x18 N ..) (fun kn => step20x0x18 N (m + 1) kn ..) (mono20x0x18 N _ _ _ _ _ _ (fun w3 => ih w3 x) h)
noncomputable def G20x0x18 (N : Nat) (w1 : (List D)) (w2 : Int) (w8 : (List D)) (w3 : Int) : Option (Sum (Int) (Unit)) := L20x0x18 N (R := (Sum (Int) (Unit))) w1 w2 w8 N w3 (fun p => some (.inl p)) (fun p => some (.inr p))
theorem sb20x0x18 (N : Nat) {R A : Type} (w1 : (List D)) (w2 : Int) (w8 : (List D)) (w3 : Int) (kr : Int → Option R) (kr' : Int → Option A) (k0 : Int → Option R) (k1 : Unit → Option R) (j0 : Int → Option A) (j1 : Unit → Option A) (K : A → Option R) (hr : ∀ w3', kr w3' = (kr' w3').bind K) (h0 : ∀ p, k0 p = (j0 p).bind K) (h1 : ∀ p, k1 p = (j1 p).bind K) : S20x0x18 N w1 w2 w8 w3 kr k0 k1 = (S20x0x18 N w1 w2 w8 w3 kr' j0 j1).bind K := by
  unfold S20x0x18
  repeat' (first | rfl | apply hr | apply h0 | apply h1 | apply cond_b | (apply bnd_b; intro _))
theorem lbind20x0x18 (N : Nat) {R : Type} (w1 : (List D)) (w2 : Int) (w8 : (List D)) : ∀ (m : Nat) (w3 : Int) (k0 : Int → Option R) (k1 : Unit → Option R), L20x0x18 N w1 w2 w8 m w3 k0 k1 = (L20x0x18 N (R := (Sum (Int) (Unit))) w1 w2 w8 m w3 (fun p => some (.inl p)) (fun p => some (.inr p))).bind (sumE k0 k1) := by
  intro m
  induction m with
  | zero => intros; rfl
  | succ m ih =>
    intro w3 k0 k1
    exact sb20x0x18 N _ _ _ _ _ _ _ _ _ _ _ (fun w3 => ih w3 k0 k1) (fun _ => rfl) (fun _ => rfl)
theorem one20x0x18 : oneB Try.prog 20 18 = true := by kernel_rfl
noncomputable def sh20x0x18 : Sh := { tmps := [(1, .c (.p 1 0)), (32, .c (.sl 66)), (33, .c (.i .i64)), (34, .c (.i .i64))], mem := [(1, .box [.i .i64, .i .i64, .i .i64, .sl 66, .sl 68])] }
noncomputable def K20x0x18w0 (L : List Lf) (p : Int) : Ex × St := (.ret, ⟨[(2, .c (.i .i64 p))], [(1, .box [.i .i64 (li L 4), .i .i64 (li L 5), .i .i64 (li L 6), .sl 66 (lb L 7) (ll L 8), .sl 68 (lb L 9) (ll L 10)])]⟩)
noncomputable def K20x0x18w1 (L : List Lf) (_ : Unit) : Ex × St := ((.exit 0), ⟨[(1, .c (.p 1 0))], [(1, .box [.i .i64 (li L 4), .i .i64 (li L 5), .i .i64 (li L 6), .sl 66 (lb L 7) (ll L 8), .sl 68 (lb L 9) (ll L 10)])]⟩)
noncomputable def A20x0x18 (N : Nat) (L : List Lf) : List (Bool × (Ex × St)) := bnd (G20x0x18 N (ll L 1) (li L 2) (ll L 8) (li L 3)) fun q => [((inlB q), K20x0x18w0 L (inlV q)), ((inrQ q).isSome, K20x0x18w1 L ())]
theorem eq20x0x18 (L : List Lf) : ofSh sh20x0x18 L = (P20x0x18 (lb L 0) (ll L 1) (li L 2) (li L 3) (li L 4) (li L 5) (li L 6) (lb L 7) (ll L 8) (lb L 9) (ll L 10)) := by kernel_rfl
theorem law20x0x18 (N : Nat) : CutLaw Try.prog 0 (piece Try.prog 20 18) (loSh sh20x0x18 (A20x0x18 N)) :=
  law_shL progOk (T56x0_ok N) (al20x0s2 N) one20x0x18 lp20x0x18 eq20x0x18 fun L x hx => run20x0x18 N _ _ _ _ _ _ _ _ _ _ N _ x ((lbind20x0x18 N _ _ _ N _ _ _).trans ((altS alt1) x hx))
noncomputable def h20x0s3 (N : Nat) : Hint := { (h20x0s2 N) with los := (18, loSh sh20x0x18 (A20x0x18 N)) :: (h20x0s2 N).los }
theorem al20x0s3 (N : Nat) : AllCuts Try.prog (h20x0s3 N).los 0 20 := AllCuts.cons (al20x0s2 N) one20x0x18 (law20x0x18 N)
noncomputable def P20x0x48 (w0 : Bool) (w1 : (List D)) (w2 w3 w4 w5 w6 : Int) (w7 : Bool) (w8 : (List D)) (w9 : Bool) (w10 : (List D)) : St := ⟨[(1, .c (.p 1 0)), (64, .c (.sl 68 w0 w1)), (65, .c (.i .i64 w2)), (66, .c (.i .i64 w3))], [(1, .box [.i .i64 w4, .i .i64 w5, .i .i64 w6, .sl 66 w7 w8, .sl 68 w9 w10])]⟩
noncomputable def S20x0x48 (N : Nat) {R : Type} (w1 : (List D)) (w2 w5 : Int) (w8 : (List D)) (w3 : Int) (kr : Int → Option R) (k0 : Int → Option R) (k1 : Unit → Option R) : Option R :=
  bif (decide (w3 < w2)) then
    bif (inB w3 w1.length) then
      bnd (G56x0 N w5 w8 ((w1.getD w3.toNat (.i 0)).cell 0).toI ((w1.getD w3.toNat (.i 0)).cell 1).toI ((w1.getD w3.toNat (.i 0)).cell 2).toI ((w1.getD w3.toNat (.i 0)).cell 3).toI ((w1.getD w3.toNat (.i 0)).cell 4).toI ((w1.getD w3.toNat (.i 0)).cell 5).toS) fun x53947425 =>
      bif x53947425.isSome then
        bif ((x53947425.getD default) != 0) then
          k0 (x53947425.getD default)
        else
          kr (IntKind.wrap .i64 (w3 + 1))
      else
        none
    else
      none
  else
    k1 ()
theorem mono20x0x48 (N : Nat) {R : Type} (w1 : (List D)) (w2 w5 : Int) (w8 : (List D)) (w3 : Int) {kr kr' : Int → Option R} (k0 : Int → Option R) (k1 : Unit → Option R) {r : R} (hk : ∀ w3', kr w3' = some r → kr' w3' = some r) : S20x0x48 N w1 w2 w5 w8 w3 kr k0 k1 = some r → S20x0x48 N w1 w2 w5 w8 w3 kr' k0 k1 = some r := by
  unfold S20x0x48
  repeat' (first | exact hk _ | exact fun h => h | apply cond_mono | (apply bnd_mono; intro _))
noncomputable def L20x0x48 (N : Nat) {R : Type} (w1 : (List D)) (w2 w5 : Int) (w8 : (List D)) : Nat → Int → (Int → Option R) → (Unit → Option R) → Option R
  | 0, _, _, _ => none
  | m + 1, w3, k0, k1 => S20x0x48 N w1 w2 w5 w8 w3 (fun w3 => L20x0x48 N w1 w2 w5 w8 m w3 k0 k1) k0 k1
theorem lp20x0x48 : piece Try.prog 20 48 = .loop (loopB (piece Try.prog 20 48)) := by kernel_rfl
theorem nl20x0x48 (N : Nat) : lawOf (h20x0s3 N) (.loop (loopB (piece Try.prog 20 48))) = none := by kernel_rfl
theorem cl20x0x48 (N : Nat) (w0 : Bool) (w1 : (List D)) (w2 w4 w5 w6 : Int) (w7 : Bool) (w8 : (List D)) (w9 : Bool) (w10 : (List D)) (w3 : Int) : clearSt Try.prog 0 (h20x0s3 N).loops 48 (P20x0x48 w0 w1 w2 w3 w4 w5 w6 w7 w8 w9 w10) = (P20x0x48 w0 w1 w2 w3 w4 w5 w6 w7 w8 w9 w10) := by kernel_rfl
theorem step20x0x48 (N : Nat) (m : Nat) (kn : St → Option (Ex × St)) (w0 : Bool) (w1 : (List D)) (w2 w4 w5 w6 : Int) (w7 : Bool) (w8 : (List D)) (w9 : Bool) (w10 : (List D)) (w3 : Int) : exec Try.prog (T56x0 N) (h20x0s3 N) 0 (m + 100) (loopB (piece Try.prog 20 48)) (P20x0x48 w0 w1 w2 w3 w4 w5 w6 w7 w8 w9 w10) (reK (fun st => kn (clearSt Try.prog 0 (h20x0s3 N).loops 48 st)) (fun e st => some (e, cutSt [2] [] st))) = S20x0x48 N w1 w2 w5 w8 w3 (fun w3 => kn (P20x0x48 w0 w1 w2 w3 w4 w5 w6 w7 w8 w9 w10)) (fun p => some (.ret, ⟨[(2, .c (.i .i64 p))], []⟩)) (fun p => some ((.exit 2), ⟨[], []⟩)) := by kernel_rfl
theorem run20x0x48 (N : Nat) (w0 : Bool) (w1 : (List D)) (w2 w4 w5 w6 : Int) (w7 : Bool) (w8 : (List D)) (w9 : Bool) (w10 : (List D)) : ∀ (m : Nat) (w3 : Int) (x : Ex × St), L20x0x48 N w1 w2 w5 w8 m w3 (fun p => some (.ret, ⟨[(2, .c (.i .i64 p))], []⟩)) (fun p => some ((.exit 2), ⟨[], []⟩)) = some x → exec Try.prog (T56x0 N) (h20x0s3 N) 0 (m + 101) (.loop (loopB (piece Try.prog 20 48))) (P20x0x48 w0 w1 w2 w3 w4 w5 w6 w7 w8 w9 w10) (fun e st => some (e, cutSt [2] [] st)) = some x := by
  intro m
  induction m with
  | zero => intro w3 x h; cases h
  | succ m ih =>
    intro w3 x h
    exact loop_round (n := m + 101) (nl20x0x48 N) (by kernel_rfl) (cl20x0x48 N ..) (fun kn => step20x0x48 N (m + 1) kn ..) (mono20x0x48 N _ _ _ _ _ _ _ (fun w3 => ih w3 x) h)
noncomputable def G20x0x48 (N : Nat) (w1 : (List D)) (w2 w5 : Int) (w8 : (List D)) (w3 : Int) : Option (Sum (Int) (Unit)) := L20x0x48 N (R := (Sum (Int) (Unit))) w1 w2 w5 w8 N w3 (fun p => some (.inl p)) (fun p => some (.inr p))
theorem sb20x0x48 (N : Nat) {R A : Type} (w1 : (List D)) (w2 w5 : Int) (w8 : (List D)) (w3 : Int) (kr : Int → Option R) (kr' : Int → Option A) (k0 : Int → Option R) (k1 : Unit → Option R) (j0 : Int → Option A) (j1 : Unit → Option A) (K : A → Option R) (hr : ∀ w3', kr w3' = (kr' w3').bind K) (h0 : ∀ p, k0 p = (j0 p).bind K) (h1 : ∀ p, k1 p = (j1 p).bind K) : S20x0x48 N w1 w2 w5 w8 w3 kr k0 k1 = (S20x0x48 N w1 w2 w5 w8 w3 kr' j0 j1).bind K := by
  unfold S20x0x48
  repeat' (first | rfl | apply hr | apply h0 | apply h1 | apply cond_b | (apply bnd_b; intro _))
theorem lbind20x0x48 (N : Nat) {R : Type} (w1 : (List D)) (w2 w5 : Int) (w8 : (List D)) : ∀ (m : Nat) (w3 : Int) (k0 : Int → Option R) (k1 : Unit → Option R), L20x0x48 N w1 w2 w5 w8 m w3 k0 k1 = (L20x0x48 N (R := (Sum (Int) (Unit))) w1 w2 w5 w8 m w3 (fun p => some (.inl p)) (fun p => some (.inr p))).bind (sumE k0 k1) := by
  intro m
  induction m with
  | zero => intros; rfl
  | succ m ih =>
    intro w3 k0 k1
    exact sb20x0x48 N _ _ _ _ _ _ _ _ _ _ _ _ (fun w3 => ih w3 k0 k1) (fun _ => rfl) (fun _ => rfl)
theorem one20x0x48 : oneB Try.prog 20 48 = true := by kernel_rfl
noncomputable def sh20x0x48 : Sh := { tmps := [(1, .c (.p 1 0)), (64, .c (.sl 68)), (65, .c (.i .i64)), (66, .c (.i .i64))], mem := [(1, .box [.i .i64, .i .i64, .i .i64, .sl 66, .sl 68])] }
noncomputable def A20x0x48 (N : Nat) (L : List Lf) : List (Bool × (Ex × St)) := bnd (G20x0x48 N (ll L 1) (li L 2) (li L 5) (ll L 8) (li L 3)) fun q => [((inlB q), (.ret, ⟨[(2, .c (.i .i64 (inlV q)))], []⟩)), ((inrQ q).isSome, ((.exit 2), ⟨[], []⟩))]
theorem eq20x0x48 (L : List Lf) : ofSh sh20x0x48 L = (P20x0x48 (lb L 0) (ll L 1) (li L 2) (li L 3) (li L 4) (li L 5) (li L 6) (lb L 7) (ll L 8) (lb L 9) (ll L 10)) := by kernel_rfl
theorem law20x0x48 (N : Nat) : CutLaw Try.prog 0 (piece Try.prog 20 48) (loSh sh20x0x48 (A20x0x48 N)) :=
  law_shL progOk (T56x0_ok N) (al20x0s3 N) one20x0x48 lp20x0x48 eq20x0x48 fun L x hx => run20x0x48 N _ _ _ _ _ _ _ _ _ _ N _ x ((lbind20x0x48 N _ _ _ _ N _ _ _).trans ((altS alt1) x hx))
noncomputable def h20x0s4 (N : Nat) : Hint := { (h20x0s3 N) with los := (48, loSh sh20x0x48 (A20x0x48 N)) :: (h20x0s3 N).los }
theorem al20x0s4 (N : Nat) : AllCuts Try.prog (h20x0s4 N).los 0 20 := AllCuts.cons (al20x0s3 N) one20x0x48 (law20x0x48 N)
noncomputable def F20x0 (N : Nat) {R : Type} (v0 v1 v2 : Int) (v4 v6 : (List D)) (k0 : Int → Option R) : Option R :=
  bnd (V20x0x4 N v0 v1 v2) fun x27551544 =>
  bif x27551544 then
    k0 9
  else
    bnd (bif (decide ((v4.length : Int) > 4)) then true else (decide ((v6.length : Int) > 12))) fun x65452148 =>
    bif x65452148 then
      k0 3
    else
      bnd (G20x0x18 N v4 (v4.length : Int) v4 0) fun x53594547 =>
      bif (inlB x53594547) then
        k0 (inlV x53594547)
      else
        bif (inrQ x53594547).isSome then
          bnd (G20x0x48 N v6 (v6.length : Int) v1 v4 0) fun x2268143 =>
          bif (inlB x2268143) then
            k0 (inlV x2268143)
          else
            bif (inrQ x2268143).isSome then
              k0 0
            else
              none
        else
          none
noncomputable def G20x0 (N : Nat) (v0 v1 v2 : Int) (v4 v6 : (List D)) : Option (Int) := F20x0 N v0 v1 v2 v4 v6 (fun p => some p)
theorem bind20x0 (N : Nat) {R : Type} (v0 v1 v2 : Int) (v4 v6 : (List D)) (k0 : Int → Option R) : F20x0 N v0 v1 v2 v4 v6 k0 = (G20x0 N v0 v1 v2 v4 v6).bind k0 := by
  unfold G20x0 F20x0
  repeat' (first | rfl | apply cond_b | (apply bnd_b; intro _))
noncomputable def J20x0 (N : Nat) (L : List Lf) {R : Type} (k0 : Int → Option R) : Option R := F20x0 N (li L 0) (li L 1) (li L 2) (ll L 4) (ll L 6) k0
noncomputable def sh20x0 : Sh := { tmps := [(0, .g [.i .i64, .i .i64, .i .i64, .sl 66, .sl 68])], mem := [] }
noncomputable def A20x0 (N : Nat) (L : List Lf) : List (Bool × Res) := bnd (J20x0 N L (fun p => some p)) fun q => [(q.isSome, ([.c (.i .i64 (q.getD default))], []))]
theorem raw20x0 (N : Nat) (L : List Lf) : (body Try.prog (T56x0 N) (h20x0s4 N) 200 20 (valsOf (ofSh sh20x0 L).tmps) (ofSh sh20x0 L).mem : Option Res) = J20x0 N L (fun p => some ([.c (.i .i64 p)], [])) := by kernel_rfl
theorem ok20x0 (N : Nat) : ∀ args mem alts, spSh sh20x0 (A20x0 N) args mem = some alts → ∀ res, altK alts some = some res → CallOk Try.prog 20 args mem res :=
  spSh_law fun L x hx => callOk_of (n := 200) progOk (T56x0_ok N) (al20x0s4 N) rfl ((raw20x0 N L).trans ((bind20x0 N ..).trans (alt1 x hx)))
noncomputable def T20x0 (N : Nat) : Oracle := ext 20 (spSh sh20x0 (A20x0 N)) (T56x0 N)
theorem T20x0_ok (N : Nat) : OracleOk Try.prog (T20x0 N) := ext_ok (T56x0_ok N) (enters_of (by kernel_rfl)) (ok20x0 N)
noncomputable def rg18x0 : List (Nat × List Nat) := [(0, [0, 1]), (1, [2, 1]), (2, [6, 1, 2]), (3, [6]), (4, [1, 2]), (5, []), (6, [2, 1])]
noncomputable def hd18x0 : Hints := []
noncomputable def h18x0s0 (N : Nat) : Hint := { loops := hd18x0, regs := rg18x0, los := [] }
theorem al18x0s0 (N : Nat) : AllCuts Try.prog (h18x0s0 N).los 0 18 := AllCuts.nil
noncomputable def F18x0 (N : Nat) {R : Type} (v0 v1 v2 : Int) (v4 v6 : (List D)) (v7 : Int) (k0 : Int × Int → Option R) : Option R :=
  bnd (G20x0 N v0 v1 v2 v4 v6) fun x44719317 =>
  bif x44719317.isSome then
    bif ((x44719317.getD default) != 0) then
      k0 (0, (x44719317.getD default))
    else
      bnd (V50x0 N v7 0 (IntKind.wrap .i64 (v1 - 1))) fun x6808071 =>
      bif x6808071 then
        k0 (0, 9)
      else
        k0 (((IntKind.wrap .i64 (v0 + v7)).tmod 7), 0)
  else
    none
noncomputable def G18x0 (N : Nat) (v0 v1 v2 : Int) (v4 v6 : (List D)) (v7 : Int) : Option (Int × Int) := F18x0 N v0 v1 v2 v4 v6 v7 (fun p => some p)
theorem bind18x0 (N : Nat) {R : Type} (v0 v1 v2 : Int) (v4 v6 : (List D)) (v7 : Int) (k0 : Int × Int → Option R) : F18x0 N v0 v1 v2 v4 v6 v7 k0 = (G18x0 N v0 v1 v2 v4 v6 v7).bind k0 := by
  unfold G18x0 F18x0
  repeat' (first | rfl | apply cond_b | (apply bnd_b; intro _))
noncomputable def J18x0 (N : Nat) (L : List Lf) {R : Type} (k0 : Int × Int → Option R) : Option R := F18x0 N (li L 0) (li L 1) (li L 2) (ll L 4) (ll L 6) (li L 7) k0
noncomputable def sh18x0 : Sh := { tmps := [(0, .g [.i .i64, .i .i64, .i .i64, .sl 66, .sl 68]), (1, .c (.i .i64))], mem := [] }
noncomputable def A18x0 (N : Nat) (L : List Lf) : List (Bool × Res) := bnd (J18x0 N L (fun p => some p)) fun q => [(q.isSome, ([.c (.i .i64 (q.getD default).1), .c (.i .i64 (q.getD default).2)], []))]
theorem raw18x0 (N : Nat) (L : List Lf) : (body Try.prog (T20x0 N) (h18x0s0 N) 200 18 (valsOf (ofSh sh18x0 L).tmps) (ofSh sh18x0 L).mem : Option Res) = J18x0 N L (fun p => some ([.c (.i .i64 p.1), .c (.i .i64 p.2)], [])) := by kernel_rfl
theorem ok18x0 (N : Nat) : ∀ args mem alts, spSh sh18x0 (A18x0 N) args mem = some alts → ∀ res, altK alts some = some res → CallOk Try.prog 18 args mem res :=
  spSh_law fun L x hx => callOk_of (n := 200) progOk (T20x0_ok N) (al18x0s0 N) rfl ((raw18x0 N L).trans ((bind18x0 N ..).trans (alt1 x hx)))
noncomputable def T18x0 (N : Nat) : Oracle := ext 18 (spSh sh18x0 (A18x0 N)) (T20x0 N)
theorem T18x0_ok (N : Nat) : OracleOk Try.prog (T18x0 N) := ext_ok (T20x0_ok N) (enters_of (by kernel_rfl)) (ok18x0 N)
noncomputable def rg94x0 : List (Nat × List Nat) := [(0, [0, 1]), (1, [0, 1])]
noncomputable def hd94x0 : Hints := []
noncomputable def h94x0s0 (N : Nat) : Hint := { loops := hd94x0, regs := rg94x0, los := [] }
theorem al94x0s0 (N : Nat) : AllCuts Try.prog (h94x0s0 N).los 1 94 := AllCuts.nil
noncomputable def F94x0 (N : Nat) {R : Type} (v0 : Int) (v5 : (List D)) (k0 : Bool → R) : R :=
  bnd (V48x0 N v0 (-1) (IntKind.wrap .i64 ((v5.length : Int) - 1))) fun x64565379 =>
  k0 (!x64565379)
noncomputable def V94x0 (N : Nat) (v0 : Int) (v5 : (List D)) : Bool := F94x0 N v0 v5 (fun p => p)
theorem tot94x0 (N : Nat) {R : Type} (v0 : Int) (v5 : (List D)) (k0 : Bool → R) : F94x0 N v0 v5 k0 = k0 (V94x0 N v0 v5) := by
  unfold V94x0 F94x0
  repeat' (first | rfl | apply cond_k | (apply bnd_k; intro _))
noncomputable def sh94x0 : Sh := { tmps := [(0, .c (.i .i64)), (1, .c (.p 0 0))], mem := [(0, .box [.i .i64, .i .i64, .i .i64, .sl 66, .sl 68])] }
noncomputable def K94x0w0 (L : List Lf) (p : Bool) : Res := ([.c (.b p)], [(0, .box [.i .i64 (li L 1), .i .i64 (li L 2), .i .i64 (li L 3), .sl 66 (lb L 4) (ll L 5), .sl 68 (lb L 6) (ll L 7)])])
noncomputable def A94x0 (N : Nat) (L : List Lf) : List (Bool × Res) := bnd (F94x0 N (li L 0) (ll L 5) (fun p => p)) fun q => [(true, K94x0w0 L q)]
theorem raw94x0 (N : Nat) (L : List Lf) : (body Try.prog (T18x0 N) (h94x0s0 N) 200 94 (valsOf (ofSh sh94x0 L).tmps) (ofSh sh94x0 L).mem : Option Res) = F94x0 N (li L 0) (ll L 5) (fun p => some (K94x0w0 L p)) := by kernel_rfl
theorem ok94x0 (N : Nat) : ∀ args mem alts, spSh sh94x0 (A94x0 N) args mem = some alts → ∀ res, altK alts some = some res → CallOk Try.prog 94 args mem res :=
  spSh_law fun L x hx => callOk_of (n := 200) progOk (T18x0_ok N) (al94x0s0 N) rfl ((raw94x0 N L).trans ((tot94x0 N ..).trans (alt0 _ _ hx)))
noncomputable def T94x0 (N : Nat) : Oracle := ext 94 (spSh sh94x0 (A94x0 N)) (T18x0 N)
theorem T94x0_ok (N : Nat) : OracleOk Try.prog (T94x0 N) := ext_ok (T18x0_ok N) (enters_of (by kernel_rfl)) (ok94x0 N)
noncomputable def rg86x0 : List (Nat × List Nat) := [(0, [0, 1]), (1, [0, 1]), (2, [8, 7, 1, 0]), (3, [8, 1, 0, 7]), (4, [1, 0, 5, 8, 7]), (5, [5]), (6, [8, 7, 1, 0]), (7, [])]
noncomputable def hd86x0 : Hints := [(6, [8, 7, 1, 0], [0], [])]
noncomputable def h86x0s0 (N : Nat) : Hint := { loops := hd86x0, regs := rg86x0, los := [] }
theorem al86x0s0 (N : Nat) : AllCuts Try.prog (h86x0s0 N).los 1 86 := AllCuts.nil
noncomputable def P86x0x6 (w0 : Bool) (w1 : (List D)) (w2 w3 w4 w5 w6 : Int) (w7 : Bool) (w8 : (List D)) (w9 : Bool) (w10 : (List D)) : St := ⟨[(0, .c (.sl 3 w0 w1)), (1, .c (.f 94 [(0, 0)])), (7, .c (.i .i64 w2)), (8, .c (.i .i64 w3))], [(0, .box [.i .i64 w4, .i .i64 w5, .i .i64 w6, .sl 66 w7 w8, .sl 68 w9 w10])]⟩
noncomputable def S86x0x6 (N : Nat) {R : Type} (w1 : (List D)) (w2 : Int) (w8 : (List D)) (w3 : Int) (kr : Int → Option R) (k0 : Int → Option R) (k1 : Unit → Option R) : Option R :=
  bif (decide (w3 < w2)) then
    bif (inB w3 w1.length) then
      bnd (V94x0 N (w1.getD w3.toNat (.i 0)).toI w8) fun x98858070 =>
      bif x98858070 then
        k0 w3
      else
        kr (IntKind.wrap .i64 (w3 + 1))
    else
      none
  else
    k1 ()
theorem mono86x0x6 (N : Nat) {R : Type} (w1 : (List D)) (w2 : Int) (w8 : (List D)) (w3 : Int) {kr kr' : Int → Option R} (k0 : Int → Option R) (k1 : Unit → Option R) {r : R} (hk : ∀ w3', kr w3' = some r → kr' w3' = some r) : S86x0x6 N w1 w2 w8 w3 kr k0 k1 = some r → S86x0x6 N w1 w2 w8 w3 kr' k0 k1 = some r := by
  unfold S86x0x6
  repeat' (first | exact hk _ | exact fun h => h | apply cond_mono | (apply bnd_mono; intro _))
noncomputable def L86x0x6 (N : Nat) {R : Type} (w1 : (List D)) (w2 : Int) (w8 : (List D)) : Nat → Int → (Int → Option R) → (Unit → Option R) → Option R
  | 0, _, _, _ => none
  | m + 1, w3, k0, k1 => S86x0x6 N w1 w2 w8 w3 (fun w3 => L86x0x6 N w1 w2 w8 m w3 k0 k1) k0 k1
theorem lp86x0x6 : piece Try.prog 86 6 = .loop (loopB (piece Try.prog 86 6)) := by kernel_rfl
theorem nl86x0x6 (N : Nat) : lawOf (h86x0s0 N) (.loop (loopB (piece Try.prog 86 6))) = none := by kernel_rfl
theorem cl86x0x6 (N : Nat) (w0 : Bool) (w1 : (List D)) (w2 w4 w5 w6 : Int) (w7 : Bool) (w8 : (List D)) (w9 : Bool) (w10 : (List D)) (w3 : Int) : clearSt Try.prog 1 (h86x0s0 N).loops 6 (P86x0x6 w0 w1 w2 w3 w4 w5 w6 w7 w8 w9 w10) = (P86x0x6 w0 w1 w2 w3 w4 w5 w6 w7 w8 w9 w10) := by kernel_rfl
theorem step86x0x6 (N : Nat) (m : Nat) (kn : St → Option (Ex × St)) (w0 : Bool) (w1 : (List D)) (w2 w4 w5 w6 : Int) (w7 : Bool) (w8 : (List D)) (w9 : Bool) (w10 : (List D)) (w3 : Int) : exec Try.prog (T94x0 N) (h86x0s0 N) 1 (m + 100) (loopB (piece Try.prog 86 6)) (P86x0x6 w0 w1 w2 w3 w4 w5 w6 w7 w8 w9 w10) (reK (fun st => kn (clearSt Try.prog 1 (h86x0s0 N).loops 6 st)) (fun e st => some (e, cutSt [4] [0] st))) = S86x0x6 N w1 w2 w8 w3 (fun w3 => kn (P86x0x6 w0 w1 w2 w3 w4 w5 w6 w7 w8 w9 w10)) (fun p => some (.ret, ⟨[(4, .c (.i .i64 p))], [(0, .box [.i .i64 w4, .i .i64 w5, .i .i64 w6, .sl 66 w7 w8, .sl 68 w9 w10])]⟩)) (fun p => some ((.exit 0), ⟨[], [(0, .box [.i .i64 w4, .i .i64 w5, .i .i64 w6, .sl 66 w7 w8, .sl 68 w9 w10])]⟩)) := by kernel_rfl
theorem run86x0x6 (N : Nat) (w0 : Bool) (w1 : (List D)) (w2 w4 w5 w6 : Int) (w7 : Bool) (w8 : (List D)) (w9 : Bool) (w10 : (List D)) : ∀ (m : Nat) (w3 : Int) (x : Ex × St), L86x0x6 N w1 w2 w8 m w3 (fun p => some (.ret, ⟨[(4, .c (.i .i64 p))], [(0, .box [.i .i64 w4, .i .i64 w5, .i .i64 w6, .sl 66 w7 w8, .sl 68 w9 w10])]⟩)) (fun p => some ((.exit 0), ⟨[], [(0, .box [.i .i64 w4, .i .i64 w5, .i .i64 w6, .sl 66 w7 w8, .sl 68 w9 w10])]⟩)) = some x → exec Try.prog (T94x0 N) (h86x0s0 N) 1 (m + 101) (.loop (loopB (piece Try.prog 86 6))) (P86x0x6 w0 w1 w2 w3 w4 w5 w6 w7 w8 w9 w10) (fun e st => some (e, cutSt [4] [0] st)) = some x := by
  intro m
  induction m with
  | zero => intro w3 x h; cases h
  | succ m ih =>
    intro w3 x h
    exact loop_round (n := m + 101) (nl86x0x6 N) (by kernel_rfl) (cl86x0x6 N ..) (fun kn => step86x0x6 N (m + 1) kn ..) (mono86x0x6 N _ _ _ _ _ _ (fun w3 => ih w3 x) h)
noncomputable def G86x0x6 (N : Nat) (w1 : (List D)) (w2 : Int) (w8 : (List D)) (w3 : Int) : Option (Sum (Int) (Unit)) := L86x0x6 N (R := (Sum (Int) (Unit))) w1 w2 w8 N w3 (fun p => some (.inl p)) (fun p => some (.inr p))
theorem sb86x0x6 (N : Nat) {R A : Type} (w1 : (List D)) (w2 : Int) (w8 : (List D)) (w3 : Int) (kr : Int → Option R) (kr' : Int → Option A) (k0 : Int → Option R) (k1 : Unit → Option R) (j0 : Int → Option A) (j1 : Unit → Option A) (K : A → Option R) (hr : ∀ w3', kr w3' = (kr' w3').bind K) (h0 : ∀ p, k0 p = (j0 p).bind K) (h1 : ∀ p, k1 p = (j1 p).bind K) : S86x0x6 N w1 w2 w8 w3 kr k0 k1 = (S86x0x6 N w1 w2 w8 w3 kr' j0 j1).bind K := by
  unfold S86x0x6
  repeat' (first | rfl | apply hr | apply h0 | apply h1 | apply cond_b | (apply bnd_b; intro _))
theorem lbind86x0x6 (N : Nat) {R : Type} (w1 : (List D)) (w2 : Int) (w8 : (List D)) : ∀ (m : Nat) (w3 : Int) (k0 : Int → Option R) (k1 : Unit → Option R), L86x0x6 N w1 w2 w8 m w3 k0 k1 = (L86x0x6 N (R := (Sum (Int) (Unit))) w1 w2 w8 m w3 (fun p => some (.inl p)) (fun p => some (.inr p))).bind (sumE k0 k1) := by
  intro m
  induction m with
  | zero => intros; rfl
  | succ m ih =>
    intro w3 k0 k1
    exact sb86x0x6 N _ _ _ _ _ _ _ _ _ _ _ (fun w3 => ih w3 k0 k1) (fun _ => rfl) (fun _ => rfl)
theorem one86x0x6 : oneB Try.prog 86 6 = true := by kernel_rfl
noncomputable def sh86x0x6 : Sh := { tmps := [(0, .c (.sl 3)), (1, .c (.f 94 [(0, 0)])), (7, .c (.i .i64)), (8, .c (.i .i64))], mem := [(0, .box [.i .i64, .i .i64, .i .i64, .sl 66, .sl 68])] }
noncomputable def K86x0x6w0 (L : List Lf) (p : Int) : Ex × St := (.ret, ⟨[(4, .c (.i .i64 p))], [(0, .box [.i .i64 (li L 4), .i .i64 (li L 5), .i .i64 (li L 6), .sl 66 (lb L 7) (ll L 8), .sl 68 (lb L 9) (ll L 10)])]⟩)
noncomputable def K86x0x6w1 (L : List Lf) (_ : Unit) : Ex × St := ((.exit 0), ⟨[], [(0, .box [.i .i64 (li L 4), .i .i64 (li L 5), .i .i64 (li L 6), .sl 66 (lb L 7) (ll L 8), .sl 68 (lb L 9) (ll L 10)])]⟩)
noncomputable def A86x0x6 (N : Nat) (L : List Lf) : List (Bool × (Ex × St)) := bnd (G86x0x6 N (ll L 1) (li L 2) (ll L 8) (li L 3)) fun q => [((inlB q), K86x0x6w0 L (inlV q)), ((inrQ q).isSome, K86x0x6w1 L ())]
theorem eq86x0x6 (L : List Lf) : ofSh sh86x0x6 L = (P86x0x6 (lb L 0) (ll L 1) (li L 2) (li L 3) (li L 4) (li L 5) (li L 6) (lb L 7) (ll L 8) (lb L 9) (ll L 10)) := by kernel_rfl
theorem law86x0x6 (N : Nat) : CutLaw Try.prog 1 (piece Try.prog 86 6) (loSh sh86x0x6 (A86x0x6 N)) :=
  law_shL progOk (T94x0_ok N) (al86x0s0 N) one86x0x6 lp86x0x6 eq86x0x6 fun L x hx => run86x0x6 N _ _ _ _ _ _ _ _ _ _ N _ x ((lbind86x0x6 N _ _ _ N _ _ _).trans ((altS alt1) x hx))
noncomputable def h86x0s1 (N : Nat) : Hint := { (h86x0s0 N) with los := (6, loSh sh86x0x6 (A86x0x6 N)) :: (h86x0s0 N).los }
theorem al86x0s1 (N : Nat) : AllCuts Try.prog (h86x0s1 N).los 1 86 := AllCuts.cons (al86x0s0 N) one86x0x6 (law86x0x6 N)
noncomputable def F86x0 (N : Nat) {R : Type} (v1 v6 : (List D)) (k0 : Int → Option R) : Option R :=
  bnd (G86x0x6 N v1 (v1.length : Int) v6 0) fun x2267849 =>
  bif (inlB x2267849) then
    k0 (inlV x2267849)
  else
    bif (inrQ x2267849).isSome then
      k0 (-1)
    else
      none
noncomputable def G86x0 (N : Nat) (v1 v6 : (List D)) : Option (Int) := F86x0 N v1 v6 (fun p => some p)
theorem bind86x0 (N : Nat) {R : Type} (v1 v6 : (List D)) (k0 : Int → Option R) : F86x0 N v1 v6 k0 = (G86x0 N v1 v6).bind k0 := by
  unfold G86x0 F86x0
  repeat' (first | rfl | apply cond_b | (apply bnd_b; intro _))
noncomputable def sh86x0 : Sh := { tmps := [(0, .c (.sl 3)), (1, .c (.f 94 [(0, 0)]))], mem := [(0, .box [.i .i64, .i .i64, .i .i64, .sl 66, .sl 68])] }
noncomputable def K86x0w0 (L : List Lf) (p : Int) : Res := ([.c (.i .i64 p)], [(0, .box [.i .i64 (li L 2), .i .i64 (li L 3), .i .i64 (li L 4), .sl 66 (lb L 5) (ll L 6), .sl 68 (lb L 7) (ll L 8)])])
noncomputable def A86x0 (N : Nat) (L : List Lf) : List (Bool × Res) := bnd (F86x0 N (ll L 1) (ll L 6) (fun p => some p)) fun q => [(q.isSome, K86x0w0 L (q.getD default))]
theorem raw86x0 (N : Nat) (L : List Lf) : (body Try.prog (T94x0 N) (h86x0s1 N) 200 86 (valsOf (ofSh sh86x0 L).tmps) (ofSh sh86x0 L).mem : Option Res) = F86x0 N (ll L 1) (ll L 6) (fun p => some (K86x0w0 L p)) := by kernel_rfl
theorem ok86x0 (N : Nat) : ∀ args mem alts, spSh sh86x0 (A86x0 N) args mem = some alts → ∀ res, altK alts some = some res → CallOk Try.prog 86 args mem res :=
  spSh_law fun L x hx => callOk_of (n := 200) progOk (T94x0_ok N) (al86x0s1 N) rfl ((raw86x0 N L).trans ((bind86x0 N ..).trans (alt1 x hx)))
noncomputable def T86x0 (N : Nat) : Oracle := ext 86 (spSh sh86x0 (A86x0 N)) (T94x0 N)
theorem T86x0_ok (N : Nat) : OracleOk Try.prog (T86x0 N) := ext_ok (T94x0_ok N) (enters_of (by kernel_rfl)) (ok86x0 N)
noncomputable def rg65x0 : List (Nat × List Nat) := [(0, [0, 1]), (1, [0, 1])]
noncomputable def hd65x0 : Hints := []
noncomputable def h65x0s0 (N : Nat) : Hint := { loops := hd65x0, regs := rg65x0, los := [] }
theorem al65x0s0 (N : Nat) : AllCuts Try.prog (h65x0s0 N).los 1 65 := AllCuts.nil
noncomputable def F65x0 (N : Nat) {R : Type} (v1 v6 : (List D)) (k0 : Bool → Option R) : Option R :=
  bnd (G86x0 N v1 v6) fun x57389133 =>
  bif x57389133.isSome then
    k0 (decide ((x57389133.getD default) ≥ 0))
  else
    none
noncomputable def G65x0 (N : Nat) (v1 v6 : (List D)) : Option (Bool) := F65x0 N v1 v6 (fun p => some p)
theorem bind65x0 (N : Nat) {R : Type} (v1 v6 : (List D)) (k0 : Bool → Option R) : F65x0 N v1 v6 k0 = (G65x0 N v1 v6).bind k0 := by
  unfold G65x0 F65x0
  repeat' (first | rfl | apply cond_b | (apply bnd_b; intro _))
noncomputable def sh65x0 : Sh := { tmps := [(0, .c (.sl 3)), (1, .c (.f 94 [(0, 0)]))], mem := [(0, .box [.i .i64, .i .i64, .i .i64, .sl 66, .sl 68])] }
noncomputable def K65x0w0 (L : List Lf) (p : Bool) : Res := ([.c (.b p)], [(0, .box [.i .i64 (li L 2), .i .i64 (li L 3), .i .i64 (li L 4), .sl 66 (lb L 5) (ll L 6), .sl 68 (lb L 7) (ll L 8)])])
noncomputable def A65x0 (N : Nat) (L : List Lf) : List (Bool × Res) := bnd (F65x0 N (ll L 1) (ll L 6) (fun p => some p)) fun q => [(q.isSome, K65x0w0 L (q.getD default))]
theorem raw65x0 (N : Nat) (L : List Lf) : (body Try.prog (T86x0 N) (h65x0s0 N) 200 65 (valsOf (ofSh sh65x0 L).tmps) (ofSh sh65x0 L).mem : Option Res) = F65x0 N (ll L 1) (ll L 6) (fun p => some (K65x0w0 L p)) := by kernel_rfl
theorem ok65x0 (N : Nat) : ∀ args mem alts, spSh sh65x0 (A65x0 N) args mem = some alts → ∀ res, altK alts some = some res → CallOk Try.prog 65 args mem res :=
  spSh_law fun L x hx => callOk_of (n := 200) progOk (T86x0_ok N) (al65x0s0 N) rfl ((raw65x0 N L).trans ((bind65x0 N ..).trans (alt1 x hx)))
noncomputable def T65x0 (N : Nat) : Oracle := ext 65 (spSh sh65x0 (A65x0 N)) (T86x0 N)
theorem T65x0_ok (N : Nat) : OracleOk Try.prog (T65x0 N) := ext_ok (T86x0_ok N) (enters_of (by kernel_rfl)) (ok65x0 N)
noncomputable def rg77x0 : List (Nat × List Nat) := [(0, [0, 1]), (1, [1, 2])]
noncomputable def hd77x0 : Hints := [(4, [1, 2], [2], [])]
noncomputable def h77x0s0 (N : Nat) : Hint := { loops := hd77x0, regs := rg77x0, los := [] }
theorem al77x0s0 (N : Nat) : AllCuts Try.prog (h77x0s0 N).los 0 77 := AllCuts.nil
noncomputable def F77x0x4 (N : Nat) {R : Type} (w1 : (List D)) (w3 : Int) (w6 : (List D)) (k0 : Bool → Option R) : Option R :=
  bif (decide ((w1.length : Int) ≤ w3)) then
    bnd (G65x0 N w1 w6) fun x67998219 =>
    bif x67998219.isSome then
      k0 (!(x67998219.getD default))
    else
      none
  else
    k0 false
noncomputable def G77x0x4 (N : Nat) (w1 : (List D)) (w3 : Int) (w6 : (List D)) : Option (Bool) := F77x0x4 N w1 w3 w6 (fun p => some p)
theorem bind77x0x4 (N : Nat) {R : Type} (w1 : (List D)) (w3 : Int) (w6 : (List D)) (k0 : Bool → Option R) : F77x0x4 N w1 w3 w6 k0 = (G77x0x4 N w1 w3 w6).bind k0 := by
  unfold G77x0x4 F77x0x4
  repeat' (first | rfl | apply cond_b | (apply bnd_b; intro _))
noncomputable def sh77x0x4 : Sh := { tmps := [(1, .c (.sl 3)), (2, .c (.p 2 0))], mem := [(2, .box [.i .i64, .i .i64, .i .i64, .sl 66, .sl 68])] }
noncomputable def A77x0x4 (N : Nat) (L : List Lf) : List (Bool × (Ex × St)) := bnd (F77x0x4 N (ll L 1) (li L 3) (ll L 6) (fun p => some p)) fun q => [(q.isSome, (.normal, ⟨[(4, .c (.b (q.getD default)))], []⟩))]
theorem raw77x0x4 (N : Nat) (L : List Lf) : (exec Try.prog (T65x0 N) (h77x0s0 N) 0 100 (piece Try.prog 77 4) (ofSh sh77x0x4 L) (fun e st => some (e, cutSt [4] [] st)) : Option (Ex × St)) = F77x0x4 N (ll L 1) (li L 3) (ll L 6) (fun p => some (.normal, ⟨[(4, .c (.b p))], []⟩)) := by kernel_rfl
theorem one77x0x4 : oneB Try.prog 77 4 = true := by kernel_rfl
theorem law77x0x4 (N : Nat) : CutLaw Try.prog 0 (piece Try.prog 77 4) (loSh sh77x0x4 (A77x0x4 N)) :=
  law_sh progOk (T65x0_ok N) (al77x0s0 N) one77x0x4 fun L x hx => (raw77x0x4 N L).trans ((bind77x0x4 N ..).trans (alt1 x hx))
noncomputable def h77x0s1 (N : Nat) : Hint := { (h77x0s0 N) with los := (4, loSh sh77x0x4 (A77x0x4 N)) :: (h77x0s0 N).los }
theorem al77x0s1 (N : Nat) : AllCuts Try.prog (h77x0s1 N).los 0 77 := AllCuts.cons (al77x0s0 N) one77x0x4 (law77x0x4 N)
noncomputable def F77x0 (N : Nat) {R : Type} (v1 : Int) (v4 v8 : (List D)) (k0 : Bool → Option R) : Option R :=
  bnd (G77x0x4 N v8 v1 v4) fun x29900925 =>
  bif x29900925.isSome then
    k0 (x29900925.getD default)
  else
    none
noncomputable def G77x0 (N : Nat) (v1 : Int) (v4 v8 : (List D)) : Option (Bool) := F77x0 N v1 v4 v8 (fun p => some p)
theorem bind77x0 (N : Nat) {R : Type} (v1 : Int) (v4 v8 : (List D)) (k0 : Bool → Option R) : F77x0 N v1 v4 v8 k0 = (G77x0 N v1 v4 v8).bind k0 := by
  unfold G77x0 F77x0
  repeat' (first | rfl | apply cond_b | (apply bnd_b; intro _))
noncomputable def sh77x0 : Sh := { tmps := [(0, .g [.i .i64, .i .i64, .i .i64, .sl 66, .sl 68]), (1, .c (.sl 3))], mem := [] }
noncomputable def A77x0 (N : Nat) (L : List Lf) : List (Bool × Res) := bnd (F77x0 N (li L 1) (ll L 4) (ll L 8) (fun p => some p)) fun q => [(q.isSome, ([.c (.b (q.getD default))], []))]
theorem raw77x0 (N : Nat) (L : List Lf) : (body Try.prog (T65x0 N) (h77x0s1 N) 200 77 (valsOf (ofSh sh77x0 L).tmps) (ofSh sh77x0 L).mem : Option Res) = F77x0 N (li L 1) (ll L 4) (ll L 8) (fun p => some ([.c (.b p)], [])) := by kernel_rfl
theorem ok77x0 (N : Nat) : ∀ args mem alts, spSh sh77x0 (A77x0 N) args mem = some alts → ∀ res, altK alts some = some res → CallOk Try.prog 77 args mem res :=
  spSh_law fun L x hx => callOk_of (n := 200) progOk (T65x0_ok N) (al77x0s1 N) rfl ((raw77x0 N L).trans ((bind77x0 N ..).trans (alt1 x hx)))
noncomputable def T77x0 (N : Nat) : Oracle := ext 77 (spSh sh77x0 (A77x0 N)) (T65x0 N)
theorem T77x0_ok (N : Nat) : OracleOk Try.prog (T77x0 N) := ext_ok (T65x0_ok N) (enters_of (by kernel_rfl)) (ok77x0 N)
noncomputable def rg46x0 : List (Nat × List Nat) := [(0, [0, 1]), (1, [2, 1]), (2, [5, 2, 1]), (3, [5]), (4, [2, 1]), (5, []), (6, [])]
noncomputable def hd46x0 : Hints := []
noncomputable def h46x0s0 (N : Nat) : Hint := { loops := hd46x0, regs := rg46x0, los := [] }
theorem al46x0s0 (N : Nat) : AllCuts Try.prog (h46x0s0 N).los 0 46 := AllCuts.nil
noncomputable def F46x0 (N : Nat) {R : Type} (v0 v1 v2 : Int) (v4 v6 v8 : (List D)) (k0 : Int → Option R) : Option R :=
  bnd (G19x0 N v0 v1 v2 v4 v6) fun x62429361 =>
  bif x62429361.isSome then
    bif ((x62429361.getD default) != 0) then
      k0 (x62429361.getD default)
    else
      bnd (G77x0 N v1 v4 v8) fun x36463331 =>
      bif x36463331.isSome then
        bif (!(x36463331.getD default)) then
          k0 2
        else
          k0 0
      else
        none
  else
    none
noncomputable def G46x0 (N : Nat) (v0 v1 v2 : Int) (v4 v6 v8 : (List D)) : Option (Int) := F46x0 N v0 v1 v2 v4 v6 v8 (fun p => some p)
theorem bind46x0 (N : Nat) {R : Type} (v0 v1 v2 : Int) (v4 v6 v8 : (List D)) (k0 : Int → Option R) : F46x0 N v0 v1 v2 v4 v6 v8 k0 = (G46x0 N v0 v1 v2 v4 v6 v8).bind k0 := by
  unfold G46x0 F46x0
  repeat' (first | rfl | apply cond_b | (apply bnd_b; intro _))
noncomputable def J46x0 (N : Nat) (L : List Lf) {R : Type} (k0 : Int → Option R) : Option R := F46x0 N (li L 0) (li L 1) (li L 2) (ll L 4) (ll L 6) (ll L 8) k0
noncomputable def sh46x0 : Sh := { tmps := [(0, .g [.i .i64, .i .i64, .i .i64, .sl 66, .sl 68]), (1, .c (.sl 3))], mem := [] }
noncomputable def A46x0 (N : Nat) (L : List Lf) : List (Bool × Res) := bnd (J46x0 N L (fun p => some p)) fun q => [(q.isSome, ([.c (.i .i64 (q.getD default))], []))]
theorem raw46x0 (N : Nat) (L : List Lf) : (body Try.prog (T77x0 N) (h46x0s0 N) 200 46 (valsOf (ofSh sh46x0 L).tmps) (ofSh sh46x0 L).mem : Option Res) = J46x0 N L (fun p => some ([.c (.i .i64 p)], [])) := by kernel_rfl
theorem ok46x0 (N : Nat) : ∀ args mem alts, spSh sh46x0 (A46x0 N) args mem = some alts → ∀ res, altK alts some = some res → CallOk Try.prog 46 args mem res :=
  spSh_law fun L x hx => callOk_of (n := 200) progOk (T77x0_ok N) (al46x0s0 N) rfl ((raw46x0 N L).trans ((bind46x0 N ..).trans (alt1 x hx)))
noncomputable def T46x0 (N : Nat) : Oracle := ext 46 (spSh sh46x0 (A46x0 N)) (T77x0 N)
theorem T46x0_ok (N : Nat) : OracleOk Try.prog (T46x0 N) := ext_ok (T77x0_ok N) (enters_of (by kernel_rfl)) (ok46x0 N)
noncomputable def rg79x0 : List (Nat × List Nat) := [(0, [0]), (1, [0, 2])]
noncomputable def hd79x0 : Hints := []
noncomputable def h79x0s0 (N : Nat) : Hint := { loops := hd79x0, regs := rg79x0, los := [] }
theorem al79x0s0 (N : Nat) : AllCuts Try.prog (h79x0s0 N).los 1 79 := AllCuts.nil
noncomputable def F79x0 (N : Nat) {R : Type} (k0 : Unit → R) : R :=
  k0 ()
noncomputable def V79x0 (N : Nat) : Unit := F79x0 N (fun p => p)
theorem tot79x0 (N : Nat) {R : Type} (k0 : Unit → R) : F79x0 N k0 = k0 (V79x0 N) := by
  unfold V79x0 F79x0
  repeat' (first | rfl | apply cond_k | (apply bnd_k; intro _))
noncomputable def sh79x0 : Sh := { tmps := [(0, .c (.p 0 0))], mem := [(0, .box [.i .i64, .i .i64, .i .i64, .sl 66, .sl 68, .b, .b, .b, .b, .b, .b, .b, .b, .b, .b, .b, .b])] }
noncomputable def K79x0w0 (L : List Lf) (_ : Unit) : Res := ([.g [.i .i64 0, .i .i64 0, .i .i64 (li L 2), .i .i64 0, .i .i64 0, .i .i64 0, .i .i64 0, .i .i64 0, .i .i64 0, .i .i64 0, .i .i64 0, .i .i64 0, .i .i64 0, .i .i64 0, .i .i64 0, .i .i64 0, .i .i64 0, .i .i64 0, .i .i64 0, .i .i64 0]], [(0, .box [.i .i64 (li L 0), .i .i64 (li L 1), .i .i64 (li L 2), .sl 66 (lb L 3) (ll L 4), .sl 68 (lb L 5) (ll L 6), .b (lb L 7), .b (lb L 8), .b (lb L 9), .b (lb L 10), .b (lb L 11), .b (lb L 12), .b (lb L 13), .b (lb L 14), .b (lb L 15), .b (lb L 16), .b (lb L 17), .b (lb L 18)])])
noncomputable def A79x0 (N : Nat) (L : List Lf) : List (Bool × Res) := [(true, K79x0w0 L ())]
theorem raw79x0 (N : Nat) (L : List Lf) : (body Try.prog (T46x0 N) (h79x0s0 N) 200 79 (valsOf (ofSh sh79x0 L).tmps) (ofSh sh79x0 L).mem : Option Res) = F79x0 N (fun _ => some (K79x0w0 L ())) := by kernel_rfl
theorem ok79x0 (N : Nat) : ∀ args mem alts, spSh sh79x0 (A79x0 N) args mem = some alts → ∀ res, altK alts some = some res → CallOk Try.prog 79 args mem res :=
  spSh_law fun L x hx => callOk_of (n := 200) progOk (T46x0_ok N) (al79x0s0 N) rfl ((raw79x0 N L).trans ((tot79x0 N ..).trans (alt0 _ _ hx)))
noncomputable def T79x0 (N : Nat) : Oracle := ext 79 (spSh sh79x0 (A79x0 N)) (T46x0 N)
theorem T79x0_ok (N : Nat) : OracleOk Try.prog (T79x0 N) := ext_ok (T46x0_ok N) (enters_of (by kernel_rfl)) (ok79x0 N)
noncomputable def rg89x0 : List (Nat × List Nat) := [(0, [1, 0]), (1, [1, 0]), (2, [0, 1]), (3, [0])]
noncomputable def hd89x0 : Hints := []
noncomputable def h89x0s0 (N : Nat) : Hint := { loops := hd89x0, regs := rg89x0, los := [] }
theorem al89x0s0 (N : Nat) : AllCuts Try.prog (h89x0s0 N).los 2 89 := AllCuts.nil
noncomputable def F89x0 (N : Nat) {R : Type} (v0 : Int) (v5 v21 : (List D)) (k0 : Int × Int → Option R) : Option R :=
  bif (decide (v0 < (v21.length : Int))) then
    bif (inB v0 v21.length) then
      bif (inB v0 v21.length) then
        k0 ((v21.getD v0.toNat (.i 0)).toI, (v21.getD v0.toNat (.i 0)).toI)
      else
        none
    else
      none
  else
    k0 ((-1), (IntKind.wrap .i64 ((v5.length : Int) - 1)))
noncomputable def G89x0 (N : Nat) (v0 : Int) (v5 v21 : (List D)) : Option (Int × Int) := F89x0 N v0 v5 v21 (fun p => some p)
theorem bind89x0 (N : Nat) {R : Type} (v0 : Int) (v5 v21 : (List D)) (k0 : Int × Int → Option R) : F89x0 N v0 v5 v21 k0 = (G89x0 N v0 v5 v21).bind k0 := by
  unfold G89x0 F89x0
  repeat' (first | rfl | apply cond_b | (apply bnd_b; intro _))
noncomputable def sh89x0 : Sh := { tmps := [(0, .c (.p 0 0)), (1, .c (.i .i64))], mem := [(0, .box [.i .i64, .i .i64, .i .i64, .sl 66, .sl 68, .b, .b, .b, .b, .b, .b, .b, .b, .b, .b, .b, .b, .sl 3, .sl 3, .m 1]), (1, .map 106 59)] }
noncomputable def K89x0w0 (L : List Lf) (p : Int × Int) : Res := ([.c (.i .i64 p.1), .c (.i .i64 p.2)], [(0, .box [.i .i64 (li L 1), .i .i64 (li L 2), .i .i64 (li L 3), .sl 66 (lb L 4) (ll L 5), .sl 68 (lb L 6) (ll L 7), .b (lb L 8), .b (lb L 9), .b (lb L 10), .b (lb L 11), .b (lb L 12), .b (lb L 13), .b (lb L 14), .b (lb L 15), .b (lb L 16), .b (lb L 17), .b (lb L 18), .b (lb L 19), .sl 3 (lb L 20) (ll L 21), .sl 3 (lb L 22) (ll L 23), .m 1]), (1, .map 106 59 (lm L 24))])
noncomputable def A89x0 (N : Nat) (L : List Lf) : List (Bool × Res) := bnd (F89x0 N (li L 0) (ll L 5) (ll L 21) (fun p => some p)) fun q => [(q.isSome, K89x0w0 L (q.getD default))]
theorem raw89x0 (N : Nat) (L : List Lf) : (body Try.prog (T79x0 N) (h89x0s0 N) 200 89 (valsOf (ofSh sh89x0 L).tmps) (ofSh sh89x0 L).mem : Option Res) = F89x0 N (li L 0) (ll L 5) (ll L 21) (fun p => some (K89x0w0 L p)) := by kernel_rfl
theorem ok89x0 (N : Nat) : ∀ args mem alts, spSh sh89x0 (A89x0 N) args mem = some alts → ∀ res, altK alts some = some res → CallOk Try.prog 89 args mem res :=
  spSh_law fun L x hx => callOk_of (n := 200) progOk (T79x0_ok N) (al89x0s0 N) rfl ((raw89x0 N L).trans ((bind89x0 N ..).trans (alt1 x hx)))
noncomputable def T89x0 (N : Nat) : Oracle := ext 89 (spSh sh89x0 (A89x0 N)) (T79x0 N)
theorem T89x0_ok (N : Nat) : OracleOk Try.prog (T89x0 N) := ext_ok (T79x0_ok N) (enters_of (by kernel_rfl)) (ok89x0 N)
noncomputable def rg70x0 : List (Nat × List Nat) := [(0, [0, 1]), (1, [1, 4, 2]), (2, [4]), (3, [2, 1, 4])]
noncomputable def hd70x0 : Hints := []
noncomputable def h70x0s0 (N : Nat) : Hint := { loops := hd70x0, regs := rg70x0, los := [] }
theorem al70x0s0 (N : Nat) : AllCuts Try.prog (h70x0s0 N).los 0 70 := AllCuts.nil
noncomputable def F70x0 (N : Nat) {R : Type} (v4 : (List D)) (v7 : Int) (k0 : (List UInt8) × Int × Int × Int × Bool → Option R) : Option R :=
  bif (decide (v7 < 0)) then
    k0 (([] : List UInt8), 0, 0, 0, false)
  else
    bif (inB v7 v4.length) then
      k0 (((v4.getD v7.toNat (.i 0)).cell 0).toS, ((v4.getD v7.toNat (.i 0)).cell 1).toI, ((v4.getD v7.toNat (.i 0)).cell 2).toI, ((v4.getD v7.toNat (.i 0)).cell 3).toI, ((v4.getD v7.toNat (.i 0)).cell 4).toB)
    else
      none
noncomputable def G70x0 (N : Nat) (v4 : (List D)) (v7 : Int) : Option ((List UInt8) × Int × Int × Int × Bool) := F70x0 N v4 v7 (fun p => some p)
theorem bind70x0 (N : Nat) {R : Type} (v4 : (List D)) (v7 : Int) (k0 : (List UInt8) × Int × Int × Int × Bool → Option R) : F70x0 N v4 v7 k0 = (G70x0 N v4 v7).bind k0 := by
  unfold G70x0 F70x0
  repeat' (first | rfl | apply cond_b | (apply bnd_b; intro _))
noncomputable def sh70x0 : Sh := { tmps := [(0, .g [.i .i64, .i .i64, .i .i64, .sl 66, .sl 68]), (1, .c (.i .i64))], mem := [] }
noncomputable def K70x0w0 (L : List Lf) (p : (List UInt8) × Int × Int × Int × Bool) : Res := ([.g [.s p.1, .i .i64 p.2.1, .i .i64 p.2.2.1, .i .i64 p.2.2.2.1, .b p.2.2.2.2]], [])
noncomputable def A70x0 (N : Nat) (L : List Lf) : List (Bool × Res) := bnd (F70x0 N (ll L 4) (li L 7) (fun p => some p)) fun q => [(q.isSome, K70x0w0 L (q.getD default))]
theorem raw70x0 (N : Nat) (L : List Lf) : (body Try.prog (T89x0 N) (h70x0s0 N) 200 70 (valsOf (ofSh sh70x0 L).tmps) (ofSh sh70x0 L).mem : Option Res) = F70x0 N (ll L 4) (li L 7) (fun p => some (K70x0w0 L p)) := by kernel_rfl
theorem ok70x0 (N : Nat) : ∀ args mem alts, spSh sh70x0 (A70x0 N) args mem = some alts → ∀ res, altK alts some = some res → CallOk Try.prog 70 args mem res :=
  spSh_law fun L x hx => callOk_of (n := 200) progOk (T89x0_ok N) (al70x0s0 N) rfl ((raw70x0 N L).trans ((bind70x0 N ..).trans (alt1 x hx)))
noncomputable def T70x0 (N : Nat) : Oracle := ext 70 (spSh sh70x0 (A70x0 N)) (T89x0 N)
theorem T70x0_ok (N : Nat) : OracleOk Try.prog (T70x0 N) := ext_ok (T89x0_ok N) (enters_of (by kernel_rfl)) (ok70x0 N)
noncomputable def rg95x0 : List (Nat × List Nat) := [(0, [1, 0, 2, 3, 4, 5]), (1, [0, 2, 3, 7, 4, 5]), (2, [0, 3, 7, 13, 4, 5, 2]), (3, [7, 13, 3, 0, 14, 4, 5, 2]), (4, [13, 3, 0, 15, 14, 7, 4, 5, 2]), (5, [34, 3, 0, 15, 13, 14, 7, 4, 5, 2]), (7, [34, 3, 14, 13, 0, 15, 7, 4, 5, 2]), (9, [34, 7, 13, 4, 14, 15, 0, 5, 3, 2]), (11, [34, 4, 7, 13, 14, 15, 0, 5, 3, 2]), (13, [34, 14, 7, 15, 13, 0, 4, 5, 3, 2]), (15, [34, 0, 13, 7, 4, 5, 15, 3, 2]), (18, [34, 5, 7, 13, 15, 3, 0, 2]), (20, [34, 15, 13, 3, 0, 2, 7]), (21, [15, 13, 3, 0]), (19, [5, 7, 13]), (16, [0, 13, 7, 4]), (17, [16, 13, 4]), (14, [14, 7, 15, 13]), (12, [4, 7, 13]), (10, [7, 13]), (8, [3, 14, 13, 0, 15]), (6, [3, 0, 15, 13]), (22, [2, 7, 13])]
noncomputable def hd95x0 : Hints := [(19, [3, 0, 15, 13], [14, 0], []), (25, [3, 14, 13, 0, 15], [15, 14, 0], []), (64, [15, 13, 3, 0], [14, 0], [])]
noncomputable def h95x0s0 (N : Nat) : Hint := { loops := hd95x0, regs := rg95x0, los := [] }
theorem al95x0s0 (N : Nat) : AllCuts Try.prog (h95x0s0 N).los 1 95 := AllCuts.nil
noncomputable def F95x0x19 (N : Nat) {R : Type} (w0 w1 w2 w22 : Int) (k0 : Bool → R) : R :=
  bif (decide (w0 < 0)) then
    k0 true
  else
    bnd (V49x0 N w2 w1) fun x61334119 =>
    k0 (x61334119 != w22)
noncomputable def V95x0x19 (N : Nat) (w0 w1 w2 w22 : Int) : Bool := F95x0x19 N w0 w1 w2 w22 (fun p => p)
theorem tot95x0x19 (N : Nat) {R : Type} (w0 w1 w2 w22 : Int) (k0 : Bool → R) : F95x0x19 N w0 w1 w2 w22 k0 = k0 (V95x0x19 N w0 w1 w2 w22) := by
  unfold V95x0x19 F95x0x19
  repeat' (first | rfl | apply cond_k | (apply bnd_k; intro _))
noncomputable def J95x0x19 (N : Nat) (L : List Lf) {R : Type} (k0 : Bool → R) : R := F95x0x19 N (li L 0) (li L 1) (li L 2) (li L 22) k0
noncomputable def sh95x0x19 : Sh := { tmps := [(0, .c (.p 0 0)), (3, .c (.i .i64)), (13, .c (.p 14 0)), (15, .c (.i .i64))], mem := [(0, .box [.i .i64, .i .i64, .i .i64, .sl 66, .sl 68, .b, .b, .b, .b, .b, .b, .b, .b, .b, .b, .b, .b]), (14, .box [.i .i64, .i .i64, .i .i64, .i .i64, .i .i64, .s])] }
noncomputable def K95x0x19w0 (L : List Lf) (p : Bool) : Ex × St := (.normal, ⟨[(12, .c (.b p))], [(0, .box [.i .i64 (li L 2), .i .i64 (li L 3), .i .i64 (li L 4), .sl 66 (lb L 5) (ll L 6), .sl 68 (lb L 7) (ll L 8), .b (lb L 9), .b (lb L 10), .b (lb L 11), .b (lb L 12), .b (lb L 13), .b (lb L 14), .b (lb L 15), .b (lb L 16), .b (lb L 17), .b (lb L 18), .b (lb L 19), .b (lb L 20)])]⟩)
noncomputable def A95x0x19 (N : Nat) (L : List Lf) : List (Bool × (Ex × St)) := bnd (J95x0x19 N L (fun p => p)) fun q => [(true, K95x0x19w0 L q)]
theorem raw95x0x19 (N : Nat) (L : List Lf) : (exec Try.prog (T70x0 N) (h95x0s0 N) 1 100 (piece Try.prog 95 19) (ofSh sh95x0x19 L) (fun e st => some (e, cutSt [12] [0] st)) : Option (Ex × St)) = J95x0x19 N L (fun p => some (K95x0x19w0 L p)) := by kernel_rfl
theorem one95x0x19 : oneB Try.prog 95 19 = true := by kernel_rfl
theorem law95x0x19 (N : Nat) : CutLaw Try.prog 1 (piece Try.prog 95 19) (loSh sh95x0x19 (A95x0x19 N)) :=
  law_sh progOk (T70x0_ok N) (al95x0s0 N) one95x0x19 fun L x hx => (raw95x0x19 N L).trans ((tot95x0x19 N ..).trans (alt0 _ _ hx))
noncomputable def h95x0s1 (N : Nat) : Hint := { (h95x0s0 N) with los := (19, loSh sh95x0x19 (A95x0x19 N)) :: (h95x0s0 N).los }
theorem al95x0s1 (N : Nat) : AllCuts Try.prog (h95x0s1 N).los 1 95 := AllCuts.cons (al95x0s0 N) one95x0x19 (law95x0x19 N)
noncomputable def F95x0x25 (N : Nat) {R : Type} (w0 w1 w2 w22 w23 w29 : Int) (k0 : Bool → R) : R :=
  bif (decide (w0 < 0)) then
    k0 true
  else
    bif (decide (w29 ≤ w23)) then
      k0 true
    else
      bnd (V49x0 N w2 w1) fun x61334119 =>
      k0 (x61334119 != w22)
noncomputable def V95x0x25 (N : Nat) (w0 w1 w2 w22 w23 w29 : Int) : Bool := F95x0x25 N w0 w1 w2 w22 w23 w29 (fun p => p)
theorem tot95x0x25 (N : Nat) {R : Type} (w0 w1 w2 w22 w23 w29 : Int) (k0 : Bool → R) : F95x0x25 N w0 w1 w2 w22 w23 w29 k0 = k0 (V95x0x25 N w0 w1 w2 w22 w23 w29) := by
  unfold V95x0x25 F95x0x25
  repeat' (first | rfl | apply cond_k | (apply bnd_k; intro _))
noncomputable def J95x0x25 (N : Nat) (L : List Lf) {R : Type} (k0 : Bool → R) : R := F95x0x25 N (li L 0) (li L 1) (li L 2) (li L 22) (li L 23) (li L 29) k0
noncomputable def sh95x0x25 : Sh := { tmps := [(0, .c (.p 0 0)), (3, .c (.i .i64)), (13, .c (.p 14 0)), (14, .c (.p 15 0)), (15, .c (.i .i64))], mem := [(0, .box [.i .i64, .i .i64, .i .i64, .sl 66, .sl 68, .b, .b, .b, .b, .b, .b, .b, .b, .b, .b, .b, .b]), (14, .box [.i .i64, .i .i64, .i .i64, .i .i64, .i .i64, .s]), (15, .box [.s, .i .i64, .i .i64, .i .i64, .b])] }
noncomputable def K95x0x25w0 (L : List Lf) (p : Bool) : Ex × St := (.normal, ⟨[(12, .c (.b p))], [(0, .box [.i .i64 (li L 2), .i .i64 (li L 3), .i .i64 (li L 4), .sl 66 (lb L 5) (ll L 6), .sl 68 (lb L 7) (ll L 8), .b (lb L 9), .b (lb L 10), .b (lb L 11), .b (lb L 12), .b (lb L 13), .b (lb L 14), .b (lb L 15), .b (lb L 16), .b (lb L 17), .b (lb L 18), .b (lb L 19), .b (lb L 20)])]⟩)
noncomputable def A95x0x25 (N : Nat) (L : List Lf) : List (Bool × (Ex × St)) := bnd (J95x0x25 N L (fun p => p)) fun q => [(true, K95x0x25w0 L q)]
theorem raw95x0x25 (N : Nat) (L : List Lf) : (exec Try.prog (T70x0 N) (h95x0s1 N) 1 100 (piece Try.prog 95 25) (ofSh sh95x0x25 L) (fun e st => some (e, cutSt [12] [0] st)) : Option (Ex × St)) = J95x0x25 N L (fun p => some (K95x0x25w0 L p)) := by kernel_rfl
theorem one95x0x25 : oneB Try.prog 95 25 = true := by kernel_rfl
theorem law95x0x25 (N : Nat) : CutLaw Try.prog 1 (piece Try.prog 95 25) (loSh sh95x0x25 (A95x0x25 N)) :=
  law_sh progOk (T70x0_ok N) (al95x0s1 N) one95x0x25 fun L x hx => (raw95x0x25 N L).trans ((tot95x0x25 N ..).trans (alt0 _ _ hx))
noncomputable def h95x0s2 (N : Nat) : Hint := { (h95x0s1 N) with los := (25, loSh sh95x0x25 (A95x0x25 N)) :: (h95x0s1 N).los }
theorem al95x0s2 (N : Nat) : AllCuts Try.prog (h95x0s2 N).los 1 95 := AllCuts.cons (al95x0s1 N) one95x0x25 (law95x0x25 N)
noncomputable def F95x0x64 (N : Nat) {R : Type} (w0 w1 : Int) (w6 : (List D)) (w22 : Int) (w26 : (List UInt8)) (k0 : Bool → Option R) : Option R :=
  bif (w1 != w22) then
    k0 true
  else
    bnd (G52x0 N w6 w26) fun x19238967 =>
    bif x19238967.isSome then
      k0 (w0 == (x19238967.getD default))
    else
      none
noncomputable def G95x0x64 (N : Nat) (w0 w1 : Int) (w6 : (List D)) (w22 : Int) (w26 : (List UInt8)) : Option (Bool) := F95x0x64 N w0 w1 w6 w22 w26 (fun p => some p)
theorem bind95x0x64 (N : Nat) {R : Type} (w0 w1 : Int) (w6 : (List D)) (w22 : Int) (w26 : (List UInt8)) (k0 : Bool → Option R) : F95x0x64 N w0 w1 w6 w22 w26 k0 = (G95x0x64 N w0 w1 w6 w22 w26).bind k0 := by
  unfold G95x0x64 F95x0x64
  repeat' (first | rfl | apply cond_b | (apply bnd_b; intro _))
noncomputable def J95x0x64 (N : Nat) (L : List Lf) {R : Type} (k0 : Bool → Option R) : Option R := F95x0x64 N (li L 0) (li L 1) (ll L 6) (li L 22) (ls L 26) k0
noncomputable def sh95x0x64 : Sh := { tmps := [(0, .c (.p 0 0)), (3, .c (.i .i64)), (13, .c (.p 14 0)), (15, .c (.i .i64))], mem := [(0, .box [.i .i64, .i .i64, .i .i64, .sl 66, .sl 68, .b, .b, .b, .b, .b, .b, .b, .b, .b, .b, .b, .b]), (14, .box [.i .i64, .i .i64, .i .i64, .i .i64, .i .i64, .s])] }
noncomputable def K95x0x64w0 (L : List Lf) (p : Bool) : Ex × St := (.normal, ⟨[(12, .c (.b p))], [(0, .box [.i .i64 (li L 2), .i .i64 (li L 3), .i .i64 (li L 4), .sl 66 (lb L 5) (ll L 6), .sl 68 (lb L 7) (ll L 8), .b (lb L 9), .b (lb L 10), .b (lb L 11), .b (lb L 12), .b (lb L 13), .b (lb L 14), .b (lb L 15), .b (lb L 16), .b (lb L 17), .b (lb L 18), .b (lb L 19), .b (lb L 20)])]⟩)
noncomputable def A95x0x64 (N : Nat) (L : List Lf) : List (Bool × (Ex × St)) := bnd (J95x0x64 N L (fun p => some p)) fun q => [(q.isSome, K95x0x64w0 L (q.getD default))]
theorem raw95x0x64 (N : Nat) (L : List Lf) : (exec Try.prog (T70x0 N) (h95x0s2 N) 1 100 (piece Try.prog 95 64) (ofSh sh95x0x64 L) (fun e st => some (e, cutSt [12] [0] st)) : Option (Ex × St)) = J95x0x64 N L (fun p => some (K95x0x64w0 L p)) := by kernel_rfl
theorem one95x0x64 : oneB Try.prog 95 64 = true := by kernel_rfl
theorem law95x0x64 (N : Nat) : CutLaw Try.prog 1 (piece Try.prog 95 64) (loSh sh95x0x64 (A95x0x64 N)) :=
  law_sh progOk (T70x0_ok N) (al95x0s2 N) one95x0x64 fun L x hx => (raw95x0x64 N L).trans ((bind95x0x64 N ..).trans (alt1 x hx))
noncomputable def h95x0s3 (N : Nat) : Hint := { (h95x0s2 N) with los := (64, loSh sh95x0x64 (A95x0x64 N)) :: (h95x0s2 N).los }
theorem al95x0s3 (N : Nat) : AllCuts Try.prog (h95x0s3 N).los 1 95 := AllCuts.cons (al95x0s2 N) one95x0x64 (law95x0x64 N)
noncomputable def F95x0 (N : Nat) {R : Type} (v0 v1 v2 v3 v4 v5 v6 v7 v8 v9 v10 v11 v12 v13 v14 v15 v16 v17 v18 v19 v20 v21 : Int) (v22 v23 : Bool) (v24 : Int) (v28 v30 : (List D)) (k0 : Bool → Option R) : Option R :=
  bif (inB v20 v30.length) then
    bnd (G70x0 N v28 v21) fun x50386846 =>
    bif x50386846.isSome then
      bif (((v30.getD v20.toNat (.i 0)).cell 0).toI == 1) then
        bnd (V95x0x19 N v21 v0 v24 ((v30.getD v20.toNat (.i 0)).cell 1).toI) fun x55408970 =>
        k0 x55408970
      else
        bif (((v30.getD v20.toNat (.i 0)).cell 0).toI == 2) then
          bnd (V95x0x25 N v21 v0 v24 ((v30.getD v20.toNat (.i 0)).cell 1).toI ((v30.getD v20.toNat (.i 0)).cell 2).toI (x50386846.getD default).2.2.1) fun x76719422 =>
          k0 x76719422
        else
          bif (((v30.getD v20.toNat (.i 0)).cell 0).toI == 3) then
            k0 (decide (v1 ≤ ((v30.getD v20.toNat (.i 0)).cell 2).toI))
          else
            bif (((v30.getD v20.toNat (.i 0)).cell 0).toI == 4) then
              bnd (bif (!v22) then true else (decide (v1 ≥ ((v30.getD v20.toNat (.i 0)).cell 2).toI))) fun x40270969 =>
              k0 x40270969
            else
              bif (((v30.getD v20.toNat (.i 0)).cell 0).toI == 5) then
                bnd (bif (!(x50386846.getD default).2.2.2.2) then true else (v3 == 0)) fun x7539640 =>
                bnd (bif x7539640 then true else (decide ((IntKind.wrap .i64 ((IntKind.wrap .i64 (v0 + 1)) - v3)) ≥ ((v30.getD v20.toNat (.i 0)).cell 2).toI))) fun x9570059 =>
                k0 x9570059
              else
                bif (((v30.getD v20.toNat (.i 0)).cell 0).toI == 6) then
                  bnd (G52x0 N v28 ((v30.getD v20.toNat (.i 0)).cell 5).toS) fun x62233094 =>
                  bif x62233094.isSome then
                    bif (inB (x62233094.getD default) 4) then
                      bnd (bif (Nat.beq (x62233094.getD default).toNat 0) then v4 else (bif (Nat.beq (x62233094.getD default).toNat 1) then v5 else (bif (Nat.beq (x62233094.getD default).toNat 2) then v6 else v7))) fun x74961025 =>
                      bnd (decide (x74961025 ≤ ((v30.getD v20.toNat (.i 0)).cell 4).toI)) fun x41188821 =>
                      bnd (bif x41188821 then (bif (!v22) then true else (decide (x74961025 ≥ ((v30.getD v20.toNat (.i 0)).cell 3).toI))) else false) fun x71546019 =>
                      k0 x71546019
                    else
                      none
                  else
                    none
                else
                  bif (((v30.getD v20.toNat (.i 0)).cell 0).toI == 7) then
                    bnd (bif (!v23) then true else (decide ((IntKind.wrap .i64 (100 * v1)) ≤ (IntKind.wrap .i64 (((v30.getD v20.toNat (.i 0)).cell 2).toI * v2))))) fun x19098921 =>
                    k0 x19098921
                  else
                    bif (((v30.getD v20.toNat (.i 0)).cell 0).toI == 8) then
                      bnd (G95x0x64 N v21 v0 v28 ((v30.getD v20.toNat (.i 0)).cell 1).toI ((v30.getD v20.toNat (.i 0)).cell 5).toS) fun x15290463 =>
                      bif x15290463.isSome then
                        k0 (x15290463.getD default)
                      else
                        none
                    else
                      bif (inB v20 12) then
                        bnd (bif (Nat.beq v20.toNat 0) then v8 else (bif (Nat.beq v20.toNat 1) then v9 else (bif (Nat.beq v20.toNat 2) then v10 else (bif (Nat.beq v20.toNat 3) then v11 else (bif (Nat.beq v20.toNat 4) then v12 else (bif (Nat.beq v20.toNat 5) then v13 else (bif (Nat.beq v20.toNat 6) then v14 else (bif (Nat.beq v20.toNat 7) then v15 else (bif (Nat.beq v20.toNat 8) then v16 else (bif (Nat.beq v20.toNat 9) then v17 else (bif (Nat.beq v20.toNat 10) then v18 else v19))))))))))) fun x76353429 =>
                        bnd (decide (x76353429 ≤ ((v30.getD v20.toNat (.i 0)).cell 2).toI)) fun x45836945 =>
                        k0 x45836945
                      else
                        none
    else
      none
  else
    none
noncomputable def G95x0 (N : Nat) (v0 v1 v2 v3 v4 v5 v6 v7 v8 v9 v10 v11 v12 v13 v14 v15 v16 v17 v18 v19 v20 v21 : Int) (v22 v23 : Bool) (v24 : Int) (v28 v30 : (List D)) : Option (Bool) := F95x0 N v0 v1 v2 v3 v4 v5 v6 v7 v8 v9 v10 v11 v12 v13 v14 v15 v16 v17 v18 v19 v20 v21 v22 v23 v24 v28 v30 (fun p => some p)
theorem bind95x0 (N : Nat) {R : Type} (v0 v1 v2 v3 v4 v5 v6 v7 v8 v9 v10 v11 v12 v13 v14 v15 v16 v17 v18 v19 v20 v21 : Int) (v22 v23 : Bool) (v24 : Int) (v28 v30 : (List D)) (k0 : Bool → Option R) : F95x0 N v0 v1 v2 v3 v4 v5 v6 v7 v8 v9 v10 v11 v12 v13 v14 v15 v16 v17 v18 v19 v20 v21 v22 v23 v24 v28 v30 k0 = (G95x0 N v0 v1 v2 v3 v4 v5 v6 v7 v8 v9 v10 v11 v12 v13 v14 v15 v16 v17 v18 v19 v20 v21 v22 v23 v24 v28 v30).bind k0 := by
  unfold G95x0 F95x0
  repeat' (first | rfl | apply cond_b | (apply bnd_b; intro _))
noncomputable def J95x0 (N : Nat) (L : List Lf) {R : Type} (k0 : Bool → Option R) : Option R := F95x0 N (li L 0) (li L 1) (li L 2) (li L 3) (li L 4) (li L 5) (li L 6) (li L 7) (li L 8) (li L 9) (li L 10) (li L 11) (li L 12) (li L 13) (li L 14) (li L 15) (li L 16) (li L 17) (li L 18) (li L 19) (li L 20) (li L 21) (lb L 22) (lb L 23) (li L 24) (ll L 28) (ll L 30) k0
noncomputable def sh95x0 : Sh := { tmps := [(0, .c (.p 0 0)), (1, .g [.i .i64, .i .i64, .i .i64, .i .i64, .i .i64, .i .i64, .i .i64, .i .i64, .i .i64, .i .i64, .i .i64, .i .i64, .i .i64, .i .i64, .i .i64, .i .i64, .i .i64, .i .i64, .i .i64, .i .i64]), (2, .c (.i .i64)), (3, .c (.i .i64)), (4, .c (.b)), (5, .c (.b))], mem := [(0, .box [.i .i64, .i .i64, .i .i64, .sl 66, .sl 68, .b, .b, .b, .b, .b, .b, .b, .b, .b, .b, .b, .b])] }
noncomputable def K95x0w0 (L : List Lf) (p : Bool) : Res := ([.c (.b p)], [(0, .box [.i .i64 (li L 24), .i .i64 (li L 25), .i .i64 (li L 26), .sl 66 (lb L 27) (ll L 28), .sl 68 (lb L 29) (ll L 30), .b (lb L 31), .b (lb L 32), .b (lb L 33), .b (lb L 34), .b (lb L 35), .b (lb L 36), .b (lb L 37), .b (lb L 38), .b (lb L 39), .b (lb L 40), .b (lb L 41), .b (lb L 42)])])
noncomputable def A95x0 (N : Nat) (L : List Lf) : List (Bool × Res) := bnd (J95x0 N L (fun p => some p)) fun q => [(q.isSome, K95x0w0 L (q.getD default))]
theorem raw95x0 (N : Nat) (L : List Lf) : (body Try.prog (T70x0 N) (h95x0s3 N) 200 95 (valsOf (ofSh sh95x0 L).tmps) (ofSh sh95x0 L).mem : Option Res) = J95x0 N L (fun p => some (K95x0w0 L p)) := by kernel_rfl
theorem ok95x0 (N : Nat) : ∀ args mem alts, spSh sh95x0 (A95x0 N) args mem = some alts → ∀ res, altK alts some = some res → CallOk Try.prog 95 args mem res :=
  spSh_law fun L x hx => callOk_of (n := 200) progOk (T70x0_ok N) (al95x0s3 N) rfl ((raw95x0 N L).trans ((bind95x0 N ..).trans (alt1 x hx)))
noncomputable def T95x0 (N : Nat) : Oracle := ext 95 (spSh sh95x0 (A95x0 N)) (T70x0 N)
theorem T95x0_ok (N : Nat) : OracleOk Try.prog (T95x0 N) := ext_ok (T70x0_ok N) (enters_of (by kernel_rfl)) (ok95x0 N)
noncomputable def rg96x0 : List (Nat × List Nat) := [(0, [1, 0]), (1, [0, 3, 4]), (2, [0, 5, 3, 4]), (3, [14, 13, 12, 5, 0, 3, 4]), (4, [14, 12, 5, 0, 3, 13, 4]), (5, [7, 5, 0, 6, 3, 14, 13, 12, 4]), (6, [0, 6, 3, 7, 14, 13, 12, 5, 4]), (7, [6, 3, 14, 13, 12, 5, 0, 4]), (8, [14, 13, 12, 5, 0, 3, 4]), (9, [5, 3, 4]), (10, [3, 5, 4]), (11, [5, 3, 4]), (12, [3, 5, 4]), (13, [5, 3, 4]), (14, [3, 5, 4]), (15, [5, 3, 4]), (16, [3, 4]), (17, [3, 4])]
noncomputable def hd96x0 : Hints := [(9, [14, 13, 12, 5, 0, 3, 4], [6, 5, 4, 0], []), (16, [7, 5, 0, 6, 3, 14, 13, 12, 4], [8, 6, 5, 4, 0], []), (23, [6, 3, 14, 13, 12, 5, 0, 4, 47], [6, 5, 4, 0], []), (38, [3, 5, 4, 63], [6, 5, 4, 0], []), (32, [3, 5, 4, 54], [6, 5, 4, 0], []), (44, [3, 5, 4, 67], [6, 5, 4, 0], []), (50, [3, 4, 71], [5, 4, 0], [])]
noncomputable def h96x0s0 (N : Nat) : Hint := { loops := hd96x0, regs := rg96x0, los := [] }
theorem al96x0s0 (N : Nat) : AllCuts Try.prog (h96x0s0 N).los 1 96 := AllCuts.nil
noncomputable def F96x0x16 (N : Nat) {R : Type} (w0 : Int) (w12 w13 w14 w15 w16 w17 w18 w19 w20 w21 w22 w23 w64 w65 w66 w67 w68 w69 w70 w71 w72 w73 : Bool) (w74 : Int) (k0 : Bool × Bool × Bool × Bool × Bool × Bool × Bool × Bool × Bool × Bool → Option R) : Option R :=
  bif (inB w74 10) then
    bnd (bif (Nat.beq w74.toNat 0) then w64 else (bif (Nat.beq w74.toNat 1) then w65 else (bif (Nat.beq w74.toNat 2) then w66 else (bif (Nat.beq w74.toNat 3) then w67 else (bif (Nat.beq w74.toNat 4) then w68 else (bif (Nat.beq w74.toNat 5) then w69 else (bif (Nat.beq w74.toNat 6) then w70 else (bif (Nat.beq w74.toNat 7) then w71 else (bif (Nat.beq w74.toNat 8) then w72 else w73))))))))) fun x89295928 =>
    bif x89295928 then
      bif (inB w74 10) then
        k0 ((bif (Nat.beq w74.toNat 0) then true else w64), (bif (Nat.beq w74.toNat 1) then true else w65), (bif (Nat.beq w74.toNat 2) then true else w66), (bif (Nat.beq w74.toNat 3) then true else w67), (bif (Nat.beq w74.toNat 4) then true else w68), (bif (Nat.beq w74.toNat 5) then true else w69), (bif (Nat.beq w74.toNat 6) then true else w70), (bif (Nat.beq w74.toNat 7) then true else w71), (bif (Nat.beq w74.toNat 8) then true else w72), (bif (Nat.beq w74.toNat 9) then true else w73))
      else
        none
    else
      bif (inB w0 12) then
        bnd (bif (Nat.beq w0.toNat 0) then w12 else (bif (Nat.beq w0.toNat 1) then w13 else (bif (Nat.beq w0.toNat 2) then w14 else (bif (Nat.beq w0.toNat 3) then w15 else (bif (Nat.beq w0.toNat 4) then w16 else (bif (Nat.beq w0.toNat 5) then w17 else (bif (Nat.beq w0.toNat 6) then w18 else (bif (Nat.beq w0.toNat 7) then w19 else (bif (Nat.beq w0.toNat 8) then w20 else (bif (Nat.beq w0.toNat 9) then w21 else (bif (Nat.beq w0.toNat 10) then w22 else w23))))))))))) fun x31347195 =>
        bif (inB w74 10) then
          k0 ((bif (Nat.beq w74.toNat 0) then (!x31347195) else w64), (bif (Nat.beq w74.toNat 1) then (!x31347195) else w65), (bif (Nat.beq w74.toNat 2) then (!x31347195) else w66), (bif (Nat.beq w74.toNat 3) then (!x31347195) else w67), (bif (Nat.beq w74.toNat 4) then (!x31347195) else w68), (bif (Nat.beq w74.toNat 5) then (!x31347195) else w69), (bif (Nat.beq w74.toNat 6) then (!x31347195) else w70), (bif (Nat.beq w74.toNat 7) then (!x31347195) else w71), (bif (Nat.beq w74.toNat 8) then (!x31347195) else w72), (bif (Nat.beq w74.toNat 9) then (!x31347195) else w73))
        else
          none
      else
        none
  else
    none
noncomputable def G96x0x16 (N : Nat) (w0 : Int) (w12 w13 w14 w15 w16 w17 w18 w19 w20 w21 w22 w23 w64 w65 w66 w67 w68 w69 w70 w71 w72 w73 : Bool) (w74 : Int) : Option (Bool × Bool × Bool × Bool × Bool × Bool × Bool × Bool × Bool × Bool) := F96x0x16 N w0 w12 w13 w14 w15 w16 w17 w18 w19 w20 w21 w22 w23 w64 w65 w66 w67 w68 w69 w70 w71 w72 w73 w74 (fun p => some p)
theorem bind96x0x16 (N : Nat) {R : Type} (w0 : Int) (w12 w13 w14 w15 w16 w17 w18 w19 w20 w21 w22 w23 w64 w65 w66 w67 w68 w69 w70 w71 w72 w73 : Bool) (w74 : Int) (k0 : Bool × Bool × Bool × Bool × Bool × Bool × Bool × Bool × Bool × Bool → Option R) : F96x0x16 N w0 w12 w13 w14 w15 w16 w17 w18 w19 w20 w21 w22 w23 w64 w65 w66 w67 w68 w69 w70 w71 w72 w73 w74 k0 = (G96x0x16 N w0 w12 w13 w14 w15 w16 w17 w18 w19 w20 w21 w22 w23 w64 w65 w66 w67 w68 w69 w70 w71 w72 w73 w74).bind k0 := by
  unfold G96x0x16 F96x0x16
  repeat' (first | rfl | apply cond_b | (apply bnd_b; intro _))
noncomputable def J96x0x16 (N : Nat) (L : List Lf) {R : Type} (k0 : Bool × Bool × Bool × Bool × Bool × Bool × Bool × Bool × Bool × Bool → Option R) : Option R := F96x0x16 N (li L 0) (lb L 12) (lb L 13) (lb L 14) (lb L 15) (lb L 16) (lb L 17) (lb L 18) (lb L 19) (lb L 20) (lb L 21) (lb L 22) (lb L 23) (lb L 64) (lb L 65) (lb L 66) (lb L 67) (lb L 68) (lb L 69) (lb L 70) (lb L 71) (lb L 72) (lb L 73) (li L 74) k0
noncomputable def sh96x0x16 : Sh := { tmps := [(0, .c (.p 0 0)), (3, .c (.p 4 0)), (4, .c (.p 5 0)), (5, .c (.p 6 0)), (6, .c (.i .i64)), (7, .c (.p 8 0)), (12, .c (.sl 68)), (13, .c (.i .i64)), (14, .c (.i .i64))], mem := [(0, .box [.i .i64, .i .i64, .i .i64, .sl 66, .sl 68, .b, .b, .b, .b, .b, .b, .b, .b, .b, .b, .b, .b]), (4, .box [.i .i64, .i .i64, .i .i64, .i .i64, .i .i64, .i .i64, .i .i64, .i .i64, .i .i64, .i .i64, .i .i64, .i .i64, .i .i64, .i .i64, .i .i64, .i .i64, .i .i64, .i .i64, .i .i64, .i .i64]), (5, .box [.i .i64, .i .i64, .i .i64, .i .i64, .i .i64, .i .i64, .i .i64, .i .i64, .i .i64, .i .i64, .i .i64, .i .i64, .i .i64, .i .i64, .i .i64, .i .i64, .i .i64, .i .i64, .i .i64, .i .i64]), (6, .box [.b, .b, .b, .b, .b, .b, .b, .b, .b, .b]), (8, .box [.i .i64, .i .i64, .i .i64, .i .i64, .i .i64, .s])] }
noncomputable def K96x0x16w0 (L : List Lf) (p : Bool × Bool × Bool × Bool × Bool × Bool × Bool × Bool × Bool × Bool) : Ex × St := (.normal, ⟨[(0, .c (.p 0 0)), (3, .c (.p 4 0)), (4, .c (.p 5 0)), (5, .c (.p 6 0)), (6, .c (.i .i64 (li L 0))), (7, .c (.p 8 0)), (12, .c (.sl 68 (lb L 1) (ll L 2))), (13, .c (.i .i64 (li L 3))), (14, .c (.i .i64 (li L 4)))], [(0, .box [.i .i64 (li L 5), .i .i64 (li L 6), .i .i64 (li L 7), .sl 66 (lb L 8) (ll L 9), .sl 68 (lb L 10) (ll L 11), .b (lb L 12), .b (lb L 13), .b (lb L 14), .b (lb L 15), .b (lb L 16), .b (lb L 17), .b (lb L 18), .b (lb L 19), .b (lb L 20), .b (lb L 21), .b (lb L 22), .b (lb L 23)]), (4, .box [.i .i64 (li L 24), .i .i64 (li L 25), .i .i64 (li L 26), .i .i64 (li L 27), .i .i64 (li L 28), .i .i64 (li L 29), .i .i64 (li L 30), .i .i64 (li L 31), .i .i64 (li L 32), .i .i64 (li L 33), .i .i64 (li L 34), .i .i64 (li L 35), .i .i64 (li L 36), .i .i64 (li L 37), .i .i64 (li L 38), .i .i64 (li L 39), .i .i64 (li L 40), .i .i64 (li L 41), .i .i64 (li L 42), .i .i64 (li L 43)]), (5, .box [.i .i64 (li L 44), .i .i64 (li L 45), .i .i64 (li L 46), .i .i64 (li L 47), .i .i64 (li L 48), .i .i64 (li L 49), .i .i64 (li L 50), .i .i64 (li L 51), .i .i64 (li L 52), .i .i64 (li L 53), .i .i64 (li L 54), .i .i64 (li L 55), .i .i64 (li L 56), .i .i64 (li L 57), .i .i64 (li L 58), .i .i64 (li L 59), .i .i64 (li L 60), .i .i64 (li L 61), .i .i64 (li L 62), .i .i64 (li L 63)]), (6, .box [.b p.1, .b p.2.1, .b p.2.2.1, .b p.2.2.2.1, .b p.2.2.2.2.1, .b p.2.2.2.2.2.1, .b p.2.2.2.2.2.2.1, .b p.2.2.2.2.2.2.2.1, .b p.2.2.2.2.2.2.2.2.1, .b p.2.2.2.2.2.2.2.2.2]), (8, .box [.i .i64 (li L 74), .i .i64 (li L 75), .i .i64 (li L 76), .i .i64 (li L 77), .i .i64 (li L 78), .s (ls L 79)])]⟩)
noncomputable def A96x0x16 (N : Nat) (L : List Lf) : List (Bool × (Ex × St)) := bnd (J96x0x16 N L (fun p => some p)) fun q => [(q.isSome, K96x0x16w0 L (q.getD default))]
theorem raw96x0x16 (N : Nat) (L : List Lf) : (exec Try.prog (T95x0 N) (h96x0s0 N) 1 100 (piece Try.prog 96 16) (ofSh sh96x0x16 L) (fun e st => some (e, cutSt [0, 6, 3, 7, 14, 13, 12, 5, 4] [8, 6, 5, 4, 0] st)) : Option (Ex × St)) = J96x0x16 N L (fun p => some (K96x0x16w0 L p)) := by kernel_rfl
theorem one96x0x16 : oneB Try.prog 96 16 = true := by kernel_rfl
theorem law96x0x16 (N : Nat) : CutLaw Try.prog 1 (piece Try.prog 96 16) (loSh sh96x0x16 (A96x0x16 N)) :=
  law_sh progOk (T95x0_ok N) (al96x0s0 N) one96x0x16 fun L x hx => (raw96x0x16 N L).trans ((bind96x0x16 N ..).trans (alt1 x hx))
noncomputable def h96x0s1 (N : Nat) : Hint := { (h96x0s0 N) with los := (16, loSh sh96x0x16 (A96x0x16 N)) :: (h96x0s0 N).los }
theorem al96x0s1 (N : Nat) : AllCuts Try.prog (h96x0s1 N).los 1 96 := AllCuts.cons (al96x0s0 N) one96x0x16 (law96x0x16 N)
noncomputable def F96x0x23 (N : Nat) {R : Type} (w0 : Int) (w5 : Bool) (w33 w34 w35 w36 w37 w38 w39 w40 w41 w42 w43 w44 : Int) (k0 : Int × Int × Int × Int × Int × Int × Int × Int × Int × Int × Int × Int → Option R) : Option R :=
  bif w5 then
    bif (inB w0 12) then
      k0 ((bif (Nat.beq w0.toNat 0) then 0 else w33), (bif (Nat.beq w0.toNat 1) then 0 else w34), (bif (Nat.beq w0.toNat 2) then 0 else w35), (bif (Nat.beq w0.toNat 3) then 0 else w36), (bif (Nat.beq w0.toNat 4) then 0 else w37), (bif (Nat.beq w0.toNat 5) then 0 else w38), (bif (Nat.beq w0.toNat 6) then 0 else w39), (bif (Nat.beq w0.toNat 7) then 0 else w40), (bif (Nat.beq w0.toNat 8) then 0 else w41), (bif (Nat.beq w0.toNat 9) then 0 else w42), (bif (Nat.beq w0.toNat 10) then 0 else w43), (bif (Nat.beq w0.toNat 11) then 0 else w44))
    else
      none
  else
    k0 (w33, w34, w35, w36, w37, w38, w39, w40, w41, w42, w43, w44)
noncomputable def G96x0x23 (N : Nat) (w0 : Int) (w5 : Bool) (w33 w34 w35 w36 w37 w38 w39 w40 w41 w42 w43 w44 : Int) : Option (Int × Int × Int × Int × Int × Int × Int × Int × Int × Int × Int × Int) := F96x0x23 N w0 w5 w33 w34 w35 w36 w37 w38 w39 w40 w41 w42 w43 w44 (fun p => some p)
theorem bind96x0x23 (N : Nat) {R : Type} (w0 : Int) (w5 : Bool) (w33 w34 w35 w36 w37 w38 w39 w40 w41 w42 w43 w44 : Int) (k0 : Int × Int × Int × Int × Int × Int × Int × Int × Int × Int × Int × Int → Option R) : F96x0x23 N w0 w5 w33 w34 w35 w36 w37 w38 w39 w40 w41 w42 w43 w44 k0 = (G96x0x23 N w0 w5 w33 w34 w35 w36 w37 w38 w39 w40 w41 w42 w43 w44).bind k0 := by
  unfold G96x0x23 F96x0x23
  repeat' (first | rfl | apply cond_b | (apply bnd_b; intro _))
noncomputable def J96x0x23 (N : Nat) (L : List Lf) {R : Type} (k0 : Int × Int × Int × Int × Int × Int × Int × Int × Int × Int × Int × Int → Option R) : Option R := F96x0x23 N (li L 0) (lb L 5) (li L 33) (li L 34) (li L 35) (li L 36) (li L 37) (li L 38) (li L 39) (li L 40) (li L 41) (li L 42) (li L 43) (li L 44) k0
noncomputable def sh96x0x23 : Sh := { tmps := [(0, .c (.p 0 0)), (3, .c (.p 4 0)), (4, .c (.p 5 0)), (5, .c (.p 6 0)), (6, .c (.i .i64)), (12, .c (.sl 68)), (13, .c (.i .i64)), (14, .c (.i .i64)), (47, .c (.b))], mem := [(0, .box [.i .i64, .i .i64, .i .i64, .sl 66, .sl 68, .b, .b, .b, .b, .b, .b, .b, .b, .b, .b, .b, .b]), (4, .box [.i .i64, .i .i64, .i .i64, .i .i64, .i .i64, .i .i64, .i .i64, .i .i64, .i .i64, .i .i64, .i .i64, .i .i64, .i .i64, .i .i64, .i .i64, .i .i64, .i .i64, .i .i64, .i .i64, .i .i64]), (5, .box [.i .i64, .i .i64, .i .i64, .i .i64, .i .i64, .i .i64, .i .i64, .i .i64, .i .i64, .i .i64, .i .i64, .i .i64, .i .i64, .i .i64, .i .i64, .i .i64, .i .i64, .i .i64, .i .i64, .i .i64]), (6, .box [.b, .b, .b, .b, .b, .b, .b, .b, .b, .b])] }
noncomputable def K96x0x23w0 (L : List Lf) (p : Int × Int × Int × Int × Int × Int × Int × Int × Int × Int × Int × Int) : Ex × St := (.normal, ⟨[(0, .c (.p 0 0)), (3, .c (.p 4 0)), (4, .c (.p 5 0)), (5, .c (.p 6 0)), (12, .c (.sl 68 (lb L 1) (ll L 2))), (13, .c (.i .i64 (li L 3))), (14, .c (.i .i64 (li L 4)))], [(0, .box [.i .i64 (li L 6), .i .i64 (li L 7), .i .i64 (li L 8), .sl 66 (lb L 9) (ll L 10), .sl 68 (lb L 11) (ll L 12), .b (lb L 13), .b (lb L 14), .b (lb L 15), .b (lb L 16), .b (lb L 17), .b (lb L 18), .b (lb L 19), .b (lb L 20), .b (lb L 21), .b (lb L 22), .b (lb L 23), .b (lb L 24)]), (4, .box [.i .i64 (li L 25), .i .i64 (li L 26), .i .i64 (li L 27), .i .i64 (li L 28), .i .i64 (li L 29), .i .i64 (li L 30), .i .i64 (li L 31), .i .i64 (li L 32), .i .i64 p.1, .i .i64 p.2.1, .i .i64 p.2.2.1, .i .i64 p.2.2.2.1, .i .i64 p.2.2.2.2.1, .i .i64 p.2.2.2.2.2.1, .i .i64 p.2.2.2.2.2.2.1, .i .i64 p.2.2.2.2.2.2.2.1, .i .i64 p.2.2.2.2.2.2.2.2.1, .i .i64 p.2.2.2.2.2.2.2.2.2.1, .i .i64 p.2.2.2.2.2.2.2.2.2.2.1, .i .i64 p.2.2.2.2.2.2.2.2.2.2.2]), (5, .box [.i .i64 (li L 45), .i .i64 (li L 46), .i .i64 (li L 47), .i .i64 (li L 48), .i .i64 (li L 49), .i .i64 (li L 50), .i .i64 (li L 51), .i .i64 (li L 52), .i .i64 (li L 53), .i .i64 (li L 54), .i .i64 (li L 55), .i .i64 (li L 56), .i .i64 (li L 57), .i .i64 (li L 58), .i .i64 (li L 59), .i .i64 (li L 60), .i .i64 (li L 61), .i .i64 (li L 62), .i .i64 (li L 63), .i .i64 (li L 64)]), (6, .box [.b (lb L 65), .b (lb L 66), .b (lb L 67), .b (lb L 68), .b (lb L 69), .b (lb L 70), .b (lb L 71), .b (lb L 72), .b (lb L 73), .b (lb L 74)])]⟩)
noncomputable def A96x0x23 (N : Nat) (L : List Lf) : List (Bool × (Ex × St)) := bnd (J96x0x23 N L (fun p => some p)) fun q => [(q.isSome, K96x0x23w0 L (q.getD default))]
theorem raw96x0x23 (N : Nat) (L : List Lf) : (exec Try.prog (T95x0 N) (h96x0s1 N) 1 100 (piece Try.prog 96 23) (ofSh sh96x0x23 L) (fun e st => some (e, cutSt [14, 13, 12, 5, 0, 3, 4] [6, 5, 4, 0] st)) : Option (Ex × St)) = J96x0x23 N L (fun p => some (K96x0x23w0 L p)) := by kernel_rfl
theorem one96x0x23 : oneB Try.prog 96 23 = true := by kernel_rfl
theorem law96x0x23 (N : Nat) : CutLaw Try.prog 1 (piece Try.prog 96 23) (loSh sh96x0x23 (A96x0x23 N)) :=
  law_sh progOk (T95x0_ok N) (al96x0s1 N) one96x0x23 fun L x hx => (raw96x0x23 N L).trans ((bind96x0x23 N ..).trans (alt1 x hx))
noncomputable def h96x0s2 (N : Nat) : Hint := { (h96x0s1 N) with los := (23, loSh sh96x0x23 (A96x0x23 N)) :: (h96x0s1 N).los }
theorem al96x0s2 (N : Nat) : AllCuts Try.prog (h96x0s2 N).los 1 96 := AllCuts.cons (al96x0s1 N) one96x0x23 (law96x0x23 N)
noncomputable def P96x0x9 (w0 : Bool) (w1 : (List D)) (w2 w3 w4 w5 w6 : Int) (w7 : Bool) (w8 : (List D)) (w9 : Bool) (w10 : (List D)) (w11 w12 w13 w14 w15 w16 w17 w18 w19 w20 w21 w22 : Bool) (w23 w24 w25 w26 w27 w28 w29 w30 w31 w32 w33 w34 w35 w36 w37 w38 w39 w40 w41 w42 w43 w44 w45 w46 w47 w48 w49 w50 w51 w52 w53 w54 w55 w56 w57 w58 w59 w60 w61 w62 : Int) (w63 w64 w65 w66 w67 w68 w69 w70 w71 w72 : Bool) : St := ⟨[(0, .c (.p 0 0)), (3, .c (.p 4 0)), (4, .c (.p 5 0)), (5, .c (.p 6 0)), (12, .c (.sl 68 w0 w1)), (13, .c (.i .i64 w2)), (14, .c (.i .i64 w3))], [(0, .box [.i .i64 w4, .i .i64 w5, .i .i64 w6, .sl 66 w7 w8, .sl 68 w9 w10, .b w11, .b w12, .b w13, .b w14, .b w15, .b w16, .b w17, .b w18, .b w19, .b w20, .b w21, .b w22]), (4, .box [.i .i64 w23, .i .i64 w24, .i .i64 w25, .i .i64 w26, .i .i64 w27, .i .i64 w28, .i .i64 w29, .i .i64 w30, .i .i64 w31, .i .i64 w32, .i .i64 w33, .i .i64 w34, .i .i64 w35, .i .i64 w36, .i .i64 w37, .i .i64 w38, .i .i64 w39, .i .i64 w40, .i .i64 w41, .i .i64 w42]), (5, .box [.i .i64 w43, .i .i64 w44, .i .i64 w45, .i .i64 w46, .i .i64 w47, .i .i64 w48, .i .i64 w49, .i .i64 w50, .i .i64 w51, .i .i64 w52, .i .i64 w53, .i .i64 w54, .i .i64 w55, .i .i64 w56, .i .i64 w57, .i .i64 w58, .i .i64 w59, .i .i64 w60, .i .i64 w61, .i .i64 w62]), (6, .box [.b w63, .b w64, .b w65, .b w66, .b w67, .b w68, .b w69, .b w70, .b w71, .b w72])]⟩
noncomputable def S96x0x9 (N : Nat) {R : Type} (w1 : (List D)) (w2 : Int) (w11 w12 w13 w14 w15 w16 w17 w18 w19 w20 w21 w22 : Bool) (w23 : Int) (w3 w31 w32 w33 w34 w35 w36 w37 w38 w39 w40 w41 w42 : Int) (w63 w64 w65 w66 w67 w68 w69 w70 w71 w72 : Bool) (kr : Int → Int → Int → Int → Int → Int → Int → Int → Int → Int → Int → Int → Int → Bool → Bool → Bool → Bool → Bool → Bool → Bool → Bool → Bool → Bool → Option R) (k0 : Int × Int × Int × Int × Int × Int × Int × Int × Int × Int × Int × Int × Bool × Bool × Bool × Bool × Bool × Bool × Bool × Bool × Bool × Bool → Option R) : Option R :=
  bif (decide (w3 < w2)) then
    bif (inB w3 w1.length) then
      bnd (G96x0x16 N w3 w11 w12 w13 w14 w15 w16 w17 w18 w19 w20 w21 w22 w63 w64 w65 w66 w67 w68 w69 w70 w71 w72 ((w1.getD w3.toNat (.i 0)).cell 0).toI) fun x52336907 =>
      bif x52336907.isSome then
        bif (inB w3 12) then
          bnd (bif (Nat.beq w3.toNat 0) then w11 else (bif (Nat.beq w3.toNat 1) then w12 else (bif (Nat.beq w3.toNat 2) then w13 else (bif (Nat.beq w3.toNat 3) then w14 else (bif (Nat.beq w3.toNat 4) then w15 else (bif (Nat.beq w3.toNat 5) then w16 else (bif (Nat.beq w3.toNat 6) then w17 else (bif (Nat.beq w3.toNat 7) then w18 else (bif (Nat.beq w3.toNat 8) then w19 else (bif (Nat.beq w3.toNat 9) then w20 else (bif (Nat.beq w3.toNat 10) then w21 else w22))))))))))) fun x2647696 =>
          bnd (bif x2647696 then true else (decide (w23 ≥ ((w1.getD w3.toNat (.i 0)).cell 1).toI))) fun x64695851 =>
          bnd (G96x0x23 N w3 x64695851 w31 w32 w33 w34 w35 w36 w37 w38 w39 w40 w41 w42) fun x17516 =>
          bif x17516.isSome then
            kr (IntKind.wrap .i64 (w3 + 1)) (x17516.getD default).1 (x17516.getD default).2.1 (x17516.getD default).2.2.1 (x17516.getD default).2.2.2.1 (x17516.getD default).2.2.2.2.1 (x17516.getD default).2.2.2.2.2.1 (x17516.getD default).2.2.2.2.2.2.1 (x17516.getD default).2.2.2.2.2.2.2.1 (x17516.getD default).2.2.2.2.2.2.2.2.1 (x17516.getD default).2.2.2.2.2.2.2.2.2.1 (x17516.getD default).2.2.2.2.2.2.2.2.2.2.1 (x17516.getD default).2.2.2.2.2.2.2.2.2.2.2 (x52336907.getD default).1 (x52336907.getD default).2.1 (x52336907.getD default).2.2.1 (x52336907.getD default).2.2.2.1 (x52336907.getD default).2.2.2.2.1 (x52336907.getD default).2.2.2.2.2.1 (x52336907.getD default).2.2.2.2.2.2.1 (x52336907.getD default).2.2.2.2.2.2.2.1 (x52336907.getD default).2.2.2.2.2.2.2.2.1 (x52336907.getD default).2.2.2.2.2.2.2.2.2
          else
            none
        else
          none
      else
        none
    else
      none
  else
    k0 (w31, w32, w33, w34, w35, w36, w37, w38, w39, w40, w41, w42, w63, w64, w65, w66, w67, w68, w69, w70, w71, w72)
theorem mono96x0x9 (N : Nat) {R : Type} (w1 : (List D)) (w2 : Int) (w11 w12 w13 w14 w15 w16 w17 w18 w19 w20 w21 w22 : Bool) (w23 : Int) (w3 w31 w32 w33 w34 w35 w36 w37 w38 w39 w40 w41 w42 : Int) (w63 w64 w65 w66 w67 w68 w69 w70 w71 w72 : Bool) {kr kr' : Int → Int → Int → Int → Int → Int → Int → Int → Int → Int → Int → Int → Int → Bool → Bool → Bool → Bool → Bool → Bool → Bool → Bool → Bool → Bool → Option R} (k0 : Int × Int × Int × Int × Int × Int × Int × Int × Int × Int × Int × Int × Bool × Bool × Bool × Bool × Bool × Bool × Bool × Bool × Bool × Bool → Option R) {r : R} (hk : ∀ w3' w31' w32' w33' w34' w35' w36' w37' w38' w39' w40' w41' w42' w63' w64' w65' w66' w67' w68' w69' w70' w71' w72', kr w3' w31' w32' w33' w34' w35' w36' w37' w38' w39' w40' w41' w42' w63' w64' w65' w66' w67' w68' w69' w70' w71' w72' = some r → kr' w3' w31' w32' w33' w34' w35' w36' w37' w38' w39' w40' w41' w42' w63' w64' w65' w66' w67' w68' w69' w70' w71' w72' = some r) : S96x0x9 N w1 w2 w11 w12 w13 w14 w15 w16 w17 w18 w19 w20 w21 w22 w23 w3 w31 w32 w33 w34 w35 w36 w37 w38 w39 w40 w41 w42 w63 w64 w65 w66 w67 w68 w69 w70 w71 w72 kr k0 = some r → S96x0x9 N w1 w2 w11 w12 w13 w14 w15 w16 w17 w18 w19 w20 w21 w22 w23 w3 w31 w32 w33 w34 w35 w36 w37 w38 w39 w40 w41 w42 w63 w64 w65 w66 w67 w68 w69 w70 w71 w72 kr' k0 = some r := by
  unfold S96x0x9
  repeat' (first | exact hk _ _ _ _ _ _ _ _ _ _ _ _ _ _ _ _ _ _ _ _ _ _ _ | exact fun h => h | apply cond_mono | (apply bnd_mono; intro _))
noncomputable def L96x0x9 (N : Nat) {R : Type} (w1 : (List D)) (w2 : Int) (w11 w12 w13 w14 w15 w16 w17 w18 w19 w20 w21 w22 : Bool) (w23 : Int) : Nat → Int → Int → Int → Int → Int → Int → Int → Int → Int → Int → Int → Int → Int → Bool → Bool → Bool → Bool → Bool → Bool → Bool → Bool → Bool → Bool → (Int × Int × Int × Int × Int × Int × Int × Int × Int × Int × Int × Int × Bool × Bool × Bool × Bool × Bool × Bool × Bool × Bool × Bool × Bool → Option R) → Option R
  | 0, _, _, _, _, _, _, _, _, _, _, _, _, _, _, _, _, _, _, _, _, _, _, _, _ => none
  | m + 1, w3, w31, w32, w33, w34, w35, w36, w37, w38, w39, w40, w41, w42, w63, w64, w65, w66, w67, w68, w69, w70, w71, w72, k0 => S96x0x9 N w1 w2 w11 w12 w13 w14 w15 w16 w17 w18 w19 w20 w21 w22 w23 w3 w31 w32 w33 w34 w35 w36 w37 w38 w39 w40 w41 w42 w63 w64 w65 w66 w67 w68 w69 w70 w71 w72 (fun w3 w31 w32 w33 w34 w35 w36 w37 w38 w39 w40 w41 w42 w63 w64 w65 w66 w67 w68 w69 w70 w71 w72 => L96x0x9 N w1 w2 w11 w12 w13 w14 w15 w16 w17 w18 w19 w20 w21 w22 w23 m w3 w31 w32 w33 w34 w35 w36 w37 w38 w39 w40 w41 w42 w63 w64 w65 w66 w67 w68 w69 w70 w71 w72 k0) k0
theorem lp96x0x9 : piece Try.prog 96 9 = .loop (loopB (piece Try.prog 96 9)) := by kernel_rfl
theorem nl96x0x9 (N : Nat) : lawOf (h96x0s2 N) (.loop (loopB (piece Try.prog 96 9))) = none := by kernel_rfl
theorem cl96x0x9 (N : Nat) (w0 : Bool) (w1 : (List D)) (w2 w4 w5 w6 : Int) (w7 : Bool) (w8 : (List D)) (w9 : Bool) (w10 : (List D)) (w11 w12 w13 w14 w15 w16 w17 w18 w19 w20 w21 w22 : Bool) (w23 w24 w25 w26 w27 w28 w29 w30 w43 w44 w45 w46 w47 w48 w49 w50 w51 w52 w53 w54 w55 w56 w57 w58 w59 w60 w61 w62 : Int) (w3 w31 w32 w33 w34 w35 w36 w37 w38 w39 w40 w41 w42 : Int) (w63 w64 w65 w66 w67 w68 w69 w70 w71 w72 : Bool) : clearSt Try.prog 1 (h96x0s2 N).loops 9 (P96x0x9 w0 w1 w2 w3 w4 w5 w6 w7 w8 w9 w10 w11 w12 w13 w14 w15 w16 w17 w18 w19 w20 w21 w22 w23 w24 w25 w26 w27 w28 w29 w30 w31 w32 w33 w34 w35 w36 w37 w38 w39 w40 w41 w42 w43 w44 w45 w46 w47 w48 w49 w50 w51 w52 w53 w54 w55 w56 w57 w58 w59 w60 w61 w62 w63 w64 w65 w66 w67 w68 w69 w70 w71 w72) = (P96x0x9 w0 w1 w2 w3 w4 w5 w6 w7 w8 w9 w10 w11 w12 w13 w14 w15 w16 w17 w18 w19 w20 w21 w22 w23 w24 w25 w26 w27 w28 w29 w30 w31 w32 w33 w34 w35 w36 w37 w38 w39 w40 w41 w42 w43 w44 w45 w46 w47 w48 w49 w50 w51 w52 w53 w54 w55 w56 w57 w58 w59 w60 w61 w62 w63 w64 w65 w66 w67 w68 w69 w70 w71 w72) := by kernel_rfl
theorem step96x0x9 (N : Nat) (m : Nat) (kn : St → Option (Ex × St)) (w0 : Bool) (w1 : (List D)) (w2 w4 w5 w6 : Int) (w7 : Bool) (w8 : (List D)) (w9 : Bool) (w10 : (List D)) (w11 w12 w13 w14 w15 w16 w17 w18 w19 w20 w21 w22 : Bool) (w23 w24 w25 w26 w27 w28 w29 w30 w43 w44 w45 w46 w47 w48 w49 w50 w51 w52 w53 w54 w55 w56 w57 w58 w59 w60 w61 w62 : Int) (w3 w31 w32 w33 w34 w35 w36 w37 w38 w39 w40 w41 w42 : Int) (w63 w64 w65 w66 w67 w68 w69 w70 w71 w72 : Bool) : exec Try.prog (T95x0 N) (h96x0s2 N) 1 (m + 100) (loopB (piece Try.prog 96 9)) (P96x0x9 w0 w1 w2 w3 w4 w5 w6 w7 w8 w9 w10 w11 w12 w13 w14 w15 w16 w17 w18 w19 w20 w21 w22 w23 w24 w25 w26 w27 w28 w29 w30 w31 w32 w33 w34 w35 w36 w37 w38 w39 w40 w41 w42 w43 w44 w45 w46 w47 w48 w49 w50 w51 w52 w53 w54 w55 w56 w57 w58 w59 w60 w61 w62 w63 w64 w65 w66 w67 w68 w69 w70 w71 w72) (reK (fun st => kn (clearSt Try.prog 1 (h96x0s2 N).loops 9 st)) (fun e st => some (e, cutSt [4, 5, 3] [6, 5, 4, 0] st))) = S96x0x9 N w1 w2 w11 w12 w13 w14 w15 w16 w17 w18 w19 w20 w21 w22 w23 w3 w31 w32 w33 w34 w35 w36 w37 w38 w39 w40 w41 w42 w63 w64 w65 w66 w67 w68 w69 w70 w71 w72 (fun w3 w31 w32 w33 w34 w35 w36 w37 w38 w39 w40 w41 w42 w63 w64 w65 w66 w67 w68 w69 w70 w71 w72 => kn (P96x0x9 w0 w1 w2 w3 w4 w5 w6 w7 w8 w9 w10 w11 w12 w13 w14 w15 w16 w17 w18 w19 w20 w21 w22 w23 w24 w25 w26 w27 w28 w29 w30 w31 w32 w33 w34 w35 w36 w37 w38 w39 w40 w41 w42 w43 w44 w45 w46 w47 w48 w49 w50 w51 w52 w53 w54 w55 w56 w57 w58 w59 w60 w61 w62 w63 w64 w65 w66 w67 w68 w69 w70 w71 w72)) (fun p => some ((.exit 0), ⟨[(3, .c (.p 4 0)), (4, .c (.p 5 0)), (5, .c (.p 6 0))], [(0, .box [.i .i64 w4, .i .i64 w5, .i .i64 w6, .sl 66 w7 w8, .sl 68 w9 w10, .b w11, .b w12, .b w13, .b w14, .b w15, .b w16, .b w17, .b w18, .b w19, .b w20, .b w21, .b w22]), (4, .box [.i .i64 w23, .i .i64 w24, .i .i64 w25, .i .i64 w26, .i .i64 w27, .i .i64 w28, .i .i64 w29, .i .i64 w30, .i .i64 p.1, .i .i64 p.2.1, .i .i64 p.2.2.1, .i .i64 p.2.2.2.1, .i .i64 p.2.2.2.2.1, .i .i64 p.2.2.2.2.2.1, .i .i64 p.2.2.2.2.2.2.1, .i .i64 p.2.2.2.2.2.2.2.1, .i .i64 p.2.2.2.2.2.2.2.2.1, .i .i64 p.2.2.2.2.2.2.2.2.2.1, .i .i64 p.2.2.2.2.2.2.2.2.2.2.1, .i .i64 p.2.2.2.2.2.2.2.2.2.2.2.1]), (5, .box [.i .i64 w43, .i .i64 w44, .i .i64 w45, .i .i64 w46, .i .i64 w47, .i .i64 w48, .i .i64 w49, .i .i64 w50, .i .i64 w51, .i .i64 w52, .i .i64 w53, .i .i64 w54, .i .i64 w55, .i .i64 w56, .i .i64 w57, .i .i64 w58, .i .i64 w59, .i .i64 w60, .i .i64 w61, .i .i64 w62]), (6, .box [.b p.2.2.2.2.2.2.2.2.2.2.2.2.1, .b p.2.2.2.2.2.2.2.2.2.2.2.2.2.1, .b p.2.2.2.2.2.2.2.2.2.2.2.2.2.2.1, .b p.2.2.2.2.2.2.2.2.2.2.2.2.2.2.2.1, .b p.2.2.2.2.2.2.2.2.2.2.2.2.2.2.2.2.1, .b p.2.2.2.2.2.2.2.2.2.2.2.2.2.2.2.2.2.1, .b p.2.2.2.2.2.2.2.2.2.2.2.2.2.2.2.2.2.2.1, .b p.2.2.2.2.2.2.2.2.2.2.2.2.2.2.2.2.2.2.2.1, .b p.2.2.2.2.2.2.2.2.2.2.2.2.2.2.2.2.2.2.2.2.1, .b p.2.2.2.2.2.2.2.2.2.2.2.2.2.2.2.2.2.2.2.2.2])]⟩)) := by kernel_rfl
theorem run96x0x9 (N : Nat) (w0 : Bool) (w1 : (List D)) (w2 w4 w5 w6 : Int) (w7 : Bool) (w8 : (List D)) (w9 : Bool) (w10 : (List D)) (w11 w12 w13 w14 w15 w16 w17 w18 w19 w20 w21 w22 : Bool) (w23 w24 w25 w26 w27 w28 w29 w30 w43 w44 w45 w46 w47 w48 w49 w50 w51 w52 w53 w54 w55 w56 w57 w58 w59 w60 w61 w62 : Int) : ∀ (m : Nat) (w3 w31 w32 w33 w34 w35 w36 w37 w38 w39 w40 w41 w42 : Int) (w63 w64 w65 w66 w67 w68 w69 w70 w71 w72 : Bool) (x : Ex × St), L96x0x9 N w1 w2 w11 w12 w13 w14 w15 w16 w17 w18 w19 w20 w21 w22 w23 m w3 w31 w32 w33 w34 w35 w36 w37 w38 w39 w40 w41 w42 w63 w64 w65 w66 w67 w68 w69 w70 w71 w72 (fun p => some ((.exit 0), ⟨[(3, .c (.p 4 0)), (4, .c (.p 5 0)), (5, .c (.p 6 0))], [(0, .box [.i .i64 w4, .i .i64 w5, .i .i64 w6, .sl 66 w7 w8, .sl 68 w9 w10, .b w11, .b w12, .b w13, .b w14, .b w15, .b w16, .b w17, .b w18, .b w19, .b w20, .b w21, .b w22]), (4, .box [.i .i64 w23, .i .i64 w24, .i .i64 w25, .i .i64 w26, .i .i64 w27, .i .i64 w28, .i .i64 w29, .i .i64 w30, .i .i64 p.1, .i .i64 p.2.1, .i .i64 p.2.2.1, .i .i64 p.2.2.2.1, .i .i64 p.2.2.2.2.1, .i .i64 p.2.2.2.2.2.1, .i .i64 p.2.2.2.2.2.2.1, .i .i64 p.2.2.2.2.2.2.2.1, .i .i64 p.2.2.2.2.2.2.2.2.1, .i .i64 p.2.2.2.2.2.2.2.2.2.1, .i .i64 p.2.2.2.2.2.2.2.2.2.2.1, .i .i64 p.2.2.2.2.2.2.2.2.2.2.2.1]), (5, .box [.i .i64 w43, .i .i64 w44, .i .i64 w45, .i .i64 w46, .i .i64 w47, .i .i64 w48, .i .i64 w49, .i .i64 w50, .i .i64 w51, .i .i64 w52, .i .i64 w53, .i .i64 w54, .i .i64 w55, .i .i64 w56, .i .i64 w57, .i .i64 w58, .i .i64 w59, .i .i64 w60, .i .i64 w61, .i .i64 w62]), (6, .box [.b p.2.2.2.2.2.2.2.2.2.2.2.2.1, .b p.2.2.2.2.2.2.2.2.2.2.2.2.2.1, .b p.2.2.2.2.2.2.2.2.2.2.2.2.2.2.1, .b p.2.2.2.2.2.2.2.2.2.2.2.2.2.2.2.1, .b p.2.2.2.2.2.2.2.2.2.2.2.2.2.2.2.2.1, .b p.2.2.2.2.2.2.2.2.2.2.2.2.2.2.2.2.2.1, .b p.2.2.2.2.2.2.2.2.2.2.2.2.2.2.2.2.2.2.1, .b p.2.2.2.2.2.2.2.2.2.2.2.2.2.2.2.2.2.2.2.1, .b p.2.2.2.2.2.2.2.2.2.2.2.2.2.2.2.2.2.2.2.2.1, .b p.2.2.2.2.2.2.2.2.2.2.2.2.2.2.2.2.2.2.2.2.2])]⟩)) = some x → exec Try.prog (T95x0 N) (h96x0s2 N) 1 (m + 101) (.loop (loopB (piece Try.prog 96 9))) (P96x0x9 w0 w1 w2 w3 w4 w5 w6 w7 w8 w9 w10 w11 w12 w13 w14 w15 w16 w17 w18 w19 w20 w21 w22 w23 w24 w25 w26 w27 w28 w29 w30 w31 w32 w33 w34 w35 w36 w37 w38 w39 w40 w41 w42 w43 w44 w45 w46 w47 w48 w49 w50 w51 w52 w53 w54 w55 w56 w57 w58 w59 w60 w61 w62 w63 w64 w65 w66 w67 w68 w69 w70 w71 w72) (fun e st => some (e, cutSt [4, 5, 3] [6, 5, 4, 0] st)) = some x := by
  intro m
  induction m with
  | zero => intro w3 w31 w32 w33 w34 w35 w36 w37 w38 w39 w40 w41 w42 w63 w64 w65 w66 w67 w68 w69 w70 w71 w72 x h; cases h
  | succ m ih =>
    intro w3 w31 w32 w33 w34 w35 w36 w37 w38 w39 w40 w41 w42 w63 w64 w65 w66 w67 w68 w69 w70 w71 w72 x h
    exact loop_round (n := m + 101) (nl96x0x9 N) (by kernel_rfl) (cl96x0x9 N ..) (fun kn => step96x0x9 N (m + 1) kn ..) (mono96x0x9 N _ _ _ _ _ _ _ _ _ _ _ _ _ _ _ _ _ _ _ _ _ _ _ _ _ _ _ _ _ _ _ _ _ _ _ _ _ _ _ (fun w3 w31 w32 w33 w34 w35 w36 w37 w38 w39 w40 w41 w42 w63 w64 w65 w66 w67 w68 w69 w70 w71 w72 => ih w3 w31 w32 w33 w34 w35 w36 w37 w38 w39 w40 w41 w42 w63 w64 w65 w66 w67 w68 w69 w70 w71 w72 x) h)
noncomputable def G96x0x9 (N : Nat) (w1 : (List D)) (w2 : Int) (w11 w12 w13 w14 w15 w16 w17 w18 w19 w20 w21 w22 : Bool) (w23 : Int) (w3 w31 w32 w33 w34 w35 w36 w37 w38 w39 w40 w41 w42 : Int) (w63 w64 w65 w66 w67 w68 w69 w70 w71 w72 : Bool) : Option (Int × Int × Int × Int × Int × Int × Int × Int × Int × Int × Int × Int × Bool × Bool × Bool × Bool × Bool × Bool × Bool × Bool × Bool × Bool) := L96x0x9 N (R := (Int × Int × Int × Int × Int × Int × Int × Int × Int × Int × Int × Int × Bool × Bool × Bool × Bool × Bool × Bool × Bool × Bool × Bool × Bool)) w1 w2 w11 w12 w13 w14 w15 w16 w17 w18 w19 w20 w21 w22 w23 N w3 w31 w32 w33 w34 w35 w36 w37 w38 w39 w40 w41 w42 w63 w64 w65 w66 w67 w68 w69 w70 w71 w72 (fun p => some p)
theorem sb96x0x9 (N : Nat) {R A : Type} (w1 : (List D)) (w2 : Int) (w11 w12 w13 w14 w15 w16 w17 w18 w19 w20 w21 w22 : Bool) (w23 : Int) (w3 w31 w32 w33 w34 w35 w36 w37 w38 w39 w40 w41 w42 : Int) (w63 w64 w65 w66 w67 w68 w69 w70 w71 w72 : Bool) (kr : Int → Int → Int → Int → Int → Int → Int → Int → Int → Int → Int → Int → Int → Bool → Bool → Bool → Bool → Bool → Bool → Bool → Bool → Bool → Bool → Option R) (kr' : Int → Int → Int → Int → Int → Int → Int → Int → Int → Int → Int → Int → Int → Bool → Bool → Bool → Bool → Bool → Bool → Bool → Bool → Bool → Bool → Option A) (k0 : Int × Int × Int × Int × Int × Int × Int × Int × Int × Int × Int × Int × Bool × Bool × Bool × Bool × Bool × Bool × Bool × Bool × Bool × Bool → Option R) (j0 : Int × Int × Int × Int × Int × Int × Int × Int × Int × Int × Int × Int × Bool × Bool × Bool × Bool × Bool × Bool × Bool × Bool × Bool × Bool → Option A) (K : A → Option R) (hr : ∀ w3' w31' w32' w33' w34' w35' w36' w37' w38' w39' w40' w41' w42' w63' w64' w65' w66' w67' w68' w69' w70' w71' w72', kr w3' w31' w32' w33' w34' w35' w36' w37' w38' w39' w40' w41' w42' w63' w64' w65' w66' w67' w68' w69' w70' w71' w72' = (kr' w3' w31' w32' w33' w34' w35' w36' w37' w38' w39' w40' w41' w42' w63' w64' w65' w66' w67' w68' w69' w70' w71' w72').bind K) (h0 : ∀ p, k0 p = (j0 p).bind K) : S96x0x9 N w1 w2 w11 w12 w13 w14 w15 w16 w17 w18 w19 w20 w21 w22 w23 w3 w31 w32 w33 w34 w35 w36 w37 w38 w39 w40 w41 w42 w63 w64 w65 w66 w67 w68 w69 w70 w71 w72 kr k0 = (S96x0x9 N w1 w2 w11 w12 w13 w14 w15 w16 w17 w18 w19 w20 w21 w22 w23 w3 w31 w32 w33 w34 w35 w36 w37 w38 w39 w40 w41 w42 w63 w64 w65 w66 w67 w68 w69 w70 w71 w72 kr' j0).bind K := by
  unfold S96x0x9
  repeat' (first | rfl | apply hr | apply h0 | apply cond_b | (apply bnd_b; intro _))
theorem lbind96x0x9 (N : Nat) {R : Type} (w1 : (List D)) (w2 : Int) (w11 w12 w13 w14 w15 w16 w17 w18 w19 w20 w21 w22 : Bool) (w23 : Int) : ∀ (m : Nat) (w3 w31 w32 w33 w34 w35 w36 w37 w38 w39 w40 w41 w42 : Int) (w63 w64 w65 w66 w67 w68 w69 w70 w71 w72 : Bool) (k0 : Int × Int × Int × Int × Int × Int × Int × Int × Int × Int × Int × Int × Bool × Bool × Bool × Bool × Bool × Bool × Bool × Bool × Bool × Bool → Option R), L96x0x9 N w1 w2 w11 w12 w13 w14 w15 w16 w17 w18 w19 w20 w21 w22 w23 m w3 w31 w32 w33 w34 w35 w36 w37 w38 w39 w40 w41 w42 w63 w64 w65 w66 w67 w68 w69 w70 w71 w72 k0 = (L96x0x9 N (R := (Int × Int × Int × Int × Int × Int × Int × Int × Int × Int × Int × Int × Bool × Bool × Bool × Bool × Bool × Bool × Bool × Bool × Bool × Bool)) w1 w2 w11 w12 w13 w14 w15 w16 w17 w18 w19 w20 w21 w22 w23 m w3 w31 w32 w33 w34 w35 w36 w37 w38 w39 w40 w41 w42 w63 w64 w65 w66 w67 w68 w69 w70 w71 w72 (fun p => some p)).bind k0 := by
  intro m
  induction m with
  | zero => intros; rfl
  | succ m ih =>
    intro w3 w31 w32 w33 w34 w35 w36 w37 w38 w39 w40 w41 w42 w63 w64 w65 w66 w67 w68 w69 w70 w71 w72 k0
    exact sb96x0x9 N _ _ _ _ _ _ _ _ _ _ _ _ _ _ _ _ _ _ _ _ _ _ _ _ _ _ _ _ _ _ _ _ _ _ _ _ _ _ _ _ _ _ _ (fun w3 w31 w32 w33 w34 w35 w36 w37 w38 w39 w40 w41 w42 w63 w64 w65 w66 w67 w68 w69 w70 w71 w72 => ih w3 w31 w32 w33 w34 w35 w36 w37 w38 w39 w40 w41 w42 w63 w64 w65 w66 w67 w68 w69 w70 w71 w72 k0) (fun _ => rfl)
theorem one96x0x9 : oneB Try.prog 96 9 = true := by kernel_rfl
noncomputable def sh96x0x9 : Sh := { tmps := [(0, .c (.p 0 0)), (3, .c (.p 4 0)), (4, .c (.p 5 0)), (5, .c (.p 6 0)), (12, .c (.sl 68)), (13, .c (.i .i64)), (14, .c (.i .i64))], mem := [(0, .box [.i .i64, .i .i64, .i .i64, .sl 66, .sl 68, .b, .b, .b, .b, .b, .b, .b, .b, .b, .b, .b, .b]), (4, .box [.i .i64, .i .i64, .i .i64, .i .i64, .i .i64, .i .i64, .i .i64, .i .i64, .i .i64, .i .i64, .i .i64, .i .i64, .i .i64, .i .i64, .i .i64, .i .i64, .i .i64, .i .i64, .i .i64, .i .i64]), (5, .box [.i .i64, .i .i64, .i .i64, .i .i64, .i .i64, .i .i64, .i .i64, .i .i64, .i .i64, .i .i64, .i .i64, .i .i64, .i .i64, .i .i64, .i .i64, .i .i64, .i .i64, .i .i64, .i .i64, .i .i64]), (6, .box [.b, .b, .b, .b, .b, .b, .b, .b, .b, .b])] }
noncomputable def K96x0x9w0 (L : List Lf) (p : Int × Int × Int × Int × Int × Int × Int × Int × Int × Int × Int × Int × Bool × Bool × Bool × Bool × Bool × Bool × Bool × Bool × Bool × Bool) : Ex × St := ((.exit 0), ⟨[(3, .c (.p 4 0)), (4, .c (.p 5 0)), (5, .c (.p 6 0))], [(0, .box [.i .i64 (li L 4), .i .i64 (li L 5), .i .i64 (li L 6), .sl 66 (lb L 7) (ll L 8), .sl 68 (lb L 9) (ll L 10), .b (lb L 11), .b (lb L 12), .b (lb L 13), .b (lb L 14), .b (lb L 15), .b (lb L 16), .b (lb L 17), .b (lb L 18), .b (lb L 19), .b (lb L 20), .b (lb L 21), .b (lb L 22)]), (4, .box [.i .i64 (li L 23), .i .i64 (li L 24), .i .i64 (li L 25), .i .i64 (li L 26), .i .i64 (li L 27), .i .i64 (li L 28), .i .i64 (li L 29), .i .i64 (li L 30), .i .i64 p.1, .i .i64 p.2.1, .i .i64 p.2.2.1, .i .i64 p.2.2.2.1, .i .i64 p.2.2.2.2.1, .i .i64 p.2.2.2.2.2.1, .i .i64 p.2.2.2.2.2.2.1, .i .i64 p.2.2.2.2.2.2.2.1, .i .i64 p.2.2.2.2.2.2.2.2.1, .i .i64 p.2.2.2.2.2.2.2.2.2.1, .i .i64 p.2.2.2.2.2.2.2.2.2.2.1, .i .i64 p.2.2.2.2.2.2.2.2.2.2.2.1]), (5, .box [.i .i64 (li L 43), .i .i64 (li L 44), .i .i64 (li L 45), .i .i64 (li L 46), .i .i64 (li L 47), .i .i64 (li L 48), .i .i64 (li L 49), .i .i64 (li L 50), .i .i64 (li L 51), .i .i64 (li L 52), .i .i64 (li L 53), .i .i64 (li L 54), .i .i64 (li L 55), .i .i64 (li L 56), .i .i64 (li L 57), .i .i64 (li L 58), .i .i64 (li L 59), .i .i64 (li L 60), .i .i64 (li L 61), .i .i64 (li L 62)]), (6, .box [.b p.2.2.2.2.2.2.2.2.2.2.2.2.1, .b p.2.2.2.2.2.2.2.2.2.2.2.2.2.1, .b p.2.2.2.2.2.2.2.2.2.2.2.2.2.2.1, .b p.2.2.2.2.2.2.2.2.2.2.2.2.2.2.2.1, .b p.2.2.2.2.2.2.2.2.2.2.2.2.2.2.2.2.1, .b p.2.2.2.2.2.2.2.2.2.2.2.2.2.2.2.2.2.1, .b p.2.2.2.2.2.2.2.2.2.2.2.2.2.2.2.2.2.2.1, .b p.2.2.2.2.2.2.2.2.2.2.2.2.2.2.2.2.2.2.2.1, .b p.2.2.2.2.2.2.2.2.2.2.2.2.2.2.2.2.2.2.2.2.1, .b p.2.2.2.2.2.2.2.2.2.2.2.2.2.2.2.2.2.2.2.2.2])]⟩)
end Go.Proofs.Ytefmjfcdgadggaa
