/- Functions of the program as plain Lean definitions, each with the proof that the program computes it. No condition. Printed by a program of the prover, part 1. -/
import Derived.Test.YtefmjfcdgadggaaAm2
import Derived.Test.YtefmjfcdgadggaaChecked
import Derived.KernelRfl
set_option linter.all false
set_option maxRecDepth 100000
namespace Go.Proofs.Ytefmjfcdgadggaa
open Go Go.AM
theorem progOk : ProgOk Try.prog := progOk_of (by kernel_rfl)
abbrev LD : Type := List D
abbrev LB : Type := List UInt8
abbrev Ty0 : Type := Int × Int × Int × Int × Int × Int × Int × Int × Int × Int × Int × Int × Int × Int × Int × Int × Int × Int × Int × Int × Int × Int × Int × Int × Int × Int × Int × Int × Int × Int × Int × Int × Int × Int × Int × Int × Int × Int × Int × Int × Int × Int × Int × Int × Int × Int × Int × Int
abbrev Ty1 : Type := Int × Int × Int × Int × Int × Int × Int × Int × Int × Int × Int × Int × Int × Int × Int × Int × Int × Int × Int × Int × Int × Int × Int × Int × Int × Int × Int × Int × Bool
abbrev Ty2 : Type := Int × Int × Int × Int × Int × Int × Int × Int × Int × Int × Int × Int × Int × Int × Int × Int × Int × Int × Int × Int × Int × Int × Int × Int
abbrev Ty3 : Type := Int × Int × Int × Int × Int × Int × Int × Int × Int × Int × Int × Int × Bool × Bool × Bool × Bool × Bool × Bool × Bool × Bool × Bool × Bool
abbrev Ty4 : Type := Int × Int × Int × Int × Int × Int × Int × Int × Int × Int × Int × Int × Int × Int × Int × Int × Int × Int × Int × Int × Bool
abbrev Ty5 : Type := Int × Int × Int × Int × Int × Int × Int × Int × Int × Int × Int × Int × Int × Int × Int × Int × Int × Int × Int
abbrev Ty6 : Type := Int × Int × Int × Int × Int × Int × Int × Int × Int × Int × Int × Int
abbrev Ty7 : Type := Bool × Bool × Bool × Bool × Bool × Bool × Bool × Bool × Bool × Bool
abbrev Ty8 : Type := Int × (List (D × D)) × Int × Int × Int
abbrev Ty9 : Type := Int × Int × Int × Int × (List (D × D))
abbrev Ty10 : Type := (List (D × D)) × Int × Int × Int × Int
abbrev Ty11 : Type := LB × Int × Int × Int × Bool
abbrev Ty12 : Type := Int × Int × Int × Int × LB
abbrev Ty13 : Type := Int × Int × Int × (List (D × D))
abbrev Ty14 : Type := (List (D × D)) × Bool × LD
abbrev Ty15 : Type := Bool × LD × Bool × Int
noncomputable def rg48x0 : List (Nat × List Nat) := [(0, [0, 1, 2]), (1, [0, 1, 2])]
noncomputable def hd48x0 : Hints := []
noncomputable def h48x0s0 (N : Nat) : Hint := { loops := hd48x0, regs := rg48x0, los := [] }
theorem al48x0s0 (N : Nat) : AllCuts Try.prog (h48x0s0 N).los 0 48 := AllCuts.nil
noncomputable def F48x0 (N : Nat) {R : Type} (v0 v1 v2 : Int) (k0 : Bool → R) : R :=
  k0 (bif (decide (v0 ≥ v1)) then (decide (v0 ≤ v2)) else false)
noncomputable def V48x0 (N : Nat) (v0 v1 v2 : Int) : Bool := F48x0 N v0 v1 v2 (fun p => p)
theorem tot48x0 (N : Nat) {R : Type} (v0 v1 v2 : Int) (k0 : Bool → R) : F48x0 N v0 v1 v2 k0 = k0 (V48x0 N v0 v1 v2) := by
  unfold V48x0 F48x0
  repeat' (first | rfl | apply cond_k | (apply bnd_k; intro _))
noncomputable def sh48x0 : Sh := { tmps := [(0, .c (.i .i64)), (1, .c (.i .i64)), (2, .c (.i .i64))], mem := [] }
noncomputable def A48x0 (N : Nat) (L : List Lf) : List (Bool × Res) := bnd (F48x0 N (li L 0) (li L 1) (li L 2) (fun p => p)) fun q => [(true, ([.c (.b q)], []))]
theorem raw48x0 (N : Nat) (L : List Lf) : (body Try.prog noOracle (h48x0s0 N) 200 48 (valsOf (ofSh sh48x0 L).tmps) (ofSh sh48x0 L).mem : Option Res) = F48x0 N (li L 0) (li L 1) (li L 2) (fun p => some ([.c (.b p)], [])) := by kernel_rfl
theorem ok48x0 (N : Nat) : ∀ args mem alts, spSh sh48x0 (A48x0 N) args mem = some alts → ∀ res, altK alts some = some res → CallOk Try.prog 48 args mem res :=
  spSh_law fun L x hx => callOk_of (n := 200) progOk noOracle_ok (al48x0s0 N) rfl ((raw48x0 N L).trans ((tot48x0 N ..).trans (alt0 _ _ hx)))
noncomputable def T48x0 (N : Nat) : Oracle := ext 48 (spSh sh48x0 (A48x0 N)) noOracle
theorem T48x0_ok (N : Nat) : OracleOk Try.prog (T48x0 N) := ext_ok noOracle_ok (enters_of (by kernel_rfl)) (ok48x0 N)
noncomputable def rg80x0 : List (Nat × List Nat) := [(0, [0]), (1, [0])]
noncomputable def hd80x0 : Hints := []
noncomputable def h80x0s0 (N : Nat) : Hint := { loops := hd80x0, regs := rg80x0, los := [] }
theorem al80x0s0 (N : Nat) : AllCuts Try.prog (h80x0s0 N).los 0 80 := AllCuts.nil
noncomputable def F80x0 (N : Nat) {R : Type} (v0 : Int) (k0 : Bool → R) : R :=
  k0 (bif (decide (v0 ≥ 48)) then (decide (v0 ≤ 57)) else false)
noncomputable def V80x0 (N : Nat) (v0 : Int) : Bool := F80x0 N v0 (fun p => p)
theorem tot80x0 (N : Nat) {R : Type} (v0 : Int) (k0 : Bool → R) : F80x0 N v0 k0 = k0 (V80x0 N v0) := by
  unfold V80x0 F80x0
  repeat' (first | rfl | apply cond_k | (apply bnd_k; intro _))
noncomputable def sh80x0 : Sh := { tmps := [(0, .c (.i .u8))], mem := [] }
noncomputable def A80x0 (N : Nat) (L : List Lf) : List (Bool × Res) := bnd (F80x0 N (li L 0) (fun p => p)) fun q => [(true, ([.c (.b q)], []))]
theorem raw80x0 (N : Nat) (L : List Lf) : (body Try.prog (T48x0 N) (h80x0s0 N) 200 80 (valsOf (ofSh sh80x0 L).tmps) (ofSh sh80x0 L).mem : Option Res) = F80x0 N (li L 0) (fun p => some ([.c (.b p)], [])) := by kernel_rfl
theorem ok80x0 (N : Nat) : ∀ args mem alts, spSh sh80x0 (A80x0 N) args mem = some alts → ∀ res, altK alts some = some res → CallOk Try.prog 80 args mem res :=
  spSh_law fun L x hx => callOk_of (n := 200) progOk (T48x0_ok N) (al80x0s0 N) rfl ((raw80x0 N L).trans ((tot80x0 N ..).trans (alt0 _ _ hx)))
noncomputable def T80x0 (N : Nat) : Oracle := ext 80 (spSh sh80x0 (A80x0 N)) (T48x0 N)
theorem T80x0_ok (N : Nat) : OracleOk Try.prog (T80x0 N) := ext_ok (T48x0_ok N) (enters_of (by kernel_rfl)) (ok80x0 N)
noncomputable def rg51x0 : List (Nat × List Nat) := [(0, [0]), (1, [0]), (2, [8, 7, 0]), (3, [8, 0, 7]), (4, [0, 3, 8, 7]), (5, [4, 8, 7, 0]), (6, [5, 4, 8, 7, 0]), (7, []), (8, [8, 7, 0]), (9, [0])]
noncomputable def hd51x0 : Hints := [(6, [8, 7, 0], [], []), (19, [5, 4, 8, 7, 0], [], [])]
noncomputable def h51x0s0 (N : Nat) : Hint := { loops := hd51x0, regs := rg51x0, los := [] }
theorem al51x0s0 (N : Nat) : AllCuts Try.prog (h51x0s0 N).los 0 51 := AllCuts.nil
noncomputable def F51x0x19 (N : Nat) {R : Type} (w1 : Int) (w2 : Bool) (k0 : Bool → R) : R :=
  bif (!w2) then
    bnd (V80x0 N w1) fun y0 =>
    bnd (bif (bif (!y0) then (w1 != 45) else false) then (w1 != 95) else false) fun y1 =>
    k0 (bif y1 then (w1 != 46) else false)
  else
    k0 false
noncomputable def V51x0x19 (N : Nat) (w1 : Int) (w2 : Bool) : Bool := F51x0x19 N w1 w2 (fun p => p)
theorem tot51x0x19 (N : Nat) {R : Type} (w1 : Int) (w2 : Bool) (k0 : Bool → R) : F51x0x19 N w1 w2 k0 = k0 (V51x0x19 N w1 w2) := by
  unfold V51x0x19 F51x0x19
  repeat' (first | rfl | apply cond_k | (apply bnd_k; intro _))
noncomputable def sh51x0x19 : Sh := { tmps := [(0, .c (.s)), (4, .c (.i .u8)), (5, .c (.b)), (7, .c (.i .i64)), (8, .c (.i .i64))], mem := [] }
noncomputable def K51x0x19w0 (L : List Lf) (p : Bool) : Ex × St := (.normal, ⟨[(0, .c (.s (ls L 0))), (7, .c (.i .i64 (li L 3))), (8, .c (.i .i64 (li L 4))), (46, .c (.b p))], []⟩)
noncomputable def A51x0x19 (N : Nat) (L : List Lf) : List (Bool × (Ex × St)) := bnd (F51x0x19 N (li L 1) (lb L 2) (fun p => p)) fun q => [(true, K51x0x19w0 L q)]
theorem raw51x0x19 (N : Nat) (L : List Lf) : (exec Try.prog (T80x0 N) (h51x0s0 N) 0 100 (piece Try.prog 51 19) (ofSh sh51x0x19 L) (fun e st => some (e, cutSt [8, 7, 0, 46] [] st)) : Option (Ex × St)) = F51x0x19 N (li L 1) (lb L 2) (fun p => some (K51x0x19w0 L p)) := by kernel_rfl
theorem one51x0x19 : oneB Try.prog 51 19 = true := by kernel_rfl
theorem law51x0x19 (N : Nat) : CutLaw Try.prog 0 (piece Try.prog 51 19) (loSh sh51x0x19 (A51x0x19 N)) :=
  law_sh progOk (T80x0_ok N) (al51x0s0 N) one51x0x19 fun L x hx => (raw51x0x19 N L).trans ((tot51x0x19 N ..).trans (alt0 _ _ hx))
noncomputable def h51x0s1 (N : Nat) : Hint := { (h51x0s0 N) with los := (19, loSh sh51x0x19 (A51x0x19 N)) :: (h51x0s0 N).los }
theorem al51x0s1 (N : Nat) : AllCuts Try.prog (h51x0s1 N).los 0 51 := AllCuts.cons (al51x0s0 N) one51x0x19 (law51x0x19 N)
noncomputable def P51x0x6 (w0 : LB) (w1 w2 : Int) : St := ⟨[(0, .c (.s w0)), (7, .c (.i .i64 w1)), (8, .c (.i .i64 w2))], []⟩
noncomputable def S51x0x6 (N : Nat) {R : Type} (w0 : LB) (w1 : Int) (w2 : Int) (kr : Int → Option R) (k0 : Unit → Option R) (k1 : Unit → Option R) : Option R :=
  bif (decide (w2 < w1)) then
    bif (inB w2 w0.length) then
      bnd (bif (decide (((w0.getD w2.toNat 0).toNat : Int) ≥ 97)) then (decide (((w0.getD w2.toNat 0).toNat : Int) ≤ 122)) else false) fun y0 =>
      bnd (bif y0 then true else (bif (decide (((w0.getD w2.toNat 0).toNat : Int) ≥ 65)) then (decide (((w0.getD w2.toNat 0).toNat : Int) ≤ 90)) else false)) fun y1 =>
      bnd (V51x0x19 N ((w0.getD w2.toNat 0).toNat : Int) y1) fun y2 =>
      bif y2 then
        k0 ()
      else
        kr (IntKind.wrap .i64 (w2 + 1))
    else
      none
  else
    k1 ()
theorem mono51x0x6 (N : Nat) {R : Type} (w0 : LB) (w1 : Int) (w2 : Int) {kr kr' : Int → Option R} (k0 : Unit → Option R) (k1 : Unit → Option R) {r : R} (hk : ∀ w2', kr w2' = some r → kr' w2' = some r) : S51x0x6 N w0 w1 w2 kr k0 k1 = some r → S51x0x6 N w0 w1 w2 kr' k0 k1 = some r := by
  unfold S51x0x6
  repeat' (first | exact hk _ | exact fun h => h | apply cond_mono | (apply bnd_mono; intro _))
noncomputable def L51x0x6 (N : Nat) {R : Type} (w0 : LB) (w1 : Int) : Nat → Int → (Unit → Option R) → (Unit → Option R) → Option R
  | 0, _, _, _ => none
  | m + 1, w2, k0, k1 => S51x0x6 N w0 w1 w2 (fun w2 => L51x0x6 N w0 w1 m w2 k0 k1) k0 k1
theorem lp51x0x6 : piece Try.prog 51 6 = .loop (loopB (piece Try.prog 51 6)) := by kernel_rfl
theorem nl51x0x6 (N : Nat) : lawOf (h51x0s1 N) (.loop (loopB (piece Try.prog 51 6))) = none := by kernel_rfl
theorem cl51x0x6 (N : Nat) (w0 : LB) (w1 : Int) (w2 : Int) : clearSt Try.prog 0 (h51x0s1 N).loops 6 (P51x0x6 w0 w1 w2) = (P51x0x6 w0 w1 w2) := by kernel_rfl
theorem step51x0x6 (N : Nat) (m : Nat) (kn : St → Option (Ex × St)) (w0 : LB) (w1 : Int) (w2 : Int) : exec Try.prog (T80x0 N) (h51x0s1 N) 0 (m + 100) (loopB (piece Try.prog 51 6)) (P51x0x6 w0 w1 w2) (reK (fun st => kn (clearSt Try.prog 0 (h51x0s1 N).loops 6 st)) (fun e st => some (e, cutSt [2, 0] [] st))) = S51x0x6 N w0 w1 w2 (fun w2 => kn (P51x0x6 w0 w1 w2)) (fun _ => some (.ret, ⟨[(2, .c (.b false))], []⟩)) (fun _ => some ((.exit 0), ⟨[(0, .c (.s w0))], []⟩)) := by kernel_rfl
theorem run51x0x6 (N : Nat) (w0 : LB) (w1 : Int) : ∀ (m : Nat) (w2 : Int) (x : Ex × St), L51x0x6 N w0 w1 m w2 (fun _ => some (.ret, ⟨[(2, .c (.b false))], []⟩)) (fun _ => some ((.exit 0), ⟨[(0, .c (.s w0))], []⟩)) = some x → exec Try.prog (T80x0 N) (h51x0s1 N) 0 (m + 101) (.loop (loopB (piece Try.prog 51 6))) (P51x0x6 w0 w1 w2) (fun e st => some (e, cutSt [2, 0] [] st)) = some x := by
  intro m
  induction m with
  | zero => intro w2 x h; cases h
  | succ m ih =>
    intro w2 x h
    exact loop_round (n := m + 101) (nl51x0x6 N) (by kernel_rfl) (cl51x0x6 N ..) (fun kn => step51x0x6 N (m + 1) kn ..) (mono51x0x6 N _ _ _ _ _ (fun w2 => ih w2 x) h)
noncomputable def G51x0x6 (N : Nat) (w0 : LB) (w1 : Int) (w2 : Int) : Option (Sum (Unit) (Unit)) := L51x0x6 N (R := (Sum (Unit) (Unit))) w0 w1 N w2 (fun p => some (.inl p)) (fun p => some (.inr p))
theorem sb51x0x6 (N : Nat) {R A : Type} (w0 : LB) (w1 : Int) (w2 : Int) (kr : Int → Option R) (kr' : Int → Option A) (k0 : Unit → Option R) (k1 : Unit → Option R) (j0 : Unit → Option A) (j1 : Unit → Option A) (K : A → Option R) (hr : ∀ w2', kr w2' = (kr' w2').bind K) (h0 : ∀ p, k0 p = (j0 p).bind K) (h1 : ∀ p, k1 p = (j1 p).bind K) : S51x0x6 N w0 w1 w2 kr k0 k1 = (S51x0x6 N w0 w1 w2 kr' j0 j1).bind K := by
  unfold S51x0x6
  repeat' (first | rfl | apply hr | apply h0 | apply h1 | apply cond_b | (apply bnd_b; intro _))
theorem lbind51x0x6 (N : Nat) {R : Type} (w0 : LB) (w1 : Int) : ∀ (m : Nat) (w2 : Int) (k0 : Unit → Option R) (k1 : Unit → Option R), L51x0x6 N w0 w1 m w2 k0 k1 = (L51x0x6 N (R := (Sum (Unit) (Unit))) w0 w1 m w2 (fun p => some (.inl p)) (fun p => some (.inr p))).bind (sumE k0 k1) := by
  intro m
  induction m with
  | zero => intros; rfl
  | succ m ih =>
    intro w2 k0 k1
    exact sb51x0x6 N _ _ _ _ _ _ _ _ _ _ (fun w2 => ih w2 k0 k1) (fun _ => rfl) (fun _ => rfl)
theorem one51x0x6 : oneB Try.prog 51 6 = true := by kernel_rfl
noncomputable def sh51x0x6 : Sh := { tmps := [(0, .c (.s)), (7, .c (.i .i64)), (8, .c (.i .i64))], mem := [] }
noncomputable def A51x0x6 (N : Nat) (L : List Lf) : List (Bool × (Ex × St)) := bnd (G51x0x6 N (ls L 0) (li L 1) (li L 2)) fun q => [((inlB q), (.ret, ⟨[(2, .c (.b false))], []⟩)), ((inrQ q).isSome, ((.exit 0), ⟨[(0, .c (.s (ls L 0)))], []⟩))]
theorem eq51x0x6 (L : List Lf) : ofSh sh51x0x6 L = (P51x0x6 (ls L 0) (li L 1) (li L 2)) := by kernel_rfl
theorem law51x0x6 (N : Nat) : CutLaw Try.prog 0 (piece Try.prog 51 6) (loSh sh51x0x6 (A51x0x6 N)) :=
  law_shL progOk (T80x0_ok N) (al51x0s1 N) one51x0x6 lp51x0x6 eq51x0x6 fun L x hx => run51x0x6 N _ _ N _ x ((lbind51x0x6 N _ _ N _ _ _).trans ((altS alt1) x hx))
noncomputable def h51x0s2 (N : Nat) : Hint := { (h51x0s1 N) with los := (6, loSh sh51x0x6 (A51x0x6 N)) :: (h51x0s1 N).los }
theorem al51x0s2 (N : Nat) : AllCuts Try.prog (h51x0s2 N).los 0 51 := AllCuts.cons (al51x0s1 N) one51x0x6 (law51x0x6 N)
noncomputable def F51x0 (N : Nat) {R : Type} (v0 : LB) (k0 : Bool → Option R) : Option R :=
  bnd (G51x0x6 N v0 (v0.length : Int) 0) fun y0 =>
  bif (inlB y0) then
    k0 false
  else
    bif (inrQ y0).isSome then
      bnd (bif (decide ((v0.length : Int) ≥ 1)) then (decide ((v0.length : Int) ≤ 60)) else false) fun y1 =>
      k0 y1
    else
      none
noncomputable def G51x0 (N : Nat) (v0 : LB) : Option (Bool) := F51x0 N v0 (fun p => some p)
theorem bind51x0 (N : Nat) {R : Type} (v0 : LB) (k0 : Bool → Option R) : F51x0 N v0 k0 = (G51x0 N v0).bind k0 := by
  unfold G51x0 F51x0
  repeat' (first | rfl | apply cond_b | (apply bnd_b; intro _))
noncomputable def sh51x0 : Sh := { tmps := [(0, .c (.s))], mem := [] }
noncomputable def A51x0 (N : Nat) (L : List Lf) : List (Bool × Res) := bnd (F51x0 N (ls L 0) (fun p => some p)) fun q => [(q.isSome, ([.c (.b (q.getD default))], []))]
theorem raw51x0 (N : Nat) (L : List Lf) : (body Try.prog (T80x0 N) (h51x0s2 N) 200 51 (valsOf (ofSh sh51x0 L).tmps) (ofSh sh51x0 L).mem : Option Res) = F51x0 N (ls L 0) (fun p => some ([.c (.b p)], [])) := by kernel_rfl
theorem ok51x0 (N : Nat) : ∀ args mem alts, spSh sh51x0 (A51x0 N) args mem = some alts → ∀ res, altK alts some = some res → CallOk Try.prog 51 args mem res :=
  spSh_law fun L x hx => callOk_of (n := 200) progOk (T80x0_ok N) (al51x0s2 N) rfl ((raw51x0 N L).trans ((bind51x0 N ..).trans (alt1 x hx)))
noncomputable def T51x0 (N : Nat) : Oracle := ext 51 (spSh sh51x0 (A51x0 N)) (T80x0 N)
theorem T51x0_ok (N : Nat) : OracleOk Try.prog (T51x0 N) := ext_ok (T80x0_ok N) (enters_of (by kernel_rfl)) (ok51x0 N)
noncomputable def rg82x0 : List (Nat × List Nat) := [(0, [0, 1]), (1, [2, 1])]
noncomputable def hd82x0 : Hints := []
noncomputable def h82x0s0 (N : Nat) : Hint := { loops := hd82x0, regs := rg82x0, los := [] }
theorem al82x0s0 (N : Nat) : AllCuts Try.prog (h82x0s0 N).los 1 82 := AllCuts.nil
noncomputable def F82x0 (N : Nat) {R : Type} (v0 v5 : LB) (k0 : Bool → R) : R :=
  k0 (v0 == v5)
noncomputable def V82x0 (N : Nat) (v0 v5 : LB) : Bool := F82x0 N v0 v5 (fun p => p)
theorem tot82x0 (N : Nat) {R : Type} (v0 v5 : LB) (k0 : Bool → R) : F82x0 N v0 v5 k0 = k0 (V82x0 N v0 v5) := by
  unfold V82x0 F82x0
  repeat' (first | rfl | apply cond_k | (apply bnd_k; intro _))
noncomputable def sh82x0 : Sh := { tmps := [(0, .g ([.s, .i .i64, .i .i64, .i .i64, .b])), (1, .c (.p 0 0))], mem := [(0, .box ([.s]))] }
noncomputable def A82x0 (N : Nat) (L : List Lf) : List (Bool × Res) := bnd (F82x0 N (ls L 0) (ls L 5) (fun p => p)) fun q => [(true, ([.c (.b q)], [(0, .box [.s (ls L 5)])]))]
theorem raw82x0 (N : Nat) (L : List Lf) : (body Try.prog (T51x0 N) (h82x0s0 N) 200 82 (valsOf (ofSh sh82x0 L).tmps) (ofSh sh82x0 L).mem : Option Res) = F82x0 N (ls L 0) (ls L 5) (fun p => some ([.c (.b p)], [(0, .box [.s (ls L 5)])])) := by kernel_rfl
theorem ok82x0 (N : Nat) : ∀ args mem alts, spSh sh82x0 (A82x0 N) args mem = some alts → ∀ res, altK alts some = some res → CallOk Try.prog 82 args mem res :=
  spSh_law fun L x hx => callOk_of (n := 200) progOk (T51x0_ok N) (al82x0s0 N) rfl ((raw82x0 N L).trans ((tot82x0 N ..).trans (alt0 _ _ hx)))
noncomputable def T82x0 (N : Nat) : Oracle := ext 82 (spSh sh82x0 (A82x0 N)) (T51x0 N)
theorem T82x0_ok (N : Nat) : OracleOk Try.prog (T82x0 N) := ext_ok (T51x0_ok N) (enters_of (by kernel_rfl)) (ok82x0 N)
noncomputable def rg81x0 : List (Nat × List Nat) := [(0, [0, 1]), (1, [0, 1]), (2, [8, 7, 1, 0]), (3, [8, 1, 0, 7]), (4, [1, 0, 5, 8, 7]), (5, [5]), (6, [8, 7, 1, 0]), (7, [])]
noncomputable def hd81x0 : Hints := [(6, [8, 7, 1, 0], [0], [])]
noncomputable def h81x0s0 (N : Nat) : Hint := { loops := hd81x0, regs := rg81x0, los := [] }
theorem al81x0s0 (N : Nat) : AllCuts Try.prog (h81x0s0 N).los 1 81 := AllCuts.nil
noncomputable def P81x0x6 (w0 : Bool) (w1 : LD) (w2 w3 : Int) (w4 : LB) : St := ⟨[(0, .c (.sl 66 w0 w1)), (1, .c (.f 82 [(0, 0)])), (7, .c (.i .i64 w2)), (8, .c (.i .i64 w3))], [(0, .box [.s w4])]⟩
noncomputable def S81x0x6 (N : Nat) {R : Type} (w1 : LD) (w2 : Int) (w4 : LB) (w3 : Int) (kr : Int → Option R) (k0 : Int → Option R) (k1 : Unit → Option R) : Option R :=
  bif (decide (w3 < w2)) then
    bif (inB w3 w1.length) then
      bnd (V82x0 N ((w1.getD w3.toNat (.i 0)).cell 0).toS w4) fun y0 =>
      bif y0 then
        k0 w3
      else
        kr (IntKind.wrap .i64 (w3 + 1))
    else
      none
  else
    k1 ()
theorem mono81x0x6 (N : Nat) {R : Type} (w1 : LD) (w2 : Int) (w4 : LB) (w3 : Int) {kr kr' : Int → Option R} (k0 : Int → Option R) (k1 : Unit → Option R) {r : R} (hk : ∀ w3', kr w3' = some r → kr' w3' = some r) : S81x0x6 N w1 w2 w4 w3 kr k0 k1 = some r → S81x0x6 N w1 w2 w4 w3 kr' k0 k1 = some r := by
  unfold S81x0x6
  repeat' (first | exact hk _ | exact fun h => h | apply cond_mono | (apply bnd_mono; intro _))
noncomputable def L81x0x6 (N : Nat) {R : Type} (w1 : LD) (w2 : Int) (w4 : LB) : Nat → Int → (Int → Option R) → (Unit → Option R) → Option R
  | 0, _, _, _ => none
  | m + 1, w3, k0, k1 => S81x0x6 N w1 w2 w4 w3 (fun w3 => L81x0x6 N w1 w2 w4 m w3 k0 k1) k0 k1
theorem lp81x0x6 : piece Try.prog 81 6 = .loop (loopB (piece Try.prog 81 6)) := by kernel_rfl
theorem nl81x0x6 (N : Nat) : lawOf (h81x0s0 N) (.loop (loopB (piece Try.prog 81 6))) = none := by kernel_rfl
theorem cl81x0x6 (N : Nat) (w0 : Bool) (w1 : LD) (w2 : Int) (w4 : LB) (w3 : Int) : clearSt Try.prog 1 (h81x0s0 N).loops 6 (P81x0x6 w0 w1 w2 w3 w4) = (P81x0x6 w0 w1 w2 w3 w4) := by kernel_rfl
theorem step81x0x6 (N : Nat) (m : Nat) (kn : St → Option (Ex × St)) (w0 : Bool) (w1 : LD) (w2 : Int) (w4 : LB) (w3 : Int) : exec Try.prog (T82x0 N) (h81x0s0 N) 1 (m + 100) (loopB (piece Try.prog 81 6)) (P81x0x6 w0 w1 w2 w3 w4) (reK (fun st => kn (clearSt Try.prog 1 (h81x0s0 N).loops 6 st)) (fun e st => some (e, cutSt [4] [0] st))) = S81x0x6 N w1 w2 w4 w3 (fun w3 => kn (P81x0x6 w0 w1 w2 w3 w4)) (fun p => some (.ret, ⟨[(4, .c (.i .i64 p))], [(0, .box [.s w4])]⟩)) (fun _ => some ((.exit 0), ⟨[], [(0, .box [.s w4])]⟩)) := by kernel_rfl
theorem run81x0x6 (N : Nat) (w0 : Bool) (w1 : LD) (w2 : Int) (w4 : LB) : ∀ (m : Nat) (w3 : Int) (x : Ex × St), L81x0x6 N w1 w2 w4 m w3 (fun p => some (.ret, ⟨[(4, .c (.i .i64 p))], [(0, .box [.s w4])]⟩)) (fun _ => some ((.exit 0), ⟨[], [(0, .box [.s w4])]⟩)) = some x → exec Try.prog (T82x0 N) (h81x0s0 N) 1 (m + 101) (.loop (loopB (piece Try.prog 81 6))) (P81x0x6 w0 w1 w2 w3 w4) (fun e st => some (e, cutSt [4] [0] st)) = some x := by
  intro m
  induction m with
  | zero => intro w3 x h; cases h
  | succ m ih =>
    intro w3 x h
    exact loop_round (n := m + 101) (nl81x0x6 N) (by kernel_rfl) (cl81x0x6 N ..) (fun kn => step81x0x6 N (m + 1) kn ..) (mono81x0x6 N _ _ _ _ _ _ (fun w3 => ih w3 x) h)
noncomputable def G81x0x6 (N : Nat) (w1 : LD) (w2 : Int) (w4 : LB) (w3 : Int) : Option (Sum (Int) (Unit)) := L81x0x6 N (R := (Sum (Int) (Unit))) w1 w2 w4 N w3 (fun p => some (.inl p)) (fun p => some (.inr p))
theorem sb81x0x6 (N : Nat) {R A : Type} (w1 : LD) (w2 : Int) (w4 : LB) (w3 : Int) (kr : Int → Option R) (kr' : Int → Option A) (k0 : Int → Option R) (k1 : Unit → Option R) (j0 : Int → Option A) (j1 : Unit → Option A) (K : A → Option R) (hr : ∀ w3', kr w3' = (kr' w3').bind K) (h0 : ∀ p, k0 p = (j0 p).bind K) (h1 : ∀ p, k1 p = (j1 p).bind K) : S81x0x6 N w1 w2 w4 w3 kr k0 k1 = (S81x0x6 N w1 w2 w4 w3 kr' j0 j1).bind K := by
  unfold S81x0x6
  repeat' (first | rfl | apply hr | apply h0 | apply h1 | apply cond_b | (apply bnd_b; intro _))
theorem lbind81x0x6 (N : Nat) {R : Type} (w1 : LD) (w2 : Int) (w4 : LB) : ∀ (m : Nat) (w3 : Int) (k0 : Int → Option R) (k1 : Unit → Option R), L81x0x6 N w1 w2 w4 m w3 k0 k1 = (L81x0x6 N (R := (Sum (Int) (Unit))) w1 w2 w4 m w3 (fun p => some (.inl p)) (fun p => some (.inr p))).bind (sumE k0 k1) := by
  intro m
  induction m with
  | zero => intros; rfl
  | succ m ih =>
    intro w3 k0 k1
    exact sb81x0x6 N _ _ _ _ _ _ _ _ _ _ _ (fun w3 => ih w3 k0 k1) (fun _ => rfl) (fun _ => rfl)
theorem one81x0x6 : oneB Try.prog 81 6 = true := by kernel_rfl
noncomputable def sh81x0x6 : Sh := { tmps := [(0, .c (.sl 66)), (1, .c (.f 82 [(0, 0)])), (7, .c (.i .i64)), (8, .c (.i .i64))], mem := [(0, .box ([.s]))] }
noncomputable def A81x0x6 (N : Nat) (L : List Lf) : List (Bool × (Ex × St)) := bnd (G81x0x6 N (ll L 1) (li L 2) (ls L 4) (li L 3)) fun q => [((inlB q), (.ret, ⟨[(4, .c (.i .i64 (inlV q)))], [(0, .box [.s (ls L 4)])]⟩)), ((inrQ q).isSome, ((.exit 0), ⟨[], [(0, .box [.s (ls L 4)])]⟩))]
theorem eq81x0x6 (L : List Lf) : ofSh sh81x0x6 L = (P81x0x6 (lb L 0) (ll L 1) (li L 2) (li L 3) (ls L 4)) := by kernel_rfl
theorem law81x0x6 (N : Nat) : CutLaw Try.prog 1 (piece Try.prog 81 6) (loSh sh81x0x6 (A81x0x6 N)) :=
  law_shL progOk (T82x0_ok N) (al81x0s0 N) one81x0x6 lp81x0x6 eq81x0x6 fun L x hx => run81x0x6 N _ _ _ _ N _ x ((lbind81x0x6 N _ _ _ N _ _ _).trans ((altS alt1) x hx))
noncomputable def h81x0s1 (N : Nat) : Hint := { (h81x0s0 N) with los := (6, loSh sh81x0x6 (A81x0x6 N)) :: (h81x0s0 N).los }
theorem al81x0s1 (N : Nat) : AllCuts Try.prog (h81x0s1 N).los 1 81 := AllCuts.cons (al81x0s0 N) one81x0x6 (law81x0x6 N)
noncomputable def F81x0 (N : Nat) {R : Type} (v1 : LD) (v2 : LB) (k0 : Int → Option R) : Option R :=
  bnd (G81x0x6 N v1 (v1.length : Int) v2 0) fun y0 =>
  bif (inlB y0) then
    k0 (inlV y0)
  else
    bif (inrQ y0).isSome then
      k0 (-1)
    else
      none
noncomputable def G81x0 (N : Nat) (v1 : LD) (v2 : LB) : Option (Int) := F81x0 N v1 v2 (fun p => some p)
theorem bind81x0 (N : Nat) {R : Type} (v1 : LD) (v2 : LB) (k0 : Int → Option R) : F81x0 N v1 v2 k0 = (G81x0 N v1 v2).bind k0 := by
  unfold G81x0 F81x0
  repeat' (first | rfl | apply cond_b | (apply bnd_b; intro _))
noncomputable def sh81x0 : Sh := { tmps := [(0, .c (.sl 66)), (1, .c (.f 82 [(0, 0)]))], mem := [(0, .box ([.s]))] }
noncomputable def A81x0 (N : Nat) (L : List Lf) : List (Bool × Res) := bnd (F81x0 N (ll L 1) (ls L 2) (fun p => some p)) fun q => [(q.isSome, ([.c (.i .i64 (q.getD default))], [(0, .box [.s (ls L 2)])]))]
theorem raw81x0 (N : Nat) (L : List Lf) : (body Try.prog (T82x0 N) (h81x0s1 N) 200 81 (valsOf (ofSh sh81x0 L).tmps) (ofSh sh81x0 L).mem : Option Res) = F81x0 N (ll L 1) (ls L 2) (fun p => some ([.c (.i .i64 p)], [(0, .box [.s (ls L 2)])])) := by kernel_rfl
theorem ok81x0 (N : Nat) : ∀ args mem alts, spSh sh81x0 (A81x0 N) args mem = some alts → ∀ res, altK alts some = some res → CallOk Try.prog 81 args mem res :=
  spSh_law fun L x hx => callOk_of (n := 200) progOk (T82x0_ok N) (al81x0s1 N) rfl ((raw81x0 N L).trans ((bind81x0 N ..).trans (alt1 x hx)))
noncomputable def T81x0 (N : Nat) : Oracle := ext 81 (spSh sh81x0 (A81x0 N)) (T82x0 N)
theorem T81x0_ok (N : Nat) : OracleOk Try.prog (T81x0 N) := ext_ok (T82x0_ok N) (enters_of (by kernel_rfl)) (ok81x0 N)
noncomputable def rg52x0 : List (Nat × List Nat) := [(0, [0, 1]), (1, [2, 3])]
noncomputable def hd52x0 : Hints := []
noncomputable def h52x0s0 (N : Nat) : Hint := { loops := hd52x0, regs := rg52x0, los := [] }
theorem al52x0s0 (N : Nat) : AllCuts Try.prog (h52x0s0 N).los 0 52 := AllCuts.nil
noncomputable def F52x0 (N : Nat) {R : Type} (v4 : LD) (v7 : LB) (k0 : Int → Option R) : Option R :=
  bnd (G81x0 N v4 v7) fun y0 =>
  bif y0.isSome then
    k0 (y0.getD default)
  else
    none
noncomputable def G52x0 (N : Nat) (v4 : LD) (v7 : LB) : Option (Int) := F52x0 N v4 v7 (fun p => some p)
theorem bind52x0 (N : Nat) {R : Type} (v4 : LD) (v7 : LB) (k0 : Int → Option R) : F52x0 N v4 v7 k0 = (G52x0 N v4 v7).bind k0 := by
  unfold G52x0 F52x0
  repeat' (first | rfl | apply cond_b | (apply bnd_b; intro _))
noncomputable def sh52x0 : Sh := { tmps := [(0, .g ([.i .i64, .i .i64, .i .i64, .sl 66, .sl 68])), (1, .c (.s))], mem := [] }
noncomputable def A52x0 (N : Nat) (L : List Lf) : List (Bool × Res) := bnd (F52x0 N (ll L 4) (ls L 7) (fun p => some p)) fun q => [(q.isSome, ([.c (.i .i64 (q.getD default))], []))]
theorem raw52x0 (N : Nat) (L : List Lf) : (body Try.prog (T81x0 N) (h52x0s0 N) 200 52 (valsOf (ofSh sh52x0 L).tmps) (ofSh sh52x0 L).mem : Option Res) = F52x0 N (ll L 4) (ls L 7) (fun p => some ([.c (.i .i64 p)], [])) := by kernel_rfl
theorem ok52x0 (N : Nat) : ∀ args mem alts, spSh sh52x0 (A52x0 N) args mem = some alts → ∀ res, altK alts some = some res → CallOk Try.prog 52 args mem res :=
  spSh_law fun L x hx => callOk_of (n := 200) progOk (T81x0_ok N) (al52x0s0 N) rfl ((raw52x0 N L).trans ((bind52x0 N ..).trans (alt1 x hx)))
noncomputable def T52x0 (N : Nat) : Oracle := ext 52 (spSh sh52x0 (A52x0 N)) (T81x0 N)
theorem T52x0_ok (N : Nat) : OracleOk Try.prog (T52x0 N) := ext_ok (T81x0_ok N) (enters_of (by kernel_rfl)) (ok52x0 N)
noncomputable def rg83x0 : List (Nat × List Nat) := [(0, [0]), (1, [0, 2]), (2, [3, 2]), (4, [3, 2]), (6, [3, 2]), (8, [3, 2]), (10, [3, 2]), (11, [2]), (9, [2]), (7, [2]), (5, [2]), (3, [2]), (12, [2])]
noncomputable def hd83x0 : Hints := []
noncomputable def h83x0s0 (N : Nat) : Hint := { loops := hd83x0, regs := rg83x0, los := [] }
theorem al83x0s0 (N : Nat) : AllCuts Try.prog (h83x0s0 N).los 0 83 := AllCuts.nil
noncomputable def F83x0 (N : Nat) {R : Type} (v0 : Int) (k0 : Bool × Bool × Bool × Bool × Bool → R) : R :=
  bif (v0 == 1) then
    k0 (true, false, false, false, false)
  else
    bif (v0 == 2) then
      k0 (true, true, false, false, false)
    else
      bif (v0 == 6) then
        k0 (false, false, true, true, true)
      else
        bif (v0 == 8) then
          k0 (true, false, false, false, true)
        else
          bif (v0 == 9) then
            k0 (true, true, true, false, false)
          else
            k0 (false, true, false, false, false)
noncomputable def V83x0 (N : Nat) (v0 : Int) : Bool × Bool × Bool × Bool × Bool := F83x0 N v0 (fun p => p)
theorem tot83x0 (N : Nat) {R : Type} (v0 : Int) (k0 : Bool × Bool × Bool × Bool × Bool → R) : F83x0 N v0 k0 = k0 (V83x0 N v0) := by
  unfold V83x0 F83x0
  repeat' (first | rfl | apply cond_k | (apply bnd_k; intro _))
noncomputable def sh83x0 : Sh := { tmps := [(0, .c (.i .i64))], mem := [] }
noncomputable def K83x0w0 (L : List Lf) (p : Bool × Bool × Bool × Bool × Bool) : Res := ([.g [.b p.1, .b p.2.1, .b p.2.2.1, .b p.2.2.2.1, .b p.2.2.2.2]], [])
noncomputable def A83x0 (N : Nat) (L : List Lf) : List (Bool × Res) := bnd (F83x0 N (li L 0) (fun p => p)) fun q => [(true, K83x0w0 L q)]
theorem raw83x0 (N : Nat) (L : List Lf) : (body Try.prog (T52x0 N) (h83x0s0 N) 200 83 (valsOf (ofSh sh83x0 L).tmps) (ofSh sh83x0 L).mem : Option Res) = F83x0 N (li L 0) (fun p => some (K83x0w0 L p)) := by kernel_rfl
theorem ok83x0 (N : Nat) : ∀ args mem alts, spSh sh83x0 (A83x0 N) args mem = some alts → ∀ res, altK alts some = some res → CallOk Try.prog 83 args mem res :=
  spSh_law fun L x hx => callOk_of (n := 200) progOk (T52x0_ok N) (al83x0s0 N) rfl ((raw83x0 N L).trans ((tot83x0 N ..).trans (alt0 _ _ hx)))
noncomputable def T83x0 (N : Nat) : Oracle := ext 83 (spSh sh83x0 (A83x0 N)) (T52x0 N)
theorem T83x0_ok (N : Nat) : OracleOk Try.prog (T83x0 N) := ext_ok (T52x0_ok N) (enters_of (by kernel_rfl)) (ok83x0 N)
noncomputable def rg53x0 : List (Nat × List Nat) := [(0, [0, 1]), (1, [3, 2]), (2, []), (3, [3, 2]), (4, [3, 2, 5]), (5, [3, 2, 5, 7, 8, 6]), (6, [2, 3, 5, 7, 8]), (7, [3, 5, 6, 2, 7, 8]), (8, [3, 5, 6, 2]), (9, [3, 5, 6, 2, 7, 8]), (10, [5, 3, 6, 9, 2, 7, 8]), (11, [5, 3, 7, 8, 9, 2]), (13, [3, 9, 5, 2]), (14, [3, 5, 2]), (16, [5, 2, 3]), (18, [5, 3]), (19, [5, 3]), (20, [5, 3]), (21, [5, 3]), (22, [5, 3]), (23, []), (17, []), (15, []), (12, []), (24, [])]
noncomputable def hd53x0 : Hints := [(20, [2, 3, 5, 7, 8, 6, 24], [5, 3, 2], []), (26, [3, 5, 6, 2, 7, 8, 30], [5, 3, 2], []), (31, [5, 3, 6, 9, 2, 7, 8], [5, 3, 2], []), (34, [5, 3, 7, 8, 9, 2], [5, 3, 2], []), (33002, [3, 9, 5, 2, 46, 7, 8], [5, 3, 2], []), (43, [3, 5, 2], [5, 3, 2], []), (42002, [5, 2, 3, 66], [5, 3, 2], []), (49, [5, 2, 3], [5, 3, 2], []), (66002, [103, 5, 3], [5, 3], []), (63002, [103, 5, 3], [5, 3], []), (60002, [103, 5, 3], [5, 3], []), (57002, [103, 5, 3], [5, 3], [])]
noncomputable def h53x0s0 (N : Nat) : Hint := { loops := hd53x0, regs := rg53x0, los := [] }
theorem al53x0s0 (N : Nat) : AllCuts Try.prog (h53x0s0 N).los 0 53 := AllCuts.nil
noncomputable def F53x0x20 (N : Nat) {R : Type} (w0 : Int) (w3 : Bool) (w5 : Int) (k0 : Int → R) : R :=
  bif w3 then
    k0 (IntKind.wrap .i64 (w5 - 1))
  else
    k0 w0
noncomputable def V53x0x20 (N : Nat) (w0 : Int) (w3 : Bool) (w5 : Int) : Int := F53x0x20 N w0 w3 w5 (fun p => p)
theorem tot53x0x20 (N : Nat) {R : Type} (w0 : Int) (w3 : Bool) (w5 : Int) (k0 : Int → R) : F53x0x20 N w0 w3 w5 k0 = k0 (V53x0x20 N w0 w3 w5) := by
  unfold V53x0x20 F53x0x20
  repeat' (first | rfl | apply cond_k | (apply bnd_k; intro _))
noncomputable def sh53x0x20 : Sh := { tmps := [(2, .c (.p 2 0)), (3, .c (.p 3 0)), (5, .c (.p 5 0)), (6, .c (.i .i64)), (7, .c (.i .i64)), (8, .c (.i .i64)), (24, .c (.b))], mem := [(2, .box ([.i .i64, .i .i64, .i .i64, .sl 66, .sl 68])), (3, .box (rI 5 ([.s]))), (5, .box (rB 5 ([])))] }
noncomputable def K53x0x20w0 (L : List Lf) (p : Int) : Ex × St := (.normal, ⟨[(2, .c (.p 2 0)), (3, .c (.p 3 0)), (5, .c (.p 5 0)), (6, .c (.i .i64 p)), (7, .c (.i .i64 (li L 1))), (8, .c (.i .i64 (li L 2)))], [(2, .box [.i .i64 (li L 4), .i .i64 (li L 5), .i .i64 (li L 6), .sl 66 (lb L 7) (ll L 8), .sl 68 (lb L 9) (ll L 10)]), (3, .box (rL L 11 5 ([.s (ls L 16)]))), (5, .box (rM L 17 5 ([])))]⟩)
noncomputable def A53x0x20 (N : Nat) (L : List Lf) : List (Bool × (Ex × St)) := bnd (F53x0x20 N (li L 0) (lb L 3) (li L 5) (fun p => p)) fun q => [(true, K53x0x20w0 L q)]
theorem raw53x0x20 (N : Nat) (L : List Lf) : (exec Try.prog (T83x0 N) (h53x0s0 N) 0 100 (piece Try.prog 53 20) (ofSh sh53x0x20 L) (fun e st => some (e, cutSt [3, 5, 6, 2, 7, 8] [5, 3, 2] st)) : Option (Ex × St)) = F53x0x20 N (li L 0) (lb L 3) (li L 5) (fun p => some (K53x0x20w0 L p)) := by kernel_rfl
theorem one53x0x20 : oneB Try.prog 53 20 = true := by kernel_rfl
theorem law53x0x20 (N : Nat) : CutLaw Try.prog 0 (piece Try.prog 53 20) (loSh sh53x0x20 (A53x0x20 N)) :=
  law_sh progOk (T83x0_ok N) (al53x0s0 N) one53x0x20 fun L x hx => (raw53x0x20 N L).trans ((tot53x0x20 N ..).trans (alt0 _ _ hx))
noncomputable def h53x0s1 (N : Nat) : Hint := { (h53x0s0 N) with los := (20, loSh sh53x0x20 (A53x0x20 N)) :: (h53x0s0 N).los }
theorem al53x0s1 (N : Nat) : AllCuts Try.prog (h53x0s1 N).los 0 53 := AllCuts.cons (al53x0s0 N) one53x0x20 (law53x0x20 N)
noncomputable def F53x0x26 (N : Nat) {R : Type} (w1 w2 : Int) (w3 : Bool) (k0 : Int × Int → R) : R :=
  bif w3 then
    k0 (1, 14)
  else
    k0 (w1, w2)
noncomputable def V53x0x26 (N : Nat) (w1 w2 : Int) (w3 : Bool) : Int × Int := F53x0x26 N w1 w2 w3 (fun p => p)
theorem tot53x0x26 (N : Nat) {R : Type} (w1 w2 : Int) (w3 : Bool) (k0 : Int × Int → R) : F53x0x26 N w1 w2 w3 k0 = k0 (V53x0x26 N w1 w2 w3) := by
  unfold V53x0x26 F53x0x26
  repeat' (first | rfl | apply cond_k | (apply bnd_k; intro _))
noncomputable def sh53x0x26 : Sh := { tmps := [(2, .c (.p 2 0)), (3, .c (.p 3 0)), (5, .c (.p 5 0)), (6, .c (.i .i64)), (7, .c (.i .i64)), (8, .c (.i .i64)), (30, .c (.b))], mem := [(2, .box ([.i .i64, .i .i64, .i .i64, .sl 66, .sl 68])), (3, .box (rI 5 ([.s]))), (5, .box (rB 5 ([])))] }
noncomputable def K53x0x26w0 (L : List Lf) (p : Int × Int) : Ex × St := (.normal, ⟨[(2, .c (.p 2 0)), (3, .c (.p 3 0)), (5, .c (.p 5 0)), (6, .c (.i .i64 (li L 0))), (7, .c (.i .i64 p.1)), (8, .c (.i .i64 p.2))], [(2, .box [.i .i64 (li L 4), .i .i64 (li L 5), .i .i64 (li L 6), .sl 66 (lb L 7) (ll L 8), .sl 68 (lb L 9) (ll L 10)]), (3, .box (rL L 11 5 ([.s (ls L 16)]))), (5, .box (rM L 17 5 ([])))]⟩)
noncomputable def A53x0x26 (N : Nat) (L : List Lf) : List (Bool × (Ex × St)) := bnd (F53x0x26 N (li L 1) (li L 2) (lb L 3) (fun p => p)) fun q => [(true, K53x0x26w0 L q)]
theorem raw53x0x26 (N : Nat) (L : List Lf) : (exec Try.prog (T83x0 N) (h53x0s1 N) 0 100 (piece Try.prog 53 26) (ofSh sh53x0x26 L) (fun e st => some (e, cutSt [3, 5, 6, 2, 7, 8] [5, 3, 2] st)) : Option (Ex × St)) = F53x0x26 N (li L 1) (li L 2) (lb L 3) (fun p => some (K53x0x26w0 L p)) := by kernel_rfl
theorem one53x0x26 : oneB Try.prog 53 26 = true := by kernel_rfl
theorem law53x0x26 (N : Nat) : CutLaw Try.prog 0 (piece Try.prog 53 26) (loSh sh53x0x26 (A53x0x26 N)) :=
  law_sh progOk (T83x0_ok N) (al53x0s1 N) one53x0x26 fun L x hx => (raw53x0x26 N L).trans ((tot53x0x26 N ..).trans (alt0 _ _ hx))
noncomputable def h53x0s2 (N : Nat) : Hint := { (h53x0s1 N) with los := (26, loSh sh53x0x26 (A53x0x26 N)) :: (h53x0s1 N).los }
theorem al53x0s2 (N : Nat) : AllCuts Try.prog (h53x0s2 N).los 0 53 := AllCuts.cons (al53x0s1 N) one53x0x26 (law53x0x26 N)
noncomputable def F53x0x31 (N : Nat) {R : Type} (w0 w12 : Int) (w17 : Bool) (k0 : Bool → R) : R :=
  bif w17 then
    bnd (V48x0 N w12 0 w0) fun y0 =>
    k0 (!y0)
  else
    k0 false
noncomputable def V53x0x31 (N : Nat) (w0 w12 : Int) (w17 : Bool) : Bool := F53x0x31 N w0 w12 w17 (fun p => p)
theorem tot53x0x31 (N : Nat) {R : Type} (w0 w12 : Int) (w17 : Bool) (k0 : Bool → R) : F53x0x31 N w0 w12 w17 k0 = k0 (V53x0x31 N w0 w12 w17) := by
  unfold V53x0x31 F53x0x31
  repeat' (first | rfl | apply cond_k | (apply bnd_k; intro _))
noncomputable def sh53x0x31 : Sh := { tmps := [(2, .c (.p 2 0)), (3, .c (.p 3 0)), (5, .c (.p 5 0)), (6, .c (.i .i64)), (7, .c (.i .i64)), (8, .c (.i .i64)), (9, .c (.b))], mem := [(2, .box ([.i .i64, .i .i64, .i .i64, .sl 66, .sl 68])), (3, .box (rI 5 ([.s]))), (5, .box (rB 5 ([])))] }
noncomputable def K53x0x31w0 (L : List Lf) (p : Bool) : Ex × St := (.normal, ⟨[(2, .c (.p 2 0)), (3, .c (.p 3 0)), (5, .c (.p 5 0)), (7, .c (.i .i64 (li L 1))), (8, .c (.i .i64 (li L 2))), (9, .c (.b (lb L 3))), (46, .c (.b p))], [(2, .box [.i .i64 (li L 4), .i .i64 (li L 5), .i .i64 (li L 6), .sl 66 (lb L 7) (ll L 8), .sl 68 (lb L 9) (ll L 10)]), (3, .box (rL L 11 5 ([.s (ls L 16)]))), (5, .box (rM L 17 5 ([])))]⟩)
noncomputable def A53x0x31 (N : Nat) (L : List Lf) : List (Bool × (Ex × St)) := bnd (F53x0x31 N (li L 0) (li L 12) (lb L 17) (fun p => p)) fun q => [(true, K53x0x31w0 L q)]
theorem raw53x0x31 (N : Nat) (L : List Lf) : (exec Try.prog (T83x0 N) (h53x0s2 N) 0 100 (piece Try.prog 53 31) (ofSh sh53x0x31 L) (fun e st => some (e, cutSt [3, 9, 5, 2, 46, 7, 8] [5, 3, 2] st)) : Option (Ex × St)) = F53x0x31 N (li L 0) (li L 12) (lb L 17) (fun p => some (K53x0x31w0 L p)) := by kernel_rfl
theorem one53x0x31 : oneB Try.prog 53 31 = true := by kernel_rfl
theorem law53x0x31 (N : Nat) : CutLaw Try.prog 0 (piece Try.prog 53 31) (loSh sh53x0x31 (A53x0x31 N)) :=
  law_sh progOk (T83x0_ok N) (al53x0s2 N) one53x0x31 fun L x hx => (raw53x0x31 N L).trans ((tot53x0x31 N ..).trans (alt0 _ _ hx))
noncomputable def h53x0s3 (N : Nat) : Hint := { (h53x0s2 N) with los := (31, loSh sh53x0x31 (A53x0x31 N)) :: (h53x0s2 N).los }
theorem al53x0s3 (N : Nat) : AllCuts Try.prog (h53x0s3 N).los 0 53 := AllCuts.cons (al53x0s2 N) one53x0x31 (law53x0x31 N)
noncomputable def F53x0x34 (N : Nat) {R : Type} (w0 w1 w12 : Int) (w17 : Bool) (k0 : Bool → R) : R :=
  bif w17 then
    bnd (V48x0 N w12 w0 w1) fun y0 =>
    k0 (!y0)
  else
    k0 false
noncomputable def V53x0x34 (N : Nat) (w0 w1 w12 : Int) (w17 : Bool) : Bool := F53x0x34 N w0 w1 w12 w17 (fun p => p)
theorem tot53x0x34 (N : Nat) {R : Type} (w0 w1 w12 : Int) (w17 : Bool) (k0 : Bool → R) : F53x0x34 N w0 w1 w12 w17 k0 = k0 (V53x0x34 N w0 w1 w12 w17) := by
  unfold V53x0x34 F53x0x34
  repeat' (first | rfl | apply cond_k | (apply bnd_k; intro _))
noncomputable def J53x0x34 (N : Nat) (L : List Lf) {R : Type} (k0 : Bool → R) : R := F53x0x34 N (li L 0) (li L 1) (li L 12) (lb L 17) k0
noncomputable def sh53x0x34 : Sh := { tmps := [(2, .c (.p 2 0)), (3, .c (.p 3 0)), (5, .c (.p 5 0)), (7, .c (.i .i64)), (8, .c (.i .i64)), (9, .c (.b))], mem := [(2, .box ([.i .i64, .i .i64, .i .i64, .sl 66, .sl 68])), (3, .box (rI 5 ([.s]))), (5, .box (rB 5 ([])))] }
noncomputable def K53x0x34w0 (L : List Lf) (p : Bool) : Ex × St := (.normal, ⟨[(2, .c (.p 2 0)), (3, .c (.p 3 0)), (5, .c (.p 5 0)), (9, .c (.b (lb L 2))), (46, .c (.b p))], [(2, .box [.i .i64 (li L 3), .i .i64 (li L 4), .i .i64 (li L 5), .sl 66 (lb L 6) (ll L 7), .sl 68 (lb L 8) (ll L 9)]), (3, .box (rL L 10 5 ([.s (ls L 15)]))), (5, .box (rM L 16 5 ([])))]⟩)
noncomputable def A53x0x34 (N : Nat) (L : List Lf) : List (Bool × (Ex × St)) := bnd (J53x0x34 N L (fun p => p)) fun q => [(true, K53x0x34w0 L q)]
theorem raw53x0x34 (N : Nat) (L : List Lf) : (exec Try.prog (T83x0 N) (h53x0s3 N) 0 100 (piece Try.prog 53 34) (ofSh sh53x0x34 L) (fun e st => some (e, cutSt [3, 9, 5, 2, 46] [5, 3, 2] st)) : Option (Ex × St)) = J53x0x34 N L (fun p => some (K53x0x34w0 L p)) := by kernel_rfl
theorem one53x0x34 : oneB Try.prog 53 34 = true := by kernel_rfl
theorem law53x0x34 (N : Nat) : CutLaw Try.prog 0 (piece Try.prog 53 34) (loSh sh53x0x34 (A53x0x34 N)) :=
  law_sh progOk (T83x0_ok N) (al53x0s3 N) one53x0x34 fun L x hx => (raw53x0x34 N L).trans ((tot53x0x34 N ..).trans (alt0 _ _ hx))
noncomputable def h53x0s4 (N : Nat) : Hint := { (h53x0s3 N) with los := (34, loSh sh53x0x34 (A53x0x34 N)) :: (h53x0s3 N).los }
theorem al53x0s4 (N : Nat) : AllCuts Try.prog (h53x0s4 N).los 0 53 := AllCuts.cons (al53x0s3 N) one53x0x34 (law53x0x34 N)
noncomputable def F53x0x33002 (N : Nat) {R : Type} (w0 w1 : Int) (w3 : Bool) (w13 : Int) (w18 : Bool) (k0 : Bool → R) : R :=
  bif w3 then
    k0 true
  else
    bnd (V53x0x34 N w0 w1 w13 w18) fun y0 =>
    k0 y0
noncomputable def V53x0x33002 (N : Nat) (w0 w1 : Int) (w3 : Bool) (w13 : Int) (w18 : Bool) : Bool := F53x0x33002 N w0 w1 w3 w13 w18 (fun p => p)
theorem tot53x0x33002 (N : Nat) {R : Type} (w0 w1 : Int) (w3 : Bool) (w13 : Int) (w18 : Bool) (k0 : Bool → R) : F53x0x33002 N w0 w1 w3 w13 w18 k0 = k0 (V53x0x33002 N w0 w1 w3 w13 w18) := by
  unfold V53x0x33002 F53x0x33002
  repeat' (first | rfl | apply cond_k | (apply bnd_k; intro _))
noncomputable def J53x0x33002 (N : Nat) (L : List Lf) {R : Type} (k0 : Bool → R) : R := F53x0x33002 N (li L 0) (li L 1) (lb L 3) (li L 13) (lb L 18) k0
noncomputable def sh53x0x33002 : Sh := { tmps := [(2, .c (.p 2 0)), (3, .c (.p 3 0)), (5, .c (.p 5 0)), (7, .c (.i .i64)), (8, .c (.i .i64)), (9, .c (.b)), (46, .c (.b))], mem := [(2, .box ([.i .i64, .i .i64, .i .i64, .sl 66, .sl 68])), (3, .box (rI 5 ([.s]))), (5, .box (rB 5 ([])))] }
noncomputable def K53x0x33002w0 (L : List Lf) (p : Bool) : Ex × St := (.normal, ⟨[(2, .c (.p 2 0)), (3, .c (.p 3 0)), (5, .c (.p 5 0)), (9, .c (.b (lb L 2))), (46, .c (.b p))], [(2, .box [.i .i64 (li L 4), .i .i64 (li L 5), .i .i64 (li L 6), .sl 66 (lb L 7) (ll L 8), .sl 68 (lb L 9) (ll L 10)]), (3, .box (rL L 11 5 ([.s (ls L 16)]))), (5, .box (rM L 17 5 ([])))]⟩)
noncomputable def A53x0x33002 (N : Nat) (L : List Lf) : List (Bool × (Ex × St)) := bnd (J53x0x33002 N L (fun p => p)) fun q => [(true, K53x0x33002w0 L q)]
theorem raw53x0x33002 (N : Nat) (L : List Lf) : (exec Try.prog (T83x0 N) (h53x0s4 N) 0 100 (piece Try.prog 53 33002) (ofSh sh53x0x33002 L) (fun e st => some (e, cutSt [3, 9, 5, 2, 46] [5, 3, 2] st)) : Option (Ex × St)) = J53x0x33002 N L (fun p => some (K53x0x33002w0 L p)) := by kernel_rfl
theorem one53x0x33002 : oneB Try.prog 53 33002 = true := by kernel_rfl
theorem law53x0x33002 (N : Nat) : CutLaw Try.prog 0 (piece Try.prog 53 33002) (loSh sh53x0x33002 (A53x0x33002 N)) :=
  law_sh progOk (T83x0_ok N) (al53x0s4 N) one53x0x33002 fun L x hx => (raw53x0x33002 N L).trans ((tot53x0x33002 N ..).trans (alt0 _ _ hx))
noncomputable def h53x0s5 (N : Nat) : Hint := { (h53x0s4 N) with los := (33002, loSh sh53x0x33002 (A53x0x33002 N)) :: (h53x0s4 N).los }
theorem al53x0s5 (N : Nat) : AllCuts Try.prog (h53x0s5 N).los 0 53 := AllCuts.cons (al53x0s4 N) one53x0x33002 (law53x0x33002 N)
noncomputable def F53x0x43 (N : Nat) {R : Type} (w7 w10 : Int) (k0 : Bool → R) : R :=
  bif (w7 == 9) then
    bnd (V48x0 N w10 1 14) fun y0 =>
    k0 (!y0)
  else
    k0 false
noncomputable def V53x0x43 (N : Nat) (w7 w10 : Int) : Bool := F53x0x43 N w7 w10 (fun p => p)
theorem tot53x0x43 (N : Nat) {R : Type} (w7 w10 : Int) (k0 : Bool → R) : F53x0x43 N w7 w10 k0 = k0 (V53x0x43 N w7 w10) := by
  unfold V53x0x43 F53x0x43
  repeat' (first | rfl | apply cond_k | (apply bnd_k; intro _))
noncomputable def sh53x0x43 : Sh := { tmps := [(2, .c (.p 2 0)), (3, .c (.p 3 0)), (5, .c (.p 5 0))], mem := [(2, .box ([.i .i64, .i .i64, .i .i64, .sl 66, .sl 68])), (3, .box (rI 5 ([.s]))), (5, .box (rB 5 ([])))] }
noncomputable def K53x0x43w0 (L : List Lf) (p : Bool) : Ex × St := (.normal, ⟨[(2, .c (.p 2 0)), (3, .c (.p 3 0)), (5, .c (.p 5 0)), (66, .c (.b p))], [(2, .box [.i .i64 (li L 0), .i .i64 (li L 1), .i .i64 (li L 2), .sl 66 (lb L 3) (ll L 4), .sl 68 (lb L 5) (ll L 6)]), (3, .box (rL L 7 5 ([.s (ls L 12)]))), (5, .box (rM L 13 5 ([])))]⟩)
noncomputable def A53x0x43 (N : Nat) (L : List Lf) : List (Bool × (Ex × St)) := bnd (F53x0x43 N (li L 7) (li L 10) (fun p => p)) fun q => [(true, K53x0x43w0 L q)]
theorem raw53x0x43 (N : Nat) (L : List Lf) : (exec Try.prog (T83x0 N) (h53x0s5 N) 0 100 (piece Try.prog 53 43) (ofSh sh53x0x43 L) (fun e st => some (e, cutSt [5, 2, 3, 66] [5, 3, 2] st)) : Option (Ex × St)) = F53x0x43 N (li L 7) (li L 10) (fun p => some (K53x0x43w0 L p)) := by kernel_rfl
theorem one53x0x43 : oneB Try.prog 53 43 = true := by kernel_rfl
theorem law53x0x43 (N : Nat) : CutLaw Try.prog 0 (piece Try.prog 53 43) (loSh sh53x0x43 (A53x0x43 N)) :=
  law_sh progOk (T83x0_ok N) (al53x0s5 N) one53x0x43 fun L x hx => (raw53x0x43 N L).trans ((tot53x0x43 N ..).trans (alt0 _ _ hx))
noncomputable def h53x0s6 (N : Nat) : Hint := { (h53x0s5 N) with los := (43, loSh sh53x0x43 (A53x0x43 N)) :: (h53x0s5 N).los }
theorem al53x0s6 (N : Nat) : AllCuts Try.prog (h53x0s6 N).los 0 53 := AllCuts.cons (al53x0s5 N) one53x0x43 (law53x0x43 N)
noncomputable def F53x0x42002 (N : Nat) {R : Type} (w0 : Bool) (w8 w11 : Int) (k0 : Bool → R) : R :=
  bif w0 then
    k0 true
  else
    bnd (V53x0x43 N w8 w11) fun y0 =>
    k0 y0
noncomputable def V53x0x42002 (N : Nat) (w0 : Bool) (w8 w11 : Int) : Bool := F53x0x42002 N w0 w8 w11 (fun p => p)
theorem tot53x0x42002 (N : Nat) {R : Type} (w0 : Bool) (w8 w11 : Int) (k0 : Bool → R) : F53x0x42002 N w0 w8 w11 k0 = k0 (V53x0x42002 N w0 w8 w11) := by
  unfold V53x0x42002 F53x0x42002
  repeat' (first | rfl | apply cond_k | (apply bnd_k; intro _))
noncomputable def sh53x0x42002 : Sh := { tmps := [(2, .c (.p 2 0)), (3, .c (.p 3 0)), (5, .c (.p 5 0)), (66, .c (.b))], mem := [(2, .box ([.i .i64, .i .i64, .i .i64, .sl 66, .sl 68])), (3, .box (rI 5 ([.s]))), (5, .box (rB 5 ([])))] }
noncomputable def K53x0x42002w0 (L : List Lf) (p : Bool) : Ex × St := (.normal, ⟨[(2, .c (.p 2 0)), (3, .c (.p 3 0)), (5, .c (.p 5 0)), (66, .c (.b p))], [(2, .box [.i .i64 (li L 1), .i .i64 (li L 2), .i .i64 (li L 3), .sl 66 (lb L 4) (ll L 5), .sl 68 (lb L 6) (ll L 7)]), (3, .box (rL L 8 5 ([.s (ls L 13)]))), (5, .box (rM L 14 5 ([])))]⟩)
noncomputable def A53x0x42002 (N : Nat) (L : List Lf) : List (Bool × (Ex × St)) := bnd (F53x0x42002 N (lb L 0) (li L 8) (li L 11) (fun p => p)) fun q => [(true, K53x0x42002w0 L q)]
theorem raw53x0x42002 (N : Nat) (L : List Lf) : (exec Try.prog (T83x0 N) (h53x0s6 N) 0 100 (piece Try.prog 53 42002) (ofSh sh53x0x42002 L) (fun e st => some (e, cutSt [5, 2, 3, 66] [5, 3, 2] st)) : Option (Ex × St)) = F53x0x42002 N (lb L 0) (li L 8) (li L 11) (fun p => some (K53x0x42002w0 L p)) := by kernel_rfl
theorem one53x0x42002 : oneB Try.prog 53 42002 = true := by kernel_rfl
theorem law53x0x42002 (N : Nat) : CutLaw Try.prog 0 (piece Try.prog 53 42002) (loSh sh53x0x42002 (A53x0x42002 N)) :=
  law_sh progOk (T83x0_ok N) (al53x0s6 N) one53x0x42002 fun L x hx => (raw53x0x42002 N L).trans ((tot53x0x42002 N ..).trans (alt0 _ _ hx))
noncomputable def h53x0s7 (N : Nat) : Hint := { (h53x0s6 N) with los := (42002, loSh sh53x0x42002 (A53x0x42002 N)) :: (h53x0s6 N).los }
theorem al53x0s7 (N : Nat) : AllCuts Try.prog (h53x0s7 N).los 0 53 := AllCuts.cons (al53x0s6 N) one53x0x42002 (law53x0x42002 N)
noncomputable def F53x0x49 (N : Nat) {R : Type} (w4 : LD) (w7 : Int) (w12 : LB) (w17 : Bool) (k0 : Bool → Option R) : Option R :=
  bif w17 then
    bnd (G52x0 N w4 w12) fun y0 =>
    bif y0.isSome then
      bnd (bif (decide ((y0.getD default) < 0)) then (bif (w7 == 6) then true else (!(w12 == ([] : List UInt8)))) else false) fun y1 =>
      k0 y1
    else
      none
  else
    k0 false
noncomputable def G53x0x49 (N : Nat) (w4 : LD) (w7 : Int) (w12 : LB) (w17 : Bool) : Option (Bool) := F53x0x49 N w4 w7 w12 w17 (fun p => some p)
theorem bind53x0x49 (N : Nat) {R : Type} (w4 : LD) (w7 : Int) (w12 : LB) (w17 : Bool) (k0 : Bool → Option R) : F53x0x49 N w4 w7 w12 w17 k0 = (G53x0x49 N w4 w7 w12 w17).bind k0 := by
  unfold G53x0x49 F53x0x49
  repeat' (first | rfl | apply cond_b | (apply bnd_b; intro _))
noncomputable def J53x0x49 (N : Nat) (L : List Lf) {R : Type} (k0 : Bool → Option R) : Option R := F53x0x49 N (ll L 4) (li L 7) (ls L 12) (lb L 17) k0
noncomputable def sh53x0x49 : Sh := { tmps := [(2, .c (.p 2 0)), (3, .c (.p 3 0)), (5, .c (.p 5 0))], mem := [(2, .box ([.i .i64, .i .i64, .i .i64, .sl 66, .sl 68])), (3, .box (rI 5 ([.s]))), (5, .box (rB 5 ([])))] }
noncomputable def K53x0x49w0 (L : List Lf) (p : Bool) : Ex × St := (.normal, ⟨[(3, .c (.p 3 0)), (5, .c (.p 5 0)), (83, .c (.b p))], [(3, .box (rL L 7 5 ([.s (ls L 12)]))), (5, .box (rM L 13 5 ([])))]⟩)
noncomputable def A53x0x49 (N : Nat) (L : List Lf) : List (Bool × (Ex × St)) := bnd (J53x0x49 N L (fun p => some p)) fun q => [(q.isSome, K53x0x49w0 L (q.getD default))]
theorem raw53x0x49 (N : Nat) (L : List Lf) : (exec Try.prog (T83x0 N) (h53x0s7 N) 0 100 (piece Try.prog 53 49) (ofSh sh53x0x49 L) (fun e st => some (e, cutSt [5, 3, 83] [5, 3] st)) : Option (Ex × St)) = J53x0x49 N L (fun p => some (K53x0x49w0 L p)) := by kernel_rfl
theorem one53x0x49 : oneB Try.prog 53 49 = true := by kernel_rfl
theorem law53x0x49 (N : Nat) : CutLaw Try.prog 0 (piece Try.prog 53 49) (loSh sh53x0x49 (A53x0x49 N)) :=
  law_sh progOk (T83x0_ok N) (al53x0s7 N) one53x0x49 fun L x hx => (raw53x0x49 N L).trans ((bind53x0x49 N ..).trans (alt1 x hx))
noncomputable def h53x0s8 (N : Nat) : Hint := { (h53x0s7 N) with los := (49, loSh sh53x0x49 (A53x0x49 N)) :: (h53x0s7 N).los }
theorem al53x0s8 (N : Nat) : AllCuts Try.prog (h53x0s8 N).los 0 53 := AllCuts.cons (al53x0s7 N) one53x0x49 (law53x0x49 N)
noncomputable def F53x0x66002 (N : Nat) {R : Type} (w0 : Bool) (w6 : LB) (w11 : Bool) (k0 : Bool → R) : R :=
  bif w0 then
    k0 true
  else
    k0 (bif (!w11) then (!(w6 == ([] : List UInt8))) else false)
noncomputable def V53x0x66002 (N : Nat) (w0 : Bool) (w6 : LB) (w11 : Bool) : Bool := F53x0x66002 N w0 w6 w11 (fun p => p)
theorem tot53x0x66002 (N : Nat) {R : Type} (w0 : Bool) (w6 : LB) (w11 : Bool) (k0 : Bool → R) : F53x0x66002 N w0 w6 w11 k0 = k0 (V53x0x66002 N w0 w6 w11) := by
  unfold V53x0x66002 F53x0x66002
  repeat' (first | rfl | apply cond_k | (apply bnd_k; intro _))
noncomputable def sh53x0x66002 : Sh := { tmps := [(3, .c (.p 3 0)), (5, .c (.p 5 0)), (103, .c (.b))], mem := [(3, .box (rI 5 ([.s]))), (5, .box (rB 5 ([])))] }
noncomputable def A53x0x66002 (N : Nat) (L : List Lf) : List (Bool × (Ex × St)) := bnd (F53x0x66002 N (lb L 0) (ls L 6) (lb L 11) (fun p => p)) fun q => [(true, (.normal, ⟨[(103, .c (.b q))], []⟩))]
theorem raw53x0x66002 (N : Nat) (L : List Lf) : (exec Try.prog (T83x0 N) (h53x0s8 N) 0 100 (piece Try.prog 53 66002) (ofSh sh53x0x66002 L) (fun e st => some (e, cutSt [103] [] st)) : Option (Ex × St)) = F53x0x66002 N (lb L 0) (ls L 6) (lb L 11) (fun p => some (.normal, ⟨[(103, .c (.b p))], []⟩)) := by kernel_rfl
theorem one53x0x66002 : oneB Try.prog 53 66002 = true := by kernel_rfl
theorem law53x0x66002 (N : Nat) : CutLaw Try.prog 0 (piece Try.prog 53 66002) (loSh sh53x0x66002 (A53x0x66002 N)) :=
  law_sh progOk (T83x0_ok N) (al53x0s8 N) one53x0x66002 fun L x hx => (raw53x0x66002 N L).trans ((tot53x0x66002 N ..).trans (alt0 _ _ hx))
noncomputable def h53x0s9 (N : Nat) : Hint := { (h53x0s8 N) with los := (66002, loSh sh53x0x66002 (A53x0x66002 N)) :: (h53x0s8 N).los }
theorem al53x0s9 (N : Nat) : AllCuts Try.prog (h53x0s9 N).los 0 53 := AllCuts.cons (al53x0s8 N) one53x0x66002 (law53x0x66002 N)
noncomputable def F53x0x63002 (N : Nat) {R : Type} (w0 : Bool) (w5 : Int) (w6 : LB) (w10 w11 : Bool) (k0 : Bool → R) : R :=
  bif w0 then
    k0 true
  else
    bnd (V53x0x66002 N (bif (!w10) then (w5 != 0) else false) w6 w11) fun y0 =>
    k0 y0
noncomputable def V53x0x63002 (N : Nat) (w0 : Bool) (w5 : Int) (w6 : LB) (w10 w11 : Bool) : Bool := F53x0x63002 N w0 w5 w6 w10 w11 (fun p => p)
theorem tot53x0x63002 (N : Nat) {R : Type} (w0 : Bool) (w5 : Int) (w6 : LB) (w10 w11 : Bool) (k0 : Bool → R) : F53x0x63002 N w0 w5 w6 w10 w11 k0 = k0 (V53x0x63002 N w0 w5 w6 w10 w11) := by
  unfold V53x0x63002 F53x0x63002
  repeat' (first | rfl | apply cond_k | (apply bnd_k; intro _))
noncomputable def J53x0x63002 (N : Nat) (L : List Lf) {R : Type} (k0 : Bool → R) : R := F53x0x63002 N (lb L 0) (li L 5) (ls L 6) (lb L 10) (lb L 11) k0
noncomputable def sh53x0x63002 : Sh := { tmps := [(3, .c (.p 3 0)), (5, .c (.p 5 0)), (103, .c (.b))], mem := [(3, .box (rI 5 ([.s]))), (5, .box (rB 5 ([])))] }
noncomputable def A53x0x63002 (N : Nat) (L : List Lf) : List (Bool × (Ex × St)) := bnd (J53x0x63002 N L (fun p => p)) fun q => [(true, (.normal, ⟨[(103, .c (.b q))], []⟩))]
theorem raw53x0x63002 (N : Nat) (L : List Lf) : (exec Try.prog (T83x0 N) (h53x0s9 N) 0 100 (piece Try.prog 53 63002) (ofSh sh53x0x63002 L) (fun e st => some (e, cutSt [103] [] st)) : Option (Ex × St)) = J53x0x63002 N L (fun p => some (.normal, ⟨[(103, .c (.b p))], []⟩)) := by kernel_rfl
theorem one53x0x63002 : oneB Try.prog 53 63002 = true := by kernel_rfl
theorem law53x0x63002 (N : Nat) : CutLaw Try.prog 0 (piece Try.prog 53 63002) (loSh sh53x0x63002 (A53x0x63002 N)) :=
  law_sh progOk (T83x0_ok N) (al53x0s9 N) one53x0x63002 fun L x hx => (raw53x0x63002 N L).trans ((tot53x0x63002 N ..).trans (alt0 _ _ hx))
noncomputable def h53x0s10 (N : Nat) : Hint := { (h53x0s9 N) with los := (63002, loSh sh53x0x63002 (A53x0x63002 N)) :: (h53x0s9 N).los }
theorem al53x0s10 (N : Nat) : AllCuts Try.prog (h53x0s10 N).los 0 53 := AllCuts.cons (al53x0s9 N) one53x0x63002 (law53x0x63002 N)
noncomputable def F53x0x60002 (N : Nat) {R : Type} (w0 : Bool) (w4 w5 : Int) (w6 : LB) (w9 w10 w11 : Bool) (k0 : Bool → R) : R :=
  bif w0 then
    k0 true
  else
    bnd (V53x0x63002 N (bif (!w9) then (w4 != 0) else false) w5 w6 w10 w11) fun y0 =>
    k0 y0
noncomputable def V53x0x60002 (N : Nat) (w0 : Bool) (w4 w5 : Int) (w6 : LB) (w9 w10 w11 : Bool) : Bool := F53x0x60002 N w0 w4 w5 w6 w9 w10 w11 (fun p => p)
theorem tot53x0x60002 (N : Nat) {R : Type} (w0 : Bool) (w4 w5 : Int) (w6 : LB) (w9 w10 w11 : Bool) (k0 : Bool → R) : F53x0x60002 N w0 w4 w5 w6 w9 w10 w11 k0 = k0 (V53x0x60002 N w0 w4 w5 w6 w9 w10 w11) := by
  unfold V53x0x60002 F53x0x60002
  repeat' (first | rfl | apply cond_k | (apply bnd_k; intro _))
noncomputable def J53x0x60002 (N : Nat) (L : List Lf) {R : Type} (k0 : Bool → R) : R := F53x0x60002 N (lb L 0) (li L 4) (li L 5) (ls L 6) (lb L 9) (lb L 10) (lb L 11) k0
noncomputable def sh53x0x60002 : Sh := { tmps := [(3, .c (.p 3 0)), (5, .c (.p 5 0)), (103, .c (.b))], mem := [(3, .box (rI 5 ([.s]))), (5, .box (rB 5 ([])))] }
noncomputable def A53x0x60002 (N : Nat) (L : List Lf) : List (Bool × (Ex × St)) := bnd (J53x0x60002 N L (fun p => p)) fun q => [(true, (.normal, ⟨[(103, .c (.b q))], []⟩))]
theorem raw53x0x60002 (N : Nat) (L : List Lf) : (exec Try.prog (T83x0 N) (h53x0s10 N) 0 100 (piece Try.prog 53 60002) (ofSh sh53x0x60002 L) (fun e st => some (e, cutSt [103] [] st)) : Option (Ex × St)) = J53x0x60002 N L (fun p => some (.normal, ⟨[(103, .c (.b p))], []⟩)) := by kernel_rfl
theorem one53x0x60002 : oneB Try.prog 53 60002 = true := by kernel_rfl
theorem law53x0x60002 (N : Nat) : CutLaw Try.prog 0 (piece Try.prog 53 60002) (loSh sh53x0x60002 (A53x0x60002 N)) :=
  law_sh progOk (T83x0_ok N) (al53x0s10 N) one53x0x60002 fun L x hx => (raw53x0x60002 N L).trans ((tot53x0x60002 N ..).trans (alt0 _ _ hx))
noncomputable def h53x0s11 (N : Nat) : Hint := { (h53x0s10 N) with los := (60002, loSh sh53x0x60002 (A53x0x60002 N)) :: (h53x0s10 N).los }
theorem al53x0s11 (N : Nat) : AllCuts Try.prog (h53x0s11 N).los 0 53 := AllCuts.cons (al53x0s10 N) one53x0x60002 (law53x0x60002 N)
noncomputable def F53x0x57002 (N : Nat) {R : Type} (w0 : Bool) (w3 w4 w5 : Int) (w6 : LB) (w8 w9 w10 w11 : Bool) (k0 : Bool → R) : R :=
  bif w0 then
    k0 true
  else
    bnd (V53x0x60002 N (bif (!w8) then (w3 != 0) else false) w4 w5 w6 w9 w10 w11) fun y0 =>
    k0 y0
noncomputable def V53x0x57002 (N : Nat) (w0 : Bool) (w3 w4 w5 : Int) (w6 : LB) (w8 w9 w10 w11 : Bool) : Bool := F53x0x57002 N w0 w3 w4 w5 w6 w8 w9 w10 w11 (fun p => p)
theorem tot53x0x57002 (N : Nat) {R : Type} (w0 : Bool) (w3 w4 w5 : Int) (w6 : LB) (w8 w9 w10 w11 : Bool) (k0 : Bool → R) : F53x0x57002 N w0 w3 w4 w5 w6 w8 w9 w10 w11 k0 = k0 (V53x0x57002 N w0 w3 w4 w5 w6 w8 w9 w10 w11) := by
  unfold V53x0x57002 F53x0x57002
  repeat' (first | rfl | apply cond_k | (apply bnd_k; intro _))
noncomputable def J53x0x57002 (N : Nat) (L : List Lf) {R : Type} (k0 : Bool → R) : R := F53x0x57002 N (lb L 0) (li L 3) (li L 4) (li L 5) (ls L 6) (lb L 8) (lb L 9) (lb L 10) (lb L 11) k0
noncomputable def sh53x0x57002 : Sh := { tmps := [(3, .c (.p 3 0)), (5, .c (.p 5 0)), (103, .c (.b))], mem := [(3, .box (rI 5 ([.s]))), (5, .box (rB 5 ([])))] }
noncomputable def A53x0x57002 (N : Nat) (L : List Lf) : List (Bool × (Ex × St)) := bnd (J53x0x57002 N L (fun p => p)) fun q => [(true, (.normal, ⟨[(103, .c (.b q))], []⟩))]
theorem raw53x0x57002 (N : Nat) (L : List Lf) : (exec Try.prog (T83x0 N) (h53x0s11 N) 0 100 (piece Try.prog 53 57002) (ofSh sh53x0x57002 L) (fun e st => some (e, cutSt [103] [] st)) : Option (Ex × St)) = J53x0x57002 N L (fun p => some (.normal, ⟨[(103, .c (.b p))], []⟩)) := by kernel_rfl
theorem one53x0x57002 : oneB Try.prog 53 57002 = true := by kernel_rfl
theorem law53x0x57002 (N : Nat) : CutLaw Try.prog 0 (piece Try.prog 53 57002) (loSh sh53x0x57002 (A53x0x57002 N)) :=
  law_sh progOk (T83x0_ok N) (al53x0s11 N) one53x0x57002 fun L x hx => (raw53x0x57002 N L).trans ((tot53x0x57002 N ..).trans (alt0 _ _ hx))
noncomputable def h53x0s12 (N : Nat) : Hint := { (h53x0s11 N) with los := (57002, loSh sh53x0x57002 (A53x0x57002 N)) :: (h53x0s11 N).los }
theorem al53x0s12 (N : Nat) : AllCuts Try.prog (h53x0s12 N).los 0 53 := AllCuts.cons (al53x0s11 N) one53x0x57002 (law53x0x57002 N)
noncomputable def F53x0 (N : Nat) {R : Type} (v1 : Int) (v4 : LD) (v7 v8 v9 v10 v11 : Int) (v12 : LB) (k0 : Int → Option R) : Option R :=
  bnd (V48x0 N v7 1 9) fun y0 =>
  bif (!y0) then
    k0 7
  else
    bnd (V83x0 N v7) fun y1 =>
    bnd (V53x0x20 N 6 (bif (v7 == 8) then true else (v7 == 9)) v1) fun y2 =>
    bnd (V53x0x26 N 0 100000 (v7 == 5)) fun y3 =>
    bnd (bif (decide (v10 ≥ 0)) then (decide (v10 ≤ v11)) else false) fun y4 =>
    bnd (V53x0x31 N y2 v8 y1.1) fun y5 =>
    bnd (V53x0x33002 N y3.1 y3.2 y5 v9 y1.2.1) fun y6 =>
    bif y6 then
      k0 9
    else
      bnd (bif (v7 == 6) then (!(bif y4 then (decide (v11 ≤ 7)) else false)) else false) fun y7 =>
      bnd (V53x0x42002 N y7 v7 v10) fun y8 =>
      bif y8 then
        k0 9
      else
        bnd (G53x0x49 N v4 v7 v12 y1.2.2.2.2) fun y9 =>
        bif y9.isSome then
          bif (y9.getD default) then
            k0 4
          else
            bnd (V53x0x57002 N (bif (!y1.1) then (v8 != 0) else false) v9 v10 v11 v12 y1.2.1 y1.2.2.1 y1.2.2.2.1 y1.2.2.2.2) fun y10 =>
            bif y10 then
              k0 2
            else
              k0 0
        else
          none
noncomputable def G53x0 (N : Nat) (v1 : Int) (v4 : LD) (v7 v8 v9 v10 v11 : Int) (v12 : LB) : Option (Int) := F53x0 N v1 v4 v7 v8 v9 v10 v11 v12 (fun p => some p)
theorem bind53x0 (N : Nat) {R : Type} (v1 : Int) (v4 : LD) (v7 v8 v9 v10 v11 : Int) (v12 : LB) (k0 : Int → Option R) : F53x0 N v1 v4 v7 v8 v9 v10 v11 v12 k0 = (G53x0 N v1 v4 v7 v8 v9 v10 v11 v12).bind k0 := by
  unfold G53x0 F53x0
  repeat' (first | rfl | apply cond_b | (apply bnd_b; intro _))
noncomputable def J53x0 (N : Nat) (L : List Lf) {R : Type} (k0 : Int → Option R) : Option R := F53x0 N (li L 1) (ll L 4) (li L 7) (li L 8) (li L 9) (li L 10) (li L 11) (ls L 12) k0
noncomputable def sh53x0 : Sh := { tmps := [(0, .g ([.i .i64, .i .i64, .i .i64, .sl 66, .sl 68])), (1, .g (rI 5 ([.s])))], mem := [] }
noncomputable def A53x0 (N : Nat) (L : List Lf) : List (Bool × Res) := bnd (J53x0 N L (fun p => some p)) fun q => [(q.isSome, ([.c (.i .i64 (q.getD default))], []))]
theorem raw53x0 (N : Nat) (L : List Lf) : (body Try.prog (T83x0 N) (h53x0s12 N) 200 53 (valsOf (ofSh sh53x0 L).tmps) (ofSh sh53x0 L).mem : Option Res) = J53x0 N L (fun p => some ([.c (.i .i64 p)], [])) := by kernel_rfl
theorem ok53x0 (N : Nat) : ∀ args mem alts, spSh sh53x0 (A53x0 N) args mem = some alts → ∀ res, altK alts some = some res → CallOk Try.prog 53 args mem res :=
  spSh_law fun L x hx => callOk_of (n := 200) progOk (T83x0_ok N) (al53x0s12 N) rfl ((raw53x0 N L).trans ((bind53x0 N ..).trans (alt1 x hx)))
noncomputable def T53x0 (N : Nat) : Oracle := ext 53 (spSh sh53x0 (A53x0 N)) (T83x0 N)
theorem T53x0_ok (N : Nat) : OracleOk Try.prog (T53x0 N) := ext_ok (T83x0_ok N) (enters_of (by kernel_rfl)) (ok53x0 N)
noncomputable def rg19x0 : List (Nat × List Nat) := [(0, [0]), (1, [1]), (3, [1]), (4, []), (2, []), (5, [1]), (6, [39, 38, 37, 1]), (7, [39, 37, 1, 38]), (8, [4, 1, 3, 39, 38, 37]), (10, [1, 4, 3, 39, 38, 37]), (12, [4, 39, 38, 37, 1]), (13, []), (11, []), (9, []), (14, [39, 38, 37, 1]), (15, [1]), (16, [77, 76, 75, 1]), (17, [75, 77, 1, 76]), (18, [1, 6, 77, 76, 75]), (19, [7, 77, 76, 75, 1]), (20, [7]), (21, [77, 76, 75, 1]), (22, [])]
noncomputable def hd19x0 : Hints := [(4, [1], [1], []), (18, [39, 38, 37, 1], [1], []), (37, [4, 39, 38, 37, 1], [4, 1], []), (48, [77, 76, 75, 1], [1], [])]
noncomputable def h19x0s0 (N : Nat) : Hint := { loops := hd19x0, regs := rg19x0, los := [] }
theorem al19x0s0 (N : Nat) : AllCuts Try.prog (h19x0s0 N).los 0 19 := AllCuts.nil
noncomputable def F19x0x4 (N : Nat) {R : Type} (w0 w1 w2 : Int) (k0 : Bool → R) : R :=
  bnd (V48x0 N w0 0 999985) fun y0 =>
  bif (!y0) then
    k0 true
  else
    bnd (V48x0 N w1 1 14) fun y1 =>
    bif (!y1) then
      k0 true
    else
      bnd (V48x0 N w2 0 100000) fun y2 =>
      k0 (!y2)
noncomputable def V19x0x4 (N : Nat) (w0 w1 w2 : Int) : Bool := F19x0x4 N w0 w1 w2 (fun p => p)
theorem tot19x0x4 (N : Nat) {R : Type} (w0 w1 w2 : Int) (k0 : Bool → R) : F19x0x4 N w0 w1 w2 k0 = k0 (V19x0x4 N w0 w1 w2) := by
  unfold V19x0x4 F19x0x4
  repeat' (first | rfl | apply cond_k | (apply bnd_k; intro _))
noncomputable def sh19x0x4 : Sh := { tmps := [(1, .c (.p 1 0))], mem := [(1, .box ([.i .i64, .i .i64, .i .i64, .sl 66, .sl 68]))] }
noncomputable def K19x0x4w0 (L : List Lf) (p : Bool) : Ex × St := (.normal, ⟨[(1, .c (.p 1 0)), (8, .c (.b p))], [(1, .box [.i .i64 (li L 0), .i .i64 (li L 1), .i .i64 (li L 2), .sl 66 (lb L 3) (ll L 4), .sl 68 (lb L 5) (ll L 6)])]⟩)
noncomputable def A19x0x4 (N : Nat) (L : List Lf) : List (Bool × (Ex × St)) := bnd (F19x0x4 N (li L 0) (li L 1) (li L 2) (fun p => p)) fun q => [(true, K19x0x4w0 L q)]
theorem raw19x0x4 (N : Nat) (L : List Lf) : (exec Try.prog (T53x0 N) (h19x0s0 N) 0 100 (piece Try.prog 19 4) (ofSh sh19x0x4 L) (fun e st => some (e, cutSt [1, 8] [1] st)) : Option (Ex × St)) = F19x0x4 N (li L 0) (li L 1) (li L 2) (fun p => some (K19x0x4w0 L p)) := by kernel_rfl
theorem one19x0x4 : oneB Try.prog 19 4 = true := by kernel_rfl
theorem law19x0x4 (N : Nat) : CutLaw Try.prog 0 (piece Try.prog 19 4) (loSh sh19x0x4 (A19x0x4 N)) :=
  law_sh progOk (T53x0_ok N) (al19x0s0 N) one19x0x4 fun L x hx => (raw19x0x4 N L).trans ((tot19x0x4 N ..).trans (alt0 _ _ hx))
noncomputable def h19x0s1 (N : Nat) : Hint := { (h19x0s0 N) with los := (4, loSh sh19x0x4 (A19x0x4 N)) :: (h19x0s0 N).los }
theorem al19x0s1 (N : Nat) : AllCuts Try.prog (h19x0s1 N).los 0 19 := AllCuts.cons (al19x0s0 N) one19x0x4 (law19x0x4 N)
noncomputable def F19x0x37 (N : Nat) {R : Type} (w12 w13 w14 : Int) (k0 : Bool → R) : R :=
  bnd (V48x0 N w12 0 1000) fun y0 =>
  bif (!y0) then
    k0 true
  else
    bnd (V48x0 N w13 0 1000) fun y1 =>
    bif (!y1) then
      k0 true
    else
      bnd (V48x0 N w14 0 1000) fun y2 =>
      k0 (!y2)
noncomputable def V19x0x37 (N : Nat) (w12 w13 w14 : Int) : Bool := F19x0x37 N w12 w13 w14 (fun p => p)
theorem tot19x0x37 (N : Nat) {R : Type} (w12 w13 w14 : Int) (k0 : Bool → R) : F19x0x37 N w12 w13 w14 k0 = k0 (V19x0x37 N w12 w13 w14) := by
  unfold V19x0x37 F19x0x37
  repeat' (first | rfl | apply cond_k | (apply bnd_k; intro _))
noncomputable def sh19x0x37 : Sh := { tmps := [(1, .c (.p 1 0)), (4, .c (.p 4 0)), (37, .c (.sl 66)), (38, .c (.i .i64)), (39, .c (.i .i64))], mem := [(1, .box ([.i .i64, .i .i64, .i .i64, .sl 66, .sl 68])), (4, .box ([.s, .i .i64, .i .i64, .i .i64, .b]))] }
noncomputable def K19x0x37w0 (L : List Lf) (p : Bool) : Ex × St := (.normal, ⟨[(1, .c (.p 1 0)), (37, .c (.sl 66 (lb L 0) (ll L 1))), (38, .c (.i .i64 (li L 2))), (39, .c (.i .i64 (li L 3))), (56, .c (.b p))], [(1, .box [.i .i64 (li L 4), .i .i64 (li L 5), .i .i64 (li L 6), .sl 66 (lb L 7) (ll L 8), .sl 68 (lb L 9) (ll L 10)])]⟩)
noncomputable def A19x0x37 (N : Nat) (L : List Lf) : List (Bool × (Ex × St)) := bnd (F19x0x37 N (li L 12) (li L 13) (li L 14) (fun p => p)) fun q => [(true, K19x0x37w0 L q)]
theorem raw19x0x37 (N : Nat) (L : List Lf) : (exec Try.prog (T53x0 N) (h19x0s1 N) 0 100 (piece Try.prog 19 37) (ofSh sh19x0x37 L) (fun e st => some (e, cutSt [39, 38, 37, 1, 56] [1] st)) : Option (Ex × St)) = F19x0x37 N (li L 12) (li L 13) (li L 14) (fun p => some (K19x0x37w0 L p)) := by kernel_rfl
theorem one19x0x37 : oneB Try.prog 19 37 = true := by kernel_rfl
theorem law19x0x37 (N : Nat) : CutLaw Try.prog 0 (piece Try.prog 19 37) (loSh sh19x0x37 (A19x0x37 N)) :=
  law_sh progOk (T53x0_ok N) (al19x0s1 N) one19x0x37 fun L x hx => (raw19x0x37 N L).trans ((tot19x0x37 N ..).trans (alt0 _ _ hx))
noncomputable def h19x0s2 (N : Nat) : Hint := { (h19x0s1 N) with los := (37, loSh sh19x0x37 (A19x0x37 N)) :: (h19x0s1 N).los }
theorem al19x0s2 (N : Nat) : AllCuts Try.prog (h19x0s2 N).los 0 19 := AllCuts.cons (al19x0s1 N) one19x0x37 (law19x0x37 N)
noncomputable def K19x0x18w0 (w4 w5 w6 : Int) (w7 : Bool) (w8 : LD) (w9 : Bool) (w10 : LD) (p : Int) : Ex × St := (.ret, ⟨[(2, .c (.i .i64 p))], [(1, .box [.i .i64 w4, .i .i64 w5, .i .i64 w6, .sl 66 w7 w8, .sl 68 w9 w10])]⟩)
noncomputable def K19x0x18w1 (w4 w5 w6 : Int) (w7 : Bool) (w8 : LD) (w9 : Bool) (w10 : LD) (_ : Unit) : Ex × St := ((.exit 1), ⟨[(1, .c (.p 1 0))], [(1, .box [.i .i64 w4, .i .i64 w5, .i .i64 w6, .sl 66 w7 w8, .sl 68 w9 w10])]⟩)
noncomputable def P19x0x18 (w0 : Bool) (w1 : LD) (w2 w3 w4 w5 w6 : Int) (w7 : Bool) (w8 : LD) (w9 : Bool) (w10 : LD) : St := ⟨[(1, .c (.p 1 0)), (37, .c (.sl 66 w0 w1)), (38, .c (.i .i64 w2)), (39, .c (.i .i64 w3))], [(1, .box [.i .i64 w4, .i .i64 w5, .i .i64 w6, .sl 66 w7 w8, .sl 68 w9 w10])]⟩
noncomputable def S19x0x18 (N : Nat) {R : Type} (w1 : LD) (w2 : Int) (w8 : LD) (w3 : Int) (kr : Int → Option R) (k0 : Int → Option R) (k1 : Unit → Option R) : Option R :=
  bif (decide (w3 < w2)) then
    bif (inB w3 w1.length) then
      bnd (G51x0 N ((w1.getD w3.toNat (.i 0)).cell 0).toS) fun y0 =>
      bif y0.isSome then
        bif (!(y0.getD default)) then
          k0 8
        else
          bnd (G52x0 N w8 ((w1.getD w3.toNat (.i 0)).cell 0).toS) fun y1 =>
          bif y1.isSome then
            bif (decide ((y1.getD default) < w3)) then
              k0 5
            else
              bnd (V19x0x37 N ((w1.getD w3.toNat (.i 0)).cell 1).toI ((w1.getD w3.toNat (.i 0)).cell 2).toI ((w1.getD w3.toNat (.i 0)).cell 3).toI) fun y2 =>
              bif y2 then
                k0 9
              else
                kr (IntKind.wrap .i64 (w3 + 1))
          else
            none
      else
        none
    else
      none
  else
    k1 ()
theorem mono19x0x18 (N : Nat) {R : Type} (w1 : LD) (w2 : Int) (w8 : LD) (w3 : Int) {kr kr' : Int → Option R} (k0 : Int → Option R) (k1 : Unit → Option R) {r : R} (hk : ∀ w3', kr w3' = some r → kr' w3' = some r) : S19x0x18 N w1 w2 w8 w3 kr k0 k1 = some r → S19x0x18 N w1 w2 w8 w3 kr' k0 k1 = some r := by
  unfold S19x0x18
  repeat' (first | exact hk _ | exact fun h => h | apply cond_mono | (apply bnd_mono; intro _))
noncomputable def L19x0x18 (N : Nat) {R : Type} (w1 : LD) (w2 : Int) (w8 : LD) : Nat → Int → (Int → Option R) → (Unit → Option R) → Option R
  | 0, _, _, _ => none
  | m + 1, w3, k0, k1 => S19x0x18 N w1 w2 w8 w3 (fun w3 => L19x0x18 N w1 w2 w8 m w3 k0 k1) k0 k1
theorem lp19x0x18 : piece Try.prog 19 18 = .loop (loopB (piece Try.prog 19 18)) := by kernel_rfl
theorem nl19x0x18 (N : Nat) : lawOf (h19x0s2 N) (.loop (loopB (piece Try.prog 19 18))) = none := by kernel_rfl
theorem cl19x0x18 (N : Nat) (w0 : Bool) (w1 : LD) (w2 w4 w5 w6 : Int) (w7 : Bool) (w8 : LD) (w9 : Bool) (w10 : LD) (w3 : Int) : clearSt Try.prog 0 (h19x0s2 N).loops 18 (P19x0x18 w0 w1 w2 w3 w4 w5 w6 w7 w8 w9 w10) = (P19x0x18 w0 w1 w2 w3 w4 w5 w6 w7 w8 w9 w10) := by kernel_rfl
theorem step19x0x18 (N : Nat) (m : Nat) (kn : St → Option (Ex × St)) (w0 : Bool) (w1 : LD) (w2 w4 w5 w6 : Int) (w7 : Bool) (w8 : LD) (w9 : Bool) (w10 : LD) (w3 : Int) : exec Try.prog (T53x0 N) (h19x0s2 N) 0 (m + 100) (loopB (piece Try.prog 19 18)) (P19x0x18 w0 w1 w2 w3 w4 w5 w6 w7 w8 w9 w10) (reK (fun st => kn (clearSt Try.prog 0 (h19x0s2 N).loops 18 st)) (fun e st => some (e, cutSt [2, 1] [1] st))) = S19x0x18 N w1 w2 w8 w3 (fun w3 => kn (P19x0x18 w0 w1 w2 w3 w4 w5 w6 w7 w8 w9 w10)) (fun p => some (K19x0x18w0 w4 w5 w6 w7 w8 w9 w10 p)) (fun _ => some (K19x0x18w1 w4 w5 w6 w7 w8 w9 w10 ())) := by kernel_rfl
theorem run19x0x18 (N : Nat) (w0 : Bool) (w1 : LD) (w2 w4 w5 w6 : Int) (w7 : Bool) (w8 : LD) (w9 : Bool) (w10 : LD) : ∀ (m : Nat) (w3 : Int) (x : Ex × St), L19x0x18 N w1 w2 w8 m w3 (fun p => some (K19x0x18w0 w4 w5 w6 w7 w8 w9 w10 p)) (fun _ => some (K19x0x18w1 w4 w5 w6 w7 w8 w9 w10 ())) = some x → exec Try.prog (T53x0 N) (h19x0s2 N) 0 (m + 101) (.loop (loopB (piece Try.prog 19 18))) (P19x0x18 w0 w1 w2 w3 w4 w5 w6 w7 w8 w9 w10) (fun e st => some (e, cutSt [2, 1] [1] st)) = some x := by
  intro m
  induction m with
  | zero => intro w3 x h; cases h
  | succ m ih =>
    intro w3 x h
    exact loop_round (n := m + 101) (nl19x0x18 N) (by kernel_rfl) (cl19x0x18 N ..) (fun kn => step19x0x18 N (m + 1) kn ..) (mono19x0x18 N _ _ _ _ _ _ (fun w3 => ih w3 x) h)
noncomputable def G19x0x18 (N : Nat) (w1 : LD) (w2 : Int) (w8 : LD) (w3 : Int) : Option (Sum (Int) (Unit)) := L19x0x18 N (R := (Sum (Int) (Unit))) w1 w2 w8 N w3 (fun p => some (.inl p)) (fun p => some (.inr p))
theorem sb19x0x18 (N : Nat) {R A : Type} (w1 : LD) (w2 : Int) (w8 : LD) (w3 : Int) (kr : Int → Option R) (kr' : Int → Option A) (k0 : Int → Option R) (k1 : Unit → Option R) (j0 : Int → Option A) (j1 : Unit → Option A) (K : A → Option R) (hr : ∀ w3', kr w3' = (kr' w3').bind K) (h0 : ∀ p, k0 p = (j0 p).bind K) (h1 : ∀ p, k1 p = (j1 p).bind K) : S19x0x18 N w1 w2 w8 w3 kr k0 k1 = (S19x0x18 N w1 w2 w8 w3 kr' j0 j1).bind K := by
  unfold S19x0x18
  repeat' (first | rfl | apply hr | apply h0 | apply h1 | apply cond_b | (apply bnd_b; intro _))
theorem lbind19x0x18 (N : Nat) {R : Type} (w1 : LD) (w2 : Int) (w8 : LD) : ∀ (m : Nat) (w3 : Int) (k0 : Int → Option R) (k1 : Unit → Option R), L19x0x18 N w1 w2 w8 m w3 k0 k1 = (L19x0x18 N (R := (Sum (Int) (Unit))) w1 w2 w8 m w3 (fun p => some (.inl p)) (fun p => some (.inr p))).bind (sumE k0 k1) := by
  intro m
  induction m with
  | zero => intros; rfl
  | succ m ih =>
    intro w3 k0 k1
    exact sb19x0x18 N _ _ _ _ _ _ _ _ _ _ _ (fun w3 => ih w3 k0 k1) (fun _ => rfl) (fun _ => rfl)
theorem one19x0x18 : oneB Try.prog 19 18 = true := by kernel_rfl
noncomputable def sh19x0x18 : Sh := { tmps := [(1, .c (.p 1 0)), (37, .c (.sl 66)), (38, .c (.i .i64)), (39, .c (.i .i64))], mem := [(1, .box ([.i .i64, .i .i64, .i .i64, .sl 66, .sl 68]))] }
noncomputable def A19x0x18 (N : Nat) (L : List Lf) : List (Bool × (Ex × St)) := bnd (G19x0x18 N (ll L 1) (li L 2) (ll L 8) (li L 3)) fun q => [((inlB q), K19x0x18w0 (li L 4) (li L 5) (li L 6) (lb L 7) (ll L 8) (lb L 9) (ll L 10) (inlV q)), ((inrQ q).isSome, K19x0x18w1 (li L 4) (li L 5) (li L 6) (lb L 7) (ll L 8) (lb L 9) (ll L 10) ())]
theorem eq19x0x18 (L : List Lf) : ofSh sh19x0x18 L = (P19x0x18 (lb L 0) (ll L 1) (li L 2) (li L 3) (li L 4) (li L 5) (li L 6) (lb L 7) (ll L 8) (lb L 9) (ll L 10)) := by kernel_rfl
theorem law19x0x18 (N : Nat) : CutLaw Try.prog 0 (piece Try.prog 19 18) (loSh sh19x0x18 (A19x0x18 N)) :=
  law_shL progOk (T53x0_ok N) (al19x0s2 N) one19x0x18 lp19x0x18 eq19x0x18 fun L x hx => run19x0x18 N _ _ _ _ _ _ _ _ _ _ N _ x ((lbind19x0x18 N _ _ _ N _ _ _).trans ((altS alt1) x hx))
noncomputable def h19x0s3 (N : Nat) : Hint := { (h19x0s2 N) with los := (18, loSh sh19x0x18 (A19x0x18 N)) :: (h19x0s2 N).los }
theorem al19x0s3 (N : Nat) : AllCuts Try.prog (h19x0s3 N).los 0 19 := AllCuts.cons (al19x0s2 N) one19x0x18 (law19x0x18 N)
noncomputable def P19x0x48 (w0 : Bool) (w1 : LD) (w2 w3 w4 w5 w6 : Int) (w7 : Bool) (w8 : LD) (w9 : Bool) (w10 : LD) : St := ⟨[(1, .c (.p 1 0)), (75, .c (.sl 68 w0 w1)), (76, .c (.i .i64 w2)), (77, .c (.i .i64 w3))], [(1, .box [.i .i64 w4, .i .i64 w5, .i .i64 w6, .sl 66 w7 w8, .sl 68 w9 w10])]⟩
noncomputable def S19x0x48 (N : Nat) {R : Type} (w1 : LD) (w2 w5 : Int) (w8 : LD) (w3 : Int) (kr : Int → Option R) (k0 : Int → Option R) (k1 : Unit → Option R) : Option R :=
  bif (decide (w3 < w2)) then
    bif (inB w3 w1.length) then
      bnd (G53x0 N w5 w8 ((w1.getD w3.toNat (.i 0)).cell 0).toI ((w1.getD w3.toNat (.i 0)).cell 1).toI ((w1.getD w3.toNat (.i 0)).cell 2).toI ((w1.getD w3.toNat (.i 0)).cell 3).toI ((w1.getD w3.toNat (.i 0)).cell 4).toI ((w1.getD w3.toNat (.i 0)).cell 5).toS) fun y0 =>
      bif y0.isSome then
        bif ((y0.getD default) != 0) then
          k0 (y0.getD default)
        else
          kr (IntKind.wrap .i64 (w3 + 1))
      else
        none
    else
      none
  else
    k1 ()
theorem mono19x0x48 (N : Nat) {R : Type} (w1 : LD) (w2 w5 : Int) (w8 : LD) (w3 : Int) {kr kr' : Int → Option R} (k0 : Int → Option R) (k1 : Unit → Option R) {r : R} (hk : ∀ w3', kr w3' = some r → kr' w3' = some r) : S19x0x48 N w1 w2 w5 w8 w3 kr k0 k1 = some r → S19x0x48 N w1 w2 w5 w8 w3 kr' k0 k1 = some r := by
  unfold S19x0x48
  repeat' (first | exact hk _ | exact fun h => h | apply cond_mono | (apply bnd_mono; intro _))
noncomputable def L19x0x48 (N : Nat) {R : Type} (w1 : LD) (w2 w5 : Int) (w8 : LD) : Nat → Int → (Int → Option R) → (Unit → Option R) → Option R
  | 0, _, _, _ => none
  | m + 1, w3, k0, k1 => S19x0x48 N w1 w2 w5 w8 w3 (fun w3 => L19x0x48 N w1 w2 w5 w8 m w3 k0 k1) k0 k1
theorem lp19x0x48 : piece Try.prog 19 48 = .loop (loopB (piece Try.prog 19 48)) := by kernel_rfl
theorem nl19x0x48 (N : Nat) : lawOf (h19x0s3 N) (.loop (loopB (piece Try.prog 19 48))) = none := by kernel_rfl
theorem cl19x0x48 (N : Nat) (w0 : Bool) (w1 : LD) (w2 w4 w5 w6 : Int) (w7 : Bool) (w8 : LD) (w9 : Bool) (w10 : LD) (w3 : Int) : clearSt Try.prog 0 (h19x0s3 N).loops 48 (P19x0x48 w0 w1 w2 w3 w4 w5 w6 w7 w8 w9 w10) = (P19x0x48 w0 w1 w2 w3 w4 w5 w6 w7 w8 w9 w10) := by kernel_rfl
theorem step19x0x48 (N : Nat) (m : Nat) (kn : St → Option (Ex × St)) (w0 : Bool) (w1 : LD) (w2 w4 w5 w6 : Int) (w7 : Bool) (w8 : LD) (w9 : Bool) (w10 : LD) (w3 : Int) : exec Try.prog (T53x0 N) (h19x0s3 N) 0 (m + 100) (loopB (piece Try.prog 19 48)) (P19x0x48 w0 w1 w2 w3 w4 w5 w6 w7 w8 w9 w10) (reK (fun st => kn (clearSt Try.prog 0 (h19x0s3 N).loops 48 st)) (fun e st => some (e, cutSt [2] [] st))) = S19x0x48 N w1 w2 w5 w8 w3 (fun w3 => kn (P19x0x48 w0 w1 w2 w3 w4 w5 w6 w7 w8 w9 w10)) (fun p => some (.ret, ⟨[(2, .c (.i .i64 p))], []⟩)) (fun _ => some ((.exit 4), ⟨[], []⟩)) := by kernel_rfl
theorem run19x0x48 (N : Nat) (w0 : Bool) (w1 : LD) (w2 w4 w5 w6 : Int) (w7 : Bool) (w8 : LD) (w9 : Bool) (w10 : LD) : ∀ (m : Nat) (w3 : Int) (x : Ex × St), L19x0x48 N w1 w2 w5 w8 m w3 (fun p => some (.ret, ⟨[(2, .c (.i .i64 p))], []⟩)) (fun _ => some ((.exit 4), ⟨[], []⟩)) = some x → exec Try.prog (T53x0 N) (h19x0s3 N) 0 (m + 101) (.loop (loopB (piece Try.prog 19 48))) (P19x0x48 w0 w1 w2 w3 w4 w5 w6 w7 w8 w9 w10) (fun e st => some (e, cutSt [2] [] st)) = some x := by
  intro m
  induction m with
  | zero => intro w3 x h; cases h
  | succ m ih =>
    intro w3 x h
    exact loop_round (n := m + 101) (nl19x0x48 N) (by kernel_rfl) (cl19x0x48 N ..) (fun kn => step19x0x48 N (m + 1) kn ..) (mono19x0x48 N _ _ _ _ _ _ _ (fun w3 => ih w3 x) h)
noncomputable def G19x0x48 (N : Nat) (w1 : LD) (w2 w5 : Int) (w8 : LD) (w3 : Int) : Option (Sum (Int) (Unit)) := L19x0x48 N (R := (Sum (Int) (Unit))) w1 w2 w5 w8 N w3 (fun p => some (.inl p)) (fun p => some (.inr p))
theorem sb19x0x48 (N : Nat) {R A : Type} (w1 : LD) (w2 w5 : Int) (w8 : LD) (w3 : Int) (kr : Int → Option R) (kr' : Int → Option A) (k0 : Int → Option R) (k1 : Unit → Option R) (j0 : Int → Option A) (j1 : Unit → Option A) (K : A → Option R) (hr : ∀ w3', kr w3' = (kr' w3').bind K) (h0 : ∀ p, k0 p = (j0 p).bind K) (h1 : ∀ p, k1 p = (j1 p).bind K) : S19x0x48 N w1 w2 w5 w8 w3 kr k0 k1 = (S19x0x48 N w1 w2 w5 w8 w3 kr' j0 j1).bind K := by
  unfold S19x0x48
  repeat' (first | rfl | apply hr | apply h0 | apply h1 | apply cond_b | (apply bnd_b; intro _))
theorem lbind19x0x48 (N : Nat) {R : Type} (w1 : LD) (w2 w5 : Int) (w8 : LD) : ∀ (m : Nat) (w3 : Int) (k0 : Int → Option R) (k1 : Unit → Option R), L19x0x48 N w1 w2 w5 w8 m w3 k0 k1 = (L19x0x48 N (R := (Sum (Int) (Unit))) w1 w2 w5 w8 m w3 (fun p => some (.inl p)) (fun p => some (.inr p))).bind (sumE k0 k1) := by
  intro m
  induction m with
  | zero => intros; rfl
  | succ m ih =>
    intro w3 k0 k1
    exact sb19x0x48 N _ _ _ _ _ _ _ _ _ _ _ _ (fun w3 => ih w3 k0 k1) (fun _ => rfl) (fun _ => rfl)
theorem one19x0x48 : oneB Try.prog 19 48 = true := by kernel_rfl
noncomputable def sh19x0x48 : Sh := { tmps := [(1, .c (.p 1 0)), (75, .c (.sl 68)), (76, .c (.i .i64)), (77, .c (.i .i64))], mem := [(1, .box ([.i .i64, .i .i64, .i .i64, .sl 66, .sl 68]))] }
noncomputable def A19x0x48 (N : Nat) (L : List Lf) : List (Bool × (Ex × St)) := bnd (G19x0x48 N (ll L 1) (li L 2) (li L 5) (ll L 8) (li L 3)) fun q => [((inlB q), (.ret, ⟨[(2, .c (.i .i64 (inlV q)))], []⟩)), ((inrQ q).isSome, ((.exit 4), ⟨[], []⟩))]
theorem eq19x0x48 (L : List Lf) : ofSh sh19x0x48 L = (P19x0x48 (lb L 0) (ll L 1) (li L 2) (li L 3) (li L 4) (li L 5) (li L 6) (lb L 7) (ll L 8) (lb L 9) (ll L 10)) := by kernel_rfl
theorem law19x0x48 (N : Nat) : CutLaw Try.prog 0 (piece Try.prog 19 48) (loSh sh19x0x48 (A19x0x48 N)) :=
  law_shL progOk (T53x0_ok N) (al19x0s3 N) one19x0x48 lp19x0x48 eq19x0x48 fun L x hx => run19x0x48 N _ _ _ _ _ _ _ _ _ _ N _ x ((lbind19x0x48 N _ _ _ _ N _ _ _).trans ((altS alt1) x hx))
noncomputable def h19x0s4 (N : Nat) : Hint := { (h19x0s3 N) with los := (48, loSh sh19x0x48 (A19x0x48 N)) :: (h19x0s3 N).los }
theorem al19x0s4 (N : Nat) : AllCuts Try.prog (h19x0s4 N).los 0 19 := AllCuts.cons (al19x0s3 N) one19x0x48 (law19x0x48 N)
noncomputable def F19x0 (N : Nat) {R : Type} (v0 v1 v2 : Int) (v4 v6 : LD) (k0 : Int → Option R) : Option R :=
  bnd (V19x0x4 N v0 v1 v2) fun y0 =>
  bif y0 then
    k0 9
  else
    bnd (bif (decide ((v4.length : Int) > 4)) then true else (decide ((v6.length : Int) > 12))) fun y1 =>
    bif y1 then
      k0 3
    else
      bnd (G19x0x18 N v4 (v4.length : Int) v4 0) fun y2 =>
      bif (inlB y2) then
        k0 (inlV y2)
      else
        bif (inrQ y2).isSome then
          bnd (G19x0x48 N v6 (v6.length : Int) v1 v4 0) fun y3 =>
          bif (inlB y3) then
            k0 (inlV y3)
          else
            bif (inrQ y3).isSome then
              k0 0
            else
              none
        else
          none
noncomputable def G19x0 (N : Nat) (v0 v1 v2 : Int) (v4 v6 : LD) : Option (Int) := F19x0 N v0 v1 v2 v4 v6 (fun p => some p)
theorem bind19x0 (N : Nat) {R : Type} (v0 v1 v2 : Int) (v4 v6 : LD) (k0 : Int → Option R) : F19x0 N v0 v1 v2 v4 v6 k0 = (G19x0 N v0 v1 v2 v4 v6).bind k0 := by
  unfold G19x0 F19x0
  repeat' (first | rfl | apply cond_b | (apply bnd_b; intro _))
noncomputable def J19x0 (N : Nat) (L : List Lf) {R : Type} (k0 : Int → Option R) : Option R := F19x0 N (li L 0) (li L 1) (li L 2) (ll L 4) (ll L 6) k0
noncomputable def sh19x0 : Sh := { tmps := [(0, .g ([.i .i64, .i .i64, .i .i64, .sl 66, .sl 68]))], mem := [] }
noncomputable def A19x0 (N : Nat) (L : List Lf) : List (Bool × Res) := bnd (J19x0 N L (fun p => some p)) fun q => [(q.isSome, ([.c (.i .i64 (q.getD default))], []))]
theorem raw19x0 (N : Nat) (L : List Lf) : (body Try.prog (T53x0 N) (h19x0s4 N) 200 19 (valsOf (ofSh sh19x0 L).tmps) (ofSh sh19x0 L).mem : Option Res) = J19x0 N L (fun p => some ([.c (.i .i64 p)], [])) := by kernel_rfl
theorem ok19x0 (N : Nat) : ∀ args mem alts, spSh sh19x0 (A19x0 N) args mem = some alts → ∀ res, altK alts some = some res → CallOk Try.prog 19 args mem res :=
  spSh_law fun L x hx => callOk_of (n := 200) progOk (T53x0_ok N) (al19x0s4 N) rfl ((raw19x0 N L).trans ((bind19x0 N ..).trans (alt1 x hx)))
noncomputable def T19x0 (N : Nat) : Oracle := ext 19 (spSh sh19x0 (A19x0 N)) (T53x0 N)
theorem T19x0_ok (N : Nat) : OracleOk Try.prog (T19x0 N) := ext_ok (T53x0_ok N) (enters_of (by kernel_rfl)) (ok19x0 N)
noncomputable def rg94x0 : List (Nat × List Nat) := [(0, [0, 1]), (1, [0, 1])]
noncomputable def hd94x0 : Hints := []
noncomputable def h94x0s0 (N : Nat) : Hint := { loops := hd94x0, regs := rg94x0, los := [] }
theorem al94x0s0 (N : Nat) : AllCuts Try.prog (h94x0s0 N).los 1 94 := AllCuts.nil
noncomputable def F94x0 (N : Nat) {R : Type} (v0 : Int) (v5 : LD) (k0 : Bool → R) : R :=
  bnd (V48x0 N v0 (-1) (IntKind.wrap .i64 ((v5.length : Int) - 1))) fun y0 =>
  k0 (!y0)
noncomputable def V94x0 (N : Nat) (v0 : Int) (v5 : LD) : Bool := F94x0 N v0 v5 (fun p => p)
theorem tot94x0 (N : Nat) {R : Type} (v0 : Int) (v5 : LD) (k0 : Bool → R) : F94x0 N v0 v5 k0 = k0 (V94x0 N v0 v5) := by
  unfold V94x0 F94x0
  repeat' (first | rfl | apply cond_k | (apply bnd_k; intro _))
noncomputable def sh94x0 : Sh := { tmps := [(0, .c (.i .i64)), (1, .c (.p 0 0))], mem := [(0, .box ([.i .i64, .i .i64, .i .i64, .sl 66, .sl 68]))] }
noncomputable def K94x0w0 (L : List Lf) (p : Bool) : Res := ([.c (.b p)], [(0, .box [.i .i64 (li L 1), .i .i64 (li L 2), .i .i64 (li L 3), .sl 66 (lb L 4) (ll L 5), .sl 68 (lb L 6) (ll L 7)])])
noncomputable def A94x0 (N : Nat) (L : List Lf) : List (Bool × Res) := bnd (F94x0 N (li L 0) (ll L 5) (fun p => p)) fun q => [(true, K94x0w0 L q)]
theorem raw94x0 (N : Nat) (L : List Lf) : (body Try.prog (T19x0 N) (h94x0s0 N) 200 94 (valsOf (ofSh sh94x0 L).tmps) (ofSh sh94x0 L).mem : Option Res) = F94x0 N (li L 0) (ll L 5) (fun p => some (K94x0w0 L p)) := by kernel_rfl
theorem ok94x0 (N : Nat) : ∀ args mem alts, spSh sh94x0 (A94x0 N) args mem = some alts → ∀ res, altK alts some = some res → CallOk Try.prog 94 args mem res :=
  spSh_law fun L x hx => callOk_of (n := 200) progOk (T19x0_ok N) (al94x0s0 N) rfl ((raw94x0 N L).trans ((tot94x0 N ..).trans (alt0 _ _ hx)))
noncomputable def T94x0 (N : Nat) : Oracle := ext 94 (spSh sh94x0 (A94x0 N)) (T19x0 N)
theorem T94x0_ok (N : Nat) : OracleOk Try.prog (T94x0 N) := ext_ok (T19x0_ok N) (enters_of (by kernel_rfl)) (ok94x0 N)
noncomputable def rg86x0 : List (Nat × List Nat) := [(0, [0, 1]), (1, [0, 1]), (2, [8, 7, 1, 0]), (3, [8, 1, 0, 7]), (4, [1, 0, 5, 8, 7]), (5, [5]), (6, [8, 7, 1, 0]), (7, [])]
noncomputable def hd86x0 : Hints := [(6, [8, 7, 1, 0], [0], [])]
noncomputable def h86x0s0 (N : Nat) : Hint := { loops := hd86x0, regs := rg86x0, los := [] }
theorem al86x0s0 (N : Nat) : AllCuts Try.prog (h86x0s0 N).los 1 86 := AllCuts.nil
noncomputable def K86x0x6w0 (w4 w5 w6 : Int) (w7 : Bool) (w8 : LD) (w9 : Bool) (w10 : LD) (p : Int) : Ex × St := (.ret, ⟨[(4, .c (.i .i64 p))], [(0, .box [.i .i64 w4, .i .i64 w5, .i .i64 w6, .sl 66 w7 w8, .sl 68 w9 w10])]⟩)
noncomputable def K86x0x6w1 (w4 w5 w6 : Int) (w7 : Bool) (w8 : LD) (w9 : Bool) (w10 : LD) (_ : Unit) : Ex × St := ((.exit 0), ⟨[], [(0, .box [.i .i64 w4, .i .i64 w5, .i .i64 w6, .sl 66 w7 w8, .sl 68 w9 w10])]⟩)
noncomputable def P86x0x6 (w0 : Bool) (w1 : LD) (w2 w3 w4 w5 w6 : Int) (w7 : Bool) (w8 : LD) (w9 : Bool) (w10 : LD) : St := ⟨[(0, .c (.sl 3 w0 w1)), (1, .c (.f 94 [(0, 0)])), (7, .c (.i .i64 w2)), (8, .c (.i .i64 w3))], [(0, .box [.i .i64 w4, .i .i64 w5, .i .i64 w6, .sl 66 w7 w8, .sl 68 w9 w10])]⟩
noncomputable def S86x0x6 (N : Nat) {R : Type} (w1 : LD) (w2 : Int) (w8 : LD) (w3 : Int) (kr : Int → Option R) (k0 : Int → Option R) (k1 : Unit → Option R) : Option R :=
  bif (decide (w3 < w2)) then
    bif (inB w3 w1.length) then
      bnd (V94x0 N (w1.getD w3.toNat (.i 0)).toI w8) fun y0 =>
      bif y0 then
        k0 w3
      else
        kr (IntKind.wrap .i64 (w3 + 1))
    else
      none
  else
    k1 ()
theorem mono86x0x6 (N : Nat) {R : Type} (w1 : LD) (w2 : Int) (w8 : LD) (w3 : Int) {kr kr' : Int → Option R} (k0 : Int → Option R) (k1 : Unit → Option R) {r : R} (hk : ∀ w3', kr w3' = some r → kr' w3' = some r) : S86x0x6 N w1 w2 w8 w3 kr k0 k1 = some r → S86x0x6 N w1 w2 w8 w3 kr' k0 k1 = some r := by
  unfold S86x0x6
  repeat' (first | exact hk _ | exact fun h => h | apply cond_mono | (apply bnd_mono; intro _))
noncomputable def L86x0x6 (N : Nat) {R : Type} (w1 : LD) (w2 : Int) (w8 : LD) : Nat → Int → (Int → Option R) → (Unit → Option R) → Option R
  | 0, _, _, _ => none
  | m + 1, w3, k0, k1 => S86x0x6 N w1 w2 w8 w3 (fun w3 => L86x0x6 N w1 w2 w8 m w3 k0 k1) k0 k1
theorem lp86x0x6 : piece Try.prog 86 6 = .loop (loopB (piece Try.prog 86 6)) := by kernel_rfl
theorem nl86x0x6 (N : Nat) : lawOf (h86x0s0 N) (.loop (loopB (piece Try.prog 86 6))) = none := by kernel_rfl
theorem cl86x0x6 (N : Nat) (w0 : Bool) (w1 : LD) (w2 w4 w5 w6 : Int) (w7 : Bool) (w8 : LD) (w9 : Bool) (w10 : LD) (w3 : Int) : clearSt Try.prog 1 (h86x0s0 N).loops 6 (P86x0x6 w0 w1 w2 w3 w4 w5 w6 w7 w8 w9 w10) = (P86x0x6 w0 w1 w2 w3 w4 w5 w6 w7 w8 w9 w10) := by kernel_rfl
theorem step86x0x6 (N : Nat) (m : Nat) (kn : St → Option (Ex × St)) (w0 : Bool) (w1 : LD) (w2 w4 w5 w6 : Int) (w7 : Bool) (w8 : LD) (w9 : Bool) (w10 : LD) (w3 : Int) : exec Try.prog (T94x0 N) (h86x0s0 N) 1 (m + 100) (loopB (piece Try.prog 86 6)) (P86x0x6 w0 w1 w2 w3 w4 w5 w6 w7 w8 w9 w10) (reK (fun st => kn (clearSt Try.prog 1 (h86x0s0 N).loops 6 st)) (fun e st => some (e, cutSt [4] [0] st))) = S86x0x6 N w1 w2 w8 w3 (fun w3 => kn (P86x0x6 w0 w1 w2 w3 w4 w5 w6 w7 w8 w9 w10)) (fun p => some (K86x0x6w0 w4 w5 w6 w7 w8 w9 w10 p)) (fun _ => some (K86x0x6w1 w4 w5 w6 w7 w8 w9 w10 ())) := by kernel_rfl
theorem run86x0x6 (N : Nat) (w0 : Bool) (w1 : LD) (w2 w4 w5 w6 : Int) (w7 : Bool) (w8 : LD) (w9 : Bool) (w10 : LD) : ∀ (m : Nat) (w3 : Int) (x : Ex × St), L86x0x6 N w1 w2 w8 m w3 (fun p => some (K86x0x6w0 w4 w5 w6 w7 w8 w9 w10 p)) (fun _ => some (K86x0x6w1 w4 w5 w6 w7 w8 w9 w10 ())) = some x → exec Try.prog (T94x0 N) (h86x0s0 N) 1 (m + 101) (.loop (loopB (piece Try.prog 86 6))) (P86x0x6 w0 w1 w2 w3 w4 w5 w6 w7 w8 w9 w10) (fun e st => some (e, cutSt [4] [0] st)) = some x := by
  intro m
  induction m with
  | zero => intro w3 x h; cases h
  | succ m ih =>
    intro w3 x h
    exact loop_round (n := m + 101) (nl86x0x6 N) (by kernel_rfl) (cl86x0x6 N ..) (fun kn => step86x0x6 N (m + 1) kn ..) (mono86x0x6 N _ _ _ _ _ _ (fun w3 => ih w3 x) h)
noncomputable def G86x0x6 (N : Nat) (w1 : LD) (w2 : Int) (w8 : LD) (w3 : Int) : Option (Sum (Int) (Unit)) := L86x0x6 N (R := (Sum (Int) (Unit))) w1 w2 w8 N w3 (fun p => some (.inl p)) (fun p => some (.inr p))
theorem sb86x0x6 (N : Nat) {R A : Type} (w1 : LD) (w2 : Int) (w8 : LD) (w3 : Int) (kr : Int → Option R) (kr' : Int → Option A) (k0 : Int → Option R) (k1 : Unit → Option R) (j0 : Int → Option A) (j1 : Unit → Option A) (K : A → Option R) (hr : ∀ w3', kr w3' = (kr' w3').bind K) (h0 : ∀ p, k0 p = (j0 p).bind K) (h1 : ∀ p, k1 p = (j1 p).bind K) : S86x0x6 N w1 w2 w8 w3 kr k0 k1 = (S86x0x6 N w1 w2 w8 w3 kr' j0 j1).bind K := by
  unfold S86x0x6
  repeat' (first | rfl | apply hr | apply h0 | apply h1 | apply cond_b | (apply bnd_b; intro _))
theorem lbind86x0x6 (N : Nat) {R : Type} (w1 : LD) (w2 : Int) (w8 : LD) : ∀ (m : Nat) (w3 : Int) (k0 : Int → Option R) (k1 : Unit → Option R), L86x0x6 N w1 w2 w8 m w3 k0 k1 = (L86x0x6 N (R := (Sum (Int) (Unit))) w1 w2 w8 m w3 (fun p => some (.inl p)) (fun p => some (.inr p))).bind (sumE k0 k1) := by
  intro m
  induction m with
  | zero => intros; rfl
  | succ m ih =>
    intro w3 k0 k1
    exact sb86x0x6 N _ _ _ _ _ _ _ _ _ _ _ (fun w3 => ih w3 k0 k1) (fun _ => rfl) (fun _ => rfl)
theorem one86x0x6 : oneB Try.prog 86 6 = true := by kernel_rfl
noncomputable def sh86x0x6 : Sh := { tmps := [(0, .c (.sl 3)), (1, .c (.f 94 [(0, 0)])), (7, .c (.i .i64)), (8, .c (.i .i64))], mem := [(0, .box ([.i .i64, .i .i64, .i .i64, .sl 66, .sl 68]))] }
noncomputable def A86x0x6 (N : Nat) (L : List Lf) : List (Bool × (Ex × St)) := bnd (G86x0x6 N (ll L 1) (li L 2) (ll L 8) (li L 3)) fun q => [((inlB q), K86x0x6w0 (li L 4) (li L 5) (li L 6) (lb L 7) (ll L 8) (lb L 9) (ll L 10) (inlV q)), ((inrQ q).isSome, K86x0x6w1 (li L 4) (li L 5) (li L 6) (lb L 7) (ll L 8) (lb L 9) (ll L 10) ())]
theorem eq86x0x6 (L : List Lf) : ofSh sh86x0x6 L = (P86x0x6 (lb L 0) (ll L 1) (li L 2) (li L 3) (li L 4) (li L 5) (li L 6) (lb L 7) (ll L 8) (lb L 9) (ll L 10)) := by kernel_rfl
theorem law86x0x6 (N : Nat) : CutLaw Try.prog 1 (piece Try.prog 86 6) (loSh sh86x0x6 (A86x0x6 N)) :=
  law_shL progOk (T94x0_ok N) (al86x0s0 N) one86x0x6 lp86x0x6 eq86x0x6 fun L x hx => run86x0x6 N _ _ _ _ _ _ _ _ _ _ N _ x ((lbind86x0x6 N _ _ _ N _ _ _).trans ((altS alt1) x hx))
noncomputable def h86x0s1 (N : Nat) : Hint := { (h86x0s0 N) with los := (6, loSh sh86x0x6 (A86x0x6 N)) :: (h86x0s0 N).los }
theorem al86x0s1 (N : Nat) : AllCuts Try.prog (h86x0s1 N).los 1 86 := AllCuts.cons (al86x0s0 N) one86x0x6 (law86x0x6 N)
noncomputable def F86x0 (N : Nat) {R : Type} (v1 v6 : LD) (k0 : Int → Option R) : Option R :=
  bnd (G86x0x6 N v1 (v1.length : Int) v6 0) fun y0 =>
  bif (inlB y0) then
    k0 (inlV y0)
  else
    bif (inrQ y0).isSome then
      k0 (-1)
    else
      none
noncomputable def G86x0 (N : Nat) (v1 v6 : LD) : Option (Int) := F86x0 N v1 v6 (fun p => some p)
theorem bind86x0 (N : Nat) {R : Type} (v1 v6 : LD) (k0 : Int → Option R) : F86x0 N v1 v6 k0 = (G86x0 N v1 v6).bind k0 := by
  unfold G86x0 F86x0
  repeat' (first | rfl | apply cond_b | (apply bnd_b; intro _))
noncomputable def sh86x0 : Sh := { tmps := [(0, .c (.sl 3)), (1, .c (.f 94 [(0, 0)]))], mem := [(0, .box ([.i .i64, .i .i64, .i .i64, .sl 66, .sl 68]))] }
noncomputable def K86x0w0 (L : List Lf) (p : Int) : Res := ([.c (.i .i64 p)], [(0, .box [.i .i64 (li L 2), .i .i64 (li L 3), .i .i64 (li L 4), .sl 66 (lb L 5) (ll L 6), .sl 68 (lb L 7) (ll L 8)])])
noncomputable def A86x0 (N : Nat) (L : List Lf) : List (Bool × Res) := bnd (F86x0 N (ll L 1) (ll L 6) (fun p => some p)) fun q => [(q.isSome, K86x0w0 L (q.getD default))]
theorem raw86x0 (N : Nat) (L : List Lf) : (body Try.prog (T94x0 N) (h86x0s1 N) 200 86 (valsOf (ofSh sh86x0 L).tmps) (ofSh sh86x0 L).mem : Option Res) = F86x0 N (ll L 1) (ll L 6) (fun p => some (K86x0w0 L p)) := by kernel_rfl
theorem ok86x0 (N : Nat) : ∀ args mem alts, spSh sh86x0 (A86x0 N) args mem = some alts → ∀ res, altK alts some = some res → CallOk Try.prog 86 args mem res :=
  spSh_law fun L x hx => callOk_of (n := 200) progOk (T94x0_ok N) (al86x0s1 N) rfl ((raw86x0 N L).trans ((bind86x0 N ..).trans (alt1 x hx)))
noncomputable def T86x0 (N : Nat) : Oracle := ext 86 (spSh sh86x0 (A86x0 N)) (T94x0 N)
theorem T86x0_ok (N : Nat) : OracleOk Try.prog (T86x0 N) := ext_ok (T94x0_ok N) (enters_of (by kernel_rfl)) (ok86x0 N)
noncomputable def rg65x0 : List (Nat × List Nat) := [(0, [0, 1]), (1, [0, 1])]
noncomputable def hd65x0 : Hints := []
noncomputable def h65x0s0 (N : Nat) : Hint := { loops := hd65x0, regs := rg65x0, los := [] }
theorem al65x0s0 (N : Nat) : AllCuts Try.prog (h65x0s0 N).los 1 65 := AllCuts.nil
noncomputable def F65x0 (N : Nat) {R : Type} (v1 v6 : LD) (k0 : Bool → Option R) : Option R :=
  bnd (G86x0 N v1 v6) fun y0 =>
  bif y0.isSome then
    k0 (decide ((y0.getD default) ≥ 0))
  else
    none
noncomputable def G65x0 (N : Nat) (v1 v6 : LD) : Option (Bool) := F65x0 N v1 v6 (fun p => some p)
theorem bind65x0 (N : Nat) {R : Type} (v1 v6 : LD) (k0 : Bool → Option R) : F65x0 N v1 v6 k0 = (G65x0 N v1 v6).bind k0 := by
  unfold G65x0 F65x0
  repeat' (first | rfl | apply cond_b | (apply bnd_b; intro _))
noncomputable def sh65x0 : Sh := { tmps := [(0, .c (.sl 3)), (1, .c (.f 94 [(0, 0)]))], mem := [(0, .box ([.i .i64, .i .i64, .i .i64, .sl 66, .sl 68]))] }
noncomputable def K65x0w0 (L : List Lf) (p : Bool) : Res := ([.c (.b p)], [(0, .box [.i .i64 (li L 2), .i .i64 (li L 3), .i .i64 (li L 4), .sl 66 (lb L 5) (ll L 6), .sl 68 (lb L 7) (ll L 8)])])
noncomputable def A65x0 (N : Nat) (L : List Lf) : List (Bool × Res) := bnd (F65x0 N (ll L 1) (ll L 6) (fun p => some p)) fun q => [(q.isSome, K65x0w0 L (q.getD default))]
theorem raw65x0 (N : Nat) (L : List Lf) : (body Try.prog (T86x0 N) (h65x0s0 N) 200 65 (valsOf (ofSh sh65x0 L).tmps) (ofSh sh65x0 L).mem : Option Res) = F65x0 N (ll L 1) (ll L 6) (fun p => some (K65x0w0 L p)) := by kernel_rfl
theorem ok65x0 (N : Nat) : ∀ args mem alts, spSh sh65x0 (A65x0 N) args mem = some alts → ∀ res, altK alts some = some res → CallOk Try.prog 65 args mem res :=
  spSh_law fun L x hx => callOk_of (n := 200) progOk (T86x0_ok N) (al65x0s0 N) rfl ((raw65x0 N L).trans ((bind65x0 N ..).trans (alt1 x hx)))
noncomputable def T65x0 (N : Nat) : Oracle := ext 65 (spSh sh65x0 (A65x0 N)) (T86x0 N)
theorem T65x0_ok (N : Nat) : OracleOk Try.prog (T65x0 N) := ext_ok (T86x0_ok N) (enters_of (by kernel_rfl)) (ok65x0 N)
noncomputable def rg77x0 : List (Nat × List Nat) := [(0, [0, 1]), (1, [1, 2])]
noncomputable def hd77x0 : Hints := [(4, [1, 2], [2], [])]
noncomputable def h77x0s0 (N : Nat) : Hint := { loops := hd77x0, regs := rg77x0, los := [] }
theorem al77x0s0 (N : Nat) : AllCuts Try.prog (h77x0s0 N).los 0 77 := AllCuts.nil
noncomputable def F77x0x4 (N : Nat) {R : Type} (w1 : LD) (w3 : Int) (w6 : LD) (k0 : Bool → Option R) : Option R :=
  bif (decide ((w1.length : Int) ≤ w3)) then
    bnd (G65x0 N w1 w6) fun y0 =>
    bif y0.isSome then
      k0 (!(y0.getD default))
    else
      none
  else
    k0 false
noncomputable def G77x0x4 (N : Nat) (w1 : LD) (w3 : Int) (w6 : LD) : Option (Bool) := F77x0x4 N w1 w3 w6 (fun p => some p)
theorem bind77x0x4 (N : Nat) {R : Type} (w1 : LD) (w3 : Int) (w6 : LD) (k0 : Bool → Option R) : F77x0x4 N w1 w3 w6 k0 = (G77x0x4 N w1 w3 w6).bind k0 := by
  unfold G77x0x4 F77x0x4
  repeat' (first | rfl | apply cond_b | (apply bnd_b; intro _))
noncomputable def sh77x0x4 : Sh := { tmps := [(1, .c (.sl 3)), (2, .c (.p 2 0))], mem := [(2, .box ([.i .i64, .i .i64, .i .i64, .sl 66, .sl 68]))] }
noncomputable def A77x0x4 (N : Nat) (L : List Lf) : List (Bool × (Ex × St)) := bnd (F77x0x4 N (ll L 1) (li L 3) (ll L 6) (fun p => some p)) fun q => [(q.isSome, (.normal, ⟨[(4, .c (.b (q.getD default)))], []⟩))]
theorem raw77x0x4 (N : Nat) (L : List Lf) : (exec Try.prog (T65x0 N) (h77x0s0 N) 0 100 (piece Try.prog 77 4) (ofSh sh77x0x4 L) (fun e st => some (e, cutSt [4] [] st)) : Option (Ex × St)) = F77x0x4 N (ll L 1) (li L 3) (ll L 6) (fun p => some (.normal, ⟨[(4, .c (.b p))], []⟩)) := by kernel_rfl
theorem one77x0x4 : oneB Try.prog 77 4 = true := by kernel_rfl
theorem law77x0x4 (N : Nat) : CutLaw Try.prog 0 (piece Try.prog 77 4) (loSh sh77x0x4 (A77x0x4 N)) :=
  law_sh progOk (T65x0_ok N) (al77x0s0 N) one77x0x4 fun L x hx => (raw77x0x4 N L).trans ((bind77x0x4 N ..).trans (alt1 x hx))
noncomputable def h77x0s1 (N : Nat) : Hint := { (h77x0s0 N) with los := (4, loSh sh77x0x4 (A77x0x4 N)) :: (h77x0s0 N).los }
theorem al77x0s1 (N : Nat) : AllCuts Try.prog (h77x0s1 N).los 0 77 := AllCuts.cons (al77x0s0 N) one77x0x4 (law77x0x4 N)
noncomputable def F77x0 (N : Nat) {R : Type} (v1 : Int) (v4 v8 : LD) (k0 : Bool → Option R) : Option R :=
  bnd (G77x0x4 N v8 v1 v4) fun y0 =>
  bif y0.isSome then
    k0 (y0.getD default)
  else
    none
noncomputable def G77x0 (N : Nat) (v1 : Int) (v4 v8 : LD) : Option (Bool) := F77x0 N v1 v4 v8 (fun p => some p)
theorem bind77x0 (N : Nat) {R : Type} (v1 : Int) (v4 v8 : LD) (k0 : Bool → Option R) : F77x0 N v1 v4 v8 k0 = (G77x0 N v1 v4 v8).bind k0 := by
  unfold G77x0 F77x0
  repeat' (first | rfl | apply cond_b | (apply bnd_b; intro _))
noncomputable def sh77x0 : Sh := { tmps := [(0, .g ([.i .i64, .i .i64, .i .i64, .sl 66, .sl 68])), (1, .c (.sl 3))], mem := [] }
noncomputable def A77x0 (N : Nat) (L : List Lf) : List (Bool × Res) := bnd (F77x0 N (li L 1) (ll L 4) (ll L 8) (fun p => some p)) fun q => [(q.isSome, ([.c (.b (q.getD default))], []))]
theorem raw77x0 (N : Nat) (L : List Lf) : (body Try.prog (T65x0 N) (h77x0s1 N) 200 77 (valsOf (ofSh sh77x0 L).tmps) (ofSh sh77x0 L).mem : Option Res) = F77x0 N (li L 1) (ll L 4) (ll L 8) (fun p => some ([.c (.b p)], [])) := by kernel_rfl
theorem ok77x0 (N : Nat) : ∀ args mem alts, spSh sh77x0 (A77x0 N) args mem = some alts → ∀ res, altK alts some = some res → CallOk Try.prog 77 args mem res :=
  spSh_law fun L x hx => callOk_of (n := 200) progOk (T65x0_ok N) (al77x0s1 N) rfl ((raw77x0 N L).trans ((bind77x0 N ..).trans (alt1 x hx)))
noncomputable def T77x0 (N : Nat) : Oracle := ext 77 (spSh sh77x0 (A77x0 N)) (T65x0 N)
theorem T77x0_ok (N : Nat) : OracleOk Try.prog (T77x0 N) := ext_ok (T65x0_ok N) (enters_of (by kernel_rfl)) (ok77x0 N)
noncomputable def rg46x0 : List (Nat × List Nat) := [(0, [0, 1]), (1, [2, 1]), (2, [5, 2, 1]), (3, [5]), (4, [2, 1]), (5, []), (6, [])]
noncomputable def hd46x0 : Hints := []
noncomputable def h46x0s0 (N : Nat) : Hint := { loops := hd46x0, regs := rg46x0, los := [] }
theorem al46x0s0 (N : Nat) : AllCuts Try.prog (h46x0s0 N).los 0 46 := AllCuts.nil
noncomputable def F46x0 (N : Nat) {R : Type} (v0 v1 v2 : Int) (v4 v6 v8 : LD) (k0 : Int → Option R) : Option R :=
  bnd (G19x0 N v0 v1 v2 v4 v6) fun y0 =>
  bif y0.isSome then
    bif ((y0.getD default) != 0) then
      k0 (y0.getD default)
    else
      bnd (G77x0 N v1 v4 v8) fun y1 =>
      bif y1.isSome then
        bif (!(y1.getD default)) then
          k0 2
        else
          k0 0
      else
        none
  else
    none
noncomputable def G46x0 (N : Nat) (v0 v1 v2 : Int) (v4 v6 v8 : LD) : Option (Int) := F46x0 N v0 v1 v2 v4 v6 v8 (fun p => some p)
theorem bind46x0 (N : Nat) {R : Type} (v0 v1 v2 : Int) (v4 v6 v8 : LD) (k0 : Int → Option R) : F46x0 N v0 v1 v2 v4 v6 v8 k0 = (G46x0 N v0 v1 v2 v4 v6 v8).bind k0 := by
  unfold G46x0 F46x0
  repeat' (first | rfl | apply cond_b | (apply bnd_b; intro _))
noncomputable def J46x0 (N : Nat) (L : List Lf) {R : Type} (k0 : Int → Option R) : Option R := F46x0 N (li L 0) (li L 1) (li L 2) (ll L 4) (ll L 6) (ll L 8) k0
noncomputable def sh46x0 : Sh := { tmps := [(0, .g ([.i .i64, .i .i64, .i .i64, .sl 66, .sl 68])), (1, .c (.sl 3))], mem := [] }
noncomputable def A46x0 (N : Nat) (L : List Lf) : List (Bool × Res) := bnd (J46x0 N L (fun p => some p)) fun q => [(q.isSome, ([.c (.i .i64 (q.getD default))], []))]
theorem raw46x0 (N : Nat) (L : List Lf) : (body Try.prog (T77x0 N) (h46x0s0 N) 200 46 (valsOf (ofSh sh46x0 L).tmps) (ofSh sh46x0 L).mem : Option Res) = J46x0 N L (fun p => some ([.c (.i .i64 p)], [])) := by kernel_rfl
theorem ok46x0 (N : Nat) : ∀ args mem alts, spSh sh46x0 (A46x0 N) args mem = some alts → ∀ res, altK alts some = some res → CallOk Try.prog 46 args mem res :=
  spSh_law fun L x hx => callOk_of (n := 200) progOk (T77x0_ok N) (al46x0s0 N) rfl ((raw46x0 N L).trans ((bind46x0 N ..).trans (alt1 x hx)))
noncomputable def T46x0 (N : Nat) : Oracle := ext 46 (spSh sh46x0 (A46x0 N)) (T77x0 N)
theorem T46x0_ok (N : Nat) : OracleOk Try.prog (T46x0 N) := ext_ok (T77x0_ok N) (enters_of (by kernel_rfl)) (ok46x0 N)
noncomputable def rg57x0 : List (Nat × List Nat) := [(0, [0, 1]), (1, [2, 1]), (2, [5, 1, 2]), (3, [5]), (4, [1, 2]), (5, []), (6, [])]
noncomputable def hd57x0 : Hints := []
noncomputable def h57x0s0 (N : Nat) : Hint := { loops := hd57x0, regs := rg57x0, los := [] }
theorem al57x0s0 (N : Nat) : AllCuts Try.prog (h57x0s0 N).los 0 57 := AllCuts.nil
noncomputable def F57x0 (N : Nat) {R : Type} (v0 v1 v2 : Int) (v4 v6 v8 : LD) (k0 : Int → Option R) : Option R :=
  bnd (G46x0 N v0 v1 v2 v4 v6 v8) fun y0 =>
  bif y0.isSome then
    bif ((y0.getD default) != 0) then
      k0 (y0.getD default)
    else
      bif ((v8.length : Int) != v1) then
        k0 2
      else
        k0 0
  else
    none
noncomputable def G57x0 (N : Nat) (v0 v1 v2 : Int) (v4 v6 v8 : LD) : Option (Int) := F57x0 N v0 v1 v2 v4 v6 v8 (fun p => some p)
theorem bind57x0 (N : Nat) {R : Type} (v0 v1 v2 : Int) (v4 v6 v8 : LD) (k0 : Int → Option R) : F57x0 N v0 v1 v2 v4 v6 v8 k0 = (G57x0 N v0 v1 v2 v4 v6 v8).bind k0 := by
  unfold G57x0 F57x0
  repeat' (first | rfl | apply cond_b | (apply bnd_b; intro _))
noncomputable def J57x0 (N : Nat) (L : List Lf) {R : Type} (k0 : Int → Option R) : Option R := F57x0 N (li L 0) (li L 1) (li L 2) (ll L 4) (ll L 6) (ll L 8) k0
noncomputable def sh57x0 : Sh := { tmps := [(0, .g ([.i .i64, .i .i64, .i .i64, .sl 66, .sl 68])), (1, .c (.sl 3))], mem := [] }
noncomputable def A57x0 (N : Nat) (L : List Lf) : List (Bool × Res) := bnd (J57x0 N L (fun p => some p)) fun q => [(q.isSome, ([.c (.i .i64 (q.getD default))], []))]
theorem raw57x0 (N : Nat) (L : List Lf) : (body Try.prog (T46x0 N) (h57x0s0 N) 200 57 (valsOf (ofSh sh57x0 L).tmps) (ofSh sh57x0 L).mem : Option Res) = J57x0 N L (fun p => some ([.c (.i .i64 p)], [])) := by kernel_rfl
theorem ok57x0 (N : Nat) : ∀ args mem alts, spSh sh57x0 (A57x0 N) args mem = some alts → ∀ res, altK alts some = some res → CallOk Try.prog 57 args mem res :=
  spSh_law fun L x hx => callOk_of (n := 200) progOk (T46x0_ok N) (al57x0s0 N) rfl ((raw57x0 N L).trans ((bind57x0 N ..).trans (alt1 x hx)))
noncomputable def T57x0 (N : Nat) : Oracle := ext 57 (spSh sh57x0 (A57x0 N)) (T46x0 N)
theorem T57x0_ok (N : Nat) : OracleOk Try.prog (T57x0 N) := ext_ok (T46x0_ok N) (enters_of (by kernel_rfl)) (ok57x0 N)
noncomputable def rg79x0 : List (Nat × List Nat) := [(0, [0]), (1, [0, 2])]
noncomputable def hd79x0 : Hints := []
noncomputable def h79x0s0 (N : Nat) : Hint := { loops := hd79x0, regs := rg79x0, los := [] }
theorem al79x0s0 (N : Nat) : AllCuts Try.prog (h79x0s0 N).los 1 79 := AllCuts.nil
noncomputable def F79x0 (N : Nat) {R : Type} (k0 : Unit → R) : R :=
  k0 ()
noncomputable def V79x0 (N : Nat) : Unit := F79x0 N (fun p => p)
theorem tot79x0 (N : Nat) {R : Type} (k0 : Unit → R) : F79x0 N k0 = k0 (V79x0 N) := by
  unfold V79x0 F79x0
  repeat' (first | rfl | apply cond_k | (apply bnd_k; intro _))
noncomputable def sh79x0 : Sh := { tmps := [(0, .c (.p 0 0))], mem := [(0, .box (.i .i64 :: .i .i64 :: .i .i64 :: .sl 66 :: .sl 68 :: rB 12 ([])))] }
noncomputable def K79x0w0 (L : List Lf) (_ : Unit) : Res := ([.g [.i .i64 0, .i .i64 0, .i .i64 (li L 2), .i .i64 0, .i .i64 0, .i .i64 0, .i .i64 0, .i .i64 0, .i .i64 0, .i .i64 0, .i .i64 0, .i .i64 0, .i .i64 0, .i .i64 0, .i .i64 0, .i .i64 0, .i .i64 0, .i .i64 0, .i .i64 0, .i .i64 0]], [(0, .box (.i .i64 (li L 0) :: .i .i64 (li L 1) :: .i .i64 (li L 2) :: .sl 66 (lb L 3) (ll L 4) :: .sl 68 (lb L 5) (ll L 6) :: rM L 7 12 ([])))])
noncomputable def A79x0 (N : Nat) (L : List Lf) : List (Bool × Res) := [(true, K79x0w0 L ())]
theorem raw79x0 (N : Nat) (L : List Lf) : (body Try.prog (T57x0 N) (h79x0s0 N) 200 79 (valsOf (ofSh sh79x0 L).tmps) (ofSh sh79x0 L).mem : Option Res) = F79x0 N (fun _ => some (K79x0w0 L ())) := by kernel_rfl
theorem ok79x0 (N : Nat) : ∀ args mem alts, spSh sh79x0 (A79x0 N) args mem = some alts → ∀ res, altK alts some = some res → CallOk Try.prog 79 args mem res :=
  spSh_law fun L x hx => callOk_of (n := 200) progOk (T57x0_ok N) (al79x0s0 N) rfl ((raw79x0 N L).trans ((tot79x0 N ..).trans (alt0 _ _ hx)))
noncomputable def T79x0 (N : Nat) : Oracle := ext 79 (spSh sh79x0 (A79x0 N)) (T57x0 N)
theorem T79x0_ok (N : Nat) : OracleOk Try.prog (T79x0 N) := ext_ok (T57x0_ok N) (enters_of (by kernel_rfl)) (ok79x0 N)
noncomputable def rg89x0 : List (Nat × List Nat) := [(0, [1, 0]), (1, [1, 0]), (2, [0, 1]), (3, [0])]
noncomputable def hd89x0 : Hints := []
noncomputable def h89x0s0 (N : Nat) : Hint := { loops := hd89x0, regs := rg89x0, los := [] }
theorem al89x0s0 (N : Nat) : AllCuts Try.prog (h89x0s0 N).los 2 89 := AllCuts.nil
noncomputable def F89x0 (N : Nat) {R : Type} (v0 : Int) (v5 v21 : LD) (k0 : Int × Int → Option R) : Option R :=
  bif (decide (v0 < (v21.length : Int))) then
    bif (inB v0 v21.length) then
      bif (inB v0 v21.length) then
        k0 ((v21.getD v0.toNat (.i 0)).toI, (v21.getD v0.toNat (.i 0)).toI)
      else
        none
    else
      none
  else
    k0 ((-1), (IntKind.wrap .i64 ((v5.length : Int) - 1)))
noncomputable def G89x0 (N : Nat) (v0 : Int) (v5 v21 : LD) : Option (Int × Int) := F89x0 N v0 v5 v21 (fun p => some p)
theorem bind89x0 (N : Nat) {R : Type} (v0 : Int) (v5 v21 : LD) (k0 : Int × Int → Option R) : F89x0 N v0 v5 v21 k0 = (G89x0 N v0 v5 v21).bind k0 := by
  unfold G89x0 F89x0
  repeat' (first | rfl | apply cond_b | (apply bnd_b; intro _))
noncomputable def sh89x0 : Sh := { tmps := [(0, .c (.p 0 0)), (1, .c (.i .i64))], mem := [(0, .box (.i .i64 :: .i .i64 :: .i .i64 :: .sl 66 :: .sl 68 :: rB 12 ([.sl 3, .sl 3, .m 1]))), (1, .map 106 59)] }
noncomputable def K89x0w0 (L : List Lf) (p : Int × Int) : Res := ([.c (.i .i64 p.1), .c (.i .i64 p.2)], [(0, .box (.i .i64 (li L 1) :: .i .i64 (li L 2) :: .i .i64 (li L 3) :: .sl 66 (lb L 4) (ll L 5) :: .sl 68 (lb L 6) (ll L 7) :: rM L 8 12 ([.sl 3 (lb L 20) (ll L 21), .sl 3 (lb L 22) (ll L 23), .m 1]))), (1, .map 106 59 (lm L 24))])
noncomputable def A89x0 (N : Nat) (L : List Lf) : List (Bool × Res) := bnd (F89x0 N (li L 0) (ll L 5) (ll L 21) (fun p => some p)) fun q => [(q.isSome, K89x0w0 L (q.getD default))]
theorem raw89x0 (N : Nat) (L : List Lf) : (body Try.prog (T79x0 N) (h89x0s0 N) 200 89 (valsOf (ofSh sh89x0 L).tmps) (ofSh sh89x0 L).mem : Option Res) = F89x0 N (li L 0) (ll L 5) (ll L 21) (fun p => some (K89x0w0 L p)) := by kernel_rfl
theorem ok89x0 (N : Nat) : ∀ args mem alts, spSh sh89x0 (A89x0 N) args mem = some alts → ∀ res, altK alts some = some res → CallOk Try.prog 89 args mem res :=
  spSh_law fun L x hx => callOk_of (n := 200) progOk (T79x0_ok N) (al89x0s0 N) rfl ((raw89x0 N L).trans ((bind89x0 N ..).trans (alt1 x hx)))
noncomputable def T89x0 (N : Nat) : Oracle := ext 89 (spSh sh89x0 (A89x0 N)) (T79x0 N)
theorem T89x0_ok (N : Nat) : OracleOk Try.prog (T89x0 N) := ext_ok (T79x0_ok N) (enters_of (by kernel_rfl)) (ok89x0 N)
noncomputable def rg70x0 : List (Nat × List Nat) := [(0, [0, 1]), (1, [1, 4, 2]), (2, [4]), (3, [2, 1, 4])]
noncomputable def hd70x0 : Hints := []
noncomputable def h70x0s0 (N : Nat) : Hint := { loops := hd70x0, regs := rg70x0, los := [] }
theorem al70x0s0 (N : Nat) : AllCuts Try.prog (h70x0s0 N).los 0 70 := AllCuts.nil
noncomputable def F70x0 (N : Nat) {R : Type} (v4 : LD) (v7 : Int) (k0 : Ty11 → Option R) : Option R :=
  bif (decide (v7 < 0)) then
    k0 (([] : List UInt8), 0, 0, 0, false)
  else
    bif (inB v7 v4.length) then
      k0 (((v4.getD v7.toNat (.i 0)).cell 0).toS, ((v4.getD v7.toNat (.i 0)).cell 1).toI, ((v4.getD v7.toNat (.i 0)).cell 2).toI, ((v4.getD v7.toNat (.i 0)).cell 3).toI, ((v4.getD v7.toNat (.i 0)).cell 4).toB)
    else
      none
noncomputable def G70x0 (N : Nat) (v4 : LD) (v7 : Int) : Option (Ty11) := F70x0 N v4 v7 (fun p => some p)
theorem bind70x0 (N : Nat) {R : Type} (v4 : LD) (v7 : Int) (k0 : Ty11 → Option R) : F70x0 N v4 v7 k0 = (G70x0 N v4 v7).bind k0 := by
  unfold G70x0 F70x0
  repeat' (first | rfl | apply cond_b | (apply bnd_b; intro _))
noncomputable def sh70x0 : Sh := { tmps := [(0, .g ([.i .i64, .i .i64, .i .i64, .sl 66, .sl 68])), (1, .c (.i .i64))], mem := [] }
noncomputable def K70x0w0 (L : List Lf) (p : Ty11) : Res := ([.g [.s p.1, .i .i64 p.2.1, .i .i64 p.2.2.1, .i .i64 p.2.2.2.1, .b p.2.2.2.2]], [])
noncomputable def A70x0 (N : Nat) (L : List Lf) : List (Bool × Res) := bnd (F70x0 N (ll L 4) (li L 7) (fun p => some p)) fun q => [(q.isSome, K70x0w0 L (q.getD default))]
theorem raw70x0 (N : Nat) (L : List Lf) : (body Try.prog (T89x0 N) (h70x0s0 N) 200 70 (valsOf (ofSh sh70x0 L).tmps) (ofSh sh70x0 L).mem : Option Res) = F70x0 N (ll L 4) (li L 7) (fun p => some (K70x0w0 L p)) := by kernel_rfl
theorem ok70x0 (N : Nat) : ∀ args mem alts, spSh sh70x0 (A70x0 N) args mem = some alts → ∀ res, altK alts some = some res → CallOk Try.prog 70 args mem res :=
  spSh_law fun L x hx => callOk_of (n := 200) progOk (T89x0_ok N) (al70x0s0 N) rfl ((raw70x0 N L).trans ((bind70x0 N ..).trans (alt1 x hx)))
noncomputable def T70x0 (N : Nat) : Oracle := ext 70 (spSh sh70x0 (A70x0 N)) (T89x0 N)
theorem T70x0_ok (N : Nat) : OracleOk Try.prog (T70x0 N) := ext_ok (T89x0_ok N) (enters_of (by kernel_rfl)) (ok70x0 N)
noncomputable def rg49x0 : List (Nat × List Nat) := [(0, [0, 1]), (1, [2, 1])]
noncomputable def hd49x0 : Hints := []
noncomputable def h49x0s0 (N : Nat) : Hint := { loops := hd49x0, regs := rg49x0, los := [] }
theorem al49x0s0 (N : Nat) : AllCuts Try.prog (h49x0s0 N).los 0 49 := AllCuts.nil
noncomputable def F49x0 (N : Nat) {R : Type} (v0 v7 : Int) (k0 : Int → R) : R :=
  k0 ((IntKind.wrap .i64 (v0 + v7)).tmod 7)
noncomputable def V49x0 (N : Nat) (v0 v7 : Int) : Int := F49x0 N v0 v7 (fun p => p)
theorem tot49x0 (N : Nat) {R : Type} (v0 v7 : Int) (k0 : Int → R) : F49x0 N v0 v7 k0 = k0 (V49x0 N v0 v7) := by
  unfold V49x0 F49x0
  repeat' (first | rfl | apply cond_k | (apply bnd_k; intro _))
noncomputable def sh49x0 : Sh := { tmps := [(0, .g ([.i .i64, .i .i64, .i .i64, .sl 66, .sl 68])), (1, .c (.i .i64))], mem := [] }
noncomputable def A49x0 (N : Nat) (L : List Lf) : List (Bool × Res) := bnd (F49x0 N (li L 0) (li L 7) (fun p => p)) fun q => [(true, ([.c (.i .i64 q)], []))]
theorem raw49x0 (N : Nat) (L : List Lf) : (body Try.prog (T70x0 N) (h49x0s0 N) 200 49 (valsOf (ofSh sh49x0 L).tmps) (ofSh sh49x0 L).mem : Option Res) = F49x0 N (li L 0) (li L 7) (fun p => some ([.c (.i .i64 p)], [])) := by kernel_rfl
theorem ok49x0 (N : Nat) : ∀ args mem alts, spSh sh49x0 (A49x0 N) args mem = some alts → ∀ res, altK alts some = some res → CallOk Try.prog 49 args mem res :=
  spSh_law fun L x hx => callOk_of (n := 200) progOk (T70x0_ok N) (al49x0s0 N) rfl ((raw49x0 N L).trans ((tot49x0 N ..).trans (alt0 _ _ hx)))
noncomputable def T49x0 (N : Nat) : Oracle := ext 49 (spSh sh49x0 (A49x0 N)) (T70x0 N)
theorem T49x0_ok (N : Nat) : OracleOk Try.prog (T49x0 N) := ext_ok (T70x0_ok N) (enters_of (by kernel_rfl)) (ok49x0 N)
noncomputable def rg95x0 : List (Nat × List Nat) := [(0, [1, 0, 2, 3, 4, 5]), (1, [0, 2, 3, 7, 4, 5]), (2, [0, 3, 7, 13, 4, 5, 2]), (3, [7, 13, 3, 0, 14, 4, 5, 2]), (4, [13, 3, 0, 15, 14, 7, 4, 5, 2]), (5, [34, 3, 0, 15, 13, 14, 7, 4, 5, 2]), (7, [34, 3, 14, 13, 0, 15, 7, 4, 5, 2]), (9, [34, 7, 13, 4, 14, 15, 0, 5, 3, 2]), (11, [34, 4, 7, 13, 14, 15, 0, 5, 3, 2]), (13, [34, 14, 7, 15, 13, 0, 4, 5, 3, 2]), (15, [34, 0, 13, 7, 4, 5, 15, 3, 2]), (18, [34, 5, 7, 13, 15, 3, 0, 2]), (20, [34, 15, 13, 3, 0, 2, 7]), (21, [15, 13, 3, 0]), (19, [5, 7, 13]), (16, [0, 13, 7, 4]), (17, [16, 13, 4]), (14, [14, 7, 15, 13]), (12, [4, 7, 13]), (10, [7, 13]), (8, [3, 14, 13, 0, 15]), (6, [3, 0, 15, 13]), (22, [2, 7, 13])]
noncomputable def hd95x0 : Hints := [(19, [3, 0, 15, 13], [14, 0], []), (25, [3, 14, 13, 0, 15], [15, 14, 0], []), (64, [15, 13, 3, 0], [14, 0], [])]
noncomputable def h95x0s0 (N : Nat) : Hint := { loops := hd95x0, regs := rg95x0, los := [] }
theorem al95x0s0 (N : Nat) : AllCuts Try.prog (h95x0s0 N).los 1 95 := AllCuts.nil
noncomputable def F95x0x19 (N : Nat) {R : Type} (w0 w1 w2 w22 : Int) (k0 : Bool → R) : R :=
  bif (decide (w0 < 0)) then
    k0 true
  else
    bnd (V49x0 N w2 w1) fun y0 =>
    k0 (y0 != w22)
noncomputable def V95x0x19 (N : Nat) (w0 w1 w2 w22 : Int) : Bool := F95x0x19 N w0 w1 w2 w22 (fun p => p)
theorem tot95x0x19 (N : Nat) {R : Type} (w0 w1 w2 w22 : Int) (k0 : Bool → R) : F95x0x19 N w0 w1 w2 w22 k0 = k0 (V95x0x19 N w0 w1 w2 w22) := by
  unfold V95x0x19 F95x0x19
  repeat' (first | rfl | apply cond_k | (apply bnd_k; intro _))
noncomputable def J95x0x19 (N : Nat) (L : List Lf) {R : Type} (k0 : Bool → R) : R := F95x0x19 N (li L 0) (li L 1) (li L 2) (li L 22) k0
noncomputable def sh95x0x19 : Sh := { tmps := [(0, .c (.p 0 0)), (3, .c (.i .i64)), (13, .c (.p 14 0)), (15, .c (.i .i64))], mem := [(0, .box (.i .i64 :: .i .i64 :: .i .i64 :: .sl 66 :: .sl 68 :: rB 12 ([]))), (14, .box (rI 5 ([.s])))] }
noncomputable def K95x0x19w0 (L : List Lf) (p : Bool) : Ex × St := (.normal, ⟨[(12, .c (.b p))], [(0, .box (.i .i64 (li L 2) :: .i .i64 (li L 3) :: .i .i64 (li L 4) :: .sl 66 (lb L 5) (ll L 6) :: .sl 68 (lb L 7) (ll L 8) :: rM L 9 12 ([])))]⟩)
noncomputable def A95x0x19 (N : Nat) (L : List Lf) : List (Bool × (Ex × St)) := bnd (J95x0x19 N L (fun p => p)) fun q => [(true, K95x0x19w0 L q)]
theorem raw95x0x19 (N : Nat) (L : List Lf) : (exec Try.prog (T49x0 N) (h95x0s0 N) 1 100 (piece Try.prog 95 19) (ofSh sh95x0x19 L) (fun e st => some (e, cutSt [12] [0] st)) : Option (Ex × St)) = J95x0x19 N L (fun p => some (K95x0x19w0 L p)) := by kernel_rfl
theorem one95x0x19 : oneB Try.prog 95 19 = true := by kernel_rfl
theorem law95x0x19 (N : Nat) : CutLaw Try.prog 1 (piece Try.prog 95 19) (loSh sh95x0x19 (A95x0x19 N)) :=
  law_sh progOk (T49x0_ok N) (al95x0s0 N) one95x0x19 fun L x hx => (raw95x0x19 N L).trans ((tot95x0x19 N ..).trans (alt0 _ _ hx))
noncomputable def h95x0s1 (N : Nat) : Hint := { (h95x0s0 N) with los := (19, loSh sh95x0x19 (A95x0x19 N)) :: (h95x0s0 N).los }
theorem al95x0s1 (N : Nat) : AllCuts Try.prog (h95x0s1 N).los 1 95 := AllCuts.cons (al95x0s0 N) one95x0x19 (law95x0x19 N)
noncomputable def F95x0x25 (N : Nat) {R : Type} (w0 w1 w2 w22 w23 w29 : Int) (k0 : Bool → R) : R :=
  bif (decide (w0 < 0)) then
    k0 true
  else
    bif (decide (w29 ≤ w23)) then
      k0 true
    else
      bnd (V49x0 N w2 w1) fun y0 =>
      k0 (y0 != w22)
noncomputable def V95x0x25 (N : Nat) (w0 w1 w2 w22 w23 w29 : Int) : Bool := F95x0x25 N w0 w1 w2 w22 w23 w29 (fun p => p)
theorem tot95x0x25 (N : Nat) {R : Type} (w0 w1 w2 w22 w23 w29 : Int) (k0 : Bool → R) : F95x0x25 N w0 w1 w2 w22 w23 w29 k0 = k0 (V95x0x25 N w0 w1 w2 w22 w23 w29) := by
  unfold V95x0x25 F95x0x25
  repeat' (first | rfl | apply cond_k | (apply bnd_k; intro _))
noncomputable def J95x0x25 (N : Nat) (L : List Lf) {R : Type} (k0 : Bool → R) : R := F95x0x25 N (li L 0) (li L 1) (li L 2) (li L 22) (li L 23) (li L 29) k0
noncomputable def sh95x0x25 : Sh := { tmps := [(0, .c (.p 0 0)), (3, .c (.i .i64)), (13, .c (.p 14 0)), (14, .c (.p 15 0)), (15, .c (.i .i64))], mem := [(0, .box (.i .i64 :: .i .i64 :: .i .i64 :: .sl 66 :: .sl 68 :: rB 12 ([]))), (14, .box (rI 5 ([.s]))), (15, .box ([.s, .i .i64, .i .i64, .i .i64, .b]))] }
noncomputable def K95x0x25w0 (L : List Lf) (p : Bool) : Ex × St := (.normal, ⟨[(12, .c (.b p))], [(0, .box (.i .i64 (li L 2) :: .i .i64 (li L 3) :: .i .i64 (li L 4) :: .sl 66 (lb L 5) (ll L 6) :: .sl 68 (lb L 7) (ll L 8) :: rM L 9 12 ([])))]⟩)
noncomputable def A95x0x25 (N : Nat) (L : List Lf) : List (Bool × (Ex × St)) := bnd (J95x0x25 N L (fun p => p)) fun q => [(true, K95x0x25w0 L q)]
theorem raw95x0x25 (N : Nat) (L : List Lf) : (exec Try.prog (T49x0 N) (h95x0s1 N) 1 100 (piece Try.prog 95 25) (ofSh sh95x0x25 L) (fun e st => some (e, cutSt [12] [0] st)) : Option (Ex × St)) = J95x0x25 N L (fun p => some (K95x0x25w0 L p)) := by kernel_rfl
theorem one95x0x25 : oneB Try.prog 95 25 = true := by kernel_rfl
theorem law95x0x25 (N : Nat) : CutLaw Try.prog 1 (piece Try.prog 95 25) (loSh sh95x0x25 (A95x0x25 N)) :=
  law_sh progOk (T49x0_ok N) (al95x0s1 N) one95x0x25 fun L x hx => (raw95x0x25 N L).trans ((tot95x0x25 N ..).trans (alt0 _ _ hx))
noncomputable def h95x0s2 (N : Nat) : Hint := { (h95x0s1 N) with los := (25, loSh sh95x0x25 (A95x0x25 N)) :: (h95x0s1 N).los }
theorem al95x0s2 (N : Nat) : AllCuts Try.prog (h95x0s2 N).los 1 95 := AllCuts.cons (al95x0s1 N) one95x0x25 (law95x0x25 N)
noncomputable def F95x0x64 (N : Nat) {R : Type} (w0 w1 : Int) (w6 : LD) (w22 : Int) (w26 : LB) (k0 : Bool → Option R) : Option R :=
  bif (w1 != w22) then
    k0 true
  else
    bnd (G52x0 N w6 w26) fun y0 =>
    bif y0.isSome then
      k0 (w0 == (y0.getD default))
    else
      none
noncomputable def G95x0x64 (N : Nat) (w0 w1 : Int) (w6 : LD) (w22 : Int) (w26 : LB) : Option (Bool) := F95x0x64 N w0 w1 w6 w22 w26 (fun p => some p)
theorem bind95x0x64 (N : Nat) {R : Type} (w0 w1 : Int) (w6 : LD) (w22 : Int) (w26 : LB) (k0 : Bool → Option R) : F95x0x64 N w0 w1 w6 w22 w26 k0 = (G95x0x64 N w0 w1 w6 w22 w26).bind k0 := by
  unfold G95x0x64 F95x0x64
  repeat' (first | rfl | apply cond_b | (apply bnd_b; intro _))
noncomputable def J95x0x64 (N : Nat) (L : List Lf) {R : Type} (k0 : Bool → Option R) : Option R := F95x0x64 N (li L 0) (li L 1) (ll L 6) (li L 22) (ls L 26) k0
noncomputable def sh95x0x64 : Sh := { tmps := [(0, .c (.p 0 0)), (3, .c (.i .i64)), (13, .c (.p 14 0)), (15, .c (.i .i64))], mem := [(0, .box (.i .i64 :: .i .i64 :: .i .i64 :: .sl 66 :: .sl 68 :: rB 12 ([]))), (14, .box (rI 5 ([.s])))] }
noncomputable def K95x0x64w0 (L : List Lf) (p : Bool) : Ex × St := (.normal, ⟨[(12, .c (.b p))], [(0, .box (.i .i64 (li L 2) :: .i .i64 (li L 3) :: .i .i64 (li L 4) :: .sl 66 (lb L 5) (ll L 6) :: .sl 68 (lb L 7) (ll L 8) :: rM L 9 12 ([])))]⟩)
noncomputable def A95x0x64 (N : Nat) (L : List Lf) : List (Bool × (Ex × St)) := bnd (J95x0x64 N L (fun p => some p)) fun q => [(q.isSome, K95x0x64w0 L (q.getD default))]
theorem raw95x0x64 (N : Nat) (L : List Lf) : (exec Try.prog (T49x0 N) (h95x0s2 N) 1 100 (piece Try.prog 95 64) (ofSh sh95x0x64 L) (fun e st => some (e, cutSt [12] [0] st)) : Option (Ex × St)) = J95x0x64 N L (fun p => some (K95x0x64w0 L p)) := by kernel_rfl
theorem one95x0x64 : oneB Try.prog 95 64 = true := by kernel_rfl
theorem law95x0x64 (N : Nat) : CutLaw Try.prog 1 (piece Try.prog 95 64) (loSh sh95x0x64 (A95x0x64 N)) :=
  law_sh progOk (T49x0_ok N) (al95x0s2 N) one95x0x64 fun L x hx => (raw95x0x64 N L).trans ((bind95x0x64 N ..).trans (alt1 x hx))
noncomputable def h95x0s3 (N : Nat) : Hint := { (h95x0s2 N) with los := (64, loSh sh95x0x64 (A95x0x64 N)) :: (h95x0s2 N).los }
theorem al95x0s3 (N : Nat) : AllCuts Try.prog (h95x0s3 N).los 1 95 := AllCuts.cons (al95x0s2 N) one95x0x64 (law95x0x64 N)
noncomputable def F95x0 (N : Nat) {R : Type} (v0 v1 v2 v3 v4 v5 v6 v7 v8 v9 v10 v11 v12 v13 v14 v15 v16 v17 v18 v19 v20 v21 : Int) (v22 v23 : Bool) (v24 : Int) (v28 v30 : LD) (k0 : Bool → Option R) : Option R :=
  bif (inB v20 v30.length) then
    bnd (G70x0 N v28 v21) fun y0 =>
    bif y0.isSome then
      bif (((v30.getD v20.toNat (.i 0)).cell 0).toI == 1) then
        bnd (V95x0x19 N v21 v0 v24 ((v30.getD v20.toNat (.i 0)).cell 1).toI) fun y1 =>
        k0 y1
      else
        bif (((v30.getD v20.toNat (.i 0)).cell 0).toI == 2) then
          bnd (V95x0x25 N v21 v0 v24 ((v30.getD v20.toNat (.i 0)).cell 1).toI ((v30.getD v20.toNat (.i 0)).cell 2).toI (y0.getD default).2.2.1) fun y2 =>
          k0 y2
        else
          bif (((v30.getD v20.toNat (.i 0)).cell 0).toI == 3) then
            k0 (decide (v1 ≤ ((v30.getD v20.toNat (.i 0)).cell 2).toI))
          else
            bif (((v30.getD v20.toNat (.i 0)).cell 0).toI == 4) then
              bnd (bif (!v22) then true else (decide (v1 ≥ ((v30.getD v20.toNat (.i 0)).cell 2).toI))) fun y3 =>
              k0 y3
            else
              bif (((v30.getD v20.toNat (.i 0)).cell 0).toI == 5) then
                bnd (bif (!(y0.getD default).2.2.2.2) then true else (v3 == 0)) fun y4 =>
                bnd (bif y4 then true else (decide ((IntKind.wrap .i64 ((IntKind.wrap .i64 (v0 + 1)) - v3)) ≥ ((v30.getD v20.toNat (.i 0)).cell 2).toI))) fun y5 =>
                k0 y5
              else
                bif (((v30.getD v20.toNat (.i 0)).cell 0).toI == 6) then
                  bnd (G52x0 N v28 ((v30.getD v20.toNat (.i 0)).cell 5).toS) fun y6 =>
                  bif y6.isSome then
                    bif (inB (y6.getD default) 4) then
                      bnd (bif (Nat.beq (y6.getD default).toNat 0) then v4 else (bif (Nat.beq (y6.getD default).toNat 1) then v5 else (bif (Nat.beq (y6.getD default).toNat 2) then v6 else v7))) fun y7 =>
                      bnd (decide (y7 ≤ ((v30.getD v20.toNat (.i 0)).cell 4).toI)) fun y8 =>
                      bnd (bif y8 then (bif (!v22) then true else (decide (y7 ≥ ((v30.getD v20.toNat (.i 0)).cell 3).toI))) else false) fun y9 =>
                      k0 y9
                    else
                      none
                  else
                    none
                else
                  bif (((v30.getD v20.toNat (.i 0)).cell 0).toI == 7) then
                    bnd (bif (!v23) then true else (decide ((IntKind.wrap .i64 (100 * v1)) ≤ (IntKind.wrap .i64 (((v30.getD v20.toNat (.i 0)).cell 2).toI * v2))))) fun y10 =>
                    k0 y10
                  else
                    bif (((v30.getD v20.toNat (.i 0)).cell 0).toI == 8) then
                      bnd (G95x0x64 N v21 v0 v28 ((v30.getD v20.toNat (.i 0)).cell 1).toI ((v30.getD v20.toNat (.i 0)).cell 5).toS) fun y11 =>
                      bif y11.isSome then
                        k0 (y11.getD default)
                      else
                        none
                    else
                      bif (inB v20 12) then
                        bnd (bif (Nat.beq v20.toNat 0) then v8 else (bif (Nat.beq v20.toNat 1) then v9 else (bif (Nat.beq v20.toNat 2) then v10 else (bif (Nat.beq v20.toNat 3) then v11 else (bif (Nat.beq v20.toNat 4) then v12 else (bif (Nat.beq v20.toNat 5) then v13 else (bif (Nat.beq v20.toNat 6) then v14 else (bif (Nat.beq v20.toNat 7) then v15 else (bif (Nat.beq v20.toNat 8) then v16 else (bif (Nat.beq v20.toNat 9) then v17 else (bif (Nat.beq v20.toNat 10) then v18 else v19))))))))))) fun y12 =>
                        bnd (decide (y12 ≤ ((v30.getD v20.toNat (.i 0)).cell 2).toI)) fun y13 =>
                        k0 y13
                      else
                        none
    else
      none
  else
    none
noncomputable def G95x0 (N : Nat) (v0 v1 v2 v3 v4 v5 v6 v7 v8 v9 v10 v11 v12 v13 v14 v15 v16 v17 v18 v19 v20 v21 : Int) (v22 v23 : Bool) (v24 : Int) (v28 v30 : LD) : Option (Bool) := F95x0 N v0 v1 v2 v3 v4 v5 v6 v7 v8 v9 v10 v11 v12 v13 v14 v15 v16 v17 v18 v19 v20 v21 v22 v23 v24 v28 v30 (fun p => some p)
theorem bind95x0 (N : Nat) {R : Type} (v0 v1 v2 v3 v4 v5 v6 v7 v8 v9 v10 v11 v12 v13 v14 v15 v16 v17 v18 v19 v20 v21 : Int) (v22 v23 : Bool) (v24 : Int) (v28 v30 : LD) (k0 : Bool → Option R) : F95x0 N v0 v1 v2 v3 v4 v5 v6 v7 v8 v9 v10 v11 v12 v13 v14 v15 v16 v17 v18 v19 v20 v21 v22 v23 v24 v28 v30 k0 = (G95x0 N v0 v1 v2 v3 v4 v5 v6 v7 v8 v9 v10 v11 v12 v13 v14 v15 v16 v17 v18 v19 v20 v21 v22 v23 v24 v28 v30).bind k0 := by
  unfold G95x0 F95x0
  repeat' (first | rfl | apply cond_b | (apply bnd_b; intro _))
noncomputable def J95x0 (N : Nat) (L : List Lf) {R : Type} (k0 : Bool → Option R) : Option R := F95x0 N (li L 0) (li L 1) (li L 2) (li L 3) (li L 4) (li L 5) (li L 6) (li L 7) (li L 8) (li L 9) (li L 10) (li L 11) (li L 12) (li L 13) (li L 14) (li L 15) (li L 16) (li L 17) (li L 18) (li L 19) (li L 20) (li L 21) (lb L 22) (lb L 23) (li L 24) (ll L 28) (ll L 30) k0
noncomputable def sh95x0 : Sh := { tmps := [(0, .c (.p 0 0)), (1, .g (rI 20 ([]))), (2, .c (.i .i64)), (3, .c (.i .i64)), (4, .c (.b)), (5, .c (.b))], mem := [(0, .box (.i .i64 :: .i .i64 :: .i .i64 :: .sl 66 :: .sl 68 :: rB 12 ([])))] }
noncomputable def K95x0w0 (L : List Lf) (p : Bool) : Res := ([.c (.b p)], [(0, .box (.i .i64 (li L 24) :: .i .i64 (li L 25) :: .i .i64 (li L 26) :: .sl 66 (lb L 27) (ll L 28) :: .sl 68 (lb L 29) (ll L 30) :: rM L 31 12 ([])))])
noncomputable def A95x0 (N : Nat) (L : List Lf) : List (Bool × Res) := bnd (J95x0 N L (fun p => some p)) fun q => [(q.isSome, K95x0w0 L (q.getD default))]
theorem raw95x0 (N : Nat) (L : List Lf) : (body Try.prog (T49x0 N) (h95x0s3 N) 200 95 (valsOf (ofSh sh95x0 L).tmps) (ofSh sh95x0 L).mem : Option Res) = J95x0 N L (fun p => some (K95x0w0 L p)) := by kernel_rfl
theorem ok95x0 (N : Nat) : ∀ args mem alts, spSh sh95x0 (A95x0 N) args mem = some alts → ∀ res, altK alts some = some res → CallOk Try.prog 95 args mem res :=
  spSh_law fun L x hx => callOk_of (n := 200) progOk (T49x0_ok N) (al95x0s3 N) rfl ((raw95x0 N L).trans ((bind95x0 N ..).trans (alt1 x hx)))
noncomputable def T95x0 (N : Nat) : Oracle := ext 95 (spSh sh95x0 (A95x0 N)) (T49x0 N)
theorem T95x0_ok (N : Nat) : OracleOk Try.prog (T95x0 N) := ext_ok (T49x0_ok N) (enters_of (by kernel_rfl)) (ok95x0 N)
noncomputable def rg96x0 : List (Nat × List Nat) := [(0, [1, 0]), (1, [0, 3, 4]), (2, [0, 5, 3, 4]), (3, [14, 13, 12, 5, 0, 3, 4]), (4, [14, 12, 5, 0, 3, 13, 4]), (5, [7, 5, 0, 6, 3, 14, 13, 12, 4]), (6, [0, 6, 3, 7, 14, 13, 12, 5, 4]), (7, [6, 3, 14, 13, 12, 5, 0, 4]), (8, [14, 13, 12, 5, 0, 3, 4]), (9, [5, 3, 4]), (10, [3, 5, 4]), (11, [5, 3, 4]), (12, [3, 5, 4]), (13, [5, 3, 4]), (14, [3, 5, 4]), (15, [5, 3, 4]), (16, [3, 4]), (17, [3, 4])]
noncomputable def hd96x0 : Hints := [(9, [14, 13, 12, 5, 0, 3, 4], [6, 5, 4, 0], []), (16, [7, 5, 0, 6, 3, 14, 13, 12, 4], [8, 6, 5, 4, 0], []), (23, [6, 3, 14, 13, 12, 5, 0, 4, 47], [6, 5, 4, 0], []), (38, [3, 5, 4, 63], [6, 5, 4, 0], []), (32, [3, 5, 4, 54], [6, 5, 4, 0], []), (44, [3, 5, 4, 67], [6, 5, 4, 0], []), (50, [3, 4, 71], [5, 4, 0], [])]
noncomputable def h96x0s0 (N : Nat) : Hint := { loops := hd96x0, regs := rg96x0, los := [] }
theorem al96x0s0 (N : Nat) : AllCuts Try.prog (h96x0s0 N).los 1 96 := AllCuts.nil
noncomputable def F96x0x16 (N : Nat) {R : Type} (w0 : Int) (w12 w13 w14 w15 w16 w17 w18 w19 w20 w21 w22 w23 w64 w65 w66 w67 w68 w69 w70 w71 w72 w73 : Bool) (w74 : Int) (k0 : Ty7 → Option R) : Option R :=
  bif (inB w74 10) then
    bnd (bif (Nat.beq w74.toNat 0) then w64 else (bif (Nat.beq w74.toNat 1) then w65 else (bif (Nat.beq w74.toNat 2) then w66 else (bif (Nat.beq w74.toNat 3) then w67 else (bif (Nat.beq w74.toNat 4) then w68 else (bif (Nat.beq w74.toNat 5) then w69 else (bif (Nat.beq w74.toNat 6) then w70 else (bif (Nat.beq w74.toNat 7) then w71 else (bif (Nat.beq w74.toNat 8) then w72 else w73))))))))) fun y0 =>
    bif y0 then
      bif (inB w74 10) then
        k0 ((bif (Nat.beq w74.toNat 0) then true else w64), (bif (Nat.beq w74.toNat 1) then true else w65), (bif (Nat.beq w74.toNat 2) then true else w66), (bif (Nat.beq w74.toNat 3) then true else w67), (bif (Nat.beq w74.toNat 4) then true else w68), (bif (Nat.beq w74.toNat 5) then true else w69), (bif (Nat.beq w74.toNat 6) then true else w70), (bif (Nat.beq w74.toNat 7) then true else w71), (bif (Nat.beq w74.toNat 8) then true else w72), (bif (Nat.beq w74.toNat 9) then true else w73))
      else
        none
    else
      bif (inB w0 12) then
        bnd (bif (Nat.beq w0.toNat 0) then w12 else (bif (Nat.beq w0.toNat 1) then w13 else (bif (Nat.beq w0.toNat 2) then w14 else (bif (Nat.beq w0.toNat 3) then w15 else (bif (Nat.beq w0.toNat 4) then w16 else (bif (Nat.beq w0.toNat 5) then w17 else (bif (Nat.beq w0.toNat 6) then w18 else (bif (Nat.beq w0.toNat 7) then w19 else (bif (Nat.beq w0.toNat 8) then w20 else (bif (Nat.beq w0.toNat 9) then w21 else (bif (Nat.beq w0.toNat 10) then w22 else w23))))))))))) fun y1 =>
        bif (inB w74 10) then
          k0 ((bif (Nat.beq w74.toNat 0) then (!y1) else w64), (bif (Nat.beq w74.toNat 1) then (!y1) else w65), (bif (Nat.beq w74.toNat 2) then (!y1) else w66), (bif (Nat.beq w74.toNat 3) then (!y1) else w67), (bif (Nat.beq w74.toNat 4) then (!y1) else w68), (bif (Nat.beq w74.toNat 5) then (!y1) else w69), (bif (Nat.beq w74.toNat 6) then (!y1) else w70), (bif (Nat.beq w74.toNat 7) then (!y1) else w71), (bif (Nat.beq w74.toNat 8) then (!y1) else w72), (bif (Nat.beq w74.toNat 9) then (!y1) else w73))
        else
          none
      else
        none
  else
    none
noncomputable def G96x0x16 (N : Nat) (w0 : Int) (w12 w13 w14 w15 w16 w17 w18 w19 w20 w21 w22 w23 w64 w65 w66 w67 w68 w69 w70 w71 w72 w73 : Bool) (w74 : Int) : Option (Ty7) := F96x0x16 N w0 w12 w13 w14 w15 w16 w17 w18 w19 w20 w21 w22 w23 w64 w65 w66 w67 w68 w69 w70 w71 w72 w73 w74 (fun p => some p)
theorem bind96x0x16 (N : Nat) {R : Type} (w0 : Int) (w12 w13 w14 w15 w16 w17 w18 w19 w20 w21 w22 w23 w64 w65 w66 w67 w68 w69 w70 w71 w72 w73 : Bool) (w74 : Int) (k0 : Ty7 → Option R) : F96x0x16 N w0 w12 w13 w14 w15 w16 w17 w18 w19 w20 w21 w22 w23 w64 w65 w66 w67 w68 w69 w70 w71 w72 w73 w74 k0 = (G96x0x16 N w0 w12 w13 w14 w15 w16 w17 w18 w19 w20 w21 w22 w23 w64 w65 w66 w67 w68 w69 w70 w71 w72 w73 w74).bind k0 := by
  unfold G96x0x16 F96x0x16
  repeat' (first | rfl | apply cond_b | (apply bnd_b; intro _))
noncomputable def J96x0x16 (N : Nat) (L : List Lf) {R : Type} (k0 : Ty7 → Option R) : Option R := F96x0x16 N (li L 0) (lb L 12) (lb L 13) (lb L 14) (lb L 15) (lb L 16) (lb L 17) (lb L 18) (lb L 19) (lb L 20) (lb L 21) (lb L 22) (lb L 23) (lb L 64) (lb L 65) (lb L 66) (lb L 67) (lb L 68) (lb L 69) (lb L 70) (lb L 71) (lb L 72) (lb L 73) (li L 74) k0
noncomputable def sh96x0x16 : Sh := { tmps := [(0, .c (.p 0 0)), (3, .c (.p 4 0)), (4, .c (.p 5 0)), (5, .c (.p 6 0)), (6, .c (.i .i64)), (7, .c (.p 8 0)), (12, .c (.sl 68)), (13, .c (.i .i64)), (14, .c (.i .i64))], mem := [(0, .box (.i .i64 :: .i .i64 :: .i .i64 :: .sl 66 :: .sl 68 :: rB 12 ([]))), (4, .box (rI 20 ([]))), (5, .box (rI 20 ([]))), (6, .box (rB 10 ([]))), (8, .box (rI 5 ([.s])))] }
noncomputable def K96x0x16w0 (L : List Lf) (p : Ty7) : Ex × St := let p1 := p.2; let p2 := p1.2; let p3 := p2.2; let p4 := p3.2; let p5 := p4.2; let p6 := p5.2; let p7 := p6.2; let p8 := p7.2; let p9 := p8.2; (.normal, ⟨[(0, .c (.p 0 0)), (3, .c (.p 4 0)), (4, .c (.p 5 0)), (5, .c (.p 6 0)), (6, .c (.i .i64 (li L 0))), (7, .c (.p 8 0)), (12, .c (.sl 68 (lb L 1) (ll L 2))), (13, .c (.i .i64 (li L 3))), (14, .c (.i .i64 (li L 4)))], [(0, .box (.i .i64 (li L 5) :: .i .i64 (li L 6) :: .i .i64 (li L 7) :: .sl 66 (lb L 8) (ll L 9) :: .sl 68 (lb L 10) (ll L 11) :: rM L 12 12 ([]))), (4, .box (rL L 24 20 ([]))), (5, .box (rL L 44 20 ([]))), (6, .box [.b p.1, .b p1.1, .b p2.1, .b p3.1, .b p4.1, .b p5.1, .b p6.1, .b p7.1, .b p8.1, .b p9]), (8, .box (rL L 74 5 ([.s (ls L 79)])))]⟩)
noncomputable def A96x0x16 (N : Nat) (L : List Lf) : List (Bool × (Ex × St)) := bnd (J96x0x16 N L (fun p => some p)) fun q => [(q.isSome, K96x0x16w0 L (q.getD default))]
theorem raw96x0x16 (N : Nat) (L : List Lf) : (exec Try.prog (T95x0 N) (h96x0s0 N) 1 100 (piece Try.prog 96 16) (ofSh sh96x0x16 L) (fun e st => some (e, cutSt [0, 6, 3, 7, 14, 13, 12, 5, 4] [8, 6, 5, 4, 0] st)) : Option (Ex × St)) = J96x0x16 N L (fun p => some (K96x0x16w0 L p)) := by kernel_rfl
theorem one96x0x16 : oneB Try.prog 96 16 = true := by kernel_rfl
theorem law96x0x16 (N : Nat) : CutLaw Try.prog 1 (piece Try.prog 96 16) (loSh sh96x0x16 (A96x0x16 N)) :=
  law_sh progOk (T95x0_ok N) (al96x0s0 N) one96x0x16 fun L x hx => (raw96x0x16 N L).trans ((bind96x0x16 N ..).trans (alt1 x hx))
noncomputable def h96x0s1 (N : Nat) : Hint := { (h96x0s0 N) with los := (16, loSh sh96x0x16 (A96x0x16 N)) :: (h96x0s0 N).los }
theorem al96x0s1 (N : Nat) : AllCuts Try.prog (h96x0s1 N).los 1 96 := AllCuts.cons (al96x0s0 N) one96x0x16 (law96x0x16 N)
noncomputable def F96x0x23 (N : Nat) {R : Type} (w0 : Int) (w5 : Bool) (w33 w34 w35 w36 w37 w38 w39 w40 w41 w42 w43 w44 : Int) (k0 : Ty6 → Option R) : Option R :=
  bif w5 then
    bif (inB w0 12) then
      k0 ((bif (Nat.beq w0.toNat 0) then 0 else w33), (bif (Nat.beq w0.toNat 1) then 0 else w34), (bif (Nat.beq w0.toNat 2) then 0 else w35), (bif (Nat.beq w0.toNat 3) then 0 else w36), (bif (Nat.beq w0.toNat 4) then 0 else w37), (bif (Nat.beq w0.toNat 5) then 0 else w38), (bif (Nat.beq w0.toNat 6) then 0 else w39), (bif (Nat.beq w0.toNat 7) then 0 else w40), (bif (Nat.beq w0.toNat 8) then 0 else w41), (bif (Nat.beq w0.toNat 9) then 0 else w42), (bif (Nat.beq w0.toNat 10) then 0 else w43), (bif (Nat.beq w0.toNat 11) then 0 else w44))
    else
      none
  else
    k0 (w33, w34, w35, w36, w37, w38, w39, w40, w41, w42, w43, w44)
noncomputable def G96x0x23 (N : Nat) (w0 : Int) (w5 : Bool) (w33 w34 w35 w36 w37 w38 w39 w40 w41 w42 w43 w44 : Int) : Option (Ty6) := F96x0x23 N w0 w5 w33 w34 w35 w36 w37 w38 w39 w40 w41 w42 w43 w44 (fun p => some p)
theorem bind96x0x23 (N : Nat) {R : Type} (w0 : Int) (w5 : Bool) (w33 w34 w35 w36 w37 w38 w39 w40 w41 w42 w43 w44 : Int) (k0 : Ty6 → Option R) : F96x0x23 N w0 w5 w33 w34 w35 w36 w37 w38 w39 w40 w41 w42 w43 w44 k0 = (G96x0x23 N w0 w5 w33 w34 w35 w36 w37 w38 w39 w40 w41 w42 w43 w44).bind k0 := by
  unfold G96x0x23 F96x0x23
  repeat' (first | rfl | apply cond_b | (apply bnd_b; intro _))
noncomputable def J96x0x23 (N : Nat) (L : List Lf) {R : Type} (k0 : Ty6 → Option R) : Option R := F96x0x23 N (li L 0) (lb L 5) (li L 33) (li L 34) (li L 35) (li L 36) (li L 37) (li L 38) (li L 39) (li L 40) (li L 41) (li L 42) (li L 43) (li L 44) k0
noncomputable def sh96x0x23 : Sh := { tmps := [(0, .c (.p 0 0)), (3, .c (.p 4 0)), (4, .c (.p 5 0)), (5, .c (.p 6 0)), (6, .c (.i .i64)), (12, .c (.sl 68)), (13, .c (.i .i64)), (14, .c (.i .i64)), (47, .c (.b))], mem := [(0, .box (.i .i64 :: .i .i64 :: .i .i64 :: .sl 66 :: .sl 68 :: rB 12 ([]))), (4, .box (rI 20 ([]))), (5, .box (rI 20 ([]))), (6, .box (rB 10 ([])))] }
noncomputable def K96x0x23w0 (L : List Lf) (p : Ty6) : Ex × St := let p1 := p.2; let p2 := p1.2; let p3 := p2.2; let p4 := p3.2; let p5 := p4.2; let p6 := p5.2; let p7 := p6.2; let p8 := p7.2; let p9 := p8.2; let p10 := p9.2; let p11 := p10.2; (.normal, ⟨[(0, .c (.p 0 0)), (3, .c (.p 4 0)), (4, .c (.p 5 0)), (5, .c (.p 6 0)), (12, .c (.sl 68 (lb L 1) (ll L 2))), (13, .c (.i .i64 (li L 3))), (14, .c (.i .i64 (li L 4)))], [(0, .box (.i .i64 (li L 6) :: .i .i64 (li L 7) :: .i .i64 (li L 8) :: .sl 66 (lb L 9) (ll L 10) :: .sl 68 (lb L 11) (ll L 12) :: rM L 13 12 ([]))), (4, .box (rL L 25 8 ([.i .i64 p.1, .i .i64 p1.1, .i .i64 p2.1, .i .i64 p3.1, .i .i64 p4.1, .i .i64 p5.1, .i .i64 p6.1, .i .i64 p7.1, .i .i64 p8.1, .i .i64 p9.1, .i .i64 p10.1, .i .i64 p11]))), (5, .box (rL L 45 20 ([]))), (6, .box (rM L 65 10 ([])))]⟩)
noncomputable def A96x0x23 (N : Nat) (L : List Lf) : List (Bool × (Ex × St)) := bnd (J96x0x23 N L (fun p => some p)) fun q => [(q.isSome, K96x0x23w0 L (q.getD default))]
theorem raw96x0x23 (N : Nat) (L : List Lf) : (exec Try.prog (T95x0 N) (h96x0s1 N) 1 100 (piece Try.prog 96 23) (ofSh sh96x0x23 L) (fun e st => some (e, cutSt [14, 13, 12, 5, 0, 3, 4] [6, 5, 4, 0] st)) : Option (Ex × St)) = J96x0x23 N L (fun p => some (K96x0x23w0 L p)) := by kernel_rfl
theorem one96x0x23 : oneB Try.prog 96 23 = true := by kernel_rfl
theorem law96x0x23 (N : Nat) : CutLaw Try.prog 1 (piece Try.prog 96 23) (loSh sh96x0x23 (A96x0x23 N)) :=
  law_sh progOk (T95x0_ok N) (al96x0s1 N) one96x0x23 fun L x hx => (raw96x0x23 N L).trans ((bind96x0x23 N ..).trans (alt1 x hx))
noncomputable def h96x0s2 (N : Nat) : Hint := { (h96x0s1 N) with los := (23, loSh sh96x0x23 (A96x0x23 N)) :: (h96x0s1 N).los }
theorem al96x0s2 (N : Nat) : AllCuts Try.prog (h96x0s2 N).los 1 96 := AllCuts.cons (al96x0s1 N) one96x0x23 (law96x0x23 N)
noncomputable def K96x0x9w0 (w4 w5 w6 : Int) (w7 : Bool) (w8 : LD) (w9 : Bool) (w10 : LD) (w11 w12 w13 w14 w15 w16 w17 w18 w19 w20 w21 w22 : Bool) (w23 w24 w25 w26 w27 w28 w29 w30 w43 w44 w45 w46 w47 w48 w49 w50 w51 w52 w53 w54 w55 w56 w57 w58 w59 w60 w61 w62 : Int) (p : Ty3) : Ex × St := let p1 := p.2; let p2 := p1.2; let p3 := p2.2; let p4 := p3.2; let p5 := p4.2; let p6 := p5.2; let p7 := p6.2; let p8 := p7.2; let p9 := p8.2; let p10 := p9.2; let p11 := p10.2; let p12 := p11.2; let p13 := p12.2; let p14 := p13.2; let p15 := p14.2; let p16 := p15.2; let p17 := p16.2; let p18 := p17.2; let p19 := p18.2; let p20 := p19.2; let p21 := p20.2; ((.exit 0), ⟨[(3, .c (.p 4 0)), (4, .c (.p 5 0)), (5, .c (.p 6 0))], [(0, .box [.i .i64 w4, .i .i64 w5, .i .i64 w6, .sl 66 w7 w8, .sl 68 w9 w10, .b w11, .b w12, .b w13, .b w14, .b w15, .b w16, .b w17, .b w18, .b w19, .b w20, .b w21, .b w22]), (4, .box [.i .i64 w23, .i .i64 w24, .i .i64 w25, .i .i64 w26, .i .i64 w27, .i .i64 w28, .i .i64 w29, .i .i64 w30, .i .i64 p.1, .i .i64 p1.1, .i .i64 p2.1, .i .i64 p3.1, .i .i64 p4.1, .i .i64 p5.1, .i .i64 p6.1, .i .i64 p7.1, .i .i64 p8.1, .i .i64 p9.1, .i .i64 p10.1, .i .i64 p11.1]), (5, .box [.i .i64 w43, .i .i64 w44, .i .i64 w45, .i .i64 w46, .i .i64 w47, .i .i64 w48, .i .i64 w49, .i .i64 w50, .i .i64 w51, .i .i64 w52, .i .i64 w53, .i .i64 w54, .i .i64 w55, .i .i64 w56, .i .i64 w57, .i .i64 w58, .i .i64 w59, .i .i64 w60, .i .i64 w61, .i .i64 w62]), (6, .box [.b p12.1, .b p13.1, .b p14.1, .b p15.1, .b p16.1, .b p17.1, .b p18.1, .b p19.1, .b p20.1, .b p21])]⟩)
noncomputable def P96x0x9 (w0 : Bool) (w1 : LD) (w2 w3 w4 w5 w6 : Int) (w7 : Bool) (w8 : LD) (w9 : Bool) (w10 : LD) (w11 w12 w13 w14 w15 w16 w17 w18 w19 w20 w21 w22 : Bool) (w23 w24 w25 w26 w27 w28 w29 w30 w31 w32 w33 w34 w35 w36 w37 w38 w39 w40 w41 w42 w43 w44 w45 w46 w47 w48 w49 w50 w51 w52 w53 w54 w55 w56 w57 w58 w59 w60 w61 w62 : Int) (w63 w64 w65 w66 w67 w68 w69 w70 w71 w72 : Bool) : St := ⟨[(0, .c (.p 0 0)), (3, .c (.p 4 0)), (4, .c (.p 5 0)), (5, .c (.p 6 0)), (12, .c (.sl 68 w0 w1)), (13, .c (.i .i64 w2)), (14, .c (.i .i64 w3))], [(0, .box [.i .i64 w4, .i .i64 w5, .i .i64 w6, .sl 66 w7 w8, .sl 68 w9 w10, .b w11, .b w12, .b w13, .b w14, .b w15, .b w16, .b w17, .b w18, .b w19, .b w20, .b w21, .b w22]), (4, .box [.i .i64 w23, .i .i64 w24, .i .i64 w25, .i .i64 w26, .i .i64 w27, .i .i64 w28, .i .i64 w29, .i .i64 w30, .i .i64 w31, .i .i64 w32, .i .i64 w33, .i .i64 w34, .i .i64 w35, .i .i64 w36, .i .i64 w37, .i .i64 w38, .i .i64 w39, .i .i64 w40, .i .i64 w41, .i .i64 w42]), (5, .box [.i .i64 w43, .i .i64 w44, .i .i64 w45, .i .i64 w46, .i .i64 w47, .i .i64 w48, .i .i64 w49, .i .i64 w50, .i .i64 w51, .i .i64 w52, .i .i64 w53, .i .i64 w54, .i .i64 w55, .i .i64 w56, .i .i64 w57, .i .i64 w58, .i .i64 w59, .i .i64 w60, .i .i64 w61, .i .i64 w62]), (6, .box [.b w63, .b w64, .b w65, .b w66, .b w67, .b w68, .b w69, .b w70, .b w71, .b w72])]⟩
noncomputable def S96x0x9 (N : Nat) {R : Type} (w1 : LD) (w2 : Int) (w11 w12 w13 w14 w15 w16 w17 w18 w19 w20 w21 w22 : Bool) (w23 : Int) (w3 w31 w32 w33 w34 w35 w36 w37 w38 w39 w40 w41 w42 : Int) (w63 w64 w65 w66 w67 w68 w69 w70 w71 w72 : Bool) (kr : Int → Int → Int → Int → Int → Int → Int → Int → Int → Int → Int → Int → Int → Bool → Bool → Bool → Bool → Bool → Bool → Bool → Bool → Bool → Bool → Option R) (k0 : Ty3 → Option R) : Option R :=
  bif (decide (w3 < w2)) then
    bif (inB w3 w1.length) then
      bnd (G96x0x16 N w3 w11 w12 w13 w14 w15 w16 w17 w18 w19 w20 w21 w22 w63 w64 w65 w66 w67 w68 w69 w70 w71 w72 ((w1.getD w3.toNat (.i 0)).cell 0).toI) fun y0 =>
      bif y0.isSome then
        bif (inB w3 12) then
          bnd (bif (Nat.beq w3.toNat 0) then w11 else (bif (Nat.beq w3.toNat 1) then w12 else (bif (Nat.beq w3.toNat 2) then w13 else (bif (Nat.beq w3.toNat 3) then w14 else (bif (Nat.beq w3.toNat 4) then w15 else (bif (Nat.beq w3.toNat 5) then w16 else (bif (Nat.beq w3.toNat 6) then w17 else (bif (Nat.beq w3.toNat 7) then w18 else (bif (Nat.beq w3.toNat 8) then w19 else (bif (Nat.beq w3.toNat 9) then w20 else (bif (Nat.beq w3.toNat 10) then w21 else w22))))))))))) fun y1 =>
          bnd (bif y1 then true else (decide (w23 ≥ ((w1.getD w3.toNat (.i 0)).cell 1).toI))) fun y2 =>
          bnd (G96x0x23 N w3 y2 w31 w32 w33 w34 w35 w36 w37 w38 w39 w40 w41 w42) fun y3 =>
          bif y3.isSome then
            kr (IntKind.wrap .i64 (w3 + 1)) (y3.getD default).1 (y3.getD default).2.1 (y3.getD default).2.2.1 (y3.getD default).2.2.2.1 (y3.getD default).2.2.2.2.1 (y3.getD default).2.2.2.2.2.1 (y3.getD default).2.2.2.2.2.2.1 (y3.getD default).2.2.2.2.2.2.2.1 (y3.getD default).2.2.2.2.2.2.2.2.1 (y3.getD default).2.2.2.2.2.2.2.2.2.1 (y3.getD default).2.2.2.2.2.2.2.2.2.2.1 (y3.getD default).2.2.2.2.2.2.2.2.2.2.2 (y0.getD default).1 (y0.getD default).2.1 (y0.getD default).2.2.1 (y0.getD default).2.2.2.1 (y0.getD default).2.2.2.2.1 (y0.getD default).2.2.2.2.2.1 (y0.getD default).2.2.2.2.2.2.1 (y0.getD default).2.2.2.2.2.2.2.1 (y0.getD default).2.2.2.2.2.2.2.2.1 (y0.getD default).2.2.2.2.2.2.2.2.2
          else
            none
        else
          none
      else
        none
    else
      none
  else
    k0 (w31, w32, w33, w34, w35, w36, w37, w38, w39, w40, w41, w42, w63, w64, w65, w66, w67, w68, w69, w70, w71, w72)
theorem mono96x0x9 (N : Nat) {R : Type} (w1 : LD) (w2 : Int) (w11 w12 w13 w14 w15 w16 w17 w18 w19 w20 w21 w22 : Bool) (w23 : Int) (w3 w31 w32 w33 w34 w35 w36 w37 w38 w39 w40 w41 w42 : Int) (w63 w64 w65 w66 w67 w68 w69 w70 w71 w72 : Bool) {kr kr' : Int → Int → Int → Int → Int → Int → Int → Int → Int → Int → Int → Int → Int → Bool → Bool → Bool → Bool → Bool → Bool → Bool → Bool → Bool → Bool → Option R} (k0 : Ty3 → Option R) {r : R} (hk : ∀ w3' w31' w32' w33' w34' w35' w36' w37' w38' w39' w40' w41' w42' w63' w64' w65' w66' w67' w68' w69' w70' w71' w72', kr w3' w31' w32' w33' w34' w35' w36' w37' w38' w39' w40' w41' w42' w63' w64' w65' w66' w67' w68' w69' w70' w71' w72' = some r → kr' w3' w31' w32' w33' w34' w35' w36' w37' w38' w39' w40' w41' w42' w63' w64' w65' w66' w67' w68' w69' w70' w71' w72' = some r) : S96x0x9 N w1 w2 w11 w12 w13 w14 w15 w16 w17 w18 w19 w20 w21 w22 w23 w3 w31 w32 w33 w34 w35 w36 w37 w38 w39 w40 w41 w42 w63 w64 w65 w66 w67 w68 w69 w70 w71 w72 kr k0 = some r → S96x0x9 N w1 w2 w11 w12 w13 w14 w15 w16 w17 w18 w19 w20 w21 w22 w23 w3 w31 w32 w33 w34 w35 w36 w37 w38 w39 w40 w41 w42 w63 w64 w65 w66 w67 w68 w69 w70 w71 w72 kr' k0 = some r := by
  unfold S96x0x9
  repeat' (first | exact hk _ _ _ _ _ _ _ _ _ _ _ _ _ _ _ _ _ _ _ _ _ _ _ | exact fun h => h | apply cond_mono | (apply bnd_mono; intro _))
noncomputable def L96x0x9 (N : Nat) {R : Type} (w1 : LD) (w2 : Int) (w11 w12 w13 w14 w15 w16 w17 w18 w19 w20 w21 w22 : Bool) (w23 : Int) : Nat → Int → Int → Int → Int → Int → Int → Int → Int → Int → Int → Int → Int → Int → Bool → Bool → Bool → Bool → Bool → Bool → Bool → Bool → Bool → Bool → (Ty3 → Option R) → Option R
  | 0, _, _, _, _, _, _, _, _, _, _, _, _, _, _, _, _, _, _, _, _, _, _, _, _ => none
  | m + 1, w3, w31, w32, w33, w34, w35, w36, w37, w38, w39, w40, w41, w42, w63, w64, w65, w66, w67, w68, w69, w70, w71, w72, k0 => S96x0x9 N w1 w2 w11 w12 w13 w14 w15 w16 w17 w18 w19 w20 w21 w22 w23 w3 w31 w32 w33 w34 w35 w36 w37 w38 w39 w40 w41 w42 w63 w64 w65 w66 w67 w68 w69 w70 w71 w72 (fun w3 w31 w32 w33 w34 w35 w36 w37 w38 w39 w40 w41 w42 w63 w64 w65 w66 w67 w68 w69 w70 w71 w72 => L96x0x9 N w1 w2 w11 w12 w13 w14 w15 w16 w17 w18 w19 w20 w21 w22 w23 m w3 w31 w32 w33 w34 w35 w36 w37 w38 w39 w40 w41 w42 w63 w64 w65 w66 w67 w68 w69 w70 w71 w72 k0) k0
theorem lp96x0x9 : piece Try.prog 96 9 = .loop (loopB (piece Try.prog 96 9)) := by kernel_rfl
theorem nl96x0x9 (N : Nat) : lawOf (h96x0s2 N) (.loop (loopB (piece Try.prog 96 9))) = none := by kernel_rfl
theorem cl96x0x9 (N : Nat) (w0 : Bool) (w1 : LD) (w2 w4 w5 w6 : Int) (w7 : Bool) (w8 : LD) (w9 : Bool) (w10 : LD) (w11 w12 w13 w14 w15 w16 w17 w18 w19 w20 w21 w22 : Bool) (w23 w24 w25 w26 w27 w28 w29 w30 w43 w44 w45 w46 w47 w48 w49 w50 w51 w52 w53 w54 w55 w56 w57 w58 w59 w60 w61 w62 : Int) (w3 w31 w32 w33 w34 w35 w36 w37 w38 w39 w40 w41 w42 : Int) (w63 w64 w65 w66 w67 w68 w69 w70 w71 w72 : Bool) : clearSt Try.prog 1 (h96x0s2 N).loops 9 (P96x0x9 w0 w1 w2 w3 w4 w5 w6 w7 w8 w9 w10 w11 w12 w13 w14 w15 w16 w17 w18 w19 w20 w21 w22 w23 w24 w25 w26 w27 w28 w29 w30 w31 w32 w33 w34 w35 w36 w37 w38 w39 w40 w41 w42 w43 w44 w45 w46 w47 w48 w49 w50 w51 w52 w53 w54 w55 w56 w57 w58 w59 w60 w61 w62 w63 w64 w65 w66 w67 w68 w69 w70 w71 w72) = (P96x0x9 w0 w1 w2 w3 w4 w5 w6 w7 w8 w9 w10 w11 w12 w13 w14 w15 w16 w17 w18 w19 w20 w21 w22 w23 w24 w25 w26 w27 w28 w29 w30 w31 w32 w33 w34 w35 w36 w37 w38 w39 w40 w41 w42 w43 w44 w45 w46 w47 w48 w49 w50 w51 w52 w53 w54 w55 w56 w57 w58 w59 w60 w61 w62 w63 w64 w65 w66 w67 w68 w69 w70 w71 w72) := by kernel_rfl
theorem step96x0x9 (N : Nat) (m : Nat) (kn : St → Option (Ex × St)) (w0 : Bool) (w1 : LD) (w2 w4 w5 w6 : Int) (w7 : Bool) (w8 : LD) (w9 : Bool) (w10 : LD) (w11 w12 w13 w14 w15 w16 w17 w18 w19 w20 w21 w22 : Bool) (w23 w24 w25 w26 w27 w28 w29 w30 w43 w44 w45 w46 w47 w48 w49 w50 w51 w52 w53 w54 w55 w56 w57 w58 w59 w60 w61 w62 : Int) (w3 w31 w32 w33 w34 w35 w36 w37 w38 w39 w40 w41 w42 : Int) (w63 w64 w65 w66 w67 w68 w69 w70 w71 w72 : Bool) : exec Try.prog (T95x0 N) (h96x0s2 N) 1 (m + 100) (loopB (piece Try.prog 96 9)) (P96x0x9 w0 w1 w2 w3 w4 w5 w6 w7 w8 w9 w10 w11 w12 w13 w14 w15 w16 w17 w18 w19 w20 w21 w22 w23 w24 w25 w26 w27 w28 w29 w30 w31 w32 w33 w34 w35 w36 w37 w38 w39 w40 w41 w42 w43 w44 w45 w46 w47 w48 w49 w50 w51 w52 w53 w54 w55 w56 w57 w58 w59 w60 w61 w62 w63 w64 w65 w66 w67 w68 w69 w70 w71 w72) (reK (fun st => kn (clearSt Try.prog 1 (h96x0s2 N).loops 9 st)) (fun e st => some (e, cutSt [4, 5, 3] [6, 5, 4, 0] st))) = S96x0x9 N w1 w2 w11 w12 w13 w14 w15 w16 w17 w18 w19 w20 w21 w22 w23 w3 w31 w32 w33 w34 w35 w36 w37 w38 w39 w40 w41 w42 w63 w64 w65 w66 w67 w68 w69 w70 w71 w72 (fun w3 w31 w32 w33 w34 w35 w36 w37 w38 w39 w40 w41 w42 w63 w64 w65 w66 w67 w68 w69 w70 w71 w72 => kn (P96x0x9 w0 w1 w2 w3 w4 w5 w6 w7 w8 w9 w10 w11 w12 w13 w14 w15 w16 w17 w18 w19 w20 w21 w22 w23 w24 w25 w26 w27 w28 w29 w30 w31 w32 w33 w34 w35 w36 w37 w38 w39 w40 w41 w42 w43 w44 w45 w46 w47 w48 w49 w50 w51 w52 w53 w54 w55 w56 w57 w58 w59 w60 w61 w62 w63 w64 w65 w66 w67 w68 w69 w70 w71 w72)) (fun p => some (K96x0x9w0 w4 w5 w6 w7 w8 w9 w10 w11 w12 w13 w14 w15 w16 w17 w18 w19 w20 w21 w22 w23 w24 w25 w26 w27 w28 w29 w30 w43 w44 w45 w46 w47 w48 w49 w50 w51 w52 w53 w54 w55 w56 w57 w58 w59 w60 w61 w62 p)) := by kernel_rfl
theorem run96x0x9 (N : Nat) (w0 : Bool) (w1 : LD) (w2 w4 w5 w6 : Int) (w7 : Bool) (w8 : LD) (w9 : Bool) (w10 : LD) (w11 w12 w13 w14 w15 w16 w17 w18 w19 w20 w21 w22 : Bool) (w23 w24 w25 w26 w27 w28 w29 w30 w43 w44 w45 w46 w47 w48 w49 w50 w51 w52 w53 w54 w55 w56 w57 w58 w59 w60 w61 w62 : Int) : ∀ (m : Nat) (w3 w31 w32 w33 w34 w35 w36 w37 w38 w39 w40 w41 w42 : Int) (w63 w64 w65 w66 w67 w68 w69 w70 w71 w72 : Bool) (x : Ex × St), L96x0x9 N w1 w2 w11 w12 w13 w14 w15 w16 w17 w18 w19 w20 w21 w22 w23 m w3 w31 w32 w33 w34 w35 w36 w37 w38 w39 w40 w41 w42 w63 w64 w65 w66 w67 w68 w69 w70 w71 w72 (fun p => some (K96x0x9w0 w4 w5 w6 w7 w8 w9 w10 w11 w12 w13 w14 w15 w16 w17 w18 w19 w20 w21 w22 w23 w24 w25 w26 w27 w28 w29 w30 w43 w44 w45 w46 w47 w48 w49 w50 w51 w52 w53 w54 w55 w56 w57 w58 w59 w60 w61 w62 p)) = some x → exec Try.prog (T95x0 N) (h96x0s2 N) 1 (m + 101) (.loop (loopB (piece Try.prog 96 9))) (P96x0x9 w0 w1 w2 w3 w4 w5 w6 w7 w8 w9 w10 w11 w12 w13 w14 w15 w16 w17 w18 w19 w20 w21 w22 w23 w24 w25 w26 w27 w28 w29 w30 w31 w32 w33 w34 w35 w36 w37 w38 w39 w40 w41 w42 w43 w44 w45 w46 w47 w48 w49 w50 w51 w52 w53 w54 w55 w56 w57 w58 w59 w60 w61 w62 w63 w64 w65 w66 w67 w68 w69 w70 w71 w72) (fun e st => some (e, cutSt [4, 5, 3] [6, 5, 4, 0] st)) = some x := by
  intro m
  induction m with
  | zero => intro w3 w31 w32 w33 w34 w35 w36 w37 w38 w39 w40 w41 w42 w63 w64 w65 w66 w67 w68 w69 w70 w71 w72 x h; cases h
  | succ m ih =>
    intro w3 w31 w32 w33 w34 w35 w36 w37 w38 w39 w40 w41 w42 w63 w64 w65 w66 w67 w68 w69 w70 w71 w72 x h
    exact loop_round (n := m + 101) (nl96x0x9 N) (by kernel_rfl) (cl96x0x9 N ..) (fun kn => step96x0x9 N (m + 1) kn ..) (mono96x0x9 N _ _ _ _ _ _ _ _ _ _ _ _ _ _ _ _ _ _ _ _ _ _ _ _ _ _ _ _ _ _ _ _ _ _ _ _ _ _ _ (fun w3 w31 w32 w33 w34 w35 w36 w37 w38 w39 w40 w41 w42 w63 w64 w65 w66 w67 w68 w69 w70 w71 w72 => ih w3 w31 w32 w33 w34 w35 w36 w37 w38 w39 w40 w41 w42 w63 w64 w65 w66 w67 w68 w69 w70 w71 w72 x) h)
noncomputable def G96x0x9 (N : Nat) (w1 : LD) (w2 : Int) (w11 w12 w13 w14 w15 w16 w17 w18 w19 w20 w21 w22 : Bool) (w23 : Int) (w3 w31 w32 w33 w34 w35 w36 w37 w38 w39 w40 w41 w42 : Int) (w63 w64 w65 w66 w67 w68 w69 w70 w71 w72 : Bool) : Option (Ty3) := L96x0x9 N (R := (Ty3)) w1 w2 w11 w12 w13 w14 w15 w16 w17 w18 w19 w20 w21 w22 w23 N w3 w31 w32 w33 w34 w35 w36 w37 w38 w39 w40 w41 w42 w63 w64 w65 w66 w67 w68 w69 w70 w71 w72 (fun p => some p)
theorem sb96x0x9 (N : Nat) {R A : Type} (w1 : LD) (w2 : Int) (w11 w12 w13 w14 w15 w16 w17 w18 w19 w20 w21 w22 : Bool) (w23 : Int) (w3 w31 w32 w33 w34 w35 w36 w37 w38 w39 w40 w41 w42 : Int) (w63 w64 w65 w66 w67 w68 w69 w70 w71 w72 : Bool) (kr : Int → Int → Int → Int → Int → Int → Int → Int → Int → Int → Int → Int → Int → Bool → Bool → Bool → Bool → Bool → Bool → Bool → Bool → Bool → Bool → Option R) (kr' : Int → Int → Int → Int → Int → Int → Int → Int → Int → Int → Int → Int → Int → Bool → Bool → Bool → Bool → Bool → Bool → Bool → Bool → Bool → Bool → Option A) (k0 : Ty3 → Option R) (j0 : Ty3 → Option A) (K : A → Option R) (hr : ∀ w3' w31' w32' w33' w34' w35' w36' w37' w38' w39' w40' w41' w42' w63' w64' w65' w66' w67' w68' w69' w70' w71' w72', kr w3' w31' w32' w33' w34' w35' w36' w37' w38' w39' w40' w41' w42' w63' w64' w65' w66' w67' w68' w69' w70' w71' w72' = (kr' w3' w31' w32' w33' w34' w35' w36' w37' w38' w39' w40' w41' w42' w63' w64' w65' w66' w67' w68' w69' w70' w71' w72').bind K) (h0 : ∀ p, k0 p = (j0 p).bind K) : S96x0x9 N w1 w2 w11 w12 w13 w14 w15 w16 w17 w18 w19 w20 w21 w22 w23 w3 w31 w32 w33 w34 w35 w36 w37 w38 w39 w40 w41 w42 w63 w64 w65 w66 w67 w68 w69 w70 w71 w72 kr k0 = (S96x0x9 N w1 w2 w11 w12 w13 w14 w15 w16 w17 w18 w19 w20 w21 w22 w23 w3 w31 w32 w33 w34 w35 w36 w37 w38 w39 w40 w41 w42 w63 w64 w65 w66 w67 w68 w69 w70 w71 w72 kr' j0).bind K := by
  unfold S96x0x9
  repeat' (first | rfl | apply hr | apply h0 | apply cond_b | (apply bnd_b; intro _))
theorem lbind96x0x9 (N : Nat) {R : Type} (w1 : LD) (w2 : Int) (w11 w12 w13 w14 w15 w16 w17 w18 w19 w20 w21 w22 : Bool) (w23 : Int) : ∀ (m : Nat) (w3 w31 w32 w33 w34 w35 w36 w37 w38 w39 w40 w41 w42 : Int) (w63 w64 w65 w66 w67 w68 w69 w70 w71 w72 : Bool) (k0 : Ty3 → Option R), L96x0x9 N w1 w2 w11 w12 w13 w14 w15 w16 w17 w18 w19 w20 w21 w22 w23 m w3 w31 w32 w33 w34 w35 w36 w37 w38 w39 w40 w41 w42 w63 w64 w65 w66 w67 w68 w69 w70 w71 w72 k0 = (L96x0x9 N (R := (Ty3)) w1 w2 w11 w12 w13 w14 w15 w16 w17 w18 w19 w20 w21 w22 w23 m w3 w31 w32 w33 w34 w35 w36 w37 w38 w39 w40 w41 w42 w63 w64 w65 w66 w67 w68 w69 w70 w71 w72 (fun p => some p)).bind k0 := by
  intro m
  induction m with
  | zero => intros; rfl
  | succ m ih =>
    intro w3 w31 w32 w33 w34 w35 w36 w37 w38 w39 w40 w41 w42 w63 w64 w65 w66 w67 w68 w69 w70 w71 w72 k0
    exact sb96x0x9 N _ _ _ _ _ _ _ _ _ _ _ _ _ _ _ _ _ _ _ _ _ _ _ _ _ _ _ _ _ _ _ _ _ _ _ _ _ _ _ _ _ _ _ (fun w3 w31 w32 w33 w34 w35 w36 w37 w38 w39 w40 w41 w42 w63 w64 w65 w66 w67 w68 w69 w70 w71 w72 => ih w3 w31 w32 w33 w34 w35 w36 w37 w38 w39 w40 w41 w42 w63 w64 w65 w66 w67 w68 w69 w70 w71 w72 k0) (fun _ => rfl)
theorem one96x0x9 : oneB Try.prog 96 9 = true := by kernel_rfl
noncomputable def sh96x0x9 : Sh := { tmps := [(0, .c (.p 0 0)), (3, .c (.p 4 0)), (4, .c (.p 5 0)), (5, .c (.p 6 0)), (12, .c (.sl 68)), (13, .c (.i .i64)), (14, .c (.i .i64))], mem := [(0, .box (.i .i64 :: .i .i64 :: .i .i64 :: .sl 66 :: .sl 68 :: rB 12 ([]))), (4, .box (rI 20 ([]))), (5, .box (rI 20 ([]))), (6, .box (rB 10 ([])))] }
noncomputable def A96x0x9 (N : Nat) (L : List Lf) : List (Bool × (Ex × St)) := bnd (G96x0x9 N (ll L 1) (li L 2) (lb L 11) (lb L 12) (lb L 13) (lb L 14) (lb L 15) (lb L 16) (lb L 17) (lb L 18) (lb L 19) (lb L 20) (lb L 21) (lb L 22) (li L 23) (li L 3) (li L 31) (li L 32) (li L 33) (li L 34) (li L 35) (li L 36) (li L 37) (li L 38) (li L 39) (li L 40) (li L 41) (li L 42) (lb L 63) (lb L 64) (lb L 65) (lb L 66) (lb L 67) (lb L 68) (lb L 69) (lb L 70) (lb L 71) (lb L 72)) fun q => [(q.isSome, K96x0x9w0 (li L 4) (li L 5) (li L 6) (lb L 7) (ll L 8) (lb L 9) (ll L 10) (lb L 11) (lb L 12) (lb L 13) (lb L 14) (lb L 15) (lb L 16) (lb L 17) (lb L 18) (lb L 19) (lb L 20) (lb L 21) (lb L 22) (li L 23) (li L 24) (li L 25) (li L 26) (li L 27) (li L 28) (li L 29) (li L 30) (li L 43) (li L 44) (li L 45) (li L 46) (li L 47) (li L 48) (li L 49) (li L 50) (li L 51) (li L 52) (li L 53) (li L 54) (li L 55) (li L 56) (li L 57) (li L 58) (li L 59) (li L 60) (li L 61) (li L 62) (q.getD default))]
theorem eq96x0x9 (L : List Lf) : ofSh sh96x0x9 L = (P96x0x9 (lb L 0) (ll L 1) (li L 2) (li L 3) (li L 4) (li L 5) (li L 6) (lb L 7) (ll L 8) (lb L 9) (ll L 10) (lb L 11) (lb L 12) (lb L 13) (lb L 14) (lb L 15) (lb L 16) (lb L 17) (lb L 18) (lb L 19) (lb L 20) (lb L 21) (lb L 22) (li L 23) (li L 24) (li L 25) (li L 26) (li L 27) (li L 28) (li L 29) (li L 30) (li L 31) (li L 32) (li L 33) (li L 34) (li L 35) (li L 36) (li L 37) (li L 38) (li L 39) (li L 40) (li L 41) (li L 42) (li L 43) (li L 44) (li L 45) (li L 46) (li L 47) (li L 48) (li L 49) (li L 50) (li L 51) (li L 52) (li L 53) (li L 54) (li L 55) (li L 56) (li L 57) (li L 58) (li L 59) (li L 60) (li L 61) (li L 62) (lb L 63) (lb L 64) (lb L 65) (lb L 66) (lb L 67) (lb L 68) (lb L 69) (lb L 70) (lb L 71) (lb L 72)) := by kernel_rfl
theorem law96x0x9 (N : Nat) : CutLaw Try.prog 1 (piece Try.prog 96 9) (loSh sh96x0x9 (A96x0x9 N)) :=
  law_shL progOk (T95x0_ok N) (al96x0s2 N) one96x0x9 lp96x0x9 eq96x0x9 fun L x hx => run96x0x9 N _ _ _ _ _ _ _ _ _ _ _ _ _ _ _ _ _ _ _ _ _ _ _ _ _ _ _ _ _ _ _ _ _ _ _ _ _ _ _ _ _ _ _ _ _ _ _ _ _ _ N _ _ _ _ _ _ _ _ _ _ _ _ _ _ _ _ _ _ _ _ _ _ _ x ((lbind96x0x9 N _ _ _ _ _ _ _ _ _ _ _ _ _ _ _ N _ _ _ _ _ _ _ _ _ _ _ _ _ _ _ _ _ _ _ _ _ _ _ _).trans (alt1 x hx))
noncomputable def h96x0s3 (N : Nat) : Hint := { (h96x0s2 N) with los := (9, loSh sh96x0x9 (A96x0x9 N)) :: (h96x0s2 N).los }
theorem al96x0s3 (N : Nat) : AllCuts Try.prog (h96x0s3 N).los 1 96 := AllCuts.cons (al96x0s2 N) one96x0x9 (law96x0x9 N)
noncomputable def F96x0x38 (N : Nat) {R : Type} (w0 : Bool) (w21 : Int) (k0 : Int → R) : R :=
  bif w0 then
    k0 0
  else
    k0 w21
noncomputable def V96x0x38 (N : Nat) (w0 : Bool) (w21 : Int) : Int := F96x0x38 N w0 w21 (fun p => p)
theorem tot96x0x38 (N : Nat) {R : Type} (w0 : Bool) (w21 : Int) (k0 : Int → R) : F96x0x38 N w0 w21 k0 = k0 (V96x0x38 N w0 w21) := by
  unfold V96x0x38 F96x0x38
  repeat' (first | rfl | apply cond_k | (apply bnd_k; intro _))
noncomputable def sh96x0x38 : Sh := { tmps := [(3, .c (.p 4 0)), (4, .c (.p 5 0)), (5, .c (.p 6 0)), (63, .c (.b))], mem := [(0, .box (.i .i64 :: .i .i64 :: .i .i64 :: .sl 66 :: .sl 68 :: rB 12 ([]))), (4, .box (rI 20 ([]))), (5, .box (rI 20 ([]))), (6, .box (rB 10 ([])))] }
noncomputable def K96x0x38w0 (L : List Lf) (p : Int) : Ex × St := (.normal, ⟨[(3, .c (.p 4 0)), (4, .c (.p 5 0)), (5, .c (.p 6 0))], [(0, .box (.i .i64 (li L 1) :: .i .i64 (li L 2) :: .i .i64 (li L 3) :: .sl 66 (lb L 4) (ll L 5) :: .sl 68 (lb L 6) (ll L 7) :: rM L 8 12 ([]))), (4, .box (.i .i64 (li L 20) :: .i .i64 p :: rL L 22 18 ([]))), (5, .box (rL L 40 20 ([]))), (6, .box (rM L 60 10 ([])))]⟩)
noncomputable def A96x0x38 (N : Nat) (L : List Lf) : List (Bool × (Ex × St)) := bnd (F96x0x38 N (lb L 0) (li L 21) (fun p => p)) fun q => [(true, K96x0x38w0 L q)]
theorem raw96x0x38 (N : Nat) (L : List Lf) : (exec Try.prog (T95x0 N) (h96x0s3 N) 1 100 (piece Try.prog 96 38) (ofSh sh96x0x38 L) (fun e st => some (e, cutSt [5, 3, 4] [6, 5, 4, 0] st)) : Option (Ex × St)) = F96x0x38 N (lb L 0) (li L 21) (fun p => some (K96x0x38w0 L p)) := by kernel_rfl
theorem one96x0x38 : oneB Try.prog 96 38 = true := by kernel_rfl
theorem law96x0x38 (N : Nat) : CutLaw Try.prog 1 (piece Try.prog 96 38) (loSh sh96x0x38 (A96x0x38 N)) :=
  law_sh progOk (T95x0_ok N) (al96x0s3 N) one96x0x38 fun L x hx => (raw96x0x38 N L).trans ((tot96x0x38 N ..).trans (alt0 _ _ hx))
noncomputable def h96x0s4 (N : Nat) : Hint := { (h96x0s3 N) with los := (38, loSh sh96x0x38 (A96x0x38 N)) :: (h96x0s3 N).los }
theorem al96x0s4 (N : Nat) : AllCuts Try.prog (h96x0s4 N).los 1 96 := AllCuts.cons (al96x0s3 N) one96x0x38 (law96x0x38 N)
noncomputable def F96x0x32 (N : Nat) {R : Type} (w0 : Bool) (w21 w22 : Int) (w63 w64 : Bool) (k0 : Int × Int → R) : R :=
  bif w0 then
    bnd (V96x0x38 N (bif (!w63) then (!w64) else false) w21) fun y0 =>
    k0 (y0, 0)
  else
    k0 (w21, w22)
noncomputable def V96x0x32 (N : Nat) (w0 : Bool) (w21 w22 : Int) (w63 w64 : Bool) : Int × Int := F96x0x32 N w0 w21 w22 w63 w64 (fun p => p)
theorem tot96x0x32 (N : Nat) {R : Type} (w0 : Bool) (w21 w22 : Int) (w63 w64 : Bool) (k0 : Int × Int → R) : F96x0x32 N w0 w21 w22 w63 w64 k0 = k0 (V96x0x32 N w0 w21 w22 w63 w64) := by
  unfold V96x0x32 F96x0x32
  repeat' (first | rfl | apply cond_k | (apply bnd_k; intro _))
noncomputable def J96x0x32 (N : Nat) (L : List Lf) {R : Type} (k0 : Int × Int → R) : R := F96x0x32 N (lb L 0) (li L 21) (li L 22) (lb L 63) (lb L 64) k0
noncomputable def sh96x0x32 : Sh := { tmps := [(3, .c (.p 4 0)), (4, .c (.p 5 0)), (5, .c (.p 6 0)), (54, .c (.b))], mem := [(0, .box (.i .i64 :: .i .i64 :: .i .i64 :: .sl 66 :: .sl 68 :: rB 12 ([]))), (4, .box (rI 20 ([]))), (5, .box (rI 20 ([]))), (6, .box (rB 10 ([])))] }
noncomputable def K96x0x32w0 (L : List Lf) (p : Int × Int) : Ex × St := (.normal, ⟨[(3, .c (.p 4 0)), (4, .c (.p 5 0)), (5, .c (.p 6 0))], [(0, .box (.i .i64 (li L 1) :: .i .i64 (li L 2) :: .i .i64 (li L 3) :: .sl 66 (lb L 4) (ll L 5) :: .sl 68 (lb L 6) (ll L 7) :: rM L 8 12 ([]))), (4, .box (.i .i64 (li L 20) :: .i .i64 p.1 :: .i .i64 p.2 :: rL L 23 17 ([]))), (5, .box (rL L 40 20 ([]))), (6, .box (rM L 60 10 ([])))]⟩)
noncomputable def A96x0x32 (N : Nat) (L : List Lf) : List (Bool × (Ex × St)) := bnd (J96x0x32 N L (fun p => p)) fun q => [(true, K96x0x32w0 L q)]
theorem raw96x0x32 (N : Nat) (L : List Lf) : (exec Try.prog (T95x0 N) (h96x0s4 N) 1 100 (piece Try.prog 96 32) (ofSh sh96x0x32 L) (fun e st => some (e, cutSt [5, 3, 4] [6, 5, 4, 0] st)) : Option (Ex × St)) = J96x0x32 N L (fun p => some (K96x0x32w0 L p)) := by kernel_rfl
theorem one96x0x32 : oneB Try.prog 96 32 = true := by kernel_rfl
theorem law96x0x32 (N : Nat) : CutLaw Try.prog 1 (piece Try.prog 96 32) (loSh sh96x0x32 (A96x0x32 N)) :=
  law_sh progOk (T95x0_ok N) (al96x0s4 N) one96x0x32 fun L x hx => (raw96x0x32 N L).trans ((tot96x0x32 N ..).trans (alt0 _ _ hx))
noncomputable def h96x0s5 (N : Nat) : Hint := { (h96x0s4 N) with los := (32, loSh sh96x0x32 (A96x0x32 N)) :: (h96x0s4 N).los }
theorem al96x0s5 (N : Nat) : AllCuts Try.prog (h96x0s5 N).los 1 96 := AllCuts.cons (al96x0s4 N) one96x0x32 (law96x0x32 N)
noncomputable def F96x0x44 (N : Nat) {R : Type} (w0 : Bool) (w23 : Int) (k0 : Int → R) : R :=
  bif w0 then
    k0 0
  else
    k0 w23
noncomputable def V96x0x44 (N : Nat) (w0 : Bool) (w23 : Int) : Int := F96x0x44 N w0 w23 (fun p => p)
theorem tot96x0x44 (N : Nat) {R : Type} (w0 : Bool) (w23 : Int) (k0 : Int → R) : F96x0x44 N w0 w23 k0 = k0 (V96x0x44 N w0 w23) := by
  unfold V96x0x44 F96x0x44
  repeat' (first | rfl | apply cond_k | (apply bnd_k; intro _))
noncomputable def sh96x0x44 : Sh := { tmps := [(3, .c (.p 4 0)), (4, .c (.p 5 0)), (5, .c (.p 6 0)), (67, .c (.b))], mem := [(0, .box (.i .i64 :: .i .i64 :: .i .i64 :: .sl 66 :: .sl 68 :: rB 12 ([]))), (4, .box (rI 20 ([]))), (5, .box (rI 20 ([]))), (6, .box (rB 10 ([])))] }
noncomputable def K96x0x44w0 (L : List Lf) (p : Int) : Ex × St := (.normal, ⟨[(3, .c (.p 4 0)), (4, .c (.p 5 0)), (5, .c (.p 6 0))], [(0, .box (.i .i64 (li L 1) :: .i .i64 (li L 2) :: .i .i64 (li L 3) :: .sl 66 (lb L 4) (ll L 5) :: .sl 68 (lb L 6) (ll L 7) :: rM L 8 12 ([]))), (4, .box (.i .i64 (li L 20) :: .i .i64 (li L 21) :: .i .i64 (li L 22) :: .i .i64 p :: rL L 24 16 ([]))), (5, .box (rL L 40 20 ([]))), (6, .box (rM L 60 10 ([])))]⟩)
noncomputable def A96x0x44 (N : Nat) (L : List Lf) : List (Bool × (Ex × St)) := bnd (F96x0x44 N (lb L 0) (li L 23) (fun p => p)) fun q => [(true, K96x0x44w0 L q)]
theorem raw96x0x44 (N : Nat) (L : List Lf) : (exec Try.prog (T95x0 N) (h96x0s5 N) 1 100 (piece Try.prog 96 44) (ofSh sh96x0x44 L) (fun e st => some (e, cutSt [5, 3, 4] [6, 5, 4, 0] st)) : Option (Ex × St)) = F96x0x44 N (lb L 0) (li L 23) (fun p => some (K96x0x44w0 L p)) := by kernel_rfl
theorem one96x0x44 : oneB Try.prog 96 44 = true := by kernel_rfl
theorem law96x0x44 (N : Nat) : CutLaw Try.prog 1 (piece Try.prog 96 44) (loSh sh96x0x44 (A96x0x44 N)) :=
  law_sh progOk (T95x0_ok N) (al96x0s5 N) one96x0x44 fun L x hx => (raw96x0x44 N L).trans ((tot96x0x44 N ..).trans (alt0 _ _ hx))
noncomputable def h96x0s6 (N : Nat) : Hint := { (h96x0s5 N) with los := (44, loSh sh96x0x44 (A96x0x44 N)) :: (h96x0s5 N).los }
theorem al96x0s6 (N : Nat) : AllCuts Try.prog (h96x0s6 N).los 1 96 := AllCuts.cons (al96x0s5 N) one96x0x44 (law96x0x44 N)
noncomputable def F96x0x50 (N : Nat) {R : Type} (w0 : Bool) (w24 w25 w26 w27 : Int) (k0 : Int × Int × Int × Int → R) : R :=
  bif w0 then
    k0 (0, 0, 0, 0)
  else
    k0 (w24, w25, w26, w27)
noncomputable def V96x0x50 (N : Nat) (w0 : Bool) (w24 w25 w26 w27 : Int) : Int × Int × Int × Int := F96x0x50 N w0 w24 w25 w26 w27 (fun p => p)
theorem tot96x0x50 (N : Nat) {R : Type} (w0 : Bool) (w24 w25 w26 w27 : Int) (k0 : Int × Int × Int × Int → R) : F96x0x50 N w0 w24 w25 w26 w27 k0 = k0 (V96x0x50 N w0 w24 w25 w26 w27) := by
  unfold V96x0x50 F96x0x50
  repeat' (first | rfl | apply cond_k | (apply bnd_k; intro _))
noncomputable def J96x0x50 (N : Nat) (L : List Lf) {R : Type} (k0 : Int × Int × Int × Int → R) : R := F96x0x50 N (lb L 0) (li L 24) (li L 25) (li L 26) (li L 27) k0
noncomputable def sh96x0x50 : Sh := { tmps := [(3, .c (.p 4 0)), (4, .c (.p 5 0)), (71, .c (.b))], mem := [(0, .box (.i .i64 :: .i .i64 :: .i .i64 :: .sl 66 :: .sl 68 :: rB 12 ([]))), (4, .box (rI 20 ([]))), (5, .box (rI 20 ([])))] }
noncomputable def K96x0x50w0 (L : List Lf) (p : Int × Int × Int × Int) : Ex × St := (.normal, ⟨[(3, .c (.p 4 0)), (4, .c (.p 5 0))], [(0, .box (.i .i64 (li L 1) :: .i .i64 (li L 2) :: .i .i64 (li L 3) :: .sl 66 (lb L 4) (ll L 5) :: .sl 68 (lb L 6) (ll L 7) :: rM L 8 12 ([]))), (4, .box (rL L 20 4 (.i .i64 p.1 :: .i .i64 p.2.1 :: .i .i64 p.2.2.1 :: .i .i64 p.2.2.2 :: rL L 28 12 ([])))), (5, .box (rL L 40 20 ([])))]⟩)
noncomputable def A96x0x50 (N : Nat) (L : List Lf) : List (Bool × (Ex × St)) := bnd (J96x0x50 N L (fun p => p)) fun q => [(true, K96x0x50w0 L q)]
theorem raw96x0x50 (N : Nat) (L : List Lf) : (exec Try.prog (T95x0 N) (h96x0s6 N) 1 100 (piece Try.prog 96 50) (ofSh sh96x0x50 L) (fun e st => some (e, cutSt [3, 4] [5, 4, 0] st)) : Option (Ex × St)) = J96x0x50 N L (fun p => some (K96x0x50w0 L p)) := by kernel_rfl
theorem one96x0x50 : oneB Try.prog 96 50 = true := by kernel_rfl
theorem law96x0x50 (N : Nat) : CutLaw Try.prog 1 (piece Try.prog 96 50) (loSh sh96x0x50 (A96x0x50 N)) :=
  law_sh progOk (T95x0_ok N) (al96x0s6 N) one96x0x50 fun L x hx => (raw96x0x50 N L).trans ((tot96x0x50 N ..).trans (alt0 _ _ hx))
noncomputable def h96x0s7 (N : Nat) : Hint := { (h96x0s6 N) with los := (50, loSh sh96x0x50 (A96x0x50 N)) :: (h96x0s6 N).los }
theorem al96x0s7 (N : Nat) : AllCuts Try.prog (h96x0s7 N).los 1 96 := AllCuts.cons (al96x0s6 N) one96x0x50 (law96x0x50 N)
noncomputable def F96x0 (N : Nat) {R : Type} (v0 v1 v2 v3 v4 v5 v6 v7 v8 v9 v10 v11 v12 v13 v14 v15 v16 v17 v18 v19 : Int) (v26 : LD) (v27 v28 v29 v30 v31 v32 v33 v34 v35 v36 v37 v38 : Bool) (k0 : Ty5 → Option R) : Option R :=
  bnd (G96x0x9 N v26 (v26.length : Int) v27 v28 v29 v30 v31 v32 v33 v34 v35 v36 v37 v38 v0 0 v8 v9 v10 v11 v12 v13 v14 v15 v16 v17 v18 v19 false false false false false false false false false false) fun y0 =>
  bif y0.isSome then
    bnd (y0.getD default).2.2.2.2.2.2.2.2.2.2.2.2.2.2.2.2.2.2.2.1 fun y1 =>
    bnd (V96x0x32 N (!y1) v1 v2 (y0.getD default).2.2.2.2.2.2.2.2.2.2.2.2.2.2.2.1 (y0.getD default).2.2.2.2.2.2.2.2.2.2.2.2.2.2.2.2.1) fun y2 =>
    bnd (!(y0.getD default).2.2.2.2.2.2.2.2.2.2.2.2.2.2.2.2.2.1) fun y3 =>
    bnd (V96x0x44 N y3 v3) fun y4 =>
    bnd (y0.getD default).2.2.2.2.2.2.2.2.2.2.2.2.2.2.2.2.2.2.1 fun y5 =>
    bnd (V96x0x50 N (!y5) v4 v5 v6 v7) fun y6 =>
    k0 (y2.1, y2.2, y4, y6.1, y6.2.1, y6.2.2.1, y6.2.2.2, (y0.getD default).1, (y0.getD default).2.1, (y0.getD default).2.2.1, (y0.getD default).2.2.2.1, (y0.getD default).2.2.2.2.1, (y0.getD default).2.2.2.2.2.1, (y0.getD default).2.2.2.2.2.2.1, (y0.getD default).2.2.2.2.2.2.2.1, (y0.getD default).2.2.2.2.2.2.2.2.1, (y0.getD default).2.2.2.2.2.2.2.2.2.1, (y0.getD default).2.2.2.2.2.2.2.2.2.2.1, (y0.getD default).2.2.2.2.2.2.2.2.2.2.2.1)
  else
    none
noncomputable def G96x0 (N : Nat) (v0 v1 v2 v3 v4 v5 v6 v7 v8 v9 v10 v11 v12 v13 v14 v15 v16 v17 v18 v19 : Int) (v26 : LD) (v27 v28 v29 v30 v31 v32 v33 v34 v35 v36 v37 v38 : Bool) : Option (Ty5) := F96x0 N v0 v1 v2 v3 v4 v5 v6 v7 v8 v9 v10 v11 v12 v13 v14 v15 v16 v17 v18 v19 v26 v27 v28 v29 v30 v31 v32 v33 v34 v35 v36 v37 v38 (fun p => some p)
theorem bind96x0 (N : Nat) {R : Type} (v0 v1 v2 v3 v4 v5 v6 v7 v8 v9 v10 v11 v12 v13 v14 v15 v16 v17 v18 v19 : Int) (v26 : LD) (v27 v28 v29 v30 v31 v32 v33 v34 v35 v36 v37 v38 : Bool) (k0 : Ty5 → Option R) : F96x0 N v0 v1 v2 v3 v4 v5 v6 v7 v8 v9 v10 v11 v12 v13 v14 v15 v16 v17 v18 v19 v26 v27 v28 v29 v30 v31 v32 v33 v34 v35 v36 v37 v38 k0 = (G96x0 N v0 v1 v2 v3 v4 v5 v6 v7 v8 v9 v10 v11 v12 v13 v14 v15 v16 v17 v18 v19 v26 v27 v28 v29 v30 v31 v32 v33 v34 v35 v36 v37 v38).bind k0 := by
  unfold G96x0 F96x0
  repeat' (first | rfl | apply cond_b | (apply bnd_b; intro _))
noncomputable def J96x0 (N : Nat) (L : List Lf) {R : Type} (k0 : Ty5 → Option R) : Option R := F96x0 N (li L 0) (li L 1) (li L 2) (li L 3) (li L 4) (li L 5) (li L 6) (li L 7) (li L 8) (li L 9) (li L 10) (li L 11) (li L 12) (li L 13) (li L 14) (li L 15) (li L 16) (li L 17) (li L 18) (li L 19) (ll L 26) (lb L 27) (lb L 28) (lb L 29) (lb L 30) (lb L 31) (lb L 32) (lb L 33) (lb L 34) (lb L 35) (lb L 36) (lb L 37) (lb L 38) k0
noncomputable def sh96x0 : Sh := { tmps := [(0, .c (.p 0 0)), (1, .g (rI 20 ([])))], mem := [(0, .box (.i .i64 :: .i .i64 :: .i .i64 :: .sl 66 :: .sl 68 :: rB 12 ([])))] }
noncomputable def K96x0w0 (L : List Lf) (p : Ty5) : Res := let p1 := p.2; let p2 := p1.2; let p3 := p2.2; let p4 := p3.2; let p5 := p4.2; let p6 := p5.2; let p7 := p6.2; let p8 := p7.2; let p9 := p8.2; let p10 := p9.2; let p11 := p10.2; let p12 := p11.2; let p13 := p12.2; let p14 := p13.2; let p15 := p14.2; let p16 := p15.2; let p17 := p16.2; let p18 := p17.2; ([.g [.i .i64 (li L 0), .i .i64 p.1, .i .i64 p1.1, .i .i64 p2.1, .i .i64 p3.1, .i .i64 p4.1, .i .i64 p5.1, .i .i64 p6.1, .i .i64 p7.1, .i .i64 p8.1, .i .i64 p9.1, .i .i64 p10.1, .i .i64 p11.1, .i .i64 p12.1, .i .i64 p13.1, .i .i64 p14.1, .i .i64 p15.1, .i .i64 p16.1, .i .i64 p17.1, .i .i64 p18]], [(0, .box (.i .i64 (li L 20) :: .i .i64 (li L 21) :: .i .i64 (li L 22) :: .sl 66 (lb L 23) (ll L 24) :: .sl 68 (lb L 25) (ll L 26) :: rM L 27 12 ([])))])
noncomputable def A96x0 (N : Nat) (L : List Lf) : List (Bool × Res) := bnd (J96x0 N L (fun p => some p)) fun q => [(q.isSome, K96x0w0 L (q.getD default))]
theorem raw96x0 (N : Nat) (L : List Lf) : (body Try.prog (T95x0 N) (h96x0s7 N) 200 96 (valsOf (ofSh sh96x0 L).tmps) (ofSh sh96x0 L).mem : Option Res) = J96x0 N L (fun p => some (K96x0w0 L p)) := by kernel_rfl
theorem ok96x0 (N : Nat) : ∀ args mem alts, spSh sh96x0 (A96x0 N) args mem = some alts → ∀ res, altK alts some = some res → CallOk Try.prog 96 args mem res :=
  spSh_law fun L x hx => callOk_of (n := 200) progOk (T95x0_ok N) (al96x0s7 N) rfl ((raw96x0 N L).trans ((bind96x0 N ..).trans (alt1 x hx)))
noncomputable def T96x0 (N : Nat) : Oracle := ext 96 (spSh sh96x0 (A96x0 N)) (T95x0 N)
theorem T96x0_ok (N : Nat) : OracleOk Try.prog (T96x0 N) := ext_ok (T95x0_ok N) (enters_of (by kernel_rfl)) (ok96x0 N)
noncomputable def rg88x0 : List (Nat × List Nat) := [(0, [1, 0, 2]), (1, [0, 2, 4, 6]), (2, [4, 8, 2, 0, 6]), (3, [4, 8, 2, 9, 0, 6]), (4, [2, 4, 9, 0, 8, 6]), (5, [2, 4, 9, 0, 8, 6]), (6, [9, 0, 4, 8, 2, 6]), (7, [10, 9, 0, 4, 8, 2, 6]), (8, [0, 9, 4, 8, 2, 10, 11, 6]), (9, [57, 56, 55, 9, 4, 8, 0, 2, 10, 11, 6]), (10, [57, 55, 9, 4, 8, 0, 2, 10, 11, 6, 56]), (11, [13, 9, 12, 4, 8, 0, 2, 10, 11, 6, 57, 56, 55]), (12, [12, 4, 8, 0, 2, 10, 11, 6, 57, 56, 55, 9]), (13, [0, 12, 4, 2, 10, 11, 6, 57, 56, 55, 9, 8]), (14, [6]), (15, [57, 56, 55, 9, 4, 8, 0, 2, 10, 11, 6]), (16, [8, 9, 4, 11, 0, 6]), (17, [9, 4, 11, 0, 6]), (18, [11, 4, 0, 6]), (19, [4, 0, 6]), (20, [4, 0, 6]), (21, [0, 4, 6])]
noncomputable def hd88x0 : Hints := [(17, [2, 4, 9, 0, 8, 6, 29], [9, 7, 5, 0], []), (27, [57, 56, 55, 9, 4, 8, 0, 2, 10, 11, 6], [9, 7, 5, 0], []), (34, [13, 9, 12, 4, 8, 0, 2, 10, 11, 6, 57, 56, 55], [14, 9, 7, 5, 0], []), (38, [12, 4, 8, 0, 2, 10, 11, 6, 57, 56, 55, 9, 76], [9, 7, 5, 0], []), (40, [0, 12, 4, 2, 10, 11, 6, 57, 56, 55, 9, 8], [9, 7, 5, 0], []), (53, [9, 4, 11, 0, 6, 106], [7, 5, 0], []), (59, [4, 0, 6, 110], [7, 5, 0], [])]
noncomputable def h88x0s0 (N : Nat) : Hint := { loops := hd88x0, regs := rg88x0, los := [] }
theorem al88x0s0 (N : Nat) : AllCuts Try.prog (h88x0s0 N).los 1 88 := AllCuts.nil
noncomputable def F88x0x17 (N : Nat) {R : Type} (w0 : Int) (w2 : Bool) (w26 w27 w28 w29 : Int) (k0 : Int × Int × Int × Int → Option R) : Option R :=
  bif w2 then
    bif (inB w0 4) then
      bnd (bif (Nat.beq w0.toNat 0) then w26 else (bif (Nat.beq w0.toNat 1) then w27 else (bif (Nat.beq w0.toNat 2) then w28 else w29))) fun y0 =>
      bif (inB w0 4) then
        bnd (bif (Nat.beq w0.toNat 0) then (IntKind.wrap .i64 (y0 + 1)) else w26) fun y1 =>
        bnd (bif (Nat.beq w0.toNat 1) then (IntKind.wrap .i64 (y0 + 1)) else w27) fun y2 =>
        bnd (bif (Nat.beq w0.toNat 2) then (IntKind.wrap .i64 (y0 + 1)) else w28) fun y3 =>
        bnd (bif (Nat.beq w0.toNat 3) then (IntKind.wrap .i64 (y0 + 1)) else w29) fun y4 =>
        k0 (y1, y2, y3, y4)
      else
        none
    else
      none
  else
    k0 (w26, w27, w28, w29)
noncomputable def G88x0x17 (N : Nat) (w0 : Int) (w2 : Bool) (w26 w27 w28 w29 : Int) : Option (Int × Int × Int × Int) := F88x0x17 N w0 w2 w26 w27 w28 w29 (fun p => some p)
theorem bind88x0x17 (N : Nat) {R : Type} (w0 : Int) (w2 : Bool) (w26 w27 w28 w29 : Int) (k0 : Int × Int × Int × Int → Option R) : F88x0x17 N w0 w2 w26 w27 w28 w29 k0 = (G88x0x17 N w0 w2 w26 w27 w28 w29).bind k0 := by
  unfold G88x0x17 F88x0x17
  repeat' (first | rfl | apply cond_b | (apply bnd_b; intro _))
noncomputable def J88x0x17 (N : Nat) (L : List Lf) {R : Type} (k0 : Int × Int × Int × Int → Option R) : Option R := F88x0x17 N (li L 0) (lb L 2) (li L 26) (li L 27) (li L 28) (li L 29) k0
noncomputable def sh88x0x17 : Sh := { tmps := [(0, .c (.p 0 0)), (2, .c (.i .i64)), (4, .c (.p 5 0)), (6, .c (.p 7 0)), (8, .c (.p 9 0)), (9, .c (.i .i64)), (29, .c (.b))], mem := [(0, .box (.i .i64 :: .i .i64 :: .i .i64 :: .sl 66 :: .sl 68 :: rB 12 ([]))), (5, .box (rI 20 ([]))), (7, .box (rI 20 ([]))), (9, .box ([.s, .i .i64, .i .i64, .i .i64, .b]))] }
noncomputable def K88x0x17w0 (L : List Lf) (p : Int × Int × Int × Int) : Ex × St := (.normal, ⟨[(0, .c (.p 0 0)), (2, .c (.i .i64 (li L 0))), (4, .c (.p 5 0)), (6, .c (.p 7 0)), (8, .c (.p 9 0)), (9, .c (.i .i64 (li L 1)))], [(0, .box (.i .i64 (li L 3) :: .i .i64 (li L 4) :: .i .i64 (li L 5) :: .sl 66 (lb L 6) (ll L 7) :: .sl 68 (lb L 8) (ll L 9) :: rM L 10 12 ([]))), (5, .box (rL L 22 4 (.i .i64 p.1 :: .i .i64 p.2.1 :: .i .i64 p.2.2.1 :: .i .i64 p.2.2.2 :: rL L 30 12 ([])))), (7, .box (rL L 42 20 ([]))), (9, .box [.s (ls L 62), .i .i64 (li L 63), .i .i64 (li L 64), .i .i64 (li L 65), .b (lb L 66)])]⟩)
noncomputable def A88x0x17 (N : Nat) (L : List Lf) : List (Bool × (Ex × St)) := bnd (J88x0x17 N L (fun p => some p)) fun q => [(q.isSome, K88x0x17w0 L (q.getD default))]
theorem raw88x0x17 (N : Nat) (L : List Lf) : (exec Try.prog (T96x0 N) (h88x0s0 N) 1 100 (piece Try.prog 88 17) (ofSh sh88x0x17 L) (fun e st => some (e, cutSt [9, 0, 4, 8, 2, 6] [9, 7, 5, 0] st)) : Option (Ex × St)) = J88x0x17 N L (fun p => some (K88x0x17w0 L p)) := by kernel_rfl
theorem one88x0x17 : oneB Try.prog 88 17 = true := by kernel_rfl
theorem law88x0x17 (N : Nat) : CutLaw Try.prog 1 (piece Try.prog 88 17) (loSh sh88x0x17 (A88x0x17 N)) :=
  law_sh progOk (T96x0_ok N) (al88x0s0 N) one88x0x17 fun L x hx => (raw88x0x17 N L).trans ((bind88x0x17 N ..).trans (alt1 x hx))
noncomputable def h88x0s1 (N : Nat) : Hint := { (h88x0s0 N) with los := (17, loSh sh88x0x17 (A88x0x17 N)) :: (h88x0s0 N).los }
theorem al88x0s1 (N : Nat) : AllCuts Try.prog (h88x0s1 N).los 1 88 := AllCuts.cons (al88x0s0 N) one88x0x17 (law88x0x17 N)
noncomputable def F88x0x34 (N : Nat) {R : Type} (w1 w73 w74 w76 : Int) (k0 : Bool → R) : R :=
  bif (w73 == 9) then
    bnd (V48x0 N w1 (IntKind.wrap .i64 (w74 - w76)) (IntKind.wrap .i64 (w74 - 1))) fun y0 =>
    k0 y0
  else
    k0 false
noncomputable def V88x0x34 (N : Nat) (w1 w73 w74 w76 : Int) : Bool := F88x0x34 N w1 w73 w74 w76 (fun p => p)
theorem tot88x0x34 (N : Nat) {R : Type} (w1 w73 w74 w76 : Int) (k0 : Bool → R) : F88x0x34 N w1 w73 w74 w76 k0 = k0 (V88x0x34 N w1 w73 w74 w76) := by
  unfold V88x0x34 F88x0x34
  repeat' (first | rfl | apply cond_k | (apply bnd_k; intro _))
noncomputable def J88x0x34 (N : Nat) (L : List Lf) {R : Type} (k0 : Bool → R) : R := F88x0x34 N (li L 1) (li L 73) (li L 74) (li L 76) k0
noncomputable def sh88x0x34 : Sh := { tmps := [(0, .c (.p 0 0)), (2, .c (.i .i64)), (4, .c (.p 5 0)), (6, .c (.p 7 0)), (8, .c (.p 9 0)), (9, .c (.i .i64)), (10, .c (.b)), (11, .c (.b)), (12, .c (.i .i64)), (13, .c (.p 14 0)), (55, .c (.sl 68)), (56, .c (.i .i64)), (57, .c (.i .i64))], mem := [(0, .box (.i .i64 :: .i .i64 :: .i .i64 :: .sl 66 :: .sl 68 :: rB 12 ([]))), (5, .box (rI 20 ([]))), (7, .box (rI 20 ([]))), (9, .box ([.s, .i .i64, .i .i64, .i .i64, .b])), (14, .box (rI 5 ([.s])))] }
noncomputable def K88x0x34w0 (L : List Lf) (p : Bool) : Ex × St := (.normal, ⟨[(0, .c (.p 0 0)), (2, .c (.i .i64 (li L 0))), (4, .c (.p 5 0)), (6, .c (.p 7 0)), (8, .c (.p 9 0)), (9, .c (.i .i64 (li L 1))), (10, .c (.b (lb L 2))), (11, .c (.b (lb L 3))), (12, .c (.i .i64 (li L 4))), (55, .c (.sl 68 (lb L 5) (ll L 6))), (56, .c (.i .i64 (li L 7))), (57, .c (.i .i64 (li L 8))), (76, .c (.b p))], [(0, .box (.i .i64 (li L 9) :: .i .i64 (li L 10) :: .i .i64 (li L 11) :: .sl 66 (lb L 12) (ll L 13) :: .sl 68 (lb L 14) (ll L 15) :: rM L 16 12 ([]))), (5, .box (rL L 28 20 ([]))), (7, .box (rL L 48 20 ([]))), (9, .box [.s (ls L 68), .i .i64 (li L 69), .i .i64 (li L 70), .i .i64 (li L 71), .b (lb L 72)])]⟩)
noncomputable def A88x0x34 (N : Nat) (L : List Lf) : List (Bool × (Ex × St)) := bnd (J88x0x34 N L (fun p => p)) fun q => [(true, K88x0x34w0 L q)]
theorem raw88x0x34 (N : Nat) (L : List Lf) : (exec Try.prog (T96x0 N) (h88x0s1 N) 1 100 (piece Try.prog 88 34) (ofSh sh88x0x34 L) (fun e st => some (e, cutSt [12, 4, 8, 0, 2, 10, 11, 6, 57, 56, 55, 9, 76] [9, 7, 5, 0] st)) : Option (Ex × St)) = J88x0x34 N L (fun p => some (K88x0x34w0 L p)) := by kernel_rfl
theorem one88x0x34 : oneB Try.prog 88 34 = true := by kernel_rfl
theorem law88x0x34 (N : Nat) : CutLaw Try.prog 1 (piece Try.prog 88 34) (loSh sh88x0x34 (A88x0x34 N)) :=
  law_sh progOk (T96x0_ok N) (al88x0s1 N) one88x0x34 fun L x hx => (raw88x0x34 N L).trans ((tot88x0x34 N ..).trans (alt0 _ _ hx))
noncomputable def h88x0s2 (N : Nat) : Hint := { (h88x0s1 N) with los := (34, loSh sh88x0x34 (A88x0x34 N)) :: (h88x0s1 N).los }
theorem al88x0s2 (N : Nat) : AllCuts Try.prog (h88x0s2 N).los 1 88 := AllCuts.cons (al88x0s1 N) one88x0x34 (law88x0x34 N)
noncomputable def F88x0x38 (N : Nat) {R : Type} (w4 : Int) (w9 : Bool) (w37 w38 w39 w40 w41 w42 w43 w44 w45 w46 w47 w48 w70 : Int) (k0 : Ty6 → Option R) : Option R :=
  bif w9 then
    bif (inB w4 12) then
      bnd (bif (Nat.beq w4.toNat 0) then w37 else (bif (Nat.beq w4.toNat 1) then w38 else (bif (Nat.beq w4.toNat 2) then w39 else (bif (Nat.beq w4.toNat 3) then w40 else (bif (Nat.beq w4.toNat 4) then w41 else (bif (Nat.beq w4.toNat 5) then w42 else (bif (Nat.beq w4.toNat 6) then w43 else (bif (Nat.beq w4.toNat 7) then w44 else (bif (Nat.beq w4.toNat 8) then w45 else (bif (Nat.beq w4.toNat 9) then w46 else (bif (Nat.beq w4.toNat 10) then w47 else w48))))))))))) fun y0 =>
      bif (inB w4 12) then
        bnd (bif (Nat.beq w4.toNat 0) then (IntKind.wrap .i64 (y0 + w70)) else w37) fun y1 =>
        bnd (bif (Nat.beq w4.toNat 1) then (IntKind.wrap .i64 (y0 + w70)) else w38) fun y2 =>
        bnd (bif (Nat.beq w4.toNat 2) then (IntKind.wrap .i64 (y0 + w70)) else w39) fun y3 =>
        bnd (bif (Nat.beq w4.toNat 3) then (IntKind.wrap .i64 (y0 + w70)) else w40) fun y4 =>
        bnd (bif (Nat.beq w4.toNat 4) then (IntKind.wrap .i64 (y0 + w70)) else w41) fun y5 =>
        bnd (bif (Nat.beq w4.toNat 5) then (IntKind.wrap .i64 (y0 + w70)) else w42) fun y6 =>
        bnd (bif (Nat.beq w4.toNat 6) then (IntKind.wrap .i64 (y0 + w70)) else w43) fun y7 =>
        bnd (bif (Nat.beq w4.toNat 7) then (IntKind.wrap .i64 (y0 + w70)) else w44) fun y8 =>
        bnd (bif (Nat.beq w4.toNat 8) then (IntKind.wrap .i64 (y0 + w70)) else w45) fun y9 =>
        bnd (bif (Nat.beq w4.toNat 9) then (IntKind.wrap .i64 (y0 + w70)) else w46) fun y10 =>
        bnd (bif (Nat.beq w4.toNat 10) then (IntKind.wrap .i64 (y0 + w70)) else w47) fun y11 =>
        bnd (bif (Nat.beq w4.toNat 11) then (IntKind.wrap .i64 (y0 + w70)) else w48) fun y12 =>
        k0 (y1, y2, y3, y4, y5, y6, y7, y8, y9, y10, y11, y12)
      else
        none
    else
      none
  else
    k0 (w37, w38, w39, w40, w41, w42, w43, w44, w45, w46, w47, w48)
noncomputable def G88x0x38 (N : Nat) (w4 : Int) (w9 : Bool) (w37 w38 w39 w40 w41 w42 w43 w44 w45 w46 w47 w48 w70 : Int) : Option (Ty6) := F88x0x38 N w4 w9 w37 w38 w39 w40 w41 w42 w43 w44 w45 w46 w47 w48 w70 (fun p => some p)
theorem bind88x0x38 (N : Nat) {R : Type} (w4 : Int) (w9 : Bool) (w37 w38 w39 w40 w41 w42 w43 w44 w45 w46 w47 w48 w70 : Int) (k0 : Ty6 → Option R) : F88x0x38 N w4 w9 w37 w38 w39 w40 w41 w42 w43 w44 w45 w46 w47 w48 w70 k0 = (G88x0x38 N w4 w9 w37 w38 w39 w40 w41 w42 w43 w44 w45 w46 w47 w48 w70).bind k0 := by
  unfold G88x0x38 F88x0x38
  repeat' (first | rfl | apply cond_b | (apply bnd_b; intro _))
noncomputable def J88x0x38 (N : Nat) (L : List Lf) {R : Type} (k0 : Ty6 → Option R) : Option R := F88x0x38 N (li L 4) (lb L 9) (li L 37) (li L 38) (li L 39) (li L 40) (li L 41) (li L 42) (li L 43) (li L 44) (li L 45) (li L 46) (li L 47) (li L 48) (li L 70) k0
noncomputable def sh88x0x38 : Sh := { tmps := [(0, .c (.p 0 0)), (2, .c (.i .i64)), (4, .c (.p 5 0)), (6, .c (.p 7 0)), (8, .c (.p 9 0)), (9, .c (.i .i64)), (10, .c (.b)), (11, .c (.b)), (12, .c (.i .i64)), (55, .c (.sl 68)), (56, .c (.i .i64)), (57, .c (.i .i64)), (76, .c (.b))], mem := [(0, .box (.i .i64 :: .i .i64 :: .i .i64 :: .sl 66 :: .sl 68 :: rB 12 ([]))), (5, .box (rI 20 ([]))), (7, .box (rI 20 ([]))), (9, .box ([.s, .i .i64, .i .i64, .i .i64, .b]))] }
noncomputable def K88x0x38w0 (L : List Lf) (p : Ty6) : Ex × St := let p1 := p.2; let p2 := p1.2; let p3 := p2.2; let p4 := p3.2; let p5 := p4.2; let p6 := p5.2; let p7 := p6.2; let p8 := p7.2; let p9 := p8.2; let p10 := p9.2; let p11 := p10.2; (.normal, ⟨[(0, .c (.p 0 0)), (2, .c (.i .i64 (li L 0))), (4, .c (.p 5 0)), (6, .c (.p 7 0)), (8, .c (.p 9 0)), (9, .c (.i .i64 (li L 1))), (10, .c (.b (lb L 2))), (11, .c (.b (lb L 3))), (12, .c (.i .i64 (li L 4))), (55, .c (.sl 68 (lb L 5) (ll L 6))), (56, .c (.i .i64 (li L 7))), (57, .c (.i .i64 (li L 8)))], [(0, .box (.i .i64 (li L 10) :: .i .i64 (li L 11) :: .i .i64 (li L 12) :: .sl 66 (lb L 13) (ll L 14) :: .sl 68 (lb L 15) (ll L 16) :: rM L 17 12 ([]))), (5, .box (rL L 29 8 ([.i .i64 p.1, .i .i64 p1.1, .i .i64 p2.1, .i .i64 p3.1, .i .i64 p4.1, .i .i64 p5.1, .i .i64 p6.1, .i .i64 p7.1, .i .i64 p8.1, .i .i64 p9.1, .i .i64 p10.1, .i .i64 p11]))), (7, .box (rL L 49 20 ([]))), (9, .box [.s (ls L 69), .i .i64 (li L 70), .i .i64 (li L 71), .i .i64 (li L 72), .b (lb L 73)])]⟩)
noncomputable def A88x0x38 (N : Nat) (L : List Lf) : List (Bool × (Ex × St)) := bnd (J88x0x38 N L (fun p => some p)) fun q => [(q.isSome, K88x0x38w0 L (q.getD default))]
theorem raw88x0x38 (N : Nat) (L : List Lf) : (exec Try.prog (T96x0 N) (h88x0s2 N) 1 100 (piece Try.prog 88 38) (ofSh sh88x0x38 L) (fun e st => some (e, cutSt [0, 12, 4, 2, 10, 11, 6, 57, 56, 55, 9, 8] [9, 7, 5, 0] st)) : Option (Ex × St)) = J88x0x38 N L (fun p => some (K88x0x38w0 L p)) := by kernel_rfl
theorem one88x0x38 : oneB Try.prog 88 38 = true := by kernel_rfl
theorem law88x0x38 (N : Nat) : CutLaw Try.prog 1 (piece Try.prog 88 38) (loSh sh88x0x38 (A88x0x38 N)) :=
  law_sh progOk (T96x0_ok N) (al88x0s2 N) one88x0x38 fun L x hx => (raw88x0x38 N L).trans ((bind88x0x38 N ..).trans (alt1 x hx))
noncomputable def h88x0s3 (N : Nat) : Hint := { (h88x0s2 N) with los := (38, loSh sh88x0x38 (A88x0x38 N)) :: (h88x0s2 N).los }
theorem al88x0s3 (N : Nat) : AllCuts Try.prog (h88x0s3 N).los 1 88 := AllCuts.cons (al88x0s2 N) one88x0x38 (law88x0x38 N)
noncomputable def F88x0x40 (N : Nat) {R : Type} (w0 : Int) (w2 w3 : Bool) (w4 w9 : Int) (w13 w15 : LD) (w16 w17 w18 w19 w20 w21 w22 w23 w24 w25 w26 w27 : Bool) (w28 w29 w30 w31 w32 w33 w34 w35 w36 w37 w38 w39 w40 w41 w42 w43 w44 w45 w46 w47 : Int) (k0 : Bool → Option R) : Option R :=
  bif (inB w4 12) then
    bnd (bif (Nat.beq w4.toNat 0) then w16 else (bif (Nat.beq w4.toNat 1) then w17 else (bif (Nat.beq w4.toNat 2) then w18 else (bif (Nat.beq w4.toNat 3) then w19 else (bif (Nat.beq w4.toNat 4) then w20 else (bif (Nat.beq w4.toNat 5) then w21 else (bif (Nat.beq w4.toNat 6) then w22 else (bif (Nat.beq w4.toNat 7) then w23 else (bif (Nat.beq w4.toNat 8) then w24 else (bif (Nat.beq w4.toNat 9) then w25 else (bif (Nat.beq w4.toNat 10) then w26 else w27))))))))))) fun y0 =>
    bif (!y0) then
      bnd (G95x0 N w28 w29 w30 w31 w32 w33 w34 w35 w36 w37 w38 w39 w40 w41 w42 w43 w44 w45 w46 w47 w4 w0 w2 w3 w9 w13 w15) fun y1 =>
      bif y1.isSome then
        k0 (!(y1.getD default))
      else
        none
    else
      k0 false
  else
    none
noncomputable def G88x0x40 (N : Nat) (w0 : Int) (w2 w3 : Bool) (w4 w9 : Int) (w13 w15 : LD) (w16 w17 w18 w19 w20 w21 w22 w23 w24 w25 w26 w27 : Bool) (w28 w29 w30 w31 w32 w33 w34 w35 w36 w37 w38 w39 w40 w41 w42 w43 w44 w45 w46 w47 : Int) : Option (Bool) := F88x0x40 N w0 w2 w3 w4 w9 w13 w15 w16 w17 w18 w19 w20 w21 w22 w23 w24 w25 w26 w27 w28 w29 w30 w31 w32 w33 w34 w35 w36 w37 w38 w39 w40 w41 w42 w43 w44 w45 w46 w47 (fun p => some p)
theorem bind88x0x40 (N : Nat) {R : Type} (w0 : Int) (w2 w3 : Bool) (w4 w9 : Int) (w13 w15 : LD) (w16 w17 w18 w19 w20 w21 w22 w23 w24 w25 w26 w27 : Bool) (w28 w29 w30 w31 w32 w33 w34 w35 w36 w37 w38 w39 w40 w41 w42 w43 w44 w45 w46 w47 : Int) (k0 : Bool → Option R) : F88x0x40 N w0 w2 w3 w4 w9 w13 w15 w16 w17 w18 w19 w20 w21 w22 w23 w24 w25 w26 w27 w28 w29 w30 w31 w32 w33 w34 w35 w36 w37 w38 w39 w40 w41 w42 w43 w44 w45 w46 w47 k0 = (G88x0x40 N w0 w2 w3 w4 w9 w13 w15 w16 w17 w18 w19 w20 w21 w22 w23 w24 w25 w26 w27 w28 w29 w30 w31 w32 w33 w34 w35 w36 w37 w38 w39 w40 w41 w42 w43 w44 w45 w46 w47).bind k0 := by
  unfold G88x0x40 F88x0x40
  repeat' (first | rfl | apply cond_b | (apply bnd_b; intro _))
noncomputable def J88x0x40 (N : Nat) (L : List Lf) {R : Type} (k0 : Bool → Option R) : Option R := F88x0x40 N (li L 0) (lb L 2) (lb L 3) (li L 4) (li L 9) (ll L 13) (ll L 15) (lb L 16) (lb L 17) (lb L 18) (lb L 19) (lb L 20) (lb L 21) (lb L 22) (lb L 23) (lb L 24) (lb L 25) (lb L 26) (lb L 27) (li L 28) (li L 29) (li L 30) (li L 31) (li L 32) (li L 33) (li L 34) (li L 35) (li L 36) (li L 37) (li L 38) (li L 39) (li L 40) (li L 41) (li L 42) (li L 43) (li L 44) (li L 45) (li L 46) (li L 47) k0
noncomputable def sh88x0x40 : Sh := { tmps := [(0, .c (.p 0 0)), (2, .c (.i .i64)), (4, .c (.p 5 0)), (6, .c (.p 7 0)), (8, .c (.p 9 0)), (9, .c (.i .i64)), (10, .c (.b)), (11, .c (.b)), (12, .c (.i .i64)), (55, .c (.sl 68)), (56, .c (.i .i64)), (57, .c (.i .i64))], mem := [(0, .box (.i .i64 :: .i .i64 :: .i .i64 :: .sl 66 :: .sl 68 :: rB 12 ([]))), (5, .box (rI 20 ([]))), (7, .box (rI 20 ([]))), (9, .box ([.s, .i .i64, .i .i64, .i .i64, .b]))] }
noncomputable def K88x0x40w0 (L : List Lf) (p : Bool) : Ex × St := (.normal, ⟨[(0, .c (.p 0 0)), (2, .c (.i .i64 (li L 0))), (4, .c (.p 5 0)), (6, .c (.p 7 0)), (8, .c (.p 9 0)), (9, .c (.i .i64 (li L 1))), (10, .c (.b (lb L 2))), (11, .c (.b (lb L 3))), (55, .c (.sl 68 (lb L 5) (ll L 6))), (56, .c (.i .i64 (li L 7))), (57, .c (.i .i64 (li L 8))), (102, .c (.b p))], [(0, .box (.i .i64 (li L 9) :: .i .i64 (li L 10) :: .i .i64 (li L 11) :: .sl 66 (lb L 12) (ll L 13) :: .sl 68 (lb L 14) (ll L 15) :: rM L 16 12 ([]))), (5, .box (rL L 28 20 ([]))), (7, .box (rL L 48 20 ([]))), (9, .box [.s (ls L 68), .i .i64 (li L 69), .i .i64 (li L 70), .i .i64 (li L 71), .b (lb L 72)])]⟩)
noncomputable def A88x0x40 (N : Nat) (L : List Lf) : List (Bool × (Ex × St)) := bnd (J88x0x40 N L (fun p => some p)) fun q => [(q.isSome, K88x0x40w0 L (q.getD default))]
theorem raw88x0x40 (N : Nat) (L : List Lf) : (exec Try.prog (T96x0 N) (h88x0s3 N) 1 100 (piece Try.prog 88 40) (ofSh sh88x0x40 L) (fun e st => some (e, cutSt [6, 57, 56, 55, 9, 4, 8, 0, 2, 10, 11, 102] [9, 7, 5, 0] st)) : Option (Ex × St)) = J88x0x40 N L (fun p => some (K88x0x40w0 L p)) := by kernel_rfl
theorem one88x0x40 : oneB Try.prog 88 40 = true := by kernel_rfl
theorem law88x0x40 (N : Nat) : CutLaw Try.prog 1 (piece Try.prog 88 40) (loSh sh88x0x40 (A88x0x40 N)) :=
  law_sh progOk (T96x0_ok N) (al88x0s3 N) one88x0x40 fun L x hx => (raw88x0x40 N L).trans ((bind88x0x40 N ..).trans (alt1 x hx))
noncomputable def h88x0s4 (N : Nat) : Hint := { (h88x0s3 N) with los := (40, loSh sh88x0x40 (A88x0x40 N)) :: (h88x0s3 N).los }
theorem al88x0s4 (N : Nat) : AllCuts Try.prog (h88x0s4 N).los 1 88 := AllCuts.cons (al88x0s3 N) one88x0x40 (law88x0x40 N)
noncomputable def K88x0x27w0 (w8 w9 w10 : Int) (w11 : Bool) (w12 : LD) (w13 : Bool) (w14 : LD) (w15 w16 w17 w18 w19 w20 w21 w22 w23 w24 w25 w26 : Bool) (w27 w28 w29 w30 w31 w32 w33 w34 : Int) (w67 : LB) (w68 w69 w70 : Int) (w71 : Bool) (p : Ty6) : Ex × St := let p1 := p.2; let p2 := p1.2; let p3 := p2.2; let p4 := p3.2; let p5 := p4.2; let p6 := p5.2; let p7 := p6.2; let p8 := p7.2; let p9 := p8.2; let p10 := p9.2; let p11 := p10.2; (.ret, ⟨[(6, .c (.p 7 0)), (7, .c (.b false))], [(0, .box [.i .i64 w8, .i .i64 w9, .i .i64 w10, .sl 66 w11 w12, .sl 68 w13 w14, .b w15, .b w16, .b w17, .b w18, .b w19, .b w20, .b w21, .b w22, .b w23, .b w24, .b w25, .b w26]), (5, .box [.i .i64 w27, .i .i64 w28, .i .i64 w29, .i .i64 w30, .i .i64 w31, .i .i64 w32, .i .i64 w33, .i .i64 w34, .i .i64 p.1, .i .i64 p1.1, .i .i64 p2.1, .i .i64 p3.1, .i .i64 p4.1, .i .i64 p5.1, .i .i64 p6.1, .i .i64 p7.1, .i .i64 p8.1, .i .i64 p9.1, .i .i64 p10.1, .i .i64 p11]), (7, .box [.i .i64 0, .i .i64 0, .i .i64 0, .i .i64 0, .i .i64 0, .i .i64 0, .i .i64 0, .i .i64 0, .i .i64 0, .i .i64 0, .i .i64 0, .i .i64 0, .i .i64 0, .i .i64 0, .i .i64 0, .i .i64 0, .i .i64 0, .i .i64 0, .i .i64 0, .i .i64 0]), (9, .box [.s w67, .i .i64 w68, .i .i64 w69, .i .i64 w70, .b w71])]⟩)
noncomputable def K88x0x27w1 (w1 : Int) (w3 : Bool) (w8 w9 w10 : Int) (w11 : Bool) (w12 : LD) (w13 : Bool) (w14 : LD) (w15 w16 w17 w18 w19 w20 w21 w22 w23 w24 w25 w26 : Bool) (w27 w28 w29 w30 w31 w32 w33 w34 w47 w48 w49 w50 w51 w52 w53 w54 w55 w56 w57 w58 w59 w60 w61 w62 w63 w64 w65 w66 : Int) (w67 : LB) (w68 w69 w70 : Int) (w71 : Bool) (p : Ty6) : Ex × St := let p1 := p.2; let p2 := p1.2; let p3 := p2.2; let p4 := p3.2; let p5 := p4.2; let p6 := p5.2; let p7 := p6.2; let p8 := p7.2; let p9 := p8.2; let p10 := p9.2; let p11 := p10.2; ((.exit 0), ⟨[(0, .c (.p 0 0)), (4, .c (.p 5 0)), (6, .c (.p 7 0)), (8, .c (.p 9 0)), (9, .c (.i .i64 w1)), (11, .c (.b w3))], [(0, .box [.i .i64 w8, .i .i64 w9, .i .i64 w10, .sl 66 w11 w12, .sl 68 w13 w14, .b w15, .b w16, .b w17, .b w18, .b w19, .b w20, .b w21, .b w22, .b w23, .b w24, .b w25, .b w26]), (5, .box [.i .i64 w27, .i .i64 w28, .i .i64 w29, .i .i64 w30, .i .i64 w31, .i .i64 w32, .i .i64 w33, .i .i64 w34, .i .i64 p.1, .i .i64 p1.1, .i .i64 p2.1, .i .i64 p3.1, .i .i64 p4.1, .i .i64 p5.1, .i .i64 p6.1, .i .i64 p7.1, .i .i64 p8.1, .i .i64 p9.1, .i .i64 p10.1, .i .i64 p11]), (7, .box [.i .i64 w47, .i .i64 w48, .i .i64 w49, .i .i64 w50, .i .i64 w51, .i .i64 w52, .i .i64 w53, .i .i64 w54, .i .i64 w55, .i .i64 w56, .i .i64 w57, .i .i64 w58, .i .i64 w59, .i .i64 w60, .i .i64 w61, .i .i64 w62, .i .i64 w63, .i .i64 w64, .i .i64 w65, .i .i64 w66]), (9, .box [.s w67, .i .i64 w68, .i .i64 w69, .i .i64 w70, .b w71])]⟩)
noncomputable def P88x0x27 (w0 w1 : Int) (w2 w3 w4 : Bool) (w5 : LD) (w6 w7 w8 w9 w10 : Int) (w11 : Bool) (w12 : LD) (w13 : Bool) (w14 : LD) (w15 w16 w17 w18 w19 w20 w21 w22 w23 w24 w25 w26 : Bool) (w27 w28 w29 w30 w31 w32 w33 w34 w35 w36 w37 w38 w39 w40 w41 w42 w43 w44 w45 w46 w47 w48 w49 w50 w51 w52 w53 w54 w55 w56 w57 w58 w59 w60 w61 w62 w63 w64 w65 w66 : Int) (w67 : LB) (w68 w69 w70 : Int) (w71 : Bool) : St := ⟨[(0, .c (.p 0 0)), (2, .c (.i .i64 w0)), (4, .c (.p 5 0)), (6, .c (.p 7 0)), (8, .c (.p 9 0)), (9, .c (.i .i64 w1)), (10, .c (.b w2)), (11, .c (.b w3)), (55, .c (.sl 68 w4 w5)), (56, .c (.i .i64 w6)), (57, .c (.i .i64 w7))], [(0, .box [.i .i64 w8, .i .i64 w9, .i .i64 w10, .sl 66 w11 w12, .sl 68 w13 w14, .b w15, .b w16, .b w17, .b w18, .b w19, .b w20, .b w21, .b w22, .b w23, .b w24, .b w25, .b w26]), (5, .box [.i .i64 w27, .i .i64 w28, .i .i64 w29, .i .i64 w30, .i .i64 w31, .i .i64 w32, .i .i64 w33, .i .i64 w34, .i .i64 w35, .i .i64 w36, .i .i64 w37, .i .i64 w38, .i .i64 w39, .i .i64 w40, .i .i64 w41, .i .i64 w42, .i .i64 w43, .i .i64 w44, .i .i64 w45, .i .i64 w46]), (7, .box [.i .i64 w47, .i .i64 w48, .i .i64 w49, .i .i64 w50, .i .i64 w51, .i .i64 w52, .i .i64 w53, .i .i64 w54, .i .i64 w55, .i .i64 w56, .i .i64 w57, .i .i64 w58, .i .i64 w59, .i .i64 w60, .i .i64 w61, .i .i64 w62, .i .i64 w63, .i .i64 w64, .i .i64 w65, .i .i64 w66]), (9, .box [.s w67, .i .i64 w68, .i .i64 w69, .i .i64 w70, .b w71])]⟩
noncomputable def S88x0x27 (N : Nat) {R : Type} (w0 w1 : Int) (w2 w3 : Bool) (w5 : LD) (w6 w8 : Int) (w12 w14 : LD) (w15 w16 w17 w18 w19 w20 w21 w22 w23 w24 w25 w26 : Bool) (w27 w28 w29 w30 w31 w32 w33 w34 w68 : Int) (w7 w35 w36 w37 w38 w39 w40 w41 w42 w43 w44 w45 w46 : Int) (kr : Int → Int → Int → Int → Int → Int → Int → Int → Int → Int → Int → Int → Int → Option R) (k0 : Ty6 → Option R) (k1 : Ty6 → Option R) : Option R :=
  bif (decide (w7 < w6)) then
    bif (inB w7 w5.length) then
      bnd (V88x0x34 N w1 ((w5.getD w7.toNat (.i 0)).cell 0).toI ((w5.getD w7.toNat (.i 0)).cell 1).toI ((w5.getD w7.toNat (.i 0)).cell 3).toI) fun y0 =>
      bnd (G88x0x38 N w7 y0 w35 w36 w37 w38 w39 w40 w41 w42 w43 w44 w45 w46 w68) fun y1 =>
      bif y1.isSome then
        bnd (G88x0x40 N w0 w2 w3 w7 w8 w12 w14 w15 w16 w17 w18 w19 w20 w21 w22 w23 w24 w25 w26 w27 w28 w29 w30 w31 w32 w33 w34 (y1.getD default).1 (y1.getD default).2.1 (y1.getD default).2.2.1 (y1.getD default).2.2.2.1 (y1.getD default).2.2.2.2.1 (y1.getD default).2.2.2.2.2.1 (y1.getD default).2.2.2.2.2.2.1 (y1.getD default).2.2.2.2.2.2.2.1 (y1.getD default).2.2.2.2.2.2.2.2.1 (y1.getD default).2.2.2.2.2.2.2.2.2.1 (y1.getD default).2.2.2.2.2.2.2.2.2.2.1 (y1.getD default).2.2.2.2.2.2.2.2.2.2.2) fun y2 =>
        bif y2.isSome then
          bif (y2.getD default) then
            k0 (y1.getD default)
          else
            kr (IntKind.wrap .i64 (w7 + 1)) (y1.getD default).1 (y1.getD default).2.1 (y1.getD default).2.2.1 (y1.getD default).2.2.2.1 (y1.getD default).2.2.2.2.1 (y1.getD default).2.2.2.2.2.1 (y1.getD default).2.2.2.2.2.2.1 (y1.getD default).2.2.2.2.2.2.2.1 (y1.getD default).2.2.2.2.2.2.2.2.1 (y1.getD default).2.2.2.2.2.2.2.2.2.1 (y1.getD default).2.2.2.2.2.2.2.2.2.2.1 (y1.getD default).2.2.2.2.2.2.2.2.2.2.2
        else
          none
      else
        none
    else
      none
  else
    k1 (w35, w36, w37, w38, w39, w40, w41, w42, w43, w44, w45, w46)
theorem mono88x0x27 (N : Nat) {R : Type} (w0 w1 : Int) (w2 w3 : Bool) (w5 : LD) (w6 w8 : Int) (w12 w14 : LD) (w15 w16 w17 w18 w19 w20 w21 w22 w23 w24 w25 w26 : Bool) (w27 w28 w29 w30 w31 w32 w33 w34 w68 : Int) (w7 w35 w36 w37 w38 w39 w40 w41 w42 w43 w44 w45 w46 : Int) {kr kr' : Int → Int → Int → Int → Int → Int → Int → Int → Int → Int → Int → Int → Int → Option R} (k0 : Ty6 → Option R) (k1 : Ty6 → Option R) {r : R} (hk : ∀ w7' w35' w36' w37' w38' w39' w40' w41' w42' w43' w44' w45' w46', kr w7' w35' w36' w37' w38' w39' w40' w41' w42' w43' w44' w45' w46' = some r → kr' w7' w35' w36' w37' w38' w39' w40' w41' w42' w43' w44' w45' w46' = some r) : S88x0x27 N w0 w1 w2 w3 w5 w6 w8 w12 w14 w15 w16 w17 w18 w19 w20 w21 w22 w23 w24 w25 w26 w27 w28 w29 w30 w31 w32 w33 w34 w68 w7 w35 w36 w37 w38 w39 w40 w41 w42 w43 w44 w45 w46 kr k0 k1 = some r → S88x0x27 N w0 w1 w2 w3 w5 w6 w8 w12 w14 w15 w16 w17 w18 w19 w20 w21 w22 w23 w24 w25 w26 w27 w28 w29 w30 w31 w32 w33 w34 w68 w7 w35 w36 w37 w38 w39 w40 w41 w42 w43 w44 w45 w46 kr' k0 k1 = some r := by
  unfold S88x0x27
  repeat' (first | exact hk _ _ _ _ _ _ _ _ _ _ _ _ _ | exact fun h => h | apply cond_mono | (apply bnd_mono; intro _))
noncomputable def L88x0x27 (N : Nat) {R : Type} (w0 w1 : Int) (w2 w3 : Bool) (w5 : LD) (w6 w8 : Int) (w12 w14 : LD) (w15 w16 w17 w18 w19 w20 w21 w22 w23 w24 w25 w26 : Bool) (w27 w28 w29 w30 w31 w32 w33 w34 w68 : Int) : Nat → Int → Int → Int → Int → Int → Int → Int → Int → Int → Int → Int → Int → Int → (Ty6 → Option R) → (Ty6 → Option R) → Option R
  | 0, _, _, _, _, _, _, _, _, _, _, _, _, _, _, _ => none
  | m + 1, w7, w35, w36, w37, w38, w39, w40, w41, w42, w43, w44, w45, w46, k0, k1 => S88x0x27 N w0 w1 w2 w3 w5 w6 w8 w12 w14 w15 w16 w17 w18 w19 w20 w21 w22 w23 w24 w25 w26 w27 w28 w29 w30 w31 w32 w33 w34 w68 w7 w35 w36 w37 w38 w39 w40 w41 w42 w43 w44 w45 w46 (fun w7 w35 w36 w37 w38 w39 w40 w41 w42 w43 w44 w45 w46 => L88x0x27 N w0 w1 w2 w3 w5 w6 w8 w12 w14 w15 w16 w17 w18 w19 w20 w21 w22 w23 w24 w25 w26 w27 w28 w29 w30 w31 w32 w33 w34 w68 m w7 w35 w36 w37 w38 w39 w40 w41 w42 w43 w44 w45 w46 k0 k1) k0 k1
theorem lp88x0x27 : piece Try.prog 88 27 = .loop (loopB (piece Try.prog 88 27)) := by kernel_rfl
theorem nl88x0x27 (N : Nat) : lawOf (h88x0s4 N) (.loop (loopB (piece Try.prog 88 27))) = none := by kernel_rfl
theorem cl88x0x27 (N : Nat) (w0 w1 : Int) (w2 w3 w4 : Bool) (w5 : LD) (w6 w8 w9 w10 : Int) (w11 : Bool) (w12 : LD) (w13 : Bool) (w14 : LD) (w15 w16 w17 w18 w19 w20 w21 w22 w23 w24 w25 w26 : Bool) (w27 w28 w29 w30 w31 w32 w33 w34 w47 w48 w49 w50 w51 w52 w53 w54 w55 w56 w57 w58 w59 w60 w61 w62 w63 w64 w65 w66 : Int) (w67 : LB) (w68 w69 w70 : Int) (w71 : Bool) (w7 w35 w36 w37 w38 w39 w40 w41 w42 w43 w44 w45 w46 : Int) : clearSt Try.prog 1 (h88x0s4 N).loops 27 (P88x0x27 w0 w1 w2 w3 w4 w5 w6 w7 w8 w9 w10 w11 w12 w13 w14 w15 w16 w17 w18 w19 w20 w21 w22 w23 w24 w25 w26 w27 w28 w29 w30 w31 w32 w33 w34 w35 w36 w37 w38 w39 w40 w41 w42 w43 w44 w45 w46 w47 w48 w49 w50 w51 w52 w53 w54 w55 w56 w57 w58 w59 w60 w61 w62 w63 w64 w65 w66 w67 w68 w69 w70 w71) = (P88x0x27 w0 w1 w2 w3 w4 w5 w6 w7 w8 w9 w10 w11 w12 w13 w14 w15 w16 w17 w18 w19 w20 w21 w22 w23 w24 w25 w26 w27 w28 w29 w30 w31 w32 w33 w34 w35 w36 w37 w38 w39 w40 w41 w42 w43 w44 w45 w46 w47 w48 w49 w50 w51 w52 w53 w54 w55 w56 w57 w58 w59 w60 w61 w62 w63 w64 w65 w66 w67 w68 w69 w70 w71) := by kernel_rfl
theorem step88x0x27 (N : Nat) (m : Nat) (kn : St → Option (Ex × St)) (w0 w1 : Int) (w2 w3 w4 : Bool) (w5 : LD) (w6 w8 w9 w10 : Int) (w11 : Bool) (w12 : LD) (w13 : Bool) (w14 : LD) (w15 w16 w17 w18 w19 w20 w21 w22 w23 w24 w25 w26 : Bool) (w27 w28 w29 w30 w31 w32 w33 w34 w47 w48 w49 w50 w51 w52 w53 w54 w55 w56 w57 w58 w59 w60 w61 w62 w63 w64 w65 w66 : Int) (w67 : LB) (w68 w69 w70 : Int) (w71 : Bool) (w7 w35 w36 w37 w38 w39 w40 w41 w42 w43 w44 w45 w46 : Int) : exec Try.prog (T96x0 N) (h88x0s4 N) 1 (m + 100) (loopB (piece Try.prog 88 27)) (P88x0x27 w0 w1 w2 w3 w4 w5 w6 w7 w8 w9 w10 w11 w12 w13 w14 w15 w16 w17 w18 w19 w20 w21 w22 w23 w24 w25 w26 w27 w28 w29 w30 w31 w32 w33 w34 w35 w36 w37 w38 w39 w40 w41 w42 w43 w44 w45 w46 w47 w48 w49 w50 w51 w52 w53 w54 w55 w56 w57 w58 w59 w60 w61 w62 w63 w64 w65 w66 w67 w68 w69 w70 w71) (reK (fun st => kn (clearSt Try.prog 1 (h88x0s4 N).loops 27 st)) (fun e st => some (e, cutSt [6, 7, 8, 9, 4, 11, 0] [7, 0, 9, 5] st))) = S88x0x27 N w0 w1 w2 w3 w5 w6 w8 w12 w14 w15 w16 w17 w18 w19 w20 w21 w22 w23 w24 w25 w26 w27 w28 w29 w30 w31 w32 w33 w34 w68 w7 w35 w36 w37 w38 w39 w40 w41 w42 w43 w44 w45 w46 (fun w7 w35 w36 w37 w38 w39 w40 w41 w42 w43 w44 w45 w46 => kn (P88x0x27 w0 w1 w2 w3 w4 w5 w6 w7 w8 w9 w10 w11 w12 w13 w14 w15 w16 w17 w18 w19 w20 w21 w22 w23 w24 w25 w26 w27 w28 w29 w30 w31 w32 w33 w34 w35 w36 w37 w38 w39 w40 w41 w42 w43 w44 w45 w46 w47 w48 w49 w50 w51 w52 w53 w54 w55 w56 w57 w58 w59 w60 w61 w62 w63 w64 w65 w66 w67 w68 w69 w70 w71)) (fun p => some (K88x0x27w0 w8 w9 w10 w11 w12 w13 w14 w15 w16 w17 w18 w19 w20 w21 w22 w23 w24 w25 w26 w27 w28 w29 w30 w31 w32 w33 w34 w67 w68 w69 w70 w71 p)) (fun p => some (K88x0x27w1 w1 w3 w8 w9 w10 w11 w12 w13 w14 w15 w16 w17 w18 w19 w20 w21 w22 w23 w24 w25 w26 w27 w28 w29 w30 w31 w32 w33 w34 w47 w48 w49 w50 w51 w52 w53 w54 w55 w56 w57 w58 w59 w60 w61 w62 w63 w64 w65 w66 w67 w68 w69 w70 w71 p)) := by kernel_rfl
theorem run88x0x27 (N : Nat) (w0 w1 : Int) (w2 w3 w4 : Bool) (w5 : LD) (w6 w8 w9 w10 : Int) (w11 : Bool) (w12 : LD) (w13 : Bool) (w14 : LD) (w15 w16 w17 w18 w19 w20 w21 w22 w23 w24 w25 w26 : Bool) (w27 w28 w29 w30 w31 w32 w33 w34 w47 w48 w49 w50 w51 w52 w53 w54 w55 w56 w57 w58 w59 w60 w61 w62 w63 w64 w65 w66 : Int) (w67 : LB) (w68 w69 w70 : Int) (w71 : Bool) : ∀ (m : Nat) (w7 w35 w36 w37 w38 w39 w40 w41 w42 w43 w44 w45 w46 : Int) (x : Ex × St), L88x0x27 N w0 w1 w2 w3 w5 w6 w8 w12 w14 w15 w16 w17 w18 w19 w20 w21 w22 w23 w24 w25 w26 w27 w28 w29 w30 w31 w32 w33 w34 w68 m w7 w35 w36 w37 w38 w39 w40 w41 w42 w43 w44 w45 w46 (fun p => some (K88x0x27w0 w8 w9 w10 w11 w12 w13 w14 w15 w16 w17 w18 w19 w20 w21 w22 w23 w24 w25 w26 w27 w28 w29 w30 w31 w32 w33 w34 w67 w68 w69 w70 w71 p)) (fun p => some (K88x0x27w1 w1 w3 w8 w9 w10 w11 w12 w13 w14 w15 w16 w17 w18 w19 w20 w21 w22 w23 w24 w25 w26 w27 w28 w29 w30 w31 w32 w33 w34 w47 w48 w49 w50 w51 w52 w53 w54 w55 w56 w57 w58 w59 w60 w61 w62 w63 w64 w65 w66 w67 w68 w69 w70 w71 p)) = some x → exec Try.prog (T96x0 N) (h88x0s4 N) 1 (m + 101) (.loop (loopB (piece Try.prog 88 27))) (P88x0x27 w0 w1 w2 w3 w4 w5 w6 w7 w8 w9 w10 w11 w12 w13 w14 w15 w16 w17 w18 w19 w20 w21 w22 w23 w24 w25 w26 w27 w28 w29 w30 w31 w32 w33 w34 w35 w36 w37 w38 w39 w40 w41 w42 w43 w44 w45 w46 w47 w48 w49 w50 w51 w52 w53 w54 w55 w56 w57 w58 w59 w60 w61 w62 w63 w64 w65 w66 w67 w68 w69 w70 w71) (fun e st => some (e, cutSt [6, 7, 8, 9, 4, 11, 0] [7, 0, 9, 5] st)) = some x := by
  intro m
  induction m with
  | zero => intro w7 w35 w36 w37 w38 w39 w40 w41 w42 w43 w44 w45 w46 x h; cases h
  | succ m ih =>
    intro w7 w35 w36 w37 w38 w39 w40 w41 w42 w43 w44 w45 w46 x h
    exact loop_round (n := m + 101) (nl88x0x27 N) (by kernel_rfl) (cl88x0x27 N ..) (fun kn => step88x0x27 N (m + 1) kn ..) (mono88x0x27 N _ _ _ _ _ _ _ _ _ _ _ _ _ _ _ _ _ _ _ _ _ _ _ _ _ _ _ _ _ _ _ _ _ _ _ _ _ _ _ _ _ _ _ _ _ (fun w7 w35 w36 w37 w38 w39 w40 w41 w42 w43 w44 w45 w46 => ih w7 w35 w36 w37 w38 w39 w40 w41 w42 w43 w44 w45 w46 x) h)
noncomputable def G88x0x27 (N : Nat) (w0 w1 : Int) (w2 w3 : Bool) (w5 : LD) (w6 w8 : Int) (w12 w14 : LD) (w15 w16 w17 w18 w19 w20 w21 w22 w23 w24 w25 w26 : Bool) (w27 w28 w29 w30 w31 w32 w33 w34 w68 : Int) (w7 w35 w36 w37 w38 w39 w40 w41 w42 w43 w44 w45 w46 : Int) : Option (Sum (Ty6) (Ty6)) := L88x0x27 N (R := (Sum (Ty6) (Ty6))) w0 w1 w2 w3 w5 w6 w8 w12 w14 w15 w16 w17 w18 w19 w20 w21 w22 w23 w24 w25 w26 w27 w28 w29 w30 w31 w32 w33 w34 w68 N w7 w35 w36 w37 w38 w39 w40 w41 w42 w43 w44 w45 w46 (fun p => some (.inl p)) (fun p => some (.inr p))
theorem sb88x0x27 (N : Nat) {R A : Type} (w0 w1 : Int) (w2 w3 : Bool) (w5 : LD) (w6 w8 : Int) (w12 w14 : LD) (w15 w16 w17 w18 w19 w20 w21 w22 w23 w24 w25 w26 : Bool) (w27 w28 w29 w30 w31 w32 w33 w34 w68 : Int) (w7 w35 w36 w37 w38 w39 w40 w41 w42 w43 w44 w45 w46 : Int) (kr : Int → Int → Int → Int → Int → Int → Int → Int → Int → Int → Int → Int → Int → Option R) (kr' : Int → Int → Int → Int → Int → Int → Int → Int → Int → Int → Int → Int → Int → Option A) (k0 : Ty6 → Option R) (k1 : Ty6 → Option R) (j0 : Ty6 → Option A) (j1 : Ty6 → Option A) (K : A → Option R) (hr : ∀ w7' w35' w36' w37' w38' w39' w40' w41' w42' w43' w44' w45' w46', kr w7' w35' w36' w37' w38' w39' w40' w41' w42' w43' w44' w45' w46' = (kr' w7' w35' w36' w37' w38' w39' w40' w41' w42' w43' w44' w45' w46').bind K) (h0 : ∀ p, k0 p = (j0 p).bind K) (h1 : ∀ p, k1 p = (j1 p).bind K) : S88x0x27 N w0 w1 w2 w3 w5 w6 w8 w12 w14 w15 w16 w17 w18 w19 w20 w21 w22 w23 w24 w25 w26 w27 w28 w29 w30 w31 w32 w33 w34 w68 w7 w35 w36 w37 w38 w39 w40 w41 w42 w43 w44 w45 w46 kr k0 k1 = (S88x0x27 N w0 w1 w2 w3 w5 w6 w8 w12 w14 w15 w16 w17 w18 w19 w20 w21 w22 w23 w24 w25 w26 w27 w28 w29 w30 w31 w32 w33 w34 w68 w7 w35 w36 w37 w38 w39 w40 w41 w42 w43 w44 w45 w46 kr' j0 j1).bind K := by
  unfold S88x0x27
  repeat' (first | rfl | apply hr | apply h0 | apply h1 | apply cond_b | (apply bnd_b; intro _))
theorem lbind88x0x27 (N : Nat) {R : Type} (w0 w1 : Int) (w2 w3 : Bool) (w5 : LD) (w6 w8 : Int) (w12 w14 : LD) (w15 w16 w17 w18 w19 w20 w21 w22 w23 w24 w25 w26 : Bool) (w27 w28 w29 w30 w31 w32 w33 w34 w68 : Int) : ∀ (m : Nat) (w7 w35 w36 w37 w38 w39 w40 w41 w42 w43 w44 w45 w46 : Int) (k0 : Ty6 → Option R) (k1 : Ty6 → Option R), L88x0x27 N w0 w1 w2 w3 w5 w6 w8 w12 w14 w15 w16 w17 w18 w19 w20 w21 w22 w23 w24 w25 w26 w27 w28 w29 w30 w31 w32 w33 w34 w68 m w7 w35 w36 w37 w38 w39 w40 w41 w42 w43 w44 w45 w46 k0 k1 = (L88x0x27 N (R := (Sum (Ty6) (Ty6))) w0 w1 w2 w3 w5 w6 w8 w12 w14 w15 w16 w17 w18 w19 w20 w21 w22 w23 w24 w25 w26 w27 w28 w29 w30 w31 w32 w33 w34 w68 m w7 w35 w36 w37 w38 w39 w40 w41 w42 w43 w44 w45 w46 (fun p => some (.inl p)) (fun p => some (.inr p))).bind (sumE k0 k1) := by
  intro m
  induction m with
  | zero => intros; rfl
  | succ m ih =>
    intro w7 w35 w36 w37 w38 w39 w40 w41 w42 w43 w44 w45 w46 k0 k1
    exact sb88x0x27 N _ _ _ _ _ _ _ _ _ _ _ _ _ _ _ _ _ _ _ _ _ _ _ _ _ _ _ _ _ _ _ _ _ _ _ _ _ _ _ _ _ _ _ _ _ _ _ _ _ _ (fun w7 w35 w36 w37 w38 w39 w40 w41 w42 w43 w44 w45 w46 => ih w7 w35 w36 w37 w38 w39 w40 w41 w42 w43 w44 w45 w46 k0 k1) (fun _ => rfl) (fun _ => rfl)
theorem one88x0x27 : oneB Try.prog 88 27 = true := by kernel_rfl
noncomputable def sh88x0x27 : Sh := { tmps := [(0, .c (.p 0 0)), (2, .c (.i .i64)), (4, .c (.p 5 0)), (6, .c (.p 7 0)), (8, .c (.p 9 0)), (9, .c (.i .i64)), (10, .c (.b)), (11, .c (.b)), (55, .c (.sl 68)), (56, .c (.i .i64)), (57, .c (.i .i64))], mem := [(0, .box (.i .i64 :: .i .i64 :: .i .i64 :: .sl 66 :: .sl 68 :: rB 12 ([]))), (5, .box (rI 20 ([]))), (7, .box (rI 20 ([]))), (9, .box ([.s, .i .i64, .i .i64, .i .i64, .b]))] }
noncomputable def A88x0x27 (N : Nat) (L : List Lf) : List (Bool × (Ex × St)) := bnd (G88x0x27 N (li L 0) (li L 1) (lb L 2) (lb L 3) (ll L 5) (li L 6) (li L 8) (ll L 12) (ll L 14) (lb L 15) (lb L 16) (lb L 17) (lb L 18) (lb L 19) (lb L 20) (lb L 21) (lb L 22) (lb L 23) (lb L 24) (lb L 25) (lb L 26) (li L 27) (li L 28) (li L 29) (li L 30) (li L 31) (li L 32) (li L 33) (li L 34) (li L 68) (li L 7) (li L 35) (li L 36) (li L 37) (li L 38) (li L 39) (li L 40) (li L 41) (li L 42) (li L 43) (li L 44) (li L 45) (li L 46)) fun q => [((inlB q), K88x0x27w0 (li L 8) (li L 9) (li L 10) (lb L 11) (ll L 12) (lb L 13) (ll L 14) (lb L 15) (lb L 16) (lb L 17) (lb L 18) (lb L 19) (lb L 20) (lb L 21) (lb L 22) (lb L 23) (lb L 24) (lb L 25) (lb L 26) (li L 27) (li L 28) (li L 29) (li L 30) (li L 31) (li L 32) (li L 33) (li L 34) (ls L 67) (li L 68) (li L 69) (li L 70) (lb L 71) (inlV q)), ((inrQ q).isSome, K88x0x27w1 (li L 1) (lb L 3) (li L 8) (li L 9) (li L 10) (lb L 11) (ll L 12) (lb L 13) (ll L 14) (lb L 15) (lb L 16) (lb L 17) (lb L 18) (lb L 19) (lb L 20) (lb L 21) (lb L 22) (lb L 23) (lb L 24) (lb L 25) (lb L 26) (li L 27) (li L 28) (li L 29) (li L 30) (li L 31) (li L 32) (li L 33) (li L 34) (li L 47) (li L 48) (li L 49) (li L 50) (li L 51) (li L 52) (li L 53) (li L 54) (li L 55) (li L 56) (li L 57) (li L 58) (li L 59) (li L 60) (li L 61) (li L 62) (li L 63) (li L 64) (li L 65) (li L 66) (ls L 67) (li L 68) (li L 69) (li L 70) (lb L 71) ((inrQ q).getD default))]
theorem eq88x0x27 (L : List Lf) : ofSh sh88x0x27 L = (P88x0x27 (li L 0) (li L 1) (lb L 2) (lb L 3) (lb L 4) (ll L 5) (li L 6) (li L 7) (li L 8) (li L 9) (li L 10) (lb L 11) (ll L 12) (lb L 13) (ll L 14) (lb L 15) (lb L 16) (lb L 17) (lb L 18) (lb L 19) (lb L 20) (lb L 21) (lb L 22) (lb L 23) (lb L 24) (lb L 25) (lb L 26) (li L 27) (li L 28) (li L 29) (li L 30) (li L 31) (li L 32) (li L 33) (li L 34) (li L 35) (li L 36) (li L 37) (li L 38) (li L 39) (li L 40) (li L 41) (li L 42) (li L 43) (li L 44) (li L 45) (li L 46) (li L 47) (li L 48) (li L 49) (li L 50) (li L 51) (li L 52) (li L 53) (li L 54) (li L 55) (li L 56) (li L 57) (li L 58) (li L 59) (li L 60) (li L 61) (li L 62) (li L 63) (li L 64) (li L 65) (li L 66) (ls L 67) (li L 68) (li L 69) (li L 70) (lb L 71)) := by kernel_rfl
theorem law88x0x27 (N : Nat) : CutLaw Try.prog 1 (piece Try.prog 88 27) (loSh sh88x0x27 (A88x0x27 N)) :=
  law_shL progOk (T96x0_ok N) (al88x0s4 N) one88x0x27 lp88x0x27 eq88x0x27 fun L x hx => run88x0x27 N _ _ _ _ _ _ _ _ _ _ _ _ _ _ _ _ _ _ _ _ _ _ _ _ _ _ _ _ _ _ _ _ _ _ _ _ _ _ _ _ _ _ _ _ _ _ _ _ _ _ _ _ _ _ _ _ _ _ _ N _ _ _ _ _ _ _ _ _ _ _ _ _ x ((lbind88x0x27 N _ _ _ _ _ _ _ _ _ _ _ _ _ _ _ _ _ _ _ _ _ _ _ _ _ _ _ _ _ _ N _ _ _ _ _ _ _ _ _ _ _ _ _ _ _).trans ((altS alt1) x hx))
noncomputable def h88x0s5 (N : Nat) : Hint := { (h88x0s4 N) with los := (27, loSh sh88x0x27 (A88x0x27 N)) :: (h88x0s4 N).los }
theorem al88x0s5 (N : Nat) : AllCuts Try.prog (h88x0s5 N).los 1 88 := AllCuts.cons (al88x0s4 N) one88x0x27 (law88x0x27 N)
noncomputable def F88x0x53 (N : Nat) {R : Type} (w0 : Int) (w2 : Bool) (w25 : Int) (k0 : Int → R) : R :=
  bif w2 then
    k0 (IntKind.wrap .i64 (w0 + 1))
  else
    k0 w25
noncomputable def V88x0x53 (N : Nat) (w0 : Int) (w2 : Bool) (w25 : Int) : Int := F88x0x53 N w0 w2 w25 (fun p => p)
theorem tot88x0x53 (N : Nat) {R : Type} (w0 : Int) (w2 : Bool) (w25 : Int) (k0 : Int → R) : F88x0x53 N w0 w2 w25 k0 = k0 (V88x0x53 N w0 w2 w25) := by
  unfold V88x0x53 F88x0x53
  repeat' (first | rfl | apply cond_k | (apply bnd_k; intro _))
noncomputable def sh88x0x53 : Sh := { tmps := [(0, .c (.p 0 0)), (4, .c (.p 5 0)), (6, .c (.p 7 0)), (9, .c (.i .i64)), (11, .c (.b)), (106, .c (.b))], mem := [(0, .box (.i .i64 :: .i .i64 :: .i .i64 :: .sl 66 :: .sl 68 :: rB 12 ([]))), (5, .box (rI 20 ([]))), (7, .box (rI 20 ([])))] }
noncomputable def K88x0x53w0 (L : List Lf) (p : Int) : Ex × St := (.normal, ⟨[(0, .c (.p 0 0)), (4, .c (.p 5 0)), (6, .c (.p 7 0)), (11, .c (.b (lb L 1)))], [(0, .box (.i .i64 (li L 3) :: .i .i64 (li L 4) :: .i .i64 (li L 5) :: .sl 66 (lb L 6) (ll L 7) :: .sl 68 (lb L 8) (ll L 9) :: rM L 10 12 ([]))), (5, .box (.i .i64 (li L 22) :: .i .i64 (li L 23) :: .i .i64 (li L 24) :: .i .i64 p :: rL L 26 16 ([]))), (7, .box (rL L 42 20 ([])))]⟩)
noncomputable def A88x0x53 (N : Nat) (L : List Lf) : List (Bool × (Ex × St)) := bnd (F88x0x53 N (li L 0) (lb L 2) (li L 25) (fun p => p)) fun q => [(true, K88x0x53w0 L q)]
theorem raw88x0x53 (N : Nat) (L : List Lf) : (exec Try.prog (T96x0 N) (h88x0s5 N) 1 100 (piece Try.prog 88 53) (ofSh sh88x0x53 L) (fun e st => some (e, cutSt [11, 4, 0, 6] [7, 5, 0] st)) : Option (Ex × St)) = F88x0x53 N (li L 0) (lb L 2) (li L 25) (fun p => some (K88x0x53w0 L p)) := by kernel_rfl
theorem one88x0x53 : oneB Try.prog 88 53 = true := by kernel_rfl
theorem law88x0x53 (N : Nat) : CutLaw Try.prog 1 (piece Try.prog 88 53) (loSh sh88x0x53 (A88x0x53 N)) :=
  law_sh progOk (T96x0_ok N) (al88x0s5 N) one88x0x53 fun L x hx => (raw88x0x53 N L).trans ((tot88x0x53 N ..).trans (alt0 _ _ hx))
noncomputable def h88x0s6 (N : Nat) : Hint := { (h88x0s5 N) with los := (53, loSh sh88x0x53 (A88x0x53 N)) :: (h88x0s5 N).los }
theorem al88x0s6 (N : Nat) : AllCuts Try.prog (h88x0s6 N).los 1 88 := AllCuts.cons (al88x0s5 N) one88x0x53 (law88x0x53 N)
noncomputable def F88x0x59 (N : Nat) {R : Type} (w0 : Bool) (w21 w22 w24 w25 w26 w27 : Int) (k0 : Int × Int × Int × Int × Int × Int → R) : R :=
  bif w0 then
    k0 (0, w21, 0, 0, 0, 0)
  else
    k0 (w21, w22, w24, w25, w26, w27)
noncomputable def V88x0x59 (N : Nat) (w0 : Bool) (w21 w22 w24 w25 w26 w27 : Int) : Int × Int × Int × Int × Int × Int := F88x0x59 N w0 w21 w22 w24 w25 w26 w27 (fun p => p)
theorem tot88x0x59 (N : Nat) {R : Type} (w0 : Bool) (w21 w22 w24 w25 w26 w27 : Int) (k0 : Int × Int × Int × Int × Int × Int → R) : F88x0x59 N w0 w21 w22 w24 w25 w26 w27 k0 = k0 (V88x0x59 N w0 w21 w22 w24 w25 w26 w27) := by
  unfold V88x0x59 F88x0x59
  repeat' (first | rfl | apply cond_k | (apply bnd_k; intro _))
noncomputable def J88x0x59 (N : Nat) (L : List Lf) {R : Type} (k0 : Int × Int × Int × Int × Int × Int → R) : R := F88x0x59 N (lb L 0) (li L 21) (li L 22) (li L 24) (li L 25) (li L 26) (li L 27) k0
noncomputable def sh88x0x59 : Sh := { tmps := [(0, .c (.p 0 0)), (4, .c (.p 5 0)), (6, .c (.p 7 0)), (110, .c (.b))], mem := [(0, .box (.i .i64 :: .i .i64 :: .i .i64 :: .sl 66 :: .sl 68 :: rB 12 ([]))), (5, .box (rI 20 ([]))), (7, .box (rI 20 ([])))] }
noncomputable def K88x0x59w0 (L : List Lf) (p : Int × Int × Int × Int × Int × Int) : Ex × St := let p1 := p.2; let p2 := p1.2; let p3 := p2.2; let p4 := p3.2; let p5 := p4.2; (.normal, ⟨[(0, .c (.p 0 0)), (4, .c (.p 5 0)), (6, .c (.p 7 0))], [(0, .box (.i .i64 (li L 1) :: .i .i64 (li L 2) :: .i .i64 (li L 3) :: .sl 66 (lb L 4) (ll L 5) :: .sl 68 (lb L 6) (ll L 7) :: rM L 8 12 ([]))), (5, .box (.i .i64 (li L 20) :: .i .i64 p.1 :: .i .i64 p1.1 :: .i .i64 (li L 23) :: .i .i64 p2.1 :: .i .i64 p3.1 :: .i .i64 p4.1 :: .i .i64 p5 :: rL L 28 12 ([]))), (7, .box (rL L 40 20 ([])))]⟩)
noncomputable def A88x0x59 (N : Nat) (L : List Lf) : List (Bool × (Ex × St)) := bnd (J88x0x59 N L (fun p => p)) fun q => [(true, K88x0x59w0 L q)]
theorem raw88x0x59 (N : Nat) (L : List Lf) : (exec Try.prog (T96x0 N) (h88x0s6 N) 1 100 (piece Try.prog 88 59) (ofSh sh88x0x59 L) (fun e st => some (e, cutSt [4, 0, 6] [7, 5, 0] st)) : Option (Ex × St)) = J88x0x59 N L (fun p => some (K88x0x59w0 L p)) := by kernel_rfl
theorem one88x0x59 : oneB Try.prog 88 59 = true := by kernel_rfl
theorem law88x0x59 (N : Nat) : CutLaw Try.prog 1 (piece Try.prog 88 59) (loSh sh88x0x59 (A88x0x59 N)) :=
  law_sh progOk (T96x0_ok N) (al88x0s6 N) one88x0x59 fun L x hx => (raw88x0x59 N L).trans ((tot88x0x59 N ..).trans (alt0 _ _ hx))
noncomputable def h88x0s7 (N : Nat) : Hint := { (h88x0s6 N) with los := (59, loSh sh88x0x59 (A88x0x59 N)) :: (h88x0s6 N).los }
theorem al88x0s7 (N : Nat) : AllCuts Try.prog (h88x0s7 N).los 1 88 := AllCuts.cons (al88x0s6 N) one88x0x59 (law88x0x59 N)
noncomputable def F88x0 (N : Nat) {R : Type} (v0 v1 v2 v3 v4 v5 v6 v7 v8 v9 v10 v11 v12 v13 v14 v15 v16 v17 v18 v19 v20 v21 v22 : Int) (v25 v27 : LD) (v28 v29 v30 v31 v32 v33 v34 v35 v36 v37 v38 v39 : Bool) (k0 : Ty4 → Option R) : Option R :=
  bnd (G70x0 N v25 v20) fun y0 =>
  bif y0.isSome then
    bnd (G88x0x17 N v20 (decide (v20 ≥ 0)) v4 v5 v6 v7) fun y1 =>
    bif y1.isSome then
      bnd (bif ((v0.tmod 7) == 6) then true else (v0 == (IntKind.wrap .i64 (v22 - 1)))) fun y2 =>
      bnd (G88x0x27 N v20 v0 ((v0.tmod 7) == 6) y2 v27 (v27.length : Int) v21 v25 v27 v28 v29 v30 v31 v32 v33 v34 v35 v36 v37 v38 v39 v0 (IntKind.wrap .i64 (v1 + (y0.getD default).2.1)) v2 v3 (y1.getD default).1 (y1.getD default).2.1 (y1.getD default).2.2.1 (y1.getD default).2.2.2 (y0.getD default).2.1 0 v8 v9 v10 v11 v12 v13 v14 v15 v16 v17 v18 v19) fun y3 =>
      bif (inlB y3) then
        k0 (0, 0, 0, 0, 0, 0, 0, 0, 0, 0, 0, 0, 0, 0, 0, 0, 0, 0, 0, 0, false)
      else
        bif (inrQ y3).isSome then
          bnd (V88x0x53 N v0 (y0.getD default).2.2.2.2 v3) fun y4 =>
          bnd (V88x0x59 N y2 (IntKind.wrap .i64 (v1 + (y0.getD default).2.1)) v2 (y1.getD default).1 (y1.getD default).2.1 (y1.getD default).2.2.1 (y1.getD default).2.2.2) fun y5 =>
          bnd (G96x0 N (IntKind.wrap .i64 (v0 + 1)) y5.1 y5.2.1 y4 y5.2.2.1 y5.2.2.2.1 y5.2.2.2.2.1 y5.2.2.2.2.2 ((inrQ y3).getD default).1 ((inrQ y3).getD default).2.1 ((inrQ y3).getD default).2.2.1 ((inrQ y3).getD default).2.2.2.1 ((inrQ y3).getD default).2.2.2.2.1 ((inrQ y3).getD default).2.2.2.2.2.1 ((inrQ y3).getD default).2.2.2.2.2.2.1 ((inrQ y3).getD default).2.2.2.2.2.2.2.1 ((inrQ y3).getD default).2.2.2.2.2.2.2.2.1 ((inrQ y3).getD default).2.2.2.2.2.2.2.2.2.1 ((inrQ y3).getD default).2.2.2.2.2.2.2.2.2.2.1 ((inrQ y3).getD default).2.2.2.2.2.2.2.2.2.2.2 v27 v28 v29 v30 v31 v32 v33 v34 v35 v36 v37 v38 v39) fun y6 =>
          bif y6.isSome then
            k0 ((IntKind.wrap .i64 (v0 + 1)), (y6.getD default).1, (y6.getD default).2.1, (y6.getD default).2.2.1, (y6.getD default).2.2.2.1, (y6.getD default).2.2.2.2.1, (y6.getD default).2.2.2.2.2.1, (y6.getD default).2.2.2.2.2.2.1, (y6.getD default).2.2.2.2.2.2.2.1, (y6.getD default).2.2.2.2.2.2.2.2.1, (y6.getD default).2.2.2.2.2.2.2.2.2.1, (y6.getD default).2.2.2.2.2.2.2.2.2.2.1, (y6.getD default).2.2.2.2.2.2.2.2.2.2.2.1, (y6.getD default).2.2.2.2.2.2.2.2.2.2.2.2.1, (y6.getD default).2.2.2.2.2.2.2.2.2.2.2.2.2.1, (y6.getD default).2.2.2.2.2.2.2.2.2.2.2.2.2.2.1, (y6.getD default).2.2.2.2.2.2.2.2.2.2.2.2.2.2.2.1, (y6.getD default).2.2.2.2.2.2.2.2.2.2.2.2.2.2.2.2.1, (y6.getD default).2.2.2.2.2.2.2.2.2.2.2.2.2.2.2.2.2.1, (y6.getD default).2.2.2.2.2.2.2.2.2.2.2.2.2.2.2.2.2.2, true)
          else
            none
        else
          none
    else
      none
  else
    none
noncomputable def G88x0 (N : Nat) (v0 v1 v2 v3 v4 v5 v6 v7 v8 v9 v10 v11 v12 v13 v14 v15 v16 v17 v18 v19 v20 v21 v22 : Int) (v25 v27 : LD) (v28 v29 v30 v31 v32 v33 v34 v35 v36 v37 v38 v39 : Bool) : Option (Ty4) := F88x0 N v0 v1 v2 v3 v4 v5 v6 v7 v8 v9 v10 v11 v12 v13 v14 v15 v16 v17 v18 v19 v20 v21 v22 v25 v27 v28 v29 v30 v31 v32 v33 v34 v35 v36 v37 v38 v39 (fun p => some p)
theorem bind88x0 (N : Nat) {R : Type} (v0 v1 v2 v3 v4 v5 v6 v7 v8 v9 v10 v11 v12 v13 v14 v15 v16 v17 v18 v19 v20 v21 v22 : Int) (v25 v27 : LD) (v28 v29 v30 v31 v32 v33 v34 v35 v36 v37 v38 v39 : Bool) (k0 : Ty4 → Option R) : F88x0 N v0 v1 v2 v3 v4 v5 v6 v7 v8 v9 v10 v11 v12 v13 v14 v15 v16 v17 v18 v19 v20 v21 v22 v25 v27 v28 v29 v30 v31 v32 v33 v34 v35 v36 v37 v38 v39 k0 = (G88x0 N v0 v1 v2 v3 v4 v5 v6 v7 v8 v9 v10 v11 v12 v13 v14 v15 v16 v17 v18 v19 v20 v21 v22 v25 v27 v28 v29 v30 v31 v32 v33 v34 v35 v36 v37 v38 v39).bind k0 := by
  unfold G88x0 F88x0
  repeat' (first | rfl | apply cond_b | (apply bnd_b; intro _))
noncomputable def J88x0 (N : Nat) (L : List Lf) {R : Type} (k0 : Ty4 → Option R) : Option R := F88x0 N (li L 0) (li L 1) (li L 2) (li L 3) (li L 4) (li L 5) (li L 6) (li L 7) (li L 8) (li L 9) (li L 10) (li L 11) (li L 12) (li L 13) (li L 14) (li L 15) (li L 16) (li L 17) (li L 18) (li L 19) (li L 20) (li L 21) (li L 22) (ll L 25) (ll L 27) (lb L 28) (lb L 29) (lb L 30) (lb L 31) (lb L 32) (lb L 33) (lb L 34) (lb L 35) (lb L 36) (lb L 37) (lb L 38) (lb L 39) k0
noncomputable def sh88x0 : Sh := { tmps := [(0, .c (.p 0 0)), (1, .g (rI 20 ([]))), (2, .c (.i .i64))], mem := [(0, .box (.i .i64 :: .i .i64 :: .i .i64 :: .sl 66 :: .sl 68 :: rB 12 ([])))] }
noncomputable def K88x0w0 (L : List Lf) (p : Ty4) : Res := let p1 := p.2; let p2 := p1.2; let p3 := p2.2; let p4 := p3.2; let p5 := p4.2; let p6 := p5.2; let p7 := p6.2; let p8 := p7.2; let p9 := p8.2; let p10 := p9.2; let p11 := p10.2; let p12 := p11.2; let p13 := p12.2; let p14 := p13.2; let p15 := p14.2; let p16 := p15.2; let p17 := p16.2; let p18 := p17.2; let p19 := p18.2; let p20 := p19.2; ([.g [.i .i64 p.1, .i .i64 p1.1, .i .i64 p2.1, .i .i64 p3.1, .i .i64 p4.1, .i .i64 p5.1, .i .i64 p6.1, .i .i64 p7.1, .i .i64 p8.1, .i .i64 p9.1, .i .i64 p10.1, .i .i64 p11.1, .i .i64 p12.1, .i .i64 p13.1, .i .i64 p14.1, .i .i64 p15.1, .i .i64 p16.1, .i .i64 p17.1, .i .i64 p18.1, .i .i64 p19.1], .c (.b p20)], [(0, .box (.i .i64 (li L 21) :: .i .i64 (li L 22) :: .i .i64 (li L 23) :: .sl 66 (lb L 24) (ll L 25) :: .sl 68 (lb L 26) (ll L 27) :: rM L 28 12 ([])))])
noncomputable def A88x0 (N : Nat) (L : List Lf) : List (Bool × Res) := bnd (J88x0 N L (fun p => some p)) fun q => [(q.isSome, K88x0w0 L (q.getD default))]
theorem raw88x0 (N : Nat) (L : List Lf) : (body Try.prog (T96x0 N) (h88x0s7 N) 200 88 (valsOf (ofSh sh88x0 L).tmps) (ofSh sh88x0 L).mem : Option Res) = J88x0 N L (fun p => some (K88x0w0 L p)) := by kernel_rfl
theorem ok88x0 (N : Nat) : ∀ args mem alts, spSh sh88x0 (A88x0 N) args mem = some alts → ∀ res, altK alts some = some res → CallOk Try.prog 88 args mem res :=
  spSh_law fun L x hx => callOk_of (n := 200) progOk (T96x0_ok N) (al88x0s7 N) rfl ((raw88x0 N L).trans ((bind88x0 N ..).trans (alt1 x hx)))
noncomputable def T88x0 (N : Nat) : Oracle := ext 88 (spSh sh88x0 (A88x0 N)) (T96x0 N)
theorem T88x0_ok (N : Nat) : OracleOk Try.prog (T88x0 N) := ext_ok (T96x0_ok N) (enters_of (by kernel_rfl)) (ok88x0 N)
abbrev Rc78x1 : Type := Int → Int → Int → Int → Int → Int → Int → Int → Int → Int → Int → Int → Int → Int → Int → Int → Int → Int → Int → Int → Int → Int → Int → Bool → LD → Bool → LD → Bool → Bool → Bool → Bool → Bool → Bool → Bool → Bool → Bool → Bool → Bool → Bool → Bool → LD → Bool → LD → (List (D × D)) → Option (Ty13)
noncomputable def sh78x1 : Sh := { tmps := [(0, .c (.p 0 0)), (1, .g (rI 20 ([])))], mem := [(0, .box (.i .i64 :: .i .i64 :: .i .i64 :: .sl 66 :: .sl 68 :: rB 12 ([.sl 3, .sl 3, .m 1]))), (1, .map 106 59)] }
noncomputable def B78x1 (N : Nat) (rc : Rc78x1) (L : List Lf) : List (Bool × Res) := bnd (rc (li L 0) (li L 1) (li L 2) (li L 3) (li L 4) (li L 5) (li L 6) (li L 7) (li L 8) (li L 9) (li L 10) (li L 11) (li L 12) (li L 13) (li L 14) (li L 15) (li L 16) (li L 17) (li L 18) (li L 19) (li L 20) (li L 21) (li L 22) (lb L 23) (ll L 24) (lb L 25) (ll L 26) (lb L 27) (lb L 28) (lb L 29) (lb L 30) (lb L 31) (lb L 32) (lb L 33) (lb L 34) (lb L 35) (lb L 36) (lb L 37) (lb L 38) (lb L 39) (ll L 40) (lb L 41) (ll L 42) (lm L 43)) fun q => [(q.isSome, ([.g [.i .i64 (q.getD default).1, .i .i64 (q.getD default).2.1, .i .i64 (q.getD default).2.2.1]], [(0, .box [.i .i64 (li L 20), .i .i64 (li L 21), .i .i64 (li L 22), .sl 66 (lb L 23) (ll L 24), .sl 68 (lb L 25) (ll L 26), .b (lb L 27), .b (lb L 28), .b (lb L 29), .b (lb L 30), .b (lb L 31), .b (lb L 32), .b (lb L 33), .b (lb L 34), .b (lb L 35), .b (lb L 36), .b (lb L 37), .b (lb L 38), .sl 3 (lb L 39) (ll L 40), .sl 3 (lb L 41) (ll L 42), .m 1]), (1, .map 106 59 (q.getD default).2.2.2)]))]
noncomputable def O78x1 (N : Nat) (rc : Rc78x1) : Oracle := ext 78 (spSh sh78x1 ((B78x1 N) rc)) (T88x0 N)
noncomputable def rg90x1 : List (Nat × List Nat) := [(0, [1, 0, 2]), (1, [0, 4, 2, 6]), (2, [8, 6, 0, 7, 2, 4]), (3, [6]), (4, [0, 7, 6, 2, 4]), (5, [9, 6, 0, 2, 4]), (6, [9, 6]), (7, [9, 0, 2, 4, 6]), (8, [4, 0, 2, 9, 6]), (9, [9, 6]), (10, [9, 6])]
noncomputable def hd90x1 : Hints := [(25, [4, 0, 2, 9, 6], [11, 8, 6, 1, 0], []), (29, [9, 6, 70], [11, 8, 0, 1], [])]
noncomputable def h90x1s0 (N : Nat) (rc : Rc78x1) : Hint := { loops := hd90x1, regs := rg90x1, los := [] }
theorem al90x1s0 (N : Nat) (rc : Rc78x1) (hR : OracleOk Try.prog ((O78x1 N) rc)) : AllCuts Try.prog ((h90x1s0 N) rc).los 2 90 := AllCuts.nil
noncomputable def F90x1x25 (N : Nat) (rc : Rc78x1) {R : Type} (w0 : Int) (w21 w23 : LD) (w25 : Int) (k0 : Bool → Option R) : Option R :=
  bif (decide (w25 ≥ (w21.length : Int))) then
    bif (decide (w25 < (w23.length : Int))) then
      bif (inB w25 w23.length) then
        k0 ((w23.getD w25.toNat (.i 0)).toI != w0)
      else
        none
    else
      k0 false
  else
    k0 false
noncomputable def G90x1x25 (N : Nat) (rc : Rc78x1) (w0 : Int) (w21 w23 : LD) (w25 : Int) : Option (Bool) := F90x1x25 N rc w0 w21 w23 w25 (fun p => some p)
theorem bind90x1x25 (N : Nat) (rc : Rc78x1) {R : Type} (w0 : Int) (w21 w23 : LD) (w25 : Int) (k0 : Bool → Option R) : F90x1x25 N rc w0 w21 w23 w25 k0 = (G90x1x25 N rc w0 w21 w23 w25).bind k0 := by
  unfold G90x1x25 F90x1x25
  repeat' (first | rfl | apply cond_b | (apply bnd_b; intro _))
noncomputable def J90x1x25 (N : Nat) (rc : Rc78x1) (L : List Lf) {R : Type} (k0 : Bool → Option R) : Option R := F90x1x25 N rc (li L 0) (ll L 21) (ll L 23) (li L 25) k0
noncomputable def sh90x1x25 : Sh := { tmps := [(0, .c (.p 0 0)), (2, .c (.i .i64)), (4, .c (.p 6 0)), (6, .c (.p 8 0)), (9, .c (.p 11 0))], mem := [(0, .box (.i .i64 :: .i .i64 :: .i .i64 :: .sl 66 :: .sl 68 :: rB 12 ([.sl 3, .sl 3, .m 1]))), (1, .map 106 59), (6, .box (rI 20 ([]))), (8, .box ([.i .i64, .i .i64, .i .i64])), (11, .box ([.i .i64, .i .i64, .i .i64]))] }
noncomputable def K90x1x25w0 (L : List Lf) (p : Bool) : Ex × St := (.normal, ⟨[(6, .c (.p 8 0)), (9, .c (.p 11 0)), (70, .c (.b p))], [(0, .box (.i .i64 (li L 1) :: .i .i64 (li L 2) :: .i .i64 (li L 3) :: .sl 66 (lb L 4) (ll L 5) :: .sl 68 (lb L 6) (ll L 7) :: rM L 8 12 ([.sl 3 (lb L 20) (ll L 21), .sl 3 (lb L 22) (ll L 23), .m 1]))), (1, .map 106 59 (lm L 24)), (8, .box [.i .i64 (li L 45), .i .i64 (li L 46), .i .i64 (li L 47)]), (11, .box [.i .i64 (li L 48), .i .i64 (li L 49), .i .i64 (li L 50)])]⟩)
noncomputable def A90x1x25 (N : Nat) (rc : Rc78x1) (L : List Lf) : List (Bool × (Ex × St)) := bnd (J90x1x25 N rc L (fun p => some p)) fun q => [(q.isSome, K90x1x25w0 L (q.getD default))]
theorem raw90x1x25 (N : Nat) (rc : Rc78x1) (L : List Lf) : (exec Try.prog ((O78x1 N) rc) ((h90x1s0 N) rc) 2 100 (piece Try.prog 90 25) (ofSh sh90x1x25 L) (fun e st => some (e, cutSt [9, 6, 70] [11, 8, 0, 1] st)) : Option (Ex × St)) = J90x1x25 N rc L (fun p => some (K90x1x25w0 L p)) := by kernel_rfl
theorem one90x1x25 : oneB Try.prog 90 25 = true := by kernel_rfl
theorem law90x1x25 (N : Nat) (rc : Rc78x1) (hR : OracleOk Try.prog ((O78x1 N) rc)) : CutLaw Try.prog 2 (piece Try.prog 90 25) (loSh sh90x1x25 ((A90x1x25 N) rc)) :=
  law_sh progOk hR ((al90x1s0 N) rc hR) one90x1x25 fun L x hx => (raw90x1x25 N rc L).trans ((bind90x1x25 N rc ..).trans (alt1 x hx))
noncomputable def h90x1s1 (N : Nat) (rc : Rc78x1) : Hint := { ((h90x1s0 N) rc) with los := (25, loSh sh90x1x25 ((A90x1x25 N) rc)) :: ((h90x1s0 N) rc).los }
theorem al90x1s1 (N : Nat) (rc : Rc78x1) (hR : OracleOk Try.prog ((O78x1 N) rc)) : AllCuts Try.prog ((h90x1s1 N) rc).los 2 90 := AllCuts.cons ((al90x1s0 N) rc hR) one90x1x25 ((law90x1x25 N) rc hR)
noncomputable def F90x1x29 (N : Nat) (rc : Rc78x1) {R : Type} (w0 : Bool) (w29 : Int) (k0 : Int → R) : R :=
  bif w0 then
    k0 (IntKind.wrap .i64 (w29 + 1))
  else
    k0 w29
noncomputable def V90x1x29 (N : Nat) (rc : Rc78x1) (w0 : Bool) (w29 : Int) : Int := F90x1x29 N rc w0 w29 (fun p => p)
theorem tot90x1x29 (N : Nat) (rc : Rc78x1) {R : Type} (w0 : Bool) (w29 : Int) (k0 : Int → R) : F90x1x29 N rc w0 w29 k0 = k0 (V90x1x29 N rc w0 w29) := by
  unfold V90x1x29 F90x1x29
  repeat' (first | rfl | apply cond_k | (apply bnd_k; intro _))
noncomputable def sh90x1x29 : Sh := { tmps := [(6, .c (.p 8 0)), (9, .c (.p 11 0)), (70, .c (.b))], mem := [(0, .box (.i .i64 :: .i .i64 :: .i .i64 :: .sl 66 :: .sl 68 :: rB 12 ([.sl 3, .sl 3, .m 1]))), (1, .map 106 59), (8, .box ([.i .i64, .i .i64, .i .i64])), (11, .box ([.i .i64, .i .i64, .i .i64]))] }
noncomputable def K90x1x29w0 (L : List Lf) (p : Int) : Ex × St := (.normal, ⟨[(6, .c (.p 8 0)), (9, .c (.p 11 0))], [(0, .box (.i .i64 (li L 1) :: .i .i64 (li L 2) :: .i .i64 (li L 3) :: .sl 66 (lb L 4) (ll L 5) :: .sl 68 (lb L 6) (ll L 7) :: rM L 8 12 ([.sl 3 (lb L 20) (ll L 21), .sl 3 (lb L 22) (ll L 23), .m 1]))), (1, .map 106 59 (lm L 24)), (8, .box [.i .i64 (li L 25), .i .i64 (li L 26), .i .i64 (li L 27)]), (11, .box [.i .i64 (li L 28), .i .i64 p, .i .i64 (li L 30)])]⟩)
noncomputable def A90x1x29 (N : Nat) (rc : Rc78x1) (L : List Lf) : List (Bool × (Ex × St)) := bnd (F90x1x29 N rc (lb L 0) (li L 29) (fun p => p)) fun q => [(true, K90x1x29w0 L q)]
theorem raw90x1x29 (N : Nat) (rc : Rc78x1) (L : List Lf) : (exec Try.prog ((O78x1 N) rc) ((h90x1s1 N) rc) 2 100 (piece Try.prog 90 29) (ofSh sh90x1x29 L) (fun e st => some (e, cutSt [9, 6] [11, 8, 0, 1] st)) : Option (Ex × St)) = F90x1x29 N rc (lb L 0) (li L 29) (fun p => some (K90x1x29w0 L p)) := by kernel_rfl
theorem one90x1x29 : oneB Try.prog 90 29 = true := by kernel_rfl
theorem law90x1x29 (N : Nat) (rc : Rc78x1) (hR : OracleOk Try.prog ((O78x1 N) rc)) : CutLaw Try.prog 2 (piece Try.prog 90 29) (loSh sh90x1x29 ((A90x1x29 N) rc)) :=
  law_sh progOk hR ((al90x1s1 N) rc hR) one90x1x29 fun L x hx => (raw90x1x29 N rc L).trans ((tot90x1x29 N rc ..).trans (alt0 _ _ hx))
noncomputable def h90x1s2 (N : Nat) (rc : Rc78x1) : Hint := { ((h90x1s1 N) rc) with los := (29, loSh sh90x1x29 ((A90x1x29 N) rc)) :: ((h90x1s1 N) rc).los }
theorem al90x1s2 (N : Nat) (rc : Rc78x1) (hR : OracleOk Try.prog ((O78x1 N) rc)) : AllCuts Try.prog ((h90x1s2 N) rc).los 2 90 := AllCuts.cons ((al90x1s1 N) rc hR) one90x1x29 ((law90x1x29 N) rc hR)
noncomputable def F90x1 (N : Nat) (rc : Rc78x1) {R : Type} (v0 v1 v2 v3 v4 v5 v6 v7 v8 v9 v10 v11 v12 v13 v14 v15 v16 v17 v18 v19 v20 v21 v22 v23 : Int) (v24 : Bool) (v25 : LD) (v26 : Bool) (v27 : LD) (v28 v29 v30 v31 v32 v33 v34 v35 v36 v37 v38 v39 v40 : Bool) (v41 : LD) (v42 : Bool) (v43 : LD) (v44 : (List (D × D))) (k0 : Ty13 → Option R) : Option R :=
  bnd (G88x0 N v0 v1 v2 v3 v4 v5 v6 v7 v8 v9 v10 v11 v12 v13 v14 v15 v16 v17 v18 v19 v20 v21 v22 v25 v27 v28 v29 v30 v31 v32 v33 v34 v35 v36 v37 v38 v39) fun y0 =>
  bif y0.isSome then
    bnd (y0.getD default).2.2.2.2.2.2.2.2.2.2.2.2.2.2.2.2.2.2.1 fun y1 =>
    bnd (y0.getD default).2.2.2.2.2.2.2.2.2.2.2.2.2.2.2.2.2.2.2.1 fun y2 =>
    bnd (y0.getD default).2.2.2.2.2.2.2.2.2.2.2.2.2.2.2.2.2.2.2.2 fun y3 =>
    bif (!y3) then
      k0 (0, 0, 0, v44)
    else
      bnd (rc (y0.getD default).1 (y0.getD default).2.1 (y0.getD default).2.2.1 (y0.getD default).2.2.2.1 (y0.getD default).2.2.2.2.1 (y0.getD default).2.2.2.2.2.1 (y0.getD default).2.2.2.2.2.2.1 (y0.getD default).2.2.2.2.2.2.2.1 (y0.getD default).2.2.2.2.2.2.2.2.1 (y0.getD default).2.2.2.2.2.2.2.2.2.1 (y0.getD default).2.2.2.2.2.2.2.2.2.2.1 (y0.getD default).2.2.2.2.2.2.2.2.2.2.2.1 (y0.getD default).2.2.2.2.2.2.2.2.2.2.2.2.1 (y0.getD default).2.2.2.2.2.2.2.2.2.2.2.2.2.1 (y0.getD default).2.2.2.2.2.2.2.2.2.2.2.2.2.2.1 (y0.getD default).2.2.2.2.2.2.2.2.2.2.2.2.2.2.2.1 (y0.getD default).2.2.2.2.2.2.2.2.2.2.2.2.2.2.2.2.1 (y0.getD default).2.2.2.2.2.2.2.2.2.2.2.2.2.2.2.2.2.1 y1 y2 v21 v22 v23 v24 v25 v26 v27 v28 v29 v30 v31 v32 v33 v34 v35 v36 v37 v38 v39 v40 v41 v42 v43 v44) fun y4 =>
      bif y4.isSome then
        bif ((y4.getD default).1 == 0) then
          k0 (y4.getD default)
        else
          bnd (G70x0 N v25 v20) fun y5 =>
          bif y5.isSome then
            bnd (IntKind.wrap .i64 ((y4.getD default).2.2.1 + (y5.getD default).2.2.2.1)) fun y6 =>
            bnd (G90x1x25 N rc v20 v41 v43 v0) fun y7 =>
            bif y7.isSome then
              bnd (V90x1x29 N rc (y7.getD default) (y4.getD default).2.1) fun y8 =>
              k0 ((y4.getD default).1, y8, y6, (y4.getD default).2.2.2)
            else
              none
          else
            none
      else
        none
  else
    none
noncomputable def G90x1 (N : Nat) (rc : Rc78x1) (v0 v1 v2 v3 v4 v5 v6 v7 v8 v9 v10 v11 v12 v13 v14 v15 v16 v17 v18 v19 v20 v21 v22 v23 : Int) (v24 : Bool) (v25 : LD) (v26 : Bool) (v27 : LD) (v28 v29 v30 v31 v32 v33 v34 v35 v36 v37 v38 v39 v40 : Bool) (v41 : LD) (v42 : Bool) (v43 : LD) (v44 : (List (D × D))) : Option (Ty13) := F90x1 N rc v0 v1 v2 v3 v4 v5 v6 v7 v8 v9 v10 v11 v12 v13 v14 v15 v16 v17 v18 v19 v20 v21 v22 v23 v24 v25 v26 v27 v28 v29 v30 v31 v32 v33 v34 v35 v36 v37 v38 v39 v40 v41 v42 v43 v44 (fun p => some p)
theorem bind90x1 (N : Nat) (rc : Rc78x1) {R : Type} (v0 v1 v2 v3 v4 v5 v6 v7 v8 v9 v10 v11 v12 v13 v14 v15 v16 v17 v18 v19 v20 v21 v22 v23 : Int) (v24 : Bool) (v25 : LD) (v26 : Bool) (v27 : LD) (v28 v29 v30 v31 v32 v33 v34 v35 v36 v37 v38 v39 v40 : Bool) (v41 : LD) (v42 : Bool) (v43 : LD) (v44 : (List (D × D))) (k0 : Ty13 → Option R) : F90x1 N rc v0 v1 v2 v3 v4 v5 v6 v7 v8 v9 v10 v11 v12 v13 v14 v15 v16 v17 v18 v19 v20 v21 v22 v23 v24 v25 v26 v27 v28 v29 v30 v31 v32 v33 v34 v35 v36 v37 v38 v39 v40 v41 v42 v43 v44 k0 = (G90x1 N rc v0 v1 v2 v3 v4 v5 v6 v7 v8 v9 v10 v11 v12 v13 v14 v15 v16 v17 v18 v19 v20 v21 v22 v23 v24 v25 v26 v27 v28 v29 v30 v31 v32 v33 v34 v35 v36 v37 v38 v39 v40 v41 v42 v43 v44).bind k0 := by
  unfold G90x1 F90x1
  repeat' (first | rfl | apply cond_b | (apply bnd_b; intro _))
noncomputable def J90x1 (N : Nat) (rc : Rc78x1) (L : List Lf) {R : Type} (k0 : Ty13 → Option R) : Option R := F90x1 N rc (li L 0) (li L 1) (li L 2) (li L 3) (li L 4) (li L 5) (li L 6) (li L 7) (li L 8) (li L 9) (li L 10) (li L 11) (li L 12) (li L 13) (li L 14) (li L 15) (li L 16) (li L 17) (li L 18) (li L 19) (li L 20) (li L 21) (li L 22) (li L 23) (lb L 24) (ll L 25) (lb L 26) (ll L 27) (lb L 28) (lb L 29) (lb L 30) (lb L 31) (lb L 32) (lb L 33) (lb L 34) (lb L 35) (lb L 36) (lb L 37) (lb L 38) (lb L 39) (lb L 40) (ll L 41) (lb L 42) (ll L 43) (lm L 44) k0
noncomputable def sh90x1 : Sh := { tmps := [(0, .c (.p 0 0)), (1, .g (rI 20 ([]))), (2, .c (.i .i64))], mem := [(0, .box (.i .i64 :: .i .i64 :: .i .i64 :: .sl 66 :: .sl 68 :: rB 12 ([.sl 3, .sl 3, .m 1]))), (1, .map 106 59)] }
noncomputable def K90x1w0 (L : List Lf) (p : Ty13) : Res := ([.g [.i .i64 p.1, .i .i64 p.2.1, .i .i64 p.2.2.1]], [(0, .box (.i .i64 (li L 21) :: .i .i64 (li L 22) :: .i .i64 (li L 23) :: .sl 66 (lb L 24) (ll L 25) :: .sl 68 (lb L 26) (ll L 27) :: rM L 28 12 ([.sl 3 (lb L 40) (ll L 41), .sl 3 (lb L 42) (ll L 43), .m 1]))), (1, .map 106 59 p.2.2.2)])
noncomputable def A90x1 (N : Nat) (rc : Rc78x1) (L : List Lf) : List (Bool × Res) := bnd (J90x1 N rc L (fun p => some p)) fun q => [(q.isSome, K90x1w0 L (q.getD default))]
theorem raw90x1 (N : Nat) (rc : Rc78x1) (L : List Lf) : (body Try.prog ((O78x1 N) rc) ((h90x1s2 N) rc) 200 90 (valsOf (ofSh sh90x1 L).tmps) (ofSh sh90x1 L).mem : Option Res) = J90x1 N rc L (fun p => some (K90x1w0 L p)) := by kernel_rfl
theorem ok90x1 (N : Nat) (rc : Rc78x1) (hR : OracleOk Try.prog ((O78x1 N) rc)) : ∀ args mem alts, spSh sh90x1 ((A90x1 N) rc) args mem = some alts → ∀ res, altK alts some = some res → CallOk Try.prog 90 args mem res :=
  spSh_law fun L x hx => callOk_of (n := 200) progOk hR ((al90x1s2 N) rc hR) rfl ((raw90x1 N rc L).trans ((bind90x1 N rc ..).trans (alt1 x hx)))
noncomputable def T90x1 (N : Nat) (rc : Rc78x1) : Oracle := ext 90 (spSh sh90x1 ((A90x1 N) rc)) ((O78x1 N) rc)
theorem T90x1_ok (N : Nat) (rc : Rc78x1) (hR : OracleOk Try.prog ((O78x1 N) rc)) : OracleOk Try.prog ((T90x1 N) rc) := ext_ok hR (enters_of (by kernel_rfl)) ((ok90x1 N) rc hR)
noncomputable def rg91x0 : List (Nat × List Nat) := [(0, [0, 1]), (1, [2, 3])]
noncomputable def hd91x0 : Hints := []
noncomputable def h91x0s0 (N : Nat) (rc : Rc78x1) : Hint := { loops := hd91x0, regs := rg91x0, los := [] }
theorem al91x0s0 (N : Nat) (rc : Rc78x1) (hR : OracleOk Try.prog ((O78x1 N) rc)) : AllCuts Try.prog ((h91x0s0 N) rc).los 0 91 := AllCuts.nil
noncomputable def F91x0 (N : Nat) (rc : Rc78x1) {R : Type} (v0 v1 v2 v3 v4 v5 : Int) (k0 : Bool → R) : R :=
  bnd (bif (decide (v0 > 0)) then (bif (bif (v3 == 0) then true else (decide (v1 < v4))) then true else (bif (v1 == v4) then (decide (v2 > v5)) else false)) else false) fun y0 =>
  k0 y0
noncomputable def V91x0 (N : Nat) (rc : Rc78x1) (v0 v1 v2 v3 v4 v5 : Int) : Bool := F91x0 N rc v0 v1 v2 v3 v4 v5 (fun p => p)
theorem tot91x0 (N : Nat) (rc : Rc78x1) {R : Type} (v0 v1 v2 v3 v4 v5 : Int) (k0 : Bool → R) : F91x0 N rc v0 v1 v2 v3 v4 v5 k0 = k0 (V91x0 N rc v0 v1 v2 v3 v4 v5) := by
  unfold V91x0 F91x0
  repeat' (first | rfl | apply cond_k | (apply bnd_k; intro _))
noncomputable def J91x0 (N : Nat) (rc : Rc78x1) (L : List Lf) {R : Type} (k0 : Bool → R) : R := F91x0 N rc (li L 0) (li L 1) (li L 2) (li L 3) (li L 4) (li L 5) k0
noncomputable def sh91x0 : Sh := { tmps := [(0, .g ([.i .i64, .i .i64, .i .i64])), (1, .g ([.i .i64, .i .i64, .i .i64]))], mem := [] }
noncomputable def A91x0 (N : Nat) (rc : Rc78x1) (L : List Lf) : List (Bool × Res) := bnd (J91x0 N rc L (fun p => p)) fun q => [(true, ([.c (.b q)], []))]
theorem raw91x0 (N : Nat) (rc : Rc78x1) (L : List Lf) : (body Try.prog ((T90x1 N) rc) ((h91x0s0 N) rc) 200 91 (valsOf (ofSh sh91x0 L).tmps) (ofSh sh91x0 L).mem : Option Res) = J91x0 N rc L (fun p => some ([.c (.b p)], [])) := by kernel_rfl
theorem ok91x0 (N : Nat) (rc : Rc78x1) (hR : OracleOk Try.prog ((O78x1 N) rc)) : ∀ args mem alts, spSh sh91x0 ((A91x0 N) rc) args mem = some alts → ∀ res, altK alts some = some res → CallOk Try.prog 91 args mem res :=
  spSh_law fun L x hx => callOk_of (n := 200) progOk ((T90x1_ok N) rc hR) ((al91x0s0 N) rc hR) rfl ((raw91x0 N rc L).trans ((tot91x0 N rc ..).trans (alt0 _ _ hx)))
noncomputable def T91x0 (N : Nat) (rc : Rc78x1) : Oracle := ext 91 (spSh sh91x0 ((A91x0 N) rc)) ((T90x1 N) rc)
theorem T91x0_ok (N : Nat) (rc : Rc78x1) (hR : OracleOk Try.prog ((O78x1 N) rc)) : OracleOk Try.prog ((T91x0 N) rc) := ext_ok ((T90x1_ok N) rc hR) (enters_of (by kernel_rfl)) ((ok91x0 N) rc hR)
noncomputable def rg78x1 : List (Nat × List Nat) := [(0, [1, 0]), (1, [3, 0, 4]), (2, [4]), (3, [0, 3, 4]), (4, [6, 5, 4, 0, 3]), (5, [5, 4]), (6, [0, 3, 4]), (7, [0, 3, 7, 4]), (8, [0, 3, 8, 7, 4]), (9, [9, 10, 0, 3, 8, 7, 4]), (10, [11, 10, 0, 3, 8, 7, 4]), (12, [0, 3, 11, 8, 7, 10, 4]), (13, [8, 12, 7, 11, 10, 0, 3, 4]), (14, [12, 7, 11, 10, 0, 3, 8, 4]), (15, [12, 7, 11, 10, 0, 3, 8, 4]), (11, [11, 10, 0, 3, 8, 7, 4]), (16, [8, 7, 0, 3, 4]), (17, [0, 3, 7, 4]), (18, [7, 4])]
noncomputable def hd78x1 : Hints := [(30, [11, 10, 0, 3, 8, 7, 4], [9, 6, 5, 1, 0], []), (47, [12, 7, 11, 10, 0, 3, 8, 4, 57], [14, 9, 6, 5, 1, 0], [])]
noncomputable def h78x1s0 (N : Nat) (rc : Rc78x1) : Hint := { loops := hd78x1, regs := rg78x1, los := [] }
theorem al78x1s0 (N : Nat) (rc : Rc78x1) (hR : OracleOk Try.prog ((O78x1 N) rc)) : AllCuts Try.prog ((h78x1s0 N) rc).los 2 78 := AllCuts.nil
noncomputable def F78x1x47 (N : Nat) (rc : Rc78x1) {R : Type} (w3 : Bool) (w51 w52 w53 w54 w55 w56 : Int) (k0 : Int × Int × Int → R) : R :=
  bif w3 then
    k0 (w54, w55, w56)
  else
    k0 (w51, w52, w53)
noncomputable def V78x1x47 (N : Nat) (rc : Rc78x1) (w3 : Bool) (w51 w52 w53 w54 w55 w56 : Int) : Int × Int × Int := F78x1x47 N rc w3 w51 w52 w53 w54 w55 w56 (fun p => p)
theorem tot78x1x47 (N : Nat) (rc : Rc78x1) {R : Type} (w3 : Bool) (w51 w52 w53 w54 w55 w56 : Int) (k0 : Int × Int × Int → R) : F78x1x47 N rc w3 w51 w52 w53 w54 w55 w56 k0 = k0 (V78x1x47 N rc w3 w51 w52 w53 w54 w55 w56) := by
  unfold V78x1x47 F78x1x47
  repeat' (first | rfl | apply cond_k | (apply bnd_k; intro _))
noncomputable def J78x1x47 (N : Nat) (rc : Rc78x1) (L : List Lf) {R : Type} (k0 : Int × Int × Int → R) : R := F78x1x47 N rc (lb L 3) (li L 51) (li L 52) (li L 53) (li L 54) (li L 55) (li L 56) k0
noncomputable def sh78x1x47 : Sh := { tmps := [(0, .c (.p 0 0)), (3, .c (.p 5 0)), (4, .c (.p 6 0)), (7, .c (.p 9 0)), (8, .c (.i .i64)), (10, .c (.i .i64)), (11, .c (.i .i64)), (12, .c (.p 14 0)), (57, .c (.b))], mem := [(0, .box (.i .i64 :: .i .i64 :: .i .i64 :: .sl 66 :: .sl 68 :: rB 12 ([.sl 3, .sl 3, .m 1]))), (1, .map 106 59), (5, .box (rI 20 ([]))), (6, .box ([.i .i64, .i .i64, .i .i64])), (9, .box ([.i .i64, .i .i64, .i .i64])), (14, .box ([.i .i64, .i .i64, .i .i64]))] }
noncomputable def K78x1x47w0 (L : List Lf) (p : Int × Int × Int) : Ex × St := (.normal, ⟨[(0, .c (.p 0 0)), (3, .c (.p 5 0)), (4, .c (.p 6 0)), (7, .c (.p 9 0)), (8, .c (.i .i64 (li L 0))), (10, .c (.i .i64 (li L 1))), (11, .c (.i .i64 (li L 2)))], [(0, .box (.i .i64 (li L 4) :: .i .i64 (li L 5) :: .i .i64 (li L 6) :: .sl 66 (lb L 7) (ll L 8) :: .sl 68 (lb L 9) (ll L 10) :: rM L 11 12 ([.sl 3 (lb L 23) (ll L 24), .sl 3 (lb L 25) (ll L 26), .m 1]))), (1, .map 106 59 (lm L 27)), (5, .box (rL L 28 20 ([]))), (6, .box [.i .i64 (li L 48), .i .i64 (li L 49), .i .i64 (li L 50)]), (9, .box [.i .i64 p.1, .i .i64 p.2.1, .i .i64 p.2.2])]⟩)
noncomputable def A78x1x47 (N : Nat) (rc : Rc78x1) (L : List Lf) : List (Bool × (Ex × St)) := bnd (J78x1x47 N rc L (fun p => p)) fun q => [(true, K78x1x47w0 L q)]
theorem raw78x1x47 (N : Nat) (rc : Rc78x1) (L : List Lf) : (exec Try.prog ((T91x0 N) rc) ((h78x1s0 N) rc) 2 100 (piece Try.prog 78 47) (ofSh sh78x1x47 L) (fun e st => some (e, cutSt [11, 10, 0, 3, 8, 7, 4] [9, 6, 5, 1, 0] st)) : Option (Ex × St)) = J78x1x47 N rc L (fun p => some (K78x1x47w0 L p)) := by kernel_rfl
theorem one78x1x47 : oneB Try.prog 78 47 = true := by kernel_rfl
theorem law78x1x47 (N : Nat) (rc : Rc78x1) (hR : OracleOk Try.prog ((O78x1 N) rc)) : CutLaw Try.prog 2 (piece Try.prog 78 47) (loSh sh78x1x47 ((A78x1x47 N) rc)) :=
  law_sh progOk ((T91x0_ok N) rc hR) ((al78x1s0 N) rc hR) one78x1x47 fun L x hx => (raw78x1x47 N rc L).trans ((tot78x1x47 N rc ..).trans (alt0 _ _ hx))
noncomputable def h78x1s1 (N : Nat) (rc : Rc78x1) : Hint := { ((h78x1s0 N) rc) with los := (47, loSh sh78x1x47 ((A78x1x47 N) rc)) :: ((h78x1s0 N) rc).los }
theorem al78x1s1 (N : Nat) (rc : Rc78x1) (hR : OracleOk Try.prog ((O78x1 N) rc)) : AllCuts Try.prog ((h78x1s1 N) rc).los 2 78 := AllCuts.cons ((al78x1s0 N) rc hR) one78x1x47 ((law78x1x47 N) rc hR)
noncomputable def K78x1x30w0 (w3 w4 w5 : Int) (w6 : Bool) (w7 : LD) (w8 : Bool) (w9 : LD) (w10 w11 w12 w13 w14 w15 w16 w17 w18 w19 w20 w21 w22 : Bool) (w23 : LD) (w24 : Bool) (w25 : LD) (w27 w28 w29 w30 w31 w32 w33 w34 w35 w36 w37 w38 w39 w40 w41 w42 w43 w44 w45 w46 w47 w48 w49 : Int) (p : Ty8) : Ex × St := ((.exit 0), ⟨[(0, .c (.p 0 0)), (3, .c (.p 5 0)), (4, .c (.p 6 0)), (7, .c (.p 9 0)), (8, .c (.i .i64 p.1))], [(0, .box [.i .i64 w3, .i .i64 w4, .i .i64 w5, .sl 66 w6 w7, .sl 68 w8 w9, .b w10, .b w11, .b w12, .b w13, .b w14, .b w15, .b w16, .b w17, .b w18, .b w19, .b w20, .b w21, .sl 3 w22 w23, .sl 3 w24 w25, .m 1]), (1, .map 106 59 p.2.1), (5, .box [.i .i64 w27, .i .i64 w28, .i .i64 w29, .i .i64 w30, .i .i64 w31, .i .i64 w32, .i .i64 w33, .i .i64 w34, .i .i64 w35, .i .i64 w36, .i .i64 w37, .i .i64 w38, .i .i64 w39, .i .i64 w40, .i .i64 w41, .i .i64 w42, .i .i64 w43, .i .i64 w44, .i .i64 w45, .i .i64 w46]), (6, .box [.i .i64 w47, .i .i64 w48, .i .i64 w49]), (9, .box [.i .i64 p.2.2.1, .i .i64 p.2.2.2.1, .i .i64 p.2.2.2.2])]⟩)
noncomputable def P78x1x30 (w0 w1 w2 w3 w4 w5 : Int) (w6 : Bool) (w7 : LD) (w8 : Bool) (w9 : LD) (w10 w11 w12 w13 w14 w15 w16 w17 w18 w19 w20 w21 w22 : Bool) (w23 : LD) (w24 : Bool) (w25 : LD) (w26 : (List (D × D))) (w27 w28 w29 w30 w31 w32 w33 w34 w35 w36 w37 w38 w39 w40 w41 w42 w43 w44 w45 w46 w47 w48 w49 w50 w51 w52 : Int) : St := ⟨[(0, .c (.p 0 0)), (3, .c (.p 5 0)), (4, .c (.p 6 0)), (7, .c (.p 9 0)), (8, .c (.i .i64 w0)), (10, .c (.i .i64 w1)), (11, .c (.i .i64 w2))], [(0, .box [.i .i64 w3, .i .i64 w4, .i .i64 w5, .sl 66 w6 w7, .sl 68 w8 w9, .b w10, .b w11, .b w12, .b w13, .b w14, .b w15, .b w16, .b w17, .b w18, .b w19, .b w20, .b w21, .sl 3 w22 w23, .sl 3 w24 w25, .m 1]), (1, .map 106 59 w26), (5, .box [.i .i64 w27, .i .i64 w28, .i .i64 w29, .i .i64 w30, .i .i64 w31, .i .i64 w32, .i .i64 w33, .i .i64 w34, .i .i64 w35, .i .i64 w36, .i .i64 w37, .i .i64 w38, .i .i64 w39, .i .i64 w40, .i .i64 w41, .i .i64 w42, .i .i64 w43, .i .i64 w44, .i .i64 w45, .i .i64 w46]), (6, .box [.i .i64 w47, .i .i64 w48, .i .i64 w49]), (9, .box [.i .i64 w50, .i .i64 w51, .i .i64 w52])]⟩
noncomputable def S78x1x30 (N : Nat) (rc : Rc78x1) {R : Type} (w1 w3 w4 w5 : Int) (w6 : Bool) (w7 : LD) (w8 : Bool) (w9 : LD) (w10 w11 w12 w13 w14 w15 w16 w17 w18 w19 w20 w21 w22 : Bool) (w23 : LD) (w24 : Bool) (w25 : LD) (w27 w28 w29 w30 w31 w32 w33 w34 w35 w36 w37 w38 w39 w40 w41 w42 w43 w44 w45 w46 : Int) (w0 w2 : Int) (w26 : (List (D × D))) (w50 w51 w52 : Int) (kr : Int → Int → (List (D × D)) → Int → Int → Int → Option R) (k0 : Ty8 → Option R) : Option R :=
  bif (decide (w2 ≤ w1)) then
    bnd (G90x1 N rc w27 w28 w29 w30 w31 w32 w33 w34 w35 w36 w37 w38 w39 w40 w41 w42 w43 w44 w45 w46 w2 w3 w4 w5 w6 w7 w8 w9 w10 w11 w12 w13 w14 w15 w16 w17 w18 w19 w20 w21 w22 w23 w24 w25 w26) fun y0 =>
    bif y0.isSome then
      bnd (V91x0 N rc (y0.getD default).1 (y0.getD default).2.1 (y0.getD default).2.2.1 w50 w51 w52) fun y1 =>
      bnd (V78x1x47 N rc y1 w50 w51 w52 (y0.getD default).1 (y0.getD default).2.1 (y0.getD default).2.2.1) fun y2 =>
      kr (IntKind.wrap .i64 (w0 + (y0.getD default).1)) (IntKind.wrap .i64 (w2 + 1)) (y0.getD default).2.2.2 y2.1 y2.2.1 y2.2.2
    else
      none
  else
    k0 (w0, w26, w50, w51, w52)
theorem mono78x1x30 (N : Nat) (rc : Rc78x1) {R : Type} (w1 w3 w4 w5 : Int) (w6 : Bool) (w7 : LD) (w8 : Bool) (w9 : LD) (w10 w11 w12 w13 w14 w15 w16 w17 w18 w19 w20 w21 w22 : Bool) (w23 : LD) (w24 : Bool) (w25 : LD) (w27 w28 w29 w30 w31 w32 w33 w34 w35 w36 w37 w38 w39 w40 w41 w42 w43 w44 w45 w46 : Int) (w0 w2 : Int) (w26 : (List (D × D))) (w50 w51 w52 : Int) {kr kr' : Int → Int → (List (D × D)) → Int → Int → Int → Option R} (k0 : Ty8 → Option R) {r : R} (hk : ∀ w0' w2' w26' w50' w51' w52', kr w0' w2' w26' w50' w51' w52' = some r → kr' w0' w2' w26' w50' w51' w52' = some r) : S78x1x30 N rc w1 w3 w4 w5 w6 w7 w8 w9 w10 w11 w12 w13 w14 w15 w16 w17 w18 w19 w20 w21 w22 w23 w24 w25 w27 w28 w29 w30 w31 w32 w33 w34 w35 w36 w37 w38 w39 w40 w41 w42 w43 w44 w45 w46 w0 w2 w26 w50 w51 w52 kr k0 = some r → S78x1x30 N rc w1 w3 w4 w5 w6 w7 w8 w9 w10 w11 w12 w13 w14 w15 w16 w17 w18 w19 w20 w21 w22 w23 w24 w25 w27 w28 w29 w30 w31 w32 w33 w34 w35 w36 w37 w38 w39 w40 w41 w42 w43 w44 w45 w46 w0 w2 w26 w50 w51 w52 kr' k0 = some r := by
  unfold S78x1x30
  repeat' (first | exact hk _ _ _ _ _ _ | exact fun h => h | apply cond_mono | (apply bnd_mono; intro _))
noncomputable def L78x1x30 (N : Nat) (rc : Rc78x1) {R : Type} (w1 w3 w4 w5 : Int) (w6 : Bool) (w7 : LD) (w8 : Bool) (w9 : LD) (w10 w11 w12 w13 w14 w15 w16 w17 w18 w19 w20 w21 w22 : Bool) (w23 : LD) (w24 : Bool) (w25 : LD) (w27 w28 w29 w30 w31 w32 w33 w34 w35 w36 w37 w38 w39 w40 w41 w42 w43 w44 w45 w46 : Int) : Nat → Int → Int → (List (D × D)) → Int → Int → Int → (Ty8 → Option R) → Option R
  | 0, _, _, _, _, _, _, _ => none
  | m + 1, w0, w2, w26, w50, w51, w52, k0 => S78x1x30 N rc w1 w3 w4 w5 w6 w7 w8 w9 w10 w11 w12 w13 w14 w15 w16 w17 w18 w19 w20 w21 w22 w23 w24 w25 w27 w28 w29 w30 w31 w32 w33 w34 w35 w36 w37 w38 w39 w40 w41 w42 w43 w44 w45 w46 w0 w2 w26 w50 w51 w52 (fun w0 w2 w26 w50 w51 w52 => L78x1x30 N rc w1 w3 w4 w5 w6 w7 w8 w9 w10 w11 w12 w13 w14 w15 w16 w17 w18 w19 w20 w21 w22 w23 w24 w25 w27 w28 w29 w30 w31 w32 w33 w34 w35 w36 w37 w38 w39 w40 w41 w42 w43 w44 w45 w46 m w0 w2 w26 w50 w51 w52 k0) k0
theorem lp78x1x30 : piece Try.prog 78 30 = .loop (loopB (piece Try.prog 78 30)) := by kernel_rfl
theorem nl78x1x30 (N : Nat) (rc : Rc78x1) : lawOf ((h78x1s1 N) rc) (.loop (loopB (piece Try.prog 78 30))) = none := by kernel_rfl
theorem cl78x1x30 (N : Nat) (rc : Rc78x1) (w1 w3 w4 w5 : Int) (w6 : Bool) (w7 : LD) (w8 : Bool) (w9 : LD) (w10 w11 w12 w13 w14 w15 w16 w17 w18 w19 w20 w21 w22 : Bool) (w23 : LD) (w24 : Bool) (w25 : LD) (w27 w28 w29 w30 w31 w32 w33 w34 w35 w36 w37 w38 w39 w40 w41 w42 w43 w44 w45 w46 w47 w48 w49 : Int) (w0 w2 : Int) (w26 : (List (D × D))) (w50 w51 w52 : Int) : clearSt Try.prog 2 ((h78x1s1 N) rc).loops 30 (P78x1x30 w0 w1 w2 w3 w4 w5 w6 w7 w8 w9 w10 w11 w12 w13 w14 w15 w16 w17 w18 w19 w20 w21 w22 w23 w24 w25 w26 w27 w28 w29 w30 w31 w32 w33 w34 w35 w36 w37 w38 w39 w40 w41 w42 w43 w44 w45 w46 w47 w48 w49 w50 w51 w52) = (P78x1x30 w0 w1 w2 w3 w4 w5 w6 w7 w8 w9 w10 w11 w12 w13 w14 w15 w16 w17 w18 w19 w20 w21 w22 w23 w24 w25 w26 w27 w28 w29 w30 w31 w32 w33 w34 w35 w36 w37 w38 w39 w40 w41 w42 w43 w44 w45 w46 w47 w48 w49 w50 w51 w52) := by kernel_rfl
theorem step78x1x30 (N : Nat) (rc : Rc78x1) (m : Nat) (kn : St → Option (Ex × St)) (w1 w3 w4 w5 : Int) (w6 : Bool) (w7 : LD) (w8 : Bool) (w9 : LD) (w10 w11 w12 w13 w14 w15 w16 w17 w18 w19 w20 w21 w22 : Bool) (w23 : LD) (w24 : Bool) (w25 : LD) (w27 w28 w29 w30 w31 w32 w33 w34 w35 w36 w37 w38 w39 w40 w41 w42 w43 w44 w45 w46 w47 w48 w49 : Int) (w0 w2 : Int) (w26 : (List (D × D))) (w50 w51 w52 : Int) : exec Try.prog ((T91x0 N) rc) ((h78x1s1 N) rc) 2 (m + 100) (loopB (piece Try.prog 78 30)) (P78x1x30 w0 w1 w2 w3 w4 w5 w6 w7 w8 w9 w10 w11 w12 w13 w14 w15 w16 w17 w18 w19 w20 w21 w22 w23 w24 w25 w26 w27 w28 w29 w30 w31 w32 w33 w34 w35 w36 w37 w38 w39 w40 w41 w42 w43 w44 w45 w46 w47 w48 w49 w50 w51 w52) (reK (fun st => kn (clearSt Try.prog 2 ((h78x1s1 N) rc).loops 30 st)) (fun e st => some (e, cutSt [4, 8, 7, 0, 3] [9, 6, 5, 1, 0] st))) = S78x1x30 N rc w1 w3 w4 w5 w6 w7 w8 w9 w10 w11 w12 w13 w14 w15 w16 w17 w18 w19 w20 w21 w22 w23 w24 w25 w27 w28 w29 w30 w31 w32 w33 w34 w35 w36 w37 w38 w39 w40 w41 w42 w43 w44 w45 w46 w0 w2 w26 w50 w51 w52 (fun w0 w2 w26 w50 w51 w52 => kn (P78x1x30 w0 w1 w2 w3 w4 w5 w6 w7 w8 w9 w10 w11 w12 w13 w14 w15 w16 w17 w18 w19 w20 w21 w22 w23 w24 w25 w26 w27 w28 w29 w30 w31 w32 w33 w34 w35 w36 w37 w38 w39 w40 w41 w42 w43 w44 w45 w46 w47 w48 w49 w50 w51 w52)) (fun p => some (K78x1x30w0 w3 w4 w5 w6 w7 w8 w9 w10 w11 w12 w13 w14 w15 w16 w17 w18 w19 w20 w21 w22 w23 w24 w25 w27 w28 w29 w30 w31 w32 w33 w34 w35 w36 w37 w38 w39 w40 w41 w42 w43 w44 w45 w46 w47 w48 w49 p)) := by kernel_rfl
theorem run78x1x30 (N : Nat) (rc : Rc78x1) (w1 w3 w4 w5 : Int) (w6 : Bool) (w7 : LD) (w8 : Bool) (w9 : LD) (w10 w11 w12 w13 w14 w15 w16 w17 w18 w19 w20 w21 w22 : Bool) (w23 : LD) (w24 : Bool) (w25 : LD) (w27 w28 w29 w30 w31 w32 w33 w34 w35 w36 w37 w38 w39 w40 w41 w42 w43 w44 w45 w46 w47 w48 w49 : Int) : ∀ (m : Nat) (w0 w2 : Int) (w26 : (List (D × D))) (w50 w51 w52 : Int) (x : Ex × St), L78x1x30 N rc w1 w3 w4 w5 w6 w7 w8 w9 w10 w11 w12 w13 w14 w15 w16 w17 w18 w19 w20 w21 w22 w23 w24 w25 w27 w28 w29 w30 w31 w32 w33 w34 w35 w36 w37 w38 w39 w40 w41 w42 w43 w44 w45 w46 m w0 w2 w26 w50 w51 w52 (fun p => some (K78x1x30w0 w3 w4 w5 w6 w7 w8 w9 w10 w11 w12 w13 w14 w15 w16 w17 w18 w19 w20 w21 w22 w23 w24 w25 w27 w28 w29 w30 w31 w32 w33 w34 w35 w36 w37 w38 w39 w40 w41 w42 w43 w44 w45 w46 w47 w48 w49 p)) = some x → exec Try.prog ((T91x0 N) rc) ((h78x1s1 N) rc) 2 (m + 101) (.loop (loopB (piece Try.prog 78 30))) (P78x1x30 w0 w1 w2 w3 w4 w5 w6 w7 w8 w9 w10 w11 w12 w13 w14 w15 w16 w17 w18 w19 w20 w21 w22 w23 w24 w25 w26 w27 w28 w29 w30 w31 w32 w33 w34 w35 w36 w37 w38 w39 w40 w41 w42 w43 w44 w45 w46 w47 w48 w49 w50 w51 w52) (fun e st => some (e, cutSt [4, 8, 7, 0, 3] [9, 6, 5, 1, 0] st)) = some x := by
  intro m
  induction m with
  | zero => intro w0 w2 w26 w50 w51 w52 x h; cases h
  | succ m ih =>
    intro w0 w2 w26 w50 w51 w52 x h
    exact loop_round (n := m + 101) ((nl78x1x30 N) rc) (by kernel_rfl) (cl78x1x30 N rc ..) (fun kn => step78x1x30 N rc (m + 1) kn ..) (mono78x1x30 N rc _ _ _ _ _ _ _ _ _ _ _ _ _ _ _ _ _ _ _ _ _ _ _ _ _ _ _ _ _ _ _ _ _ _ _ _ _ _ _ _ _ _ _ _ _ _ _ _ _ _ _ (fun w0 w2 w26 w50 w51 w52 => ih w0 w2 w26 w50 w51 w52 x) h)
noncomputable def G78x1x30 (N : Nat) (rc : Rc78x1) (w1 w3 w4 w5 : Int) (w6 : Bool) (w7 : LD) (w8 : Bool) (w9 : LD) (w10 w11 w12 w13 w14 w15 w16 w17 w18 w19 w20 w21 w22 : Bool) (w23 : LD) (w24 : Bool) (w25 : LD) (w27 w28 w29 w30 w31 w32 w33 w34 w35 w36 w37 w38 w39 w40 w41 w42 w43 w44 w45 w46 : Int) (w0 w2 : Int) (w26 : (List (D × D))) (w50 w51 w52 : Int) : Option (Ty8) := L78x1x30 N rc (R := (Ty8)) w1 w3 w4 w5 w6 w7 w8 w9 w10 w11 w12 w13 w14 w15 w16 w17 w18 w19 w20 w21 w22 w23 w24 w25 w27 w28 w29 w30 w31 w32 w33 w34 w35 w36 w37 w38 w39 w40 w41 w42 w43 w44 w45 w46 N w0 w2 w26 w50 w51 w52 (fun p => some p)
theorem sb78x1x30 (N : Nat) (rc : Rc78x1) {R A : Type} (w1 w3 w4 w5 : Int) (w6 : Bool) (w7 : LD) (w8 : Bool) (w9 : LD) (w10 w11 w12 w13 w14 w15 w16 w17 w18 w19 w20 w21 w22 : Bool) (w23 : LD) (w24 : Bool) (w25 : LD) (w27 w28 w29 w30 w31 w32 w33 w34 w35 w36 w37 w38 w39 w40 w41 w42 w43 w44 w45 w46 : Int) (w0 w2 : Int) (w26 : (List (D × D))) (w50 w51 w52 : Int) (kr : Int → Int → (List (D × D)) → Int → Int → Int → Option R) (kr' : Int → Int → (List (D × D)) → Int → Int → Int → Option A) (k0 : Ty8 → Option R) (j0 : Ty8 → Option A) (K : A → Option R) (hr : ∀ w0' w2' w26' w50' w51' w52', kr w0' w2' w26' w50' w51' w52' = (kr' w0' w2' w26' w50' w51' w52').bind K) (h0 : ∀ p, k0 p = (j0 p).bind K) : S78x1x30 N rc w1 w3 w4 w5 w6 w7 w8 w9 w10 w11 w12 w13 w14 w15 w16 w17 w18 w19 w20 w21 w22 w23 w24 w25 w27 w28 w29 w30 w31 w32 w33 w34 w35 w36 w37 w38 w39 w40 w41 w42 w43 w44 w45 w46 w0 w2 w26 w50 w51 w52 kr k0 = (S78x1x30 N rc w1 w3 w4 w5 w6 w7 w8 w9 w10 w11 w12 w13 w14 w15 w16 w17 w18 w19 w20 w21 w22 w23 w24 w25 w27 w28 w29 w30 w31 w32 w33 w34 w35 w36 w37 w38 w39 w40 w41 w42 w43 w44 w45 w46 w0 w2 w26 w50 w51 w52 kr' j0).bind K := by
  unfold S78x1x30
  repeat' (first | rfl | apply hr | apply h0 | apply cond_b | (apply bnd_b; intro _))
theorem lbind78x1x30 (N : Nat) (rc : Rc78x1) {R : Type} (w1 w3 w4 w5 : Int) (w6 : Bool) (w7 : LD) (w8 : Bool) (w9 : LD) (w10 w11 w12 w13 w14 w15 w16 w17 w18 w19 w20 w21 w22 : Bool) (w23 : LD) (w24 : Bool) (w25 : LD) (w27 w28 w29 w30 w31 w32 w33 w34 w35 w36 w37 w38 w39 w40 w41 w42 w43 w44 w45 w46 : Int) : ∀ (m : Nat) (w0 w2 : Int) (w26 : (List (D × D))) (w50 w51 w52 : Int) (k0 : Ty8 → Option R), L78x1x30 N rc w1 w3 w4 w5 w6 w7 w8 w9 w10 w11 w12 w13 w14 w15 w16 w17 w18 w19 w20 w21 w22 w23 w24 w25 w27 w28 w29 w30 w31 w32 w33 w34 w35 w36 w37 w38 w39 w40 w41 w42 w43 w44 w45 w46 m w0 w2 w26 w50 w51 w52 k0 = (L78x1x30 N rc (R := (Ty8)) w1 w3 w4 w5 w6 w7 w8 w9 w10 w11 w12 w13 w14 w15 w16 w17 w18 w19 w20 w21 w22 w23 w24 w25 w27 w28 w29 w30 w31 w32 w33 w34 w35 w36 w37 w38 w39 w40 w41 w42 w43 w44 w45 w46 m w0 w2 w26 w50 w51 w52 (fun p => some p)).bind k0 := by
  intro m
  induction m with
  | zero => intros; rfl
  | succ m ih =>
    intro w0 w2 w26 w50 w51 w52 k0
    exact sb78x1x30 N rc _ _ _ _ _ _ _ _ _ _ _ _ _ _ _ _ _ _ _ _ _ _ _ _ _ _ _ _ _ _ _ _ _ _ _ _ _ _ _ _ _ _ _ _ _ _ _ _ _ _ _ _ _ _ _ (fun w0 w2 w26 w50 w51 w52 => ih w0 w2 w26 w50 w51 w52 k0) (fun _ => rfl)
theorem one78x1x30 : oneB Try.prog 78 30 = true := by kernel_rfl
noncomputable def sh78x1x30 : Sh := { tmps := [(0, .c (.p 0 0)), (3, .c (.p 5 0)), (4, .c (.p 6 0)), (7, .c (.p 9 0)), (8, .c (.i .i64)), (10, .c (.i .i64)), (11, .c (.i .i64))], mem := [(0, .box (.i .i64 :: .i .i64 :: .i .i64 :: .sl 66 :: .sl 68 :: rB 12 ([.sl 3, .sl 3, .m 1]))), (1, .map 106 59), (5, .box (rI 20 ([]))), (6, .box ([.i .i64, .i .i64, .i .i64])), (9, .box ([.i .i64, .i .i64, .i .i64]))] }
noncomputable def A78x1x30 (N : Nat) (rc : Rc78x1) (L : List Lf) : List (Bool × (Ex × St)) := bnd (G78x1x30 N rc (li L 1) (li L 3) (li L 4) (li L 5) (lb L 6) (ll L 7) (lb L 8) (ll L 9) (lb L 10) (lb L 11) (lb L 12) (lb L 13) (lb L 14) (lb L 15) (lb L 16) (lb L 17) (lb L 18) (lb L 19) (lb L 20) (lb L 21) (lb L 22) (ll L 23) (lb L 24) (ll L 25) (li L 27) (li L 28) (li L 29) (li L 30) (li L 31) (li L 32) (li L 33) (li L 34) (li L 35) (li L 36) (li L 37) (li L 38) (li L 39) (li L 40) (li L 41) (li L 42) (li L 43) (li L 44) (li L 45) (li L 46) (li L 0) (li L 2) (lm L 26) (li L 50) (li L 51) (li L 52)) fun q => [(q.isSome, K78x1x30w0 (li L 3) (li L 4) (li L 5) (lb L 6) (ll L 7) (lb L 8) (ll L 9) (lb L 10) (lb L 11) (lb L 12) (lb L 13) (lb L 14) (lb L 15) (lb L 16) (lb L 17) (lb L 18) (lb L 19) (lb L 20) (lb L 21) (lb L 22) (ll L 23) (lb L 24) (ll L 25) (li L 27) (li L 28) (li L 29) (li L 30) (li L 31) (li L 32) (li L 33) (li L 34) (li L 35) (li L 36) (li L 37) (li L 38) (li L 39) (li L 40) (li L 41) (li L 42) (li L 43) (li L 44) (li L 45) (li L 46) (li L 47) (li L 48) (li L 49) (q.getD default))]
theorem eq78x1x30 (L : List Lf) : ofSh sh78x1x30 L = (P78x1x30 (li L 0) (li L 1) (li L 2) (li L 3) (li L 4) (li L 5) (lb L 6) (ll L 7) (lb L 8) (ll L 9) (lb L 10) (lb L 11) (lb L 12) (lb L 13) (lb L 14) (lb L 15) (lb L 16) (lb L 17) (lb L 18) (lb L 19) (lb L 20) (lb L 21) (lb L 22) (ll L 23) (lb L 24) (ll L 25) (lm L 26) (li L 27) (li L 28) (li L 29) (li L 30) (li L 31) (li L 32) (li L 33) (li L 34) (li L 35) (li L 36) (li L 37) (li L 38) (li L 39) (li L 40) (li L 41) (li L 42) (li L 43) (li L 44) (li L 45) (li L 46) (li L 47) (li L 48) (li L 49) (li L 50) (li L 51) (li L 52)) := by kernel_rfl
theorem law78x1x30 (N : Nat) (rc : Rc78x1) (hR : OracleOk Try.prog ((O78x1 N) rc)) : CutLaw Try.prog 2 (piece Try.prog 78 30) (loSh sh78x1x30 ((A78x1x30 N) rc)) :=
  law_shL progOk ((T91x0_ok N) rc hR) ((al78x1s1 N) rc hR) one78x1x30 lp78x1x30 eq78x1x30 fun L x hx => run78x1x30 N rc _ _ _ _ _ _ _ _ _ _ _ _ _ _ _ _ _ _ _ _ _ _ _ _ _ _ _ _ _ _ _ _ _ _ _ _ _ _ _ _ _ _ _ _ _ _ _ N _ _ _ _ _ _ x ((lbind78x1x30 N rc _ _ _ _ _ _ _ _ _ _ _ _ _ _ _ _ _ _ _ _ _ _ _ _ _ _ _ _ _ _ _ _ _ _ _ _ _ _ _ _ _ _ _ _ N _ _ _ _ _ _ _).trans (alt1 x hx))
noncomputable def h78x1s2 (N : Nat) (rc : Rc78x1) : Hint := { ((h78x1s1 N) rc) with los := (30, loSh sh78x1x30 ((A78x1x30 N) rc)) :: ((h78x1s1 N) rc).los }
theorem al78x1s2 (N : Nat) (rc : Rc78x1) (hR : OracleOk Try.prog ((O78x1 N) rc)) : AllCuts Try.prog ((h78x1s2 N) rc).los 2 78 := AllCuts.cons ((al78x1s1 N) rc hR) one78x1x30 ((law78x1x30 N) rc hR)
noncomputable def F78x1 (N : Nat) (rc : Rc78x1) {R : Type} (v0 v1 v2 v3 v4 v5 v6 v7 v8 v9 v10 v11 v12 v13 v14 v15 v16 v17 v18 v19 v20 v21 v22 : Int) (v23 : Bool) (v24 : LD) (v25 : Bool) (v26 : LD) (v27 v28 v29 v30 v31 v32 v33 v34 v35 v36 v37 v38 v39 : Bool) (v40 : LD) (v41 : Bool) (v42 : LD) (v43 : (List (D × D))) (k0 : Ty13 → Option R) : Option R :=
  bif (v0 == v21) then
    k0 (1, 0, 0, v43)
  else
    bnd (((findB Try.prog 106 (.a [(.i v0), (.i v1), (.i v2), (.i v3), (.i v4), (.i v5), (.i v6), (.i v7), (.i v8), (.i v9), (.i v10), (.i v11), (.i v12), (.i v13), (.i v14), (.i v15), (.i v16), (.i v17), (.i v18), (.i v19)]) v43).getD (.a [(.i 0), (.i 0), (.i 0)])).cell 0).toI fun y0 =>
    bnd (((findB Try.prog 106 (.a [(.i v0), (.i v1), (.i v2), (.i v3), (.i v4), (.i v5), (.i v6), (.i v7), (.i v8), (.i v9), (.i v10), (.i v11), (.i v12), (.i v13), (.i v14), (.i v15), (.i v16), (.i v17), (.i v18), (.i v19)]) v43).getD (.a [(.i 0), (.i 0), (.i 0)])).cell 1).toI fun y1 =>
    bnd (((findB Try.prog 106 (.a [(.i v0), (.i v1), (.i v2), (.i v3), (.i v4), (.i v5), (.i v6), (.i v7), (.i v8), (.i v9), (.i v10), (.i v11), (.i v12), (.i v13), (.i v14), (.i v15), (.i v16), (.i v17), (.i v18), (.i v19)]) v43).getD (.a [(.i 0), (.i 0), (.i 0)])).cell 2).toI fun y2 =>
    bnd (findB Try.prog 106 (.a [(.i v0), (.i v1), (.i v2), (.i v3), (.i v4), (.i v5), (.i v6), (.i v7), (.i v8), (.i v9), (.i v10), (.i v11), (.i v12), (.i v13), (.i v14), (.i v15), (.i v16), (.i v17), (.i v18), (.i v19)]) v43).isSome fun y3 =>
    bif y3 then
      k0 (y0, y1, y2, v43)
    else
      bnd (G89x0 N v0 v24 v40) fun y4 =>
      bif y4.isSome then
        bnd (G78x1x30 N rc (y4.getD default).2 v20 v21 v22 v23 v24 v25 v26 v27 v28 v29 v30 v31 v32 v33 v34 v35 v36 v37 v38 v39 v40 v41 v42 v0 v1 v2 v3 v4 v5 v6 v7 v8 v9 v10 v11 v12 v13 v14 v15 v16 v17 v18 v19 0 (y4.getD default).1 v43 0 0 0) fun y5 =>
        bif y5.isSome then
          bnd (putB Try.prog 106 (.a [(.i v0), (.i v1), (.i v2), (.i v3), (.i v4), (.i v5), (.i v6), (.i v7), (.i v8), (.i v9), (.i v10), (.i v11), (.i v12), (.i v13), (.i v14), (.i v15), (.i v16), (.i v17), (.i v18), (.i v19)]) (.a [(.i (y5.getD default).1), (.i (y5.getD default).2.2.2.1), (.i (y5.getD default).2.2.2.2)]) (y5.getD default).2.1) fun y6 =>
          k0 ((y5.getD default).1, (y5.getD default).2.2.2.1, (y5.getD default).2.2.2.2, y6)
        else
          none
      else
        none
noncomputable def G78x1 (N : Nat) (rc : Rc78x1) (v0 v1 v2 v3 v4 v5 v6 v7 v8 v9 v10 v11 v12 v13 v14 v15 v16 v17 v18 v19 v20 v21 v22 : Int) (v23 : Bool) (v24 : LD) (v25 : Bool) (v26 : LD) (v27 v28 v29 v30 v31 v32 v33 v34 v35 v36 v37 v38 v39 : Bool) (v40 : LD) (v41 : Bool) (v42 : LD) (v43 : (List (D × D))) : Option (Ty13) := F78x1 N rc v0 v1 v2 v3 v4 v5 v6 v7 v8 v9 v10 v11 v12 v13 v14 v15 v16 v17 v18 v19 v20 v21 v22 v23 v24 v25 v26 v27 v28 v29 v30 v31 v32 v33 v34 v35 v36 v37 v38 v39 v40 v41 v42 v43 (fun p => some p)
theorem bind78x1 (N : Nat) (rc : Rc78x1) {R : Type} (v0 v1 v2 v3 v4 v5 v6 v7 v8 v9 v10 v11 v12 v13 v14 v15 v16 v17 v18 v19 v20 v21 v22 : Int) (v23 : Bool) (v24 : LD) (v25 : Bool) (v26 : LD) (v27 v28 v29 v30 v31 v32 v33 v34 v35 v36 v37 v38 v39 : Bool) (v40 : LD) (v41 : Bool) (v42 : LD) (v43 : (List (D × D))) (k0 : Ty13 → Option R) : F78x1 N rc v0 v1 v2 v3 v4 v5 v6 v7 v8 v9 v10 v11 v12 v13 v14 v15 v16 v17 v18 v19 v20 v21 v22 v23 v24 v25 v26 v27 v28 v29 v30 v31 v32 v33 v34 v35 v36 v37 v38 v39 v40 v41 v42 v43 k0 = (G78x1 N rc v0 v1 v2 v3 v4 v5 v6 v7 v8 v9 v10 v11 v12 v13 v14 v15 v16 v17 v18 v19 v20 v21 v22 v23 v24 v25 v26 v27 v28 v29 v30 v31 v32 v33 v34 v35 v36 v37 v38 v39 v40 v41 v42 v43).bind k0 := by
  unfold G78x1 F78x1
  repeat' (first | rfl | apply cond_b | (apply bnd_b; intro _))
noncomputable def J78x1 (N : Nat) (rc : Rc78x1) (L : List Lf) {R : Type} (k0 : Ty13 → Option R) : Option R := F78x1 N rc (li L 0) (li L 1) (li L 2) (li L 3) (li L 4) (li L 5) (li L 6) (li L 7) (li L 8) (li L 9) (li L 10) (li L 11) (li L 12) (li L 13) (li L 14) (li L 15) (li L 16) (li L 17) (li L 18) (li L 19) (li L 20) (li L 21) (li L 22) (lb L 23) (ll L 24) (lb L 25) (ll L 26) (lb L 27) (lb L 28) (lb L 29) (lb L 30) (lb L 31) (lb L 32) (lb L 33) (lb L 34) (lb L 35) (lb L 36) (lb L 37) (lb L 38) (lb L 39) (ll L 40) (lb L 41) (ll L 42) (lm L 43) k0
noncomputable def K78x1w0 (L : List Lf) (p : Ty13) : Res := ([.g [.i .i64 p.1, .i .i64 p.2.1, .i .i64 p.2.2.1]], [(0, .box (.i .i64 (li L 20) :: .i .i64 (li L 21) :: .i .i64 (li L 22) :: .sl 66 (lb L 23) (ll L 24) :: .sl 68 (lb L 25) (ll L 26) :: rM L 27 12 ([.sl 3 (lb L 39) (ll L 40), .sl 3 (lb L 41) (ll L 42), .m 1]))), (1, .map 106 59 p.2.2.2)])
theorem raw78x1 (N : Nat) (rc : Rc78x1) (L : List Lf) : (body Try.prog ((T91x0 N) rc) ((h78x1s2 N) rc) 200 78 (valsOf (ofSh sh78x1 L).tmps) (ofSh sh78x1 L).mem : Option Res) = J78x1 N rc L (fun p => some (K78x1w0 L p)) := by kernel_rfl
theorem fin78x1 (N : Nat) (rc : Rc78x1) (hR : OracleOk Try.prog ((O78x1 N) rc)) (L : List Lf) (x : Res) (hx : altK ((B78x1 N) (fun v0 v1 v2 v3 v4 v5 v6 v7 v8 v9 v10 v11 v12 v13 v14 v15 v16 v17 v18 v19 v20 v21 v22 v23 v24 v25 v26 v27 v28 v29 v30 v31 v32 v33 v34 v35 v36 v37 v38 v39 v40 v41 v42 v43 => G78x1 N rc v0 v1 v2 v3 v4 v5 v6 v7 v8 v9 v10 v11 v12 v13 v14 v15 v16 v17 v18 v19 v20 v21 v22 v23 v24 v25 v26 v27 v28 v29 v30 v31 v32 v33 v34 v35 v36 v37 v38 v39 v40 v41 v42 v43) L) some = some x) : CallOk Try.prog 78 (valsOf (ofSh sh78x1 L).tmps) (ofSh sh78x1 L).mem x :=
  callOk_of (n := 200) progOk ((T91x0_ok N) rc hR) ((al78x1s2 N) rc hR) rfl ((raw78x1 N rc L).trans ((bind78x1 N rc ..).trans (alt1 x hx)))
noncomputable def R78x1 (N : Nat) : Nat → Rc78x1
  | 0 => fun _ _ _ _ _ _ _ _ _ _ _ _ _ _ _ _ _ _ _ _ _ _ _ _ _ _ _ _ _ _ _ _ _ _ _ _ _ _ _ _ _ _ _ _ => none
  | m + 1 => fun v0 v1 v2 v3 v4 v5 v6 v7 v8 v9 v10 v11 v12 v13 v14 v15 v16 v17 v18 v19 v20 v21 v22 v23 v24 v25 v26 v27 v28 v29 v30 v31 v32 v33 v34 v35 v36 v37 v38 v39 v40 v41 v42 v43 => G78x1 N (R78x1 N m) v0 v1 v2 v3 v4 v5 v6 v7 v8 v9 v10 v11 v12 v13 v14 v15 v16 v17 v18 v19 v20 v21 v22 v23 v24 v25 v26 v27 v28 v29 v30 v31 v32 v33 v34 v35 v36 v37 v38 v39 v40 v41 v42 v43
theorem Rok78x1 (N : Nat) : ∀ m, OracleOk Try.prog ((O78x1 N) (R78x1 N m))
  | 0 => ext_ok (T88x0_ok N) (enters_of (by kernel_rfl)) (spSh_law fun L x hx => by
    have h : (none : Option Res) = some x := hx
    cases h)
  | m + 1 => ext_ok (T88x0_ok N) (enters_of (by kernel_rfl)) (spSh_law fun L x hx => fin78x1 N (R78x1 N m) (Rok78x1 N m) L x hx)
noncomputable def T78x1 (N : Nat) : Oracle := (O78x1 N) (R78x1 N N)
theorem T78x1_ok (N : Nat) : OracleOk Try.prog (T78x1 N) := Rok78x1 N N
noncomputable def rg47x0 : List (Nat × List Nat) := [(0, [0, 1, 2]), (1, [3, 1, 2, 7]), (2, [8, 7])]
noncomputable def hd47x0 : Hints := []
noncomputable def h47x0s0 (N : Nat) : Hint := { loops := hd47x0, regs := rg47x0, los := [] }
theorem al47x0s0 (N : Nat) : AllCuts Try.prog (h47x0s0 N).los 0 47 := AllCuts.nil
noncomputable def F47x0 (N : Nat) {R : Type} (v0 v1 v2 : Int) (v3 : Bool) (v4 : LD) (v5 : Bool) (v6 : LD) (v7 v8 v9 v10 v11 v12 v13 v14 v15 v16 v17 v18 v19 : Bool) (v20 : LD) (v21 : Bool) (v22 : LD) (k0 : Ty13 → Option R) : Option R :=
  bnd (R78x1 N N 0 0 v2 0 0 0 0 0 0 0 0 0 0 0 0 0 0 0 0 0 v0 v1 v2 v3 v4 v5 v6 v7 v8 v9 v10 v11 v12 v13 v14 v15 v16 v17 v18 v19 v20 v21 v22 []) fun y0 =>
  bif y0.isSome then
    k0 (y0.getD default)
  else
    none
noncomputable def G47x0 (N : Nat) (v0 v1 v2 : Int) (v3 : Bool) (v4 : LD) (v5 : Bool) (v6 : LD) (v7 v8 v9 v10 v11 v12 v13 v14 v15 v16 v17 v18 v19 : Bool) (v20 : LD) (v21 : Bool) (v22 : LD) : Option (Ty13) := F47x0 N v0 v1 v2 v3 v4 v5 v6 v7 v8 v9 v10 v11 v12 v13 v14 v15 v16 v17 v18 v19 v20 v21 v22 (fun p => some p)
theorem bind47x0 (N : Nat) {R : Type} (v0 v1 v2 : Int) (v3 : Bool) (v4 : LD) (v5 : Bool) (v6 : LD) (v7 v8 v9 v10 v11 v12 v13 v14 v15 v16 v17 v18 v19 : Bool) (v20 : LD) (v21 : Bool) (v22 : LD) (k0 : Ty13 → Option R) : F47x0 N v0 v1 v2 v3 v4 v5 v6 v7 v8 v9 v10 v11 v12 v13 v14 v15 v16 v17 v18 v19 v20 v21 v22 k0 = (G47x0 N v0 v1 v2 v3 v4 v5 v6 v7 v8 v9 v10 v11 v12 v13 v14 v15 v16 v17 v18 v19 v20 v21 v22).bind k0 := by
  unfold G47x0 F47x0
  repeat' (first | rfl | apply cond_b | (apply bnd_b; intro _))
noncomputable def J47x0 (N : Nat) (L : List Lf) {R : Type} (k0 : Ty13 → Option R) : Option R := F47x0 N (li L 0) (li L 1) (li L 2) (lb L 3) (ll L 4) (lb L 5) (ll L 6) (lb L 7) (lb L 8) (lb L 9) (lb L 10) (lb L 11) (lb L 12) (lb L 13) (lb L 14) (lb L 15) (lb L 16) (lb L 17) (lb L 18) (lb L 19) (ll L 20) (lb L 21) (ll L 22) k0
noncomputable def sh47x0 : Sh := { tmps := [(0, .g (.i .i64 :: .i .i64 :: .i .i64 :: .sl 66 :: .sl 68 :: rB 12 ([]))), (1, .c (.sl 3)), (2, .c (.sl 3))], mem := [] }
noncomputable def K47x0w0 (L : List Lf) (p : Ty13) : Res := ([.c (.p 14 0), .g [.i .i64 p.1, .i .i64 p.2.1, .i .i64 p.2.2.1]], [(12, .map 106 59 p.2.2.2), (14, .box (.i .i64 (li L 0) :: .i .i64 (li L 1) :: .i .i64 (li L 2) :: .sl 66 (lb L 3) (ll L 4) :: .sl 68 (lb L 5) (ll L 6) :: rM L 7 12 ([.sl 3 (lb L 19) (ll L 20), .sl 3 (lb L 21) (ll L 22), .m 12])))])
noncomputable def A47x0 (N : Nat) (L : List Lf) : List (Bool × Res) := bnd (J47x0 N L (fun p => some p)) fun q => [(q.isSome, K47x0w0 L (q.getD default))]
theorem raw47x0 (N : Nat) (L : List Lf) : (body Try.prog (T78x1 N) (h47x0s0 N) 200 47 (valsOf (ofSh sh47x0 L).tmps) (ofSh sh47x0 L).mem : Option Res) = J47x0 N L (fun p => some (K47x0w0 L p)) := by kernel_rfl
theorem ok47x0 (N : Nat) : ∀ args mem alts, spSh sh47x0 (A47x0 N) args mem = some alts → ∀ res, altK alts some = some res → CallOk Try.prog 47 args mem res :=
  spSh_law fun L x hx => callOk_of (n := 200) progOk (T78x1_ok N) (al47x0s0 N) rfl ((raw47x0 N L).trans ((bind47x0 N ..).trans (alt1 x hx)))
noncomputable def T47x0 (N : Nat) : Oracle := ext 47 (spSh sh47x0 (A47x0 N)) (T78x1 N)
theorem T47x0_ok (N : Nat) : OracleOk Try.prog (T47x0 N) := ext_ok (T78x1_ok N) (enters_of (by kernel_rfl)) (ok47x0 N)
noncomputable def rg90x2 : List (Nat × List Nat) := [(0, [1, 0, 2]), (1, [0, 4, 2, 6]), (2, [8, 6, 0, 7, 2, 4]), (3, [6]), (4, [0, 7, 6, 2, 4]), (5, [9, 6, 0, 2, 4]), (6, [9, 6]), (7, [9, 0, 2, 4, 6]), (8, [4, 0, 2, 9, 6]), (9, [9, 6]), (10, [9, 6])]
noncomputable def hd90x2 : Hints := [(25, [4, 0, 2, 9, 6], [11, 8, 6, 1, 0], []), (29, [9, 6, 70], [11, 8, 0, 1], [])]
noncomputable def h90x2s0 (N : Nat) : Hint := { loops := hd90x2, regs := rg90x2, los := [] }
theorem al90x2s0 (N : Nat) : AllCuts Try.prog (h90x2s0 N).los 2 90 := AllCuts.nil
noncomputable def F90x2x25 (N : Nat) {R : Type} (w0 : Int) (w21 w23 : LD) (w25 : Int) (k0 : Bool → Option R) : Option R :=
  bif (decide (w25 ≥ (w21.length : Int))) then
    bif (decide (w25 < (w23.length : Int))) then
      bif (inB w25 w23.length) then
        k0 ((w23.getD w25.toNat (.i 0)).toI != w0)
      else
        none
    else
      k0 false
  else
    k0 false
noncomputable def G90x2x25 (N : Nat) (w0 : Int) (w21 w23 : LD) (w25 : Int) : Option (Bool) := F90x2x25 N w0 w21 w23 w25 (fun p => some p)
theorem bind90x2x25 (N : Nat) {R : Type} (w0 : Int) (w21 w23 : LD) (w25 : Int) (k0 : Bool → Option R) : F90x2x25 N w0 w21 w23 w25 k0 = (G90x2x25 N w0 w21 w23 w25).bind k0 := by
  unfold G90x2x25 F90x2x25
  repeat' (first | rfl | apply cond_b | (apply bnd_b; intro _))
noncomputable def J90x2x25 (N : Nat) (L : List Lf) {R : Type} (k0 : Bool → Option R) : Option R := F90x2x25 N (li L 0) (ll L 21) (ll L 23) (li L 25) k0
noncomputable def sh90x2x25 : Sh := { tmps := [(0, .c (.p 0 0)), (2, .c (.i .i64)), (4, .c (.p 6 0)), (6, .c (.p 8 0)), (9, .c (.p 11 0))], mem := [(0, .box (.i .i64 :: .i .i64 :: .i .i64 :: .sl 66 :: .sl 68 :: rB 12 ([.sl 3, .sl 3, .m 1]))), (1, .map 106 59), (6, .box (rI 20 ([]))), (8, .box ([.i .i64, .i .i64, .i .i64])), (11, .box ([.i .i64, .i .i64, .i .i64]))] }
noncomputable def K90x2x25w0 (L : List Lf) (p : Bool) : Ex × St := (.normal, ⟨[(6, .c (.p 8 0)), (9, .c (.p 11 0)), (70, .c (.b p))], [(0, .box (.i .i64 (li L 1) :: .i .i64 (li L 2) :: .i .i64 (li L 3) :: .sl 66 (lb L 4) (ll L 5) :: .sl 68 (lb L 6) (ll L 7) :: rM L 8 12 ([.sl 3 (lb L 20) (ll L 21), .sl 3 (lb L 22) (ll L 23), .m 1]))), (1, .map 106 59 (lm L 24)), (8, .box [.i .i64 (li L 45), .i .i64 (li L 46), .i .i64 (li L 47)]), (11, .box [.i .i64 (li L 48), .i .i64 (li L 49), .i .i64 (li L 50)])]⟩)
noncomputable def A90x2x25 (N : Nat) (L : List Lf) : List (Bool × (Ex × St)) := bnd (J90x2x25 N L (fun p => some p)) fun q => [(q.isSome, K90x2x25w0 L (q.getD default))]
theorem raw90x2x25 (N : Nat) (L : List Lf) : (exec Try.prog (T47x0 N) (h90x2s0 N) 2 100 (piece Try.prog 90 25) (ofSh sh90x2x25 L) (fun e st => some (e, cutSt [9, 6, 70] [11, 8, 0, 1] st)) : Option (Ex × St)) = J90x2x25 N L (fun p => some (K90x2x25w0 L p)) := by kernel_rfl
theorem one90x2x25 : oneB Try.prog 90 25 = true := by kernel_rfl
theorem law90x2x25 (N : Nat) : CutLaw Try.prog 2 (piece Try.prog 90 25) (loSh sh90x2x25 (A90x2x25 N)) :=
  law_sh progOk (T47x0_ok N) (al90x2s0 N) one90x2x25 fun L x hx => (raw90x2x25 N L).trans ((bind90x2x25 N ..).trans (alt1 x hx))
noncomputable def h90x2s1 (N : Nat) : Hint := { (h90x2s0 N) with los := (25, loSh sh90x2x25 (A90x2x25 N)) :: (h90x2s0 N).los }
theorem al90x2s1 (N : Nat) : AllCuts Try.prog (h90x2s1 N).los 2 90 := AllCuts.cons (al90x2s0 N) one90x2x25 (law90x2x25 N)
noncomputable def F90x2x29 (N : Nat) {R : Type} (w0 : Bool) (w29 : Int) (k0 : Int → R) : R :=
  bif w0 then
    k0 (IntKind.wrap .i64 (w29 + 1))
  else
    k0 w29
noncomputable def V90x2x29 (N : Nat) (w0 : Bool) (w29 : Int) : Int := F90x2x29 N w0 w29 (fun p => p)
theorem tot90x2x29 (N : Nat) {R : Type} (w0 : Bool) (w29 : Int) (k0 : Int → R) : F90x2x29 N w0 w29 k0 = k0 (V90x2x29 N w0 w29) := by
  unfold V90x2x29 F90x2x29
  repeat' (first | rfl | apply cond_k | (apply bnd_k; intro _))
noncomputable def sh90x2x29 : Sh := { tmps := [(6, .c (.p 8 0)), (9, .c (.p 11 0)), (70, .c (.b))], mem := [(0, .box (.i .i64 :: .i .i64 :: .i .i64 :: .sl 66 :: .sl 68 :: rB 12 ([.sl 3, .sl 3, .m 1]))), (1, .map 106 59), (8, .box ([.i .i64, .i .i64, .i .i64])), (11, .box ([.i .i64, .i .i64, .i .i64]))] }
noncomputable def K90x2x29w0 (L : List Lf) (p : Int) : Ex × St := (.normal, ⟨[(6, .c (.p 8 0)), (9, .c (.p 11 0))], [(0, .box (.i .i64 (li L 1) :: .i .i64 (li L 2) :: .i .i64 (li L 3) :: .sl 66 (lb L 4) (ll L 5) :: .sl 68 (lb L 6) (ll L 7) :: rM L 8 12 ([.sl 3 (lb L 20) (ll L 21), .sl 3 (lb L 22) (ll L 23), .m 1]))), (1, .map 106 59 (lm L 24)), (8, .box [.i .i64 (li L 25), .i .i64 (li L 26), .i .i64 (li L 27)]), (11, .box [.i .i64 (li L 28), .i .i64 p, .i .i64 (li L 30)])]⟩)
noncomputable def A90x2x29 (N : Nat) (L : List Lf) : List (Bool × (Ex × St)) := bnd (F90x2x29 N (lb L 0) (li L 29) (fun p => p)) fun q => [(true, K90x2x29w0 L q)]
theorem raw90x2x29 (N : Nat) (L : List Lf) : (exec Try.prog (T47x0 N) (h90x2s1 N) 2 100 (piece Try.prog 90 29) (ofSh sh90x2x29 L) (fun e st => some (e, cutSt [9, 6] [11, 8, 0, 1] st)) : Option (Ex × St)) = F90x2x29 N (lb L 0) (li L 29) (fun p => some (K90x2x29w0 L p)) := by kernel_rfl
theorem one90x2x29 : oneB Try.prog 90 29 = true := by kernel_rfl
theorem law90x2x29 (N : Nat) : CutLaw Try.prog 2 (piece Try.prog 90 29) (loSh sh90x2x29 (A90x2x29 N)) :=
  law_sh progOk (T47x0_ok N) (al90x2s1 N) one90x2x29 fun L x hx => (raw90x2x29 N L).trans ((tot90x2x29 N ..).trans (alt0 _ _ hx))
noncomputable def h90x2s2 (N : Nat) : Hint := { (h90x2s1 N) with los := (29, loSh sh90x2x29 (A90x2x29 N)) :: (h90x2s1 N).los }
theorem al90x2s2 (N : Nat) : AllCuts Try.prog (h90x2s2 N).los 2 90 := AllCuts.cons (al90x2s1 N) one90x2x29 (law90x2x29 N)
noncomputable def F90x2 (N : Nat) {R : Type} (v0 v1 v2 v3 v4 v5 v6 v7 v8 v9 v10 v11 v12 v13 v14 v15 v16 v17 v18 v19 v20 v21 v22 v23 : Int) (v24 : Bool) (v25 : LD) (v26 : Bool) (v27 : LD) (v28 v29 v30 v31 v32 v33 v34 v35 v36 v37 v38 v39 v40 : Bool) (v41 : LD) (v42 : Bool) (v43 : LD) (v44 : (List (D × D))) (k0 : Ty13 → Option R) : Option R :=
  bnd (G88x0 N v0 v1 v2 v3 v4 v5 v6 v7 v8 v9 v10 v11 v12 v13 v14 v15 v16 v17 v18 v19 v20 v21 v22 v25 v27 v28 v29 v30 v31 v32 v33 v34 v35 v36 v37 v38 v39) fun y0 =>
  bif y0.isSome then
    bnd (y0.getD default).2.2.2.2.2.2.2.2.2.2.2.2.2.2.2.2.2.2.1 fun y1 =>
    bnd (y0.getD default).2.2.2.2.2.2.2.2.2.2.2.2.2.2.2.2.2.2.2.1 fun y2 =>
    bnd (y0.getD default).2.2.2.2.2.2.2.2.2.2.2.2.2.2.2.2.2.2.2.2 fun y3 =>
    bif (!y3) then
      k0 (0, 0, 0, v44)
    else
      bnd (R78x1 N N (y0.getD default).1 (y0.getD default).2.1 (y0.getD default).2.2.1 (y0.getD default).2.2.2.1 (y0.getD default).2.2.2.2.1 (y0.getD default).2.2.2.2.2.1 (y0.getD default).2.2.2.2.2.2.1 (y0.getD default).2.2.2.2.2.2.2.1 (y0.getD default).2.2.2.2.2.2.2.2.1 (y0.getD default).2.2.2.2.2.2.2.2.2.1 (y0.getD default).2.2.2.2.2.2.2.2.2.2.1 (y0.getD default).2.2.2.2.2.2.2.2.2.2.2.1 (y0.getD default).2.2.2.2.2.2.2.2.2.2.2.2.1 (y0.getD default).2.2.2.2.2.2.2.2.2.2.2.2.2.1 (y0.getD default).2.2.2.2.2.2.2.2.2.2.2.2.2.2.1 (y0.getD default).2.2.2.2.2.2.2.2.2.2.2.2.2.2.2.1 (y0.getD default).2.2.2.2.2.2.2.2.2.2.2.2.2.2.2.2.1 (y0.getD default).2.2.2.2.2.2.2.2.2.2.2.2.2.2.2.2.2.1 y1 y2 v21 v22 v23 v24 v25 v26 v27 v28 v29 v30 v31 v32 v33 v34 v35 v36 v37 v38 v39 v40 v41 v42 v43 v44) fun y4 =>
      bif y4.isSome then
        bif ((y4.getD default).1 == 0) then
          k0 (y4.getD default)
        else
          bnd (G70x0 N v25 v20) fun y5 =>
          bif y5.isSome then
            bnd (IntKind.wrap .i64 ((y4.getD default).2.2.1 + (y5.getD default).2.2.2.1)) fun y6 =>
            bnd (G90x2x25 N v20 v41 v43 v0) fun y7 =>
            bif y7.isSome then
              bnd (V90x2x29 N (y7.getD default) (y4.getD default).2.1) fun y8 =>
              k0 ((y4.getD default).1, y8, y6, (y4.getD default).2.2.2)
            else
              none
          else
            none
      else
        none
  else
    none
noncomputable def G90x2 (N : Nat) (v0 v1 v2 v3 v4 v5 v6 v7 v8 v9 v10 v11 v12 v13 v14 v15 v16 v17 v18 v19 v20 v21 v22 v23 : Int) (v24 : Bool) (v25 : LD) (v26 : Bool) (v27 : LD) (v28 v29 v30 v31 v32 v33 v34 v35 v36 v37 v38 v39 v40 : Bool) (v41 : LD) (v42 : Bool) (v43 : LD) (v44 : (List (D × D))) : Option (Ty13) := F90x2 N v0 v1 v2 v3 v4 v5 v6 v7 v8 v9 v10 v11 v12 v13 v14 v15 v16 v17 v18 v19 v20 v21 v22 v23 v24 v25 v26 v27 v28 v29 v30 v31 v32 v33 v34 v35 v36 v37 v38 v39 v40 v41 v42 v43 v44 (fun p => some p)
theorem bind90x2 (N : Nat) {R : Type} (v0 v1 v2 v3 v4 v5 v6 v7 v8 v9 v10 v11 v12 v13 v14 v15 v16 v17 v18 v19 v20 v21 v22 v23 : Int) (v24 : Bool) (v25 : LD) (v26 : Bool) (v27 : LD) (v28 v29 v30 v31 v32 v33 v34 v35 v36 v37 v38 v39 v40 : Bool) (v41 : LD) (v42 : Bool) (v43 : LD) (v44 : (List (D × D))) (k0 : Ty13 → Option R) : F90x2 N v0 v1 v2 v3 v4 v5 v6 v7 v8 v9 v10 v11 v12 v13 v14 v15 v16 v17 v18 v19 v20 v21 v22 v23 v24 v25 v26 v27 v28 v29 v30 v31 v32 v33 v34 v35 v36 v37 v38 v39 v40 v41 v42 v43 v44 k0 = (G90x2 N v0 v1 v2 v3 v4 v5 v6 v7 v8 v9 v10 v11 v12 v13 v14 v15 v16 v17 v18 v19 v20 v21 v22 v23 v24 v25 v26 v27 v28 v29 v30 v31 v32 v33 v34 v35 v36 v37 v38 v39 v40 v41 v42 v43 v44).bind k0 := by
  unfold G90x2 F90x2
  repeat' (first | rfl | apply cond_b | (apply bnd_b; intro _))
noncomputable def J90x2 (N : Nat) (L : List Lf) {R : Type} (k0 : Ty13 → Option R) : Option R := F90x2 N (li L 0) (li L 1) (li L 2) (li L 3) (li L 4) (li L 5) (li L 6) (li L 7) (li L 8) (li L 9) (li L 10) (li L 11) (li L 12) (li L 13) (li L 14) (li L 15) (li L 16) (li L 17) (li L 18) (li L 19) (li L 20) (li L 21) (li L 22) (li L 23) (lb L 24) (ll L 25) (lb L 26) (ll L 27) (lb L 28) (lb L 29) (lb L 30) (lb L 31) (lb L 32) (lb L 33) (lb L 34) (lb L 35) (lb L 36) (lb L 37) (lb L 38) (lb L 39) (lb L 40) (ll L 41) (lb L 42) (ll L 43) (lm L 44) k0
noncomputable def sh90x2 : Sh := { tmps := [(0, .c (.p 0 0)), (1, .g (rI 20 ([]))), (2, .c (.i .i64))], mem := [(0, .box (.i .i64 :: .i .i64 :: .i .i64 :: .sl 66 :: .sl 68 :: rB 12 ([.sl 3, .sl 3, .m 1]))), (1, .map 106 59)] }
noncomputable def K90x2w0 (L : List Lf) (p : Ty13) : Res := ([.g [.i .i64 p.1, .i .i64 p.2.1, .i .i64 p.2.2.1]], [(0, .box (.i .i64 (li L 21) :: .i .i64 (li L 22) :: .i .i64 (li L 23) :: .sl 66 (lb L 24) (ll L 25) :: .sl 68 (lb L 26) (ll L 27) :: rM L 28 12 ([.sl 3 (lb L 40) (ll L 41), .sl 3 (lb L 42) (ll L 43), .m 1]))), (1, .map 106 59 p.2.2.2)])
noncomputable def A90x2 (N : Nat) (L : List Lf) : List (Bool × Res) := bnd (J90x2 N L (fun p => some p)) fun q => [(q.isSome, K90x2w0 L (q.getD default))]
theorem raw90x2 (N : Nat) (L : List Lf) : (body Try.prog (T47x0 N) (h90x2s2 N) 200 90 (valsOf (ofSh sh90x2 L).tmps) (ofSh sh90x2 L).mem : Option Res) = J90x2 N L (fun p => some (K90x2w0 L p)) := by kernel_rfl
theorem ok90x2 (N : Nat) : ∀ args mem alts, spSh sh90x2 (A90x2 N) args mem = some alts → ∀ res, altK alts some = some res → CallOk Try.prog 90 args mem res :=
  spSh_law fun L x hx => callOk_of (n := 200) progOk (T47x0_ok N) (al90x2s2 N) rfl ((raw90x2 N L).trans ((bind90x2 N ..).trans (alt1 x hx)))
noncomputable def T90x2 (N : Nat) : Oracle := ext 90 (spSh sh90x2 (A90x2 N)) (T47x0 N)
theorem T90x2_ok (N : Nat) : OracleOk Try.prog (T90x2 N) := ext_ok (T47x0_ok N) (enters_of (by kernel_rfl)) (ok90x2 N)
noncomputable def rg91x1 : List (Nat × List Nat) := [(0, [0, 1]), (1, [2, 3])]
noncomputable def hd91x1 : Hints := []
noncomputable def h91x1s0 (N : Nat) : Hint := { loops := hd91x1, regs := rg91x1, los := [] }
theorem al91x1s0 (N : Nat) : AllCuts Try.prog (h91x1s0 N).los 0 91 := AllCuts.nil
noncomputable def F91x1 (N : Nat) {R : Type} (v0 v1 v2 v3 v4 v5 : Int) (k0 : Bool → R) : R :=
  bnd (bif (decide (v0 > 0)) then (bif (bif (v3 == 0) then true else (decide (v1 < v4))) then true else (bif (v1 == v4) then (decide (v2 > v5)) else false)) else false) fun y0 =>
  k0 y0
noncomputable def V91x1 (N : Nat) (v0 v1 v2 v3 v4 v5 : Int) : Bool := F91x1 N v0 v1 v2 v3 v4 v5 (fun p => p)
theorem tot91x1 (N : Nat) {R : Type} (v0 v1 v2 v3 v4 v5 : Int) (k0 : Bool → R) : F91x1 N v0 v1 v2 v3 v4 v5 k0 = k0 (V91x1 N v0 v1 v2 v3 v4 v5) := by
  unfold V91x1 F91x1
  repeat' (first | rfl | apply cond_k | (apply bnd_k; intro _))
noncomputable def J91x1 (N : Nat) (L : List Lf) {R : Type} (k0 : Bool → R) : R := F91x1 N (li L 0) (li L 1) (li L 2) (li L 3) (li L 4) (li L 5) k0
noncomputable def sh91x1 : Sh := { tmps := [(0, .g ([.i .i64, .i .i64, .i .i64])), (1, .g ([.i .i64, .i .i64, .i .i64]))], mem := [] }
noncomputable def A91x1 (N : Nat) (L : List Lf) : List (Bool × Res) := bnd (J91x1 N L (fun p => p)) fun q => [(true, ([.c (.b q)], []))]
theorem raw91x1 (N : Nat) (L : List Lf) : (body Try.prog (T90x2 N) (h91x1s0 N) 200 91 (valsOf (ofSh sh91x1 L).tmps) (ofSh sh91x1 L).mem : Option Res) = J91x1 N L (fun p => some ([.c (.b p)], [])) := by kernel_rfl
theorem ok91x1 (N : Nat) : ∀ args mem alts, spSh sh91x1 (A91x1 N) args mem = some alts → ∀ res, altK alts some = some res → CallOk Try.prog 91 args mem res :=
  spSh_law fun L x hx => callOk_of (n := 200) progOk (T90x2_ok N) (al91x1s0 N) rfl ((raw91x1 N L).trans ((tot91x1 N ..).trans (alt0 _ _ hx)))
noncomputable def T91x1 (N : Nat) : Oracle := ext 91 (spSh sh91x1 (A91x1 N)) (T90x2 N)
theorem T91x1_ok (N : Nat) : OracleOk Try.prog (T91x1 N) := ext_ok (T90x2_ok N) (enters_of (by kernel_rfl)) (ok91x1 N)
noncomputable def rg72x0 : List (Nat × List Nat) := [(0, [0]), (1, [0]), (2, [0, 3]), (3, [4, 0, 3]), (4, [0, 4, 3]), (5, [0, 4, 5, 3]), (6, [6, 7, 0, 4, 5, 3]), (7, [8, 7, 0, 4, 5, 3]), (9, [0, 4, 8, 5, 3, 7]), (10, [9, 5, 3, 8, 0, 4, 7]), (8, [8, 7, 0, 4, 5, 3]), (11, [3, 8, 0, 4]), (12, [0, 4, 8, 3]), (13, [4, 0, 3]), (14, [65, 0, 3]), (15, [3])]
noncomputable def hd72x0 : Hints := [(9, [4, 0, 3], [6, 1, 0, 5], [3]), (21, [8, 7, 0, 4, 5, 3], [7, 6, 5, 1, 0], [3]), (31, [9, 5, 3, 8, 0, 4, 7], [11, 7, 6, 5, 1, 0], [])]
noncomputable def h72x0s0 (N : Nat) : Hint := { loops := hd72x0, regs := rg72x0, los := [] }
theorem al72x0s0 (N : Nat) : AllCuts Try.prog (h72x0s0 N).los 2 72 := AllCuts.nil
noncomputable def F72x0x31 (N : Nat) {R : Type} (w48 w49 w50 w51 w52 w53 : Int) (k0 : Bool → R) : R :=
  bif (decide (w51 > 0)) then
    bnd (V91x1 N w48 w49 w50 w51 w52 w53) fun y0 =>
    k0 (!y0)
  else
    k0 false
noncomputable def V72x0x31 (N : Nat) (w48 w49 w50 w51 w52 w53 : Int) : Bool := F72x0x31 N w48 w49 w50 w51 w52 w53 (fun p => p)
theorem tot72x0x31 (N : Nat) {R : Type} (w48 w49 w50 w51 w52 w53 : Int) (k0 : Bool → R) : F72x0x31 N w48 w49 w50 w51 w52 w53 k0 = k0 (V72x0x31 N w48 w49 w50 w51 w52 w53) := by
  unfold V72x0x31 F72x0x31
  repeat' (first | rfl | apply cond_k | (apply bnd_k; intro _))
noncomputable def J72x0x31 (N : Nat) (L : List Lf) {R : Type} (k0 : Bool → R) : R := F72x0x31 N (li L 48) (li L 49) (li L 50) (li L 51) (li L 52) (li L 53) k0
noncomputable def sh72x0x31 : Sh := { tmps := [(0, .c (.p 0 0)), (3, .c (.o 5)), (4, .c (.p 6 0)), (5, .c (.p 7 0)), (7, .c (.i .i64)), (8, .c (.i .i64)), (9, .c (.p 11 0))], mem := [(0, .box (.i .i64 :: .i .i64 :: .i .i64 :: .sl 66 :: .sl 68 :: rB 12 ([.sl 3, .sl 3, .m 1]))), (1, .map 106 59), (5, .row 3 true), (6, .box (rI 20 ([]))), (7, .box ([.i .i64, .i .i64, .i .i64])), (11, .box ([.i .i64, .i .i64, .i .i64]))] }
noncomputable def K72x0x31w0 (L : List Lf) (p : Bool) : Ex × St := (.normal, ⟨[(0, .c (.p 0 0)), (3, .c (.o 5)), (4, .c (.p 6 0)), (5, .c (.p 7 0)), (7, .c (.i .i64 (li L 0))), (8, .c (.i .i64 (li L 1))), (51, .c (.b p))], [(0, .box (.i .i64 (li L 2) :: .i .i64 (li L 3) :: .i .i64 (li L 4) :: .sl 66 (lb L 5) (ll L 6) :: .sl 68 (lb L 7) (ll L 8) :: rM L 9 12 ([.sl 3 (lb L 21) (ll L 22), .sl 3 (lb L 23) (ll L 24), .m 1]))), (1, .map 106 59 (lm L 25)), (5, .row 3 true (lb L 26) (ll L 27)), (6, .box (rL L 28 20 ([]))), (7, .box [.i .i64 (li L 48), .i .i64 (li L 49), .i .i64 (li L 50)])]⟩)
noncomputable def A72x0x31 (N : Nat) (L : List Lf) : List (Bool × (Ex × St)) := bnd (J72x0x31 N L (fun p => p)) fun q => [(true, K72x0x31w0 L q)]
theorem raw72x0x31 (N : Nat) (L : List Lf) : (exec Try.prog (T91x1 N) (h72x0s0 N) 2 100 (piece Try.prog 72 31) (ofSh sh72x0x31 L) (fun e st => some (e, cutSt [3, 8, 0, 4, 7, 5, 51] [7, 6, 5, 1, 0] st)) : Option (Ex × St)) = J72x0x31 N L (fun p => some (K72x0x31w0 L p)) := by kernel_rfl
theorem one72x0x31 : oneB Try.prog 72 31 = true := by kernel_rfl
theorem law72x0x31 (N : Nat) : CutLaw Try.prog 2 (piece Try.prog 72 31) (loSh sh72x0x31 (A72x0x31 N)) :=
  law_sh progOk (T91x1_ok N) (al72x0s0 N) one72x0x31 fun L x hx => (raw72x0x31 N L).trans ((tot72x0x31 N ..).trans (alt0 _ _ hx))
noncomputable def h72x0s1 (N : Nat) : Hint := { (h72x0s0 N) with los := (31, loSh sh72x0x31 (A72x0x31 N)) :: (h72x0s0 N).los }
theorem al72x0s1 (N : Nat) : AllCuts Try.prog (h72x0s1 N).los 2 72 := AllCuts.cons (al72x0s0 N) one72x0x31 (law72x0x31 N)
noncomputable def K72x0x21w0 (w2 w3 w4 : Int) (w5 : Bool) (w6 : LD) (w7 : Bool) (w8 : LD) (w9 w10 w11 w12 w13 w14 w15 w16 w17 w18 w19 w20 w21 : Bool) (w22 : LD) (w23 : Bool) (w24 : LD) (w26 : Bool) (w27 : LD) (w28 w29 w30 w31 w32 w33 w34 w35 w36 w37 w38 w39 w40 w41 w42 w43 w44 w45 w46 w47 : Int) (p : Int × (List (D × D))) : Ex × St := ((.exit 2), ⟨[(0, .c (.p 0 0)), (3, .c (.o 5)), (4, .c (.p 6 0)), (8, .c (.i .i64 p.1))], [(0, .box [.i .i64 w2, .i .i64 w3, .i .i64 w4, .sl 66 w5 w6, .sl 68 w7 w8, .b w9, .b w10, .b w11, .b w12, .b w13, .b w14, .b w15, .b w16, .b w17, .b w18, .b w19, .b w20, .sl 3 w21 w22, .sl 3 w23 w24, .m 1]), (1, .map 106 59 p.2), (5, .row 3 true w26 w27), (6, .box [.i .i64 w28, .i .i64 w29, .i .i64 w30, .i .i64 w31, .i .i64 w32, .i .i64 w33, .i .i64 w34, .i .i64 w35, .i .i64 w36, .i .i64 w37, .i .i64 w38, .i .i64 w39, .i .i64 w40, .i .i64 w41, .i .i64 w42, .i .i64 w43, .i .i64 w44, .i .i64 w45, .i .i64 w46, .i .i64 w47])]⟩)
noncomputable def P72x0x21 (w0 w1 w2 w3 w4 : Int) (w5 : Bool) (w6 : LD) (w7 : Bool) (w8 : LD) (w9 w10 w11 w12 w13 w14 w15 w16 w17 w18 w19 w20 w21 : Bool) (w22 : LD) (w23 : Bool) (w24 : LD) (w25 : (List (D × D))) (w26 : Bool) (w27 : LD) (w28 w29 w30 w31 w32 w33 w34 w35 w36 w37 w38 w39 w40 w41 w42 w43 w44 w45 w46 w47 w48 w49 w50 : Int) : St := ⟨[(0, .c (.p 0 0)), (3, .c (.o 5)), (4, .c (.p 6 0)), (5, .c (.p 7 0)), (7, .c (.i .i64 w0)), (8, .c (.i .i64 w1))], [(0, .box [.i .i64 w2, .i .i64 w3, .i .i64 w4, .sl 66 w5 w6, .sl 68 w7 w8, .b w9, .b w10, .b w11, .b w12, .b w13, .b w14, .b w15, .b w16, .b w17, .b w18, .b w19, .b w20, .sl 3 w21 w22, .sl 3 w23 w24, .m 1]), (1, .map 106 59 w25), (5, .row 3 true w26 w27), (6, .box [.i .i64 w28, .i .i64 w29, .i .i64 w30, .i .i64 w31, .i .i64 w32, .i .i64 w33, .i .i64 w34, .i .i64 w35, .i .i64 w36, .i .i64 w37, .i .i64 w38, .i .i64 w39, .i .i64 w40, .i .i64 w41, .i .i64 w42, .i .i64 w43, .i .i64 w44, .i .i64 w45, .i .i64 w46, .i .i64 w47]), (7, .box [.i .i64 w48, .i .i64 w49, .i .i64 w50])]⟩
noncomputable def S72x0x21 (N : Nat) {R : Type} (w0 w2 w3 w4 : Int) (w5 : Bool) (w6 : LD) (w7 : Bool) (w8 : LD) (w9 w10 w11 w12 w13 w14 w15 w16 w17 w18 w19 w20 w21 : Bool) (w22 : LD) (w23 : Bool) (w24 : LD) (w28 w29 w30 w31 w32 w33 w34 w35 w36 w37 w38 w39 w40 w41 w42 w43 w44 w45 w46 w47 w48 w49 w50 : Int) (w1 : Int) (w25 : (List (D × D))) (kr : Int → (List (D × D)) → Option R) (k0 : Int × (List (D × D)) → Option R) : Option R :=
  bif (decide (w1 < w0)) then
    bnd (G90x2 N w28 w29 w30 w31 w32 w33 w34 w35 w36 w37 w38 w39 w40 w41 w42 w43 w44 w45 w46 w47 w1 w2 w3 w4 w5 w6 w7 w8 w9 w10 w11 w12 w13 w14 w15 w16 w17 w18 w19 w20 w21 w22 w23 w24 w25) fun y0 =>
    bif y0.isSome then
      bnd (V72x0x31 N w48 w49 w50 (y0.getD default).1 (y0.getD default).2.1 (y0.getD default).2.2.1) fun y1 =>
      bif y1 then
        k0 (w1, (y0.getD default).2.2.2)
      else
        kr (IntKind.wrap .i64 (w1 + 1)) (y0.getD default).2.2.2
    else
      none
  else
    k0 (w1, w25)
theorem mono72x0x21 (N : Nat) {R : Type} (w0 w2 w3 w4 : Int) (w5 : Bool) (w6 : LD) (w7 : Bool) (w8 : LD) (w9 w10 w11 w12 w13 w14 w15 w16 w17 w18 w19 w20 w21 : Bool) (w22 : LD) (w23 : Bool) (w24 : LD) (w28 w29 w30 w31 w32 w33 w34 w35 w36 w37 w38 w39 w40 w41 w42 w43 w44 w45 w46 w47 w48 w49 w50 : Int) (w1 : Int) (w25 : (List (D × D))) {kr kr' : Int → (List (D × D)) → Option R} (k0 : Int × (List (D × D)) → Option R) {r : R} (hk : ∀ w1' w25', kr w1' w25' = some r → kr' w1' w25' = some r) : S72x0x21 N w0 w2 w3 w4 w5 w6 w7 w8 w9 w10 w11 w12 w13 w14 w15 w16 w17 w18 w19 w20 w21 w22 w23 w24 w28 w29 w30 w31 w32 w33 w34 w35 w36 w37 w38 w39 w40 w41 w42 w43 w44 w45 w46 w47 w48 w49 w50 w1 w25 kr k0 = some r → S72x0x21 N w0 w2 w3 w4 w5 w6 w7 w8 w9 w10 w11 w12 w13 w14 w15 w16 w17 w18 w19 w20 w21 w22 w23 w24 w28 w29 w30 w31 w32 w33 w34 w35 w36 w37 w38 w39 w40 w41 w42 w43 w44 w45 w46 w47 w48 w49 w50 w1 w25 kr' k0 = some r := by
  unfold S72x0x21
  repeat' (first | exact hk _ _ | exact fun h => h | apply cond_mono | (apply bnd_mono; intro _))
noncomputable def L72x0x21 (N : Nat) {R : Type} (w0 w2 w3 w4 : Int) (w5 : Bool) (w6 : LD) (w7 : Bool) (w8 : LD) (w9 w10 w11 w12 w13 w14 w15 w16 w17 w18 w19 w20 w21 : Bool) (w22 : LD) (w23 : Bool) (w24 : LD) (w28 w29 w30 w31 w32 w33 w34 w35 w36 w37 w38 w39 w40 w41 w42 w43 w44 w45 w46 w47 w48 w49 w50 : Int) : Nat → Int → (List (D × D)) → (Int × (List (D × D)) → Option R) → Option R
  | 0, _, _, _ => none
  | m + 1, w1, w25, k0 => S72x0x21 N w0 w2 w3 w4 w5 w6 w7 w8 w9 w10 w11 w12 w13 w14 w15 w16 w17 w18 w19 w20 w21 w22 w23 w24 w28 w29 w30 w31 w32 w33 w34 w35 w36 w37 w38 w39 w40 w41 w42 w43 w44 w45 w46 w47 w48 w49 w50 w1 w25 (fun w1 w25 => L72x0x21 N w0 w2 w3 w4 w5 w6 w7 w8 w9 w10 w11 w12 w13 w14 w15 w16 w17 w18 w19 w20 w21 w22 w23 w24 w28 w29 w30 w31 w32 w33 w34 w35 w36 w37 w38 w39 w40 w41 w42 w43 w44 w45 w46 w47 w48 w49 w50 m w1 w25 k0) k0
theorem lp72x0x21 : piece Try.prog 72 21 = .loop (loopB (piece Try.prog 72 21)) := by kernel_rfl
theorem nl72x0x21 (N : Nat) : lawOf (h72x0s1 N) (.loop (loopB (piece Try.prog 72 21))) = none := by kernel_rfl
theorem cl72x0x21 (N : Nat) (w0 w2 w3 w4 : Int) (w5 : Bool) (w6 : LD) (w7 : Bool) (w8 : LD) (w9 w10 w11 w12 w13 w14 w15 w16 w17 w18 w19 w20 w21 : Bool) (w22 : LD) (w23 : Bool) (w24 : LD) (w26 : Bool) (w27 : LD) (w28 w29 w30 w31 w32 w33 w34 w35 w36 w37 w38 w39 w40 w41 w42 w43 w44 w45 w46 w47 w48 w49 w50 : Int) (w1 : Int) (w25 : (List (D × D))) : clearSt Try.prog 2 (h72x0s1 N).loops 21 (P72x0x21 w0 w1 w2 w3 w4 w5 w6 w7 w8 w9 w10 w11 w12 w13 w14 w15 w16 w17 w18 w19 w20 w21 w22 w23 w24 w25 w26 w27 w28 w29 w30 w31 w32 w33 w34 w35 w36 w37 w38 w39 w40 w41 w42 w43 w44 w45 w46 w47 w48 w49 w50) = (P72x0x21 w0 w1 w2 w3 w4 w5 w6 w7 w8 w9 w10 w11 w12 w13 w14 w15 w16 w17 w18 w19 w20 w21 w22 w23 w24 w25 w26 w27 w28 w29 w30 w31 w32 w33 w34 w35 w36 w37 w38 w39 w40 w41 w42 w43 w44 w45 w46 w47 w48 w49 w50) := by kernel_rfl
end Go.Proofs.Ytefmjfcdgadggaa
