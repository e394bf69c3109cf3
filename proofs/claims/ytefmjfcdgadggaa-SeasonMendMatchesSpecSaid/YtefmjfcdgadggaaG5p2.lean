/- Functions of the program as plain Lean definitions, each with the proof that the program computes it. No condition. Printed by a program of the prover, part 2. -/
import Derived.Test.YtefmjfcdgadggaaG5p1
import Derived.KernelRfl
set_option linter.all false
set_option maxRecDepth 100000
namespace Go.Proofs.Ytefmjfcdgadggaa
open Go Go.AM
theorem step72x0x21 (N : Nat) (m : Nat) (kn : St → Option (Ex × St)) (w0 w2 w3 w4 : Int) (w5 : Bool) (w6 : LD) (w7 : Bool) (w8 : LD) (w9 w10 w11 w12 w13 w14 w15 w16 w17 w18 w19 w20 w21 : Bool) (w22 : LD) (w23 : Bool) (w24 : LD) (w26 : Bool) (w27 : LD) (w28 w29 w30 w31 w32 w33 w34 w35 w36 w37 w38 w39 w40 w41 w42 w43 w44 w45 w46 w47 w48 w49 w50 : Int) (w1 : Int) (w25 : (List (D × D))) : exec Try.prog (T91x1 N) (h72x0s1 N) 2 (m + 100) (loopB (piece Try.prog 72 21)) (P72x0x21 w0 w1 w2 w3 w4 w5 w6 w7 w8 w9 w10 w11 w12 w13 w14 w15 w16 w17 w18 w19 w20 w21 w22 w23 w24 w25 w26 w27 w28 w29 w30 w31 w32 w33 w34 w35 w36 w37 w38 w39 w40 w41 w42 w43 w44 w45 w46 w47 w48 w49 w50) (reK (fun st => kn (clearSt Try.prog 2 (h72x0s1 N).loops 21 st)) (fun e st => some (e, cutSt [2, 3, 8, 0, 4] [6, 5, 1, 0] st))) = S72x0x21 N w0 w2 w3 w4 w5 w6 w7 w8 w9 w10 w11 w12 w13 w14 w15 w16 w17 w18 w19 w20 w21 w22 w23 w24 w28 w29 w30 w31 w32 w33 w34 w35 w36 w37 w38 w39 w40 w41 w42 w43 w44 w45 w46 w47 w48 w49 w50 w1 w25 (fun w1 w25 => kn (P72x0x21 w0 w1 w2 w3 w4 w5 w6 w7 w8 w9 w10 w11 w12 w13 w14 w15 w16 w17 w18 w19 w20 w21 w22 w23 w24 w25 w26 w27 w28 w29 w30 w31 w32 w33 w34 w35 w36 w37 w38 w39 w40 w41 w42 w43 w44 w45 w46 w47 w48 w49 w50)) (fun p => some (K72x0x21w0 w2 w3 w4 w5 w6 w7 w8 w9 w10 w11 w12 w13 w14 w15 w16 w17 w18 w19 w20 w21 w22 w23 w24 w26 w27 w28 w29 w30 w31 w32 w33 w34 w35 w36 w37 w38 w39 w40 w41 w42 w43 w44 w45 w46 w47 p)) := by kernel_rfl
theorem run72x0x21 (N : Nat) (w0 w2 w3 w4 : Int) (w5 : Bool) (w6 : LD) (w7 : Bool) (w8 : LD) (w9 w10 w11 w12 w13 w14 w15 w16 w17 w18 w19 w20 w21 : Bool) (w22 : LD) (w23 : Bool) (w24 : LD) (w26 : Bool) (w27 : LD) (w28 w29 w30 w31 w32 w33 w34 w35 w36 w37 w38 w39 w40 w41 w42 w43 w44 w45 w46 w47 w48 w49 w50 : Int) : ∀ (m : Nat) (w1 : Int) (w25 : (List (D × D))) (x : Ex × St), L72x0x21 N w0 w2 w3 w4 w5 w6 w7 w8 w9 w10 w11 w12 w13 w14 w15 w16 w17 w18 w19 w20 w21 w22 w23 w24 w28 w29 w30 w31 w32 w33 w34 w35 w36 w37 w38 w39 w40 w41 w42 w43 w44 w45 w46 w47 w48 w49 w50 m w1 w25 (fun p => some (K72x0x21w0 w2 w3 w4 w5 w6 w7 w8 w9 w10 w11 w12 w13 w14 w15 w16 w17 w18 w19 w20 w21 w22 w23 w24 w26 w27 w28 w29 w30 w31 w32 w33 w34 w35 w36 w37 w38 w39 w40 w41 w42 w43 w44 w45 w46 w47 p)) = some x → exec Try.prog (T91x1 N) (h72x0s1 N) 2 (m + 101) (.loop (loopB (piece Try.prog 72 21))) (P72x0x21 w0 w1 w2 w3 w4 w5 w6 w7 w8 w9 w10 w11 w12 w13 w14 w15 w16 w17 w18 w19 w20 w21 w22 w23 w24 w25 w26 w27 w28 w29 w30 w31 w32 w33 w34 w35 w36 w37 w38 w39 w40 w41 w42 w43 w44 w45 w46 w47 w48 w49 w50) (fun e st => some (e, cutSt [2, 3, 8, 0, 4] [6, 5, 1, 0] st)) = some x := by
  intro m
  induction m with
  | zero => intro w1 w25 x h; cases h
  | succ m ih =>
    intro w1 w25 x h
    exact loop_round (n := m + 101) (nl72x0x21 N) (by kernel_rfl) (cl72x0x21 N ..) (fun kn => step72x0x21 N (m + 1) kn ..) (mono72x0x21 N _ _ _ _ _ _ _ _ _ _ _ _ _ _ _ _ _ _ _ _ _ _ _ _ _ _ _ _ _ _ _ _ _ _ _ _ _ _ _ _ _ _ _ _ _ _ _ _ _ _ (fun w1 w25 => ih w1 w25 x) h)
noncomputable def G72x0x21 (N : Nat) (w0 w2 w3 w4 : Int) (w5 : Bool) (w6 : LD) (w7 : Bool) (w8 : LD) (w9 w10 w11 w12 w13 w14 w15 w16 w17 w18 w19 w20 w21 : Bool) (w22 : LD) (w23 : Bool) (w24 : LD) (w28 w29 w30 w31 w32 w33 w34 w35 w36 w37 w38 w39 w40 w41 w42 w43 w44 w45 w46 w47 w48 w49 w50 : Int) (w1 : Int) (w25 : (List (D × D))) : Option (Int × (List (D × D))) := L72x0x21 N (R := (Int × (List (D × D)))) w0 w2 w3 w4 w5 w6 w7 w8 w9 w10 w11 w12 w13 w14 w15 w16 w17 w18 w19 w20 w21 w22 w23 w24 w28 w29 w30 w31 w32 w33 w34 w35 w36 w37 w38 w39 w40 w41 w42 w43 w44 w45 w46 w47 w48 w49 w50 N w1 w25 (fun p => some p)
theorem sb72x0x21 (N : Nat) {R A : Type} (w0 w2 w3 w4 : Int) (w5 : Bool) (w6 : LD) (w7 : Bool) (w8 : LD) (w9 w10 w11 w12 w13 w14 w15 w16 w17 w18 w19 w20 w21 : Bool) (w22 : LD) (w23 : Bool) (w24 : LD) (w28 w29 w30 w31 w32 w33 w34 w35 w36 w37 w38 w39 w40 w41 w42 w43 w44 w45 w46 w47 w48 w49 w50 : Int) (w1 : Int) (w25 : (List (D × D))) (kr : Int → (List (D × D)) → Option R) (kr' : Int → (List (D × D)) → Option A) (k0 : Int × (List (D × D)) → Option R) (j0 : Int × (List (D × D)) → Option A) (K : A → Option R) (hr : ∀ w1' w25', kr w1' w25' = (kr' w1' w25').bind K) (h0 : ∀ p, k0 p = (j0 p).bind K) : S72x0x21 N w0 w2 w3 w4 w5 w6 w7 w8 w9 w10 w11 w12 w13 w14 w15 w16 w17 w18 w19 w20 w21 w22 w23 w24 w28 w29 w30 w31 w32 w33 w34 w35 w36 w37 w38 w39 w40 w41 w42 w43 w44 w45 w46 w47 w48 w49 w50 w1 w25 kr k0 = (S72x0x21 N w0 w2 w3 w4 w5 w6 w7 w8 w9 w10 w11 w12 w13 w14 w15 w16 w17 w18 w19 w20 w21 w22 w23 w24 w28 w29 w30 w31 w32 w33 w34 w35 w36 w37 w38 w39 w40 w41 w42 w43 w44 w45 w46 w47 w48 w49 w50 w1 w25 kr' j0).bind K := by
  unfold S72x0x21
  repeat' (first | rfl | apply hr | apply h0 | apply cond_b | (apply bnd_b; intro _))
theorem lbind72x0x21 (N : Nat) {R : Type} (w0 w2 w3 w4 : Int) (w5 : Bool) (w6 : LD) (w7 : Bool) (w8 : LD) (w9 w10 w11 w12 w13 w14 w15 w16 w17 w18 w19 w20 w21 : Bool) (w22 : LD) (w23 : Bool) (w24 : LD) (w28 w29 w30 w31 w32 w33 w34 w35 w36 w37 w38 w39 w40 w41 w42 w43 w44 w45 w46 w47 w48 w49 w50 : Int) : ∀ (m : Nat) (w1 : Int) (w25 : (List (D × D))) (k0 : Int × (List (D × D)) → Option R), L72x0x21 N w0 w2 w3 w4 w5 w6 w7 w8 w9 w10 w11 w12 w13 w14 w15 w16 w17 w18 w19 w20 w21 w22 w23 w24 w28 w29 w30 w31 w32 w33 w34 w35 w36 w37 w38 w39 w40 w41 w42 w43 w44 w45 w46 w47 w48 w49 w50 m w1 w25 k0 = (L72x0x21 N (R := (Int × (List (D × D)))) w0 w2 w3 w4 w5 w6 w7 w8 w9 w10 w11 w12 w13 w14 w15 w16 w17 w18 w19 w20 w21 w22 w23 w24 w28 w29 w30 w31 w32 w33 w34 w35 w36 w37 w38 w39 w40 w41 w42 w43 w44 w45 w46 w47 w48 w49 w50 m w1 w25 (fun p => some p)).bind k0 := by
  intro m
  induction m with
  | zero => intros; rfl
  | succ m ih =>
    intro w1 w25 k0
    exact sb72x0x21 N _ _ _ _ _ _ _ _ _ _ _ _ _ _ _ _ _ _ _ _ _ _ _ _ _ _ _ _ _ _ _ _ _ _ _ _ _ _ _ _ _ _ _ _ _ _ _ _ _ _ _ _ _ _ (fun w1 w25 => ih w1 w25 k0) (fun _ => rfl)
theorem one72x0x21 : oneB Try.prog 72 21 = true := by kernel_rfl
noncomputable def sh72x0x21 : Sh := { tmps := [(0, .c (.p 0 0)), (3, .c (.o 5)), (4, .c (.p 6 0)), (5, .c (.p 7 0)), (7, .c (.i .i64)), (8, .c (.i .i64))], mem := [(0, .box (.i .i64 :: .i .i64 :: .i .i64 :: .sl 66 :: .sl 68 :: rB 12 ([.sl 3, .sl 3, .m 1]))), (1, .map 106 59), (5, .row 3 true), (6, .box (rI 20 ([]))), (7, .box ([.i .i64, .i .i64, .i .i64]))] }
noncomputable def A72x0x21 (N : Nat) (L : List Lf) : List (Bool × (Ex × St)) := bnd (G72x0x21 N (li L 0) (li L 2) (li L 3) (li L 4) (lb L 5) (ll L 6) (lb L 7) (ll L 8) (lb L 9) (lb L 10) (lb L 11) (lb L 12) (lb L 13) (lb L 14) (lb L 15) (lb L 16) (lb L 17) (lb L 18) (lb L 19) (lb L 20) (lb L 21) (ll L 22) (lb L 23) (ll L 24) (li L 28) (li L 29) (li L 30) (li L 31) (li L 32) (li L 33) (li L 34) (li L 35) (li L 36) (li L 37) (li L 38) (li L 39) (li L 40) (li L 41) (li L 42) (li L 43) (li L 44) (li L 45) (li L 46) (li L 47) (li L 48) (li L 49) (li L 50) (li L 1) (lm L 25)) fun q => [(q.isSome, K72x0x21w0 (li L 2) (li L 3) (li L 4) (lb L 5) (ll L 6) (lb L 7) (ll L 8) (lb L 9) (lb L 10) (lb L 11) (lb L 12) (lb L 13) (lb L 14) (lb L 15) (lb L 16) (lb L 17) (lb L 18) (lb L 19) (lb L 20) (lb L 21) (ll L 22) (lb L 23) (ll L 24) (lb L 26) (ll L 27) (li L 28) (li L 29) (li L 30) (li L 31) (li L 32) (li L 33) (li L 34) (li L 35) (li L 36) (li L 37) (li L 38) (li L 39) (li L 40) (li L 41) (li L 42) (li L 43) (li L 44) (li L 45) (li L 46) (li L 47) (q.getD default))]
theorem eq72x0x21 (L : List Lf) : ofSh sh72x0x21 L = (P72x0x21 (li L 0) (li L 1) (li L 2) (li L 3) (li L 4) (lb L 5) (ll L 6) (lb L 7) (ll L 8) (lb L 9) (lb L 10) (lb L 11) (lb L 12) (lb L 13) (lb L 14) (lb L 15) (lb L 16) (lb L 17) (lb L 18) (lb L 19) (lb L 20) (lb L 21) (ll L 22) (lb L 23) (ll L 24) (lm L 25) (lb L 26) (ll L 27) (li L 28) (li L 29) (li L 30) (li L 31) (li L 32) (li L 33) (li L 34) (li L 35) (li L 36) (li L 37) (li L 38) (li L 39) (li L 40) (li L 41) (li L 42) (li L 43) (li L 44) (li L 45) (li L 46) (li L 47) (li L 48) (li L 49) (li L 50)) := by kernel_rfl
theorem law72x0x21 (N : Nat) : CutLaw Try.prog 2 (piece Try.prog 72 21) (loSh sh72x0x21 (A72x0x21 N)) :=
  law_shL progOk (T91x1_ok N) (al72x0s1 N) one72x0x21 lp72x0x21 eq72x0x21 fun L x hx => run72x0x21 N _ _ _ _ _ _ _ _ _ _ _ _ _ _ _ _ _ _ _ _ _ _ _ _ _ _ _ _ _ _ _ _ _ _ _ _ _ _ _ _ _ _ _ _ _ _ _ _ _ N _ _ x ((lbind72x0x21 N _ _ _ _ _ _ _ _ _ _ _ _ _ _ _ _ _ _ _ _ _ _ _ _ _ _ _ _ _ _ _ _ _ _ _ _ _ _ _ _ _ _ _ _ _ _ _ N _ _ _).trans (alt1 x hx))
noncomputable def h72x0s2 (N : Nat) : Hint := { (h72x0s1 N) with los := (21, loSh sh72x0x21 (A72x0x21 N)) :: (h72x0s1 N).los }
theorem al72x0s2 (N : Nat) : AllCuts Try.prog (h72x0s2 N).los 2 72 := AllCuts.cons (al72x0s1 N) one72x0x21 (law72x0x21 N)
noncomputable def K72x0x9w0 (w0 w1 w2 : Int) (w3 : Bool) (w4 : LD) (w5 : Bool) (w6 : LD) (w7 w8 w9 w10 w11 w12 w13 w14 w15 w16 w17 w18 w19 : Bool) (w20 : LD) (w21 : Bool) (w22 : LD) (p : Ty14) : Ex × St := ((.exit 0), ⟨[(3, .c (.o 5))], [(0, .box [.i .i64 w0, .i .i64 w1, .i .i64 w2, .sl 66 w3 w4, .sl 68 w5 w6, .b w7, .b w8, .b w9, .b w10, .b w11, .b w12, .b w13, .b w14, .b w15, .b w16, .b w17, .b w18, .sl 3 w19 w20, .sl 3 w21 w22, .m 1]), (1, .map 106 59 p.1), (5, .row 3 true p.2.1 p.2.2)]⟩)
noncomputable def P72x0x9 (w0 w1 w2 : Int) (w3 : Bool) (w4 : LD) (w5 : Bool) (w6 : LD) (w7 w8 w9 w10 w11 w12 w13 w14 w15 w16 w17 w18 w19 : Bool) (w20 : LD) (w21 : Bool) (w22 : LD) (w23 : (List (D × D))) (w24 : Bool) (w25 : LD) (w26 w27 w28 w29 w30 w31 w32 w33 w34 w35 w36 w37 w38 w39 w40 w41 w42 w43 w44 w45 : Int) : St := ⟨[(0, .c (.p 0 0)), (3, .c (.o 5)), (4, .c (.p 6 0))], [(0, .box [.i .i64 w0, .i .i64 w1, .i .i64 w2, .sl 66 w3 w4, .sl 68 w5 w6, .b w7, .b w8, .b w9, .b w10, .b w11, .b w12, .b w13, .b w14, .b w15, .b w16, .b w17, .b w18, .sl 3 w19 w20, .sl 3 w21 w22, .m 1]), (1, .map 106 59 w23), (5, .row 3 true w24 w25), (6, .box [.i .i64 w26, .i .i64 w27, .i .i64 w28, .i .i64 w29, .i .i64 w30, .i .i64 w31, .i .i64 w32, .i .i64 w33, .i .i64 w34, .i .i64 w35, .i .i64 w36, .i .i64 w37, .i .i64 w38, .i .i64 w39, .i .i64 w40, .i .i64 w41, .i .i64 w42, .i .i64 w43, .i .i64 w44, .i .i64 w45])]⟩
noncomputable def S72x0x9 (N : Nat) {R : Type} (w0 w1 w2 : Int) (w3 : Bool) (w4 : LD) (w5 : Bool) (w6 : LD) (w7 w8 w9 w10 w11 w12 w13 w14 w15 w16 w17 w18 w19 : Bool) (w20 : LD) (w21 : Bool) (w22 : LD) (w23 : (List (D × D))) (w24 : Bool) (w25 : LD) (w26 w27 w28 w29 w30 w31 w32 w33 w34 w35 w36 w37 w38 w39 w40 w41 w42 w43 w44 w45 : Int) (kr : (List (D × D)) → Bool → LD → Int → Int → Int → Int → Int → Int → Int → Int → Int → Int → Int → Int → Int → Int → Int → Int → Int → Int → Int → Int → Option R) (k0 : Ty14 → Option R) : Option R :=
  bif (decide (w26 < w1)) then
    bnd (R78x1 N N w26 w27 w28 w29 w30 w31 w32 w33 w34 w35 w36 w37 w38 w39 w40 w41 w42 w43 w44 w45 w0 w1 w2 w3 w4 w5 w6 w7 w8 w9 w10 w11 w12 w13 w14 w15 w16 w17 w18 w19 w20 w21 w22 w23) fun y0 =>
    bif y0.isSome then
      bnd (G89x0 N w26 w4 w20) fun y1 =>
      bif y1.isSome then
        bnd (G72x0x21 N (y1.getD default).2 w0 w1 w2 w3 w4 w5 w6 w7 w8 w9 w10 w11 w12 w13 w14 w15 w16 w17 w18 w19 w20 w21 w22 w26 w27 w28 w29 w30 w31 w32 w33 w34 w35 w36 w37 w38 w39 w40 w41 w42 w43 w44 w45 (y0.getD default).1 (y0.getD default).2.1 (y0.getD default).2.2.1 (y1.getD default).1 (y0.getD default).2.2.2) fun y2 =>
        bif y2.isSome then
          bif (decide ((w25.length + 1) * 8 ≤ room) && decide ((w25.length + 1) ≤ strMax)) then
            bnd (G88x0 N w26 w27 w28 w29 w30 w31 w32 w33 w34 w35 w36 w37 w38 w39 w40 w41 w42 w43 w44 w45 (y2.getD default).1 w0 w1 w4 w6 w7 w8 w9 w10 w11 w12 w13 w14 w15 w16 w17 w18) fun y3 =>
            bif y3.isSome then
              bnd (y3.getD default).2.2.2.2.2.2.2.2.2.2.2.2.2.2.2.2.2.2.1 fun y4 =>
              bnd (y3.getD default).2.2.2.2.2.2.2.2.2.2.2.2.2.2.2.2.2.2.2.1 fun y5 =>
              bnd (y3.getD default).2.2.2.2.2.2.2.2.2.2.2.2.2.2.2.2.2.2.2.2 fun y6 =>
              kr (y2.getD default).2 false (w25 ++ [(.i (y2.getD default).1)]) (y3.getD default).1 (y3.getD default).2.1 (y3.getD default).2.2.1 (y3.getD default).2.2.2.1 (y3.getD default).2.2.2.2.1 (y3.getD default).2.2.2.2.2.1 (y3.getD default).2.2.2.2.2.2.1 (y3.getD default).2.2.2.2.2.2.2.1 (y3.getD default).2.2.2.2.2.2.2.2.1 (y3.getD default).2.2.2.2.2.2.2.2.2.1 (y3.getD default).2.2.2.2.2.2.2.2.2.2.1 (y3.getD default).2.2.2.2.2.2.2.2.2.2.2.1 (y3.getD default).2.2.2.2.2.2.2.2.2.2.2.2.1 (y3.getD default).2.2.2.2.2.2.2.2.2.2.2.2.2.1 (y3.getD default).2.2.2.2.2.2.2.2.2.2.2.2.2.2.1 (y3.getD default).2.2.2.2.2.2.2.2.2.2.2.2.2.2.2.1 (y3.getD default).2.2.2.2.2.2.2.2.2.2.2.2.2.2.2.2.1 (y3.getD default).2.2.2.2.2.2.2.2.2.2.2.2.2.2.2.2.2.1 y4 y5
            else
              none
          else
            none
        else
          none
      else
        none
    else
      none
  else
    k0 (w23, w24, w25)
theorem mono72x0x9 (N : Nat) {R : Type} (w0 w1 w2 : Int) (w3 : Bool) (w4 : LD) (w5 : Bool) (w6 : LD) (w7 w8 w9 w10 w11 w12 w13 w14 w15 w16 w17 w18 w19 : Bool) (w20 : LD) (w21 : Bool) (w22 : LD) (w23 : (List (D × D))) (w24 : Bool) (w25 : LD) (w26 w27 w28 w29 w30 w31 w32 w33 w34 w35 w36 w37 w38 w39 w40 w41 w42 w43 w44 w45 : Int) {kr kr' : (List (D × D)) → Bool → LD → Int → Int → Int → Int → Int → Int → Int → Int → Int → Int → Int → Int → Int → Int → Int → Int → Int → Int → Int → Int → Option R} (k0 : Ty14 → Option R) {r : R} (hk : ∀ w23' w24' w25' w26' w27' w28' w29' w30' w31' w32' w33' w34' w35' w36' w37' w38' w39' w40' w41' w42' w43' w44' w45', kr w23' w24' w25' w26' w27' w28' w29' w30' w31' w32' w33' w34' w35' w36' w37' w38' w39' w40' w41' w42' w43' w44' w45' = some r → kr' w23' w24' w25' w26' w27' w28' w29' w30' w31' w32' w33' w34' w35' w36' w37' w38' w39' w40' w41' w42' w43' w44' w45' = some r) : S72x0x9 N w0 w1 w2 w3 w4 w5 w6 w7 w8 w9 w10 w11 w12 w13 w14 w15 w16 w17 w18 w19 w20 w21 w22 w23 w24 w25 w26 w27 w28 w29 w30 w31 w32 w33 w34 w35 w36 w37 w38 w39 w40 w41 w42 w43 w44 w45 kr k0 = some r → S72x0x9 N w0 w1 w2 w3 w4 w5 w6 w7 w8 w9 w10 w11 w12 w13 w14 w15 w16 w17 w18 w19 w20 w21 w22 w23 w24 w25 w26 w27 w28 w29 w30 w31 w32 w33 w34 w35 w36 w37 w38 w39 w40 w41 w42 w43 w44 w45 kr' k0 = some r := by
  unfold S72x0x9
  repeat' (first | exact hk _ _ _ _ _ _ _ _ _ _ _ _ _ _ _ _ _ _ _ _ _ _ _ | exact fun h => h | apply cond_mono | (apply bnd_mono; intro _))
noncomputable def L72x0x9 (N : Nat) {R : Type} (w0 w1 w2 : Int) (w3 : Bool) (w4 : LD) (w5 : Bool) (w6 : LD) (w7 w8 w9 w10 w11 w12 w13 w14 w15 w16 w17 w18 w19 : Bool) (w20 : LD) (w21 : Bool) (w22 : LD) : Nat → (List (D × D)) → Bool → LD → Int → Int → Int → Int → Int → Int → Int → Int → Int → Int → Int → Int → Int → Int → Int → Int → Int → Int → Int → Int → (Ty14 → Option R) → Option R
  | 0, _, _, _, _, _, _, _, _, _, _, _, _, _, _, _, _, _, _, _, _, _, _, _, _ => none
  | m + 1, w23, w24, w25, w26, w27, w28, w29, w30, w31, w32, w33, w34, w35, w36, w37, w38, w39, w40, w41, w42, w43, w44, w45, k0 => S72x0x9 N w0 w1 w2 w3 w4 w5 w6 w7 w8 w9 w10 w11 w12 w13 w14 w15 w16 w17 w18 w19 w20 w21 w22 w23 w24 w25 w26 w27 w28 w29 w30 w31 w32 w33 w34 w35 w36 w37 w38 w39 w40 w41 w42 w43 w44 w45 (fun w23 w24 w25 w26 w27 w28 w29 w30 w31 w32 w33 w34 w35 w36 w37 w38 w39 w40 w41 w42 w43 w44 w45 => L72x0x9 N w0 w1 w2 w3 w4 w5 w6 w7 w8 w9 w10 w11 w12 w13 w14 w15 w16 w17 w18 w19 w20 w21 w22 m w23 w24 w25 w26 w27 w28 w29 w30 w31 w32 w33 w34 w35 w36 w37 w38 w39 w40 w41 w42 w43 w44 w45 k0) k0
theorem lp72x0x9 : piece Try.prog 72 9 = .loop (loopB (piece Try.prog 72 9)) := by kernel_rfl
theorem nl72x0x9 (N : Nat) : lawOf (h72x0s2 N) (.loop (loopB (piece Try.prog 72 9))) = none := by kernel_rfl
theorem cl72x0x9 (N : Nat) (w0 w1 w2 : Int) (w3 : Bool) (w4 : LD) (w5 : Bool) (w6 : LD) (w7 w8 w9 w10 w11 w12 w13 w14 w15 w16 w17 w18 w19 : Bool) (w20 : LD) (w21 : Bool) (w22 : LD) (w23 : (List (D × D))) (w24 : Bool) (w25 : LD) (w26 w27 w28 w29 w30 w31 w32 w33 w34 w35 w36 w37 w38 w39 w40 w41 w42 w43 w44 w45 : Int) : clearSt Try.prog 2 (h72x0s2 N).loops 9 (P72x0x9 w0 w1 w2 w3 w4 w5 w6 w7 w8 w9 w10 w11 w12 w13 w14 w15 w16 w17 w18 w19 w20 w21 w22 w23 w24 w25 w26 w27 w28 w29 w30 w31 w32 w33 w34 w35 w36 w37 w38 w39 w40 w41 w42 w43 w44 w45) = (P72x0x9 w0 w1 w2 w3 w4 w5 w6 w7 w8 w9 w10 w11 w12 w13 w14 w15 w16 w17 w18 w19 w20 w21 w22 w23 w24 w25 w26 w27 w28 w29 w30 w31 w32 w33 w34 w35 w36 w37 w38 w39 w40 w41 w42 w43 w44 w45) := by kernel_rfl
theorem step72x0x9 (N : Nat) (m : Nat) (kn : St → Option (Ex × St)) (w0 w1 w2 : Int) (w3 : Bool) (w4 : LD) (w5 : Bool) (w6 : LD) (w7 w8 w9 w10 w11 w12 w13 w14 w15 w16 w17 w18 w19 : Bool) (w20 : LD) (w21 : Bool) (w22 : LD) (w23 : (List (D × D))) (w24 : Bool) (w25 : LD) (w26 w27 w28 w29 w30 w31 w32 w33 w34 w35 w36 w37 w38 w39 w40 w41 w42 w43 w44 w45 : Int) : exec Try.prog (T91x1 N) (h72x0s2 N) 2 (m + 100) (loopB (piece Try.prog 72 9)) (P72x0x9 w0 w1 w2 w3 w4 w5 w6 w7 w8 w9 w10 w11 w12 w13 w14 w15 w16 w17 w18 w19 w20 w21 w22 w23 w24 w25 w26 w27 w28 w29 w30 w31 w32 w33 w34 w35 w36 w37 w38 w39 w40 w41 w42 w43 w44 w45) (reK (fun st => kn (clearSt Try.prog 2 (h72x0s2 N).loops 9 st)) (fun e st => some (e, cutSt [2, 3] [5, 0, 1] st))) = S72x0x9 N w0 w1 w2 w3 w4 w5 w6 w7 w8 w9 w10 w11 w12 w13 w14 w15 w16 w17 w18 w19 w20 w21 w22 w23 w24 w25 w26 w27 w28 w29 w30 w31 w32 w33 w34 w35 w36 w37 w38 w39 w40 w41 w42 w43 w44 w45 (fun w23 w24 w25 w26 w27 w28 w29 w30 w31 w32 w33 w34 w35 w36 w37 w38 w39 w40 w41 w42 w43 w44 w45 => kn (P72x0x9 w0 w1 w2 w3 w4 w5 w6 w7 w8 w9 w10 w11 w12 w13 w14 w15 w16 w17 w18 w19 w20 w21 w22 w23 w24 w25 w26 w27 w28 w29 w30 w31 w32 w33 w34 w35 w36 w37 w38 w39 w40 w41 w42 w43 w44 w45)) (fun p => some (K72x0x9w0 w0 w1 w2 w3 w4 w5 w6 w7 w8 w9 w10 w11 w12 w13 w14 w15 w16 w17 w18 w19 w20 w21 w22 p)) := by kernel_rfl
theorem run72x0x9 (N : Nat) (w0 w1 w2 : Int) (w3 : Bool) (w4 : LD) (w5 : Bool) (w6 : LD) (w7 w8 w9 w10 w11 w12 w13 w14 w15 w16 w17 w18 w19 : Bool) (w20 : LD) (w21 : Bool) (w22 : LD) : ∀ (m : Nat) (w23 : (List (D × D))) (w24 : Bool) (w25 : LD) (w26 w27 w28 w29 w30 w31 w32 w33 w34 w35 w36 w37 w38 w39 w40 w41 w42 w43 w44 w45 : Int) (x : Ex × St), L72x0x9 N w0 w1 w2 w3 w4 w5 w6 w7 w8 w9 w10 w11 w12 w13 w14 w15 w16 w17 w18 w19 w20 w21 w22 m w23 w24 w25 w26 w27 w28 w29 w30 w31 w32 w33 w34 w35 w36 w37 w38 w39 w40 w41 w42 w43 w44 w45 (fun p => some (K72x0x9w0 w0 w1 w2 w3 w4 w5 w6 w7 w8 w9 w10 w11 w12 w13 w14 w15 w16 w17 w18 w19 w20 w21 w22 p)) = some x → exec Try.prog (T91x1 N) (h72x0s2 N) 2 (m + 101) (.loop (loopB (piece Try.prog 72 9))) (P72x0x9 w0 w1 w2 w3 w4 w5 w6 w7 w8 w9 w10 w11 w12 w13 w14 w15 w16 w17 w18 w19 w20 w21 w22 w23 w24 w25 w26 w27 w28 w29 w30 w31 w32 w33 w34 w35 w36 w37 w38 w39 w40 w41 w42 w43 w44 w45) (fun e st => some (e, cutSt [2, 3] [5, 0, 1] st)) = some x := by
  intro m
  induction m with
  | zero => intro w23 w24 w25 w26 w27 w28 w29 w30 w31 w32 w33 w34 w35 w36 w37 w38 w39 w40 w41 w42 w43 w44 w45 x h; cases h
  | succ m ih =>
    intro w23 w24 w25 w26 w27 w28 w29 w30 w31 w32 w33 w34 w35 w36 w37 w38 w39 w40 w41 w42 w43 w44 w45 x h
    exact loop_round (n := m + 101) (nl72x0x9 N) (by kernel_rfl) (cl72x0x9 N ..) (fun kn => step72x0x9 N (m + 1) kn ..) (mono72x0x9 N _ _ _ _ _ _ _ _ _ _ _ _ _ _ _ _ _ _ _ _ _ _ _ _ _ _ _ _ _ _ _ _ _ _ _ _ _ _ _ _ _ _ _ _ _ _ _ (fun w23 w24 w25 w26 w27 w28 w29 w30 w31 w32 w33 w34 w35 w36 w37 w38 w39 w40 w41 w42 w43 w44 w45 => ih w23 w24 w25 w26 w27 w28 w29 w30 w31 w32 w33 w34 w35 w36 w37 w38 w39 w40 w41 w42 w43 w44 w45 x) h)
noncomputable def G72x0x9 (N : Nat) (w0 w1 w2 : Int) (w3 : Bool) (w4 : LD) (w5 : Bool) (w6 : LD) (w7 w8 w9 w10 w11 w12 w13 w14 w15 w16 w17 w18 w19 : Bool) (w20 : LD) (w21 : Bool) (w22 : LD) (w23 : (List (D × D))) (w24 : Bool) (w25 : LD) (w26 w27 w28 w29 w30 w31 w32 w33 w34 w35 w36 w37 w38 w39 w40 w41 w42 w43 w44 w45 : Int) : Option (Ty14) := L72x0x9 N (R := (Ty14)) w0 w1 w2 w3 w4 w5 w6 w7 w8 w9 w10 w11 w12 w13 w14 w15 w16 w17 w18 w19 w20 w21 w22 N w23 w24 w25 w26 w27 w28 w29 w30 w31 w32 w33 w34 w35 w36 w37 w38 w39 w40 w41 w42 w43 w44 w45 (fun p => some p)
theorem sb72x0x9 (N : Nat) {R A : Type} (w0 w1 w2 : Int) (w3 : Bool) (w4 : LD) (w5 : Bool) (w6 : LD) (w7 w8 w9 w10 w11 w12 w13 w14 w15 w16 w17 w18 w19 : Bool) (w20 : LD) (w21 : Bool) (w22 : LD) (w23 : (List (D × D))) (w24 : Bool) (w25 : LD) (w26 w27 w28 w29 w30 w31 w32 w33 w34 w35 w36 w37 w38 w39 w40 w41 w42 w43 w44 w45 : Int) (kr : (List (D × D)) → Bool → LD → Int → Int → Int → Int → Int → Int → Int → Int → Int → Int → Int → Int → Int → Int → Int → Int → Int → Int → Int → Int → Option R) (kr' : (List (D × D)) → Bool → LD → Int → Int → Int → Int → Int → Int → Int → Int → Int → Int → Int → Int → Int → Int → Int → Int → Int → Int → Int → Int → Option A) (k0 : Ty14 → Option R) (j0 : Ty14 → Option A) (K : A → Option R) (hr : ∀ w23' w24' w25' w26' w27' w28' w29' w30' w31' w32' w33' w34' w35' w36' w37' w38' w39' w40' w41' w42' w43' w44' w45', kr w23' w24' w25' w26' w27' w28' w29' w30' w31' w32' w33' w34' w35' w36' w37' w38' w39' w40' w41' w42' w43' w44' w45' = (kr' w23' w24' w25' w26' w27' w28' w29' w30' w31' w32' w33' w34' w35' w36' w37' w38' w39' w40' w41' w42' w43' w44' w45').bind K) (h0 : ∀ p, k0 p = (j0 p).bind K) : S72x0x9 N w0 w1 w2 w3 w4 w5 w6 w7 w8 w9 w10 w11 w12 w13 w14 w15 w16 w17 w18 w19 w20 w21 w22 w23 w24 w25 w26 w27 w28 w29 w30 w31 w32 w33 w34 w35 w36 w37 w38 w39 w40 w41 w42 w43 w44 w45 kr k0 = (S72x0x9 N w0 w1 w2 w3 w4 w5 w6 w7 w8 w9 w10 w11 w12 w13 w14 w15 w16 w17 w18 w19 w20 w21 w22 w23 w24 w25 w26 w27 w28 w29 w30 w31 w32 w33 w34 w35 w36 w37 w38 w39 w40 w41 w42 w43 w44 w45 kr' j0).bind K := by
  unfold S72x0x9
  repeat' (first | rfl | apply hr | apply h0 | apply cond_b | (apply bnd_b; intro _))
theorem lbind72x0x9 (N : Nat) {R : Type} (w0 w1 w2 : Int) (w3 : Bool) (w4 : LD) (w5 : Bool) (w6 : LD) (w7 w8 w9 w10 w11 w12 w13 w14 w15 w16 w17 w18 w19 : Bool) (w20 : LD) (w21 : Bool) (w22 : LD) : ∀ (m : Nat) (w23 : (List (D × D))) (w24 : Bool) (w25 : LD) (w26 w27 w28 w29 w30 w31 w32 w33 w34 w35 w36 w37 w38 w39 w40 w41 w42 w43 w44 w45 : Int) (k0 : Ty14 → Option R), L72x0x9 N w0 w1 w2 w3 w4 w5 w6 w7 w8 w9 w10 w11 w12 w13 w14 w15 w16 w17 w18 w19 w20 w21 w22 m w23 w24 w25 w26 w27 w28 w29 w30 w31 w32 w33 w34 w35 w36 w37 w38 w39 w40 w41 w42 w43 w44 w45 k0 = (L72x0x9 N (R := (Ty14)) w0 w1 w2 w3 w4 w5 w6 w7 w8 w9 w10 w11 w12 w13 w14 w15 w16 w17 w18 w19 w20 w21 w22 m w23 w24 w25 w26 w27 w28 w29 w30 w31 w32 w33 w34 w35 w36 w37 w38 w39 w40 w41 w42 w43 w44 w45 (fun p => some p)).bind k0 := by
  intro m
  induction m with
  | zero => intros; rfl
  | succ m ih =>
    intro w23 w24 w25 w26 w27 w28 w29 w30 w31 w32 w33 w34 w35 w36 w37 w38 w39 w40 w41 w42 w43 w44 w45 k0
    exact sb72x0x9 N _ _ _ _ _ _ _ _ _ _ _ _ _ _ _ _ _ _ _ _ _ _ _ _ _ _ _ _ _ _ _ _ _ _ _ _ _ _ _ _ _ _ _ _ _ _ _ _ _ _ _ (fun w23 w24 w25 w26 w27 w28 w29 w30 w31 w32 w33 w34 w35 w36 w37 w38 w39 w40 w41 w42 w43 w44 w45 => ih w23 w24 w25 w26 w27 w28 w29 w30 w31 w32 w33 w34 w35 w36 w37 w38 w39 w40 w41 w42 w43 w44 w45 k0) (fun _ => rfl)
theorem one72x0x9 : oneB Try.prog 72 9 = true := by kernel_rfl
noncomputable def sh72x0x9 : Sh := { tmps := [(0, .c (.p 0 0)), (3, .c (.o 5)), (4, .c (.p 6 0))], mem := [(0, .box (.i .i64 :: .i .i64 :: .i .i64 :: .sl 66 :: .sl 68 :: rB 12 ([.sl 3, .sl 3, .m 1]))), (1, .map 106 59), (5, .row 3 true), (6, .box (rI 20 ([])))] }
noncomputable def A72x0x9 (N : Nat) (L : List Lf) : List (Bool × (Ex × St)) := bnd (G72x0x9 N (li L 0) (li L 1) (li L 2) (lb L 3) (ll L 4) (lb L 5) (ll L 6) (lb L 7) (lb L 8) (lb L 9) (lb L 10) (lb L 11) (lb L 12) (lb L 13) (lb L 14) (lb L 15) (lb L 16) (lb L 17) (lb L 18) (lb L 19) (ll L 20) (lb L 21) (ll L 22) (lm L 23) (lb L 24) (ll L 25) (li L 26) (li L 27) (li L 28) (li L 29) (li L 30) (li L 31) (li L 32) (li L 33) (li L 34) (li L 35) (li L 36) (li L 37) (li L 38) (li L 39) (li L 40) (li L 41) (li L 42) (li L 43) (li L 44) (li L 45)) fun q => [(q.isSome, K72x0x9w0 (li L 0) (li L 1) (li L 2) (lb L 3) (ll L 4) (lb L 5) (ll L 6) (lb L 7) (lb L 8) (lb L 9) (lb L 10) (lb L 11) (lb L 12) (lb L 13) (lb L 14) (lb L 15) (lb L 16) (lb L 17) (lb L 18) (lb L 19) (ll L 20) (lb L 21) (ll L 22) (q.getD default))]
theorem eq72x0x9 (L : List Lf) : ofSh sh72x0x9 L = (P72x0x9 (li L 0) (li L 1) (li L 2) (lb L 3) (ll L 4) (lb L 5) (ll L 6) (lb L 7) (lb L 8) (lb L 9) (lb L 10) (lb L 11) (lb L 12) (lb L 13) (lb L 14) (lb L 15) (lb L 16) (lb L 17) (lb L 18) (lb L 19) (ll L 20) (lb L 21) (ll L 22) (lm L 23) (lb L 24) (ll L 25) (li L 26) (li L 27) (li L 28) (li L 29) (li L 30) (li L 31) (li L 32) (li L 33) (li L 34) (li L 35) (li L 36) (li L 37) (li L 38) (li L 39) (li L 40) (li L 41) (li L 42) (li L 43) (li L 44) (li L 45)) := by kernel_rfl
theorem law72x0x9 (N : Nat) : CutLaw Try.prog 2 (piece Try.prog 72 9) (loSh sh72x0x9 (A72x0x9 N)) :=
  law_shL progOk (T91x1_ok N) (al72x0s2 N) one72x0x9 lp72x0x9 eq72x0x9 fun L x hx => run72x0x9 N _ _ _ _ _ _ _ _ _ _ _ _ _ _ _ _ _ _ _ _ _ _ _ N _ _ _ _ _ _ _ _ _ _ _ _ _ _ _ _ _ _ _ _ _ _ _ x ((lbind72x0x9 N _ _ _ _ _ _ _ _ _ _ _ _ _ _ _ _ _ _ _ _ _ _ _ N _ _ _ _ _ _ _ _ _ _ _ _ _ _ _ _ _ _ _ _ _ _ _ _).trans (alt1 x hx))
noncomputable def h72x0s3 (N : Nat) : Hint := { (h72x0s2 N) with los := (9, loSh sh72x0x9 (A72x0x9 N)) :: (h72x0s2 N).los }
theorem al72x0s3 (N : Nat) : AllCuts Try.prog (h72x0s3 N).los 2 72 := AllCuts.cons (al72x0s2 N) one72x0x9 (law72x0x9 N)
noncomputable def F72x0 (N : Nat) {R : Type} (v0 v1 v2 : Int) (v3 : Bool) (v4 : LD) (v5 : Bool) (v6 : LD) (v7 v8 v9 v10 v11 v12 v13 v14 v15 v16 v17 v18 v19 : Bool) (v20 : LD) (v21 : Bool) (v22 : LD) (v23 : (List (D × D))) (k0 : Bool × LD × (List (D × D)) → Option R) : Option R :=
  bnd (G72x0x9 N v0 v1 v2 v3 v4 v5 v6 v7 v8 v9 v10 v11 v12 v13 v14 v15 v16 v17 v18 v19 v20 v21 v22 v23 true [] 0 0 v2 0 0 0 0 0 0 0 0 0 0 0 0 0 0 0 0 0) fun y0 =>
  bif y0.isSome then
    k0 ((y0.getD default).2.1, (y0.getD default).2.2, (y0.getD default).1)
  else
    none
noncomputable def G72x0 (N : Nat) (v0 v1 v2 : Int) (v3 : Bool) (v4 : LD) (v5 : Bool) (v6 : LD) (v7 v8 v9 v10 v11 v12 v13 v14 v15 v16 v17 v18 v19 : Bool) (v20 : LD) (v21 : Bool) (v22 : LD) (v23 : (List (D × D))) : Option (Bool × LD × (List (D × D))) := F72x0 N v0 v1 v2 v3 v4 v5 v6 v7 v8 v9 v10 v11 v12 v13 v14 v15 v16 v17 v18 v19 v20 v21 v22 v23 (fun p => some p)
theorem bind72x0 (N : Nat) {R : Type} (v0 v1 v2 : Int) (v3 : Bool) (v4 : LD) (v5 : Bool) (v6 : LD) (v7 v8 v9 v10 v11 v12 v13 v14 v15 v16 v17 v18 v19 : Bool) (v20 : LD) (v21 : Bool) (v22 : LD) (v23 : (List (D × D))) (k0 : Bool × LD × (List (D × D)) → Option R) : F72x0 N v0 v1 v2 v3 v4 v5 v6 v7 v8 v9 v10 v11 v12 v13 v14 v15 v16 v17 v18 v19 v20 v21 v22 v23 k0 = (G72x0 N v0 v1 v2 v3 v4 v5 v6 v7 v8 v9 v10 v11 v12 v13 v14 v15 v16 v17 v18 v19 v20 v21 v22 v23).bind k0 := by
  unfold G72x0 F72x0
  repeat' (first | rfl | apply cond_b | (apply bnd_b; intro _))
noncomputable def J72x0 (N : Nat) (L : List Lf) {R : Type} (k0 : Bool × LD × (List (D × D)) → Option R) : Option R := F72x0 N (li L 0) (li L 1) (li L 2) (lb L 3) (ll L 4) (lb L 5) (ll L 6) (lb L 7) (lb L 8) (lb L 9) (lb L 10) (lb L 11) (lb L 12) (lb L 13) (lb L 14) (lb L 15) (lb L 16) (lb L 17) (lb L 18) (lb L 19) (ll L 20) (lb L 21) (ll L 22) (lm L 23) k0
noncomputable def sh72x0 : Sh := { tmps := [(0, .c (.p 0 0))], mem := [(0, .box (.i .i64 :: .i .i64 :: .i .i64 :: .sl 66 :: .sl 68 :: rB 12 ([.sl 3, .sl 3, .m 1]))), (1, .map 106 59)] }
noncomputable def K72x0w0 (L : List Lf) (p : Bool × LD × (List (D × D))) : Res := ([.c (.sl 3 p.1 p.2.1)], [(0, .box (.i .i64 (li L 0) :: .i .i64 (li L 1) :: .i .i64 (li L 2) :: .sl 66 (lb L 3) (ll L 4) :: .sl 68 (lb L 5) (ll L 6) :: rM L 7 12 ([.sl 3 (lb L 19) (ll L 20), .sl 3 (lb L 21) (ll L 22), .m 1]))), (1, .map 106 59 p.2.2)])
noncomputable def A72x0 (N : Nat) (L : List Lf) : List (Bool × Res) := bnd (J72x0 N L (fun p => some p)) fun q => [(q.isSome, K72x0w0 L (q.getD default))]
theorem raw72x0 (N : Nat) (L : List Lf) : (body Try.prog (T91x1 N) (h72x0s3 N) 200 72 (valsOf (ofSh sh72x0 L).tmps) (ofSh sh72x0 L).mem : Option Res) = J72x0 N L (fun p => some (K72x0w0 L p)) := by kernel_rfl
theorem ok72x0 (N : Nat) : ∀ args mem alts, spSh sh72x0 (A72x0 N) args mem = some alts → ∀ res, altK alts some = some res → CallOk Try.prog 72 args mem res :=
  spSh_law fun L x hx => callOk_of (n := 200) progOk (T91x1_ok N) (al72x0s3 N) rfl ((raw72x0 N L).trans ((bind72x0 N ..).trans (alt1 x hx)))
noncomputable def T72x0 (N : Nat) : Oracle := ext 72 (spSh sh72x0 (A72x0 N)) (T91x1 N)
theorem T72x0_ok (N : Nat) : OracleOk Try.prog (T72x0 N) := ext_ok (T91x1_ok N) (enters_of (by kernel_rfl)) (ok72x0 N)
noncomputable def rg43x0 : List (Nat × List Nat) := [(0, [0, 1, 2]), (1, [3, 1, 2]), (2, [9, 3, 1, 2]), (3, [9]), (4, [3, 1, 2]), (5, [11, 10]), (6, []), (7, [10])]
noncomputable def hd43x0 : Hints := []
noncomputable def h43x0s0 (N : Nat) : Hint := { loops := hd43x0, regs := rg43x0, los := [] }
theorem al43x0s0 (N : Nat) : AllCuts Try.prog (h43x0s0 N).los 0 43 := AllCuts.nil
noncomputable def F43x0 (N : Nat) {R : Type} (v0 v1 v2 : Int) (v3 : Bool) (v4 : LD) (v5 : Bool) (v6 : LD) (v7 : Bool) (v8 : LD) (v9 : Bool) (v10 : LD) (k0 : Ty15 → Option R) : Option R :=
  bnd (G46x0 N v0 v1 v2 v4 v6 v8) fun y0 =>
  bif y0.isSome then
    bif ((y0.getD default) != 0) then
      k0 (true, [], false, (y0.getD default))
    else
      bnd (G47x0 N v0 v1 v2 v3 v4 v5 v6 false false false false false false false false false false false false v7 v8 v9 v10) fun y1 =>
      bif y1.isSome then
        bif ((y1.getD default).1 == 0) then
          k0 (true, [], false, 0)
        else
          bnd (G72x0 N v0 v1 v2 v3 v4 v5 v6 false false false false false false false false false false false false v7 v8 v9 v10 (y1.getD default).2.2.2) fun y2 =>
          bif y2.isSome then
            k0 ((y2.getD default).1, (y2.getD default).2.1, true, 0)
          else
            none
      else
        none
  else
    none
noncomputable def G43x0 (N : Nat) (v0 v1 v2 : Int) (v3 : Bool) (v4 : LD) (v5 : Bool) (v6 : LD) (v7 : Bool) (v8 : LD) (v9 : Bool) (v10 : LD) : Option (Ty15) := F43x0 N v0 v1 v2 v3 v4 v5 v6 v7 v8 v9 v10 (fun p => some p)
theorem bind43x0 (N : Nat) {R : Type} (v0 v1 v2 : Int) (v3 : Bool) (v4 : LD) (v5 : Bool) (v6 : LD) (v7 : Bool) (v8 : LD) (v9 : Bool) (v10 : LD) (k0 : Ty15 → Option R) : F43x0 N v0 v1 v2 v3 v4 v5 v6 v7 v8 v9 v10 k0 = (G43x0 N v0 v1 v2 v3 v4 v5 v6 v7 v8 v9 v10).bind k0 := by
  unfold G43x0 F43x0
  repeat' (first | rfl | apply cond_b | (apply bnd_b; intro _))
noncomputable def J43x0 (N : Nat) (L : List Lf) {R : Type} (k0 : Ty15 → Option R) : Option R := F43x0 N (li L 0) (li L 1) (li L 2) (lb L 3) (ll L 4) (lb L 5) (ll L 6) (lb L 7) (ll L 8) (lb L 9) (ll L 10) k0
noncomputable def sh43x0 : Sh := { tmps := [(0, .g ([.i .i64, .i .i64, .i .i64, .sl 66, .sl 68])), (1, .c (.sl 3)), (2, .c (.sl 3))], mem := [] }
noncomputable def K43x0w0 (L : List Lf) (p : Ty15) : Res := ([.c (.sl 3 p.1 p.2.1), .c (.b p.2.2.1), .c (.i .i64 p.2.2.2)], [])
noncomputable def A43x0 (N : Nat) (L : List Lf) : List (Bool × Res) := bnd (J43x0 N L (fun p => some p)) fun q => [(q.isSome, K43x0w0 L (q.getD default))]
theorem raw43x0 (N : Nat) (L : List Lf) : (body Try.prog (T72x0 N) (h43x0s0 N) 200 43 (valsOf (ofSh sh43x0 L).tmps) (ofSh sh43x0 L).mem : Option Res) = J43x0 N L (fun p => some (K43x0w0 L p)) := by kernel_rfl
theorem ok43x0 (N : Nat) : ∀ args mem alts, spSh sh43x0 (A43x0 N) args mem = some alts → ∀ res, altK alts some = some res → CallOk Try.prog 43 args mem res :=
  spSh_law fun L x hx => callOk_of (n := 200) progOk (T72x0_ok N) (al43x0s0 N) rfl ((raw43x0 N L).trans ((bind43x0 N ..).trans (alt1 x hx)))
noncomputable def T43x0 (N : Nat) : Oracle := ext 43 (spSh sh43x0 (A43x0 N)) (T72x0 N)
theorem T43x0_ok (N : Nat) : OracleOk Try.prog (T43x0 N) := ext_ok (T72x0_ok N) (enters_of (by kernel_rfl)) (ok43x0 N)
noncomputable def rg21x0 : List (Nat × List Nat) := [(0, [0, 1, 2]), (1, [3, 1, 2]), (2, [9, 3, 2, 1]), (3, [9]), (4, [3, 2, 1])]
noncomputable def hd21x0 : Hints := []
noncomputable def h21x0s0 (N : Nat) : Hint := { loops := hd21x0, regs := rg21x0, los := [] }
theorem al21x0s0 (N : Nat) : AllCuts Try.prog (h21x0s0 N).los 0 21 := AllCuts.nil
noncomputable def F21x0 (N : Nat) {R : Type} (v0 v1 v2 : Int) (v3 : Bool) (v4 : LD) (v5 : Bool) (v6 : LD) (v7 : Bool) (v8 : LD) (v9 : Bool) (v10 : LD) (k0 : Ty15 → Option R) : Option R :=
  bnd (G57x0 N v0 v1 v2 v4 v6 v8) fun y0 =>
  bif y0.isSome then
    bif ((y0.getD default) != 0) then
      k0 (true, [], false, (y0.getD default))
    else
      bnd (G43x0 N v0 v1 v2 v3 v4 v5 v6 v9 v10 v7 v8) fun y1 =>
      bif y1.isSome then
        k0 (y1.getD default)
      else
        none
  else
    none
noncomputable def G21x0 (N : Nat) (v0 v1 v2 : Int) (v3 : Bool) (v4 : LD) (v5 : Bool) (v6 : LD) (v7 : Bool) (v8 : LD) (v9 : Bool) (v10 : LD) : Option (Ty15) := F21x0 N v0 v1 v2 v3 v4 v5 v6 v7 v8 v9 v10 (fun p => some p)
theorem bind21x0 (N : Nat) {R : Type} (v0 v1 v2 : Int) (v3 : Bool) (v4 : LD) (v5 : Bool) (v6 : LD) (v7 : Bool) (v8 : LD) (v9 : Bool) (v10 : LD) (k0 : Ty15 → Option R) : F21x0 N v0 v1 v2 v3 v4 v5 v6 v7 v8 v9 v10 k0 = (G21x0 N v0 v1 v2 v3 v4 v5 v6 v7 v8 v9 v10).bind k0 := by
  unfold G21x0 F21x0
  repeat' (first | rfl | apply cond_b | (apply bnd_b; intro _))
noncomputable def J21x0 (N : Nat) (L : List Lf) {R : Type} (k0 : Ty15 → Option R) : Option R := F21x0 N (li L 0) (li L 1) (li L 2) (lb L 3) (ll L 4) (lb L 5) (ll L 6) (lb L 7) (ll L 8) (lb L 9) (ll L 10) k0
noncomputable def sh21x0 : Sh := { tmps := [(0, .g ([.i .i64, .i .i64, .i .i64, .sl 66, .sl 68])), (1, .c (.sl 3)), (2, .c (.sl 3))], mem := [] }
noncomputable def K21x0w0 (L : List Lf) (p : Ty15) : Res := ([.c (.sl 3 p.1 p.2.1), .c (.b p.2.2.1), .c (.i .i64 p.2.2.2)], [])
noncomputable def A21x0 (N : Nat) (L : List Lf) : List (Bool × Res) := bnd (J21x0 N L (fun p => some p)) fun q => [(q.isSome, K21x0w0 L (q.getD default))]
theorem raw21x0 (N : Nat) (L : List Lf) : (body Try.prog (T43x0 N) (h21x0s0 N) 200 21 (valsOf (ofSh sh21x0 L).tmps) (ofSh sh21x0 L).mem : Option Res) = J21x0 N L (fun p => some (K21x0w0 L p)) := by kernel_rfl
theorem ok21x0 (N : Nat) : ∀ args mem alts, spSh sh21x0 (A21x0 N) args mem = some alts → ∀ res, altK alts some = some res → CallOk Try.prog 21 args mem res :=
  spSh_law fun L x hx => callOk_of (n := 200) progOk (T43x0_ok N) (al21x0s0 N) rfl ((raw21x0 N L).trans ((bind21x0 N ..).trans (alt1 x hx)))
noncomputable def T21x0 (N : Nat) : Oracle := ext 21 (spSh sh21x0 (A21x0 N)) (T43x0 N)
theorem T21x0_ok (N : Nat) : OracleOk Try.prog (T21x0 N) := ext_ok (T43x0_ok N) (enters_of (by kernel_rfl)) (ok21x0 N)
noncomputable def rg50x0 : List (Nat × List Nat) := [(0, [0, 1, 2]), (1, [0, 1, 2])]
noncomputable def hd50x0 : Hints := []
noncomputable def h50x0s0 (N : Nat) : Hint := { loops := hd50x0, regs := rg50x0, los := [] }
theorem al50x0s0 (N : Nat) : AllCuts Try.prog (h50x0s0 N).los 0 50 := AllCuts.nil
noncomputable def F50x0 (N : Nat) {R : Type} (v0 v1 v2 : Int) (k0 : Bool → R) : R :=
  k0 (bif (decide (v0 < v1)) then true else (decide (v0 > v2)))
noncomputable def V50x0 (N : Nat) (v0 v1 v2 : Int) : Bool := F50x0 N v0 v1 v2 (fun p => p)
theorem tot50x0 (N : Nat) {R : Type} (v0 v1 v2 : Int) (k0 : Bool → R) : F50x0 N v0 v1 v2 k0 = k0 (V50x0 N v0 v1 v2) := by
  unfold V50x0 F50x0
  repeat' (first | rfl | apply cond_k | (apply bnd_k; intro _))
noncomputable def sh50x0 : Sh := { tmps := [(0, .c (.i .i64)), (1, .c (.i .i64)), (2, .c (.i .i64))], mem := [] }
noncomputable def A50x0 (N : Nat) (L : List Lf) : List (Bool × Res) := bnd (F50x0 N (li L 0) (li L 1) (li L 2) (fun p => p)) fun q => [(true, ([.c (.b q)], []))]
theorem raw50x0 (N : Nat) (L : List Lf) : (body Try.prog (T21x0 N) (h50x0s0 N) 200 50 (valsOf (ofSh sh50x0 L).tmps) (ofSh sh50x0 L).mem : Option Res) = F50x0 N (li L 0) (li L 1) (li L 2) (fun p => some ([.c (.b p)], [])) := by kernel_rfl
theorem ok50x0 (N : Nat) : ∀ args mem alts, spSh sh50x0 (A50x0 N) args mem = some alts → ∀ res, altK alts some = some res → CallOk Try.prog 50 args mem res :=
  spSh_law fun L x hx => callOk_of (n := 200) progOk (T21x0_ok N) (al50x0s0 N) rfl ((raw50x0 N L).trans ((tot50x0 N ..).trans (alt0 _ _ hx)))
noncomputable def T50x0 (N : Nat) : Oracle := ext 50 (spSh sh50x0 (A50x0 N)) (T21x0 N)
theorem T50x0_ok (N : Nat) : OracleOk Try.prog (T50x0 N) := ext_ok (T21x0_ok N) (enters_of (by kernel_rfl)) (ok50x0 N)
noncomputable def rg54x0 : List (Nat × List Nat) := [(0, [0]), (1, [0]), (2, [3, 0]), (4, [0, 3]), (5, [4, 3, 0]), (6, []), (3, [3, 0]), (7, [0])]
noncomputable def hd54x0 : Hints := [(6, [3, 0], [], [])]
noncomputable def h54x0s0 (N : Nat) : Hint := { loops := hd54x0, regs := rg54x0, los := [] }
theorem al54x0s0 (N : Nat) : AllCuts Try.prog (h54x0s0 N).los 0 54 := AllCuts.nil
noncomputable def S54x0x6 (N : Nat) {R : Type} (w0 : LB) (w1 : Int) (kr : Int → Option R) (k0 : Unit → Option R) (k1 : Unit → Option R) : Option R :=
  bif (decide (w1 < (w0.length : Int))) then
    bif (inB w1 w0.length) then
      bnd (bif (decide (((w0.getD w1.toNat 0).toNat : Int) ≥ 97)) then (decide (((w0.getD w1.toNat 0).toNat : Int) ≤ 122)) else false) fun y0 =>
      bnd (bif y0 then true else (bif (decide (((w0.getD w1.toNat 0).toNat : Int) ≥ 65)) then (decide (((w0.getD w1.toNat 0).toNat : Int) ≤ 90)) else false)) fun y1 =>
      bnd (bif y1 then true else (bif (decide (((w0.getD w1.toNat 0).toNat : Int) ≥ 48)) then (decide (((w0.getD w1.toNat 0).toNat : Int) ≤ 57)) else false)) fun y2 =>
      bnd (bif y2 then true else (((w0.getD w1.toNat 0).toNat : Int) == 45)) fun y3 =>
      bnd (bif y3 then true else (((w0.getD w1.toNat 0).toNat : Int) == 95)) fun y4 =>
      bnd (bif y4 then true else (((w0.getD w1.toNat 0).toNat : Int) == 46)) fun y5 =>
      bif (!y5) then
        k0 ()
      else
        kr (IntKind.wrap .i64 (w1 + 1))
    else
      none
  else
    k1 ()
theorem mono54x0x6 (N : Nat) {R : Type} (w0 : LB) (w1 : Int) {kr kr' : Int → Option R} (k0 : Unit → Option R) (k1 : Unit → Option R) {r : R} (hk : ∀ w1', kr w1' = some r → kr' w1' = some r) : S54x0x6 N w0 w1 kr k0 k1 = some r → S54x0x6 N w0 w1 kr' k0 k1 = some r := by
  unfold S54x0x6
  repeat' (first | exact hk _ | exact fun h => h | apply cond_mono | (apply bnd_mono; intro _))
noncomputable def L54x0x6 (N : Nat) {R : Type} (w0 : LB) : Nat → Int → (Unit → Option R) → (Unit → Option R) → Option R
  | 0, _, _, _ => none
  | m + 1, w1, k0, k1 => S54x0x6 N w0 w1 (fun w1 => L54x0x6 N w0 m w1 k0 k1) k0 k1
theorem lp54x0x6 : piece Try.prog 54 6 = .loop (loopB (piece Try.prog 54 6)) := by kernel_rfl
theorem nl54x0x6 (N : Nat) : lawOf (h54x0s0 N) (.loop (loopB (piece Try.prog 54 6))) = none := by kernel_rfl
theorem cl54x0x6 (N : Nat) (w0 : LB) (w1 : Int) : clearSt Try.prog 0 (h54x0s0 N).loops 6 ⟨[(0, .c (.s w0)), (3, .c (.i .i64 w1))], []⟩ = ⟨[(0, .c (.s w0)), (3, .c (.i .i64 w1))], []⟩ := by kernel_rfl
theorem step54x0x6 (N : Nat) (m : Nat) (kn : St → Option (Ex × St)) (w0 : LB) (w1 : Int) : exec Try.prog (T50x0 N) (h54x0s0 N) 0 (m + 100) (loopB (piece Try.prog 54 6)) ⟨[(0, .c (.s w0)), (3, .c (.i .i64 w1))], []⟩ (reK (fun st => kn (clearSt Try.prog 0 (h54x0s0 N).loops 6 st)) (fun e st => some (e, cutSt [2, 0] [] st))) = S54x0x6 N w0 w1 (fun w1 => kn ⟨[(0, .c (.s w0)), (3, .c (.i .i64 w1))], []⟩) (fun _ => some (.ret, ⟨[(2, .c (.b false))], []⟩)) (fun _ => some ((.exit 0), ⟨[(0, .c (.s w0))], []⟩)) := by kernel_rfl
theorem run54x0x6 (N : Nat) (w0 : LB) : ∀ (m : Nat) (w1 : Int) (x : Ex × St), L54x0x6 N w0 m w1 (fun _ => some (.ret, ⟨[(2, .c (.b false))], []⟩)) (fun _ => some ((.exit 0), ⟨[(0, .c (.s w0))], []⟩)) = some x → exec Try.prog (T50x0 N) (h54x0s0 N) 0 (m + 101) (.loop (loopB (piece Try.prog 54 6))) ⟨[(0, .c (.s w0)), (3, .c (.i .i64 w1))], []⟩ (fun e st => some (e, cutSt [2, 0] [] st)) = some x := by
  intro m
  induction m with
  | zero => intro w1 x h; cases h
  | succ m ih =>
    intro w1 x h
    exact loop_round (n := m + 101) (nl54x0x6 N) (by kernel_rfl) (cl54x0x6 N ..) (fun kn => step54x0x6 N (m + 1) kn ..) (mono54x0x6 N _ _ _ _ (fun w1 => ih w1 x) h)
noncomputable def G54x0x6 (N : Nat) (w0 : LB) (w1 : Int) : Option (Sum (Unit) (Unit)) := L54x0x6 N (R := (Sum (Unit) (Unit))) w0 N w1 (fun p => some (.inl p)) (fun p => some (.inr p))
theorem sb54x0x6 (N : Nat) {R A : Type} (w0 : LB) (w1 : Int) (kr : Int → Option R) (kr' : Int → Option A) (k0 : Unit → Option R) (k1 : Unit → Option R) (j0 : Unit → Option A) (j1 : Unit → Option A) (K : A → Option R) (hr : ∀ w1', kr w1' = (kr' w1').bind K) (h0 : ∀ p, k0 p = (j0 p).bind K) (h1 : ∀ p, k1 p = (j1 p).bind K) : S54x0x6 N w0 w1 kr k0 k1 = (S54x0x6 N w0 w1 kr' j0 j1).bind K := by
  unfold S54x0x6
  repeat' (first | rfl | apply hr | apply h0 | apply h1 | apply cond_b | (apply bnd_b; intro _))
theorem lbind54x0x6 (N : Nat) {R : Type} (w0 : LB) : ∀ (m : Nat) (w1 : Int) (k0 : Unit → Option R) (k1 : Unit → Option R), L54x0x6 N w0 m w1 k0 k1 = (L54x0x6 N (R := (Sum (Unit) (Unit))) w0 m w1 (fun p => some (.inl p)) (fun p => some (.inr p))).bind (sumE k0 k1) := by
  intro m
  induction m with
  | zero => intros; rfl
  | succ m ih =>
    intro w1 k0 k1
    exact sb54x0x6 N _ _ _ _ _ _ _ _ _ (fun w1 => ih w1 k0 k1) (fun _ => rfl) (fun _ => rfl)
theorem one54x0x6 : oneB Try.prog 54 6 = true := by kernel_rfl
noncomputable def sh54x0x6 : Sh := { tmps := [(0, .c (.s)), (3, .c (.i .i64))], mem := [] }
noncomputable def A54x0x6 (N : Nat) (L : List Lf) : List (Bool × (Ex × St)) := bnd (G54x0x6 N (ls L 0) (li L 1)) fun q => [((inlB q), (.ret, ⟨[(2, .c (.b false))], []⟩)), ((inrQ q).isSome, ((.exit 0), ⟨[(0, .c (.s (ls L 0)))], []⟩))]
theorem eq54x0x6 (L : List Lf) : ofSh sh54x0x6 L = ⟨[(0, .c (.s (ls L 0))), (3, .c (.i .i64 (li L 1)))], []⟩ := by kernel_rfl
theorem law54x0x6 (N : Nat) : CutLaw Try.prog 0 (piece Try.prog 54 6) (loSh sh54x0x6 (A54x0x6 N)) :=
  law_shL progOk (T50x0_ok N) (al54x0s0 N) one54x0x6 lp54x0x6 eq54x0x6 fun L x hx => run54x0x6 N _ N _ x ((lbind54x0x6 N _ N _ _ _).trans ((altS alt1) x hx))
noncomputable def h54x0s1 (N : Nat) : Hint := { (h54x0s0 N) with los := (6, loSh sh54x0x6 (A54x0x6 N)) :: (h54x0s0 N).los }
theorem al54x0s1 (N : Nat) : AllCuts Try.prog (h54x0s1 N).los 0 54 := AllCuts.cons (al54x0s0 N) one54x0x6 (law54x0x6 N)
noncomputable def F54x0 (N : Nat) {R : Type} (v0 : LB) (k0 : Bool → Option R) : Option R :=
  bnd (G54x0x6 N v0 0) fun y0 =>
  bif (inlB y0) then
    k0 false
  else
    bif (inrQ y0).isSome then
      bnd (bif (decide ((v0.length : Int) ≥ 1)) then (decide ((v0.length : Int) ≤ 60)) else false) fun y1 =>
      k0 y1
    else
      none
noncomputable def G54x0 (N : Nat) (v0 : LB) : Option (Bool) := F54x0 N v0 (fun p => some p)
theorem bind54x0 (N : Nat) {R : Type} (v0 : LB) (k0 : Bool → Option R) : F54x0 N v0 k0 = (G54x0 N v0).bind k0 := by
  unfold G54x0 F54x0
  repeat' (first | rfl | apply cond_b | (apply bnd_b; intro _))
noncomputable def sh54x0 : Sh := { tmps := [(0, .c (.s))], mem := [] }
noncomputable def A54x0 (N : Nat) (L : List Lf) : List (Bool × Res) := bnd (F54x0 N (ls L 0) (fun p => some p)) fun q => [(q.isSome, ([.c (.b (q.getD default))], []))]
theorem raw54x0 (N : Nat) (L : List Lf) : (body Try.prog (T50x0 N) (h54x0s1 N) 200 54 (valsOf (ofSh sh54x0 L).tmps) (ofSh sh54x0 L).mem : Option Res) = F54x0 N (ls L 0) (fun p => some ([.c (.b p)], [])) := by kernel_rfl
theorem ok54x0 (N : Nat) : ∀ args mem alts, spSh sh54x0 (A54x0 N) args mem = some alts → ∀ res, altK alts some = some res → CallOk Try.prog 54 args mem res :=
  spSh_law fun L x hx => callOk_of (n := 200) progOk (T50x0_ok N) (al54x0s1 N) rfl ((raw54x0 N L).trans ((bind54x0 N ..).trans (alt1 x hx)))
noncomputable def T54x0 (N : Nat) : Oracle := ext 54 (spSh sh54x0 (A54x0 N)) (T50x0 N)
theorem T54x0_ok (N : Nat) : OracleOk Try.prog (T54x0 N) := ext_ok (T50x0_ok N) (enters_of (by kernel_rfl)) (ok54x0 N)
noncomputable def rg55x0 : List (Nat × List Nat) := [(0, [0, 1]), (1, [2, 1]), (2, [10, 9, 8, 1]), (3, [10, 8, 1, 9]), (4, [6, 1, 5, 10, 9, 8]), (5, [5]), (6, [10, 9, 8, 1]), (7, [])]
noncomputable def hd55x0 : Hints := [(6, [10, 9, 8, 1], [], [])]
noncomputable def h55x0s0 (N : Nat) : Hint := { loops := hd55x0, regs := rg55x0, los := [] }
theorem al55x0s0 (N : Nat) : AllCuts Try.prog (h55x0s0 N).los 0 55 := AllCuts.nil
noncomputable def P55x0x6 (w0 : LB) (w1 : Bool) (w2 : LD) (w3 w4 : Int) : St := ⟨[(1, .c (.s w0)), (8, .c (.sl 66 w1 w2)), (9, .c (.i .i64 w3)), (10, .c (.i .i64 w4))], []⟩
noncomputable def S55x0x6 (N : Nat) {R : Type} (w0 : LB) (w2 : LD) (w3 : Int) (w4 : Int) (kr : Int → Option R) (k0 : Int → Option R) (k1 : Unit → Option R) : Option R :=
  bif (decide (w4 < w3)) then
    bif (inB w4 w2.length) then
      bif (((w2.getD w4.toNat (.i 0)).cell 0).toS == w0) then
        k0 w4
      else
        kr (IntKind.wrap .i64 (w4 + 1))
    else
      none
  else
    k1 ()
theorem mono55x0x6 (N : Nat) {R : Type} (w0 : LB) (w2 : LD) (w3 : Int) (w4 : Int) {kr kr' : Int → Option R} (k0 : Int → Option R) (k1 : Unit → Option R) {r : R} (hk : ∀ w4', kr w4' = some r → kr' w4' = some r) : S55x0x6 N w0 w2 w3 w4 kr k0 k1 = some r → S55x0x6 N w0 w2 w3 w4 kr' k0 k1 = some r := by
  unfold S55x0x6
  repeat' (first | exact hk _ | exact fun h => h | apply cond_mono | (apply bnd_mono; intro _))
noncomputable def L55x0x6 (N : Nat) {R : Type} (w0 : LB) (w2 : LD) (w3 : Int) : Nat → Int → (Int → Option R) → (Unit → Option R) → Option R
  | 0, _, _, _ => none
  | m + 1, w4, k0, k1 => S55x0x6 N w0 w2 w3 w4 (fun w4 => L55x0x6 N w0 w2 w3 m w4 k0 k1) k0 k1
theorem lp55x0x6 : piece Try.prog 55 6 = .loop (loopB (piece Try.prog 55 6)) := by kernel_rfl
theorem nl55x0x6 (N : Nat) : lawOf (h55x0s0 N) (.loop (loopB (piece Try.prog 55 6))) = none := by kernel_rfl
theorem cl55x0x6 (N : Nat) (w0 : LB) (w1 : Bool) (w2 : LD) (w3 : Int) (w4 : Int) : clearSt Try.prog 0 (h55x0s0 N).loops 6 (P55x0x6 w0 w1 w2 w3 w4) = (P55x0x6 w0 w1 w2 w3 w4) := by kernel_rfl
theorem step55x0x6 (N : Nat) (m : Nat) (kn : St → Option (Ex × St)) (w0 : LB) (w1 : Bool) (w2 : LD) (w3 : Int) (w4 : Int) : exec Try.prog (T54x0 N) (h55x0s0 N) 0 (m + 100) (loopB (piece Try.prog 55 6)) (P55x0x6 w0 w1 w2 w3 w4) (reK (fun st => kn (clearSt Try.prog 0 (h55x0s0 N).loops 6 st)) (fun e st => some (e, cutSt [4] [] st))) = S55x0x6 N w0 w2 w3 w4 (fun w4 => kn (P55x0x6 w0 w1 w2 w3 w4)) (fun p => some (.ret, ⟨[(4, .c (.i .i64 p))], []⟩)) (fun _ => some ((.exit 0), ⟨[], []⟩)) := by kernel_rfl
theorem run55x0x6 (N : Nat) (w0 : LB) (w1 : Bool) (w2 : LD) (w3 : Int) : ∀ (m : Nat) (w4 : Int) (x : Ex × St), L55x0x6 N w0 w2 w3 m w4 (fun p => some (.ret, ⟨[(4, .c (.i .i64 p))], []⟩)) (fun _ => some ((.exit 0), ⟨[], []⟩)) = some x → exec Try.prog (T54x0 N) (h55x0s0 N) 0 (m + 101) (.loop (loopB (piece Try.prog 55 6))) (P55x0x6 w0 w1 w2 w3 w4) (fun e st => some (e, cutSt [4] [] st)) = some x := by
  intro m
  induction m with
  | zero => intro w4 x h; cases h
  | succ m ih =>
    intro w4 x h
    exact loop_round (n := m + 101) (nl55x0x6 N) (by kernel_rfl) (cl55x0x6 N ..) (fun kn => step55x0x6 N (m + 1) kn ..) (mono55x0x6 N _ _ _ _ _ _ (fun w4 => ih w4 x) h)
noncomputable def G55x0x6 (N : Nat) (w0 : LB) (w2 : LD) (w3 : Int) (w4 : Int) : Option (Sum (Int) (Unit)) := L55x0x6 N (R := (Sum (Int) (Unit))) w0 w2 w3 N w4 (fun p => some (.inl p)) (fun p => some (.inr p))
theorem sb55x0x6 (N : Nat) {R A : Type} (w0 : LB) (w2 : LD) (w3 : Int) (w4 : Int) (kr : Int → Option R) (kr' : Int → Option A) (k0 : Int → Option R) (k1 : Unit → Option R) (j0 : Int → Option A) (j1 : Unit → Option A) (K : A → Option R) (hr : ∀ w4', kr w4' = (kr' w4').bind K) (h0 : ∀ p, k0 p = (j0 p).bind K) (h1 : ∀ p, k1 p = (j1 p).bind K) : S55x0x6 N w0 w2 w3 w4 kr k0 k1 = (S55x0x6 N w0 w2 w3 w4 kr' j0 j1).bind K := by
  unfold S55x0x6
  repeat' (first | rfl | apply hr | apply h0 | apply h1 | apply cond_b | (apply bnd_b; intro _))
theorem lbind55x0x6 (N : Nat) {R : Type} (w0 : LB) (w2 : LD) (w3 : Int) : ∀ (m : Nat) (w4 : Int) (k0 : Int → Option R) (k1 : Unit → Option R), L55x0x6 N w0 w2 w3 m w4 k0 k1 = (L55x0x6 N (R := (Sum (Int) (Unit))) w0 w2 w3 m w4 (fun p => some (.inl p)) (fun p => some (.inr p))).bind (sumE k0 k1) := by
  intro m
  induction m with
  | zero => intros; rfl
  | succ m ih =>
    intro w4 k0 k1
    exact sb55x0x6 N _ _ _ _ _ _ _ _ _ _ _ (fun w4 => ih w4 k0 k1) (fun _ => rfl) (fun _ => rfl)
theorem one55x0x6 : oneB Try.prog 55 6 = true := by kernel_rfl
noncomputable def sh55x0x6 : Sh := { tmps := [(1, .c (.s)), (8, .c (.sl 66)), (9, .c (.i .i64)), (10, .c (.i .i64))], mem := [] }
noncomputable def A55x0x6 (N : Nat) (L : List Lf) : List (Bool × (Ex × St)) := bnd (G55x0x6 N (ls L 0) (ll L 2) (li L 3) (li L 4)) fun q => [((inlB q), (.ret, ⟨[(4, .c (.i .i64 (inlV q)))], []⟩)), ((inrQ q).isSome, ((.exit 0), ⟨[], []⟩))]
theorem eq55x0x6 (L : List Lf) : ofSh sh55x0x6 L = (P55x0x6 (ls L 0) (lb L 1) (ll L 2) (li L 3) (li L 4)) := by kernel_rfl
theorem law55x0x6 (N : Nat) : CutLaw Try.prog 0 (piece Try.prog 55 6) (loSh sh55x0x6 (A55x0x6 N)) :=
  law_shL progOk (T54x0_ok N) (al55x0s0 N) one55x0x6 lp55x0x6 eq55x0x6 fun L x hx => run55x0x6 N _ _ _ _ N _ x ((lbind55x0x6 N _ _ _ N _ _ _).trans ((altS alt1) x hx))
noncomputable def h55x0s1 (N : Nat) : Hint := { (h55x0s0 N) with los := (6, loSh sh55x0x6 (A55x0x6 N)) :: (h55x0s0 N).los }
theorem al55x0s1 (N : Nat) : AllCuts Try.prog (h55x0s1 N).los 0 55 := AllCuts.cons (al55x0s0 N) one55x0x6 (law55x0x6 N)
noncomputable def F55x0 (N : Nat) {R : Type} (v4 : LD) (v7 : LB) (k0 : Int → Option R) : Option R :=
  bnd (G55x0x6 N v7 v4 (v4.length : Int) 0) fun y0 =>
  bif (inlB y0) then
    k0 (inlV y0)
  else
    bif (inrQ y0).isSome then
      k0 (-1)
    else
      none
noncomputable def G55x0 (N : Nat) (v4 : LD) (v7 : LB) : Option (Int) := F55x0 N v4 v7 (fun p => some p)
theorem bind55x0 (N : Nat) {R : Type} (v4 : LD) (v7 : LB) (k0 : Int → Option R) : F55x0 N v4 v7 k0 = (G55x0 N v4 v7).bind k0 := by
  unfold G55x0 F55x0
  repeat' (first | rfl | apply cond_b | (apply bnd_b; intro _))
noncomputable def sh55x0 : Sh := { tmps := [(0, .g ([.i .i64, .i .i64, .i .i64, .sl 66, .sl 68])), (1, .c (.s))], mem := [] }
noncomputable def A55x0 (N : Nat) (L : List Lf) : List (Bool × Res) := bnd (F55x0 N (ll L 4) (ls L 7) (fun p => some p)) fun q => [(q.isSome, ([.c (.i .i64 (q.getD default))], []))]
theorem raw55x0 (N : Nat) (L : List Lf) : (body Try.prog (T54x0 N) (h55x0s1 N) 200 55 (valsOf (ofSh sh55x0 L).tmps) (ofSh sh55x0 L).mem : Option Res) = F55x0 N (ll L 4) (ls L 7) (fun p => some ([.c (.i .i64 p)], [])) := by kernel_rfl
theorem ok55x0 (N : Nat) : ∀ args mem alts, spSh sh55x0 (A55x0 N) args mem = some alts → ∀ res, altK alts some = some res → CallOk Try.prog 55 args mem res :=
  spSh_law fun L x hx => callOk_of (n := 200) progOk (T54x0_ok N) (al55x0s1 N) rfl ((raw55x0 N L).trans ((bind55x0 N ..).trans (alt1 x hx)))
noncomputable def T55x0 (N : Nat) : Oracle := ext 55 (spSh sh55x0 (A55x0 N)) (T54x0 N)
theorem T55x0_ok (N : Nat) : OracleOk Try.prog (T55x0 N) := ext_ok (T54x0_ok N) (enters_of (by kernel_rfl)) (ok55x0 N)
noncomputable def rg84x0 : List (Nat × List Nat) := [(0, [0]), (1, [1, 2]), (2, [1, 3, 2]), (4, [8, 1, 3, 2]), (6, [8, 1, 3, 2]), (8, [8, 1, 3, 2]), (9, [8, 1, 3, 2]), (10, [8, 1, 3, 2]), (11, [8, 1, 3, 2]), (13, [8, 1, 3, 2]), (15, [8, 1, 3, 2]), (3, [1, 3, 2]), (16, [1, 3, 2]), (14, [1, 3, 2]), (12, [1, 3, 2]), (7, [1, 3, 2]), (5, [1, 3, 2]), (17, [3, 2])]
noncomputable def hd84x0 : Hints := [(33002, [1, 3, 2, 8, 31], [3, 2, 1], []), (30002, [1, 3, 2, 8, 31], [3, 2, 1], []), (27002, [1, 3, 2, 8, 31], [3, 2, 1], []), (9050, [1, 3, 2, 50], [3, 2, 1], []), (45044, [1, 3, 2, 8, 39], [3, 2, 1], []), (39038, [1, 3, 2, 8, 31], [3, 2, 1], []), (24023, [1, 3, 2, 8, 23], [3, 2, 1], []), (18017, [1, 3, 2, 8, 18], [3, 2, 1], [])]
noncomputable def h84x0s0 (N : Nat) : Hint := { loops := hd84x0, regs := rg84x0, los := [] }
theorem al84x0s0 (N : Nat) : AllCuts Try.prog (h84x0s0 N).los 0 84 := AllCuts.nil
noncomputable def F84x0x33002 (N : Nat) {R : Type} (w0 : Int) (w1 : Bool) (k0 : Bool → R) : R :=
  bif w1 then
    k0 true
  else
    k0 (w0 == 7)
noncomputable def V84x0x33002 (N : Nat) (w0 : Int) (w1 : Bool) : Bool := F84x0x33002 N w0 w1 (fun p => p)
theorem tot84x0x33002 (N : Nat) {R : Type} (w0 : Int) (w1 : Bool) (k0 : Bool → R) : F84x0x33002 N w0 w1 k0 = k0 (V84x0x33002 N w0 w1) := by
  unfold V84x0x33002 F84x0x33002
  repeat' (first | rfl | apply cond_k | (apply bnd_k; intro _))
noncomputable def sh84x0x33002 : Sh := { tmps := [(1, .c (.p 1 0)), (2, .c (.p 2 0)), (3, .c (.p 3 0)), (8, .c (.i .i64)), (31, .c (.b))], mem := [(1, .box (rI 5 ([.s]))), (2, .box (rI 5 ([.s]))), (3, .box (rI 5 ([.s])))] }
noncomputable def K84x0x33002w0 (L : List Lf) (p : Bool) : Ex × St := (.normal, ⟨[(1, .c (.p 1 0)), (2, .c (.p 2 0)), (3, .c (.p 3 0)), (8, .c (.i .i64 (li L 0))), (31, .c (.b p))], [(1, .box (rL L 2 5 ([.s (ls L 7)]))), (2, .box (rL L 8 5 ([.s (ls L 13)]))), (3, .box (rL L 14 5 ([.s (ls L 19)])))]⟩)
noncomputable def A84x0x33002 (N : Nat) (L : List Lf) : List (Bool × (Ex × St)) := bnd (F84x0x33002 N (li L 0) (lb L 1) (fun p => p)) fun q => [(true, K84x0x33002w0 L q)]
theorem raw84x0x33002 (N : Nat) (L : List Lf) : (exec Try.prog (T55x0 N) (h84x0s0 N) 0 100 (piece Try.prog 84 33002) (ofSh sh84x0x33002 L) (fun e st => some (e, cutSt [1, 3, 2, 8, 31] [3, 2, 1] st)) : Option (Ex × St)) = F84x0x33002 N (li L 0) (lb L 1) (fun p => some (K84x0x33002w0 L p)) := by kernel_rfl
theorem one84x0x33002 : oneB Try.prog 84 33002 = true := by kernel_rfl
theorem law84x0x33002 (N : Nat) : CutLaw Try.prog 0 (piece Try.prog 84 33002) (loSh sh84x0x33002 (A84x0x33002 N)) :=
  law_sh progOk (T55x0_ok N) (al84x0s0 N) one84x0x33002 fun L x hx => (raw84x0x33002 N L).trans ((tot84x0x33002 N ..).trans (alt0 _ _ hx))
noncomputable def h84x0s1 (N : Nat) : Hint := { (h84x0s0 N) with los := (33002, loSh sh84x0x33002 (A84x0x33002 N)) :: (h84x0s0 N).los }
theorem al84x0s1 (N : Nat) : AllCuts Try.prog (h84x0s1 N).los 0 84 := AllCuts.cons (al84x0s0 N) one84x0x33002 (law84x0x33002 N)
noncomputable def F84x0x30002 (N : Nat) {R : Type} (w0 : Int) (w1 : Bool) (k0 : Bool → R) : R :=
  bif w1 then
    k0 true
  else
    bnd (V84x0x33002 N w0 (w0 == 5)) fun y0 =>
    k0 y0
noncomputable def V84x0x30002 (N : Nat) (w0 : Int) (w1 : Bool) : Bool := F84x0x30002 N w0 w1 (fun p => p)
theorem tot84x0x30002 (N : Nat) {R : Type} (w0 : Int) (w1 : Bool) (k0 : Bool → R) : F84x0x30002 N w0 w1 k0 = k0 (V84x0x30002 N w0 w1) := by
  unfold V84x0x30002 F84x0x30002
  repeat' (first | rfl | apply cond_k | (apply bnd_k; intro _))
noncomputable def sh84x0x30002 : Sh := { tmps := [(1, .c (.p 1 0)), (2, .c (.p 2 0)), (3, .c (.p 3 0)), (8, .c (.i .i64)), (31, .c (.b))], mem := [(1, .box (rI 5 ([.s]))), (2, .box (rI 5 ([.s]))), (3, .box (rI 5 ([.s])))] }
noncomputable def K84x0x30002w0 (L : List Lf) (p : Bool) : Ex × St := (.normal, ⟨[(1, .c (.p 1 0)), (2, .c (.p 2 0)), (3, .c (.p 3 0)), (8, .c (.i .i64 (li L 0))), (31, .c (.b p))], [(1, .box (rL L 2 5 ([.s (ls L 7)]))), (2, .box (rL L 8 5 ([.s (ls L 13)]))), (3, .box (rL L 14 5 ([.s (ls L 19)])))]⟩)
noncomputable def A84x0x30002 (N : Nat) (L : List Lf) : List (Bool × (Ex × St)) := bnd (F84x0x30002 N (li L 0) (lb L 1) (fun p => p)) fun q => [(true, K84x0x30002w0 L q)]
theorem raw84x0x30002 (N : Nat) (L : List Lf) : (exec Try.prog (T55x0 N) (h84x0s1 N) 0 100 (piece Try.prog 84 30002) (ofSh sh84x0x30002 L) (fun e st => some (e, cutSt [1, 3, 2, 8, 31] [3, 2, 1] st)) : Option (Ex × St)) = F84x0x30002 N (li L 0) (lb L 1) (fun p => some (K84x0x30002w0 L p)) := by kernel_rfl
theorem one84x0x30002 : oneB Try.prog 84 30002 = true := by kernel_rfl
theorem law84x0x30002 (N : Nat) : CutLaw Try.prog 0 (piece Try.prog 84 30002) (loSh sh84x0x30002 (A84x0x30002 N)) :=
  law_sh progOk (T55x0_ok N) (al84x0s1 N) one84x0x30002 fun L x hx => (raw84x0x30002 N L).trans ((tot84x0x30002 N ..).trans (alt0 _ _ hx))
noncomputable def h84x0s2 (N : Nat) : Hint := { (h84x0s1 N) with los := (30002, loSh sh84x0x30002 (A84x0x30002 N)) :: (h84x0s1 N).los }
theorem al84x0s2 (N : Nat) : AllCuts Try.prog (h84x0s2 N).los 0 84 := AllCuts.cons (al84x0s1 N) one84x0x30002 (law84x0x30002 N)
noncomputable def F84x0x27002 (N : Nat) {R : Type} (w0 : Int) (w1 : Bool) (k0 : Bool → R) : R :=
  bif w1 then
    k0 true
  else
    bnd (V84x0x30002 N w0 (w0 == 4)) fun y0 =>
    k0 y0
noncomputable def V84x0x27002 (N : Nat) (w0 : Int) (w1 : Bool) : Bool := F84x0x27002 N w0 w1 (fun p => p)
theorem tot84x0x27002 (N : Nat) {R : Type} (w0 : Int) (w1 : Bool) (k0 : Bool → R) : F84x0x27002 N w0 w1 k0 = k0 (V84x0x27002 N w0 w1) := by
  unfold V84x0x27002 F84x0x27002
  repeat' (first | rfl | apply cond_k | (apply bnd_k; intro _))
noncomputable def sh84x0x27002 : Sh := { tmps := [(1, .c (.p 1 0)), (2, .c (.p 2 0)), (3, .c (.p 3 0)), (8, .c (.i .i64)), (31, .c (.b))], mem := [(1, .box (rI 5 ([.s]))), (2, .box (rI 5 ([.s]))), (3, .box (rI 5 ([.s])))] }
noncomputable def K84x0x27002w0 (L : List Lf) (p : Bool) : Ex × St := (.normal, ⟨[(1, .c (.p 1 0)), (2, .c (.p 2 0)), (3, .c (.p 3 0)), (8, .c (.i .i64 (li L 0))), (31, .c (.b p))], [(1, .box (rL L 2 5 ([.s (ls L 7)]))), (2, .box (rL L 8 5 ([.s (ls L 13)]))), (3, .box (rL L 14 5 ([.s (ls L 19)])))]⟩)
noncomputable def A84x0x27002 (N : Nat) (L : List Lf) : List (Bool × (Ex × St)) := bnd (F84x0x27002 N (li L 0) (lb L 1) (fun p => p)) fun q => [(true, K84x0x27002w0 L q)]
theorem raw84x0x27002 (N : Nat) (L : List Lf) : (exec Try.prog (T55x0 N) (h84x0s2 N) 0 100 (piece Try.prog 84 27002) (ofSh sh84x0x27002 L) (fun e st => some (e, cutSt [1, 3, 2, 8, 31] [3, 2, 1] st)) : Option (Ex × St)) = F84x0x27002 N (li L 0) (lb L 1) (fun p => some (K84x0x27002w0 L p)) := by kernel_rfl
theorem one84x0x27002 : oneB Try.prog 84 27002 = true := by kernel_rfl
theorem law84x0x27002 (N : Nat) : CutLaw Try.prog 0 (piece Try.prog 84 27002) (loSh sh84x0x27002 (A84x0x27002 N)) :=
  law_sh progOk (T55x0_ok N) (al84x0s2 N) one84x0x27002 fun L x hx => (raw84x0x27002 N L).trans ((tot84x0x27002 N ..).trans (alt0 _ _ hx))
noncomputable def h84x0s3 (N : Nat) : Hint := { (h84x0s2 N) with los := (27002, loSh sh84x0x27002 (A84x0x27002 N)) :: (h84x0s2 N).los }
theorem al84x0s3 (N : Nat) : AllCuts Try.prog (h84x0s3 N).los 0 84 := AllCuts.cons (al84x0s2 N) one84x0x27002 (law84x0x27002 N)
noncomputable def F84x0x9050 (N : Nat) {R : Type} (w0 : Bool) (w3 w4 : Int) (w6 : LB) (w15 w16 : Int) (w18 : LB) (k0 : Int × Int × LB → R) : R :=
  bif w0 then
    k0 (w15, w16, w6)
  else
    k0 (w3, w4, w18)
noncomputable def V84x0x9050 (N : Nat) (w0 : Bool) (w3 w4 : Int) (w6 : LB) (w15 w16 : Int) (w18 : LB) : Int × Int × LB := F84x0x9050 N w0 w3 w4 w6 w15 w16 w18 (fun p => p)
theorem tot84x0x9050 (N : Nat) {R : Type} (w0 : Bool) (w3 w4 : Int) (w6 : LB) (w15 w16 : Int) (w18 : LB) (k0 : Int × Int × LB → R) : F84x0x9050 N w0 w3 w4 w6 w15 w16 w18 k0 = k0 (V84x0x9050 N w0 w3 w4 w6 w15 w16 w18) := by
  unfold V84x0x9050 F84x0x9050
  repeat' (first | rfl | apply cond_k | (apply bnd_k; intro _))
noncomputable def J84x0x9050 (N : Nat) (L : List Lf) {R : Type} (k0 : Int × Int × LB → R) : R := F84x0x9050 N (lb L 0) (li L 3) (li L 4) (ls L 6) (li L 15) (li L 16) (ls L 18) k0
noncomputable def sh84x0x9050 : Sh := { tmps := [(1, .c (.p 1 0)), (2, .c (.p 2 0)), (3, .c (.p 3 0)), (50, .c (.b))], mem := [(1, .box (rI 5 ([.s]))), (2, .box (rI 5 ([.s]))), (3, .box (rI 5 ([.s])))] }
noncomputable def K84x0x9050w0 (L : List Lf) (p : Int × Int × LB) : Ex × St := (.normal, ⟨[(2, .c (.p 2 0)), (3, .c (.p 3 0))], [(2, .box (rL L 7 5 ([.s (ls L 12)]))), (3, .box [.i .i64 (li L 13), .i .i64 (li L 2), .i .i64 p.1, .i .i64 p.2.1, .i .i64 (li L 17), .s p.2.2])]⟩)
noncomputable def A84x0x9050 (N : Nat) (L : List Lf) : List (Bool × (Ex × St)) := bnd (J84x0x9050 N L (fun p => p)) fun q => [(true, K84x0x9050w0 L q)]
theorem raw84x0x9050 (N : Nat) (L : List Lf) : (exec Try.prog (T55x0 N) (h84x0s3 N) 0 100 (piece Try.prog 84 9050) (ofSh sh84x0x9050 L) (fun e st => some (e, cutSt [3, 2] [3, 2] st)) : Option (Ex × St)) = J84x0x9050 N L (fun p => some (K84x0x9050w0 L p)) := by kernel_rfl
theorem one84x0x9050 : oneB Try.prog 84 9050 = true := by kernel_rfl
theorem law84x0x9050 (N : Nat) : CutLaw Try.prog 0 (piece Try.prog 84 9050) (loSh sh84x0x9050 (A84x0x9050 N)) :=
  law_sh progOk (T55x0_ok N) (al84x0s3 N) one84x0x9050 fun L x hx => (raw84x0x9050 N L).trans ((tot84x0x9050 N ..).trans (alt0 _ _ hx))
noncomputable def h84x0s4 (N : Nat) : Hint := { (h84x0s3 N) with los := (9050, loSh sh84x0x9050 (A84x0x9050 N)) :: (h84x0s3 N).los }
theorem al84x0s4 (N : Nat) : AllCuts Try.prog (h84x0s4 N).los 0 84 := AllCuts.cons (al84x0s3 N) one84x0x9050 (law84x0x9050 N)
noncomputable def F84x0x45044 (N : Nat) {R : Type} (w0 : Int) (w1 : Bool) (w3 w4 w5 w6 : Int) (w7 : LB) (w15 w16 w17 w18 : Int) (w19 : LB) (k0 : Ty12 → R) : R :=
  bif w1 then
    k0 (w15, w16, w5, w6, w7)
  else
    bnd (V84x0x9050 N (w0 == 8) w4 w5 w7 w16 w17 w19) fun y0 =>
    k0 (w3, y0.1, y0.2.1, w18, y0.2.2)
noncomputable def V84x0x45044 (N : Nat) (w0 : Int) (w1 : Bool) (w3 w4 w5 w6 : Int) (w7 : LB) (w15 w16 w17 w18 : Int) (w19 : LB) : Ty12 := F84x0x45044 N w0 w1 w3 w4 w5 w6 w7 w15 w16 w17 w18 w19 (fun p => p)
theorem tot84x0x45044 (N : Nat) {R : Type} (w0 : Int) (w1 : Bool) (w3 w4 w5 w6 : Int) (w7 : LB) (w15 w16 w17 w18 : Int) (w19 : LB) (k0 : Ty12 → R) : F84x0x45044 N w0 w1 w3 w4 w5 w6 w7 w15 w16 w17 w18 w19 k0 = k0 (V84x0x45044 N w0 w1 w3 w4 w5 w6 w7 w15 w16 w17 w18 w19) := by
  unfold V84x0x45044 F84x0x45044
  repeat' (first | rfl | apply cond_k | (apply bnd_k; intro _))
noncomputable def J84x0x45044 (N : Nat) (L : List Lf) {R : Type} (k0 : Ty12 → R) : R := F84x0x45044 N (li L 0) (lb L 1) (li L 3) (li L 4) (li L 5) (li L 6) (ls L 7) (li L 15) (li L 16) (li L 17) (li L 18) (ls L 19) k0
noncomputable def sh84x0x45044 : Sh := { tmps := [(1, .c (.p 1 0)), (2, .c (.p 2 0)), (3, .c (.p 3 0)), (8, .c (.i .i64)), (39, .c (.b))], mem := [(1, .box (rI 5 ([.s]))), (2, .box (rI 5 ([.s]))), (3, .box (rI 5 ([.s])))] }
noncomputable def K84x0x45044w0 (L : List Lf) (p : Ty12) : Ex × St := (.normal, ⟨[(2, .c (.p 2 0)), (3, .c (.p 3 0))], [(2, .box (rL L 8 5 ([.s (ls L 13)]))), (3, .box [.i .i64 (li L 14), .i .i64 p.1, .i .i64 p.2.1, .i .i64 p.2.2.1, .i .i64 p.2.2.2.1, .s p.2.2.2.2])]⟩)
noncomputable def A84x0x45044 (N : Nat) (L : List Lf) : List (Bool × (Ex × St)) := bnd (J84x0x45044 N L (fun p => p)) fun q => [(true, K84x0x45044w0 L q)]
theorem raw84x0x45044 (N : Nat) (L : List Lf) : (exec Try.prog (T55x0 N) (h84x0s4 N) 0 100 (piece Try.prog 84 45044) (ofSh sh84x0x45044 L) (fun e st => some (e, cutSt [3, 2] [3, 2] st)) : Option (Ex × St)) = J84x0x45044 N L (fun p => some (K84x0x45044w0 L p)) := by kernel_rfl
theorem one84x0x45044 : oneB Try.prog 84 45044 = true := by kernel_rfl
theorem law84x0x45044 (N : Nat) : CutLaw Try.prog 0 (piece Try.prog 84 45044) (loSh sh84x0x45044 (A84x0x45044 N)) :=
  law_sh progOk (T55x0_ok N) (al84x0s4 N) one84x0x45044 fun L x hx => (raw84x0x45044 N L).trans ((tot84x0x45044 N ..).trans (alt0 _ _ hx))
noncomputable def h84x0s5 (N : Nat) : Hint := { (h84x0s4 N) with los := (45044, loSh sh84x0x45044 (A84x0x45044 N)) :: (h84x0s4 N).los }
theorem al84x0s5 (N : Nat) : AllCuts Try.prog (h84x0s5 N).los 0 84 := AllCuts.cons (al84x0s4 N) one84x0x45044 (law84x0x45044 N)
noncomputable def F84x0x39038 (N : Nat) {R : Type} (w0 : Int) (w1 : Bool) (w3 w4 w5 w6 : Int) (w7 : LB) (w15 w16 w17 w18 : Int) (w19 : LB) (k0 : Ty12 → R) : R :=
  bif w1 then
    k0 (w15, w4, w17, w18, w19)
  else
    bnd (V84x0x45044 N w0 (w0 == 6) w3 w4 w5 w6 w7 w15 w16 w17 w18 w19) fun y0 =>
    k0 y0
noncomputable def V84x0x39038 (N : Nat) (w0 : Int) (w1 : Bool) (w3 w4 w5 w6 : Int) (w7 : LB) (w15 w16 w17 w18 : Int) (w19 : LB) : Ty12 := F84x0x39038 N w0 w1 w3 w4 w5 w6 w7 w15 w16 w17 w18 w19 (fun p => p)
theorem tot84x0x39038 (N : Nat) {R : Type} (w0 : Int) (w1 : Bool) (w3 w4 w5 w6 : Int) (w7 : LB) (w15 w16 w17 w18 : Int) (w19 : LB) (k0 : Ty12 → R) : F84x0x39038 N w0 w1 w3 w4 w5 w6 w7 w15 w16 w17 w18 w19 k0 = k0 (V84x0x39038 N w0 w1 w3 w4 w5 w6 w7 w15 w16 w17 w18 w19) := by
  unfold V84x0x39038 F84x0x39038
  repeat' (first | rfl | apply cond_k | (apply bnd_k; intro _))
noncomputable def J84x0x39038 (N : Nat) (L : List Lf) {R : Type} (k0 : Ty12 → R) : R := F84x0x39038 N (li L 0) (lb L 1) (li L 3) (li L 4) (li L 5) (li L 6) (ls L 7) (li L 15) (li L 16) (li L 17) (li L 18) (ls L 19) k0
noncomputable def sh84x0x39038 : Sh := { tmps := [(1, .c (.p 1 0)), (2, .c (.p 2 0)), (3, .c (.p 3 0)), (8, .c (.i .i64)), (31, .c (.b))], mem := [(1, .box (rI 5 ([.s]))), (2, .box (rI 5 ([.s]))), (3, .box (rI 5 ([.s])))] }
noncomputable def K84x0x39038w0 (L : List Lf) (p : Ty12) : Ex × St := (.normal, ⟨[(2, .c (.p 2 0)), (3, .c (.p 3 0))], [(2, .box (rL L 8 5 ([.s (ls L 13)]))), (3, .box [.i .i64 (li L 14), .i .i64 p.1, .i .i64 p.2.1, .i .i64 p.2.2.1, .i .i64 p.2.2.2.1, .s p.2.2.2.2])]⟩)
noncomputable def A84x0x39038 (N : Nat) (L : List Lf) : List (Bool × (Ex × St)) := bnd (J84x0x39038 N L (fun p => p)) fun q => [(true, K84x0x39038w0 L q)]
theorem raw84x0x39038 (N : Nat) (L : List Lf) : (exec Try.prog (T55x0 N) (h84x0s5 N) 0 100 (piece Try.prog 84 39038) (ofSh sh84x0x39038 L) (fun e st => some (e, cutSt [3, 2] [3, 2] st)) : Option (Ex × St)) = J84x0x39038 N L (fun p => some (K84x0x39038w0 L p)) := by kernel_rfl
theorem one84x0x39038 : oneB Try.prog 84 39038 = true := by kernel_rfl
theorem law84x0x39038 (N : Nat) : CutLaw Try.prog 0 (piece Try.prog 84 39038) (loSh sh84x0x39038 (A84x0x39038 N)) :=
  law_sh progOk (T55x0_ok N) (al84x0s5 N) one84x0x39038 fun L x hx => (raw84x0x39038 N L).trans ((tot84x0x39038 N ..).trans (alt0 _ _ hx))
noncomputable def h84x0s6 (N : Nat) : Hint := { (h84x0s5 N) with los := (39038, loSh sh84x0x39038 (A84x0x39038 N)) :: (h84x0s5 N).los }
theorem al84x0s6 (N : Nat) : AllCuts Try.prog (h84x0s6 N).los 0 84 := AllCuts.cons (al84x0s5 N) one84x0x39038 (law84x0x39038 N)
noncomputable def F84x0x24023 (N : Nat) {R : Type} (w0 : Int) (w1 : Bool) (w3 w4 w5 w6 : Int) (w7 : LB) (w15 w16 w17 w18 : Int) (w19 : LB) (k0 : Ty12 → R) : R :=
  bif w1 then
    k0 (w3, w4, w17, w18, w19)
  else
    bnd (V84x0x27002 N w0 (w0 == 3)) fun y0 =>
    bnd (V84x0x39038 N w0 y0 w3 w4 w5 w6 w7 w15 w16 w17 w18 w19) fun y1 =>
    k0 y1
noncomputable def V84x0x24023 (N : Nat) (w0 : Int) (w1 : Bool) (w3 w4 w5 w6 : Int) (w7 : LB) (w15 w16 w17 w18 : Int) (w19 : LB) : Ty12 := F84x0x24023 N w0 w1 w3 w4 w5 w6 w7 w15 w16 w17 w18 w19 (fun p => p)
theorem tot84x0x24023 (N : Nat) {R : Type} (w0 : Int) (w1 : Bool) (w3 w4 w5 w6 : Int) (w7 : LB) (w15 w16 w17 w18 : Int) (w19 : LB) (k0 : Ty12 → R) : F84x0x24023 N w0 w1 w3 w4 w5 w6 w7 w15 w16 w17 w18 w19 k0 = k0 (V84x0x24023 N w0 w1 w3 w4 w5 w6 w7 w15 w16 w17 w18 w19) := by
  unfold V84x0x24023 F84x0x24023
  repeat' (first | rfl | apply cond_k | (apply bnd_k; intro _))
noncomputable def J84x0x24023 (N : Nat) (L : List Lf) {R : Type} (k0 : Ty12 → R) : R := F84x0x24023 N (li L 0) (lb L 1) (li L 3) (li L 4) (li L 5) (li L 6) (ls L 7) (li L 15) (li L 16) (li L 17) (li L 18) (ls L 19) k0
noncomputable def sh84x0x24023 : Sh := { tmps := [(1, .c (.p 1 0)), (2, .c (.p 2 0)), (3, .c (.p 3 0)), (8, .c (.i .i64)), (23, .c (.b))], mem := [(1, .box (rI 5 ([.s]))), (2, .box (rI 5 ([.s]))), (3, .box (rI 5 ([.s])))] }
noncomputable def K84x0x24023w0 (L : List Lf) (p : Ty12) : Ex × St := (.normal, ⟨[(2, .c (.p 2 0)), (3, .c (.p 3 0))], [(2, .box (rL L 8 5 ([.s (ls L 13)]))), (3, .box [.i .i64 (li L 14), .i .i64 p.1, .i .i64 p.2.1, .i .i64 p.2.2.1, .i .i64 p.2.2.2.1, .s p.2.2.2.2])]⟩)
noncomputable def A84x0x24023 (N : Nat) (L : List Lf) : List (Bool × (Ex × St)) := bnd (J84x0x24023 N L (fun p => p)) fun q => [(true, K84x0x24023w0 L q)]
theorem raw84x0x24023 (N : Nat) (L : List Lf) : (exec Try.prog (T55x0 N) (h84x0s6 N) 0 100 (piece Try.prog 84 24023) (ofSh sh84x0x24023 L) (fun e st => some (e, cutSt [3, 2] [3, 2] st)) : Option (Ex × St)) = J84x0x24023 N L (fun p => some (K84x0x24023w0 L p)) := by kernel_rfl
theorem one84x0x24023 : oneB Try.prog 84 24023 = true := by kernel_rfl
theorem law84x0x24023 (N : Nat) : CutLaw Try.prog 0 (piece Try.prog 84 24023) (loSh sh84x0x24023 (A84x0x24023 N)) :=
  law_sh progOk (T55x0_ok N) (al84x0s6 N) one84x0x24023 fun L x hx => (raw84x0x24023 N L).trans ((tot84x0x24023 N ..).trans (alt0 _ _ hx))
noncomputable def h84x0s7 (N : Nat) : Hint := { (h84x0s6 N) with los := (24023, loSh sh84x0x24023 (A84x0x24023 N)) :: (h84x0s6 N).los }
theorem al84x0s7 (N : Nat) : AllCuts Try.prog (h84x0s7 N).los 0 84 := AllCuts.cons (al84x0s6 N) one84x0x24023 (law84x0x24023 N)
noncomputable def F84x0x18017 (N : Nat) {R : Type} (w0 : Int) (w1 : Bool) (w3 w4 w5 w6 : Int) (w7 : LB) (w15 w16 w17 w18 : Int) (w19 : LB) (k0 : Ty12 → R) : R :=
  bif w1 then
    k0 (w3, w16, w17, w18, w19)
  else
    bnd (V84x0x24023 N w0 (w0 == 2) w3 w4 w5 w6 w7 w15 w16 w17 w18 w19) fun y0 =>
    k0 y0
noncomputable def V84x0x18017 (N : Nat) (w0 : Int) (w1 : Bool) (w3 w4 w5 w6 : Int) (w7 : LB) (w15 w16 w17 w18 : Int) (w19 : LB) : Ty12 := F84x0x18017 N w0 w1 w3 w4 w5 w6 w7 w15 w16 w17 w18 w19 (fun p => p)
theorem tot84x0x18017 (N : Nat) {R : Type} (w0 : Int) (w1 : Bool) (w3 w4 w5 w6 : Int) (w7 : LB) (w15 w16 w17 w18 : Int) (w19 : LB) (k0 : Ty12 → R) : F84x0x18017 N w0 w1 w3 w4 w5 w6 w7 w15 w16 w17 w18 w19 k0 = k0 (V84x0x18017 N w0 w1 w3 w4 w5 w6 w7 w15 w16 w17 w18 w19) := by
  unfold V84x0x18017 F84x0x18017
  repeat' (first | rfl | apply cond_k | (apply bnd_k; intro _))
noncomputable def J84x0x18017 (N : Nat) (L : List Lf) {R : Type} (k0 : Ty12 → R) : R := F84x0x18017 N (li L 0) (lb L 1) (li L 3) (li L 4) (li L 5) (li L 6) (ls L 7) (li L 15) (li L 16) (li L 17) (li L 18) (ls L 19) k0
noncomputable def sh84x0x18017 : Sh := { tmps := [(1, .c (.p 1 0)), (2, .c (.p 2 0)), (3, .c (.p 3 0)), (8, .c (.i .i64)), (18, .c (.b))], mem := [(1, .box (rI 5 ([.s]))), (2, .box (rI 5 ([.s]))), (3, .box (rI 5 ([.s])))] }
noncomputable def K84x0x18017w0 (L : List Lf) (p : Ty12) : Ex × St := (.normal, ⟨[(2, .c (.p 2 0)), (3, .c (.p 3 0))], [(2, .box (rL L 8 5 ([.s (ls L 13)]))), (3, .box [.i .i64 (li L 14), .i .i64 p.1, .i .i64 p.2.1, .i .i64 p.2.2.1, .i .i64 p.2.2.2.1, .s p.2.2.2.2])]⟩)
noncomputable def A84x0x18017 (N : Nat) (L : List Lf) : List (Bool × (Ex × St)) := bnd (J84x0x18017 N L (fun p => p)) fun q => [(true, K84x0x18017w0 L q)]
theorem raw84x0x18017 (N : Nat) (L : List Lf) : (exec Try.prog (T55x0 N) (h84x0s7 N) 0 100 (piece Try.prog 84 18017) (ofSh sh84x0x18017 L) (fun e st => some (e, cutSt [3, 2] [3, 2] st)) : Option (Ex × St)) = J84x0x18017 N L (fun p => some (K84x0x18017w0 L p)) := by kernel_rfl
theorem one84x0x18017 : oneB Try.prog 84 18017 = true := by kernel_rfl
theorem law84x0x18017 (N : Nat) : CutLaw Try.prog 0 (piece Try.prog 84 18017) (loSh sh84x0x18017 (A84x0x18017 N)) :=
  law_sh progOk (T55x0_ok N) (al84x0s7 N) one84x0x18017 fun L x hx => (raw84x0x18017 N L).trans ((tot84x0x18017 N ..).trans (alt0 _ _ hx))
noncomputable def h84x0s8 (N : Nat) : Hint := { (h84x0s7 N) with los := (18017, loSh sh84x0x18017 (A84x0x18017 N)) :: (h84x0s7 N).los }
theorem al84x0s8 (N : Nat) : AllCuts Try.prog (h84x0s8 N).los 0 84 := AllCuts.cons (al84x0s7 N) one84x0x18017 (law84x0x18017 N)
noncomputable def F84x0 (N : Nat) {R : Type} (v0 v1 v2 v3 v4 : Int) (v5 : LB) (k0 : Ty12 → R) : R :=
  bnd (V84x0x18017 N v0 (v0 == 1) v1 v2 v3 v4 v5 0 0 0 0 ([] : List UInt8)) fun y0 =>
  k0 y0
noncomputable def V84x0 (N : Nat) (v0 v1 v2 v3 v4 : Int) (v5 : LB) : Ty12 := F84x0 N v0 v1 v2 v3 v4 v5 (fun p => p)
theorem tot84x0 (N : Nat) {R : Type} (v0 v1 v2 v3 v4 : Int) (v5 : LB) (k0 : Ty12 → R) : F84x0 N v0 v1 v2 v3 v4 v5 k0 = k0 (V84x0 N v0 v1 v2 v3 v4 v5) := by
  unfold V84x0 F84x0
  repeat' (first | rfl | apply cond_k | (apply bnd_k; intro _))
noncomputable def J84x0 (N : Nat) (L : List Lf) {R : Type} (k0 : Ty12 → R) : R := F84x0 N (li L 0) (li L 1) (li L 2) (li L 3) (li L 4) (ls L 5) k0
noncomputable def sh84x0 : Sh := { tmps := [(0, .g (rI 5 ([.s])))], mem := [] }
noncomputable def K84x0w0 (L : List Lf) (p : Ty12) : Res := ([.g [.i .i64 (li L 0), .i .i64 p.1, .i .i64 p.2.1, .i .i64 p.2.2.1, .i .i64 p.2.2.2.1, .s p.2.2.2.2]], [])
noncomputable def A84x0 (N : Nat) (L : List Lf) : List (Bool × Res) := bnd (J84x0 N L (fun p => p)) fun q => [(true, K84x0w0 L q)]
theorem raw84x0 (N : Nat) (L : List Lf) : (body Try.prog (T55x0 N) (h84x0s8 N) 200 84 (valsOf (ofSh sh84x0 L).tmps) (ofSh sh84x0 L).mem : Option Res) = J84x0 N L (fun p => some (K84x0w0 L p)) := by kernel_rfl
theorem ok84x0 (N : Nat) : ∀ args mem alts, spSh sh84x0 (A84x0 N) args mem = some alts → ∀ res, altK alts some = some res → CallOk Try.prog 84 args mem res :=
  spSh_law fun L x hx => callOk_of (n := 200) progOk (T55x0_ok N) (al84x0s8 N) rfl ((raw84x0 N L).trans ((tot84x0 N ..).trans (alt0 _ _ hx)))
noncomputable def T84x0 (N : Nat) : Oracle := ext 84 (spSh sh84x0 (A84x0 N)) (T55x0 N)
theorem T84x0_ok (N : Nat) : OracleOk Try.prog (T84x0 N) := ext_ok (T55x0_ok N) (enters_of (by kernel_rfl)) (ok84x0 N)
noncomputable def rg56x0 : List (Nat × List Nat) := [(0, [0, 1]), (1, [3, 2]), (2, []), (3, [3, 2]), (4, [3, 2, 5]), (5, [10, 3, 2, 5]), (6, [10, 3, 2, 5]), (8, [10, 3, 2, 5]), (9, [10, 3, 2, 5]), (10, [3, 2]), (7, [3, 2]), (11, [3, 5, 2]), (12, [27, 5, 3, 2]), (13, [27, 5, 3, 2]), (14, [27, 5, 3, 2]), (15, [27, 5, 3, 2]), (16, [27, 5, 3, 2]), (18, [27, 5, 3, 2]), (20, [27, 5, 3, 2]), (21, [5, 3, 2]), (19, [5, 3, 2]), (17, [5, 3, 2]), (22, [3, 5, 2]), (23, [5, 3, 2]), (24, [5, 3, 2]), (25, []), (26, [3, 2]), (27, [2, 3]), (28, []), (29, [3]), (30, []), (31, [])]
noncomputable def hd56x0 : Hints := [(18002, [3, 2, 10, 5, 11], [3, 2], []), (27002, [3, 2, 5, 17, 10], [3, 2], []), (32, [3, 2, 5, 17], [3, 2], []), (24023, [3, 2, 10, 5, 11], [3, 2], []), (48002, [5, 3, 2, 27, 28], [3, 2], []), (45002, [5, 3, 2, 27, 28], [3, 2], []), (42002, [5, 3, 2, 27, 28], [3, 2], []), (39002, [5, 3, 2, 27, 28], [3, 2], []), (52, [5, 3, 2], [3, 2], []), (58, [5, 3, 2], [3, 2], []), (65, [5, 3, 2, 48], [3, 2], []), (60059, [5, 3, 2, 27, 40], [3, 2], []), (54053, [5, 3, 2, 27, 28], [3, 2], []), (70, [5, 3, 2], [3, 2], []), (71, [5, 3, 2, 70], [3, 2], []), (83, [2, 3, 90], [3, 2], [])]
noncomputable def h56x0s0 (N : Nat) : Hint := { loops := hd56x0, regs := rg56x0, los := [] }
theorem al56x0s0 (N : Nat) : AllCuts Try.prog (h56x0s0 N).los 0 56 := AllCuts.nil
noncomputable def F56x0x18002 (N : Nat) {R : Type} (w1 : Int) (w2 : Bool) (k0 : Bool → R) : R :=
  bif w2 then
    k0 true
  else
    k0 (w1 == 2)
noncomputable def V56x0x18002 (N : Nat) (w1 : Int) (w2 : Bool) : Bool := F56x0x18002 N w1 w2 (fun p => p)
theorem tot56x0x18002 (N : Nat) {R : Type} (w1 : Int) (w2 : Bool) (k0 : Bool → R) : F56x0x18002 N w1 w2 k0 = k0 (V56x0x18002 N w1 w2) := by
  unfold V56x0x18002 F56x0x18002
  repeat' (first | rfl | apply cond_k | (apply bnd_k; intro _))
noncomputable def sh56x0x18002 : Sh := { tmps := [(2, .c (.p 2 0)), (3, .c (.p 3 0)), (5, .c (.b)), (10, .c (.i .i64)), (11, .c (.b))], mem := [(2, .box ([.i .i64, .i .i64, .i .i64, .sl 66, .sl 68])), (3, .box (rI 5 ([.s])))] }
noncomputable def K56x0x18002w0 (L : List Lf) (p : Bool) : Ex × St := (.normal, ⟨[(2, .c (.p 2 0)), (3, .c (.p 3 0)), (5, .c (.b (lb L 0))), (10, .c (.i .i64 (li L 1))), (11, .c (.b p))], [(2, .box [.i .i64 (li L 3), .i .i64 (li L 4), .i .i64 (li L 5), .sl 66 (lb L 6) (ll L 7), .sl 68 (lb L 8) (ll L 9)]), (3, .box (rL L 10 5 ([.s (ls L 15)])))]⟩)
noncomputable def A56x0x18002 (N : Nat) (L : List Lf) : List (Bool × (Ex × St)) := bnd (F56x0x18002 N (li L 1) (lb L 2) (fun p => p)) fun q => [(true, K56x0x18002w0 L q)]
theorem raw56x0x18002 (N : Nat) (L : List Lf) : (exec Try.prog (T84x0 N) (h56x0s0 N) 0 100 (piece Try.prog 56 18002) (ofSh sh56x0x18002 L) (fun e st => some (e, cutSt [3, 2, 10, 5, 11] [3, 2] st)) : Option (Ex × St)) = F56x0x18002 N (li L 1) (lb L 2) (fun p => some (K56x0x18002w0 L p)) := by kernel_rfl
theorem one56x0x18002 : oneB Try.prog 56 18002 = true := by kernel_rfl
theorem law56x0x18002 (N : Nat) : CutLaw Try.prog 0 (piece Try.prog 56 18002) (loSh sh56x0x18002 (A56x0x18002 N)) :=
  law_sh progOk (T84x0_ok N) (al56x0s0 N) one56x0x18002 fun L x hx => (raw56x0x18002 N L).trans ((tot56x0x18002 N ..).trans (alt0 _ _ hx))
noncomputable def h56x0s1 (N : Nat) : Hint := { (h56x0s0 N) with los := (18002, loSh sh56x0x18002 (A56x0x18002 N)) :: (h56x0s0 N).los }
theorem al56x0s1 (N : Nat) : AllCuts Try.prog (h56x0s1 N).los 0 56 := AllCuts.cons (al56x0s0 N) one56x0x18002 (law56x0x18002 N)
noncomputable def F56x0x27002 (N : Nat) {R : Type} (w1 : Int) (w2 : Bool) (k0 : Bool → R) : R :=
  bif w2 then
    k0 true
  else
    k0 (w1 == 9)
noncomputable def V56x0x27002 (N : Nat) (w1 : Int) (w2 : Bool) : Bool := F56x0x27002 N w1 w2 (fun p => p)
theorem tot56x0x27002 (N : Nat) {R : Type} (w1 : Int) (w2 : Bool) (k0 : Bool → R) : F56x0x27002 N w1 w2 k0 = k0 (V56x0x27002 N w1 w2) := by
  unfold V56x0x27002 F56x0x27002
  repeat' (first | rfl | apply cond_k | (apply bnd_k; intro _))
noncomputable def sh56x0x27002 : Sh := { tmps := [(2, .c (.p 2 0)), (3, .c (.p 3 0)), (5, .c (.b)), (10, .c (.i .i64)), (17, .c (.b))], mem := [(2, .box ([.i .i64, .i .i64, .i .i64, .sl 66, .sl 68])), (3, .box (rI 5 ([.s])))] }
noncomputable def K56x0x27002w0 (L : List Lf) (p : Bool) : Ex × St := (.normal, ⟨[(2, .c (.p 2 0)), (3, .c (.p 3 0)), (5, .c (.b (lb L 0))), (17, .c (.b p))], [(2, .box [.i .i64 (li L 3), .i .i64 (li L 4), .i .i64 (li L 5), .sl 66 (lb L 6) (ll L 7), .sl 68 (lb L 8) (ll L 9)]), (3, .box (rL L 10 5 ([.s (ls L 15)])))]⟩)
noncomputable def A56x0x27002 (N : Nat) (L : List Lf) : List (Bool × (Ex × St)) := bnd (F56x0x27002 N (li L 1) (lb L 2) (fun p => p)) fun q => [(true, K56x0x27002w0 L q)]
theorem raw56x0x27002 (N : Nat) (L : List Lf) : (exec Try.prog (T84x0 N) (h56x0s1 N) 0 100 (piece Try.prog 56 27002) (ofSh sh56x0x27002 L) (fun e st => some (e, cutSt [3, 2, 5, 17] [3, 2] st)) : Option (Ex × St)) = F56x0x27002 N (li L 1) (lb L 2) (fun p => some (K56x0x27002w0 L p)) := by kernel_rfl
theorem one56x0x27002 : oneB Try.prog 56 27002 = true := by kernel_rfl
theorem law56x0x27002 (N : Nat) : CutLaw Try.prog 0 (piece Try.prog 56 27002) (loSh sh56x0x27002 (A56x0x27002 N)) :=
  law_sh progOk (T84x0_ok N) (al56x0s1 N) one56x0x27002 fun L x hx => (raw56x0x27002 N L).trans ((tot56x0x27002 N ..).trans (alt0 _ _ hx))
noncomputable def h56x0s2 (N : Nat) : Hint := { (h56x0s1 N) with los := (27002, loSh sh56x0x27002 (A56x0x27002 N)) :: (h56x0s1 N).los }
theorem al56x0s2 (N : Nat) : AllCuts Try.prog (h56x0s2 N).los 0 56 := AllCuts.cons (al56x0s1 N) one56x0x27002 (law56x0x27002 N)
noncomputable def F56x0x32 (N : Nat) {R : Type} (w0 w1 : Bool) (w3 w10 : Int) (k0 : Bool → R) : R :=
  bif w1 then
    bnd (V50x0 N w10 0 (IntKind.wrap .i64 (w3 - 1))) fun y0 =>
    k0 y0
  else
    k0 w0
noncomputable def V56x0x32 (N : Nat) (w0 w1 : Bool) (w3 w10 : Int) : Bool := F56x0x32 N w0 w1 w3 w10 (fun p => p)
theorem tot56x0x32 (N : Nat) {R : Type} (w0 w1 : Bool) (w3 w10 : Int) (k0 : Bool → R) : F56x0x32 N w0 w1 w3 w10 k0 = k0 (V56x0x32 N w0 w1 w3 w10) := by
  unfold V56x0x32 F56x0x32
  repeat' (first | rfl | apply cond_k | (apply bnd_k; intro _))
noncomputable def J56x0x32 (N : Nat) (L : List Lf) {R : Type} (k0 : Bool → R) : R := F56x0x32 N (lb L 0) (lb L 1) (li L 3) (li L 10) k0
noncomputable def sh56x0x32 : Sh := { tmps := [(2, .c (.p 2 0)), (3, .c (.p 3 0)), (5, .c (.b)), (17, .c (.b))], mem := [(2, .box ([.i .i64, .i .i64, .i .i64, .sl 66, .sl 68])), (3, .box (rI 5 ([.s])))] }
noncomputable def K56x0x32w0 (L : List Lf) (p : Bool) : Ex × St := (.normal, ⟨[(2, .c (.p 2 0)), (3, .c (.p 3 0)), (5, .c (.b p))], [(2, .box [.i .i64 (li L 2), .i .i64 (li L 3), .i .i64 (li L 4), .sl 66 (lb L 5) (ll L 6), .sl 68 (lb L 7) (ll L 8)]), (3, .box (rL L 9 5 ([.s (ls L 14)])))]⟩)
noncomputable def A56x0x32 (N : Nat) (L : List Lf) : List (Bool × (Ex × St)) := bnd (J56x0x32 N L (fun p => p)) fun q => [(true, K56x0x32w0 L q)]
theorem raw56x0x32 (N : Nat) (L : List Lf) : (exec Try.prog (T84x0 N) (h56x0s2 N) 0 100 (piece Try.prog 56 32) (ofSh sh56x0x32 L) (fun e st => some (e, cutSt [3, 5, 2] [3, 2] st)) : Option (Ex × St)) = J56x0x32 N L (fun p => some (K56x0x32w0 L p)) := by kernel_rfl
theorem one56x0x32 : oneB Try.prog 56 32 = true := by kernel_rfl
theorem law56x0x32 (N : Nat) : CutLaw Try.prog 0 (piece Try.prog 56 32) (loSh sh56x0x32 (A56x0x32 N)) :=
  law_sh progOk (T84x0_ok N) (al56x0s2 N) one56x0x32 fun L x hx => (raw56x0x32 N L).trans ((tot56x0x32 N ..).trans (alt0 _ _ hx))
noncomputable def h56x0s3 (N : Nat) : Hint := { (h56x0s2 N) with los := (32, loSh sh56x0x32 (A56x0x32 N)) :: (h56x0s2 N).los }
theorem al56x0s3 (N : Nat) : AllCuts Try.prog (h56x0s3 N).los 0 56 := AllCuts.cons (al56x0s2 N) one56x0x32 (law56x0x32 N)
noncomputable def F56x0x24023 (N : Nat) {R : Type} (w0 : Bool) (w1 : Int) (w2 : Bool) (w4 w11 : Int) (k0 : Bool → R) : R :=
  bif w2 then
    bnd (V50x0 N w11 0 6) fun y0 =>
    k0 y0
  else
    bnd (V56x0x27002 N w1 (w1 == 8)) fun y1 =>
    bnd (V56x0x32 N w0 y1 w4 w11) fun y2 =>
    k0 y2
noncomputable def V56x0x24023 (N : Nat) (w0 : Bool) (w1 : Int) (w2 : Bool) (w4 w11 : Int) : Bool := F56x0x24023 N w0 w1 w2 w4 w11 (fun p => p)
theorem tot56x0x24023 (N : Nat) {R : Type} (w0 : Bool) (w1 : Int) (w2 : Bool) (w4 w11 : Int) (k0 : Bool → R) : F56x0x24023 N w0 w1 w2 w4 w11 k0 = k0 (V56x0x24023 N w0 w1 w2 w4 w11) := by
  unfold V56x0x24023 F56x0x24023
  repeat' (first | rfl | apply cond_k | (apply bnd_k; intro _))
noncomputable def J56x0x24023 (N : Nat) (L : List Lf) {R : Type} (k0 : Bool → R) : R := F56x0x24023 N (lb L 0) (li L 1) (lb L 2) (li L 4) (li L 11) k0
noncomputable def sh56x0x24023 : Sh := { tmps := [(2, .c (.p 2 0)), (3, .c (.p 3 0)), (5, .c (.b)), (10, .c (.i .i64)), (11, .c (.b))], mem := [(2, .box ([.i .i64, .i .i64, .i .i64, .sl 66, .sl 68])), (3, .box (rI 5 ([.s])))] }
noncomputable def K56x0x24023w0 (L : List Lf) (p : Bool) : Ex × St := (.normal, ⟨[(2, .c (.p 2 0)), (3, .c (.p 3 0)), (5, .c (.b p))], [(2, .box [.i .i64 (li L 3), .i .i64 (li L 4), .i .i64 (li L 5), .sl 66 (lb L 6) (ll L 7), .sl 68 (lb L 8) (ll L 9)]), (3, .box (rL L 10 5 ([.s (ls L 15)])))]⟩)
noncomputable def A56x0x24023 (N : Nat) (L : List Lf) : List (Bool × (Ex × St)) := bnd (J56x0x24023 N L (fun p => p)) fun q => [(true, K56x0x24023w0 L q)]
theorem raw56x0x24023 (N : Nat) (L : List Lf) : (exec Try.prog (T84x0 N) (h56x0s3 N) 0 100 (piece Try.prog 56 24023) (ofSh sh56x0x24023 L) (fun e st => some (e, cutSt [3, 5, 2] [3, 2] st)) : Option (Ex × St)) = J56x0x24023 N L (fun p => some (K56x0x24023w0 L p)) := by kernel_rfl
theorem one56x0x24023 : oneB Try.prog 56 24023 = true := by kernel_rfl
theorem law56x0x24023 (N : Nat) : CutLaw Try.prog 0 (piece Try.prog 56 24023) (loSh sh56x0x24023 (A56x0x24023 N)) :=
  law_sh progOk (T84x0_ok N) (al56x0s3 N) one56x0x24023 fun L x hx => (raw56x0x24023 N L).trans ((tot56x0x24023 N ..).trans (alt0 _ _ hx))
noncomputable def h56x0s4 (N : Nat) : Hint := { (h56x0s3 N) with los := (24023, loSh sh56x0x24023 (A56x0x24023 N)) :: (h56x0s3 N).los }
theorem al56x0s4 (N : Nat) : AllCuts Try.prog (h56x0s4 N).los 0 56 := AllCuts.cons (al56x0s3 N) one56x0x24023 (law56x0x24023 N)
noncomputable def F56x0x48002 (N : Nat) {R : Type} (w1 : Int) (w2 : Bool) (k0 : Bool → R) : R :=
  bif w2 then
    k0 true
  else
    k0 (w1 == 9)
noncomputable def V56x0x48002 (N : Nat) (w1 : Int) (w2 : Bool) : Bool := F56x0x48002 N w1 w2 (fun p => p)
theorem tot56x0x48002 (N : Nat) {R : Type} (w1 : Int) (w2 : Bool) (k0 : Bool → R) : F56x0x48002 N w1 w2 k0 = k0 (V56x0x48002 N w1 w2) := by
  unfold V56x0x48002 F56x0x48002
  repeat' (first | rfl | apply cond_k | (apply bnd_k; intro _))
noncomputable def sh56x0x48002 : Sh := { tmps := [(2, .c (.p 2 0)), (3, .c (.p 3 0)), (5, .c (.b)), (27, .c (.i .i64)), (28, .c (.b))], mem := [(2, .box ([.i .i64, .i .i64, .i .i64, .sl 66, .sl 68])), (3, .box (rI 5 ([.s])))] }
noncomputable def K56x0x48002w0 (L : List Lf) (p : Bool) : Ex × St := (.normal, ⟨[(2, .c (.p 2 0)), (3, .c (.p 3 0)), (5, .c (.b (lb L 0))), (27, .c (.i .i64 (li L 1))), (28, .c (.b p))], [(2, .box [.i .i64 (li L 3), .i .i64 (li L 4), .i .i64 (li L 5), .sl 66 (lb L 6) (ll L 7), .sl 68 (lb L 8) (ll L 9)]), (3, .box (rL L 10 5 ([.s (ls L 15)])))]⟩)
noncomputable def A56x0x48002 (N : Nat) (L : List Lf) : List (Bool × (Ex × St)) := bnd (F56x0x48002 N (li L 1) (lb L 2) (fun p => p)) fun q => [(true, K56x0x48002w0 L q)]
theorem raw56x0x48002 (N : Nat) (L : List Lf) : (exec Try.prog (T84x0 N) (h56x0s4 N) 0 100 (piece Try.prog 56 48002) (ofSh sh56x0x48002 L) (fun e st => some (e, cutSt [5, 3, 2, 27, 28] [3, 2] st)) : Option (Ex × St)) = F56x0x48002 N (li L 1) (lb L 2) (fun p => some (K56x0x48002w0 L p)) := by kernel_rfl
theorem one56x0x48002 : oneB Try.prog 56 48002 = true := by kernel_rfl
theorem law56x0x48002 (N : Nat) : CutLaw Try.prog 0 (piece Try.prog 56 48002) (loSh sh56x0x48002 (A56x0x48002 N)) :=
  law_sh progOk (T84x0_ok N) (al56x0s4 N) one56x0x48002 fun L x hx => (raw56x0x48002 N L).trans ((tot56x0x48002 N ..).trans (alt0 _ _ hx))
noncomputable def h56x0s5 (N : Nat) : Hint := { (h56x0s4 N) with los := (48002, loSh sh56x0x48002 (A56x0x48002 N)) :: (h56x0s4 N).los }
theorem al56x0s5 (N : Nat) : AllCuts Try.prog (h56x0s5 N).los 0 56 := AllCuts.cons (al56x0s4 N) one56x0x48002 (law56x0x48002 N)
noncomputable def F56x0x45002 (N : Nat) {R : Type} (w1 : Int) (w2 : Bool) (k0 : Bool → R) : R :=
  bif w2 then
    k0 true
  else
    bnd (V56x0x48002 N w1 (w1 == 7)) fun y0 =>
    k0 y0
noncomputable def V56x0x45002 (N : Nat) (w1 : Int) (w2 : Bool) : Bool := F56x0x45002 N w1 w2 (fun p => p)
theorem tot56x0x45002 (N : Nat) {R : Type} (w1 : Int) (w2 : Bool) (k0 : Bool → R) : F56x0x45002 N w1 w2 k0 = k0 (V56x0x45002 N w1 w2) := by
  unfold V56x0x45002 F56x0x45002
  repeat' (first | rfl | apply cond_k | (apply bnd_k; intro _))
noncomputable def sh56x0x45002 : Sh := { tmps := [(2, .c (.p 2 0)), (3, .c (.p 3 0)), (5, .c (.b)), (27, .c (.i .i64)), (28, .c (.b))], mem := [(2, .box ([.i .i64, .i .i64, .i .i64, .sl 66, .sl 68])), (3, .box (rI 5 ([.s])))] }
noncomputable def K56x0x45002w0 (L : List Lf) (p : Bool) : Ex × St := (.normal, ⟨[(2, .c (.p 2 0)), (3, .c (.p 3 0)), (5, .c (.b (lb L 0))), (27, .c (.i .i64 (li L 1))), (28, .c (.b p))], [(2, .box [.i .i64 (li L 3), .i .i64 (li L 4), .i .i64 (li L 5), .sl 66 (lb L 6) (ll L 7), .sl 68 (lb L 8) (ll L 9)]), (3, .box (rL L 10 5 ([.s (ls L 15)])))]⟩)
noncomputable def A56x0x45002 (N : Nat) (L : List Lf) : List (Bool × (Ex × St)) := bnd (F56x0x45002 N (li L 1) (lb L 2) (fun p => p)) fun q => [(true, K56x0x45002w0 L q)]
theorem raw56x0x45002 (N : Nat) (L : List Lf) : (exec Try.prog (T84x0 N) (h56x0s5 N) 0 100 (piece Try.prog 56 45002) (ofSh sh56x0x45002 L) (fun e st => some (e, cutSt [5, 3, 2, 27, 28] [3, 2] st)) : Option (Ex × St)) = F56x0x45002 N (li L 1) (lb L 2) (fun p => some (K56x0x45002w0 L p)) := by kernel_rfl
theorem one56x0x45002 : oneB Try.prog 56 45002 = true := by kernel_rfl
theorem law56x0x45002 (N : Nat) : CutLaw Try.prog 0 (piece Try.prog 56 45002) (loSh sh56x0x45002 (A56x0x45002 N)) :=
  law_sh progOk (T84x0_ok N) (al56x0s5 N) one56x0x45002 fun L x hx => (raw56x0x45002 N L).trans ((tot56x0x45002 N ..).trans (alt0 _ _ hx))
noncomputable def h56x0s6 (N : Nat) : Hint := { (h56x0s5 N) with los := (45002, loSh sh56x0x45002 (A56x0x45002 N)) :: (h56x0s5 N).los }
theorem al56x0s6 (N : Nat) : AllCuts Try.prog (h56x0s6 N).los 0 56 := AllCuts.cons (al56x0s5 N) one56x0x45002 (law56x0x45002 N)
noncomputable def F56x0x42002 (N : Nat) {R : Type} (w1 : Int) (w2 : Bool) (k0 : Bool → R) : R :=
  bif w2 then
    k0 true
  else
    bnd (V56x0x45002 N w1 (w1 == 4)) fun y0 =>
    k0 y0
noncomputable def V56x0x42002 (N : Nat) (w1 : Int) (w2 : Bool) : Bool := F56x0x42002 N w1 w2 (fun p => p)
theorem tot56x0x42002 (N : Nat) {R : Type} (w1 : Int) (w2 : Bool) (k0 : Bool → R) : F56x0x42002 N w1 w2 k0 = k0 (V56x0x42002 N w1 w2) := by
  unfold V56x0x42002 F56x0x42002
  repeat' (first | rfl | apply cond_k | (apply bnd_k; intro _))
noncomputable def sh56x0x42002 : Sh := { tmps := [(2, .c (.p 2 0)), (3, .c (.p 3 0)), (5, .c (.b)), (27, .c (.i .i64)), (28, .c (.b))], mem := [(2, .box ([.i .i64, .i .i64, .i .i64, .sl 66, .sl 68])), (3, .box (rI 5 ([.s])))] }
noncomputable def K56x0x42002w0 (L : List Lf) (p : Bool) : Ex × St := (.normal, ⟨[(2, .c (.p 2 0)), (3, .c (.p 3 0)), (5, .c (.b (lb L 0))), (27, .c (.i .i64 (li L 1))), (28, .c (.b p))], [(2, .box [.i .i64 (li L 3), .i .i64 (li L 4), .i .i64 (li L 5), .sl 66 (lb L 6) (ll L 7), .sl 68 (lb L 8) (ll L 9)]), (3, .box (rL L 10 5 ([.s (ls L 15)])))]⟩)
noncomputable def A56x0x42002 (N : Nat) (L : List Lf) : List (Bool × (Ex × St)) := bnd (F56x0x42002 N (li L 1) (lb L 2) (fun p => p)) fun q => [(true, K56x0x42002w0 L q)]
theorem raw56x0x42002 (N : Nat) (L : List Lf) : (exec Try.prog (T84x0 N) (h56x0s6 N) 0 100 (piece Try.prog 56 42002) (ofSh sh56x0x42002 L) (fun e st => some (e, cutSt [5, 3, 2, 27, 28] [3, 2] st)) : Option (Ex × St)) = F56x0x42002 N (li L 1) (lb L 2) (fun p => some (K56x0x42002w0 L p)) := by kernel_rfl
theorem one56x0x42002 : oneB Try.prog 56 42002 = true := by kernel_rfl
theorem law56x0x42002 (N : Nat) : CutLaw Try.prog 0 (piece Try.prog 56 42002) (loSh sh56x0x42002 (A56x0x42002 N)) :=
  law_sh progOk (T84x0_ok N) (al56x0s6 N) one56x0x42002 fun L x hx => (raw56x0x42002 N L).trans ((tot56x0x42002 N ..).trans (alt0 _ _ hx))
noncomputable def h56x0s7 (N : Nat) : Hint := { (h56x0s6 N) with los := (42002, loSh sh56x0x42002 (A56x0x42002 N)) :: (h56x0s6 N).los }
theorem al56x0s7 (N : Nat) : AllCuts Try.prog (h56x0s7 N).los 0 56 := AllCuts.cons (al56x0s6 N) one56x0x42002 (law56x0x42002 N)
noncomputable def F56x0x39002 (N : Nat) {R : Type} (w1 : Int) (w2 : Bool) (k0 : Bool → R) : R :=
  bif w2 then
    k0 true
  else
    bnd (V56x0x42002 N w1 (w1 == 3)) fun y0 =>
    k0 y0
noncomputable def V56x0x39002 (N : Nat) (w1 : Int) (w2 : Bool) : Bool := F56x0x39002 N w1 w2 (fun p => p)
theorem tot56x0x39002 (N : Nat) {R : Type} (w1 : Int) (w2 : Bool) (k0 : Bool → R) : F56x0x39002 N w1 w2 k0 = k0 (V56x0x39002 N w1 w2) := by
  unfold V56x0x39002 F56x0x39002
  repeat' (first | rfl | apply cond_k | (apply bnd_k; intro _))
noncomputable def sh56x0x39002 : Sh := { tmps := [(2, .c (.p 2 0)), (3, .c (.p 3 0)), (5, .c (.b)), (27, .c (.i .i64)), (28, .c (.b))], mem := [(2, .box ([.i .i64, .i .i64, .i .i64, .sl 66, .sl 68])), (3, .box (rI 5 ([.s])))] }
noncomputable def K56x0x39002w0 (L : List Lf) (p : Bool) : Ex × St := (.normal, ⟨[(2, .c (.p 2 0)), (3, .c (.p 3 0)), (5, .c (.b (lb L 0))), (27, .c (.i .i64 (li L 1))), (28, .c (.b p))], [(2, .box [.i .i64 (li L 3), .i .i64 (li L 4), .i .i64 (li L 5), .sl 66 (lb L 6) (ll L 7), .sl 68 (lb L 8) (ll L 9)]), (3, .box (rL L 10 5 ([.s (ls L 15)])))]⟩)
noncomputable def A56x0x39002 (N : Nat) (L : List Lf) : List (Bool × (Ex × St)) := bnd (F56x0x39002 N (li L 1) (lb L 2) (fun p => p)) fun q => [(true, K56x0x39002w0 L q)]
theorem raw56x0x39002 (N : Nat) (L : List Lf) : (exec Try.prog (T84x0 N) (h56x0s7 N) 0 100 (piece Try.prog 56 39002) (ofSh sh56x0x39002 L) (fun e st => some (e, cutSt [5, 3, 2, 27, 28] [3, 2] st)) : Option (Ex × St)) = F56x0x39002 N (li L 1) (lb L 2) (fun p => some (K56x0x39002w0 L p)) := by kernel_rfl
theorem one56x0x39002 : oneB Try.prog 56 39002 = true := by kernel_rfl
theorem law56x0x39002 (N : Nat) : CutLaw Try.prog 0 (piece Try.prog 56 39002) (loSh sh56x0x39002 (A56x0x39002 N)) :=
  law_sh progOk (T84x0_ok N) (al56x0s7 N) one56x0x39002 fun L x hx => (raw56x0x39002 N L).trans ((tot56x0x39002 N ..).trans (alt0 _ _ hx))
noncomputable def h56x0s8 (N : Nat) : Hint := { (h56x0s7 N) with los := (39002, loSh sh56x0x39002 (A56x0x39002 N)) :: (h56x0s7 N).los }
theorem al56x0s8 (N : Nat) : AllCuts Try.prog (h56x0s8 N).los 0 56 := AllCuts.cons (al56x0s7 N) one56x0x39002 (law56x0x39002 N)
noncomputable def F56x0x52 (N : Nat) {R : Type} (w0 : Bool) (w10 : Int) (k0 : Bool → R) : R :=
  bif w0 then
    k0 true
  else
    bnd (V50x0 N w10 0 100000) fun y0 =>
    k0 y0
noncomputable def V56x0x52 (N : Nat) (w0 : Bool) (w10 : Int) : Bool := F56x0x52 N w0 w10 (fun p => p)
theorem tot56x0x52 (N : Nat) {R : Type} (w0 : Bool) (w10 : Int) (k0 : Bool → R) : F56x0x52 N w0 w10 k0 = k0 (V56x0x52 N w0 w10) := by
  unfold V56x0x52 F56x0x52
  repeat' (first | rfl | apply cond_k | (apply bnd_k; intro _))
noncomputable def sh56x0x52 : Sh := { tmps := [(2, .c (.p 2 0)), (3, .c (.p 3 0)), (5, .c (.b))], mem := [(2, .box ([.i .i64, .i .i64, .i .i64, .sl 66, .sl 68])), (3, .box (rI 5 ([.s])))] }
noncomputable def K56x0x52w0 (L : List Lf) (p : Bool) : Ex × St := (.normal, ⟨[(2, .c (.p 2 0)), (3, .c (.p 3 0)), (5, .c (.b p))], [(2, .box [.i .i64 (li L 1), .i .i64 (li L 2), .i .i64 (li L 3), .sl 66 (lb L 4) (ll L 5), .sl 68 (lb L 6) (ll L 7)]), (3, .box (rL L 8 5 ([.s (ls L 13)])))]⟩)
noncomputable def A56x0x52 (N : Nat) (L : List Lf) : List (Bool × (Ex × St)) := bnd (F56x0x52 N (lb L 0) (li L 10) (fun p => p)) fun q => [(true, K56x0x52w0 L q)]
theorem raw56x0x52 (N : Nat) (L : List Lf) : (exec Try.prog (T84x0 N) (h56x0s8 N) 0 100 (piece Try.prog 56 52) (ofSh sh56x0x52 L) (fun e st => some (e, cutSt [3, 5, 2] [3, 2] st)) : Option (Ex × St)) = F56x0x52 N (lb L 0) (li L 10) (fun p => some (K56x0x52w0 L p)) := by kernel_rfl
theorem one56x0x52 : oneB Try.prog 56 52 = true := by kernel_rfl
theorem law56x0x52 (N : Nat) : CutLaw Try.prog 0 (piece Try.prog 56 52) (loSh sh56x0x52 (A56x0x52 N)) :=
  law_sh progOk (T84x0_ok N) (al56x0s8 N) one56x0x52 fun L x hx => (raw56x0x52 N L).trans ((tot56x0x52 N ..).trans (alt0 _ _ hx))
noncomputable def h56x0s9 (N : Nat) : Hint := { (h56x0s8 N) with los := (52, loSh sh56x0x52 (A56x0x52 N)) :: (h56x0s8 N).los }
theorem al56x0s9 (N : Nat) : AllCuts Try.prog (h56x0s9 N).los 0 56 := AllCuts.cons (al56x0s8 N) one56x0x52 (law56x0x52 N)
noncomputable def F56x0x58 (N : Nat) {R : Type} (w0 : Bool) (w10 : Int) (k0 : Bool → R) : R :=
  bif w0 then
    k0 true
  else
    bnd (V50x0 N w10 1 14) fun y0 =>
    k0 y0
noncomputable def V56x0x58 (N : Nat) (w0 : Bool) (w10 : Int) : Bool := F56x0x58 N w0 w10 (fun p => p)
theorem tot56x0x58 (N : Nat) {R : Type} (w0 : Bool) (w10 : Int) (k0 : Bool → R) : F56x0x58 N w0 w10 k0 = k0 (V56x0x58 N w0 w10) := by
  unfold V56x0x58 F56x0x58
  repeat' (first | rfl | apply cond_k | (apply bnd_k; intro _))
noncomputable def sh56x0x58 : Sh := { tmps := [(2, .c (.p 2 0)), (3, .c (.p 3 0)), (5, .c (.b))], mem := [(2, .box ([.i .i64, .i .i64, .i .i64, .sl 66, .sl 68])), (3, .box (rI 5 ([.s])))] }
noncomputable def K56x0x58w0 (L : List Lf) (p : Bool) : Ex × St := (.normal, ⟨[(2, .c (.p 2 0)), (3, .c (.p 3 0)), (5, .c (.b p))], [(2, .box [.i .i64 (li L 1), .i .i64 (li L 2), .i .i64 (li L 3), .sl 66 (lb L 4) (ll L 5), .sl 68 (lb L 6) (ll L 7)]), (3, .box (rL L 8 5 ([.s (ls L 13)])))]⟩)
noncomputable def A56x0x58 (N : Nat) (L : List Lf) : List (Bool × (Ex × St)) := bnd (F56x0x58 N (lb L 0) (li L 10) (fun p => p)) fun q => [(true, K56x0x58w0 L q)]
theorem raw56x0x58 (N : Nat) (L : List Lf) : (exec Try.prog (T84x0 N) (h56x0s9 N) 0 100 (piece Try.prog 56 58) (ofSh sh56x0x58 L) (fun e st => some (e, cutSt [3, 5, 2] [3, 2] st)) : Option (Ex × St)) = F56x0x58 N (lb L 0) (li L 10) (fun p => some (K56x0x58w0 L p)) := by kernel_rfl
theorem one56x0x58 : oneB Try.prog 56 58 = true := by kernel_rfl
theorem law56x0x58 (N : Nat) : CutLaw Try.prog 0 (piece Try.prog 56 58) (loSh sh56x0x58 (A56x0x58 N)) :=
  law_sh progOk (T84x0_ok N) (al56x0s9 N) one56x0x58 fun L x hx => (raw56x0x58 N L).trans ((tot56x0x58 N ..).trans (alt0 _ _ hx))
noncomputable def h56x0s10 (N : Nat) : Hint := { (h56x0s9 N) with los := (58, loSh sh56x0x58 (A56x0x58 N)) :: (h56x0s9 N).los }
theorem al56x0s10 (N : Nat) : AllCuts Try.prog (h56x0s10 N).los 0 56 := AllCuts.cons (al56x0s9 N) one56x0x58 (law56x0x58 N)
noncomputable def F56x0x65 (N : Nat) {R : Type} (w0 w1 : Bool) (w12 w13 : Int) (k0 : Bool → R) : R :=
  bif w1 then
    bnd (bif (bif w0 then true else (decide (w12 < 0))) then true else (decide (w12 > w13))) fun y0 =>
    k0 (bif y0 then true else (decide (w13 > 7)))
  else
    k0 w0
noncomputable def V56x0x65 (N : Nat) (w0 w1 : Bool) (w12 w13 : Int) : Bool := F56x0x65 N w0 w1 w12 w13 (fun p => p)
theorem tot56x0x65 (N : Nat) {R : Type} (w0 w1 : Bool) (w12 w13 : Int) (k0 : Bool → R) : F56x0x65 N w0 w1 w12 w13 k0 = k0 (V56x0x65 N w0 w1 w12 w13) := by
  unfold V56x0x65 F56x0x65
  repeat' (first | rfl | apply cond_k | (apply bnd_k; intro _))
noncomputable def J56x0x65 (N : Nat) (L : List Lf) {R : Type} (k0 : Bool → R) : R := F56x0x65 N (lb L 0) (lb L 1) (li L 12) (li L 13) k0
noncomputable def sh56x0x65 : Sh := { tmps := [(2, .c (.p 2 0)), (3, .c (.p 3 0)), (5, .c (.b)), (48, .c (.b))], mem := [(2, .box ([.i .i64, .i .i64, .i .i64, .sl 66, .sl 68])), (3, .box (rI 5 ([.s])))] }
noncomputable def K56x0x65w0 (L : List Lf) (p : Bool) : Ex × St := (.normal, ⟨[(2, .c (.p 2 0)), (3, .c (.p 3 0)), (5, .c (.b p))], [(2, .box [.i .i64 (li L 2), .i .i64 (li L 3), .i .i64 (li L 4), .sl 66 (lb L 5) (ll L 6), .sl 68 (lb L 7) (ll L 8)]), (3, .box (rL L 9 5 ([.s (ls L 14)])))]⟩)
noncomputable def A56x0x65 (N : Nat) (L : List Lf) : List (Bool × (Ex × St)) := bnd (J56x0x65 N L (fun p => p)) fun q => [(true, K56x0x65w0 L q)]
theorem raw56x0x65 (N : Nat) (L : List Lf) : (exec Try.prog (T84x0 N) (h56x0s10 N) 0 100 (piece Try.prog 56 65) (ofSh sh56x0x65 L) (fun e st => some (e, cutSt [3, 5, 2] [3, 2] st)) : Option (Ex × St)) = J56x0x65 N L (fun p => some (K56x0x65w0 L p)) := by kernel_rfl
theorem one56x0x65 : oneB Try.prog 56 65 = true := by kernel_rfl
theorem law56x0x65 (N : Nat) : CutLaw Try.prog 0 (piece Try.prog 56 65) (loSh sh56x0x65 (A56x0x65 N)) :=
  law_sh progOk (T84x0_ok N) (al56x0s10 N) one56x0x65 fun L x hx => (raw56x0x65 N L).trans ((tot56x0x65 N ..).trans (alt0 _ _ hx))
noncomputable def h56x0s11 (N : Nat) : Hint := { (h56x0s10 N) with los := (65, loSh sh56x0x65 (A56x0x65 N)) :: (h56x0s10 N).los }
theorem al56x0s11 (N : Nat) : AllCuts Try.prog (h56x0s11 N).los 0 56 := AllCuts.cons (al56x0s10 N) one56x0x65 (law56x0x65 N)
noncomputable def F56x0x60059 (N : Nat) {R : Type} (w0 : Bool) (w1 : Int) (w2 : Bool) (w12 w13 w14 : Int) (k0 : Bool → R) : R :=
  bif w2 then
    bnd (V56x0x58 N w0 w12) fun y0 =>
    k0 y0
  else
    bnd (V56x0x65 N w0 (w1 == 6) w13 w14) fun y1 =>
    k0 y1
noncomputable def V56x0x60059 (N : Nat) (w0 : Bool) (w1 : Int) (w2 : Bool) (w12 w13 w14 : Int) : Bool := F56x0x60059 N w0 w1 w2 w12 w13 w14 (fun p => p)
theorem tot56x0x60059 (N : Nat) {R : Type} (w0 : Bool) (w1 : Int) (w2 : Bool) (w12 w13 w14 : Int) (k0 : Bool → R) : F56x0x60059 N w0 w1 w2 w12 w13 w14 k0 = k0 (V56x0x60059 N w0 w1 w2 w12 w13 w14) := by
  unfold V56x0x60059 F56x0x60059
  repeat' (first | rfl | apply cond_k | (apply bnd_k; intro _))
noncomputable def J56x0x60059 (N : Nat) (L : List Lf) {R : Type} (k0 : Bool → R) : R := F56x0x60059 N (lb L 0) (li L 1) (lb L 2) (li L 12) (li L 13) (li L 14) k0
noncomputable def sh56x0x60059 : Sh := { tmps := [(2, .c (.p 2 0)), (3, .c (.p 3 0)), (5, .c (.b)), (27, .c (.i .i64)), (40, .c (.b))], mem := [(2, .box ([.i .i64, .i .i64, .i .i64, .sl 66, .sl 68])), (3, .box (rI 5 ([.s])))] }
noncomputable def K56x0x60059w0 (L : List Lf) (p : Bool) : Ex × St := (.normal, ⟨[(2, .c (.p 2 0)), (3, .c (.p 3 0)), (5, .c (.b p))], [(2, .box [.i .i64 (li L 3), .i .i64 (li L 4), .i .i64 (li L 5), .sl 66 (lb L 6) (ll L 7), .sl 68 (lb L 8) (ll L 9)]), (3, .box (rL L 10 5 ([.s (ls L 15)])))]⟩)
noncomputable def A56x0x60059 (N : Nat) (L : List Lf) : List (Bool × (Ex × St)) := bnd (J56x0x60059 N L (fun p => p)) fun q => [(true, K56x0x60059w0 L q)]
theorem raw56x0x60059 (N : Nat) (L : List Lf) : (exec Try.prog (T84x0 N) (h56x0s11 N) 0 100 (piece Try.prog 56 60059) (ofSh sh56x0x60059 L) (fun e st => some (e, cutSt [3, 5, 2] [3, 2] st)) : Option (Ex × St)) = J56x0x60059 N L (fun p => some (K56x0x60059w0 L p)) := by kernel_rfl
theorem one56x0x60059 : oneB Try.prog 56 60059 = true := by kernel_rfl
theorem law56x0x60059 (N : Nat) : CutLaw Try.prog 0 (piece Try.prog 56 60059) (loSh sh56x0x60059 (A56x0x60059 N)) :=
  law_sh progOk (T84x0_ok N) (al56x0s11 N) one56x0x60059 fun L x hx => (raw56x0x60059 N L).trans ((tot56x0x60059 N ..).trans (alt0 _ _ hx))
noncomputable def h56x0s12 (N : Nat) : Hint := { (h56x0s11 N) with los := (60059, loSh sh56x0x60059 (A56x0x60059 N)) :: (h56x0s11 N).los }
theorem al56x0s12 (N : Nat) : AllCuts Try.prog (h56x0s12 N).los 0 56 := AllCuts.cons (al56x0s11 N) one56x0x60059 (law56x0x60059 N)
noncomputable def F56x0x54053 (N : Nat) {R : Type} (w0 : Bool) (w1 : Int) (w2 : Bool) (w12 w13 w14 : Int) (k0 : Bool → R) : R :=
  bif w2 then
    bnd (V56x0x52 N w0 w12) fun y0 =>
    k0 y0
  else
    bnd (V56x0x60059 N w0 w1 (w1 == 5) w12 w13 w14) fun y1 =>
    k0 y1
noncomputable def V56x0x54053 (N : Nat) (w0 : Bool) (w1 : Int) (w2 : Bool) (w12 w13 w14 : Int) : Bool := F56x0x54053 N w0 w1 w2 w12 w13 w14 (fun p => p)
theorem tot56x0x54053 (N : Nat) {R : Type} (w0 : Bool) (w1 : Int) (w2 : Bool) (w12 w13 w14 : Int) (k0 : Bool → R) : F56x0x54053 N w0 w1 w2 w12 w13 w14 k0 = k0 (V56x0x54053 N w0 w1 w2 w12 w13 w14) := by
  unfold V56x0x54053 F56x0x54053
  repeat' (first | rfl | apply cond_k | (apply bnd_k; intro _))
noncomputable def J56x0x54053 (N : Nat) (L : List Lf) {R : Type} (k0 : Bool → R) : R := F56x0x54053 N (lb L 0) (li L 1) (lb L 2) (li L 12) (li L 13) (li L 14) k0
noncomputable def sh56x0x54053 : Sh := { tmps := [(2, .c (.p 2 0)), (3, .c (.p 3 0)), (5, .c (.b)), (27, .c (.i .i64)), (28, .c (.b))], mem := [(2, .box ([.i .i64, .i .i64, .i .i64, .sl 66, .sl 68])), (3, .box (rI 5 ([.s])))] }
noncomputable def K56x0x54053w0 (L : List Lf) (p : Bool) : Ex × St := (.normal, ⟨[(2, .c (.p 2 0)), (3, .c (.p 3 0)), (5, .c (.b p))], [(2, .box [.i .i64 (li L 3), .i .i64 (li L 4), .i .i64 (li L 5), .sl 66 (lb L 6) (ll L 7), .sl 68 (lb L 8) (ll L 9)]), (3, .box (rL L 10 5 ([.s (ls L 15)])))]⟩)
noncomputable def A56x0x54053 (N : Nat) (L : List Lf) : List (Bool × (Ex × St)) := bnd (J56x0x54053 N L (fun p => p)) fun q => [(true, K56x0x54053w0 L q)]
theorem raw56x0x54053 (N : Nat) (L : List Lf) : (exec Try.prog (T84x0 N) (h56x0s12 N) 0 100 (piece Try.prog 56 54053) (ofSh sh56x0x54053 L) (fun e st => some (e, cutSt [3, 5, 2] [3, 2] st)) : Option (Ex × St)) = J56x0x54053 N L (fun p => some (K56x0x54053w0 L p)) := by kernel_rfl
theorem one56x0x54053 : oneB Try.prog 56 54053 = true := by kernel_rfl
theorem law56x0x54053 (N : Nat) : CutLaw Try.prog 0 (piece Try.prog 56 54053) (loSh sh56x0x54053 (A56x0x54053 N)) :=
  law_sh progOk (T84x0_ok N) (al56x0s12 N) one56x0x54053 fun L x hx => (raw56x0x54053 N L).trans ((tot56x0x54053 N ..).trans (alt0 _ _ hx))
noncomputable def h56x0s13 (N : Nat) : Hint := { (h56x0s12 N) with los := (54053, loSh sh56x0x54053 (A56x0x54053 N)) :: (h56x0s12 N).los }
theorem al56x0s13 (N : Nat) : AllCuts Try.prog (h56x0s13 N).los 0 56 := AllCuts.cons (al56x0s12 N) one56x0x54053 (law56x0x54053 N)
noncomputable def F56x0x70 (N : Nat) {R : Type} (w0 : Bool) (w11 : Int) (k0 : Bool → R) : R :=
  bif w0 then
    k0 true
  else
    bnd (V50x0 N w11 1 14) fun y0 =>
    k0 y0
noncomputable def V56x0x70 (N : Nat) (w0 : Bool) (w11 : Int) : Bool := F56x0x70 N w0 w11 (fun p => p)
theorem tot56x0x70 (N : Nat) {R : Type} (w0 : Bool) (w11 : Int) (k0 : Bool → R) : F56x0x70 N w0 w11 k0 = k0 (V56x0x70 N w0 w11) := by
  unfold V56x0x70 F56x0x70
  repeat' (first | rfl | apply cond_k | (apply bnd_k; intro _))
noncomputable def sh56x0x70 : Sh := { tmps := [(2, .c (.p 2 0)), (3, .c (.p 3 0)), (5, .c (.b))], mem := [(2, .box ([.i .i64, .i .i64, .i .i64, .sl 66, .sl 68])), (3, .box (rI 5 ([.s])))] }
noncomputable def K56x0x70w0 (L : List Lf) (p : Bool) : Ex × St := (.normal, ⟨[(2, .c (.p 2 0)), (3, .c (.p 3 0)), (5, .c (.b p))], [(2, .box [.i .i64 (li L 1), .i .i64 (li L 2), .i .i64 (li L 3), .sl 66 (lb L 4) (ll L 5), .sl 68 (lb L 6) (ll L 7)]), (3, .box (rL L 8 5 ([.s (ls L 13)])))]⟩)
noncomputable def A56x0x70 (N : Nat) (L : List Lf) : List (Bool × (Ex × St)) := bnd (F56x0x70 N (lb L 0) (li L 11) (fun p => p)) fun q => [(true, K56x0x70w0 L q)]
theorem raw56x0x70 (N : Nat) (L : List Lf) : (exec Try.prog (T84x0 N) (h56x0s13 N) 0 100 (piece Try.prog 56 70) (ofSh sh56x0x70 L) (fun e st => some (e, cutSt [5, 3, 2] [3, 2] st)) : Option (Ex × St)) = F56x0x70 N (lb L 0) (li L 11) (fun p => some (K56x0x70w0 L p)) := by kernel_rfl
theorem one56x0x70 : oneB Try.prog 56 70 = true := by kernel_rfl
theorem law56x0x70 (N : Nat) : CutLaw Try.prog 0 (piece Try.prog 56 70) (loSh sh56x0x70 (A56x0x70 N)) :=
  law_sh progOk (T84x0_ok N) (al56x0s13 N) one56x0x70 fun L x hx => (raw56x0x70 N L).trans ((tot56x0x70 N ..).trans (alt0 _ _ hx))
noncomputable def h56x0s14 (N : Nat) : Hint := { (h56x0s13 N) with los := (70, loSh sh56x0x70 (A56x0x70 N)) :: (h56x0s13 N).los }
theorem al56x0s14 (N : Nat) : AllCuts Try.prog (h56x0s14 N).los 0 56 := AllCuts.cons (al56x0s13 N) one56x0x70 (law56x0x70 N)
noncomputable def F56x0x71 (N : Nat) {R : Type} (w0 w1 : Bool) (w12 : Int) (k0 : Bool → R) : R :=
  bif w1 then
    bnd (V56x0x70 N w0 w12) fun y0 =>
    k0 y0
  else
    k0 w0
noncomputable def V56x0x71 (N : Nat) (w0 w1 : Bool) (w12 : Int) : Bool := F56x0x71 N w0 w1 w12 (fun p => p)
theorem tot56x0x71 (N : Nat) {R : Type} (w0 w1 : Bool) (w12 : Int) (k0 : Bool → R) : F56x0x71 N w0 w1 w12 k0 = k0 (V56x0x71 N w0 w1 w12) := by
  unfold V56x0x71 F56x0x71
  repeat' (first | rfl | apply cond_k | (apply bnd_k; intro _))
noncomputable def sh56x0x71 : Sh := { tmps := [(2, .c (.p 2 0)), (3, .c (.p 3 0)), (5, .c (.b)), (70, .c (.b))], mem := [(2, .box ([.i .i64, .i .i64, .i .i64, .sl 66, .sl 68])), (3, .box (rI 5 ([.s])))] }
noncomputable def K56x0x71w0 (L : List Lf) (p : Bool) : Ex × St := (.normal, ⟨[(2, .c (.p 2 0)), (3, .c (.p 3 0)), (5, .c (.b p))], [(2, .box [.i .i64 (li L 2), .i .i64 (li L 3), .i .i64 (li L 4), .sl 66 (lb L 5) (ll L 6), .sl 68 (lb L 7) (ll L 8)]), (3, .box (rL L 9 5 ([.s (ls L 14)])))]⟩)
noncomputable def A56x0x71 (N : Nat) (L : List Lf) : List (Bool × (Ex × St)) := bnd (F56x0x71 N (lb L 0) (lb L 1) (li L 12) (fun p => p)) fun q => [(true, K56x0x71w0 L q)]
theorem raw56x0x71 (N : Nat) (L : List Lf) : (exec Try.prog (T84x0 N) (h56x0s14 N) 0 100 (piece Try.prog 56 71) (ofSh sh56x0x71 L) (fun e st => some (e, cutSt [5, 3, 2] [3, 2] st)) : Option (Ex × St)) = F56x0x71 N (lb L 0) (lb L 1) (li L 12) (fun p => some (K56x0x71w0 L p)) := by kernel_rfl
theorem one56x0x71 : oneB Try.prog 56 71 = true := by kernel_rfl
theorem law56x0x71 (N : Nat) : CutLaw Try.prog 0 (piece Try.prog 56 71) (loSh sh56x0x71 (A56x0x71 N)) :=
  law_sh progOk (T84x0_ok N) (al56x0s14 N) one56x0x71 fun L x hx => (raw56x0x71 N L).trans ((tot56x0x71 N ..).trans (alt0 _ _ hx))
noncomputable def h56x0s15 (N : Nat) : Hint := { (h56x0s14 N) with los := (71, loSh sh56x0x71 (A56x0x71 N)) :: (h56x0s14 N).los }
theorem al56x0s15 (N : Nat) : AllCuts Try.prog (h56x0s15 N).los 0 56 := AllCuts.cons (al56x0s14 N) one56x0x71 (law56x0x71 N)
noncomputable def F56x0x83 (N : Nat) {R : Type} (w0 : Bool) (w5 : LD) (w13 : LB) (k0 : Unit → Option R) (k1 : Unit → Option R) : Option R :=
  bif w0 then
    bnd (G55x0 N w5 w13) fun y0 =>
    bif y0.isSome then
      bif (decide ((y0.getD default) < 0)) then
        k0 ()
      else
        k1 ()
    else
      none
  else
    k1 ()
noncomputable def G56x0x83 (N : Nat) (w0 : Bool) (w5 : LD) (w13 : LB) : Option (Sum (Unit) (Unit)) := F56x0x83 N w0 w5 w13 (fun p => some (.inl p)) (fun p => some (.inr p))
theorem bind56x0x83 (N : Nat) {R : Type} (w0 : Bool) (w5 : LD) (w13 : LB) (k0 : Unit → Option R) (k1 : Unit → Option R) : F56x0x83 N w0 w5 w13 k0 k1 = (G56x0x83 N w0 w5 w13).bind (sumE k0 k1) := by
  unfold G56x0x83 F56x0x83
  repeat' (first | rfl | apply cond_b | (apply bnd_b; intro _))
noncomputable def sh56x0x83 : Sh := { tmps := [(2, .c (.p 2 0)), (3, .c (.p 3 0)), (90, .c (.b))], mem := [(2, .box ([.i .i64, .i .i64, .i .i64, .sl 66, .sl 68])), (3, .box (rI 5 ([.s])))] }
noncomputable def K56x0x83w0 (L : List Lf) (_ : Unit) : Ex × St := (.ret, ⟨[(4, .c (.i .i64 4))], [(3, .box (rL L 8 5 ([.s (ls L 13)])))]⟩)
noncomputable def K56x0x83w1 (L : List Lf) (_ : Unit) : Ex × St := (.normal, ⟨[(3, .c (.p 3 0))], [(3, .box (rL L 8 5 ([.s (ls L 13)])))]⟩)
noncomputable def A56x0x83 (N : Nat) (L : List Lf) : List (Bool × (Ex × St)) := bnd (F56x0x83 N (lb L 0) (ll L 5) (ls L 13) (fun p => some (.inl p)) (fun p => some (.inr p))) fun q => [((inlB q), K56x0x83w0 L ()), ((inrQ q).isSome, K56x0x83w1 L ())]
theorem raw56x0x83 (N : Nat) (L : List Lf) : (exec Try.prog (T84x0 N) (h56x0s15 N) 0 100 (piece Try.prog 56 83) (ofSh sh56x0x83 L) (fun e st => some (e, cutSt [3, 4] [3] st)) : Option (Ex × St)) = F56x0x83 N (lb L 0) (ll L 5) (ls L 13) (fun _ => some (K56x0x83w0 L ())) (fun _ => some (K56x0x83w1 L ())) := by kernel_rfl
theorem one56x0x83 : oneB Try.prog 56 83 = true := by kernel_rfl
theorem law56x0x83 (N : Nat) : CutLaw Try.prog 0 (piece Try.prog 56 83) (loSh sh56x0x83 (A56x0x83 N)) :=
  law_sh progOk (T84x0_ok N) (al56x0s15 N) one56x0x83 fun L x hx => (raw56x0x83 N L).trans ((bind56x0x83 N ..).trans ((altS alt1) x hx))
noncomputable def h56x0s16 (N : Nat) : Hint := { (h56x0s15 N) with los := (83, loSh sh56x0x83 (A56x0x83 N)) :: (h56x0s15 N).los }
theorem al56x0s16 (N : Nat) : AllCuts Try.prog (h56x0s16 N).los 0 56 := AllCuts.cons (al56x0s15 N) one56x0x83 (law56x0x83 N)
noncomputable def F56x0 (N : Nat) {R : Type} (v1 : Int) (v4 : LD) (v7 v8 v9 v10 v11 : Int) (v12 : LB) (k0 : Int → Option R) : Option R :=
  bnd (V50x0 N v7 1 9) fun y0 =>
  bif y0 then
    k0 7
  else
    bnd (V56x0x18002 N v7 (v7 == 1)) fun y1 =>
    bnd (V56x0x24023 N false v7 y1 v1 v8) fun y2 =>
    bnd (V56x0x39002 N v7 (v7 == 2)) fun y3 =>
    bnd (V56x0x54053 N y2 v7 y3 v9 v10 v11) fun y4 =>
    bnd (V56x0x71 N y4 (v7 == 9) v10) fun y5 =>
    bif y5 then
      k0 9
    else
      bnd (bif (v7 == 6) then true else (bif (v7 == 8) then (!(v12 == ([] : List UInt8))) else false)) fun y6 =>
      bnd (G56x0x83 N y6 v4 v12) fun y7 =>
      bif (inlB y7) then
        k0 4
      else
        bif (inrQ y7).isSome then
          bnd (V84x0 N v7 v8 v9 v10 v11 v12) fun y8 =>
          bnd (!((v7 == v7) && ((y8.1 == v8) && ((y8.2.1 == v9) && ((y8.2.2.1 == v10) && ((y8.2.2.2.1 == v11) && ((y8.2.2.2.2 == v12) && true))))))) fun y9 =>
          bif y9 then
            k0 2
          else
            k0 0
        else
          none
noncomputable def G56x0 (N : Nat) (v1 : Int) (v4 : LD) (v7 v8 v9 v10 v11 : Int) (v12 : LB) : Option (Int) := F56x0 N v1 v4 v7 v8 v9 v10 v11 v12 (fun p => some p)
theorem bind56x0 (N : Nat) {R : Type} (v1 : Int) (v4 : LD) (v7 v8 v9 v10 v11 : Int) (v12 : LB) (k0 : Int → Option R) : F56x0 N v1 v4 v7 v8 v9 v10 v11 v12 k0 = (G56x0 N v1 v4 v7 v8 v9 v10 v11 v12).bind k0 := by
  unfold G56x0 F56x0
  repeat' (first | rfl | apply cond_b | (apply bnd_b; intro _))
noncomputable def J56x0 (N : Nat) (L : List Lf) {R : Type} (k0 : Int → Option R) : Option R := F56x0 N (li L 1) (ll L 4) (li L 7) (li L 8) (li L 9) (li L 10) (li L 11) (ls L 12) k0
noncomputable def sh56x0 : Sh := { tmps := [(0, .g ([.i .i64, .i .i64, .i .i64, .sl 66, .sl 68])), (1, .g (rI 5 ([.s])))], mem := [] }
noncomputable def A56x0 (N : Nat) (L : List Lf) : List (Bool × Res) := bnd (J56x0 N L (fun p => some p)) fun q => [(q.isSome, ([.c (.i .i64 (q.getD default))], []))]
theorem raw56x0 (N : Nat) (L : List Lf) : (body Try.prog (T84x0 N) (h56x0s16 N) 200 56 (valsOf (ofSh sh56x0 L).tmps) (ofSh sh56x0 L).mem : Option Res) = J56x0 N L (fun p => some ([.c (.i .i64 p)], [])) := by kernel_rfl
theorem ok56x0 (N : Nat) : ∀ args mem alts, spSh sh56x0 (A56x0 N) args mem = some alts → ∀ res, altK alts some = some res → CallOk Try.prog 56 args mem res :=
  spSh_law fun L x hx => callOk_of (n := 200) progOk (T84x0_ok N) (al56x0s16 N) rfl ((raw56x0 N L).trans ((bind56x0 N ..).trans (alt1 x hx)))
noncomputable def T56x0 (N : Nat) : Oracle := ext 56 (spSh sh56x0 (A56x0 N)) (T84x0 N)
theorem T56x0_ok (N : Nat) : OracleOk Try.prog (T56x0 N) := ext_ok (T84x0_ok N) (enters_of (by kernel_rfl)) (ok56x0 N)
noncomputable def rg20x0 : List (Nat × List Nat) := [(0, [0]), (1, [1]), (2, []), (3, [1]), (4, []), (5, [1]), (6, [34, 33, 32, 1]), (7, [34, 32, 1, 33]), (8, [4, 1, 3, 34, 33, 32]), (9, []), (10, [1, 4, 3, 34, 33, 32]), (11, []), (12, [4, 34, 33, 32, 1]), (13, []), (14, [34, 33, 32, 1]), (15, [1]), (16, [66, 65, 64, 1]), (17, [64, 66, 1, 65]), (18, [1, 6, 66, 65, 64]), (19, [7, 66, 65, 64, 1]), (20, [7]), (21, [66, 65, 64, 1]), (22, [])]
noncomputable def hd20x0 : Hints := [(4, [1], [1], []), (18, [34, 33, 32, 1], [1], []), (37, [4, 34, 33, 32, 1], [4, 1], []), (48, [66, 65, 64, 1], [1], [])]
noncomputable def h20x0s0 (N : Nat) : Hint := { loops := hd20x0, regs := rg20x0, los := [] }
theorem al20x0s0 (N : Nat) : AllCuts Try.prog (h20x0s0 N).los 0 20 := AllCuts.nil
noncomputable def F20x0x4 (N : Nat) {R : Type} (w0 w1 w2 : Int) (k0 : Bool → R) : R :=
  bnd (V50x0 N w0 0 999985) fun y0 =>
  bif y0 then
    k0 true
  else
    bnd (V50x0 N w1 1 14) fun y1 =>
    bif y1 then
      k0 true
    else
      bnd (V50x0 N w2 0 100000) fun y2 =>
      k0 y2
noncomputable def V20x0x4 (N : Nat) (w0 w1 w2 : Int) : Bool := F20x0x4 N w0 w1 w2 (fun p => p)
theorem tot20x0x4 (N : Nat) {R : Type} (w0 w1 w2 : Int) (k0 : Bool → R) : F20x0x4 N w0 w1 w2 k0 = k0 (V20x0x4 N w0 w1 w2) := by
  unfold V20x0x4 F20x0x4
  repeat' (first | rfl | apply cond_k | (apply bnd_k; intro _))
noncomputable def sh20x0x4 : Sh := { tmps := [(1, .c (.p 1 0))], mem := [(1, .box ([.i .i64, .i .i64, .i .i64, .sl 66, .sl 68]))] }
noncomputable def K20x0x4w0 (L : List Lf) (p : Bool) : Ex × St := (.normal, ⟨[(1, .c (.p 1 0)), (20, .c (.b p))], [(1, .box [.i .i64 (li L 0), .i .i64 (li L 1), .i .i64 (li L 2), .sl 66 (lb L 3) (ll L 4), .sl 68 (lb L 5) (ll L 6)])]⟩)
noncomputable def A20x0x4 (N : Nat) (L : List Lf) : List (Bool × (Ex × St)) := bnd (F20x0x4 N (li L 0) (li L 1) (li L 2) (fun p => p)) fun q => [(true, K20x0x4w0 L q)]
theorem raw20x0x4 (N : Nat) (L : List Lf) : (exec Try.prog (T56x0 N) (h20x0s0 N) 0 100 (piece Try.prog 20 4) (ofSh sh20x0x4 L) (fun e st => some (e, cutSt [1, 20] [1] st)) : Option (Ex × St)) = F20x0x4 N (li L 0) (li L 1) (li L 2) (fun p => some (K20x0x4w0 L p)) := by kernel_rfl
theorem one20x0x4 : oneB Try.prog 20 4 = true := by kernel_rfl
theorem law20x0x4 (N : Nat) : CutLaw Try.prog 0 (piece Try.prog 20 4) (loSh sh20x0x4 (A20x0x4 N)) :=
  law_sh progOk (T56x0_ok N) (al20x0s0 N) one20x0x4 fun L x hx => (raw20x0x4 N L).trans ((tot20x0x4 N ..).trans (alt0 _ _ hx))
noncomputable def h20x0s1 (N : Nat) : Hint := { (h20x0s0 N) with los := (4, loSh sh20x0x4 (A20x0x4 N)) :: (h20x0s0 N).los }
theorem al20x0s1 (N : Nat) : AllCuts Try.prog (h20x0s1 N).los 0 20 := AllCuts.cons (al20x0s0 N) one20x0x4 (law20x0x4 N)
noncomputable def F20x0x37 (N : Nat) {R : Type} (w12 w13 w14 : Int) (k0 : Bool → R) : R :=
  bnd (V50x0 N w12 0 1000) fun y0 =>
  bif y0 then
    k0 true
  else
    bnd (V50x0 N w13 0 1000) fun y1 =>
    bif y1 then
      k0 true
    else
      bnd (V50x0 N w14 0 1000) fun y2 =>
      k0 y2
noncomputable def V20x0x37 (N : Nat) (w12 w13 w14 : Int) : Bool := F20x0x37 N w12 w13 w14 (fun p => p)
theorem tot20x0x37 (N : Nat) {R : Type} (w12 w13 w14 : Int) (k0 : Bool → R) : F20x0x37 N w12 w13 w14 k0 = k0 (V20x0x37 N w12 w13 w14) := by
  unfold V20x0x37 F20x0x37
  repeat' (first | rfl | apply cond_k | (apply bnd_k; intro _))
noncomputable def sh20x0x37 : Sh := { tmps := [(1, .c (.p 1 0)), (4, .c (.p 4 0)), (32, .c (.sl 66)), (33, .c (.i .i64)), (34, .c (.i .i64))], mem := [(1, .box ([.i .i64, .i .i64, .i .i64, .sl 66, .sl 68])), (4, .box ([.s, .i .i64, .i .i64, .i .i64, .b]))] }
noncomputable def K20x0x37w0 (L : List Lf) (p : Bool) : Ex × St := (.normal, ⟨[(1, .c (.p 1 0)), (32, .c (.sl 66 (lb L 0) (ll L 1))), (33, .c (.i .i64 (li L 2))), (34, .c (.i .i64 (li L 3))), (61, .c (.b p))], [(1, .box [.i .i64 (li L 4), .i .i64 (li L 5), .i .i64 (li L 6), .sl 66 (lb L 7) (ll L 8), .sl 68 (lb L 9) (ll L 10)])]⟩)
noncomputable def A20x0x37 (N : Nat) (L : List Lf) : List (Bool × (Ex × St)) := bnd (F20x0x37 N (li L 12) (li L 13) (li L 14) (fun p => p)) fun q => [(true, K20x0x37w0 L q)]
theorem raw20x0x37 (N : Nat) (L : List Lf) : (exec Try.prog (T56x0 N) (h20x0s1 N) 0 100 (piece Try.prog 20 37) (ofSh sh20x0x37 L) (fun e st => some (e, cutSt [34, 33, 32, 1, 61] [1] st)) : Option (Ex × St)) = F20x0x37 N (li L 12) (li L 13) (li L 14) (fun p => some (K20x0x37w0 L p)) := by kernel_rfl
theorem one20x0x37 : oneB Try.prog 20 37 = true := by kernel_rfl
theorem law20x0x37 (N : Nat) : CutLaw Try.prog 0 (piece Try.prog 20 37) (loSh sh20x0x37 (A20x0x37 N)) :=
  law_sh progOk (T56x0_ok N) (al20x0s1 N) one20x0x37 fun L x hx => (raw20x0x37 N L).trans ((tot20x0x37 N ..).trans (alt0 _ _ hx))
noncomputable def h20x0s2 (N : Nat) : Hint := { (h20x0s1 N) with los := (37, loSh sh20x0x37 (A20x0x37 N)) :: (h20x0s1 N).los }
theorem al20x0s2 (N : Nat) : AllCuts Try.prog (h20x0s2 N).los 0 20 := AllCuts.cons (al20x0s1 N) one20x0x37 (law20x0x37 N)
noncomputable def K20x0x18w0 (w4 w5 w6 : Int) (w7 : Bool) (w8 : LD) (w9 : Bool) (w10 : LD) (p : Int) : Ex × St := (.ret, ⟨[(2, .c (.i .i64 p))], [(1, .box [.i .i64 w4, .i .i64 w5, .i .i64 w6, .sl 66 w7 w8, .sl 68 w9 w10])]⟩)
noncomputable def K20x0x18w1 (w4 w5 w6 : Int) (w7 : Bool) (w8 : LD) (w9 : Bool) (w10 : LD) (_ : Unit) : Ex × St := ((.exit 0), ⟨[(1, .c (.p 1 0))], [(1, .box [.i .i64 w4, .i .i64 w5, .i .i64 w6, .sl 66 w7 w8, .sl 68 w9 w10])]⟩)
noncomputable def P20x0x18 (w0 : Bool) (w1 : LD) (w2 w3 w4 w5 w6 : Int) (w7 : Bool) (w8 : LD) (w9 : Bool) (w10 : LD) : St := ⟨[(1, .c (.p 1 0)), (32, .c (.sl 66 w0 w1)), (33, .c (.i .i64 w2)), (34, .c (.i .i64 w3))], [(1, .box [.i .i64 w4, .i .i64 w5, .i .i64 w6, .sl 66 w7 w8, .sl 68 w9 w10])]⟩
noncomputable def S20x0x18 (N : Nat) {R : Type} (w1 : LD) (w2 : Int) (w8 : LD) (w3 : Int) (kr : Int → Option R) (k0 : Int → Option R) (k1 : Unit → Option R) : Option R :=
  bif (decide (w3 < w2)) then
    bif (inB w3 w1.length) then
      bnd (G54x0 N ((w1.getD w3.toNat (.i 0)).cell 0).toS) fun y0 =>
      bif y0.isSome then
        bif (!(y0.getD default)) then
          k0 8
        else
          bnd (G55x0 N w8 ((w1.getD w3.toNat (.i 0)).cell 0).toS) fun y1 =>
          bif y1.isSome then
            bif (decide ((y1.getD default) < w3)) then
              k0 5
            else
              bnd (V20x0x37 N ((w1.getD w3.toNat (.i 0)).cell 1).toI ((w1.getD w3.toNat (.i 0)).cell 2).toI ((w1.getD w3.toNat (.i 0)).cell 3).toI) fun y2 =>
              bif y2 then
                k0 9
              else
                kr (IntKind.wrap .i64 (w3 + 1))
          else
            none
      else
        none
    else
      none
  else
    k1 ()
theorem mono20x0x18 (N : Nat) {R : Type} (w1 : LD) (w2 : Int) (w8 : LD) (w3 : Int) {kr kr' : Int → Option R} (k0 : Int → Option R) (k1 : Unit → Option R) {r : R} (hk : ∀ w3', kr w3' = some r → kr' w3' = some r) : S20x0x18 N w1 w2 w8 w3 kr k0 k1 = some r → S20x0x18 N w1 w2 w8 w3 kr' k0 k1 = some r := by
  unfold S20x0x18
  repeat' (first | exact hk _ | exact fun h => h | apply cond_mono | (apply bnd_mono; intro _))
noncomputable def L20x0x18 (N : Nat) {R : Type} (w1 : LD) (w2 : Int) (w8 : LD) : Nat → Int → (Int → Option R) → (Unit → Option R) → Option R
  | 0, _, _, _ => none
  | m + 1, w3, k0, k1 => S20x0x18 N w1 w2 w8 w3 (fun w3 => L20x0x18 N w1 w2 w8 m w3 k0 k1) k0 k1
theorem lp20x0x18 : piece Try.prog 20 18 = .loop (loopB (piece Try.prog 20 18)) := by kernel_rfl
theorem nl20x0x18 (N : Nat) : lawOf (h20x0s2 N) (.loop (loopB (piece Try.prog 20 18))) = none := by kernel_rfl
theorem cl20x0x18 (N : Nat) (w0 : Bool) (w1 : LD) (w2 w4 w5 w6 : Int) (w7 : Bool) (w8 : LD) (w9 : Bool) (w10 : LD) (w3 : Int) : clearSt Try.prog 0 (h20x0s2 N).loops 18 (P20x0x18 w0 w1 w2 w3 w4 w5 w6 w7 w8 w9 w10) = (P20x0x18 w0 w1 w2 w3 w4 w5 w6 w7 w8 w9 w10) := by kernel_rfl
theorem step20x0x18 (N : Nat) (m : Nat) (kn : St → Option (Ex × St)) (w0 : Bool) (w1 : LD) (w2 w4 w5 w6 : Int) (w7 : Bool) (w8 : LD) (w9 : Bool) (w10 : LD) (w3 : Int) : exec Try.prog (T56x0 N) (h20x0s2 N) 0 (m + 100) (loopB (piece Try.prog 20 18)) (P20x0x18 w0 w1 w2 w3 w4 w5 w6 w7 w8 w9 w10) (reK (fun st => kn (clearSt Try.prog 0 (h20x0s2 N).loops 18 st)) (fun e st => some (e, cutSt [2, 1] [1] st))) = S20x0x18 N w1 w2 w8 w3 (fun w3 => kn (P20x0x18 w0 w1 w2 w3 w4 w5 w6 w7 w8 w9 w10)) (fun p => some (K20x0x18w0 w4 w5 w6 w7 w8 w9 w10 p)) (fun _ => some (K20x0x18w1 w4 w5 w6 w7 w8 w9 w10 ())) := by kernel_rfl
theorem run20x0x18 (N : Nat) (w0 : Bool) (w1 : LD) (w2 w4 w5 w6 : Int) (w7 : Bool) (w8 : LD) (w9 : Bool) (w10 : LD) : ∀ (m : Nat) (w3 : Int) (x : Ex × St), L20x0x18 N w1 w2 w8 m w3 (fun p => some (K20x0x18w0 w4 w5 w6 w7 w8 w9 w10 p)) (fun _ => some (K20x0x18w1 w4 w5 w6 w7 w8 w9 w10 ())) = some x → exec Try.prog (T56x0 N) (h20x0s2 N) 0 (m + 101) (.loop (loopB (piece Try.prog 20 18))) (P20x0x18 w0 w1 w2 w3 w4 w5 w6 w7 w8 w9 w10) (fun e st => some (e, cutSt [2, 1] [1] st)) = some x := by
  intro m
  induction m with
  | zero => intro w3 x h; cases h
  | succ m ih =>
    intro w3 x h
    exact loop_round (n := m + 101) (nl20x0x18 N) (by kernel_rfl) (cl20x0x18 N ..) (fun kn => step20x0x18 N (m + 1) kn ..) (mono20x0x18 N _ _ _ _ _ _ (fun w3 => ih w3 x) h)
noncomputable def G20x0x18 (N : Nat) (w1 : LD) (w2 : Int) (w8 : LD) (w3 : Int) : Option (Sum (Int) (Unit)) := L20x0x18 N (R := (Sum (Int) (Unit))) w1 w2 w8 N w3 (fun p => some (.inl p)) (fun p => some (.inr p))
theorem sb20x0x18 (N : Nat) {R A : Type} (w1 : LD) (w2 : Int) (w8 : LD) (w3 : Int) (kr : Int → Option R) (kr' : Int → Option A) (k0 : Int → Option R) (k1 : Unit → Option R) (j0 : Int → Option A) (j1 : Unit → Option A) (K : A → Option R) (hr : ∀ w3', kr w3' = (kr' w3').bind K) (h0 : ∀ p, k0 p = (j0 p).bind K) (h1 : ∀ p, k1 p = (j1 p).bind K) : S20x0x18 N w1 w2 w8 w3 kr k0 k1 = (S20x0x18 N w1 w2 w8 w3 kr' j0 j1).bind K := by
  unfold S20x0x18
  repeat' (first | rfl | apply hr | apply h0 | apply h1 | apply cond_b | (apply bnd_b; intro _))
theorem lbind20x0x18 (N : Nat) {R : Type} (w1 : LD) (w2 : Int) (w8 : LD) : ∀ (m : Nat) (w3 : Int) (k0 : Int → Option R) (k1 : Unit → Option R), L20x0x18 N w1 w2 w8 m w3 k0 k1 = (L20x0x18 N (R := (Sum (Int) (Unit))) w1 w2 w8 m w3 (fun p => some (.inl p)) (fun p => some (.inr p))).bind (sumE k0 k1) := by
  intro m
  induction m with
  | zero => intros; rfl
  | succ m ih =>
    intro w3 k0 k1
    exact sb20x0x18 N _ _ _ _ _ _ _ _ _ _ _ (fun w3 => ih w3 k0 k1) (fun _ => rfl) (fun _ => rfl)
theorem one20x0x18 : oneB Try.prog 20 18 = true := by kernel_rfl
noncomputable def sh20x0x18 : Sh := { tmps := [(1, .c (.p 1 0)), (32, .c (.sl 66)), (33, .c (.i .i64)), (34, .c (.i .i64))], mem := [(1, .box ([.i .i64, .i .i64, .i .i64, .sl 66, .sl 68]))] }
noncomputable def A20x0x18 (N : Nat) (L : List Lf) : List (Bool × (Ex × St)) := bnd (G20x0x18 N (ll L 1) (li L 2) (ll L 8) (li L 3)) fun q => [((inlB q), K20x0x18w0 (li L 4) (li L 5) (li L 6) (lb L 7) (ll L 8) (lb L 9) (ll L 10) (inlV q)), ((inrQ q).isSome, K20x0x18w1 (li L 4) (li L 5) (li L 6) (lb L 7) (ll L 8) (lb L 9) (ll L 10) ())]
theorem eq20x0x18 (L : List Lf) : ofSh sh20x0x18 L = (P20x0x18 (lb L 0) (ll L 1) (li L 2) (li L 3) (li L 4) (li L 5) (li L 6) (lb L 7) (ll L 8) (lb L 9) (ll L 10)) := by kernel_rfl
theorem law20x0x18 (N : Nat) : CutLaw Try.prog 0 (piece Try.prog 20 18) (loSh sh20x0x18 (A20x0x18 N)) :=
  law_shL progOk (T56x0_ok N) (al20x0s2 N) one20x0x18 lp20x0x18 eq20x0x18 fun L x hx => run20x0x18 N _ _ _ _ _ _ _ _ _ _ N _ x ((lbind20x0x18 N _ _ _ N _ _ _).trans ((altS alt1) x hx))
noncomputable def h20x0s3 (N : Nat) : Hint := { (h20x0s2 N) with los := (18, loSh sh20x0x18 (A20x0x18 N)) :: (h20x0s2 N).los }
theorem al20x0s3 (N : Nat) : AllCuts Try.prog (h20x0s3 N).los 0 20 := AllCuts.cons (al20x0s2 N) one20x0x18 (law20x0x18 N)
noncomputable def P20x0x48 (w0 : Bool) (w1 : LD) (w2 w3 w4 w5 w6 : Int) (w7 : Bool) (w8 : LD) (w9 : Bool) (w10 : LD) : St := ⟨[(1, .c (.p 1 0)), (64, .c (.sl 68 w0 w1)), (65, .c (.i .i64 w2)), (66, .c (.i .i64 w3))], [(1, .box [.i .i64 w4, .i .i64 w5, .i .i64 w6, .sl 66 w7 w8, .sl 68 w9 w10])]⟩
noncomputable def S20x0x48 (N : Nat) {R : Type} (w1 : LD) (w2 w5 : Int) (w8 : LD) (w3 : Int) (kr : Int → Option R) (k0 : Int → Option R) (k1 : Unit → Option R) : Option R :=
  bif (decide (w3 < w2)) then
    bif (inB w3 w1.length) then
      bnd (G56x0 N w5 w8 ((w1.getD w3.toNat (.i 0)).cell 0).toI ((w1.getD w3.toNat (.i 0)).cell 1).toI ((w1.getD w3.toNat (.i 0)).cell 2).toI ((w1.getD w3.toNat (.i 0)).cell 3).toI ((w1.getD w3.toNat (.i 0)).cell 4).toI ((w1.getD w3.toNat (.i 0)).cell 5).toS) fun y0 =>
      bif y0.isSome then
        bif ((y0.getD default) != 0) then
          k0 (y0.getD default)
        else
          kr (IntKind.wrap .i64 (w3 + 1))
      else
        none
    else
      none
  else
    k1 ()
theorem mono20x0x48 (N : Nat) {R : Type} (w1 : LD) (w2 w5 : Int) (w8 : LD) (w3 : Int) {kr kr' : Int → Option R} (k0 : Int → Option R) (k1 : Unit → Option R) {r : R} (hk : ∀ w3', kr w3' = some r → kr' w3' = some r) : S20x0x48 N w1 w2 w5 w8 w3 kr k0 k1 = some r → S20x0x48 N w1 w2 w5 w8 w3 kr' k0 k1 = some r := by
  unfold S20x0x48
  repeat' (first | exact hk _ | exact fun h => h | apply cond_mono | (apply bnd_mono; intro _))
noncomputable def L20x0x48 (N : Nat) {R : Type} (w1 : LD) (w2 w5 : Int) (w8 : LD) : Nat → Int → (Int → Option R) → (Unit → Option R) → Option R
  | 0, _, _, _ => none
  | m + 1, w3, k0, k1 => S20x0x48 N w1 w2 w5 w8 w3 (fun w3 => L20x0x48 N w1 w2 w5 w8 m w3 k0 k1) k0 k1
theorem lp20x0x48 : piece Try.prog 20 48 = .loop (loopB (piece Try.prog 20 48)) := by kernel_rfl
theorem nl20x0x48 (N : Nat) : lawOf (h20x0s3 N) (.loop (loopB (piece Try.prog 20 48))) = none := by kernel_rfl
theorem cl20x0x48 (N : Nat) (w0 : Bool) (w1 : LD) (w2 w4 w5 w6 : Int) (w7 : Bool) (w8 : LD) (w9 : Bool) (w10 : LD) (w3 : Int) : clearSt Try.prog 0 (h20x0s3 N).loops 48 (P20x0x48 w0 w1 w2 w3 w4 w5 w6 w7 w8 w9 w10) = (P20x0x48 w0 w1 w2 w3 w4 w5 w6 w7 w8 w9 w10) := by kernel_rfl
theorem step20x0x48 (N : Nat) (m : Nat) (kn : St → Option (Ex × St)) (w0 : Bool) (w1 : LD) (w2 w4 w5 w6 : Int) (w7 : Bool) (w8 : LD) (w9 : Bool) (w10 : LD) (w3 : Int) : exec Try.prog (T56x0 N) (h20x0s3 N) 0 (m + 100) (loopB (piece Try.prog 20 48)) (P20x0x48 w0 w1 w2 w3 w4 w5 w6 w7 w8 w9 w10) (reK (fun st => kn (clearSt Try.prog 0 (h20x0s3 N).loops 48 st)) (fun e st => some (e, cutSt [2] [] st))) = S20x0x48 N w1 w2 w5 w8 w3 (fun w3 => kn (P20x0x48 w0 w1 w2 w3 w4 w5 w6 w7 w8 w9 w10)) (fun p => some (.ret, ⟨[(2, .c (.i .i64 p))], []⟩)) (fun _ => some ((.exit 2), ⟨[], []⟩)) := by kernel_rfl
theorem run20x0x48 (N : Nat) (w0 : Bool) (w1 : LD) (w2 w4 w5 w6 : Int) (w7 : Bool) (w8 : LD) (w9 : Bool) (w10 : LD) : ∀ (m : Nat) (w3 : Int) (x : Ex × St), L20x0x48 N w1 w2 w5 w8 m w3 (fun p => some (.ret, ⟨[(2, .c (.i .i64 p))], []⟩)) (fun _ => some ((.exit 2), ⟨[], []⟩)) = some x → exec Try.prog (T56x0 N) (h20x0s3 N) 0 (m + 101) (.loop (loopB (piece Try.prog 20 48))) (P20x0x48 w0 w1 w2 w3 w4 w5 w6 w7 w8 w9 w10) (fun e st => some (e, cutSt [2] [] st)) = some x := by
  intro m
  induction m with
  | zero => intro w3 x h; cases h
  | succ m ih =>
    intro w3 x h
    exact loop_round (n := m + 101) (nl20x0x48 N) (by kernel_rfl) (cl20x0x48 N ..) (fun kn => step20x0x48 N (m + 1) kn ..) (mono20x0x48 N _ _ _ _ _ _ _ (fun w3 => ih w3 x) h)
noncomputable def G20x0x48 (N : Nat) (w1 : LD) (w2 w5 : Int) (w8 : LD) (w3 : Int) : Option (Sum (Int) (Unit)) := L20x0x48 N (R := (Sum (Int) (Unit))) w1 w2 w5 w8 N w3 (fun p => some (.inl p)) (fun p => some (.inr p))
theorem sb20x0x48 (N : Nat) {R A : Type} (w1 : LD) (w2 w5 : Int) (w8 : LD) (w3 : Int) (kr : Int → Option R) (kr' : Int → Option A) (k0 : Int → Option R) (k1 : Unit → Option R) (j0 : Int → Option A) (j1 : Unit → Option A) (K : A → Option R) (hr : ∀ w3', kr w3' = (kr' w3').bind K) (h0 : ∀ p, k0 p = (j0 p).bind K) (h1 : ∀ p, k1 p = (j1 p).bind K) : S20x0x48 N w1 w2 w5 w8 w3 kr k0 k1 = (S20x0x48 N w1 w2 w5 w8 w3 kr' j0 j1).bind K := by
  unfold S20x0x48
  repeat' (first | rfl | apply hr | apply h0 | apply h1 | apply cond_b | (apply bnd_b; intro _))
theorem lbind20x0x48 (N : Nat) {R : Type} (w1 : LD) (w2 w5 : Int) (w8 : LD) : ∀ (m : Nat) (w3 : Int) (k0 : Int → Option R) (k1 : Unit → Option R), L20x0x48 N w1 w2 w5 w8 m w3 k0 k1 = (L20x0x48 N (R := (Sum (Int) (Unit))) w1 w2 w5 w8 m w3 (fun p => some (.inl p)) (fun p => some (.inr p))).bind (sumE k0 k1) := by
  intro m
  induction m with
  | zero => intros; rfl
  | succ m ih =>
    intro w3 k0 k1
    exact sb20x0x48 N _ _ _ _ _ _ _ _ _ _ _ _ (fun w3 => ih w3 k0 k1) (fun _ => rfl) (fun _ => rfl)
theorem one20x0x48 : oneB Try.prog 20 48 = true := by kernel_rfl
noncomputable def sh20x0x48 : Sh := { tmps := [(1, .c (.p 1 0)), (64, .c (.sl 68)), (65, .c (.i .i64)), (66, .c (.i .i64))], mem := [(1, .box ([.i .i64, .i .i64, .i .i64, .sl 66, .sl 68]))] }
noncomputable def A20x0x48 (N : Nat) (L : List Lf) : List (Bool × (Ex × St)) := bnd (G20x0x48 N (ll L 1) (li L 2) (li L 5) (ll L 8) (li L 3)) fun q => [((inlB q), (.ret, ⟨[(2, .c (.i .i64 (inlV q)))], []⟩)), ((inrQ q).isSome, ((.exit 2), ⟨[], []⟩))]
theorem eq20x0x48 (L : List Lf) : ofSh sh20x0x48 L = (P20x0x48 (lb L 0) (ll L 1) (li L 2) (li L 3) (li L 4) (li L 5) (li L 6) (lb L 7) (ll L 8) (lb L 9) (ll L 10)) := by kernel_rfl
theorem law20x0x48 (N : Nat) : CutLaw Try.prog 0 (piece Try.prog 20 48) (loSh sh20x0x48 (A20x0x48 N)) :=
  law_shL progOk (T56x0_ok N) (al20x0s3 N) one20x0x48 lp20x0x48 eq20x0x48 fun L x hx => run20x0x48 N _ _ _ _ _ _ _ _ _ _ N _ x ((lbind20x0x48 N _ _ _ _ N _ _ _).trans ((altS alt1) x hx))
noncomputable def h20x0s4 (N : Nat) : Hint := { (h20x0s3 N) with los := (48, loSh sh20x0x48 (A20x0x48 N)) :: (h20x0s3 N).los }
theorem al20x0s4 (N : Nat) : AllCuts Try.prog (h20x0s4 N).los 0 20 := AllCuts.cons (al20x0s3 N) one20x0x48 (law20x0x48 N)
noncomputable def F20x0 (N : Nat) {R : Type} (v0 v1 v2 : Int) (v4 v6 : LD) (k0 : Int → Option R) : Option R :=
  bnd (V20x0x4 N v0 v1 v2) fun y0 =>
  bif y0 then
    k0 9
  else
    bnd (bif (decide ((v4.length : Int) > 4)) then true else (decide ((v6.length : Int) > 12))) fun y1 =>
    bif y1 then
      k0 3
    else
      bnd (G20x0x18 N v4 (v4.length : Int) v4 0) fun y2 =>
      bif (inlB y2) then
        k0 (inlV y2)
      else
        bif (inrQ y2).isSome then
          bnd (G20x0x48 N v6 (v6.length : Int) v1 v4 0) fun y3 =>
          bif (inlB y3) then
            k0 (inlV y3)
          else
            bif (inrQ y3).isSome then
              k0 0
            else
              none
        else
          none
noncomputable def G20x0 (N : Nat) (v0 v1 v2 : Int) (v4 v6 : LD) : Option (Int) := F20x0 N v0 v1 v2 v4 v6 (fun p => some p)
theorem bind20x0 (N : Nat) {R : Type} (v0 v1 v2 : Int) (v4 v6 : LD) (k0 : Int → Option R) : F20x0 N v0 v1 v2 v4 v6 k0 = (G20x0 N v0 v1 v2 v4 v6).bind k0 := by
  unfold G20x0 F20x0
  repeat' (first | rfl | apply cond_b | (apply bnd_b; intro _))
noncomputable def J20x0 (N : Nat) (L : List Lf) {R : Type} (k0 : Int → Option R) : Option R := F20x0 N (li L 0) (li L 1) (li L 2) (ll L 4) (ll L 6) k0
noncomputable def sh20x0 : Sh := { tmps := [(0, .g ([.i .i64, .i .i64, .i .i64, .sl 66, .sl 68]))], mem := [] }
noncomputable def A20x0 (N : Nat) (L : List Lf) : List (Bool × Res) := bnd (J20x0 N L (fun p => some p)) fun q => [(q.isSome, ([.c (.i .i64 (q.getD default))], []))]
theorem raw20x0 (N : Nat) (L : List Lf) : (body Try.prog (T56x0 N) (h20x0s4 N) 200 20 (valsOf (ofSh sh20x0 L).tmps) (ofSh sh20x0 L).mem : Option Res) = J20x0 N L (fun p => some ([.c (.i .i64 p)], [])) := by kernel_rfl
theorem ok20x0 (N : Nat) : ∀ args mem alts, spSh sh20x0 (A20x0 N) args mem = some alts → ∀ res, altK alts some = some res → CallOk Try.prog 20 args mem res :=
  spSh_law fun L x hx => callOk_of (n := 200) progOk (T56x0_ok N) (al20x0s4 N) rfl ((raw20x0 N L).trans ((bind20x0 N ..).trans (alt1 x hx)))
noncomputable def T20x0 (N : Nat) : Oracle := ext 20 (spSh sh20x0 (A20x0 N)) (T56x0 N)
theorem T20x0_ok (N : Nat) : OracleOk Try.prog (T20x0 N) := ext_ok (T56x0_ok N) (enters_of (by kernel_rfl)) (ok20x0 N)
noncomputable def rg73x0 : List (Nat × List Nat) := [(0, [0, 1]), (1, [1, 2]), (2, [9, 8, 7, 2]), (3, [7, 9, 2, 8]), (4, [6, 2, 9, 8, 7]), (5, []), (6, [9, 8, 7, 2]), (7, [])]
noncomputable def hd73x0 : Hints := [(6, [9, 8, 7, 2], [2], [])]
noncomputable def h73x0s0 (N : Nat) : Hint := { loops := hd73x0, regs := rg73x0, los := [] }
theorem al73x0s0 (N : Nat) : AllCuts Try.prog (h73x0s0 N).los 0 73 := AllCuts.nil
noncomputable def P73x0x6 (w0 : Bool) (w1 : LD) (w2 w3 w4 w5 w6 : Int) (w7 : Bool) (w8 : LD) (w9 : Bool) (w10 : LD) : St := ⟨[(2, .c (.p 2 0)), (7, .c (.sl 3 w0 w1)), (8, .c (.i .i64 w2)), (9, .c (.i .i64 w3))], [(2, .box [.i .i64 w4, .i .i64 w5, .i .i64 w6, .sl 66 w7 w8, .sl 68 w9 w10])]⟩
noncomputable def S73x0x6 (N : Nat) {R : Type} (w1 : LD) (w2 : Int) (w8 : LD) (w3 : Int) (kr : Int → Option R) (k0 : Unit → Option R) (k1 : Unit → Option R) : Option R :=
  bif (decide (w3 < w2)) then
    bif (inB w3 w1.length) then
      bnd (V50x0 N (w1.getD w3.toNat (.i 0)).toI (-1) (IntKind.wrap .i64 ((w8.length : Int) - 1))) fun y0 =>
      bif y0 then
        k0 ()
      else
        kr (IntKind.wrap .i64 (w3 + 1))
    else
      none
  else
    k1 ()
theorem mono73x0x6 (N : Nat) {R : Type} (w1 : LD) (w2 : Int) (w8 : LD) (w3 : Int) {kr kr' : Int → Option R} (k0 : Unit → Option R) (k1 : Unit → Option R) {r : R} (hk : ∀ w3', kr w3' = some r → kr' w3' = some r) : S73x0x6 N w1 w2 w8 w3 kr k0 k1 = some r → S73x0x6 N w1 w2 w8 w3 kr' k0 k1 = some r := by
  unfold S73x0x6
  repeat' (first | exact hk _ | exact fun h => h | apply cond_mono | (apply bnd_mono; intro _))
noncomputable def L73x0x6 (N : Nat) {R : Type} (w1 : LD) (w2 : Int) (w8 : LD) : Nat → Int → (Unit → Option R) → (Unit → Option R) → Option R
  | 0, _, _, _ => none
  | m + 1, w3, k0, k1 => S73x0x6 N w1 w2 w8 w3 (fun w3 => L73x0x6 N w1 w2 w8 m w3 k0 k1) k0 k1
theorem lp73x0x6 : piece Try.prog 73 6 = .loop (loopB (piece Try.prog 73 6)) := by kernel_rfl
theorem nl73x0x6 (N : Nat) : lawOf (h73x0s0 N) (.loop (loopB (piece Try.prog 73 6))) = none := by kernel_rfl
theorem cl73x0x6 (N : Nat) (w0 : Bool) (w1 : LD) (w2 w4 w5 w6 : Int) (w7 : Bool) (w8 : LD) (w9 : Bool) (w10 : LD) (w3 : Int) : clearSt Try.prog 0 (h73x0s0 N).loops 6 (P73x0x6 w0 w1 w2 w3 w4 w5 w6 w7 w8 w9 w10) = (P73x0x6 w0 w1 w2 w3 w4 w5 w6 w7 w8 w9 w10) := by kernel_rfl
theorem step73x0x6 (N : Nat) (m : Nat) (kn : St → Option (Ex × St)) (w0 : Bool) (w1 : LD) (w2 w4 w5 w6 : Int) (w7 : Bool) (w8 : LD) (w9 : Bool) (w10 : LD) (w3 : Int) : exec Try.prog (T20x0 N) (h73x0s0 N) 0 (m + 100) (loopB (piece Try.prog 73 6)) (P73x0x6 w0 w1 w2 w3 w4 w5 w6 w7 w8 w9 w10) (reK (fun st => kn (clearSt Try.prog 0 (h73x0s0 N).loops 6 st)) (fun e st => some (e, cutSt [4] [] st))) = S73x0x6 N w1 w2 w8 w3 (fun w3 => kn (P73x0x6 w0 w1 w2 w3 w4 w5 w6 w7 w8 w9 w10)) (fun _ => some (.ret, ⟨[(4, .c (.i .i64 2))], []⟩)) (fun _ => some ((.exit 0), ⟨[], []⟩)) := by kernel_rfl
theorem run73x0x6 (N : Nat) (w0 : Bool) (w1 : LD) (w2 w4 w5 w6 : Int) (w7 : Bool) (w8 : LD) (w9 : Bool) (w10 : LD) : ∀ (m : Nat) (w3 : Int) (x : Ex × St), L73x0x6 N w1 w2 w8 m w3 (fun _ => some (.ret, ⟨[(4, .c (.i .i64 2))], []⟩)) (fun _ => some ((.exit 0), ⟨[], []⟩)) = some x → exec Try.prog (T20x0 N) (h73x0s0 N) 0 (m + 101) (.loop (loopB (piece Try.prog 73 6))) (P73x0x6 w0 w1 w2 w3 w4 w5 w6 w7 w8 w9 w10) (fun e st => some (e, cutSt [4] [] st)) = some x := by
  intro m
  induction m with
  | zero => intro w3 x h; cases h
  | succ m ih =>
    intro w3 x h
    exact loop_round (n := m + 101) (nl73x0x6 N) (by kernel_rfl) (cl73x0x6 N ..) (fun kn => step73x0x6 N (m + 1) kn ..) (mono73x0x6 N _ _ _ _ _ _ (fun w3 => ih w3 x) h)
noncomputable def G73x0x6 (N : Nat) (w1 : LD) (w2 : Int) (w8 : LD) (w3 : Int) : Option (Sum (Unit) (Unit)) := L73x0x6 N (R := (Sum (Unit) (Unit))) w1 w2 w8 N w3 (fun p => some (.inl p)) (fun p => some (.inr p))
theorem sb73x0x6 (N : Nat) {R A : Type} (w1 : LD) (w2 : Int) (w8 : LD) (w3 : Int) (kr : Int → Option R) (kr' : Int → Option A) (k0 : Unit → Option R) (k1 : Unit → Option R) (j0 : Unit → Option A) (j1 : Unit → Option A) (K : A → Option R) (hr : ∀ w3', kr w3' = (kr' w3').bind K) (h0 : ∀ p, k0 p = (j0 p).bind K) (h1 : ∀ p, k1 p = (j1 p).bind K) : S73x0x6 N w1 w2 w8 w3 kr k0 k1 = (S73x0x6 N w1 w2 w8 w3 kr' j0 j1).bind K := by
  unfold S73x0x6
  repeat' (first | rfl | apply hr | apply h0 | apply h1 | apply cond_b | (apply bnd_b; intro _))
theorem lbind73x0x6 (N : Nat) {R : Type} (w1 : LD) (w2 : Int) (w8 : LD) : ∀ (m : Nat) (w3 : Int) (k0 : Unit → Option R) (k1 : Unit → Option R), L73x0x6 N w1 w2 w8 m w3 k0 k1 = (L73x0x6 N (R := (Sum (Unit) (Unit))) w1 w2 w8 m w3 (fun p => some (.inl p)) (fun p => some (.inr p))).bind (sumE k0 k1) := by
  intro m
  induction m with
  | zero => intros; rfl
  | succ m ih =>
    intro w3 k0 k1
    exact sb73x0x6 N _ _ _ _ _ _ _ _ _ _ _ (fun w3 => ih w3 k0 k1) (fun _ => rfl) (fun _ => rfl)
theorem one73x0x6 : oneB Try.prog 73 6 = true := by kernel_rfl
noncomputable def sh73x0x6 : Sh := { tmps := [(2, .c (.p 2 0)), (7, .c (.sl 3)), (8, .c (.i .i64)), (9, .c (.i .i64))], mem := [(2, .box ([.i .i64, .i .i64, .i .i64, .sl 66, .sl 68]))] }
noncomputable def A73x0x6 (N : Nat) (L : List Lf) : List (Bool × (Ex × St)) := bnd (G73x0x6 N (ll L 1) (li L 2) (ll L 8) (li L 3)) fun q => [((inlB q), (.ret, ⟨[(4, .c (.i .i64 2))], []⟩)), ((inrQ q).isSome, ((.exit 0), ⟨[], []⟩))]
theorem eq73x0x6 (L : List Lf) : ofSh sh73x0x6 L = (P73x0x6 (lb L 0) (ll L 1) (li L 2) (li L 3) (li L 4) (li L 5) (li L 6) (lb L 7) (ll L 8) (lb L 9) (ll L 10)) := by kernel_rfl
theorem law73x0x6 (N : Nat) : CutLaw Try.prog 0 (piece Try.prog 73 6) (loSh sh73x0x6 (A73x0x6 N)) :=
  law_shL progOk (T20x0_ok N) (al73x0s0 N) one73x0x6 lp73x0x6 eq73x0x6 fun L x hx => run73x0x6 N _ _ _ _ _ _ _ _ _ _ N _ x ((lbind73x0x6 N _ _ _ N _ _ _).trans ((altS alt1) x hx))
noncomputable def h73x0s1 (N : Nat) : Hint := { (h73x0s0 N) with los := (6, loSh sh73x0x6 (A73x0x6 N)) :: (h73x0s0 N).los }
theorem al73x0s1 (N : Nat) : AllCuts Try.prog (h73x0s1 N).los 0 73 := AllCuts.cons (al73x0s0 N) one73x0x6 (law73x0x6 N)
noncomputable def F73x0 (N : Nat) {R : Type} (v4 v8 : LD) (k0 : Int → Option R) : Option R :=
  bnd (G73x0x6 N v8 (v8.length : Int) v4 0) fun y0 =>
  bif (inlB y0) then
    k0 2
  else
    bif (inrQ y0).isSome then
      k0 0
    else
      none
noncomputable def G73x0 (N : Nat) (v4 v8 : LD) : Option (Int) := F73x0 N v4 v8 (fun p => some p)
theorem bind73x0 (N : Nat) {R : Type} (v4 v8 : LD) (k0 : Int → Option R) : F73x0 N v4 v8 k0 = (G73x0 N v4 v8).bind k0 := by
  unfold G73x0 F73x0
  repeat' (first | rfl | apply cond_b | (apply bnd_b; intro _))
noncomputable def sh73x0 : Sh := { tmps := [(0, .g ([.i .i64, .i .i64, .i .i64, .sl 66, .sl 68])), (1, .c (.sl 3))], mem := [] }
noncomputable def A73x0 (N : Nat) (L : List Lf) : List (Bool × Res) := bnd (F73x0 N (ll L 4) (ll L 8) (fun p => some p)) fun q => [(q.isSome, ([.c (.i .i64 (q.getD default))], []))]
theorem raw73x0 (N : Nat) (L : List Lf) : (body Try.prog (T20x0 N) (h73x0s1 N) 200 73 (valsOf (ofSh sh73x0 L).tmps) (ofSh sh73x0 L).mem : Option Res) = F73x0 N (ll L 4) (ll L 8) (fun p => some ([.c (.i .i64 p)], [])) := by kernel_rfl
theorem ok73x0 (N : Nat) : ∀ args mem alts, spSh sh73x0 (A73x0 N) args mem = some alts → ∀ res, altK alts some = some res → CallOk Try.prog 73 args mem res :=
  spSh_law fun L x hx => callOk_of (n := 200) progOk (T20x0_ok N) (al73x0s1 N) rfl ((raw73x0 N L).trans ((bind73x0 N ..).trans (alt1 x hx)))
noncomputable def T73x0 (N : Nat) : Oracle := ext 73 (spSh sh73x0 (A73x0 N)) (T20x0 N)
theorem T73x0_ok (N : Nat) : OracleOk Try.prog (T73x0 N) := ext_ok (T20x0_ok N) (enters_of (by kernel_rfl)) (ok73x0 N)
noncomputable def rg58x0 : List (Nat × List Nat) := [(0, [0, 1]), (1, [2, 1]), (2, [5, 1, 2]), (3, [5]), (4, [1, 2]), (5, []), (6, [2, 1])]
noncomputable def hd58x0 : Hints := []
noncomputable def h58x0s0 (N : Nat) : Hint := { loops := hd58x0, regs := rg58x0, los := [] }
theorem al58x0s0 (N : Nat) : AllCuts Try.prog (h58x0s0 N).los 0 58 := AllCuts.nil
noncomputable def F58x0 (N : Nat) {R : Type} (v0 v1 v2 : Int) (v4 v6 v8 : LD) (k0 : Int → Option R) : Option R :=
  bnd (G20x0 N v0 v1 v2 v4 v6) fun y0 =>
  bif y0.isSome then
    bif ((y0.getD default) != 0) then
      k0 (y0.getD default)
    else
      bif ((v8.length : Int) != v1) then
        k0 2
      else
        bnd (G73x0 N v4 v8) fun y1 =>
        bif y1.isSome then
          k0 (y1.getD default)
        else
          none
  else
    none
noncomputable def G58x0 (N : Nat) (v0 v1 v2 : Int) (v4 v6 v8 : LD) : Option (Int) := F58x0 N v0 v1 v2 v4 v6 v8 (fun p => some p)
theorem bind58x0 (N : Nat) {R : Type} (v0 v1 v2 : Int) (v4 v6 v8 : LD) (k0 : Int → Option R) : F58x0 N v0 v1 v2 v4 v6 v8 k0 = (G58x0 N v0 v1 v2 v4 v6 v8).bind k0 := by
  unfold G58x0 F58x0
  repeat' (first | rfl | apply cond_b | (apply bnd_b; intro _))
noncomputable def J58x0 (N : Nat) (L : List Lf) {R : Type} (k0 : Int → Option R) : Option R := F58x0 N (li L 0) (li L 1) (li L 2) (ll L 4) (ll L 6) (ll L 8) k0
noncomputable def sh58x0 : Sh := { tmps := [(0, .g ([.i .i64, .i .i64, .i .i64, .sl 66, .sl 68])), (1, .c (.sl 3))], mem := [] }
noncomputable def A58x0 (N : Nat) (L : List Lf) : List (Bool × Res) := bnd (J58x0 N L (fun p => some p)) fun q => [(q.isSome, ([.c (.i .i64 (q.getD default))], []))]
theorem raw58x0 (N : Nat) (L : List Lf) : (body Try.prog (T73x0 N) (h58x0s0 N) 200 58 (valsOf (ofSh sh58x0 L).tmps) (ofSh sh58x0 L).mem : Option Res) = J58x0 N L (fun p => some ([.c (.i .i64 p)], [])) := by kernel_rfl
theorem ok58x0 (N : Nat) : ∀ args mem alts, spSh sh58x0 (A58x0 N) args mem = some alts → ∀ res, altK alts some = some res → CallOk Try.prog 58 args mem res :=
  spSh_law fun L x hx => callOk_of (n := 200) progOk (T73x0_ok N) (al58x0s0 N) rfl ((raw58x0 N L).trans ((bind58x0 N ..).trans (alt1 x hx)))
noncomputable def T58x0 (N : Nat) : Oracle := ext 58 (spSh sh58x0 (A58x0 N)) (T73x0 N)
theorem T58x0_ok (N : Nat) : OracleOk Try.prog (T58x0 N) := ext_ok (T73x0_ok N) (enters_of (by kernel_rfl)) (ok58x0 N)
noncomputable def rg44x0 : List (Nat × List Nat) := [(0, [0, 1]), (1, [2, 1]), (2, [5, 1, 2]), (3, [5]), (4, [1, 2]), (5, []), (6, [2, 1])]
noncomputable def hd44x0 : Hints := []
noncomputable def h44x0s0 (N : Nat) : Hint := { loops := hd44x0, regs := rg44x0, los := [] }
theorem al44x0s0 (N : Nat) : AllCuts Try.prog (h44x0s0 N).los 0 44 := AllCuts.nil
noncomputable def F44x0 (N : Nat) {R : Type} (v0 v1 v2 : Int) (v4 v6 v8 : LD) (k0 : Int → Option R) : Option R :=
  bnd (G20x0 N v0 v1 v2 v4 v6) fun y0 =>
  bif y0.isSome then
    bif ((y0.getD default) != 0) then
      k0 (y0.getD default)
    else
      bif (decide ((v8.length : Int) > v1)) then
        k0 2
      else
        bnd (G73x0 N v4 v8) fun y1 =>
        bif y1.isSome then
          k0 (y1.getD default)
        else
          none
  else
    none
noncomputable def G44x0 (N : Nat) (v0 v1 v2 : Int) (v4 v6 v8 : LD) : Option (Int) := F44x0 N v0 v1 v2 v4 v6 v8 (fun p => some p)
theorem bind44x0 (N : Nat) {R : Type} (v0 v1 v2 : Int) (v4 v6 v8 : LD) (k0 : Int → Option R) : F44x0 N v0 v1 v2 v4 v6 v8 k0 = (G44x0 N v0 v1 v2 v4 v6 v8).bind k0 := by
  unfold G44x0 F44x0
  repeat' (first | rfl | apply cond_b | (apply bnd_b; intro _))
noncomputable def J44x0 (N : Nat) (L : List Lf) {R : Type} (k0 : Int → Option R) : Option R := F44x0 N (li L 0) (li L 1) (li L 2) (ll L 4) (ll L 6) (ll L 8) k0
noncomputable def sh44x0 : Sh := { tmps := [(0, .g ([.i .i64, .i .i64, .i .i64, .sl 66, .sl 68])), (1, .c (.sl 3))], mem := [] }
noncomputable def A44x0 (N : Nat) (L : List Lf) : List (Bool × Res) := bnd (J44x0 N L (fun p => some p)) fun q => [(q.isSome, ([.c (.i .i64 (q.getD default))], []))]
theorem raw44x0 (N : Nat) (L : List Lf) : (body Try.prog (T58x0 N) (h44x0s0 N) 200 44 (valsOf (ofSh sh44x0 L).tmps) (ofSh sh44x0 L).mem : Option Res) = J44x0 N L (fun p => some ([.c (.i .i64 p)], [])) := by kernel_rfl
theorem ok44x0 (N : Nat) : ∀ args mem alts, spSh sh44x0 (A44x0 N) args mem = some alts → ∀ res, altK alts some = some res → CallOk Try.prog 44 args mem res :=
  spSh_law fun L x hx => callOk_of (n := 200) progOk (T58x0_ok N) (al44x0s0 N) rfl ((raw44x0 N L).trans ((bind44x0 N ..).trans (alt1 x hx)))
noncomputable def T44x0 (N : Nat) : Oracle := ext 44 (spSh sh44x0 (A44x0 N)) (T58x0 N)
theorem T44x0_ok (N : Nat) : OracleOk Try.prog (T44x0 N) := ext_ok (T58x0_ok N) (enters_of (by kernel_rfl)) (ok44x0 N)
noncomputable def rg74x0 : List (Nat × List Nat) := [(0, [0, 1]), (1, [2, 1]), (2, [12, 11, 10, 1]), (3, [10, 12, 1, 11]), (4, [1, 6, 12, 11, 10]), (5, [18, 17, 16, 6, 12, 11, 10, 1]), (6, [16, 18, 6, 17, 12, 11, 10, 1]), (7, [6, 8, 18, 17, 16, 12, 11, 10, 1]), (8, []), (9, [18, 17, 16, 6, 12, 11, 10, 1]), (10, [12, 11, 10, 1]), (11, [])]
noncomputable def hd74x0 : Hints := [(6, [12, 11, 10, 1], [], []), (15, [18, 17, 16, 6, 12, 11, 10, 1], [6], [])]
noncomputable def h74x0s0 (N : Nat) : Hint := { loops := hd74x0, regs := rg74x0, los := [] }
theorem al74x0s0 (N : Nat) : AllCuts Try.prog (h74x0s0 N).los 0 74 := AllCuts.nil
noncomputable def K74x0x15w1 (w0 : Bool) (w1 : LD) (w2 : Bool) (w3 : LD) (w4 w5 : Int) (_ : Unit) : Ex × St := ((.exit 2), ⟨[(1, .c (.sl 3 w0 w1)), (10, .c (.sl 68 w2 w3)), (11, .c (.i .i64 w4)), (12, .c (.i .i64 w5))], []⟩)
noncomputable def P74x0x15 (w0 : Bool) (w1 : LD) (w2 : Bool) (w3 : LD) (w4 w5 : Int) (w6 : Bool) (w7 : LD) (w8 w9 w10 w11 w12 w13 w14 : Int) (w15 : LB) : St := ⟨[(1, .c (.sl 3 w0 w1)), (6, .c (.p 6 0)), (10, .c (.sl 68 w2 w3)), (11, .c (.i .i64 w4)), (12, .c (.i .i64 w5)), (16, .c (.sl 3 w6 w7)), (17, .c (.i .i64 w8)), (18, .c (.i .i64 w9))], [(6, .box [.i .i64 w10, .i .i64 w11, .i .i64 w12, .i .i64 w13, .i .i64 w14, .s w15])]⟩
noncomputable def S74x0x15 (N : Nat) {R : Type} (w7 : LD) (w8 w10 : Int) (w9 : Int) (kr : Int → Option R) (k0 : Unit → Option R) (k1 : Unit → Option R) : Option R :=
  bif (decide (w9 < w8)) then
    bif (inB w9 w7.length) then
      bif (w10 == (w7.getD w9.toNat (.i 0)).toI) then
        k0 ()
      else
        kr (IntKind.wrap .i64 (w9 + 1))
    else
      none
  else
    k1 ()
theorem mono74x0x15 (N : Nat) {R : Type} (w7 : LD) (w8 w10 : Int) (w9 : Int) {kr kr' : Int → Option R} (k0 : Unit → Option R) (k1 : Unit → Option R) {r : R} (hk : ∀ w9', kr w9' = some r → kr' w9' = some r) : S74x0x15 N w7 w8 w10 w9 kr k0 k1 = some r → S74x0x15 N w7 w8 w10 w9 kr' k0 k1 = some r := by
  unfold S74x0x15
  repeat' (first | exact hk _ | exact fun h => h | apply cond_mono | (apply bnd_mono; intro _))
noncomputable def L74x0x15 (N : Nat) {R : Type} (w7 : LD) (w8 w10 : Int) : Nat → Int → (Unit → Option R) → (Unit → Option R) → Option R
  | 0, _, _, _ => none
  | m + 1, w9, k0, k1 => S74x0x15 N w7 w8 w10 w9 (fun w9 => L74x0x15 N w7 w8 w10 m w9 k0 k1) k0 k1
theorem lp74x0x15 : piece Try.prog 74 15 = .loop (loopB (piece Try.prog 74 15)) := by kernel_rfl
theorem nl74x0x15 (N : Nat) : lawOf (h74x0s0 N) (.loop (loopB (piece Try.prog 74 15))) = none := by kernel_rfl
theorem cl74x0x15 (N : Nat) (w0 : Bool) (w1 : LD) (w2 : Bool) (w3 : LD) (w4 w5 : Int) (w6 : Bool) (w7 : LD) (w8 w10 w11 w12 w13 w14 : Int) (w15 : LB) (w9 : Int) : clearSt Try.prog 0 (h74x0s0 N).loops 15 (P74x0x15 w0 w1 w2 w3 w4 w5 w6 w7 w8 w9 w10 w11 w12 w13 w14 w15) = (P74x0x15 w0 w1 w2 w3 w4 w5 w6 w7 w8 w9 w10 w11 w12 w13 w14 w15) := by kernel_rfl
theorem step74x0x15 (N : Nat) (m : Nat) (kn : St → Option (Ex × St)) (w0 : Bool) (w1 : LD) (w2 : Bool) (w3 : LD) (w4 w5 : Int) (w6 : Bool) (w7 : LD) (w8 w10 w11 w12 w13 w14 : Int) (w15 : LB) (w9 : Int) : exec Try.prog (T44x0 N) (h74x0s0 N) 0 (m + 100) (loopB (piece Try.prog 74 15)) (P74x0x15 w0 w1 w2 w3 w4 w5 w6 w7 w8 w9 w10 w11 w12 w13 w14 w15) (reK (fun st => kn (clearSt Try.prog 0 (h74x0s0 N).loops 15 st)) (fun e st => some (e, cutSt [4, 12, 11, 10, 1] [] st))) = S74x0x15 N w7 w8 w10 w9 (fun w9 => kn (P74x0x15 w0 w1 w2 w3 w4 w5 w6 w7 w8 w9 w10 w11 w12 w13 w14 w15)) (fun _ => some (.ret, ⟨[(4, .c (.b true))], []⟩)) (fun _ => some (K74x0x15w1 w0 w1 w2 w3 w4 w5 ())) := by kernel_rfl
theorem run74x0x15 (N : Nat) (w0 : Bool) (w1 : LD) (w2 : Bool) (w3 : LD) (w4 w5 : Int) (w6 : Bool) (w7 : LD) (w8 w10 w11 w12 w13 w14 : Int) (w15 : LB) : ∀ (m : Nat) (w9 : Int) (x : Ex × St), L74x0x15 N w7 w8 w10 m w9 (fun _ => some (.ret, ⟨[(4, .c (.b true))], []⟩)) (fun _ => some (K74x0x15w1 w0 w1 w2 w3 w4 w5 ())) = some x → exec Try.prog (T44x0 N) (h74x0s0 N) 0 (m + 101) (.loop (loopB (piece Try.prog 74 15))) (P74x0x15 w0 w1 w2 w3 w4 w5 w6 w7 w8 w9 w10 w11 w12 w13 w14 w15) (fun e st => some (e, cutSt [4, 12, 11, 10, 1] [] st)) = some x := by
  intro m
  induction m with
  | zero => intro w9 x h; cases h
  | succ m ih =>
    intro w9 x h
    exact loop_round (n := m + 101) (nl74x0x15 N) (by kernel_rfl) (cl74x0x15 N ..) (fun kn => step74x0x15 N (m + 1) kn ..) (mono74x0x15 N _ _ _ _ _ _ (fun w9 => ih w9 x) h)
noncomputable def G74x0x15 (N : Nat) (w7 : LD) (w8 w10 : Int) (w9 : Int) : Option (Sum (Unit) (Unit)) := L74x0x15 N (R := (Sum (Unit) (Unit))) w7 w8 w10 N w9 (fun p => some (.inl p)) (fun p => some (.inr p))
theorem sb74x0x15 (N : Nat) {R A : Type} (w7 : LD) (w8 w10 : Int) (w9 : Int) (kr : Int → Option R) (kr' : Int → Option A) (k0 : Unit → Option R) (k1 : Unit → Option R) (j0 : Unit → Option A) (j1 : Unit → Option A) (K : A → Option R) (hr : ∀ w9', kr w9' = (kr' w9').bind K) (h0 : ∀ p, k0 p = (j0 p).bind K) (h1 : ∀ p, k1 p = (j1 p).bind K) : S74x0x15 N w7 w8 w10 w9 kr k0 k1 = (S74x0x15 N w7 w8 w10 w9 kr' j0 j1).bind K := by
  unfold S74x0x15
  repeat' (first | rfl | apply hr | apply h0 | apply h1 | apply cond_b | (apply bnd_b; intro _))
theorem lbind74x0x15 (N : Nat) {R : Type} (w7 : LD) (w8 w10 : Int) : ∀ (m : Nat) (w9 : Int) (k0 : Unit → Option R) (k1 : Unit → Option R), L74x0x15 N w7 w8 w10 m w9 k0 k1 = (L74x0x15 N (R := (Sum (Unit) (Unit))) w7 w8 w10 m w9 (fun p => some (.inl p)) (fun p => some (.inr p))).bind (sumE k0 k1) := by
  intro m
  induction m with
  | zero => intros; rfl
  | succ m ih =>
    intro w9 k0 k1
    exact sb74x0x15 N _ _ _ _ _ _ _ _ _ _ _ (fun w9 => ih w9 k0 k1) (fun _ => rfl) (fun _ => rfl)
theorem one74x0x15 : oneB Try.prog 74 15 = true := by kernel_rfl
noncomputable def sh74x0x15 : Sh := { tmps := [(1, .c (.sl 3)), (6, .c (.p 6 0)), (10, .c (.sl 68)), (11, .c (.i .i64)), (12, .c (.i .i64)), (16, .c (.sl 3)), (17, .c (.i .i64)), (18, .c (.i .i64))], mem := [(6, .box (rI 5 ([.s])))] }
noncomputable def A74x0x15 (N : Nat) (L : List Lf) : List (Bool × (Ex × St)) := bnd (G74x0x15 N (ll L 7) (li L 8) (li L 10) (li L 9)) fun q => [((inlB q), (.ret, ⟨[(4, .c (.b true))], []⟩)), ((inrQ q).isSome, K74x0x15w1 (lb L 0) (ll L 1) (lb L 2) (ll L 3) (li L 4) (li L 5) ())]
theorem eq74x0x15 (L : List Lf) : ofSh sh74x0x15 L = (P74x0x15 (lb L 0) (ll L 1) (lb L 2) (ll L 3) (li L 4) (li L 5) (lb L 6) (ll L 7) (li L 8) (li L 9) (li L 10) (li L 11) (li L 12) (li L 13) (li L 14) (ls L 15)) := by kernel_rfl
theorem law74x0x15 (N : Nat) : CutLaw Try.prog 0 (piece Try.prog 74 15) (loSh sh74x0x15 (A74x0x15 N)) :=
  law_shL progOk (T44x0_ok N) (al74x0s0 N) one74x0x15 lp74x0x15 eq74x0x15 fun L x hx => run74x0x15 N _ _ _ _ _ _ _ _ _ _ _ _ _ _ _ N _ x ((lbind74x0x15 N _ _ _ N _ _ _).trans ((altS alt1) x hx))
noncomputable def h74x0s1 (N : Nat) : Hint := { (h74x0s0 N) with los := (15, loSh sh74x0x15 (A74x0x15 N)) :: (h74x0s0 N).los }
theorem al74x0s1 (N : Nat) : AllCuts Try.prog (h74x0s1 N).los 0 74 := AllCuts.cons (al74x0s0 N) one74x0x15 (law74x0x15 N)
noncomputable def P74x0x6 (w0 : Bool) (w1 : LD) (w2 : Bool) (w3 : LD) (w4 w5 : Int) : St := ⟨[(1, .c (.sl 3 w0 w1)), (10, .c (.sl 68 w2 w3)), (11, .c (.i .i64 w4)), (12, .c (.i .i64 w5))], []⟩
noncomputable def S74x0x6 (N : Nat) {R : Type} (w1 w3 : LD) (w4 : Int) (w5 : Int) (kr : Int → Option R) (k0 : Unit → Option R) (k1 : Unit → Option R) : Option R :=
  bif (decide (w5 < w4)) then
    bif (inB w5 w3.length) then
      bnd (G74x0x15 N w1 (w1.length : Int) ((w3.getD w5.toNat (.i 0)).cell 0).toI 0) fun y0 =>
      bif (inlB y0) then
        k0 ()
      else
        bif (inrQ y0).isSome then
          kr (IntKind.wrap .i64 (w5 + 1))
        else
          none
    else
      none
  else
    k1 ()
theorem mono74x0x6 (N : Nat) {R : Type} (w1 w3 : LD) (w4 : Int) (w5 : Int) {kr kr' : Int → Option R} (k0 : Unit → Option R) (k1 : Unit → Option R) {r : R} (hk : ∀ w5', kr w5' = some r → kr' w5' = some r) : S74x0x6 N w1 w3 w4 w5 kr k0 k1 = some r → S74x0x6 N w1 w3 w4 w5 kr' k0 k1 = some r := by
  unfold S74x0x6
  repeat' (first | exact hk _ | exact fun h => h | apply cond_mono | (apply bnd_mono; intro _))
noncomputable def L74x0x6 (N : Nat) {R : Type} (w1 w3 : LD) (w4 : Int) : Nat → Int → (Unit → Option R) → (Unit → Option R) → Option R
  | 0, _, _, _ => none
  | m + 1, w5, k0, k1 => S74x0x6 N w1 w3 w4 w5 (fun w5 => L74x0x6 N w1 w3 w4 m w5 k0 k1) k0 k1
theorem lp74x0x6 : piece Try.prog 74 6 = .loop (loopB (piece Try.prog 74 6)) := by kernel_rfl
theorem nl74x0x6 (N : Nat) : lawOf (h74x0s1 N) (.loop (loopB (piece Try.prog 74 6))) = none := by kernel_rfl
theorem cl74x0x6 (N : Nat) (w0 : Bool) (w1 : LD) (w2 : Bool) (w3 : LD) (w4 : Int) (w5 : Int) : clearSt Try.prog 0 (h74x0s1 N).loops 6 (P74x0x6 w0 w1 w2 w3 w4 w5) = (P74x0x6 w0 w1 w2 w3 w4 w5) := by kernel_rfl
theorem step74x0x6 (N : Nat) (m : Nat) (kn : St → Option (Ex × St)) (w0 : Bool) (w1 : LD) (w2 : Bool) (w3 : LD) (w4 : Int) (w5 : Int) : exec Try.prog (T44x0 N) (h74x0s1 N) 0 (m + 100) (loopB (piece Try.prog 74 6)) (P74x0x6 w0 w1 w2 w3 w4 w5) (reK (fun st => kn (clearSt Try.prog 0 (h74x0s1 N).loops 6 st)) (fun e st => some (e, cutSt [4] [] st))) = S74x0x6 N w1 w3 w4 w5 (fun w5 => kn (P74x0x6 w0 w1 w2 w3 w4 w5)) (fun _ => some (.ret, ⟨[(4, .c (.b true))], []⟩)) (fun _ => some ((.exit 0), ⟨[], []⟩)) := by kernel_rfl
theorem run74x0x6 (N : Nat) (w0 : Bool) (w1 : LD) (w2 : Bool) (w3 : LD) (w4 : Int) : ∀ (m : Nat) (w5 : Int) (x : Ex × St), L74x0x6 N w1 w3 w4 m w5 (fun _ => some (.ret, ⟨[(4, .c (.b true))], []⟩)) (fun _ => some ((.exit 0), ⟨[], []⟩)) = some x → exec Try.prog (T44x0 N) (h74x0s1 N) 0 (m + 101) (.loop (loopB (piece Try.prog 74 6))) (P74x0x6 w0 w1 w2 w3 w4 w5) (fun e st => some (e, cutSt [4] [] st)) = some x := by
  intro m
  induction m with
  | zero => intro w5 x h; cases h
  | succ m ih =>
    intro w5 x h
    exact loop_round (n := m + 101) (nl74x0x6 N) (by kernel_rfl) (cl74x0x6 N ..) (fun kn => step74x0x6 N (m + 1) kn ..) (mono74x0x6 N _ _ _ _ _ _ (fun w5 => ih w5 x) h)
noncomputable def G74x0x6 (N : Nat) (w1 w3 : LD) (w4 : Int) (w5 : Int) : Option (Sum (Unit) (Unit)) := L74x0x6 N (R := (Sum (Unit) (Unit))) w1 w3 w4 N w5 (fun p => some (.inl p)) (fun p => some (.inr p))
theorem sb74x0x6 (N : Nat) {R A : Type} (w1 w3 : LD) (w4 : Int) (w5 : Int) (kr : Int → Option R) (kr' : Int → Option A) (k0 : Unit → Option R) (k1 : Unit → Option R) (j0 : Unit → Option A) (j1 : Unit → Option A) (K : A → Option R) (hr : ∀ w5', kr w5' = (kr' w5').bind K) (h0 : ∀ p, k0 p = (j0 p).bind K) (h1 : ∀ p, k1 p = (j1 p).bind K) : S74x0x6 N w1 w3 w4 w5 kr k0 k1 = (S74x0x6 N w1 w3 w4 w5 kr' j0 j1).bind K := by
  unfold S74x0x6
  repeat' (first | rfl | apply hr | apply h0 | apply h1 | apply cond_b | (apply bnd_b; intro _))
theorem lbind74x0x6 (N : Nat) {R : Type} (w1 w3 : LD) (w4 : Int) : ∀ (m : Nat) (w5 : Int) (k0 : Unit → Option R) (k1 : Unit → Option R), L74x0x6 N w1 w3 w4 m w5 k0 k1 = (L74x0x6 N (R := (Sum (Unit) (Unit))) w1 w3 w4 m w5 (fun p => some (.inl p)) (fun p => some (.inr p))).bind (sumE k0 k1) := by
  intro m
  induction m with
  | zero => intros; rfl
  | succ m ih =>
    intro w5 k0 k1
    exact sb74x0x6 N _ _ _ _ _ _ _ _ _ _ _ (fun w5 => ih w5 k0 k1) (fun _ => rfl) (fun _ => rfl)
theorem one74x0x6 : oneB Try.prog 74 6 = true := by kernel_rfl
noncomputable def sh74x0x6 : Sh := { tmps := [(1, .c (.sl 3)), (10, .c (.sl 68)), (11, .c (.i .i64)), (12, .c (.i .i64))], mem := [] }
noncomputable def A74x0x6 (N : Nat) (L : List Lf) : List (Bool × (Ex × St)) := bnd (G74x0x6 N (ll L 1) (ll L 3) (li L 4) (li L 5)) fun q => [((inlB q), (.ret, ⟨[(4, .c (.b true))], []⟩)), ((inrQ q).isSome, ((.exit 0), ⟨[], []⟩))]
theorem eq74x0x6 (L : List Lf) : ofSh sh74x0x6 L = (P74x0x6 (lb L 0) (ll L 1) (lb L 2) (ll L 3) (li L 4) (li L 5)) := by kernel_rfl
theorem law74x0x6 (N : Nat) : CutLaw Try.prog 0 (piece Try.prog 74 6) (loSh sh74x0x6 (A74x0x6 N)) :=
  law_shL progOk (T44x0_ok N) (al74x0s1 N) one74x0x6 lp74x0x6 eq74x0x6 fun L x hx => run74x0x6 N _ _ _ _ _ N _ x ((lbind74x0x6 N _ _ _ N _ _ _).trans ((altS alt1) x hx))
noncomputable def h74x0s2 (N : Nat) : Hint := { (h74x0s1 N) with los := (6, loSh sh74x0x6 (A74x0x6 N)) :: (h74x0s1 N).los }
theorem al74x0s2 (N : Nat) : AllCuts Try.prog (h74x0s2 N).los 0 74 := AllCuts.cons (al74x0s1 N) one74x0x6 (law74x0x6 N)
noncomputable def F74x0 (N : Nat) {R : Type} (v6 v8 : LD) (k0 : Bool → Option R) : Option R :=
  bnd (G74x0x6 N v8 v6 (v6.length : Int) 0) fun y0 =>
  bif (inlB y0) then
    k0 true
  else
    bif (inrQ y0).isSome then
      k0 false
    else
      none
noncomputable def G74x0 (N : Nat) (v6 v8 : LD) : Option (Bool) := F74x0 N v6 v8 (fun p => some p)
theorem bind74x0 (N : Nat) {R : Type} (v6 v8 : LD) (k0 : Bool → Option R) : F74x0 N v6 v8 k0 = (G74x0 N v6 v8).bind k0 := by
  unfold G74x0 F74x0
  repeat' (first | rfl | apply cond_b | (apply bnd_b; intro _))
noncomputable def sh74x0 : Sh := { tmps := [(0, .g ([.i .i64, .i .i64, .i .i64, .sl 66, .sl 68])), (1, .c (.sl 3))], mem := [] }
noncomputable def A74x0 (N : Nat) (L : List Lf) : List (Bool × Res) := bnd (F74x0 N (ll L 6) (ll L 8) (fun p => some p)) fun q => [(q.isSome, ([.c (.b (q.getD default))], []))]
theorem raw74x0 (N : Nat) (L : List Lf) : (body Try.prog (T44x0 N) (h74x0s2 N) 200 74 (valsOf (ofSh sh74x0 L).tmps) (ofSh sh74x0 L).mem : Option Res) = F74x0 N (ll L 6) (ll L 8) (fun p => some ([.c (.b p)], [])) := by kernel_rfl
theorem ok74x0 (N : Nat) : ∀ args mem alts, spSh sh74x0 (A74x0 N) args mem = some alts → ∀ res, altK alts some = some res → CallOk Try.prog 74 args mem res :=
  spSh_law fun L x hx => callOk_of (n := 200) progOk (T44x0_ok N) (al74x0s2 N) rfl ((raw74x0 N L).trans ((bind74x0 N ..).trans (alt1 x hx)))
noncomputable def T74x0 (N : Nat) : Oracle := ext 74 (spSh sh74x0 (A74x0 N)) (T44x0 N)
theorem T74x0_ok (N : Nat) : OracleOk Try.prog (T74x0 N) := ext_ok (T44x0_ok N) (enters_of (by kernel_rfl)) (ok74x0 N)
noncomputable def rg63x0 : List (Nat × List Nat) := [(0, [0, 1]), (1, [1, 4, 2]), (2, [4]), (3, [2, 1, 4])]
noncomputable def hd63x0 : Hints := []
noncomputable def h63x0s0 (N : Nat) : Hint := { loops := hd63x0, regs := rg63x0, los := [] }
theorem al63x0s0 (N : Nat) : AllCuts Try.prog (h63x0s0 N).los 0 63 := AllCuts.nil
noncomputable def F63x0 (N : Nat) {R : Type} (v4 : LD) (v7 : Int) (k0 : Ty11 → Option R) : Option R :=
  bif (decide (v7 < 0)) then
    k0 (([] : List UInt8), 0, 0, 0, false)
  else
    bif (inB v7 v4.length) then
      k0 (((v4.getD v7.toNat (.i 0)).cell 0).toS, ((v4.getD v7.toNat (.i 0)).cell 1).toI, ((v4.getD v7.toNat (.i 0)).cell 2).toI, ((v4.getD v7.toNat (.i 0)).cell 3).toI, ((v4.getD v7.toNat (.i 0)).cell 4).toB)
    else
      none
noncomputable def G63x0 (N : Nat) (v4 : LD) (v7 : Int) : Option (Ty11) := F63x0 N v4 v7 (fun p => some p)
theorem bind63x0 (N : Nat) {R : Type} (v4 : LD) (v7 : Int) (k0 : Ty11 → Option R) : F63x0 N v4 v7 k0 = (G63x0 N v4 v7).bind k0 := by
  unfold G63x0 F63x0
  repeat' (first | rfl | apply cond_b | (apply bnd_b; intro _))
noncomputable def sh63x0 : Sh := { tmps := [(0, .g ([.i .i64, .i .i64, .i .i64, .sl 66, .sl 68])), (1, .c (.i .i64))], mem := [] }
noncomputable def K63x0w0 (L : List Lf) (p : Ty11) : Res := ([.g [.s p.1, .i .i64 p.2.1, .i .i64 p.2.2.1, .i .i64 p.2.2.2.1, .b p.2.2.2.2]], [])
noncomputable def A63x0 (N : Nat) (L : List Lf) : List (Bool × Res) := bnd (F63x0 N (ll L 4) (li L 7) (fun p => some p)) fun q => [(q.isSome, K63x0w0 L (q.getD default))]
theorem raw63x0 (N : Nat) (L : List Lf) : (body Try.prog (T74x0 N) (h63x0s0 N) 200 63 (valsOf (ofSh sh63x0 L).tmps) (ofSh sh63x0 L).mem : Option Res) = F63x0 N (ll L 4) (li L 7) (fun p => some (K63x0w0 L p)) := by kernel_rfl
theorem ok63x0 (N : Nat) : ∀ args mem alts, spSh sh63x0 (A63x0 N) args mem = some alts → ∀ res, altK alts some = some res → CallOk Try.prog 63 args mem res :=
  spSh_law fun L x hx => callOk_of (n := 200) progOk (T74x0_ok N) (al63x0s0 N) rfl ((raw63x0 N L).trans ((bind63x0 N ..).trans (alt1 x hx)))
noncomputable def T63x0 (N : Nat) : Oracle := ext 63 (spSh sh63x0 (A63x0 N)) (T74x0 N)
theorem T63x0_ok (N : Nat) : OracleOk Try.prog (T63x0 N) := ext_ok (T74x0_ok N) (enters_of (by kernel_rfl)) (ok63x0 N)
noncomputable def rg92x0 : List (Nat × List Nat) := [(0, [1, 0, 2]), (1, [0, 2, 4]), (2, [7, 4, 0, 2]), (3, []), (4, [0, 4, 2, 7]), (5, [29, 28, 27, 0, 4, 2, 7]), (6, [27, 29, 0, 4, 2, 28, 7]), (7, [9, 0, 4, 2, 29, 28, 27, 7]), (8, [34, 0, 4, 9, 2, 29, 28, 27, 7]), (11, [34, 0, 4, 9, 7, 29, 28, 27, 2]), (14, [34, 4, 9, 7, 29, 28, 27, 0, 2]), (15, [4, 9, 7, 29, 28, 27, 0, 2]), (16, []), (12, [0, 4, 9, 7, 29, 28, 27, 2]), (13, []), (9, [0, 4, 9, 2, 29, 28, 27, 7]), (10, []), (17, [29, 28, 27, 0, 4, 2, 7]), (18, [])]
noncomputable def hd92x0 : Hints := [(15, [29, 28, 27, 0, 4, 2, 7], [9, 6, 1, 0], []), (28, [0, 4, 9, 2, 29, 28, 27, 7], [11, 9, 6, 1, 0], []), (37, [0, 4, 9, 7, 29, 28, 27, 2], [11, 9, 6, 1, 0], []), (47, [4, 9, 7, 29, 28, 27, 0, 2, 74], [11, 9, 6, 1, 0], []), (42038, [0, 4, 9, 7, 29, 28, 27, 2, 34, 53], [11, 9, 6, 1, 0], []), (33029, [0, 4, 9, 2, 29, 28, 27, 7, 34, 35], [11, 9, 6, 1, 0], [])]
noncomputable def h92x0s0 (N : Nat) : Hint := { loops := hd92x0, regs := rg92x0, los := [] }
theorem al92x0s0 (N : Nat) : AllCuts Try.prog (h92x0s0 N).los 2 92 := AllCuts.nil
noncomputable def F92x0x28 (N : Nat) {R : Type} (w0 w5 w17 w51 : Int) (k0 : Bool → R) : R :=
  bif (((IntKind.wrap .i64 (w5 + w17)).tmod 7) == w51) then
    k0 (decide (w0 ≥ 0))
  else
    k0 false
noncomputable def V92x0x28 (N : Nat) (w0 w5 w17 w51 : Int) : Bool := F92x0x28 N w0 w5 w17 w51 (fun p => p)
theorem tot92x0x28 (N : Nat) {R : Type} (w0 w5 w17 w51 : Int) (k0 : Bool → R) : F92x0x28 N w0 w5 w17 w51 k0 = k0 (V92x0x28 N w0 w5 w17 w51) := by
  unfold V92x0x28 F92x0x28
  repeat' (first | rfl | apply cond_k | (apply bnd_k; intro _))
noncomputable def J92x0x28 (N : Nat) (L : List Lf) {R : Type} (k0 : Bool → R) : R := F92x0x28 N (li L 0) (li L 5) (li L 17) (li L 51) k0
noncomputable def sh92x0x28 : Sh := { tmps := [(0, .c (.p 0 0)), (2, .c (.i .i64)), (4, .c (.p 6 0)), (7, .c (.p 9 0)), (9, .c (.p 11 0)), (27, .c (.sl 68)), (28, .c (.i .i64)), (29, .c (.i .i64))], mem := [(0, .box (.i .i64 :: .i .i64 :: [.i .i64, .sl 66, .sl 68, .sl 3, .sl 3, .m 1])), (1, .map 93 96), (6, .box (rI 28 ([]))), (9, .box ([.s, .i .i64, .i .i64, .i .i64, .b])), (11, .box (rI 5 ([.s])))] }
noncomputable def K92x0x28w0 (L : List Lf) (p : Bool) : Ex × St := (.normal, ⟨[(0, .c (.p 0 0)), (2, .c (.i .i64 (li L 0))), (4, .c (.p 6 0)), (7, .c (.p 9 0)), (27, .c (.sl 68 (lb L 1) (ll L 2))), (28, .c (.i .i64 (li L 3))), (29, .c (.i .i64 (li L 4))), (52, .c (.b p))], [(0, .box [.i .i64 (li L 5), .i .i64 (li L 6), .i .i64 (li L 7), .sl 66 (lb L 8) (ll L 9), .sl 68 (lb L 10) (ll L 11), .sl 3 (lb L 12) (ll L 13), .sl 3 (lb L 14) (ll L 15), .m 1]), (1, .map 93 96 (lm L 16)), (6, .box (rL L 17 28 ([]))), (9, .box [.s (ls L 45), .i .i64 (li L 46), .i .i64 (li L 47), .i .i64 (li L 48), .b (lb L 49)])]⟩)
noncomputable def A92x0x28 (N : Nat) (L : List Lf) : List (Bool × (Ex × St)) := bnd (J92x0x28 N L (fun p => p)) fun q => [(true, K92x0x28w0 L q)]
theorem raw92x0x28 (N : Nat) (L : List Lf) : (exec Try.prog (T63x0 N) (h92x0s0 N) 2 100 (piece Try.prog 92 28) (ofSh sh92x0x28 L) (fun e st => some (e, cutSt [29, 28, 27, 0, 4, 2, 7, 52] [9, 6, 1, 0] st)) : Option (Ex × St)) = J92x0x28 N L (fun p => some (K92x0x28w0 L p)) := by kernel_rfl
theorem one92x0x28 : oneB Try.prog 92 28 = true := by kernel_rfl
theorem law92x0x28 (N : Nat) : CutLaw Try.prog 2 (piece Try.prog 92 28) (loSh sh92x0x28 (A92x0x28 N)) :=
  law_sh progOk (T63x0_ok N) (al92x0s0 N) one92x0x28 fun L x hx => (raw92x0x28 N L).trans ((tot92x0x28 N ..).trans (alt0 _ _ hx))
noncomputable def h92x0s1 (N : Nat) : Hint := { (h92x0s0 N) with los := (28, loSh sh92x0x28 (A92x0x28 N)) :: (h92x0s0 N).los }
theorem al92x0s1 (N : Nat) : AllCuts Try.prog (h92x0s1 N).los 2 92 := AllCuts.cons (al92x0s0 N) one92x0x28 (law92x0x28 N)
noncomputable def F92x0x37 (N : Nat) {R : Type} (w5 w17 w47 w51 w52 : Int) (k0 : Bool → R) : R :=
  bif (((IntKind.wrap .i64 (w5 + w17)).tmod 7) == w51) then
    k0 (decide (w47 > w52))
  else
    k0 false
noncomputable def V92x0x37 (N : Nat) (w5 w17 w47 w51 w52 : Int) : Bool := F92x0x37 N w5 w17 w47 w51 w52 (fun p => p)
theorem tot92x0x37 (N : Nat) {R : Type} (w5 w17 w47 w51 w52 : Int) (k0 : Bool → R) : F92x0x37 N w5 w17 w47 w51 w52 k0 = k0 (V92x0x37 N w5 w17 w47 w51 w52) := by
  unfold V92x0x37 F92x0x37
  repeat' (first | rfl | apply cond_k | (apply bnd_k; intro _))
noncomputable def J92x0x37 (N : Nat) (L : List Lf) {R : Type} (k0 : Bool → R) : R := F92x0x37 N (li L 5) (li L 17) (li L 47) (li L 51) (li L 52) k0
noncomputable def sh92x0x37 : Sh := { tmps := [(0, .c (.p 0 0)), (2, .c (.i .i64)), (4, .c (.p 6 0)), (7, .c (.p 9 0)), (9, .c (.p 11 0)), (27, .c (.sl 68)), (28, .c (.i .i64)), (29, .c (.i .i64))], mem := [(0, .box (.i .i64 :: .i .i64 :: [.i .i64, .sl 66, .sl 68, .sl 3, .sl 3, .m 1])), (1, .map 93 96), (6, .box (rI 28 ([]))), (9, .box ([.s, .i .i64, .i .i64, .i .i64, .b])), (11, .box (rI 5 ([.s])))] }
noncomputable def K92x0x37w0 (L : List Lf) (p : Bool) : Ex × St := (.normal, ⟨[(0, .c (.p 0 0)), (2, .c (.i .i64 (li L 0))), (4, .c (.p 6 0)), (7, .c (.p 9 0)), (27, .c (.sl 68 (lb L 1) (ll L 2))), (28, .c (.i .i64 (li L 3))), (29, .c (.i .i64 (li L 4))), (73, .c (.b p))], [(0, .box [.i .i64 (li L 5), .i .i64 (li L 6), .i .i64 (li L 7), .sl 66 (lb L 8) (ll L 9), .sl 68 (lb L 10) (ll L 11), .sl 3 (lb L 12) (ll L 13), .sl 3 (lb L 14) (ll L 15), .m 1]), (1, .map 93 96 (lm L 16)), (6, .box (rL L 17 28 ([]))), (9, .box [.s (ls L 45), .i .i64 (li L 46), .i .i64 (li L 47), .i .i64 (li L 48), .b (lb L 49)])]⟩)
noncomputable def A92x0x37 (N : Nat) (L : List Lf) : List (Bool × (Ex × St)) := bnd (J92x0x37 N L (fun p => p)) fun q => [(true, K92x0x37w0 L q)]
theorem raw92x0x37 (N : Nat) (L : List Lf) : (exec Try.prog (T63x0 N) (h92x0s1 N) 2 100 (piece Try.prog 92 37) (ofSh sh92x0x37 L) (fun e st => some (e, cutSt [29, 28, 27, 0, 4, 2, 7, 73] [9, 6, 1, 0] st)) : Option (Ex × St)) = J92x0x37 N L (fun p => some (K92x0x37w0 L p)) := by kernel_rfl
theorem one92x0x37 : oneB Try.prog 92 37 = true := by kernel_rfl
theorem law92x0x37 (N : Nat) : CutLaw Try.prog 2 (piece Try.prog 92 37) (loSh sh92x0x37 (A92x0x37 N)) :=
  law_sh progOk (T63x0_ok N) (al92x0s1 N) one92x0x37 fun L x hx => (raw92x0x37 N L).trans ((tot92x0x37 N ..).trans (alt0 _ _ hx))
noncomputable def h92x0s2 (N : Nat) : Hint := { (h92x0s1 N) with los := (37, loSh sh92x0x37 (A92x0x37 N)) :: (h92x0s1 N).los }
theorem al92x0s2 (N : Nat) : AllCuts Try.prog (h92x0s2 N).los 2 92 := AllCuts.cons (al92x0s1 N) one92x0x37 (law92x0x37 N)
noncomputable def F92x0x47 (N : Nat) {R : Type} (w5 : Bool) (w18 : Int) (w46 : LB) (w52 : Int) (w56 : LB) (k0 : Unit → Option R) (k1 : Unit → Option R) : Option R :=
  bif w5 then
    bif (bif (w18 == w52) then (!(w46 == w56)) else false) then
      k0 ()
    else
      k1 ()
  else
    k1 ()
noncomputable def G92x0x47 (N : Nat) (w5 : Bool) (w18 : Int) (w46 : LB) (w52 : Int) (w56 : LB) : Option (Sum (Unit) (Unit)) := F92x0x47 N w5 w18 w46 w52 w56 (fun p => some (.inl p)) (fun p => some (.inr p))
theorem bind92x0x47 (N : Nat) {R : Type} (w5 : Bool) (w18 : Int) (w46 : LB) (w52 : Int) (w56 : LB) (k0 : Unit → Option R) (k1 : Unit → Option R) : F92x0x47 N w5 w18 w46 w52 w56 k0 k1 = (G92x0x47 N w5 w18 w46 w52 w56).bind (sumE k0 k1) := by
  unfold G92x0x47 F92x0x47
  repeat' (first | rfl | apply cond_b | (apply bnd_b; intro _))
noncomputable def J92x0x47 (N : Nat) (L : List Lf) {R : Type} (k0 : Unit → Option R) (k1 : Unit → Option R) : Option R := F92x0x47 N (lb L 5) (li L 18) (ls L 46) (li L 52) (ls L 56) k0 k1
noncomputable def sh92x0x47 : Sh := { tmps := [(0, .c (.p 0 0)), (2, .c (.i .i64)), (4, .c (.p 6 0)), (7, .c (.p 9 0)), (9, .c (.p 11 0)), (27, .c (.sl 68)), (28, .c (.i .i64)), (29, .c (.i .i64)), (74, .c (.b))], mem := [(0, .box (.i .i64 :: .i .i64 :: [.i .i64, .sl 66, .sl 68, .sl 3, .sl 3, .m 1])), (1, .map 93 96), (6, .box (rI 28 ([]))), (9, .box ([.s, .i .i64, .i .i64, .i .i64, .b])), (11, .box (rI 5 ([.s])))] }
noncomputable def K92x0x47w0 (L : List Lf) (_ : Unit) : Ex × St := (.ret, ⟨[(6, .c (.b false))], [(0, .box [.i .i64 (li L 6), .i .i64 (li L 7), .i .i64 (li L 8), .sl 66 (lb L 9) (ll L 10), .sl 68 (lb L 11) (ll L 12), .sl 3 (lb L 13) (ll L 14), .sl 3 (lb L 15) (ll L 16), .m 1]), (1, .map 93 96 (lm L 17)), (6, .box (rL L 18 28 ([]))), (9, .box [.s (ls L 46), .i .i64 (li L 47), .i .i64 (li L 48), .i .i64 (li L 49), .b (lb L 50)])]⟩)
noncomputable def K92x0x47w1 (L : List Lf) (_ : Unit) : Ex × St := (.normal, ⟨[(0, .c (.p 0 0)), (2, .c (.i .i64 (li L 0))), (4, .c (.p 6 0)), (7, .c (.p 9 0)), (27, .c (.sl 68 (lb L 1) (ll L 2))), (28, .c (.i .i64 (li L 3))), (29, .c (.i .i64 (li L 4)))], [(0, .box [.i .i64 (li L 6), .i .i64 (li L 7), .i .i64 (li L 8), .sl 66 (lb L 9) (ll L 10), .sl 68 (lb L 11) (ll L 12), .sl 3 (lb L 13) (ll L 14), .sl 3 (lb L 15) (ll L 16), .m 1]), (1, .map 93 96 (lm L 17)), (6, .box (rL L 18 28 ([]))), (9, .box [.s (ls L 46), .i .i64 (li L 47), .i .i64 (li L 48), .i .i64 (li L 49), .b (lb L 50)])]⟩)
noncomputable def A92x0x47 (N : Nat) (L : List Lf) : List (Bool × (Ex × St)) := bnd (J92x0x47 N L (fun p => some (.inl p)) (fun p => some (.inr p))) fun q => [((inlB q), K92x0x47w0 L ()), ((inrQ q).isSome, K92x0x47w1 L ())]
theorem raw92x0x47 (N : Nat) (L : List Lf) : (exec Try.prog (T63x0 N) (h92x0s2 N) 2 100 (piece Try.prog 92 47) (ofSh sh92x0x47 L) (fun e st => some (e, cutSt [29, 28, 27, 0, 4, 2, 7, 6] [0, 1, 9, 6] st)) : Option (Ex × St)) = J92x0x47 N L (fun _ => some (K92x0x47w0 L ())) (fun _ => some (K92x0x47w1 L ())) := by kernel_rfl
theorem one92x0x47 : oneB Try.prog 92 47 = true := by kernel_rfl
theorem law92x0x47 (N : Nat) : CutLaw Try.prog 2 (piece Try.prog 92 47) (loSh sh92x0x47 (A92x0x47 N)) :=
  law_sh progOk (T63x0_ok N) (al92x0s2 N) one92x0x47 fun L x hx => (raw92x0x47 N L).trans ((bind92x0x47 N ..).trans ((altS alt1) x hx))
noncomputable def h92x0s3 (N : Nat) : Hint := { (h92x0s2 N) with los := (47, loSh sh92x0x47 (A92x0x47 N)) :: (h92x0s2 N).los }
theorem al92x0s3 (N : Nat) : AllCuts Try.prog (h92x0s3 N).los 2 92 := AllCuts.cons (al92x0s2 N) one92x0x47 (law92x0x47 N)
noncomputable def F92x0x42038 (N : Nat) {R : Type} (w5 : Int) (w6 : Bool) (w7 w19 : Int) (w47 : LB) (w49 w53 w54 : Int) (w57 : LB) (k0 : Unit → Option R) (k1 : Unit → Option R) : Option R :=
  bif w6 then
    bnd (V92x0x37 N w7 w19 w49 w53 w54) fun y0 =>
    bif y0 then
      k0 ()
    else
      k1 ()
  else
    bnd (G92x0x47 N (w5 == 8) w19 w47 w53 w57) fun y1 =>
    bif (inlB y1) then
      k0 ()
    else
      bif (inrQ y1).isSome then
        k1 ()
      else
        none
noncomputable def G92x0x42038 (N : Nat) (w5 : Int) (w6 : Bool) (w7 w19 : Int) (w47 : LB) (w49 w53 w54 : Int) (w57 : LB) : Option (Sum (Unit) (Unit)) := F92x0x42038 N w5 w6 w7 w19 w47 w49 w53 w54 w57 (fun p => some (.inl p)) (fun p => some (.inr p))
theorem bind92x0x42038 (N : Nat) {R : Type} (w5 : Int) (w6 : Bool) (w7 w19 : Int) (w47 : LB) (w49 w53 w54 : Int) (w57 : LB) (k0 : Unit → Option R) (k1 : Unit → Option R) : F92x0x42038 N w5 w6 w7 w19 w47 w49 w53 w54 w57 k0 k1 = (G92x0x42038 N w5 w6 w7 w19 w47 w49 w53 w54 w57).bind (sumE k0 k1) := by
  unfold G92x0x42038 F92x0x42038
  repeat' (first | rfl | apply cond_b | (apply bnd_b; intro _))
noncomputable def J92x0x42038 (N : Nat) (L : List Lf) {R : Type} (k0 : Unit → Option R) (k1 : Unit → Option R) : Option R := F92x0x42038 N (li L 5) (lb L 6) (li L 7) (li L 19) (ls L 47) (li L 49) (li L 53) (li L 54) (ls L 57) k0 k1
noncomputable def sh92x0x42038 : Sh := { tmps := [(0, .c (.p 0 0)), (2, .c (.i .i64)), (4, .c (.p 6 0)), (7, .c (.p 9 0)), (9, .c (.p 11 0)), (27, .c (.sl 68)), (28, .c (.i .i64)), (29, .c (.i .i64)), (34, .c (.i .i64)), (53, .c (.b))], mem := [(0, .box (.i .i64 :: .i .i64 :: [.i .i64, .sl 66, .sl 68, .sl 3, .sl 3, .m 1])), (1, .map 93 96), (6, .box (rI 28 ([]))), (9, .box ([.s, .i .i64, .i .i64, .i .i64, .b])), (11, .box (rI 5 ([.s])))] }
noncomputable def K92x0x42038w0 (L : List Lf) (_ : Unit) : Ex × St := (.ret, ⟨[(6, .c (.b false))], [(0, .box [.i .i64 (li L 7), .i .i64 (li L 8), .i .i64 (li L 9), .sl 66 (lb L 10) (ll L 11), .sl 68 (lb L 12) (ll L 13), .sl 3 (lb L 14) (ll L 15), .sl 3 (lb L 16) (ll L 17), .m 1]), (1, .map 93 96 (lm L 18)), (6, .box (rL L 19 28 ([]))), (9, .box [.s (ls L 47), .i .i64 (li L 48), .i .i64 (li L 49), .i .i64 (li L 50), .b (lb L 51)])]⟩)
noncomputable def K92x0x42038w1 (L : List Lf) (_ : Unit) : Ex × St := (.normal, ⟨[(0, .c (.p 0 0)), (2, .c (.i .i64 (li L 0))), (4, .c (.p 6 0)), (7, .c (.p 9 0)), (27, .c (.sl 68 (lb L 1) (ll L 2))), (28, .c (.i .i64 (li L 3))), (29, .c (.i .i64 (li L 4)))], [(0, .box [.i .i64 (li L 7), .i .i64 (li L 8), .i .i64 (li L 9), .sl 66 (lb L 10) (ll L 11), .sl 68 (lb L 12) (ll L 13), .sl 3 (lb L 14) (ll L 15), .sl 3 (lb L 16) (ll L 17), .m 1]), (1, .map 93 96 (lm L 18)), (6, .box (rL L 19 28 ([]))), (9, .box [.s (ls L 47), .i .i64 (li L 48), .i .i64 (li L 49), .i .i64 (li L 50), .b (lb L 51)])]⟩)
noncomputable def A92x0x42038 (N : Nat) (L : List Lf) : List (Bool × (Ex × St)) := bnd (J92x0x42038 N L (fun p => some (.inl p)) (fun p => some (.inr p))) fun q => [((inlB q), K92x0x42038w0 L ()), ((inrQ q).isSome, K92x0x42038w1 L ())]
theorem raw92x0x42038 (N : Nat) (L : List Lf) : (exec Try.prog (T63x0 N) (h92x0s3 N) 2 100 (piece Try.prog 92 42038) (ofSh sh92x0x42038 L) (fun e st => some (e, cutSt [29, 28, 27, 0, 4, 2, 7, 6] [0, 1, 9, 6] st)) : Option (Ex × St)) = J92x0x42038 N L (fun _ => some (K92x0x42038w0 L ())) (fun _ => some (K92x0x42038w1 L ())) := by kernel_rfl
theorem one92x0x42038 : oneB Try.prog 92 42038 = true := by kernel_rfl
theorem law92x0x42038 (N : Nat) : CutLaw Try.prog 2 (piece Try.prog 92 42038) (loSh sh92x0x42038 (A92x0x42038 N)) :=
  law_sh progOk (T63x0_ok N) (al92x0s3 N) one92x0x42038 fun L x hx => (raw92x0x42038 N L).trans ((bind92x0x42038 N ..).trans ((altS alt1) x hx))
noncomputable def h92x0s4 (N : Nat) : Hint := { (h92x0s3 N) with los := (42038, loSh sh92x0x42038 (A92x0x42038 N)) :: (h92x0s3 N).los }
theorem al92x0s4 (N : Nat) : AllCuts Try.prog (h92x0s4 N).los 2 92 := AllCuts.cons (al92x0s3 N) one92x0x42038 (law92x0x42038 N)
noncomputable def F92x0x33029 (N : Nat) {R : Type} (w0 w5 : Int) (w6 : Bool) (w7 w19 : Int) (w47 : LB) (w49 w53 w54 : Int) (w57 : LB) (k0 : Unit → Option R) (k1 : Unit → Option R) : Option R :=
  bif w6 then
    bnd (V92x0x28 N w0 w7 w19 w53) fun y0 =>
    bif y0 then
      k0 ()
    else
      k1 ()
  else
    bnd (G92x0x42038 N w5 (w5 == 2) w7 w19 w47 w49 w53 w54 w57) fun y1 =>
    bif (inlB y1) then
      k0 ()
    else
      bif (inrQ y1).isSome then
        k1 ()
      else
        none
noncomputable def G92x0x33029 (N : Nat) (w0 w5 : Int) (w6 : Bool) (w7 w19 : Int) (w47 : LB) (w49 w53 w54 : Int) (w57 : LB) : Option (Sum (Unit) (Unit)) := F92x0x33029 N w0 w5 w6 w7 w19 w47 w49 w53 w54 w57 (fun p => some (.inl p)) (fun p => some (.inr p))
theorem bind92x0x33029 (N : Nat) {R : Type} (w0 w5 : Int) (w6 : Bool) (w7 w19 : Int) (w47 : LB) (w49 w53 w54 : Int) (w57 : LB) (k0 : Unit → Option R) (k1 : Unit → Option R) : F92x0x33029 N w0 w5 w6 w7 w19 w47 w49 w53 w54 w57 k0 k1 = (G92x0x33029 N w0 w5 w6 w7 w19 w47 w49 w53 w54 w57).bind (sumE k0 k1) := by
  unfold G92x0x33029 F92x0x33029
  repeat' (first | rfl | apply cond_b | (apply bnd_b; intro _))
noncomputable def J92x0x33029 (N : Nat) (L : List Lf) {R : Type} (k0 : Unit → Option R) (k1 : Unit → Option R) : Option R := F92x0x33029 N (li L 0) (li L 5) (lb L 6) (li L 7) (li L 19) (ls L 47) (li L 49) (li L 53) (li L 54) (ls L 57) k0 k1
noncomputable def sh92x0x33029 : Sh := { tmps := [(0, .c (.p 0 0)), (2, .c (.i .i64)), (4, .c (.p 6 0)), (7, .c (.p 9 0)), (9, .c (.p 11 0)), (27, .c (.sl 68)), (28, .c (.i .i64)), (29, .c (.i .i64)), (34, .c (.i .i64)), (35, .c (.b))], mem := [(0, .box (.i .i64 :: .i .i64 :: [.i .i64, .sl 66, .sl 68, .sl 3, .sl 3, .m 1])), (1, .map 93 96), (6, .box (rI 28 ([]))), (9, .box ([.s, .i .i64, .i .i64, .i .i64, .b])), (11, .box (rI 5 ([.s])))] }
noncomputable def K92x0x33029w0 (L : List Lf) (_ : Unit) : Ex × St := (.ret, ⟨[(6, .c (.b false))], [(0, .box [.i .i64 (li L 7), .i .i64 (li L 8), .i .i64 (li L 9), .sl 66 (lb L 10) (ll L 11), .sl 68 (lb L 12) (ll L 13), .sl 3 (lb L 14) (ll L 15), .sl 3 (lb L 16) (ll L 17), .m 1]), (1, .map 93 96 (lm L 18)), (6, .box (rL L 19 28 ([]))), (9, .box [.s (ls L 47), .i .i64 (li L 48), .i .i64 (li L 49), .i .i64 (li L 50), .b (lb L 51)])]⟩)
noncomputable def K92x0x33029w1 (L : List Lf) (_ : Unit) : Ex × St := (.normal, ⟨[(0, .c (.p 0 0)), (2, .c (.i .i64 (li L 0))), (4, .c (.p 6 0)), (7, .c (.p 9 0)), (27, .c (.sl 68 (lb L 1) (ll L 2))), (28, .c (.i .i64 (li L 3))), (29, .c (.i .i64 (li L 4)))], [(0, .box [.i .i64 (li L 7), .i .i64 (li L 8), .i .i64 (li L 9), .sl 66 (lb L 10) (ll L 11), .sl 68 (lb L 12) (ll L 13), .sl 3 (lb L 14) (ll L 15), .sl 3 (lb L 16) (ll L 17), .m 1]), (1, .map 93 96 (lm L 18)), (6, .box (rL L 19 28 ([]))), (9, .box [.s (ls L 47), .i .i64 (li L 48), .i .i64 (li L 49), .i .i64 (li L 50), .b (lb L 51)])]⟩)
noncomputable def A92x0x33029 (N : Nat) (L : List Lf) : List (Bool × (Ex × St)) := bnd (J92x0x33029 N L (fun p => some (.inl p)) (fun p => some (.inr p))) fun q => [((inlB q), K92x0x33029w0 L ()), ((inrQ q).isSome, K92x0x33029w1 L ())]
theorem raw92x0x33029 (N : Nat) (L : List Lf) : (exec Try.prog (T63x0 N) (h92x0s4 N) 2 100 (piece Try.prog 92 33029) (ofSh sh92x0x33029 L) (fun e st => some (e, cutSt [29, 28, 27, 0, 4, 2, 7, 6] [0, 1, 9, 6] st)) : Option (Ex × St)) = J92x0x33029 N L (fun _ => some (K92x0x33029w0 L ())) (fun _ => some (K92x0x33029w1 L ())) := by kernel_rfl
theorem one92x0x33029 : oneB Try.prog 92 33029 = true := by kernel_rfl
theorem law92x0x33029 (N : Nat) : CutLaw Try.prog 2 (piece Try.prog 92 33029) (loSh sh92x0x33029 (A92x0x33029 N)) :=
  law_sh progOk (T63x0_ok N) (al92x0s4 N) one92x0x33029 fun L x hx => (raw92x0x33029 N L).trans ((bind92x0x33029 N ..).trans ((altS alt1) x hx))
noncomputable def h92x0s5 (N : Nat) : Hint := { (h92x0s4 N) with los := (33029, loSh sh92x0x33029 (A92x0x33029 N)) :: (h92x0s4 N).los }
theorem al92x0s5 (N : Nat) : AllCuts Try.prog (h92x0s5 N).los 2 92 := AllCuts.cons (al92x0s4 N) one92x0x33029 (law92x0x33029 N)
noncomputable def K92x0x15w0 (w5 w6 w7 : Int) (w8 : Bool) (w9 : LD) (w10 : Bool) (w11 : LD) (w12 : Bool) (w13 : LD) (w14 : Bool) (w15 : LD) (w16 : (List (D × D))) (_ : Unit) : Ex × St := (.ret, ⟨[(6, .c (.b false))], [(0, .box [.i .i64 w5, .i .i64 w6, .i .i64 w7, .sl 66 w8 w9, .sl 68 w10 w11, .sl 3 w12 w13, .sl 3 w14 w15, .m 1]), (1, .map 93 96 w16)]⟩)
noncomputable def K92x0x15w1 (w5 w6 w7 : Int) (w8 : Bool) (w9 : LD) (w10 : Bool) (w11 : LD) (w12 : Bool) (w13 : LD) (w14 : Bool) (w15 : LD) (w16 : (List (D × D))) (_ : Unit) : Ex × St := ((.exit 0), ⟨[], [(0, .box [.i .i64 w5, .i .i64 w6, .i .i64 w7, .sl 66 w8 w9, .sl 68 w10 w11, .sl 3 w12 w13, .sl 3 w14 w15, .m 1]), (1, .map 93 96 w16)]⟩)
noncomputable def P92x0x15 (w0 : Int) (w1 : Bool) (w2 : LD) (w3 w4 w5 w6 w7 : Int) (w8 : Bool) (w9 : LD) (w10 : Bool) (w11 : LD) (w12 : Bool) (w13 : LD) (w14 : Bool) (w15 : LD) (w16 : (List (D × D))) (w17 w18 w19 w20 w21 w22 w23 w24 w25 w26 w27 w28 w29 w30 w31 w32 w33 w34 w35 w36 w37 w38 w39 w40 w41 w42 w43 w44 : Int) (w45 : LB) (w46 w47 w48 : Int) (w49 : Bool) : St := ⟨[(0, .c (.p 0 0)), (2, .c (.i .i64 w0)), (4, .c (.p 6 0)), (7, .c (.p 9 0)), (27, .c (.sl 68 w1 w2)), (28, .c (.i .i64 w3)), (29, .c (.i .i64 w4))], [(0, .box [.i .i64 w5, .i .i64 w6, .i .i64 w7, .sl 66 w8 w9, .sl 68 w10 w11, .sl 3 w12 w13, .sl 3 w14 w15, .m 1]), (1, .map 93 96 w16), (6, .box [.i .i64 w17, .i .i64 w18, .i .i64 w19, .i .i64 w20, .i .i64 w21, .i .i64 w22, .i .i64 w23, .i .i64 w24, .i .i64 w25, .i .i64 w26, .i .i64 w27, .i .i64 w28, .i .i64 w29, .i .i64 w30, .i .i64 w31, .i .i64 w32, .i .i64 w33, .i .i64 w34, .i .i64 w35, .i .i64 w36, .i .i64 w37, .i .i64 w38, .i .i64 w39, .i .i64 w40, .i .i64 w41, .i .i64 w42, .i .i64 w43, .i .i64 w44]), (9, .box [.s w45, .i .i64 w46, .i .i64 w47, .i .i64 w48, .b w49])]⟩
noncomputable def S92x0x15 (N : Nat) {R : Type} (w0 : Int) (w2 : LD) (w3 w5 w17 : Int) (w45 : LB) (w47 : Int) (w4 : Int) (kr : Int → Option R) (k0 : Unit → Option R) (k1 : Unit → Option R) : Option R :=
  bif (decide (w4 < w3)) then
    bif (inB w4 w2.length) then
      bnd (G92x0x33029 N w0 ((w2.getD w4.toNat (.i 0)).cell 0).toI (((w2.getD w4.toNat (.i 0)).cell 0).toI == 1) w5 w17 w45 w47 ((w2.getD w4.toNat (.i 0)).cell 1).toI ((w2.getD w4.toNat (.i 0)).cell 2).toI ((w2.getD w4.toNat (.i 0)).cell 5).toS) fun y0 =>
      bif (inlB y0) then
        k0 ()
      else
        bif (inrQ y0).isSome then
          kr (IntKind.wrap .i64 (w4 + 1))
        else
          none
    else
      none
  else
    k1 ()
theorem mono92x0x15 (N : Nat) {R : Type} (w0 : Int) (w2 : LD) (w3 w5 w17 : Int) (w45 : LB) (w47 : Int) (w4 : Int) {kr kr' : Int → Option R} (k0 : Unit → Option R) (k1 : Unit → Option R) {r : R} (hk : ∀ w4', kr w4' = some r → kr' w4' = some r) : S92x0x15 N w0 w2 w3 w5 w17 w45 w47 w4 kr k0 k1 = some r → S92x0x15 N w0 w2 w3 w5 w17 w45 w47 w4 kr' k0 k1 = some r := by
  unfold S92x0x15
  repeat' (first | exact hk _ | exact fun h => h | apply cond_mono | (apply bnd_mono; intro _))
noncomputable def L92x0x15 (N : Nat) {R : Type} (w0 : Int) (w2 : LD) (w3 w5 w17 : Int) (w45 : LB) (w47 : Int) : Nat → Int → (Unit → Option R) → (Unit → Option R) → Option R
  | 0, _, _, _ => none
  | m + 1, w4, k0, k1 => S92x0x15 N w0 w2 w3 w5 w17 w45 w47 w4 (fun w4 => L92x0x15 N w0 w2 w3 w5 w17 w45 w47 m w4 k0 k1) k0 k1
theorem lp92x0x15 : piece Try.prog 92 15 = .loop (loopB (piece Try.prog 92 15)) := by kernel_rfl
theorem nl92x0x15 (N : Nat) : lawOf (h92x0s5 N) (.loop (loopB (piece Try.prog 92 15))) = none := by kernel_rfl
theorem cl92x0x15 (N : Nat) (w0 : Int) (w1 : Bool) (w2 : LD) (w3 w5 w6 w7 : Int) (w8 : Bool) (w9 : LD) (w10 : Bool) (w11 : LD) (w12 : Bool) (w13 : LD) (w14 : Bool) (w15 : LD) (w16 : (List (D × D))) (w17 w18 w19 w20 w21 w22 w23 w24 w25 w26 w27 w28 w29 w30 w31 w32 w33 w34 w35 w36 w37 w38 w39 w40 w41 w42 w43 w44 : Int) (w45 : LB) (w46 w47 w48 : Int) (w49 : Bool) (w4 : Int) : clearSt Try.prog 2 (h92x0s5 N).loops 15 (P92x0x15 w0 w1 w2 w3 w4 w5 w6 w7 w8 w9 w10 w11 w12 w13 w14 w15 w16 w17 w18 w19 w20 w21 w22 w23 w24 w25 w26 w27 w28 w29 w30 w31 w32 w33 w34 w35 w36 w37 w38 w39 w40 w41 w42 w43 w44 w45 w46 w47 w48 w49) = (P92x0x15 w0 w1 w2 w3 w4 w5 w6 w7 w8 w9 w10 w11 w12 w13 w14 w15 w16 w17 w18 w19 w20 w21 w22 w23 w24 w25 w26 w27 w28 w29 w30 w31 w32 w33 w34 w35 w36 w37 w38 w39 w40 w41 w42 w43 w44 w45 w46 w47 w48 w49) := by kernel_rfl
theorem step92x0x15 (N : Nat) (m : Nat) (kn : St → Option (Ex × St)) (w0 : Int) (w1 : Bool) (w2 : LD) (w3 w5 w6 w7 : Int) (w8 : Bool) (w9 : LD) (w10 : Bool) (w11 : LD) (w12 : Bool) (w13 : LD) (w14 : Bool) (w15 : LD) (w16 : (List (D × D))) (w17 w18 w19 w20 w21 w22 w23 w24 w25 w26 w27 w28 w29 w30 w31 w32 w33 w34 w35 w36 w37 w38 w39 w40 w41 w42 w43 w44 : Int) (w45 : LB) (w46 w47 w48 : Int) (w49 : Bool) (w4 : Int) : exec Try.prog (T63x0 N) (h92x0s5 N) 2 (m + 100) (loopB (piece Try.prog 92 15)) (P92x0x15 w0 w1 w2 w3 w4 w5 w6 w7 w8 w9 w10 w11 w12 w13 w14 w15 w16 w17 w18 w19 w20 w21 w22 w23 w24 w25 w26 w27 w28 w29 w30 w31 w32 w33 w34 w35 w36 w37 w38 w39 w40 w41 w42 w43 w44 w45 w46 w47 w48 w49) (reK (fun st => kn (clearSt Try.prog 2 (h92x0s5 N).loops 15 st)) (fun e st => some (e, cutSt [6] [0, 1] st))) = S92x0x15 N w0 w2 w3 w5 w17 w45 w47 w4 (fun w4 => kn (P92x0x15 w0 w1 w2 w3 w4 w5 w6 w7 w8 w9 w10 w11 w12 w13 w14 w15 w16 w17 w18 w19 w20 w21 w22 w23 w24 w25 w26 w27 w28 w29 w30 w31 w32 w33 w34 w35 w36 w37 w38 w39 w40 w41 w42 w43 w44 w45 w46 w47 w48 w49)) (fun _ => some (K92x0x15w0 w5 w6 w7 w8 w9 w10 w11 w12 w13 w14 w15 w16 ())) (fun _ => some (K92x0x15w1 w5 w6 w7 w8 w9 w10 w11 w12 w13 w14 w15 w16 ())) := by kernel_rfl
theorem run92x0x15 (N : Nat) (w0 : Int) (w1 : Bool) (w2 : LD) (w3 w5 w6 w7 : Int) (w8 : Bool) (w9 : LD) (w10 : Bool) (w11 : LD) (w12 : Bool) (w13 : LD) (w14 : Bool) (w15 : LD) (w16 : (List (D × D))) (w17 w18 w19 w20 w21 w22 w23 w24 w25 w26 w27 w28 w29 w30 w31 w32 w33 w34 w35 w36 w37 w38 w39 w40 w41 w42 w43 w44 : Int) (w45 : LB) (w46 w47 w48 : Int) (w49 : Bool) : ∀ (m : Nat) (w4 : Int) (x : Ex × St), L92x0x15 N w0 w2 w3 w5 w17 w45 w47 m w4 (fun _ => some (K92x0x15w0 w5 w6 w7 w8 w9 w10 w11 w12 w13 w14 w15 w16 ())) (fun _ => some (K92x0x15w1 w5 w6 w7 w8 w9 w10 w11 w12 w13 w14 w15 w16 ())) = some x → exec Try.prog (T63x0 N) (h92x0s5 N) 2 (m + 101) (.loop (loopB (piece Try.prog 92 15))) (P92x0x15 w0 w1 w2 w3 w4 w5 w6 w7 w8 w9 w10 w11 w12 w13 w14 w15 w16 w17 w18 w19 w20 w21 w22 w23 w24 w25 w26 w27 w28 w29 w30 w31 w32 w33 w34 w35 w36 w37 w38 w39 w40 w41 w42 w43 w44 w45 w46 w47 w48 w49) (fun e st => some (e, cutSt [6] [0, 1] st)) = some x := by
  intro m
  induction m with
  | zero => intro w4 x h; cases h
  | succ m ih =>
    intro w4 x h
    exact loop_round (n := m + 101) (nl92x0x15 N) (by kernel_rfl) (cl92x0x15 N ..) (fun kn => step92x0x15 N (m + 1) kn ..) (mono92x0x15 N _ _ _ _ _ _ _ _ _ _ (fun w4 => ih w4 x) h)
noncomputable def G92x0x15 (N : Nat) (w0 : Int) (w2 : LD) (w3 w5 w17 : Int) (w45 : LB) (w47 : Int) (w4 : Int) : Option (Sum (Unit) (Unit)) := L92x0x15 N (R := (Sum (Unit) (Unit))) w0 w2 w3 w5 w17 w45 w47 N w4 (fun p => some (.inl p)) (fun p => some (.inr p))
theorem sb92x0x15 (N : Nat) {R A : Type} (w0 : Int) (w2 : LD) (w3 w5 w17 : Int) (w45 : LB) (w47 : Int) (w4 : Int) (kr : Int → Option R) (kr' : Int → Option A) (k0 : Unit → Option R) (k1 : Unit → Option R) (j0 : Unit → Option A) (j1 : Unit → Option A) (K : A → Option R) (hr : ∀ w4', kr w4' = (kr' w4').bind K) (h0 : ∀ p, k0 p = (j0 p).bind K) (h1 : ∀ p, k1 p = (j1 p).bind K) : S92x0x15 N w0 w2 w3 w5 w17 w45 w47 w4 kr k0 k1 = (S92x0x15 N w0 w2 w3 w5 w17 w45 w47 w4 kr' j0 j1).bind K := by
  unfold S92x0x15
  repeat' (first | rfl | apply hr | apply h0 | apply h1 | apply cond_b | (apply bnd_b; intro _))
theorem lbind92x0x15 (N : Nat) {R : Type} (w0 : Int) (w2 : LD) (w3 w5 w17 : Int) (w45 : LB) (w47 : Int) : ∀ (m : Nat) (w4 : Int) (k0 : Unit → Option R) (k1 : Unit → Option R), L92x0x15 N w0 w2 w3 w5 w17 w45 w47 m w4 k0 k1 = (L92x0x15 N (R := (Sum (Unit) (Unit))) w0 w2 w3 w5 w17 w45 w47 m w4 (fun p => some (.inl p)) (fun p => some (.inr p))).bind (sumE k0 k1) := by
  intro m
  induction m with
  | zero => intros; rfl
  | succ m ih =>
    intro w4 k0 k1
    exact sb92x0x15 N _ _ _ _ _ _ _ _ _ _ _ _ _ _ _ (fun w4 => ih w4 k0 k1) (fun _ => rfl) (fun _ => rfl)
theorem one92x0x15 : oneB Try.prog 92 15 = true := by kernel_rfl
noncomputable def sh92x0x15 : Sh := { tmps := [(0, .c (.p 0 0)), (2, .c (.i .i64)), (4, .c (.p 6 0)), (7, .c (.p 9 0)), (27, .c (.sl 68)), (28, .c (.i .i64)), (29, .c (.i .i64))], mem := [(0, .box (.i .i64 :: .i .i64 :: [.i .i64, .sl 66, .sl 68, .sl 3, .sl 3, .m 1])), (1, .map 93 96), (6, .box (rI 28 ([]))), (9, .box ([.s, .i .i64, .i .i64, .i .i64, .b]))] }
noncomputable def A92x0x15 (N : Nat) (L : List Lf) : List (Bool × (Ex × St)) := bnd (G92x0x15 N (li L 0) (ll L 2) (li L 3) (li L 5) (li L 17) (ls L 45) (li L 47) (li L 4)) fun q => [((inlB q), K92x0x15w0 (li L 5) (li L 6) (li L 7) (lb L 8) (ll L 9) (lb L 10) (ll L 11) (lb L 12) (ll L 13) (lb L 14) (ll L 15) (lm L 16) ()), ((inrQ q).isSome, K92x0x15w1 (li L 5) (li L 6) (li L 7) (lb L 8) (ll L 9) (lb L 10) (ll L 11) (lb L 12) (ll L 13) (lb L 14) (ll L 15) (lm L 16) ())]
theorem eq92x0x15 (L : List Lf) : ofSh sh92x0x15 L = (P92x0x15 (li L 0) (lb L 1) (ll L 2) (li L 3) (li L 4) (li L 5) (li L 6) (li L 7) (lb L 8) (ll L 9) (lb L 10) (ll L 11) (lb L 12) (ll L 13) (lb L 14) (ll L 15) (lm L 16) (li L 17) (li L 18) (li L 19) (li L 20) (li L 21) (li L 22) (li L 23) (li L 24) (li L 25) (li L 26) (li L 27) (li L 28) (li L 29) (li L 30) (li L 31) (li L 32) (li L 33) (li L 34) (li L 35) (li L 36) (li L 37) (li L 38) (li L 39) (li L 40) (li L 41) (li L 42) (li L 43) (li L 44) (ls L 45) (li L 46) (li L 47) (li L 48) (lb L 49)) := by kernel_rfl
theorem law92x0x15 (N : Nat) : CutLaw Try.prog 2 (piece Try.prog 92 15) (loSh sh92x0x15 (A92x0x15 N)) :=
  law_shL progOk (T63x0_ok N) (al92x0s5 N) one92x0x15 lp92x0x15 eq92x0x15 fun L x hx => run92x0x15 N _ _ _ _ _ _ _ _ _ _ _ _ _ _ _ _ _ _ _ _ _ _ _ _ _ _ _ _ _ _ _ _ _ _ _ _ _ _ _ _ _ _ _ _ _ _ _ _ _ N _ x ((lbind92x0x15 N _ _ _ _ _ _ _ N _ _ _).trans ((altS alt1) x hx))
noncomputable def h92x0s6 (N : Nat) : Hint := { (h92x0s5 N) with los := (15, loSh sh92x0x15 (A92x0x15 N)) :: (h92x0s5 N).los }
theorem al92x0s6 (N : Nat) : AllCuts Try.prog (h92x0s6 N).los 2 92 := AllCuts.cons (al92x0s5 N) one92x0x15 (law92x0x15 N)
noncomputable def F92x0 (N : Nat) {R : Type} (v0 v3 v28 v29 : Int) (v33 v35 : LD) (k0 : Bool → Option R) : Option R :=
  bnd (G63x0 N v33 v28) fun y0 =>
  bif y0.isSome then
    bnd (bif (y0.getD default).2.2.2.2 then (decide (v3 > 0)) else false) fun y1 =>
    bif y1 then
      k0 false
    else
      bnd (G92x0x15 N v28 v35 (v35.length : Int) v29 v0 (y0.getD default).1 (y0.getD default).2.2.1 0) fun y2 =>
      bif (inlB y2) then
        k0 false
      else
        bif (inrQ y2).isSome then
          k0 true
        else
          none
  else
    none
noncomputable def G92x0 (N : Nat) (v0 v3 v28 v29 : Int) (v33 v35 : LD) : Option (Bool) := F92x0 N v0 v3 v28 v29 v33 v35 (fun p => some p)
theorem bind92x0 (N : Nat) {R : Type} (v0 v3 v28 v29 : Int) (v33 v35 : LD) (k0 : Bool → Option R) : F92x0 N v0 v3 v28 v29 v33 v35 k0 = (G92x0 N v0 v3 v28 v29 v33 v35).bind k0 := by
  unfold G92x0 F92x0
  repeat' (first | rfl | apply cond_b | (apply bnd_b; intro _))
noncomputable def J92x0 (N : Nat) (L : List Lf) {R : Type} (k0 : Bool → Option R) : Option R := F92x0 N (li L 0) (li L 3) (li L 28) (li L 29) (ll L 33) (ll L 35) k0
noncomputable def sh92x0 : Sh := { tmps := [(0, .c (.p 0 0)), (1, .g (rI 28 ([]))), (2, .c (.i .i64))], mem := [(0, .box (.i .i64 :: .i .i64 :: [.i .i64, .sl 66, .sl 68, .sl 3, .sl 3, .m 1])), (1, .map 93 96)] }
noncomputable def K92x0w0 (L : List Lf) (p : Bool) : Res := ([.c (.b p)], [(0, .box [.i .i64 (li L 29), .i .i64 (li L 30), .i .i64 (li L 31), .sl 66 (lb L 32) (ll L 33), .sl 68 (lb L 34) (ll L 35), .sl 3 (lb L 36) (ll L 37), .sl 3 (lb L 38) (ll L 39), .m 1]), (1, .map 93 96 (lm L 40))])
noncomputable def A92x0 (N : Nat) (L : List Lf) : List (Bool × Res) := bnd (J92x0 N L (fun p => some p)) fun q => [(q.isSome, K92x0w0 L (q.getD default))]
theorem raw92x0 (N : Nat) (L : List Lf) : (body Try.prog (T63x0 N) (h92x0s6 N) 200 92 (valsOf (ofSh sh92x0 L).tmps) (ofSh sh92x0 L).mem : Option Res) = J92x0 N L (fun p => some (K92x0w0 L p)) := by kernel_rfl
theorem ok92x0 (N : Nat) : ∀ args mem alts, spSh sh92x0 (A92x0 N) args mem = some alts → ∀ res, altK alts some = some res → CallOk Try.prog 92 args mem res :=
  spSh_law fun L x hx => callOk_of (n := 200) progOk (T63x0_ok N) (al92x0s6 N) rfl ((raw92x0 N L).trans ((bind92x0 N ..).trans (alt1 x hx)))
noncomputable def T92x0 (N : Nat) : Oracle := ext 92 (spSh sh92x0 (A92x0 N)) (T63x0 N)
theorem T92x0_ok (N : Nat) : OracleOk Try.prog (T92x0 N) := ext_ok (T63x0_ok N) (enters_of (by kernel_rfl)) (ok92x0 N)
noncomputable def rg93x0 : List (Nat × List Nat) := [(0, [0]), (1, [1]), (2, [1, 3]), (3, [9, 8, 7, 3]), (4, [7, 9, 3, 8]), (5, [5, 3, 9, 8, 7]), (6, [3, 5, 9, 8, 7]), (7, [9, 8, 7, 3]), (8, [3])]
noncomputable def hd93x0 : Hints := [(9, [9, 8, 7, 3], [], []), (20, [3, 5, 9, 8, 7, 15], [5], [])]
noncomputable def h93x0s0 (N : Nat) : Hint := { loops := hd93x0, regs := rg93x0, los := [] }
theorem al93x0s0 (N : Nat) : AllCuts Try.prog (h93x0s0 N).los 0 93 := AllCuts.nil
noncomputable def F93x0x20 (N : Nat) {R : Type} (w0 : Int) (w5 : Bool) (w8 : Int) (k0 : Int → R) : R :=
  bif w5 then
    k0 (max2 w0 w8)
  else
    k0 w0
noncomputable def V93x0x20 (N : Nat) (w0 : Int) (w5 : Bool) (w8 : Int) : Int := F93x0x20 N w0 w5 w8 (fun p => p)
theorem tot93x0x20 (N : Nat) {R : Type} (w0 : Int) (w5 : Bool) (w8 : Int) (k0 : Int → R) : F93x0x20 N w0 w5 w8 k0 = k0 (V93x0x20 N w0 w5 w8) := by
  unfold V93x0x20 F93x0x20
  repeat' (first | rfl | apply cond_k | (apply bnd_k; intro _))
noncomputable def sh93x0x20 : Sh := { tmps := [(3, .c (.i .i64)), (5, .c (.p 5 0)), (7, .c (.sl 68)), (8, .c (.i .i64)), (9, .c (.i .i64)), (15, .c (.b))], mem := [(5, .box (rI 5 ([.s])))] }
noncomputable def K93x0x20w0 (L : List Lf) (p : Int) : Ex × St := (.normal, ⟨[(3, .c (.i .i64 p)), (7, .c (.sl 68 (lb L 1) (ll L 2))), (8, .c (.i .i64 (li L 3))), (9, .c (.i .i64 (li L 4)))], []⟩)
noncomputable def A93x0x20 (N : Nat) (L : List Lf) : List (Bool × (Ex × St)) := bnd (F93x0x20 N (li L 0) (lb L 5) (li L 8) (fun p => p)) fun q => [(true, K93x0x20w0 L q)]
theorem raw93x0x20 (N : Nat) (L : List Lf) : (exec Try.prog (T92x0 N) (h93x0s0 N) 0 100 (piece Try.prog 93 20) (ofSh sh93x0x20 L) (fun e st => some (e, cutSt [9, 8, 7, 3] [] st)) : Option (Ex × St)) = F93x0x20 N (li L 0) (lb L 5) (li L 8) (fun p => some (K93x0x20w0 L p)) := by kernel_rfl
theorem one93x0x20 : oneB Try.prog 93 20 = true := by kernel_rfl
theorem law93x0x20 (N : Nat) : CutLaw Try.prog 0 (piece Try.prog 93 20) (loSh sh93x0x20 (A93x0x20 N)) :=
  law_sh progOk (T92x0_ok N) (al93x0s0 N) one93x0x20 fun L x hx => (raw93x0x20 N L).trans ((tot93x0x20 N ..).trans (alt0 _ _ hx))
noncomputable def h93x0s1 (N : Nat) : Hint := { (h93x0s0 N) with los := (20, loSh sh93x0x20 (A93x0x20 N)) :: (h93x0s0 N).los }
theorem al93x0s1 (N : Nat) : AllCuts Try.prog (h93x0s1 N).los 0 93 := AllCuts.cons (al93x0s0 N) one93x0x20 (law93x0x20 N)
noncomputable def P93x0x9 (w0 : Int) (w1 : Bool) (w2 : LD) (w3 w4 : Int) : St := ⟨[(3, .c (.i .i64 w0)), (7, .c (.sl 68 w1 w2)), (8, .c (.i .i64 w3)), (9, .c (.i .i64 w4))], []⟩
noncomputable def S93x0x9 (N : Nat) {R : Type} (w2 : LD) (w3 : Int) (w0 w4 : Int) (kr : Int → Int → Option R) (k0 : Int → Option R) : Option R :=
  bif (decide (w4 < w3)) then
    bif (inB w4 w2.length) then
      bnd (V93x0x20 N w0 (((w2.getD w4.toNat (.i 0)).cell 0).toI == 5) ((w2.getD w4.toNat (.i 0)).cell 2).toI) fun y0 =>
      kr y0 (IntKind.wrap .i64 (w4 + 1))
    else
      none
  else
    k0 w0
theorem mono93x0x9 (N : Nat) {R : Type} (w2 : LD) (w3 : Int) (w0 w4 : Int) {kr kr' : Int → Int → Option R} (k0 : Int → Option R) {r : R} (hk : ∀ w0' w4', kr w0' w4' = some r → kr' w0' w4' = some r) : S93x0x9 N w2 w3 w0 w4 kr k0 = some r → S93x0x9 N w2 w3 w0 w4 kr' k0 = some r := by
  unfold S93x0x9
  repeat' (first | exact hk _ _ | exact fun h => h | apply cond_mono | (apply bnd_mono; intro _))
noncomputable def L93x0x9 (N : Nat) {R : Type} (w2 : LD) (w3 : Int) : Nat → Int → Int → (Int → Option R) → Option R
  | 0, _, _, _ => none
  | m + 1, w0, w4, k0 => S93x0x9 N w2 w3 w0 w4 (fun w0 w4 => L93x0x9 N w2 w3 m w0 w4 k0) k0
theorem lp93x0x9 : piece Try.prog 93 9 = .loop (loopB (piece Try.prog 93 9)) := by kernel_rfl
theorem nl93x0x9 (N : Nat) : lawOf (h93x0s1 N) (.loop (loopB (piece Try.prog 93 9))) = none := by kernel_rfl
theorem cl93x0x9 (N : Nat) (w1 : Bool) (w2 : LD) (w3 : Int) (w0 w4 : Int) : clearSt Try.prog 0 (h93x0s1 N).loops 9 (P93x0x9 w0 w1 w2 w3 w4) = (P93x0x9 w0 w1 w2 w3 w4) := by kernel_rfl
theorem step93x0x9 (N : Nat) (m : Nat) (kn : St → Option (Ex × St)) (w1 : Bool) (w2 : LD) (w3 : Int) (w0 w4 : Int) : exec Try.prog (T92x0 N) (h93x0s1 N) 0 (m + 100) (loopB (piece Try.prog 93 9)) (P93x0x9 w0 w1 w2 w3 w4) (reK (fun st => kn (clearSt Try.prog 0 (h93x0s1 N).loops 9 st)) (fun e st => some (e, cutSt [2, 3] [] st))) = S93x0x9 N w2 w3 w0 w4 (fun w0 w4 => kn (P93x0x9 w0 w1 w2 w3 w4)) (fun p => some ((.exit 0), ⟨[(3, .c (.i .i64 p))], []⟩)) := by kernel_rfl
theorem run93x0x9 (N : Nat) (w1 : Bool) (w2 : LD) (w3 : Int) : ∀ (m : Nat) (w0 w4 : Int) (x : Ex × St), L93x0x9 N w2 w3 m w0 w4 (fun p => some ((.exit 0), ⟨[(3, .c (.i .i64 p))], []⟩)) = some x → exec Try.prog (T92x0 N) (h93x0s1 N) 0 (m + 101) (.loop (loopB (piece Try.prog 93 9))) (P93x0x9 w0 w1 w2 w3 w4) (fun e st => some (e, cutSt [2, 3] [] st)) = some x := by
  intro m
  induction m with
  | zero => intro w0 w4 x h; cases h
  | succ m ih =>
    intro w0 w4 x h
    exact loop_round (n := m + 101) (nl93x0x9 N) (by kernel_rfl) (cl93x0x9 N ..) (fun kn => step93x0x9 N (m + 1) kn ..) (mono93x0x9 N _ _ _ _ _ (fun w0 w4 => ih w0 w4 x) h)
noncomputable def G93x0x9 (N : Nat) (w2 : LD) (w3 : Int) (w0 w4 : Int) : Option (Int) := L93x0x9 N (R := (Int)) w2 w3 N w0 w4 (fun p => some p)
theorem sb93x0x9 (N : Nat) {R A : Type} (w2 : LD) (w3 : Int) (w0 w4 : Int) (kr : Int → Int → Option R) (kr' : Int → Int → Option A) (k0 : Int → Option R) (j0 : Int → Option A) (K : A → Option R) (hr : ∀ w0' w4', kr w0' w4' = (kr' w0' w4').bind K) (h0 : ∀ p, k0 p = (j0 p).bind K) : S93x0x9 N w2 w3 w0 w4 kr k0 = (S93x0x9 N w2 w3 w0 w4 kr' j0).bind K := by
  unfold S93x0x9
  repeat' (first | rfl | apply hr | apply h0 | apply cond_b | (apply bnd_b; intro _))
theorem lbind93x0x9 (N : Nat) {R : Type} (w2 : LD) (w3 : Int) : ∀ (m : Nat) (w0 w4 : Int) (k0 : Int → Option R), L93x0x9 N w2 w3 m w0 w4 k0 = (L93x0x9 N (R := (Int)) w2 w3 m w0 w4 (fun p => some p)).bind k0 := by
  intro m
  induction m with
  | zero => intros; rfl
  | succ m ih =>
    intro w0 w4 k0
    exact sb93x0x9 N _ _ _ _ _ _ _ _ _ (fun w0 w4 => ih w0 w4 k0) (fun _ => rfl)
theorem one93x0x9 : oneB Try.prog 93 9 = true := by kernel_rfl
noncomputable def sh93x0x9 : Sh := { tmps := [(3, .c (.i .i64)), (7, .c (.sl 68)), (8, .c (.i .i64)), (9, .c (.i .i64))], mem := [] }
noncomputable def A93x0x9 (N : Nat) (L : List Lf) : List (Bool × (Ex × St)) := bnd (G93x0x9 N (ll L 2) (li L 3) (li L 0) (li L 4)) fun q => [(q.isSome, ((.exit 0), ⟨[(3, .c (.i .i64 (q.getD default)))], []⟩))]
theorem eq93x0x9 (L : List Lf) : ofSh sh93x0x9 L = (P93x0x9 (li L 0) (lb L 1) (ll L 2) (li L 3) (li L 4)) := by kernel_rfl
theorem law93x0x9 (N : Nat) : CutLaw Try.prog 0 (piece Try.prog 93 9) (loSh sh93x0x9 (A93x0x9 N)) :=
  law_shL progOk (T92x0_ok N) (al93x0s1 N) one93x0x9 lp93x0x9 eq93x0x9 fun L x hx => run93x0x9 N _ _ _ N _ _ x ((lbind93x0x9 N _ _ N _ _ _).trans (alt1 x hx))
noncomputable def h93x0s2 (N : Nat) : Hint := { (h93x0s1 N) with los := (9, loSh sh93x0x9 (A93x0x9 N)) :: (h93x0s1 N).los }
theorem al93x0s2 (N : Nat) : AllCuts Try.prog (h93x0s2 N).los 0 93 := AllCuts.cons (al93x0s1 N) one93x0x9 (law93x0x9 N)
noncomputable def F93x0 (N : Nat) {R : Type} (v6 : LD) (k0 : Int → Option R) : Option R :=
  bnd (G93x0x9 N v6 (v6.length : Int) 1 0) fun y0 =>
  bif y0.isSome then
    k0 (y0.getD default)
  else
    none
noncomputable def G93x0 (N : Nat) (v6 : LD) : Option (Int) := F93x0 N v6 (fun p => some p)
theorem bind93x0 (N : Nat) {R : Type} (v6 : LD) (k0 : Int → Option R) : F93x0 N v6 k0 = (G93x0 N v6).bind k0 := by
  unfold G93x0 F93x0
  repeat' (first | rfl | apply cond_b | (apply bnd_b; intro _))
noncomputable def sh93x0 : Sh := { tmps := [(0, .g ([.i .i64, .i .i64, .i .i64, .sl 66, .sl 68]))], mem := [] }
noncomputable def A93x0 (N : Nat) (L : List Lf) : List (Bool × Res) := bnd (F93x0 N (ll L 6) (fun p => some p)) fun q => [(q.isSome, ([.c (.i .i64 (q.getD default))], []))]
theorem raw93x0 (N : Nat) (L : List Lf) : (body Try.prog (T92x0 N) (h93x0s2 N) 200 93 (valsOf (ofSh sh93x0 L).tmps) (ofSh sh93x0 L).mem : Option Res) = F93x0 N (ll L 6) (fun p => some ([.c (.i .i64 p)], [])) := by kernel_rfl
theorem ok93x0 (N : Nat) : ∀ args mem alts, spSh sh93x0 (A93x0 N) args mem = some alts → ∀ res, altK alts some = some res → CallOk Try.prog 93 args mem res :=
  spSh_law fun L x hx => callOk_of (n := 200) progOk (T92x0_ok N) (al93x0s2 N) rfl ((raw93x0 N L).trans ((bind93x0 N ..).trans (alt1 x hx)))
noncomputable def T93x0 (N : Nat) : Oracle := ext 93 (spSh sh93x0 (A93x0 N)) (T92x0 N)
theorem T93x0_ok (N : Nat) : OracleOk Try.prog (T93x0 N) := ext_ok (T92x0_ok N) (enters_of (by kernel_rfl)) (ok93x0 N)
noncomputable def rg76x0 : List (Nat × List Nat) := [(0, [1, 0, 2]), (1, [0, 2, 4, 6]), (2, [4, 8, 0, 6, 2]), (3, [9, 8, 4, 0, 6, 2]), (4, [9, 8, 4, 0, 6, 2]), (5, [4, 9, 8, 0, 6, 2]), (6, [8, 0, 9, 6, 4, 2]), (7, [0, 9, 6, 4, 2, 8]), (8, [9, 0, 6, 4, 2, 8]), (9, [9, 0, 6, 10, 4, 2, 8]), (10, [0, 9, 6, 11, 10, 4, 2, 8]), (11, [69, 68, 67, 9, 6, 11, 10, 4, 2, 8, 0]), (12, [69, 67, 9, 6, 68, 11, 10, 4, 2, 8, 0]), (13, [13, 9, 6, 69, 68, 67, 11, 10, 4, 2, 8, 0, 12]), (14, [75, 9, 13, 6, 69, 68, 67, 11, 10, 4, 2, 8, 0, 12]), (17, [75, 11, 9, 13, 6, 69, 68, 67, 10, 4, 2, 8, 0, 12]), (20, [75, 10, 9, 13, 4, 6, 69, 68, 67, 11, 2, 8, 0, 12]), (23, [75, 2, 8, 13, 12, 9, 11, 6, 69, 68, 67, 10, 4, 0]), (30, [75, 4, 13, 12, 9, 8, 6, 69, 68, 67, 11, 10, 2, 0]), (31, [4, 13, 12, 9, 8, 6, 69, 68, 67, 11, 10, 2, 0]), (32, [12, 9, 8, 13, 6, 69, 68, 67, 11, 10, 4, 2, 0]), (33, [12, 9, 13, 6, 69, 68, 67, 11, 10, 4, 2, 8, 0]), (34, [9, 6]), (35, [9, 13, 12, 69, 68, 67, 6, 11, 10, 4, 2, 8, 0]), (36, [12, 9, 69, 68, 67, 6, 11, 10, 4, 2, 8, 0]), (24, [2, 8, 13, 12, 9, 11, 6, 69, 68, 67, 10, 4, 0]), (25, [12, 9, 13, 11, 6, 69, 68, 67, 10, 4, 2, 8, 0]), (26, [12, 9, 13, 11, 6, 69, 68, 67, 10, 4, 2, 8, 0]), (27, [9, 6]), (28, [11, 12, 9, 69, 68, 67, 6, 10, 4, 2, 8, 0]), (29, [12, 9, 69, 68, 67, 6, 11, 10, 4, 2, 8, 0]), (21, [10, 9, 13, 4, 6, 69, 68, 67, 11, 2, 8, 0]), (22, [9, 6]), (18, [11, 9, 13, 6, 69, 68, 67, 10, 4, 2, 8, 0]), (19, [9, 6]), (15, [9, 13, 6, 69, 68, 67, 11, 10, 4, 2, 8, 0]), (16, [9, 6]), (37, [69, 68, 67, 9, 6, 11, 10, 4, 2, 8, 0]), (38, [11, 9, 0, 6]), (39, [9, 0, 6]), (40, [0, 9, 6]), (41, [9, 0, 6]), (42, [9, 0, 6]), (43, [0, 9, 6]), (44, [9, 6]), (45, [9, 6])]
noncomputable def hd76x0 : Hints := [(23, [0, 9, 6, 4, 2, 8, 37], [11, 10, 8, 6, 1, 0], []), (25, [9, 0, 6, 4, 2, 8], [11, 10, 8, 6, 1, 0], []), (33, [69, 68, 67, 9, 6, 11, 10, 4, 2, 8, 0], [11, 10, 8, 6, 1, 0], []), (77, [12, 9, 13, 11, 6, 69, 68, 67, 10, 4, 2, 8, 0, 120], [15, 11, 10, 8, 6, 1, 0], []), (79, [12, 9, 13, 11, 6, 69, 68, 67, 10, 4, 2, 8, 0], [15, 11, 10, 8, 6, 1, 0], []), (89, [12, 9, 69, 68, 67, 6, 11, 10, 4, 2, 8, 0, 148], [11, 10, 8, 6, 1, 0], []), (98, [12, 9, 8, 13, 6, 69, 68, 67, 11, 10, 4, 2, 0, 168], [15, 11, 10, 8, 6, 1, 0], []), (110, [12, 9, 69, 68, 67, 6, 11, 10, 4, 2, 8, 0, 190], [11, 10, 8, 6, 1, 0], []), (95, [4, 13, 12, 9, 8, 6, 69, 68, 67, 11, 10, 2, 0, 152], [15, 11, 10, 8, 6, 1, 0], []), (90074, [2, 8, 13, 12, 9, 11, 6, 69, 68, 67, 10, 4, 0, 75, 110], [15, 11, 10, 8, 6, 1, 0], []), (69065, [10, 9, 13, 4, 6, 69, 68, 67, 11, 2, 8, 0, 75, 12, 95], [15, 11, 10, 8, 6, 1, 0], []), (60056, [11, 9, 13, 6, 69, 68, 67, 10, 4, 2, 8, 0, 75, 12, 84], [15, 11, 10, 8, 6, 1, 0], []), (51047, [9, 13, 6, 69, 68, 67, 11, 10, 4, 2, 8, 0, 75, 12, 76], [15, 11, 10, 8, 6, 1, 0], []), (125, [9, 0, 6, 202], [11, 8, 1, 0], []), (119, [9, 0, 6, 195], [11, 8, 1, 0], []), (134, [9, 6, 213], [11, 8, 0, 1], [])]
noncomputable def h76x0s0 (N : Nat) : Hint := { loops := hd76x0, regs := rg76x0, los := [] }
theorem al76x0s0 (N : Nat) : AllCuts Try.prog (h76x0s0 N).los 2 76 := AllCuts.nil
noncomputable def F76x0x23 (N : Nat) {R : Type} (w1 : Bool) (w8 : LD) (w78 : Int) (k0 : Int → Option R) : Option R :=
  bif w1 then
    bnd (G93x0 N w8) fun y0 =>
    bif y0.isSome then
      k0 (IntKind.wrap .i64 ((y0.getD default) - 1))
    else
      none
  else
    k0 w78
noncomputable def G76x0x23 (N : Nat) (w1 : Bool) (w8 : LD) (w78 : Int) : Option (Int) := F76x0x23 N w1 w8 w78 (fun p => some p)
theorem bind76x0x23 (N : Nat) {R : Type} (w1 : Bool) (w8 : LD) (w78 : Int) (k0 : Int → Option R) : F76x0x23 N w1 w8 w78 k0 = (G76x0x23 N w1 w8 w78).bind k0 := by
  unfold G76x0x23 F76x0x23
  repeat' (first | rfl | apply cond_b | (apply bnd_b; intro _))
noncomputable def sh76x0x23 : Sh := { tmps := [(0, .c (.p 0 0)), (2, .c (.i .i64)), (4, .c (.p 6 0)), (6, .c (.p 8 0)), (8, .c (.p 10 0)), (9, .c (.p 11 0)), (37, .c (.b))], mem := [(0, .box (.i .i64 :: .i .i64 :: [.i .i64, .sl 66, .sl 68, .sl 3, .sl 3, .m 1])), (1, .map 93 96), (6, .box (rI 28 ([]))), (8, .box (rI 28 ([]))), (10, .box ([.s, .i .i64, .i .i64, .i .i64, .b])), (11, .box (rI 28 ([])))] }
noncomputable def K76x0x23w0 (L : List Lf) (p : Int) : Ex × St := (.normal, ⟨[(0, .c (.p 0 0)), (2, .c (.i .i64 (li L 0))), (4, .c (.p 6 0)), (6, .c (.p 8 0)), (8, .c (.p 10 0)), (9, .c (.p 11 0))], [(0, .box [.i .i64 (li L 2), .i .i64 (li L 3), .i .i64 (li L 4), .sl 66 (lb L 5) (ll L 6), .sl 68 (lb L 7) (ll L 8), .sl 3 (lb L 9) (ll L 10), .sl 3 (lb L 11) (ll L 12), .m 1]), (1, .map 93 96 (lm L 13)), (6, .box (rL L 14 28 ([]))), (8, .box (rL L 42 28 ([]))), (10, .box [.s (ls L 70), .i .i64 (li L 71), .i .i64 (li L 72), .i .i64 (li L 73), .b (lb L 74)]), (11, .box (.i .i64 (li L 75) :: .i .i64 (li L 76) :: .i .i64 (li L 77) :: .i .i64 p :: rL L 79 24 ([])))]⟩)
noncomputable def A76x0x23 (N : Nat) (L : List Lf) : List (Bool × (Ex × St)) := bnd (F76x0x23 N (lb L 1) (ll L 8) (li L 78) (fun p => some p)) fun q => [(q.isSome, K76x0x23w0 L (q.getD default))]
theorem raw76x0x23 (N : Nat) (L : List Lf) : (exec Try.prog (T93x0 N) (h76x0s0 N) 2 100 (piece Try.prog 76 23) (ofSh sh76x0x23 L) (fun e st => some (e, cutSt [9, 0, 6, 4, 2, 8] [11, 10, 8, 6, 1, 0] st)) : Option (Ex × St)) = F76x0x23 N (lb L 1) (ll L 8) (li L 78) (fun p => some (K76x0x23w0 L p)) := by kernel_rfl
theorem one76x0x23 : oneB Try.prog 76 23 = true := by kernel_rfl
theorem law76x0x23 (N : Nat) : CutLaw Try.prog 2 (piece Try.prog 76 23) (loSh sh76x0x23 (A76x0x23 N)) :=
  law_sh progOk (T93x0_ok N) (al76x0s0 N) one76x0x23 fun L x hx => (raw76x0x23 N L).trans ((bind76x0x23 N ..).trans (alt1 x hx))
noncomputable def h76x0s1 (N : Nat) : Hint := { (h76x0s0 N) with los := (23, loSh sh76x0x23 (A76x0x23 N)) :: (h76x0s0 N).los }
theorem al76x0s1 (N : Nat) : AllCuts Try.prog (h76x0s1 N).los 2 76 := AllCuts.cons (al76x0s0 N) one76x0x23 (law76x0x23 N)
noncomputable def F76x0x25 (N : Nat) {R : Type} (w2 w74 : Int) (k0 : Bool → R) : R :=
  bif ((w74.tmod 7) == 0) then
    k0 true
  else
    k0 (w74 == w2)
noncomputable def V76x0x25 (N : Nat) (w2 w74 : Int) : Bool := F76x0x25 N w2 w74 (fun p => p)
theorem tot76x0x25 (N : Nat) {R : Type} (w2 w74 : Int) (k0 : Bool → R) : F76x0x25 N w2 w74 k0 = k0 (V76x0x25 N w2 w74) := by
  unfold V76x0x25 F76x0x25
  repeat' (first | rfl | apply cond_k | (apply bnd_k; intro _))
noncomputable def sh76x0x25 : Sh := { tmps := [(0, .c (.p 0 0)), (2, .c (.i .i64)), (4, .c (.p 6 0)), (6, .c (.p 8 0)), (8, .c (.p 10 0)), (9, .c (.p 11 0))], mem := [(0, .box (.i .i64 :: .i .i64 :: [.i .i64, .sl 66, .sl 68, .sl 3, .sl 3, .m 1])), (1, .map 93 96), (6, .box (rI 28 ([]))), (8, .box (rI 28 ([]))), (10, .box ([.s, .i .i64, .i .i64, .i .i64, .b])), (11, .box (rI 28 ([])))] }
noncomputable def K76x0x25w0 (L : List Lf) (p : Bool) : Ex × St := (.normal, ⟨[(0, .c (.p 0 0)), (2, .c (.i .i64 (li L 0))), (4, .c (.p 6 0)), (6, .c (.p 8 0)), (8, .c (.p 10 0)), (9, .c (.p 11 0)), (10, .c (.b p))], [(0, .box [.i .i64 (li L 1), .i .i64 (li L 2), .i .i64 (li L 3), .sl 66 (lb L 4) (ll L 5), .sl 68 (lb L 6) (ll L 7), .sl 3 (lb L 8) (ll L 9), .sl 3 (lb L 10) (ll L 11), .m 1]), (1, .map 93 96 (lm L 12)), (6, .box (rL L 13 28 ([]))), (8, .box (rL L 41 28 ([]))), (10, .box [.s (ls L 69), .i .i64 (li L 70), .i .i64 (li L 71), .i .i64 (li L 72), .b (lb L 73)]), (11, .box (rL L 74 28 ([])))]⟩)
noncomputable def A76x0x25 (N : Nat) (L : List Lf) : List (Bool × (Ex × St)) := bnd (F76x0x25 N (li L 2) (li L 74) (fun p => p)) fun q => [(true, K76x0x25w0 L q)]
theorem raw76x0x25 (N : Nat) (L : List Lf) : (exec Try.prog (T93x0 N) (h76x0s1 N) 2 100 (piece Try.prog 76 25) (ofSh sh76x0x25 L) (fun e st => some (e, cutSt [9, 0, 6, 10, 4, 2, 8] [11, 10, 8, 6, 1, 0] st)) : Option (Ex × St)) = F76x0x25 N (li L 2) (li L 74) (fun p => some (K76x0x25w0 L p)) := by kernel_rfl
theorem one76x0x25 : oneB Try.prog 76 25 = true := by kernel_rfl
theorem law76x0x25 (N : Nat) : CutLaw Try.prog 2 (piece Try.prog 76 25) (loSh sh76x0x25 (A76x0x25 N)) :=
  law_sh progOk (T93x0_ok N) (al76x0s1 N) one76x0x25 fun L x hx => (raw76x0x25 N L).trans ((tot76x0x25 N ..).trans (alt0 _ _ hx))
noncomputable def h76x0s2 (N : Nat) : Hint := { (h76x0s1 N) with los := (25, loSh sh76x0x25 (A76x0x25 N)) :: (h76x0s1 N).los }
theorem al76x0s2 (N : Nat) : AllCuts Try.prog (h76x0s2 N).los 2 76 := AllCuts.cons (al76x0s1 N) one76x0x25 (law76x0x25 N)
noncomputable def F76x0x77 (N : Nat) {R : Type} (w3 : Int) (w8 : Bool) (w86 w87 w88 w89 w90 w91 w92 w93 w94 w95 w96 w97 : Int) (k0 : Ty6 → Option R) : Option R :=
  bif w8 then
    bif (inB w3 12) then
      bnd (bif (Nat.beq w3.toNat 0) then w86 else (bif (Nat.beq w3.toNat 1) then w87 else (bif (Nat.beq w3.toNat 2) then w88 else (bif (Nat.beq w3.toNat 3) then w89 else (bif (Nat.beq w3.toNat 4) then w90 else (bif (Nat.beq w3.toNat 5) then w91 else (bif (Nat.beq w3.toNat 6) then w92 else (bif (Nat.beq w3.toNat 7) then w93 else (bif (Nat.beq w3.toNat 8) then w94 else (bif (Nat.beq w3.toNat 9) then w95 else (bif (Nat.beq w3.toNat 10) then w96 else w97))))))))))) fun y0 =>
      bif (inB w3 12) then
        bnd (bif (Nat.beq w3.toNat 0) then (IntKind.wrap .i64 (y0 + 1)) else w86) fun y1 =>
        bnd (bif (Nat.beq w3.toNat 1) then (IntKind.wrap .i64 (y0 + 1)) else w87) fun y2 =>
        bnd (bif (Nat.beq w3.toNat 2) then (IntKind.wrap .i64 (y0 + 1)) else w88) fun y3 =>
        bnd (bif (Nat.beq w3.toNat 3) then (IntKind.wrap .i64 (y0 + 1)) else w89) fun y4 =>
        bnd (bif (Nat.beq w3.toNat 4) then (IntKind.wrap .i64 (y0 + 1)) else w90) fun y5 =>
        bnd (bif (Nat.beq w3.toNat 5) then (IntKind.wrap .i64 (y0 + 1)) else w91) fun y6 =>
        bnd (bif (Nat.beq w3.toNat 6) then (IntKind.wrap .i64 (y0 + 1)) else w92) fun y7 =>
        bnd (bif (Nat.beq w3.toNat 7) then (IntKind.wrap .i64 (y0 + 1)) else w93) fun y8 =>
        bnd (bif (Nat.beq w3.toNat 8) then (IntKind.wrap .i64 (y0 + 1)) else w94) fun y9 =>
        bnd (bif (Nat.beq w3.toNat 9) then (IntKind.wrap .i64 (y0 + 1)) else w95) fun y10 =>
        bnd (bif (Nat.beq w3.toNat 10) then (IntKind.wrap .i64 (y0 + 1)) else w96) fun y11 =>
        bnd (bif (Nat.beq w3.toNat 11) then (IntKind.wrap .i64 (y0 + 1)) else w97) fun y12 =>
        k0 (y1, y2, y3, y4, y5, y6, y7, y8, y9, y10, y11, y12)
      else
        none
    else
      none
  else
    k0 (w86, w87, w88, w89, w90, w91, w92, w93, w94, w95, w96, w97)
noncomputable def G76x0x77 (N : Nat) (w3 : Int) (w8 : Bool) (w86 w87 w88 w89 w90 w91 w92 w93 w94 w95 w96 w97 : Int) : Option (Ty6) := F76x0x77 N w3 w8 w86 w87 w88 w89 w90 w91 w92 w93 w94 w95 w96 w97 (fun p => some p)
theorem bind76x0x77 (N : Nat) {R : Type} (w3 : Int) (w8 : Bool) (w86 w87 w88 w89 w90 w91 w92 w93 w94 w95 w96 w97 : Int) (k0 : Ty6 → Option R) : F76x0x77 N w3 w8 w86 w87 w88 w89 w90 w91 w92 w93 w94 w95 w96 w97 k0 = (G76x0x77 N w3 w8 w86 w87 w88 w89 w90 w91 w92 w93 w94 w95 w96 w97).bind k0 := by
  unfold G76x0x77 F76x0x77
  repeat' (first | rfl | apply cond_b | (apply bnd_b; intro _))
noncomputable def J76x0x77 (N : Nat) (L : List Lf) {R : Type} (k0 : Ty6 → Option R) : Option R := F76x0x77 N (li L 3) (lb L 8) (li L 86) (li L 87) (li L 88) (li L 89) (li L 90) (li L 91) (li L 92) (li L 93) (li L 94) (li L 95) (li L 96) (li L 97) k0
noncomputable def sh76x0x77 : Sh := { tmps := [(0, .c (.p 0 0)), (2, .c (.i .i64)), (4, .c (.p 6 0)), (6, .c (.p 8 0)), (8, .c (.p 10 0)), (9, .c (.p 11 0)), (10, .c (.b)), (11, .c (.b)), (12, .c (.i .i64)), (13, .c (.p 15 0)), (67, .c (.sl 68)), (68, .c (.i .i64)), (69, .c (.i .i64)), (120, .c (.b))], mem := [(0, .box (.i .i64 :: .i .i64 :: [.i .i64, .sl 66, .sl 68, .sl 3, .sl 3, .m 1])), (1, .map 93 96), (6, .box (rI 28 ([]))), (8, .box (rI 28 ([]))), (10, .box ([.s, .i .i64, .i .i64, .i .i64, .b])), (11, .box (rI 28 ([]))), (15, .box (rI 5 ([.s])))] }
noncomputable def K76x0x77w0 (L : List Lf) (p : Ty6) : Ex × St := let p1 := p.2; let p2 := p1.2; let p3 := p2.2; let p4 := p3.2; let p5 := p4.2; let p6 := p5.2; let p7 := p6.2; let p8 := p7.2; let p9 := p8.2; let p10 := p9.2; let p11 := p10.2; (.normal, ⟨[(0, .c (.p 0 0)), (2, .c (.i .i64 (li L 0))), (4, .c (.p 6 0)), (6, .c (.p 8 0)), (8, .c (.p 10 0)), (9, .c (.p 11 0)), (10, .c (.b (lb L 1))), (11, .c (.b (lb L 2))), (12, .c (.i .i64 (li L 3))), (13, .c (.p 15 0)), (67, .c (.sl 68 (lb L 4) (ll L 5))), (68, .c (.i .i64 (li L 6))), (69, .c (.i .i64 (li L 7)))], [(0, .box [.i .i64 (li L 9), .i .i64 (li L 10), .i .i64 (li L 11), .sl 66 (lb L 12) (ll L 13), .sl 68 (lb L 14) (ll L 15), .sl 3 (lb L 16) (ll L 17), .sl 3 (lb L 18) (ll L 19), .m 1]), (1, .map 93 96 (lm L 20)), (6, .box (rL L 21 28 ([]))), (8, .box (rL L 49 28 ([]))), (10, .box [.s (ls L 77), .i .i64 (li L 78), .i .i64 (li L 79), .i .i64 (li L 80), .b (lb L 81)]), (11, .box (rL L 82 4 (.i .i64 p.1 :: .i .i64 p1.1 :: .i .i64 p2.1 :: .i .i64 p3.1 :: .i .i64 p4.1 :: .i .i64 p5.1 :: .i .i64 p6.1 :: .i .i64 p7.1 :: .i .i64 p8.1 :: .i .i64 p9.1 :: .i .i64 p10.1 :: .i .i64 p11 :: rL L 98 12 ([])))), (15, .box (rL L 110 5 ([.s (ls L 115)])))]⟩)
noncomputable def A76x0x77 (N : Nat) (L : List Lf) : List (Bool × (Ex × St)) := bnd (J76x0x77 N L (fun p => some p)) fun q => [(q.isSome, K76x0x77w0 L (q.getD default))]
theorem raw76x0x77 (N : Nat) (L : List Lf) : (exec Try.prog (T93x0 N) (h76x0s2 N) 2 100 (piece Try.prog 76 77) (ofSh sh76x0x77 L) (fun e st => some (e, cutSt [12, 9, 13, 11, 6, 69, 68, 67, 10, 4, 2, 8, 0] [15, 11, 10, 8, 6, 1, 0] st)) : Option (Ex × St)) = J76x0x77 N L (fun p => some (K76x0x77w0 L p)) := by kernel_rfl
theorem one76x0x77 : oneB Try.prog 76 77 = true := by kernel_rfl
theorem law76x0x77 (N : Nat) : CutLaw Try.prog 2 (piece Try.prog 76 77) (loSh sh76x0x77 (A76x0x77 N)) :=
  law_sh progOk (T93x0_ok N) (al76x0s2 N) one76x0x77 fun L x hx => (raw76x0x77 N L).trans ((bind76x0x77 N ..).trans (alt1 x hx))
noncomputable def h76x0s3 (N : Nat) : Hint := { (h76x0s2 N) with los := (77, loSh sh76x0x77 (A76x0x77 N)) :: (h76x0s2 N).los }
theorem al76x0s3 (N : Nat) : AllCuts Try.prog (h76x0s3 N).los 2 76 := AllCuts.cons (al76x0s2 N) one76x0x77 (law76x0x77 N)
noncomputable def F76x0x79 (N : Nat) {R : Type} (w2 : Bool) (w3 w85 w86 w87 w88 w89 w90 w91 w92 w93 w94 w95 w96 w112 w113 : Int) (k0 : Bool → Option R) : Option R :=
  bif (inB w3 12) then
    bnd (bif (Nat.beq w3.toNat 0) then w85 else (bif (Nat.beq w3.toNat 1) then w86 else (bif (Nat.beq w3.toNat 2) then w87 else (bif (Nat.beq w3.toNat 3) then w88 else (bif (Nat.beq w3.toNat 4) then w89 else (bif (Nat.beq w3.toNat 5) then w90 else (bif (Nat.beq w3.toNat 6) then w91 else (bif (Nat.beq w3.toNat 7) then w92 else (bif (Nat.beq w3.toNat 8) then w93 else (bif (Nat.beq w3.toNat 9) then w94 else (bif (Nat.beq w3.toNat 10) then w95 else w96))))))))))) fun y0 =>
    bif (decide (y0 > w113)) then
      k0 true
    else
      bif w2 then
        bif (inB w3 12) then
          bnd (bif (Nat.beq w3.toNat 0) then w85 else (bif (Nat.beq w3.toNat 1) then w86 else (bif (Nat.beq w3.toNat 2) then w87 else (bif (Nat.beq w3.toNat 3) then w88 else (bif (Nat.beq w3.toNat 4) then w89 else (bif (Nat.beq w3.toNat 5) then w90 else (bif (Nat.beq w3.toNat 6) then w91 else (bif (Nat.beq w3.toNat 7) then w92 else (bif (Nat.beq w3.toNat 8) then w93 else (bif (Nat.beq w3.toNat 9) then w94 else (bif (Nat.beq w3.toNat 10) then w95 else w96))))))))))) fun y0 =>
          k0 (decide (y0 < w112))
        else
          none
      else
        k0 false
  else
    none
noncomputable def G76x0x79 (N : Nat) (w2 : Bool) (w3 w85 w86 w87 w88 w89 w90 w91 w92 w93 w94 w95 w96 w112 w113 : Int) : Option (Bool) := F76x0x79 N w2 w3 w85 w86 w87 w88 w89 w90 w91 w92 w93 w94 w95 w96 w112 w113 (fun p => some p)
theorem bind76x0x79 (N : Nat) {R : Type} (w2 : Bool) (w3 w85 w86 w87 w88 w89 w90 w91 w92 w93 w94 w95 w96 w112 w113 : Int) (k0 : Bool → Option R) : F76x0x79 N w2 w3 w85 w86 w87 w88 w89 w90 w91 w92 w93 w94 w95 w96 w112 w113 k0 = (G76x0x79 N w2 w3 w85 w86 w87 w88 w89 w90 w91 w92 w93 w94 w95 w96 w112 w113).bind k0 := by
  unfold G76x0x79 F76x0x79
  repeat' (first | rfl | apply cond_b | (apply bnd_b; intro _))
noncomputable def J76x0x79 (N : Nat) (L : List Lf) {R : Type} (k0 : Bool → Option R) : Option R := F76x0x79 N (lb L 2) (li L 3) (li L 85) (li L 86) (li L 87) (li L 88) (li L 89) (li L 90) (li L 91) (li L 92) (li L 93) (li L 94) (li L 95) (li L 96) (li L 112) (li L 113) k0
noncomputable def sh76x0x79 : Sh := { tmps := [(0, .c (.p 0 0)), (2, .c (.i .i64)), (4, .c (.p 6 0)), (6, .c (.p 8 0)), (8, .c (.p 10 0)), (9, .c (.p 11 0)), (10, .c (.b)), (11, .c (.b)), (12, .c (.i .i64)), (13, .c (.p 15 0)), (67, .c (.sl 68)), (68, .c (.i .i64)), (69, .c (.i .i64))], mem := [(0, .box (.i .i64 :: .i .i64 :: [.i .i64, .sl 66, .sl 68, .sl 3, .sl 3, .m 1])), (1, .map 93 96), (6, .box (rI 28 ([]))), (8, .box (rI 28 ([]))), (10, .box ([.s, .i .i64, .i .i64, .i .i64, .b])), (11, .box (rI 28 ([]))), (15, .box (rI 5 ([.s])))] }
noncomputable def K76x0x79w0 (L : List Lf) (p : Bool) : Ex × St := (.normal, ⟨[(0, .c (.p 0 0)), (2, .c (.i .i64 (li L 0))), (4, .c (.p 6 0)), (6, .c (.p 8 0)), (8, .c (.p 10 0)), (9, .c (.p 11 0)), (10, .c (.b (lb L 1))), (11, .c (.b (lb L 2))), (12, .c (.i .i64 (li L 3))), (67, .c (.sl 68 (lb L 4) (ll L 5))), (68, .c (.i .i64 (li L 6))), (69, .c (.i .i64 (li L 7))), (146, .c (.b p))], [(0, .box [.i .i64 (li L 8), .i .i64 (li L 9), .i .i64 (li L 10), .sl 66 (lb L 11) (ll L 12), .sl 68 (lb L 13) (ll L 14), .sl 3 (lb L 15) (ll L 16), .sl 3 (lb L 17) (ll L 18), .m 1]), (1, .map 93 96 (lm L 19)), (6, .box (rL L 20 28 ([]))), (8, .box (rL L 48 28 ([]))), (10, .box [.s (ls L 76), .i .i64 (li L 77), .i .i64 (li L 78), .i .i64 (li L 79), .b (lb L 80)]), (11, .box (rL L 81 28 ([])))]⟩)
noncomputable def A76x0x79 (N : Nat) (L : List Lf) : List (Bool × (Ex × St)) := bnd (J76x0x79 N L (fun p => some p)) fun q => [(q.isSome, K76x0x79w0 L (q.getD default))]
theorem raw76x0x79 (N : Nat) (L : List Lf) : (exec Try.prog (T93x0 N) (h76x0s3 N) 2 100 (piece Try.prog 76 79) (ofSh sh76x0x79 L) (fun e st => some (e, cutSt [9, 6, 11, 12, 69, 68, 67, 10, 4, 2, 8, 0, 146] [11, 10, 8, 6, 1, 0] st)) : Option (Ex × St)) = J76x0x79 N L (fun p => some (K76x0x79w0 L p)) := by kernel_rfl
theorem one76x0x79 : oneB Try.prog 76 79 = true := by kernel_rfl
theorem law76x0x79 (N : Nat) : CutLaw Try.prog 2 (piece Try.prog 76 79) (loSh sh76x0x79 (A76x0x79 N)) :=
  law_sh progOk (T93x0_ok N) (al76x0s3 N) one76x0x79 fun L x hx => (raw76x0x79 N L).trans ((bind76x0x79 N ..).trans (alt1 x hx))
noncomputable def h76x0s4 (N : Nat) : Hint := { (h76x0s3 N) with los := (79, loSh sh76x0x79 (A76x0x79 N)) :: (h76x0s3 N).los }
theorem al76x0s4 (N : Nat) : AllCuts Try.prog (h76x0s4 N).los 2 76 := AllCuts.cons (al76x0s3 N) one76x0x79 (law76x0x79 N)
noncomputable def F76x0x89 (N : Nat) {R : Type} (w3 : Int) (w8 : Bool) (w86 w87 w88 w89 w90 w91 w92 w93 w94 w95 w96 w97 : Int) (k0 : Ty6 → Option R) : Option R :=
  bif w8 then
    bif (inB w3 12) then
      k0 ((bif (Nat.beq w3.toNat 0) then 0 else w86), (bif (Nat.beq w3.toNat 1) then 0 else w87), (bif (Nat.beq w3.toNat 2) then 0 else w88), (bif (Nat.beq w3.toNat 3) then 0 else w89), (bif (Nat.beq w3.toNat 4) then 0 else w90), (bif (Nat.beq w3.toNat 5) then 0 else w91), (bif (Nat.beq w3.toNat 6) then 0 else w92), (bif (Nat.beq w3.toNat 7) then 0 else w93), (bif (Nat.beq w3.toNat 8) then 0 else w94), (bif (Nat.beq w3.toNat 9) then 0 else w95), (bif (Nat.beq w3.toNat 10) then 0 else w96), (bif (Nat.beq w3.toNat 11) then 0 else w97))
    else
      none
  else
    k0 (w86, w87, w88, w89, w90, w91, w92, w93, w94, w95, w96, w97)
noncomputable def G76x0x89 (N : Nat) (w3 : Int) (w8 : Bool) (w86 w87 w88 w89 w90 w91 w92 w93 w94 w95 w96 w97 : Int) : Option (Ty6) := F76x0x89 N w3 w8 w86 w87 w88 w89 w90 w91 w92 w93 w94 w95 w96 w97 (fun p => some p)
theorem bind76x0x89 (N : Nat) {R : Type} (w3 : Int) (w8 : Bool) (w86 w87 w88 w89 w90 w91 w92 w93 w94 w95 w96 w97 : Int) (k0 : Ty6 → Option R) : F76x0x89 N w3 w8 w86 w87 w88 w89 w90 w91 w92 w93 w94 w95 w96 w97 k0 = (G76x0x89 N w3 w8 w86 w87 w88 w89 w90 w91 w92 w93 w94 w95 w96 w97).bind k0 := by
  unfold G76x0x89 F76x0x89
  repeat' (first | rfl | apply cond_b | (apply bnd_b; intro _))
noncomputable def J76x0x89 (N : Nat) (L : List Lf) {R : Type} (k0 : Ty6 → Option R) : Option R := F76x0x89 N (li L 3) (lb L 8) (li L 86) (li L 87) (li L 88) (li L 89) (li L 90) (li L 91) (li L 92) (li L 93) (li L 94) (li L 95) (li L 96) (li L 97) k0
noncomputable def sh76x0x89 : Sh := { tmps := [(0, .c (.p 0 0)), (2, .c (.i .i64)), (4, .c (.p 6 0)), (6, .c (.p 8 0)), (8, .c (.p 10 0)), (9, .c (.p 11 0)), (10, .c (.b)), (11, .c (.b)), (12, .c (.i .i64)), (67, .c (.sl 68)), (68, .c (.i .i64)), (69, .c (.i .i64)), (148, .c (.b))], mem := [(0, .box (.i .i64 :: .i .i64 :: [.i .i64, .sl 66, .sl 68, .sl 3, .sl 3, .m 1])), (1, .map 93 96), (6, .box (rI 28 ([]))), (8, .box (rI 28 ([]))), (10, .box ([.s, .i .i64, .i .i64, .i .i64, .b])), (11, .box (rI 28 ([])))] }
noncomputable def K76x0x89w0 (L : List Lf) (p : Ty6) : Ex × St := let p1 := p.2; let p2 := p1.2; let p3 := p2.2; let p4 := p3.2; let p5 := p4.2; let p6 := p5.2; let p7 := p6.2; let p8 := p7.2; let p9 := p8.2; let p10 := p9.2; let p11 := p10.2; (.normal, ⟨[(0, .c (.p 0 0)), (2, .c (.i .i64 (li L 0))), (4, .c (.p 6 0)), (6, .c (.p 8 0)), (8, .c (.p 10 0)), (9, .c (.p 11 0)), (10, .c (.b (lb L 1))), (11, .c (.b (lb L 2))), (67, .c (.sl 68 (lb L 4) (ll L 5))), (68, .c (.i .i64 (li L 6))), (69, .c (.i .i64 (li L 7)))], [(0, .box [.i .i64 (li L 9), .i .i64 (li L 10), .i .i64 (li L 11), .sl 66 (lb L 12) (ll L 13), .sl 68 (lb L 14) (ll L 15), .sl 3 (lb L 16) (ll L 17), .sl 3 (lb L 18) (ll L 19), .m 1]), (1, .map 93 96 (lm L 20)), (6, .box (rL L 21 28 ([]))), (8, .box (rL L 49 28 ([]))), (10, .box [.s (ls L 77), .i .i64 (li L 78), .i .i64 (li L 79), .i .i64 (li L 80), .b (lb L 81)]), (11, .box (rL L 82 4 (.i .i64 p.1 :: .i .i64 p1.1 :: .i .i64 p2.1 :: .i .i64 p3.1 :: .i .i64 p4.1 :: .i .i64 p5.1 :: .i .i64 p6.1 :: .i .i64 p7.1 :: .i .i64 p8.1 :: .i .i64 p9.1 :: .i .i64 p10.1 :: .i .i64 p11 :: rL L 98 12 ([]))))]⟩)
noncomputable def A76x0x89 (N : Nat) (L : List Lf) : List (Bool × (Ex × St)) := bnd (J76x0x89 N L (fun p => some p)) fun q => [(q.isSome, K76x0x89w0 L (q.getD default))]
theorem raw76x0x89 (N : Nat) (L : List Lf) : (exec Try.prog (T93x0 N) (h76x0s4 N) 2 100 (piece Try.prog 76 89) (ofSh sh76x0x89 L) (fun e st => some (e, cutSt [69, 68, 67, 9, 6, 11, 10, 4, 2, 8, 0] [11, 10, 8, 6, 1, 0] st)) : Option (Ex × St)) = J76x0x89 N L (fun p => some (K76x0x89w0 L p)) := by kernel_rfl
theorem one76x0x89 : oneB Try.prog 76 89 = true := by kernel_rfl
theorem law76x0x89 (N : Nat) : CutLaw Try.prog 2 (piece Try.prog 76 89) (loSh sh76x0x89 (A76x0x89 N)) :=
  law_sh progOk (T93x0_ok N) (al76x0s4 N) one76x0x89 fun L x hx => (raw76x0x89 N L).trans ((bind76x0x89 N ..).trans (alt1 x hx))
noncomputable def h76x0s5 (N : Nat) : Hint := { (h76x0s4 N) with los := (89, loSh sh76x0x89 (A76x0x89 N)) :: (h76x0s4 N).los }
theorem al76x0s5 (N : Nat) : AllCuts Try.prog (h76x0s5 N).los 2 76 := AllCuts.cons (al76x0s4 N) one76x0x89 (law76x0x89 N)
noncomputable def F76x0x98 (N : Nat) {R : Type} (w3 : Int) (w8 : Bool) (w78 w98 w99 w100 w101 w102 w103 w104 w105 w106 w107 w108 w109 : Int) (k0 : Ty6 → Option R) : Option R :=
  bif w8 then
    bif (inB w3 12) then
      bnd (bif (Nat.beq w3.toNat 0) then w98 else (bif (Nat.beq w3.toNat 1) then w99 else (bif (Nat.beq w3.toNat 2) then w100 else (bif (Nat.beq w3.toNat 3) then w101 else (bif (Nat.beq w3.toNat 4) then w102 else (bif (Nat.beq w3.toNat 5) then w103 else (bif (Nat.beq w3.toNat 6) then w104 else (bif (Nat.beq w3.toNat 7) then w105 else (bif (Nat.beq w3.toNat 8) then w106 else (bif (Nat.beq w3.toNat 9) then w107 else (bif (Nat.beq w3.toNat 10) then w108 else w109))))))))))) fun y0 =>
      bif (inB w3 12) then
        bnd (bif (Nat.beq w3.toNat 0) then (IntKind.wrap .i64 (y0 + w78)) else w98) fun y1 =>
        bnd (bif (Nat.beq w3.toNat 1) then (IntKind.wrap .i64 (y0 + w78)) else w99) fun y2 =>
        bnd (bif (Nat.beq w3.toNat 2) then (IntKind.wrap .i64 (y0 + w78)) else w100) fun y3 =>
        bnd (bif (Nat.beq w3.toNat 3) then (IntKind.wrap .i64 (y0 + w78)) else w101) fun y4 =>
        bnd (bif (Nat.beq w3.toNat 4) then (IntKind.wrap .i64 (y0 + w78)) else w102) fun y5 =>
        bnd (bif (Nat.beq w3.toNat 5) then (IntKind.wrap .i64 (y0 + w78)) else w103) fun y6 =>
        bnd (bif (Nat.beq w3.toNat 6) then (IntKind.wrap .i64 (y0 + w78)) else w104) fun y7 =>
        bnd (bif (Nat.beq w3.toNat 7) then (IntKind.wrap .i64 (y0 + w78)) else w105) fun y8 =>
        bnd (bif (Nat.beq w3.toNat 8) then (IntKind.wrap .i64 (y0 + w78)) else w106) fun y9 =>
        bnd (bif (Nat.beq w3.toNat 9) then (IntKind.wrap .i64 (y0 + w78)) else w107) fun y10 =>
        bnd (bif (Nat.beq w3.toNat 10) then (IntKind.wrap .i64 (y0 + w78)) else w108) fun y11 =>
        bnd (bif (Nat.beq w3.toNat 11) then (IntKind.wrap .i64 (y0 + w78)) else w109) fun y12 =>
        k0 (y1, y2, y3, y4, y5, y6, y7, y8, y9, y10, y11, y12)
      else
        none
    else
      none
  else
    k0 (w98, w99, w100, w101, w102, w103, w104, w105, w106, w107, w108, w109)
noncomputable def G76x0x98 (N : Nat) (w3 : Int) (w8 : Bool) (w78 w98 w99 w100 w101 w102 w103 w104 w105 w106 w107 w108 w109 : Int) : Option (Ty6) := F76x0x98 N w3 w8 w78 w98 w99 w100 w101 w102 w103 w104 w105 w106 w107 w108 w109 (fun p => some p)
theorem bind76x0x98 (N : Nat) {R : Type} (w3 : Int) (w8 : Bool) (w78 w98 w99 w100 w101 w102 w103 w104 w105 w106 w107 w108 w109 : Int) (k0 : Ty6 → Option R) : F76x0x98 N w3 w8 w78 w98 w99 w100 w101 w102 w103 w104 w105 w106 w107 w108 w109 k0 = (G76x0x98 N w3 w8 w78 w98 w99 w100 w101 w102 w103 w104 w105 w106 w107 w108 w109).bind k0 := by
  unfold G76x0x98 F76x0x98
  repeat' (first | rfl | apply cond_b | (apply bnd_b; intro _))
noncomputable def J76x0x98 (N : Nat) (L : List Lf) {R : Type} (k0 : Ty6 → Option R) : Option R := F76x0x98 N (li L 3) (lb L 8) (li L 78) (li L 98) (li L 99) (li L 100) (li L 101) (li L 102) (li L 103) (li L 104) (li L 105) (li L 106) (li L 107) (li L 108) (li L 109) k0
noncomputable def sh76x0x98 : Sh := { tmps := [(0, .c (.p 0 0)), (2, .c (.i .i64)), (4, .c (.p 6 0)), (6, .c (.p 8 0)), (8, .c (.p 10 0)), (9, .c (.p 11 0)), (10, .c (.b)), (11, .c (.b)), (12, .c (.i .i64)), (13, .c (.p 15 0)), (67, .c (.sl 68)), (68, .c (.i .i64)), (69, .c (.i .i64)), (168, .c (.b))], mem := [(0, .box (.i .i64 :: .i .i64 :: [.i .i64, .sl 66, .sl 68, .sl 3, .sl 3, .m 1])), (1, .map 93 96), (6, .box (rI 28 ([]))), (8, .box (rI 28 ([]))), (10, .box ([.s, .i .i64, .i .i64, .i .i64, .b])), (11, .box (rI 28 ([]))), (15, .box (rI 5 ([.s])))] }
noncomputable def K76x0x98w0 (L : List Lf) (p : Ty6) : Ex × St := let p1 := p.2; let p2 := p1.2; let p3 := p2.2; let p4 := p3.2; let p5 := p4.2; let p6 := p5.2; let p7 := p6.2; let p8 := p7.2; let p9 := p8.2; let p10 := p9.2; let p11 := p10.2; (.normal, ⟨[(0, .c (.p 0 0)), (2, .c (.i .i64 (li L 0))), (4, .c (.p 6 0)), (6, .c (.p 8 0)), (8, .c (.p 10 0)), (9, .c (.p 11 0)), (10, .c (.b (lb L 1))), (11, .c (.b (lb L 2))), (12, .c (.i .i64 (li L 3))), (13, .c (.p 15 0)), (67, .c (.sl 68 (lb L 4) (ll L 5))), (68, .c (.i .i64 (li L 6))), (69, .c (.i .i64 (li L 7)))], [(0, .box [.i .i64 (li L 9), .i .i64 (li L 10), .i .i64 (li L 11), .sl 66 (lb L 12) (ll L 13), .sl 68 (lb L 14) (ll L 15), .sl 3 (lb L 16) (ll L 17), .sl 3 (lb L 18) (ll L 19), .m 1]), (1, .map 93 96 (lm L 20)), (6, .box (rL L 21 28 ([]))), (8, .box (rL L 49 28 ([]))), (10, .box [.s (ls L 77), .i .i64 (li L 78), .i .i64 (li L 79), .i .i64 (li L 80), .b (lb L 81)]), (11, .box (rL L 82 16 ([.i .i64 p.1, .i .i64 p1.1, .i .i64 p2.1, .i .i64 p3.1, .i .i64 p4.1, .i .i64 p5.1, .i .i64 p6.1, .i .i64 p7.1, .i .i64 p8.1, .i .i64 p9.1, .i .i64 p10.1, .i .i64 p11]))), (15, .box (rL L 110 5 ([.s (ls L 115)])))]⟩)
noncomputable def A76x0x98 (N : Nat) (L : List Lf) : List (Bool × (Ex × St)) := bnd (J76x0x98 N L (fun p => some p)) fun q => [(q.isSome, K76x0x98w0 L (q.getD default))]
theorem raw76x0x98 (N : Nat) (L : List Lf) : (exec Try.prog (T93x0 N) (h76x0s5 N) 2 100 (piece Try.prog 76 98) (ofSh sh76x0x98 L) (fun e st => some (e, cutSt [12, 9, 13, 6, 69, 68, 67, 11, 10, 4, 2, 8, 0] [15, 11, 10, 8, 6, 1, 0] st)) : Option (Ex × St)) = J76x0x98 N L (fun p => some (K76x0x98w0 L p)) := by kernel_rfl
theorem one76x0x98 : oneB Try.prog 76 98 = true := by kernel_rfl
theorem law76x0x98 (N : Nat) : CutLaw Try.prog 2 (piece Try.prog 76 98) (loSh sh76x0x98 (A76x0x98 N)) :=
  law_sh progOk (T93x0_ok N) (al76x0s5 N) one76x0x98 fun L x hx => (raw76x0x98 N L).trans ((bind76x0x98 N ..).trans (alt1 x hx))
noncomputable def h76x0s6 (N : Nat) : Hint := { (h76x0s5 N) with los := (98, loSh sh76x0x98 (A76x0x98 N)) :: (h76x0s5 N).los }
theorem al76x0s6 (N : Nat) : AllCuts Try.prog (h76x0s6 N).los 2 76 := AllCuts.cons (al76x0s5 N) one76x0x98 (law76x0x98 N)
noncomputable def F76x0x110 (N : Nat) {R : Type} (w3 : Int) (w8 : Bool) (w98 w99 w100 w101 w102 w103 w104 w105 w106 w107 w108 w109 : Int) (k0 : Ty6 → Option R) : Option R :=
  bif w8 then
    bif (inB w3 12) then
      k0 ((bif (Nat.beq w3.toNat 0) then 0 else w98), (bif (Nat.beq w3.toNat 1) then 0 else w99), (bif (Nat.beq w3.toNat 2) then 0 else w100), (bif (Nat.beq w3.toNat 3) then 0 else w101), (bif (Nat.beq w3.toNat 4) then 0 else w102), (bif (Nat.beq w3.toNat 5) then 0 else w103), (bif (Nat.beq w3.toNat 6) then 0 else w104), (bif (Nat.beq w3.toNat 7) then 0 else w105), (bif (Nat.beq w3.toNat 8) then 0 else w106), (bif (Nat.beq w3.toNat 9) then 0 else w107), (bif (Nat.beq w3.toNat 10) then 0 else w108), (bif (Nat.beq w3.toNat 11) then 0 else w109))
    else
      none
  else
    k0 (w98, w99, w100, w101, w102, w103, w104, w105, w106, w107, w108, w109)
noncomputable def G76x0x110 (N : Nat) (w3 : Int) (w8 : Bool) (w98 w99 w100 w101 w102 w103 w104 w105 w106 w107 w108 w109 : Int) : Option (Ty6) := F76x0x110 N w3 w8 w98 w99 w100 w101 w102 w103 w104 w105 w106 w107 w108 w109 (fun p => some p)
theorem bind76x0x110 (N : Nat) {R : Type} (w3 : Int) (w8 : Bool) (w98 w99 w100 w101 w102 w103 w104 w105 w106 w107 w108 w109 : Int) (k0 : Ty6 → Option R) : F76x0x110 N w3 w8 w98 w99 w100 w101 w102 w103 w104 w105 w106 w107 w108 w109 k0 = (G76x0x110 N w3 w8 w98 w99 w100 w101 w102 w103 w104 w105 w106 w107 w108 w109).bind k0 := by
  unfold G76x0x110 F76x0x110
  repeat' (first | rfl | apply cond_b | (apply bnd_b; intro _))
noncomputable def J76x0x110 (N : Nat) (L : List Lf) {R : Type} (k0 : Ty6 → Option R) : Option R := F76x0x110 N (li L 3) (lb L 8) (li L 98) (li L 99) (li L 100) (li L 101) (li L 102) (li L 103) (li L 104) (li L 105) (li L 106) (li L 107) (li L 108) (li L 109) k0
noncomputable def sh76x0x110 : Sh := { tmps := [(0, .c (.p 0 0)), (2, .c (.i .i64)), (4, .c (.p 6 0)), (6, .c (.p 8 0)), (8, .c (.p 10 0)), (9, .c (.p 11 0)), (10, .c (.b)), (11, .c (.b)), (12, .c (.i .i64)), (67, .c (.sl 68)), (68, .c (.i .i64)), (69, .c (.i .i64)), (190, .c (.b))], mem := [(0, .box (.i .i64 :: .i .i64 :: [.i .i64, .sl 66, .sl 68, .sl 3, .sl 3, .m 1])), (1, .map 93 96), (6, .box (rI 28 ([]))), (8, .box (rI 28 ([]))), (10, .box ([.s, .i .i64, .i .i64, .i .i64, .b])), (11, .box (rI 28 ([])))] }
noncomputable def K76x0x110w0 (L : List Lf) (p : Ty6) : Ex × St := let p1 := p.2; let p2 := p1.2; let p3 := p2.2; let p4 := p3.2; let p5 := p4.2; let p6 := p5.2; let p7 := p6.2; let p8 := p7.2; let p9 := p8.2; let p10 := p9.2; let p11 := p10.2; (.normal, ⟨[(0, .c (.p 0 0)), (2, .c (.i .i64 (li L 0))), (4, .c (.p 6 0)), (6, .c (.p 8 0)), (8, .c (.p 10 0)), (9, .c (.p 11 0)), (10, .c (.b (lb L 1))), (11, .c (.b (lb L 2))), (67, .c (.sl 68 (lb L 4) (ll L 5))), (68, .c (.i .i64 (li L 6))), (69, .c (.i .i64 (li L 7)))], [(0, .box [.i .i64 (li L 9), .i .i64 (li L 10), .i .i64 (li L 11), .sl 66 (lb L 12) (ll L 13), .sl 68 (lb L 14) (ll L 15), .sl 3 (lb L 16) (ll L 17), .sl 3 (lb L 18) (ll L 19), .m 1]), (1, .map 93 96 (lm L 20)), (6, .box (rL L 21 28 ([]))), (8, .box (rL L 49 28 ([]))), (10, .box [.s (ls L 77), .i .i64 (li L 78), .i .i64 (li L 79), .i .i64 (li L 80), .b (lb L 81)]), (11, .box (rL L 82 16 ([.i .i64 p.1, .i .i64 p1.1, .i .i64 p2.1, .i .i64 p3.1, .i .i64 p4.1, .i .i64 p5.1, .i .i64 p6.1, .i .i64 p7.1, .i .i64 p8.1, .i .i64 p9.1, .i .i64 p10.1, .i .i64 p11])))]⟩)
noncomputable def A76x0x110 (N : Nat) (L : List Lf) : List (Bool × (Ex × St)) := bnd (J76x0x110 N L (fun p => some p)) fun q => [(q.isSome, K76x0x110w0 L (q.getD default))]
theorem raw76x0x110 (N : Nat) (L : List Lf) : (exec Try.prog (T93x0 N) (h76x0s6 N) 2 100 (piece Try.prog 76 110) (ofSh sh76x0x110 L) (fun e st => some (e, cutSt [69, 68, 67, 9, 6, 11, 10, 4, 2, 8, 0] [11, 10, 8, 6, 1, 0] st)) : Option (Ex × St)) = J76x0x110 N L (fun p => some (K76x0x110w0 L p)) := by kernel_rfl
theorem one76x0x110 : oneB Try.prog 76 110 = true := by kernel_rfl
theorem law76x0x110 (N : Nat) : CutLaw Try.prog 2 (piece Try.prog 76 110) (loSh sh76x0x110 (A76x0x110 N)) :=
  law_sh progOk (T93x0_ok N) (al76x0s6 N) one76x0x110 fun L x hx => (raw76x0x110 N L).trans ((bind76x0x110 N ..).trans (alt1 x hx))
noncomputable def h76x0s7 (N : Nat) : Hint := { (h76x0s6 N) with los := (110, loSh sh76x0x110 (A76x0x110 N)) :: (h76x0s6 N).los }
theorem al76x0s7 (N : Nat) : AllCuts Try.prog (h76x0s7 N).los 2 76 := AllCuts.cons (al76x0s6 N) one76x0x110 (law76x0x110 N)
noncomputable def F76x0x95 (N : Nat) {R : Type} (w3 : Int) (w8 : Bool) (w21 w78 w82 w98 w99 w100 w101 w102 w103 w104 w105 w106 w107 w108 w109 w111 w112 w113 : Int) (k0 : Ty2 → Option R) (k1 : Ty6 → Option R) : Option R :=
  bif w8 then
    bnd (bif (decide (w21 ≥ (IntKind.wrap .i64 (w111 - w113)))) then (decide (w21 < w111)) else false) fun y0 =>
    bnd (G76x0x98 N w3 y0 w78 w98 w99 w100 w101 w102 w103 w104 w105 w106 w107 w108 w109) fun y1 =>
    bif y1.isSome then
      bif (inB w3 12) then
        bnd (bif (Nat.beq w3.toNat 0) then (y1.getD default).1 else (bif (Nat.beq w3.toNat 1) then (y1.getD default).2.1 else (bif (Nat.beq w3.toNat 2) then (y1.getD default).2.2.1 else (bif (Nat.beq w3.toNat 3) then (y1.getD default).2.2.2.1 else (bif (Nat.beq w3.toNat 4) then (y1.getD default).2.2.2.2.1 else (bif (Nat.beq w3.toNat 5) then (y1.getD default).2.2.2.2.2.1 else (bif (Nat.beq w3.toNat 6) then (y1.getD default).2.2.2.2.2.2.1 else (bif (Nat.beq w3.toNat 7) then (y1.getD default).2.2.2.2.2.2.2.1 else (bif (Nat.beq w3.toNat 8) then (y1.getD default).2.2.2.2.2.2.2.2.1 else (bif (Nat.beq w3.toNat 9) then (y1.getD default).2.2.2.2.2.2.2.2.2.1 else (bif (Nat.beq w3.toNat 10) then (y1.getD default).2.2.2.2.2.2.2.2.2.2.1 else (y1.getD default).2.2.2.2.2.2.2.2.2.2.2))))))))))) fun y2 =>
        bif (decide (y2 > w112)) then
          k0 ((y1.getD default).1, (y1.getD default).2.1, (y1.getD default).2.2.1, (y1.getD default).2.2.2.1, (y1.getD default).2.2.2.2.1, (y1.getD default).2.2.2.2.2.1, (y1.getD default).2.2.2.2.2.2.1, (y1.getD default).2.2.2.2.2.2.2.1, (y1.getD default).2.2.2.2.2.2.2.2.1, (y1.getD default).2.2.2.2.2.2.2.2.2.1, (y1.getD default).2.2.2.2.2.2.2.2.2.2.1, (y1.getD default).2.2.2.2.2.2.2.2.2.2.2, (y1.getD default).1, (y1.getD default).2.1, (y1.getD default).2.2.1, (y1.getD default).2.2.2.1, (y1.getD default).2.2.2.2.1, (y1.getD default).2.2.2.2.2.1, (y1.getD default).2.2.2.2.2.2.1, (y1.getD default).2.2.2.2.2.2.2.1, (y1.getD default).2.2.2.2.2.2.2.2.1, (y1.getD default).2.2.2.2.2.2.2.2.2.1, (y1.getD default).2.2.2.2.2.2.2.2.2.2.1, (y1.getD default).2.2.2.2.2.2.2.2.2.2.2)
        else
          bnd (G76x0x110 N w3 (decide (w82 ≥ w111)) (y1.getD default).1 (y1.getD default).2.1 (y1.getD default).2.2.1 (y1.getD default).2.2.2.1 (y1.getD default).2.2.2.2.1 (y1.getD default).2.2.2.2.2.1 (y1.getD default).2.2.2.2.2.2.1 (y1.getD default).2.2.2.2.2.2.2.1 (y1.getD default).2.2.2.2.2.2.2.2.1 (y1.getD default).2.2.2.2.2.2.2.2.2.1 (y1.getD default).2.2.2.2.2.2.2.2.2.2.1 (y1.getD default).2.2.2.2.2.2.2.2.2.2.2) fun y3 =>
          bif y3.isSome then
            k1 (y3.getD default)
          else
            none
      else
        none
    else
      none
  else
    k1 (w98, w99, w100, w101, w102, w103, w104, w105, w106, w107, w108, w109)
noncomputable def G76x0x95 (N : Nat) (w3 : Int) (w8 : Bool) (w21 w78 w82 w98 w99 w100 w101 w102 w103 w104 w105 w106 w107 w108 w109 w111 w112 w113 : Int) : Option (Sum (Ty2) (Ty6)) := F76x0x95 N w3 w8 w21 w78 w82 w98 w99 w100 w101 w102 w103 w104 w105 w106 w107 w108 w109 w111 w112 w113 (fun p => some (.inl p)) (fun p => some (.inr p))
theorem bind76x0x95 (N : Nat) {R : Type} (w3 : Int) (w8 : Bool) (w21 w78 w82 w98 w99 w100 w101 w102 w103 w104 w105 w106 w107 w108 w109 w111 w112 w113 : Int) (k0 : Ty2 → Option R) (k1 : Ty6 → Option R) : F76x0x95 N w3 w8 w21 w78 w82 w98 w99 w100 w101 w102 w103 w104 w105 w106 w107 w108 w109 w111 w112 w113 k0 k1 = (G76x0x95 N w3 w8 w21 w78 w82 w98 w99 w100 w101 w102 w103 w104 w105 w106 w107 w108 w109 w111 w112 w113).bind (sumE k0 k1) := by
  unfold G76x0x95 F76x0x95
  repeat' (first | rfl | apply cond_b | (apply bnd_b; intro _))
noncomputable def J76x0x95 (N : Nat) (L : List Lf) {R : Type} (k0 : Ty2 → Option R) (k1 : Ty6 → Option R) : Option R := F76x0x95 N (li L 3) (lb L 8) (li L 21) (li L 78) (li L 82) (li L 98) (li L 99) (li L 100) (li L 101) (li L 102) (li L 103) (li L 104) (li L 105) (li L 106) (li L 107) (li L 108) (li L 109) (li L 111) (li L 112) (li L 113) k0 k1
noncomputable def sh76x0x95 : Sh := { tmps := [(0, .c (.p 0 0)), (2, .c (.i .i64)), (4, .c (.p 6 0)), (6, .c (.p 8 0)), (8, .c (.p 10 0)), (9, .c (.p 11 0)), (10, .c (.b)), (11, .c (.b)), (12, .c (.i .i64)), (13, .c (.p 15 0)), (67, .c (.sl 68)), (68, .c (.i .i64)), (69, .c (.i .i64)), (152, .c (.b))], mem := [(0, .box (.i .i64 :: .i .i64 :: [.i .i64, .sl 66, .sl 68, .sl 3, .sl 3, .m 1])), (1, .map 93 96), (6, .box (rI 28 ([]))), (8, .box (rI 28 ([]))), (10, .box ([.s, .i .i64, .i .i64, .i .i64, .b])), (11, .box (rI 28 ([]))), (15, .box (rI 5 ([.s])))] }
noncomputable def K76x0x95w0 (L : List Lf) (p : Ty2) : Ex × St := let p1 := p.2; let p2 := p1.2; let p3 := p2.2; let p4 := p3.2; let p5 := p4.2; let p6 := p5.2; let p7 := p6.2; let p8 := p7.2; let p9 := p8.2; let p10 := p9.2; let p11 := p10.2; let p12 := p11.2; let p13 := p12.2; let p14 := p13.2; let p15 := p14.2; let p16 := p15.2; let p17 := p16.2; let p18 := p17.2; let p19 := p18.2; let p20 := p19.2; let p21 := p20.2; let p22 := p21.2; let p23 := p22.2; (.ret, ⟨[(6, .c (.p 8 0)), (7, .c (.b false)), (9, .c (.p 11 0))], [(0, .box [.i .i64 (li L 9), .i .i64 (li L 10), .i .i64 (li L 11), .sl 66 (lb L 12) (ll L 13), .sl 68 (lb L 14) (ll L 15), .sl 3 (lb L 16) (ll L 17), .sl 3 (lb L 18) (ll L 19), .m 1]), (1, .map 93 96 (lm L 20)), (6, .box (rL L 21 28 ([]))), (8, .box (rL L 82 16 ([.i .i64 p.1, .i .i64 p1.1, .i .i64 p2.1, .i .i64 p3.1, .i .i64 p4.1, .i .i64 p5.1, .i .i64 p6.1, .i .i64 p7.1, .i .i64 p8.1, .i .i64 p9.1, .i .i64 p10.1, .i .i64 p11.1]))), (10, .box [.s (ls L 77), .i .i64 (li L 78), .i .i64 (li L 79), .i .i64 (li L 80), .b (lb L 81)]), (11, .box (rL L 82 16 ([.i .i64 p12.1, .i .i64 p13.1, .i .i64 p14.1, .i .i64 p15.1, .i .i64 p16.1, .i .i64 p17.1, .i .i64 p18.1, .i .i64 p19.1, .i .i64 p20.1, .i .i64 p21.1, .i .i64 p22.1, .i .i64 p23])))]⟩)
noncomputable def K76x0x95w1 (L : List Lf) (p : Ty6) : Ex × St := let p1 := p.2; let p2 := p1.2; let p3 := p2.2; let p4 := p3.2; let p5 := p4.2; let p6 := p5.2; let p7 := p6.2; let p8 := p7.2; let p9 := p8.2; let p10 := p9.2; let p11 := p10.2; (.normal, ⟨[(0, .c (.p 0 0)), (2, .c (.i .i64 (li L 0))), (4, .c (.p 6 0)), (6, .c (.p 8 0)), (8, .c (.p 10 0)), (9, .c (.p 11 0)), (10, .c (.b (lb L 1))), (11, .c (.b (lb L 2))), (67, .c (.sl 68 (lb L 4) (ll L 5))), (68, .c (.i .i64 (li L 6))), (69, .c (.i .i64 (li L 7)))], [(0, .box [.i .i64 (li L 9), .i .i64 (li L 10), .i .i64 (li L 11), .sl 66 (lb L 12) (ll L 13), .sl 68 (lb L 14) (ll L 15), .sl 3 (lb L 16) (ll L 17), .sl 3 (lb L 18) (ll L 19), .m 1]), (1, .map 93 96 (lm L 20)), (6, .box (rL L 21 28 ([]))), (8, .box (rL L 49 28 ([]))), (10, .box [.s (ls L 77), .i .i64 (li L 78), .i .i64 (li L 79), .i .i64 (li L 80), .b (lb L 81)]), (11, .box (rL L 82 16 ([.i .i64 p.1, .i .i64 p1.1, .i .i64 p2.1, .i .i64 p3.1, .i .i64 p4.1, .i .i64 p5.1, .i .i64 p6.1, .i .i64 p7.1, .i .i64 p8.1, .i .i64 p9.1, .i .i64 p10.1, .i .i64 p11])))]⟩)
noncomputable def A76x0x95 (N : Nat) (L : List Lf) : List (Bool × (Ex × St)) := bnd (J76x0x95 N L (fun p => some (.inl p)) (fun p => some (.inr p))) fun q => [((inlB q), K76x0x95w0 L (inlV q)), ((inrQ q).isSome, K76x0x95w1 L ((inrQ q).getD default))]
theorem raw76x0x95 (N : Nat) (L : List Lf) : (exec Try.prog (T93x0 N) (h76x0s7 N) 2 100 (piece Try.prog 76 95) (ofSh sh76x0x95 L) (fun e st => some (e, cutSt [69, 68, 67, 9, 6, 11, 10, 4, 2, 8, 0, 7] [11, 8, 0, 1, 10, 6] st)) : Option (Ex × St)) = J76x0x95 N L (fun p => some (K76x0x95w0 L p)) (fun p => some (K76x0x95w1 L p)) := by kernel_rfl
theorem one76x0x95 : oneB Try.prog 76 95 = true := by kernel_rfl
theorem law76x0x95 (N : Nat) : CutLaw Try.prog 2 (piece Try.prog 76 95) (loSh sh76x0x95 (A76x0x95 N)) :=
  law_sh progOk (T93x0_ok N) (al76x0s7 N) one76x0x95 fun L x hx => (raw76x0x95 N L).trans ((bind76x0x95 N ..).trans ((altS alt1) x hx))
noncomputable def h76x0s8 (N : Nat) : Hint := { (h76x0s7 N) with los := (95, loSh sh76x0x95 (A76x0x95 N)) :: (h76x0s7 N).los }
theorem al76x0s8 (N : Nat) : AllCuts Try.prog (h76x0s8 N).los 2 76 := AllCuts.cons (al76x0s7 N) one76x0x95 (law76x0x95 N)
noncomputable def F76x0x90074 (N : Nat) {R : Type} (w0 : Int) (w2 : Bool) (w3 w8 : Int) (w9 : Bool) (w22 : Int) (w78 : LB) (w79 w83 w87 w88 w89 w90 w91 w92 w93 w94 w95 w96 w97 w98 w99 w100 w101 w102 w103 w104 w105 w106 w107 w108 w109 w110 w112 w113 w114 w115 : Int) (w116 : LB) (k0 : Ty0 → Option R) (k1 : Ty2 → Option R) : Option R :=
  bif w9 then
    bnd (G76x0x77 N w3 (bif (decide (w0 ≥ 0)) then (w78 == w116) else false) w87 w88 w89 w90 w91 w92 w93 w94 w95 w96 w97 w98) fun y0 =>
    bif y0.isSome then
      bnd (G76x0x79 N w2 w3 (y0.getD default).1 (y0.getD default).2.1 (y0.getD default).2.2.1 (y0.getD default).2.2.2.1 (y0.getD default).2.2.2.2.1 (y0.getD default).2.2.2.2.2.1 (y0.getD default).2.2.2.2.2.2.1 (y0.getD default).2.2.2.2.2.2.2.1 (y0.getD default).2.2.2.2.2.2.2.2.1 (y0.getD default).2.2.2.2.2.2.2.2.2.1 (y0.getD default).2.2.2.2.2.2.2.2.2.2.1 (y0.getD default).2.2.2.2.2.2.2.2.2.2.2 w114 w115) fun y1 =>
      bif y1.isSome then
        bif (y1.getD default) then
          k0 ((y0.getD default).1, (y0.getD default).2.1, (y0.getD default).2.2.1, (y0.getD default).2.2.2.1, (y0.getD default).2.2.2.2.1, (y0.getD default).2.2.2.2.2.1, (y0.getD default).2.2.2.2.2.2.1, (y0.getD default).2.2.2.2.2.2.2.1, (y0.getD default).2.2.2.2.2.2.2.2.1, (y0.getD default).2.2.2.2.2.2.2.2.2.1, (y0.getD default).2.2.2.2.2.2.2.2.2.2.1, (y0.getD default).2.2.2.2.2.2.2.2.2.2.2, w99, w100, w101, w102, w103, w104, w105, w106, w107, w108, w109, w110, (y0.getD default).1, (y0.getD default).2.1, (y0.getD default).2.2.1, (y0.getD default).2.2.2.1, (y0.getD default).2.2.2.2.1, (y0.getD default).2.2.2.2.2.1, (y0.getD default).2.2.2.2.2.2.1, (y0.getD default).2.2.2.2.2.2.2.1, (y0.getD default).2.2.2.2.2.2.2.2.1, (y0.getD default).2.2.2.2.2.2.2.2.2.1, (y0.getD default).2.2.2.2.2.2.2.2.2.2.1, (y0.getD default).2.2.2.2.2.2.2.2.2.2.2, w99, w100, w101, w102, w103, w104, w105, w106, w107, w108, w109, w110)
        else
          bnd (G76x0x89 N w3 w2 (y0.getD default).1 (y0.getD default).2.1 (y0.getD default).2.2.1 (y0.getD default).2.2.2.1 (y0.getD default).2.2.2.2.1 (y0.getD default).2.2.2.2.2.1 (y0.getD default).2.2.2.2.2.2.1 (y0.getD default).2.2.2.2.2.2.2.1 (y0.getD default).2.2.2.2.2.2.2.2.1 (y0.getD default).2.2.2.2.2.2.2.2.2.1 (y0.getD default).2.2.2.2.2.2.2.2.2.2.1 (y0.getD default).2.2.2.2.2.2.2.2.2.2.2) fun y2 =>
          bif y2.isSome then
            k1 ((y2.getD default).1, (y2.getD default).2.1, (y2.getD default).2.2.1, (y2.getD default).2.2.2.1, (y2.getD default).2.2.2.2.1, (y2.getD default).2.2.2.2.2.1, (y2.getD default).2.2.2.2.2.2.1, (y2.getD default).2.2.2.2.2.2.2.1, (y2.getD default).2.2.2.2.2.2.2.2.1, (y2.getD default).2.2.2.2.2.2.2.2.2.1, (y2.getD default).2.2.2.2.2.2.2.2.2.2.1, (y2.getD default).2.2.2.2.2.2.2.2.2.2.2, w99, w100, w101, w102, w103, w104, w105, w106, w107, w108, w109, w110)
          else
            none
      else
        none
    else
      none
  else
    bnd (G76x0x95 N w3 (w8 == 9) w22 w79 w83 w99 w100 w101 w102 w103 w104 w105 w106 w107 w108 w109 w110 w112 w113 w114) fun y3 =>
    bif (inlB y3) then
      k0 (w87, w88, w89, w90, w91, w92, w93, w94, w95, w96, w97, w98, (inlV y3).1, (inlV y3).2.1, (inlV y3).2.2.1, (inlV y3).2.2.2.1, (inlV y3).2.2.2.2.1, (inlV y3).2.2.2.2.2.1, (inlV y3).2.2.2.2.2.2.1, (inlV y3).2.2.2.2.2.2.2.1, (inlV y3).2.2.2.2.2.2.2.2.1, (inlV y3).2.2.2.2.2.2.2.2.2.1, (inlV y3).2.2.2.2.2.2.2.2.2.2.1, (inlV y3).2.2.2.2.2.2.2.2.2.2.2.1, w87, w88, w89, w90, w91, w92, w93, w94, w95, w96, w97, w98, (inlV y3).2.2.2.2.2.2.2.2.2.2.2.2.1, (inlV y3).2.2.2.2.2.2.2.2.2.2.2.2.2.1, (inlV y3).2.2.2.2.2.2.2.2.2.2.2.2.2.2.1, (inlV y3).2.2.2.2.2.2.2.2.2.2.2.2.2.2.2.1, (inlV y3).2.2.2.2.2.2.2.2.2.2.2.2.2.2.2.2.1, (inlV y3).2.2.2.2.2.2.2.2.2.2.2.2.2.2.2.2.2.1, (inlV y3).2.2.2.2.2.2.2.2.2.2.2.2.2.2.2.2.2.2.1, (inlV y3).2.2.2.2.2.2.2.2.2.2.2.2.2.2.2.2.2.2.2.1, (inlV y3).2.2.2.2.2.2.2.2.2.2.2.2.2.2.2.2.2.2.2.2.1, (inlV y3).2.2.2.2.2.2.2.2.2.2.2.2.2.2.2.2.2.2.2.2.2.1, (inlV y3).2.2.2.2.2.2.2.2.2.2.2.2.2.2.2.2.2.2.2.2.2.2.1, (inlV y3).2.2.2.2.2.2.2.2.2.2.2.2.2.2.2.2.2.2.2.2.2.2.2)
    else
      bif (inrQ y3).isSome then
        k1 (w87, w88, w89, w90, w91, w92, w93, w94, w95, w96, w97, w98, ((inrQ y3).getD default).1, ((inrQ y3).getD default).2.1, ((inrQ y3).getD default).2.2.1, ((inrQ y3).getD default).2.2.2.1, ((inrQ y3).getD default).2.2.2.2.1, ((inrQ y3).getD default).2.2.2.2.2.1, ((inrQ y3).getD default).2.2.2.2.2.2.1, ((inrQ y3).getD default).2.2.2.2.2.2.2.1, ((inrQ y3).getD default).2.2.2.2.2.2.2.2.1, ((inrQ y3).getD default).2.2.2.2.2.2.2.2.2.1, ((inrQ y3).getD default).2.2.2.2.2.2.2.2.2.2.1, ((inrQ y3).getD default).2.2.2.2.2.2.2.2.2.2.2)
      else
        none
noncomputable def G76x0x90074 (N : Nat) (w0 : Int) (w2 : Bool) (w3 w8 : Int) (w9 : Bool) (w22 : Int) (w78 : LB) (w79 w83 w87 w88 w89 w90 w91 w92 w93 w94 w95 w96 w97 w98 w99 w100 w101 w102 w103 w104 w105 w106 w107 w108 w109 w110 w112 w113 w114 w115 : Int) (w116 : LB) : Option (Sum (Ty0) (Ty2)) := F76x0x90074 N w0 w2 w3 w8 w9 w22 w78 w79 w83 w87 w88 w89 w90 w91 w92 w93 w94 w95 w96 w97 w98 w99 w100 w101 w102 w103 w104 w105 w106 w107 w108 w109 w110 w112 w113 w114 w115 w116 (fun p => some (.inl p)) (fun p => some (.inr p))
theorem bind76x0x90074 (N : Nat) {R : Type} (w0 : Int) (w2 : Bool) (w3 w8 : Int) (w9 : Bool) (w22 : Int) (w78 : LB) (w79 w83 w87 w88 w89 w90 w91 w92 w93 w94 w95 w96 w97 w98 w99 w100 w101 w102 w103 w104 w105 w106 w107 w108 w109 w110 w112 w113 w114 w115 : Int) (w116 : LB) (k0 : Ty0 → Option R) (k1 : Ty2 → Option R) : F76x0x90074 N w0 w2 w3 w8 w9 w22 w78 w79 w83 w87 w88 w89 w90 w91 w92 w93 w94 w95 w96 w97 w98 w99 w100 w101 w102 w103 w104 w105 w106 w107 w108 w109 w110 w112 w113 w114 w115 w116 k0 k1 = (G76x0x90074 N w0 w2 w3 w8 w9 w22 w78 w79 w83 w87 w88 w89 w90 w91 w92 w93 w94 w95 w96 w97 w98 w99 w100 w101 w102 w103 w104 w105 w106 w107 w108 w109 w110 w112 w113 w114 w115 w116).bind (sumE k0 k1) := by
  unfold G76x0x90074 F76x0x90074
  repeat' (first | rfl | apply cond_b | (apply bnd_b; intro _))
noncomputable def J76x0x90074 (N : Nat) (L : List Lf) {R : Type} (k0 : Ty0 → Option R) (k1 : Ty2 → Option R) : Option R := F76x0x90074 N (li L 0) (lb L 2) (li L 3) (li L 8) (lb L 9) (li L 22) (ls L 78) (li L 79) (li L 83) (li L 87) (li L 88) (li L 89) (li L 90) (li L 91) (li L 92) (li L 93) (li L 94) (li L 95) (li L 96) (li L 97) (li L 98) (li L 99) (li L 100) (li L 101) (li L 102) (li L 103) (li L 104) (li L 105) (li L 106) (li L 107) (li L 108) (li L 109) (li L 110) (li L 112) (li L 113) (li L 114) (li L 115) (ls L 116) k0 k1
noncomputable def sh76x0x90074 : Sh := { tmps := [(0, .c (.p 0 0)), (2, .c (.i .i64)), (4, .c (.p 6 0)), (6, .c (.p 8 0)), (8, .c (.p 10 0)), (9, .c (.p 11 0)), (10, .c (.b)), (11, .c (.b)), (12, .c (.i .i64)), (13, .c (.p 15 0)), (67, .c (.sl 68)), (68, .c (.i .i64)), (69, .c (.i .i64)), (75, .c (.i .i64)), (110, .c (.b))], mem := [(0, .box (.i .i64 :: .i .i64 :: [.i .i64, .sl 66, .sl 68, .sl 3, .sl 3, .m 1])), (1, .map 93 96), (6, .box (rI 28 ([]))), (8, .box (rI 28 ([]))), (10, .box ([.s, .i .i64, .i .i64, .i .i64, .b])), (11, .box (rI 28 ([]))), (15, .box (rI 5 ([.s])))] }
noncomputable def K76x0x90074w0 (L : List Lf) (p : Ty0) : Ex × St := let p1 := p.2; let p2 := p1.2; let p3 := p2.2; let p4 := p3.2; let p5 := p4.2; let p6 := p5.2; let p7 := p6.2; let p8 := p7.2; let p9 := p8.2; let p10 := p9.2; let p11 := p10.2; let p12 := p11.2; let p13 := p12.2; let p14 := p13.2; let p15 := p14.2; let p16 := p15.2; let p17 := p16.2; let p18 := p17.2; let p19 := p18.2; let p20 := p19.2; let p21 := p20.2; let p22 := p21.2; let p23 := p22.2; let p24 := p23.2; let p25 := p24.2; let p26 := p25.2; let p27 := p26.2; let p28 := p27.2; let p29 := p28.2; let p30 := p29.2; let p31 := p30.2; let p32 := p31.2; let p33 := p32.2; let p34 := p33.2; let p35 := p34.2; let p36 := p35.2; let p37 := p36.2; let p38 := p37.2; let p39 := p38.2; let p40 := p39.2; let p41 := p40.2; let p42 := p41.2; let p43 := p42.2; let p44 := p43.2; let p45 := p44.2; let p46 := p45.2; let p47 := p46.2; (.ret, ⟨[(6, .c (.p 8 0)), (7, .c (.b false)), (9, .c (.p 11 0))], [(0, .box [.i .i64 (li L 10), .i .i64 (li L 11), .i .i64 (li L 12), .sl 66 (lb L 13) (ll L 14), .sl 68 (lb L 15) (ll L 16), .sl 3 (lb L 17) (ll L 18), .sl 3 (lb L 19) (ll L 20), .m 1]), (1, .map 93 96 (lm L 21)), (6, .box (rL L 22 28 ([]))), (8, .box (rL L 83 4 ([.i .i64 p.1, .i .i64 p1.1, .i .i64 p2.1, .i .i64 p3.1, .i .i64 p4.1, .i .i64 p5.1, .i .i64 p6.1, .i .i64 p7.1, .i .i64 p8.1, .i .i64 p9.1, .i .i64 p10.1, .i .i64 p11.1, .i .i64 p12.1, .i .i64 p13.1, .i .i64 p14.1, .i .i64 p15.1, .i .i64 p16.1, .i .i64 p17.1, .i .i64 p18.1, .i .i64 p19.1, .i .i64 p20.1, .i .i64 p21.1, .i .i64 p22.1, .i .i64 p23.1]))), (10, .box [.s (ls L 78), .i .i64 (li L 79), .i .i64 (li L 80), .i .i64 (li L 81), .b (lb L 82)]), (11, .box (rL L 83 4 ([.i .i64 p24.1, .i .i64 p25.1, .i .i64 p26.1, .i .i64 p27.1, .i .i64 p28.1, .i .i64 p29.1, .i .i64 p30.1, .i .i64 p31.1, .i .i64 p32.1, .i .i64 p33.1, .i .i64 p34.1, .i .i64 p35.1, .i .i64 p36.1, .i .i64 p37.1, .i .i64 p38.1, .i .i64 p39.1, .i .i64 p40.1, .i .i64 p41.1, .i .i64 p42.1, .i .i64 p43.1, .i .i64 p44.1, .i .i64 p45.1, .i .i64 p46.1, .i .i64 p47])))]⟩)
noncomputable def K76x0x90074w1 (L : List Lf) (p : Ty2) : Ex × St := let p1 := p.2; let p2 := p1.2; let p3 := p2.2; let p4 := p3.2; let p5 := p4.2; let p6 := p5.2; let p7 := p6.2; let p8 := p7.2; let p9 := p8.2; let p10 := p9.2; let p11 := p10.2; let p12 := p11.2; let p13 := p12.2; let p14 := p13.2; let p15 := p14.2; let p16 := p15.2; let p17 := p16.2; let p18 := p17.2; let p19 := p18.2; let p20 := p19.2; let p21 := p20.2; let p22 := p21.2; let p23 := p22.2; (.normal, ⟨[(0, .c (.p 0 0)), (2, .c (.i .i64 (li L 0))), (4, .c (.p 6 0)), (6, .c (.p 8 0)), (8, .c (.p 10 0)), (9, .c (.p 11 0)), (10, .c (.b (lb L 1))), (11, .c (.b (lb L 2))), (67, .c (.sl 68 (lb L 4) (ll L 5))), (68, .c (.i .i64 (li L 6))), (69, .c (.i .i64 (li L 7)))], [(0, .box [.i .i64 (li L 10), .i .i64 (li L 11), .i .i64 (li L 12), .sl 66 (lb L 13) (ll L 14), .sl 68 (lb L 15) (ll L 16), .sl 3 (lb L 17) (ll L 18), .sl 3 (lb L 19) (ll L 20), .m 1]), (1, .map 93 96 (lm L 21)), (6, .box (rL L 22 28 ([]))), (8, .box (rL L 50 28 ([]))), (10, .box [.s (ls L 78), .i .i64 (li L 79), .i .i64 (li L 80), .i .i64 (li L 81), .b (lb L 82)]), (11, .box (rL L 83 4 ([.i .i64 p.1, .i .i64 p1.1, .i .i64 p2.1, .i .i64 p3.1, .i .i64 p4.1, .i .i64 p5.1, .i .i64 p6.1, .i .i64 p7.1, .i .i64 p8.1, .i .i64 p9.1, .i .i64 p10.1, .i .i64 p11.1, .i .i64 p12.1, .i .i64 p13.1, .i .i64 p14.1, .i .i64 p15.1, .i .i64 p16.1, .i .i64 p17.1, .i .i64 p18.1, .i .i64 p19.1, .i .i64 p20.1, .i .i64 p21.1, .i .i64 p22.1, .i .i64 p23])))]⟩)
noncomputable def A76x0x90074 (N : Nat) (L : List Lf) : List (Bool × (Ex × St)) := bnd (J76x0x90074 N L (fun p => some (.inl p)) (fun p => some (.inr p))) fun q => [((inlB q), K76x0x90074w0 L (inlV q)), ((inrQ q).isSome, K76x0x90074w1 L ((inrQ q).getD default))]
theorem raw76x0x90074 (N : Nat) (L : List Lf) : (exec Try.prog (T93x0 N) (h76x0s8 N) 2 100 (piece Try.prog 76 90074) (ofSh sh76x0x90074 L) (fun e st => some (e, cutSt [69, 68, 67, 9, 6, 11, 10, 4, 2, 8, 0, 7] [11, 8, 0, 1, 10, 6] st)) : Option (Ex × St)) = J76x0x90074 N L (fun p => some (K76x0x90074w0 L p)) (fun p => some (K76x0x90074w1 L p)) := by kernel_rfl
theorem one76x0x90074 : oneB Try.prog 76 90074 = true := by kernel_rfl
theorem law76x0x90074 (N : Nat) : CutLaw Try.prog 2 (piece Try.prog 76 90074) (loSh sh76x0x90074 (A76x0x90074 N)) :=
  law_sh progOk (T93x0_ok N) (al76x0s8 N) one76x0x90074 fun L x hx => (raw76x0x90074 N L).trans ((bind76x0x90074 N ..).trans ((altS alt1) x hx))
noncomputable def h76x0s9 (N : Nat) : Hint := { (h76x0s8 N) with los := (90074, loSh sh76x0x90074 (A76x0x90074 N)) :: (h76x0s8 N).los }
theorem al76x0s9 (N : Nat) : AllCuts Try.prog (h76x0s9 N).los 2 76 := AllCuts.cons (al76x0s8 N) one76x0x90074 (law76x0x90074 N)
noncomputable def F76x0x69065 (N : Nat) {R : Type} (w0 : Int) (w1 w2 : Bool) (w3 w8 : Int) (w9 : Bool) (w22 w24 : Int) (w78 : LB) (w79 w83 w84 w87 w88 w89 w90 w91 w92 w93 w94 w95 w96 w97 w98 w99 w100 w101 w102 w103 w104 w105 w106 w107 w108 w109 w110 w112 w113 w114 w115 : Int) (w116 : LB) (k0 : Ty0 → Option R) (k1 : Ty2 → Option R) : Option R :=
  bif w9 then
    bnd (bif w1 then (decide ((IntKind.wrap .i64 (w84 * 100)) > (IntKind.wrap .i64 (w113 * w24)))) else false) fun y0 =>
    bif y0 then
      k0 (w87, w88, w89, w90, w91, w92, w93, w94, w95, w96, w97, w98, w99, w100, w101, w102, w103, w104, w105, w106, w107, w108, w109, w110, w87, w88, w89, w90, w91, w92, w93, w94, w95, w96, w97, w98, w99, w100, w101, w102, w103, w104, w105, w106, w107, w108, w109, w110)
    else
      k1 (w87, w88, w89, w90, w91, w92, w93, w94, w95, w96, w97, w98, w99, w100, w101, w102, w103, w104, w105, w106, w107, w108, w109, w110)
  else
    bnd (G76x0x90074 N w0 w2 w3 w8 (w8 == 6) w22 w78 w79 w83 w87 w88 w89 w90 w91 w92 w93 w94 w95 w96 w97 w98 w99 w100 w101 w102 w103 w104 w105 w106 w107 w108 w109 w110 w112 w113 w114 w115 w116) fun y1 =>
    bif (inlB y1) then
      k0 (inlV y1)
    else
      bif (inrQ y1).isSome then
        k1 ((inrQ y1).getD default)
      else
        none
noncomputable def G76x0x69065 (N : Nat) (w0 : Int) (w1 w2 : Bool) (w3 w8 : Int) (w9 : Bool) (w22 w24 : Int) (w78 : LB) (w79 w83 w84 w87 w88 w89 w90 w91 w92 w93 w94 w95 w96 w97 w98 w99 w100 w101 w102 w103 w104 w105 w106 w107 w108 w109 w110 w112 w113 w114 w115 : Int) (w116 : LB) : Option (Sum (Ty0) (Ty2)) := F76x0x69065 N w0 w1 w2 w3 w8 w9 w22 w24 w78 w79 w83 w84 w87 w88 w89 w90 w91 w92 w93 w94 w95 w96 w97 w98 w99 w100 w101 w102 w103 w104 w105 w106 w107 w108 w109 w110 w112 w113 w114 w115 w116 (fun p => some (.inl p)) (fun p => some (.inr p))
theorem bind76x0x69065 (N : Nat) {R : Type} (w0 : Int) (w1 w2 : Bool) (w3 w8 : Int) (w9 : Bool) (w22 w24 : Int) (w78 : LB) (w79 w83 w84 w87 w88 w89 w90 w91 w92 w93 w94 w95 w96 w97 w98 w99 w100 w101 w102 w103 w104 w105 w106 w107 w108 w109 w110 w112 w113 w114 w115 : Int) (w116 : LB) (k0 : Ty0 → Option R) (k1 : Ty2 → Option R) : F76x0x69065 N w0 w1 w2 w3 w8 w9 w22 w24 w78 w79 w83 w84 w87 w88 w89 w90 w91 w92 w93 w94 w95 w96 w97 w98 w99 w100 w101 w102 w103 w104 w105 w106 w107 w108 w109 w110 w112 w113 w114 w115 w116 k0 k1 = (G76x0x69065 N w0 w1 w2 w3 w8 w9 w22 w24 w78 w79 w83 w84 w87 w88 w89 w90 w91 w92 w93 w94 w95 w96 w97 w98 w99 w100 w101 w102 w103 w104 w105 w106 w107 w108 w109 w110 w112 w113 w114 w115 w116).bind (sumE k0 k1) := by
  unfold G76x0x69065 F76x0x69065
  repeat' (first | rfl | apply cond_b | (apply bnd_b; intro _))
noncomputable def J76x0x69065 (N : Nat) (L : List Lf) {R : Type} (k0 : Ty0 → Option R) (k1 : Ty2 → Option R) : Option R := F76x0x69065 N (li L 0) (lb L 1) (lb L 2) (li L 3) (li L 8) (lb L 9) (li L 22) (li L 24) (ls L 78) (li L 79) (li L 83) (li L 84) (li L 87) (li L 88) (li L 89) (li L 90) (li L 91) (li L 92) (li L 93) (li L 94) (li L 95) (li L 96) (li L 97) (li L 98) (li L 99) (li L 100) (li L 101) (li L 102) (li L 103) (li L 104) (li L 105) (li L 106) (li L 107) (li L 108) (li L 109) (li L 110) (li L 112) (li L 113) (li L 114) (li L 115) (ls L 116) k0 k1
noncomputable def sh76x0x69065 : Sh := { tmps := [(0, .c (.p 0 0)), (2, .c (.i .i64)), (4, .c (.p 6 0)), (6, .c (.p 8 0)), (8, .c (.p 10 0)), (9, .c (.p 11 0)), (10, .c (.b)), (11, .c (.b)), (12, .c (.i .i64)), (13, .c (.p 15 0)), (67, .c (.sl 68)), (68, .c (.i .i64)), (69, .c (.i .i64)), (75, .c (.i .i64)), (95, .c (.b))], mem := [(0, .box (.i .i64 :: .i .i64 :: [.i .i64, .sl 66, .sl 68, .sl 3, .sl 3, .m 1])), (1, .map 93 96), (6, .box (rI 28 ([]))), (8, .box (rI 28 ([]))), (10, .box ([.s, .i .i64, .i .i64, .i .i64, .b])), (11, .box (rI 28 ([]))), (15, .box (rI 5 ([.s])))] }
noncomputable def K76x0x69065w0 (L : List Lf) (p : Ty0) : Ex × St := let p1 := p.2; let p2 := p1.2; let p3 := p2.2; let p4 := p3.2; let p5 := p4.2; let p6 := p5.2; let p7 := p6.2; let p8 := p7.2; let p9 := p8.2; let p10 := p9.2; let p11 := p10.2; let p12 := p11.2; let p13 := p12.2; let p14 := p13.2; let p15 := p14.2; let p16 := p15.2; let p17 := p16.2; let p18 := p17.2; let p19 := p18.2; let p20 := p19.2; let p21 := p20.2; let p22 := p21.2; let p23 := p22.2; let p24 := p23.2; let p25 := p24.2; let p26 := p25.2; let p27 := p26.2; let p28 := p27.2; let p29 := p28.2; let p30 := p29.2; let p31 := p30.2; let p32 := p31.2; let p33 := p32.2; let p34 := p33.2; let p35 := p34.2; let p36 := p35.2; let p37 := p36.2; let p38 := p37.2; let p39 := p38.2; let p40 := p39.2; let p41 := p40.2; let p42 := p41.2; let p43 := p42.2; let p44 := p43.2; let p45 := p44.2; let p46 := p45.2; let p47 := p46.2; (.ret, ⟨[(6, .c (.p 8 0)), (7, .c (.b false)), (9, .c (.p 11 0))], [(0, .box [.i .i64 (li L 10), .i .i64 (li L 11), .i .i64 (li L 12), .sl 66 (lb L 13) (ll L 14), .sl 68 (lb L 15) (ll L 16), .sl 3 (lb L 17) (ll L 18), .sl 3 (lb L 19) (ll L 20), .m 1]), (1, .map 93 96 (lm L 21)), (6, .box (rL L 22 28 ([]))), (8, .box (rL L 83 4 ([.i .i64 p.1, .i .i64 p1.1, .i .i64 p2.1, .i .i64 p3.1, .i .i64 p4.1, .i .i64 p5.1, .i .i64 p6.1, .i .i64 p7.1, .i .i64 p8.1, .i .i64 p9.1, .i .i64 p10.1, .i .i64 p11.1, .i .i64 p12.1, .i .i64 p13.1, .i .i64 p14.1, .i .i64 p15.1, .i .i64 p16.1, .i .i64 p17.1, .i .i64 p18.1, .i .i64 p19.1, .i .i64 p20.1, .i .i64 p21.1, .i .i64 p22.1, .i .i64 p23.1]))), (10, .box [.s (ls L 78), .i .i64 (li L 79), .i .i64 (li L 80), .i .i64 (li L 81), .b (lb L 82)]), (11, .box (rL L 83 4 ([.i .i64 p24.1, .i .i64 p25.1, .i .i64 p26.1, .i .i64 p27.1, .i .i64 p28.1, .i .i64 p29.1, .i .i64 p30.1, .i .i64 p31.1, .i .i64 p32.1, .i .i64 p33.1, .i .i64 p34.1, .i .i64 p35.1, .i .i64 p36.1, .i .i64 p37.1, .i .i64 p38.1, .i .i64 p39.1, .i .i64 p40.1, .i .i64 p41.1, .i .i64 p42.1, .i .i64 p43.1, .i .i64 p44.1, .i .i64 p45.1, .i .i64 p46.1, .i .i64 p47])))]⟩)
noncomputable def K76x0x69065w1 (L : List Lf) (p : Ty2) : Ex × St := let p1 := p.2; let p2 := p1.2; let p3 := p2.2; let p4 := p3.2; let p5 := p4.2; let p6 := p5.2; let p7 := p6.2; let p8 := p7.2; let p9 := p8.2; let p10 := p9.2; let p11 := p10.2; let p12 := p11.2; let p13 := p12.2; let p14 := p13.2; let p15 := p14.2; let p16 := p15.2; let p17 := p16.2; let p18 := p17.2; let p19 := p18.2; let p20 := p19.2; let p21 := p20.2; let p22 := p21.2; let p23 := p22.2; (.normal, ⟨[(0, .c (.p 0 0)), (2, .c (.i .i64 (li L 0))), (4, .c (.p 6 0)), (6, .c (.p 8 0)), (8, .c (.p 10 0)), (9, .c (.p 11 0)), (10, .c (.b (lb L 1))), (11, .c (.b (lb L 2))), (67, .c (.sl 68 (lb L 4) (ll L 5))), (68, .c (.i .i64 (li L 6))), (69, .c (.i .i64 (li L 7)))], [(0, .box [.i .i64 (li L 10), .i .i64 (li L 11), .i .i64 (li L 12), .sl 66 (lb L 13) (ll L 14), .sl 68 (lb L 15) (ll L 16), .sl 3 (lb L 17) (ll L 18), .sl 3 (lb L 19) (ll L 20), .m 1]), (1, .map 93 96 (lm L 21)), (6, .box (rL L 22 28 ([]))), (8, .box (rL L 50 28 ([]))), (10, .box [.s (ls L 78), .i .i64 (li L 79), .i .i64 (li L 80), .i .i64 (li L 81), .b (lb L 82)]), (11, .box (rL L 83 4 ([.i .i64 p.1, .i .i64 p1.1, .i .i64 p2.1, .i .i64 p3.1, .i .i64 p4.1, .i .i64 p5.1, .i .i64 p6.1, .i .i64 p7.1, .i .i64 p8.1, .i .i64 p9.1, .i .i64 p10.1, .i .i64 p11.1, .i .i64 p12.1, .i .i64 p13.1, .i .i64 p14.1, .i .i64 p15.1, .i .i64 p16.1, .i .i64 p17.1, .i .i64 p18.1, .i .i64 p19.1, .i .i64 p20.1, .i .i64 p21.1, .i .i64 p22.1, .i .i64 p23])))]⟩)
noncomputable def A76x0x69065 (N : Nat) (L : List Lf) : List (Bool × (Ex × St)) := bnd (J76x0x69065 N L (fun p => some (.inl p)) (fun p => some (.inr p))) fun q => [((inlB q), K76x0x69065w0 L (inlV q)), ((inrQ q).isSome, K76x0x69065w1 L ((inrQ q).getD default))]
theorem raw76x0x69065 (N : Nat) (L : List Lf) : (exec Try.prog (T93x0 N) (h76x0s9 N) 2 100 (piece Try.prog 76 69065) (ofSh sh76x0x69065 L) (fun e st => some (e, cutSt [69, 68, 67, 9, 6, 11, 10, 4, 2, 8, 0, 7] [11, 8, 0, 1, 10, 6] st)) : Option (Ex × St)) = J76x0x69065 N L (fun p => some (K76x0x69065w0 L p)) (fun p => some (K76x0x69065w1 L p)) := by kernel_rfl
theorem one76x0x69065 : oneB Try.prog 76 69065 = true := by kernel_rfl
theorem law76x0x69065 (N : Nat) : CutLaw Try.prog 2 (piece Try.prog 76 69065) (loSh sh76x0x69065 (A76x0x69065 N)) :=
  law_sh progOk (T93x0_ok N) (al76x0s9 N) one76x0x69065 fun L x hx => (raw76x0x69065 N L).trans ((bind76x0x69065 N ..).trans ((altS alt1) x hx))
noncomputable def h76x0s10 (N : Nat) : Hint := { (h76x0s9 N) with los := (69065, loSh sh76x0x69065 (A76x0x69065 N)) :: (h76x0s9 N).los }
theorem al76x0s10 (N : Nat) : AllCuts Try.prog (h76x0s10 N).los 2 76 := AllCuts.cons (al76x0s9 N) one76x0x69065 (law76x0x69065 N)
noncomputable def F76x0x60056 (N : Nat) {R : Type} (w0 : Int) (w1 w2 : Bool) (w3 w8 : Int) (w9 : Bool) (w22 w24 : Int) (w78 : LB) (w79 w83 w84 w87 w88 w89 w90 w91 w92 w93 w94 w95 w96 w97 w98 w99 w100 w101 w102 w103 w104 w105 w106 w107 w108 w109 w110 w112 w113 w114 w115 : Int) (w116 : LB) (k0 : Ty0 → Option R) (k1 : Ty2 → Option R) : Option R :=
  bif w9 then
    bif (bif w2 then (decide (w84 < w113)) else false) then
      k0 (w87, w88, w89, w90, w91, w92, w93, w94, w95, w96, w97, w98, w99, w100, w101, w102, w103, w104, w105, w106, w107, w108, w109, w110, w87, w88, w89, w90, w91, w92, w93, w94, w95, w96, w97, w98, w99, w100, w101, w102, w103, w104, w105, w106, w107, w108, w109, w110)
    else
      k1 (w87, w88, w89, w90, w91, w92, w93, w94, w95, w96, w97, w98, w99, w100, w101, w102, w103, w104, w105, w106, w107, w108, w109, w110)
  else
    bnd (G76x0x69065 N w0 w1 w2 w3 w8 (w8 == 7) w22 w24 w78 w79 w83 w84 w87 w88 w89 w90 w91 w92 w93 w94 w95 w96 w97 w98 w99 w100 w101 w102 w103 w104 w105 w106 w107 w108 w109 w110 w112 w113 w114 w115 w116) fun y0 =>
    bif (inlB y0) then
      k0 (inlV y0)
    else
      bif (inrQ y0).isSome then
        k1 ((inrQ y0).getD default)
      else
        none
noncomputable def G76x0x60056 (N : Nat) (w0 : Int) (w1 w2 : Bool) (w3 w8 : Int) (w9 : Bool) (w22 w24 : Int) (w78 : LB) (w79 w83 w84 w87 w88 w89 w90 w91 w92 w93 w94 w95 w96 w97 w98 w99 w100 w101 w102 w103 w104 w105 w106 w107 w108 w109 w110 w112 w113 w114 w115 : Int) (w116 : LB) : Option (Sum (Ty0) (Ty2)) := F76x0x60056 N w0 w1 w2 w3 w8 w9 w22 w24 w78 w79 w83 w84 w87 w88 w89 w90 w91 w92 w93 w94 w95 w96 w97 w98 w99 w100 w101 w102 w103 w104 w105 w106 w107 w108 w109 w110 w112 w113 w114 w115 w116 (fun p => some (.inl p)) (fun p => some (.inr p))
theorem bind76x0x60056 (N : Nat) {R : Type} (w0 : Int) (w1 w2 : Bool) (w3 w8 : Int) (w9 : Bool) (w22 w24 : Int) (w78 : LB) (w79 w83 w84 w87 w88 w89 w90 w91 w92 w93 w94 w95 w96 w97 w98 w99 w100 w101 w102 w103 w104 w105 w106 w107 w108 w109 w110 w112 w113 w114 w115 : Int) (w116 : LB) (k0 : Ty0 → Option R) (k1 : Ty2 → Option R) : F76x0x60056 N w0 w1 w2 w3 w8 w9 w22 w24 w78 w79 w83 w84 w87 w88 w89 w90 w91 w92 w93 w94 w95 w96 w97 w98 w99 w100 w101 w102 w103 w104 w105 w106 w107 w108 w109 w110 w112 w113 w114 w115 w116 k0 k1 = (G76x0x60056 N w0 w1 w2 w3 w8 w9 w22 w24 w78 w79 w83 w84 w87 w88 w89 w90 w91 w92 w93 w94 w95 w96 w97 w98 w99 w100 w101 w102 w103 w104 w105 w106 w107 w108 w109 w110 w112 w113 w114 w115 w116).bind (sumE k0 k1) := by
  unfold G76x0x60056 F76x0x60056
  repeat' (first | rfl | apply cond_b | (apply bnd_b; intro _))
noncomputable def J76x0x60056 (N : Nat) (L : List Lf) {R : Type} (k0 : Ty0 → Option R) (k1 : Ty2 → Option R) : Option R := F76x0x60056 N (li L 0) (lb L 1) (lb L 2) (li L 3) (li L 8) (lb L 9) (li L 22) (li L 24) (ls L 78) (li L 79) (li L 83) (li L 84) (li L 87) (li L 88) (li L 89) (li L 90) (li L 91) (li L 92) (li L 93) (li L 94) (li L 95) (li L 96) (li L 97) (li L 98) (li L 99) (li L 100) (li L 101) (li L 102) (li L 103) (li L 104) (li L 105) (li L 106) (li L 107) (li L 108) (li L 109) (li L 110) (li L 112) (li L 113) (li L 114) (li L 115) (ls L 116) k0 k1
noncomputable def sh76x0x60056 : Sh := { tmps := [(0, .c (.p 0 0)), (2, .c (.i .i64)), (4, .c (.p 6 0)), (6, .c (.p 8 0)), (8, .c (.p 10 0)), (9, .c (.p 11 0)), (10, .c (.b)), (11, .c (.b)), (12, .c (.i .i64)), (13, .c (.p 15 0)), (67, .c (.sl 68)), (68, .c (.i .i64)), (69, .c (.i .i64)), (75, .c (.i .i64)), (84, .c (.b))], mem := [(0, .box (.i .i64 :: .i .i64 :: [.i .i64, .sl 66, .sl 68, .sl 3, .sl 3, .m 1])), (1, .map 93 96), (6, .box (rI 28 ([]))), (8, .box (rI 28 ([]))), (10, .box ([.s, .i .i64, .i .i64, .i .i64, .b])), (11, .box (rI 28 ([]))), (15, .box (rI 5 ([.s])))] }
noncomputable def K76x0x60056w0 (L : List Lf) (p : Ty0) : Ex × St := let p1 := p.2; let p2 := p1.2; let p3 := p2.2; let p4 := p3.2; let p5 := p4.2; let p6 := p5.2; let p7 := p6.2; let p8 := p7.2; let p9 := p8.2; let p10 := p9.2; let p11 := p10.2; let p12 := p11.2; let p13 := p12.2; let p14 := p13.2; let p15 := p14.2; let p16 := p15.2; let p17 := p16.2; let p18 := p17.2; let p19 := p18.2; let p20 := p19.2; let p21 := p20.2; let p22 := p21.2; let p23 := p22.2; let p24 := p23.2; let p25 := p24.2; let p26 := p25.2; let p27 := p26.2; let p28 := p27.2; let p29 := p28.2; let p30 := p29.2; let p31 := p30.2; let p32 := p31.2; let p33 := p32.2; let p34 := p33.2; let p35 := p34.2; let p36 := p35.2; let p37 := p36.2; let p38 := p37.2; let p39 := p38.2; let p40 := p39.2; let p41 := p40.2; let p42 := p41.2; let p43 := p42.2; let p44 := p43.2; let p45 := p44.2; let p46 := p45.2; let p47 := p46.2; (.ret, ⟨[(6, .c (.p 8 0)), (7, .c (.b false)), (9, .c (.p 11 0))], [(0, .box [.i .i64 (li L 10), .i .i64 (li L 11), .i .i64 (li L 12), .sl 66 (lb L 13) (ll L 14), .sl 68 (lb L 15) (ll L 16), .sl 3 (lb L 17) (ll L 18), .sl 3 (lb L 19) (ll L 20), .m 1]), (1, .map 93 96 (lm L 21)), (6, .box (rL L 22 28 ([]))), (8, .box (rL L 83 4 ([.i .i64 p.1, .i .i64 p1.1, .i .i64 p2.1, .i .i64 p3.1, .i .i64 p4.1, .i .i64 p5.1, .i .i64 p6.1, .i .i64 p7.1, .i .i64 p8.1, .i .i64 p9.1, .i .i64 p10.1, .i .i64 p11.1, .i .i64 p12.1, .i .i64 p13.1, .i .i64 p14.1, .i .i64 p15.1, .i .i64 p16.1, .i .i64 p17.1, .i .i64 p18.1, .i .i64 p19.1, .i .i64 p20.1, .i .i64 p21.1, .i .i64 p22.1, .i .i64 p23.1]))), (10, .box [.s (ls L 78), .i .i64 (li L 79), .i .i64 (li L 80), .i .i64 (li L 81), .b (lb L 82)]), (11, .box (rL L 83 4 ([.i .i64 p24.1, .i .i64 p25.1, .i .i64 p26.1, .i .i64 p27.1, .i .i64 p28.1, .i .i64 p29.1, .i .i64 p30.1, .i .i64 p31.1, .i .i64 p32.1, .i .i64 p33.1, .i .i64 p34.1, .i .i64 p35.1, .i .i64 p36.1, .i .i64 p37.1, .i .i64 p38.1, .i .i64 p39.1, .i .i64 p40.1, .i .i64 p41.1, .i .i64 p42.1, .i .i64 p43.1, .i .i64 p44.1, .i .i64 p45.1, .i .i64 p46.1, .i .i64 p47])))]⟩)
noncomputable def K76x0x60056w1 (L : List Lf) (p : Ty2) : Ex × St := let p1 := p.2; let p2 := p1.2; let p3 := p2.2; let p4 := p3.2; let p5 := p4.2; let p6 := p5.2; let p7 := p6.2; let p8 := p7.2; let p9 := p8.2; let p10 := p9.2; let p11 := p10.2; let p12 := p11.2; let p13 := p12.2; let p14 := p13.2; let p15 := p14.2; let p16 := p15.2; let p17 := p16.2; let p18 := p17.2; let p19 := p18.2; let p20 := p19.2; let p21 := p20.2; let p22 := p21.2; let p23 := p22.2; (.normal, ⟨[(0, .c (.p 0 0)), (2, .c (.i .i64 (li L 0))), (4, .c (.p 6 0)), (6, .c (.p 8 0)), (8, .c (.p 10 0)), (9, .c (.p 11 0)), (10, .c (.b (lb L 1))), (11, .c (.b (lb L 2))), (67, .c (.sl 68 (lb L 4) (ll L 5))), (68, .c (.i .i64 (li L 6))), (69, .c (.i .i64 (li L 7)))], [(0, .box [.i .i64 (li L 10), .i .i64 (li L 11), .i .i64 (li L 12), .sl 66 (lb L 13) (ll L 14), .sl 68 (lb L 15) (ll L 16), .sl 3 (lb L 17) (ll L 18), .sl 3 (lb L 19) (ll L 20), .m 1]), (1, .map 93 96 (lm L 21)), (6, .box (rL L 22 28 ([]))), (8, .box (rL L 50 28 ([]))), (10, .box [.s (ls L 78), .i .i64 (li L 79), .i .i64 (li L 80), .i .i64 (li L 81), .b (lb L 82)]), (11, .box (rL L 83 4 ([.i .i64 p.1, .i .i64 p1.1, .i .i64 p2.1, .i .i64 p3.1, .i .i64 p4.1, .i .i64 p5.1, .i .i64 p6.1, .i .i64 p7.1, .i .i64 p8.1, .i .i64 p9.1, .i .i64 p10.1, .i .i64 p11.1, .i .i64 p12.1, .i .i64 p13.1, .i .i64 p14.1, .i .i64 p15.1, .i .i64 p16.1, .i .i64 p17.1, .i .i64 p18.1, .i .i64 p19.1, .i .i64 p20.1, .i .i64 p21.1, .i .i64 p22.1, .i .i64 p23])))]⟩)
noncomputable def A76x0x60056 (N : Nat) (L : List Lf) : List (Bool × (Ex × St)) := bnd (J76x0x60056 N L (fun p => some (.inl p)) (fun p => some (.inr p))) fun q => [((inlB q), K76x0x60056w0 L (inlV q)), ((inrQ q).isSome, K76x0x60056w1 L ((inrQ q).getD default))]
theorem raw76x0x60056 (N : Nat) (L : List Lf) : (exec Try.prog (T93x0 N) (h76x0s10 N) 2 100 (piece Try.prog 76 60056) (ofSh sh76x0x60056 L) (fun e st => some (e, cutSt [69, 68, 67, 9, 6, 11, 10, 4, 2, 8, 0, 7] [11, 8, 0, 1, 10, 6] st)) : Option (Ex × St)) = J76x0x60056 N L (fun p => some (K76x0x60056w0 L p)) (fun p => some (K76x0x60056w1 L p)) := by kernel_rfl
theorem one76x0x60056 : oneB Try.prog 76 60056 = true := by kernel_rfl
theorem law76x0x60056 (N : Nat) : CutLaw Try.prog 2 (piece Try.prog 76 60056) (loSh sh76x0x60056 (A76x0x60056 N)) :=
  law_sh progOk (T93x0_ok N) (al76x0s10 N) one76x0x60056 fun L x hx => (raw76x0x60056 N L).trans ((bind76x0x60056 N ..).trans ((altS alt1) x hx))
noncomputable def h76x0s11 (N : Nat) : Hint := { (h76x0s10 N) with los := (60056, loSh sh76x0x60056 (A76x0x60056 N)) :: (h76x0s10 N).los }
theorem al76x0s11 (N : Nat) : AllCuts Try.prog (h76x0s11 N).los 2 76 := AllCuts.cons (al76x0s10 N) one76x0x60056 (law76x0x60056 N)
noncomputable def F76x0x51047 (N : Nat) {R : Type} (w0 : Int) (w1 w2 : Bool) (w3 w8 : Int) (w9 : Bool) (w22 w24 : Int) (w78 : LB) (w79 w83 w84 w87 w88 w89 w90 w91 w92 w93 w94 w95 w96 w97 w98 w99 w100 w101 w102 w103 w104 w105 w106 w107 w108 w109 w110 w112 w113 w114 w115 : Int) (w116 : LB) (k0 : Ty0 → Option R) (k1 : Ty2 → Option R) : Option R :=
  bif w9 then
    bif (decide (w84 > w113)) then
      k0 (w87, w88, w89, w90, w91, w92, w93, w94, w95, w96, w97, w98, w99, w100, w101, w102, w103, w104, w105, w106, w107, w108, w109, w110, w87, w88, w89, w90, w91, w92, w93, w94, w95, w96, w97, w98, w99, w100, w101, w102, w103, w104, w105, w106, w107, w108, w109, w110)
    else
      k1 (w87, w88, w89, w90, w91, w92, w93, w94, w95, w96, w97, w98, w99, w100, w101, w102, w103, w104, w105, w106, w107, w108, w109, w110)
  else
    bnd (G76x0x60056 N w0 w1 w2 w3 w8 (w8 == 4) w22 w24 w78 w79 w83 w84 w87 w88 w89 w90 w91 w92 w93 w94 w95 w96 w97 w98 w99 w100 w101 w102 w103 w104 w105 w106 w107 w108 w109 w110 w112 w113 w114 w115 w116) fun y0 =>
    bif (inlB y0) then
      k0 (inlV y0)
    else
      bif (inrQ y0).isSome then
        k1 ((inrQ y0).getD default)
      else
        none
noncomputable def G76x0x51047 (N : Nat) (w0 : Int) (w1 w2 : Bool) (w3 w8 : Int) (w9 : Bool) (w22 w24 : Int) (w78 : LB) (w79 w83 w84 w87 w88 w89 w90 w91 w92 w93 w94 w95 w96 w97 w98 w99 w100 w101 w102 w103 w104 w105 w106 w107 w108 w109 w110 w112 w113 w114 w115 : Int) (w116 : LB) : Option (Sum (Ty0) (Ty2)) := F76x0x51047 N w0 w1 w2 w3 w8 w9 w22 w24 w78 w79 w83 w84 w87 w88 w89 w90 w91 w92 w93 w94 w95 w96 w97 w98 w99 w100 w101 w102 w103 w104 w105 w106 w107 w108 w109 w110 w112 w113 w114 w115 w116 (fun p => some (.inl p)) (fun p => some (.inr p))
theorem bind76x0x51047 (N : Nat) {R : Type} (w0 : Int) (w1 w2 : Bool) (w3 w8 : Int) (w9 : Bool) (w22 w24 : Int) (w78 : LB) (w79 w83 w84 w87 w88 w89 w90 w91 w92 w93 w94 w95 w96 w97 w98 w99 w100 w101 w102 w103 w104 w105 w106 w107 w108 w109 w110 w112 w113 w114 w115 : Int) (w116 : LB) (k0 : Ty0 → Option R) (k1 : Ty2 → Option R) : F76x0x51047 N w0 w1 w2 w3 w8 w9 w22 w24 w78 w79 w83 w84 w87 w88 w89 w90 w91 w92 w93 w94 w95 w96 w97 w98 w99 w100 w101 w102 w103 w104 w105 w106 w107 w108 w109 w110 w112 w113 w114 w115 w116 k0 k1 = (G76x0x51047 N w0 w1 w2 w3 w8 w9 w22 w24 w78 w79 w83 w84 w87 w88 w89 w90 w91 w92 w93 w94 w95 w96 w97 w98 w99 w100 w101 w102 w103 w104 w105 w106 w107 w108 w109 w110 w112 w113 w114 w115 w116).bind (sumE k0 k1) := by
  unfold G76x0x51047 F76x0x51047
  repeat' (first | rfl | apply cond_b | (apply bnd_b; intro _))
noncomputable def J76x0x51047 (N : Nat) (L : List Lf) {R : Type} (k0 : Ty0 → Option R) (k1 : Ty2 → Option R) : Option R := F76x0x51047 N (li L 0) (lb L 1) (lb L 2) (li L 3) (li L 8) (lb L 9) (li L 22) (li L 24) (ls L 78) (li L 79) (li L 83) (li L 84) (li L 87) (li L 88) (li L 89) (li L 90) (li L 91) (li L 92) (li L 93) (li L 94) (li L 95) (li L 96) (li L 97) (li L 98) (li L 99) (li L 100) (li L 101) (li L 102) (li L 103) (li L 104) (li L 105) (li L 106) (li L 107) (li L 108) (li L 109) (li L 110) (li L 112) (li L 113) (li L 114) (li L 115) (ls L 116) k0 k1
noncomputable def sh76x0x51047 : Sh := { tmps := [(0, .c (.p 0 0)), (2, .c (.i .i64)), (4, .c (.p 6 0)), (6, .c (.p 8 0)), (8, .c (.p 10 0)), (9, .c (.p 11 0)), (10, .c (.b)), (11, .c (.b)), (12, .c (.i .i64)), (13, .c (.p 15 0)), (67, .c (.sl 68)), (68, .c (.i .i64)), (69, .c (.i .i64)), (75, .c (.i .i64)), (76, .c (.b))], mem := [(0, .box (.i .i64 :: .i .i64 :: [.i .i64, .sl 66, .sl 68, .sl 3, .sl 3, .m 1])), (1, .map 93 96), (6, .box (rI 28 ([]))), (8, .box (rI 28 ([]))), (10, .box ([.s, .i .i64, .i .i64, .i .i64, .b])), (11, .box (rI 28 ([]))), (15, .box (rI 5 ([.s])))] }
noncomputable def K76x0x51047w0 (L : List Lf) (p : Ty0) : Ex × St := let p1 := p.2; let p2 := p1.2; let p3 := p2.2; let p4 := p3.2; let p5 := p4.2; let p6 := p5.2; let p7 := p6.2; let p8 := p7.2; let p9 := p8.2; let p10 := p9.2; let p11 := p10.2; let p12 := p11.2; let p13 := p12.2; let p14 := p13.2; let p15 := p14.2; let p16 := p15.2; let p17 := p16.2; let p18 := p17.2; let p19 := p18.2; let p20 := p19.2; let p21 := p20.2; let p22 := p21.2; let p23 := p22.2; let p24 := p23.2; let p25 := p24.2; let p26 := p25.2; let p27 := p26.2; let p28 := p27.2; let p29 := p28.2; let p30 := p29.2; let p31 := p30.2; let p32 := p31.2; let p33 := p32.2; let p34 := p33.2; let p35 := p34.2; let p36 := p35.2; let p37 := p36.2; let p38 := p37.2; let p39 := p38.2; let p40 := p39.2; let p41 := p40.2; let p42 := p41.2; let p43 := p42.2; let p44 := p43.2; let p45 := p44.2; let p46 := p45.2; let p47 := p46.2; (.ret, ⟨[(6, .c (.p 8 0)), (7, .c (.b false)), (9, .c (.p 11 0))], [(0, .box [.i .i64 (li L 10), .i .i64 (li L 11), .i .i64 (li L 12), .sl 66 (lb L 13) (ll L 14), .sl 68 (lb L 15) (ll L 16), .sl 3 (lb L 17) (ll L 18), .sl 3 (lb L 19) (ll L 20), .m 1]), (1, .map 93 96 (lm L 21)), (6, .box (rL L 22 28 ([]))), (8, .box (rL L 83 4 ([.i .i64 p.1, .i .i64 p1.1, .i .i64 p2.1, .i .i64 p3.1, .i .i64 p4.1, .i .i64 p5.1, .i .i64 p6.1, .i .i64 p7.1, .i .i64 p8.1, .i .i64 p9.1, .i .i64 p10.1, .i .i64 p11.1, .i .i64 p12.1, .i .i64 p13.1, .i .i64 p14.1, .i .i64 p15.1, .i .i64 p16.1, .i .i64 p17.1, .i .i64 p18.1, .i .i64 p19.1, .i .i64 p20.1, .i .i64 p21.1, .i .i64 p22.1, .i .i64 p23.1]))), (10, .box [.s (ls L 78), .i .i64 (li L 79), .i .i64 (li L 80), .i .i64 (li L 81), .b (lb L 82)]), (11, .box (rL L 83 4 ([.i .i64 p24.1, .i .i64 p25.1, .i .i64 p26.1, .i .i64 p27.1, .i .i64 p28.1, .i .i64 p29.1, .i .i64 p30.1, .i .i64 p31.1, .i .i64 p32.1, .i .i64 p33.1, .i .i64 p34.1, .i .i64 p35.1, .i .i64 p36.1, .i .i64 p37.1, .i .i64 p38.1, .i .i64 p39.1, .i .i64 p40.1, .i .i64 p41.1, .i .i64 p42.1, .i .i64 p43.1, .i .i64 p44.1, .i .i64 p45.1, .i .i64 p46.1, .i .i64 p47])))]⟩)
noncomputable def K76x0x51047w1 (L : List Lf) (p : Ty2) : Ex × St := let p1 := p.2; let p2 := p1.2; let p3 := p2.2; let p4 := p3.2; let p5 := p4.2; let p6 := p5.2; let p7 := p6.2; let p8 := p7.2; let p9 := p8.2; let p10 := p9.2; let p11 := p10.2; let p12 := p11.2; let p13 := p12.2; let p14 := p13.2; let p15 := p14.2; let p16 := p15.2; let p17 := p16.2; let p18 := p17.2; let p19 := p18.2; let p20 := p19.2; let p21 := p20.2; let p22 := p21.2; let p23 := p22.2; (.normal, ⟨[(0, .c (.p 0 0)), (2, .c (.i .i64 (li L 0))), (4, .c (.p 6 0)), (6, .c (.p 8 0)), (8, .c (.p 10 0)), (9, .c (.p 11 0)), (10, .c (.b (lb L 1))), (11, .c (.b (lb L 2))), (67, .c (.sl 68 (lb L 4) (ll L 5))), (68, .c (.i .i64 (li L 6))), (69, .c (.i .i64 (li L 7)))], [(0, .box [.i .i64 (li L 10), .i .i64 (li L 11), .i .i64 (li L 12), .sl 66 (lb L 13) (ll L 14), .sl 68 (lb L 15) (ll L 16), .sl 3 (lb L 17) (ll L 18), .sl 3 (lb L 19) (ll L 20), .m 1]), (1, .map 93 96 (lm L 21)), (6, .box (rL L 22 28 ([]))), (8, .box (rL L 50 28 ([]))), (10, .box [.s (ls L 78), .i .i64 (li L 79), .i .i64 (li L 80), .i .i64 (li L 81), .b (lb L 82)]), (11, .box (rL L 83 4 ([.i .i64 p.1, .i .i64 p1.1, .i .i64 p2.1, .i .i64 p3.1, .i .i64 p4.1, .i .i64 p5.1, .i .i64 p6.1, .i .i64 p7.1, .i .i64 p8.1, .i .i64 p9.1, .i .i64 p10.1, .i .i64 p11.1, .i .i64 p12.1, .i .i64 p13.1, .i .i64 p14.1, .i .i64 p15.1, .i .i64 p16.1, .i .i64 p17.1, .i .i64 p18.1, .i .i64 p19.1, .i .i64 p20.1, .i .i64 p21.1, .i .i64 p22.1, .i .i64 p23])))]⟩)
noncomputable def A76x0x51047 (N : Nat) (L : List Lf) : List (Bool × (Ex × St)) := bnd (J76x0x51047 N L (fun p => some (.inl p)) (fun p => some (.inr p))) fun q => [((inlB q), K76x0x51047w0 L (inlV q)), ((inrQ q).isSome, K76x0x51047w1 L ((inrQ q).getD default))]
theorem raw76x0x51047 (N : Nat) (L : List Lf) : (exec Try.prog (T93x0 N) (h76x0s11 N) 2 100 (piece Try.prog 76 51047) (ofSh sh76x0x51047 L) (fun e st => some (e, cutSt [69, 68, 67, 9, 6, 11, 10, 4, 2, 8, 0, 7] [11, 8, 0, 1, 10, 6] st)) : Option (Ex × St)) = J76x0x51047 N L (fun p => some (K76x0x51047w0 L p)) (fun p => some (K76x0x51047w1 L p)) := by kernel_rfl
theorem one76x0x51047 : oneB Try.prog 76 51047 = true := by kernel_rfl
theorem law76x0x51047 (N : Nat) : CutLaw Try.prog 2 (piece Try.prog 76 51047) (loSh sh76x0x51047 (A76x0x51047 N)) :=
  law_sh progOk (T93x0_ok N) (al76x0s11 N) one76x0x51047 fun L x hx => (raw76x0x51047 N L).trans ((bind76x0x51047 N ..).trans ((altS alt1) x hx))
noncomputable def h76x0s12 (N : Nat) : Hint := { (h76x0s11 N) with los := (51047, loSh sh76x0x51047 (A76x0x51047 N)) :: (h76x0s11 N).los }
theorem al76x0s12 (N : Nat) : AllCuts Try.prog (h76x0s12 N).los 2 76 := AllCuts.cons (al76x0s11 N) one76x0x51047 (law76x0x51047 N)
noncomputable def K76x0x33w0 (w7 w8 w9 : Int) (w10 : Bool) (w11 : LD) (w12 : Bool) (w13 : LD) (w14 : Bool) (w15 : LD) (w16 : Bool) (w17 : LD) (w18 : (List (D × D))) (w80 w81 w82 w83 : Int) (p : Ty0) : Ex × St := let p1 := p.2; let p2 := p1.2; let p3 := p2.2; let p4 := p3.2; let p5 := p4.2; let p6 := p5.2; let p7 := p6.2; let p8 := p7.2; let p9 := p8.2; let p10 := p9.2; let p11 := p10.2; let p12 := p11.2; let p13 := p12.2; let p14 := p13.2; let p15 := p14.2; let p16 := p15.2; let p17 := p16.2; let p18 := p17.2; let p19 := p18.2; let p20 := p19.2; let p21 := p20.2; let p22 := p21.2; let p23 := p22.2; let p24 := p23.2; let p25 := p24.2; let p26 := p25.2; let p27 := p26.2; let p28 := p27.2; let p29 := p28.2; let p30 := p29.2; let p31 := p30.2; let p32 := p31.2; let p33 := p32.2; let p34 := p33.2; let p35 := p34.2; let p36 := p35.2; let p37 := p36.2; let p38 := p37.2; let p39 := p38.2; let p40 := p39.2; let p41 := p40.2; let p42 := p41.2; let p43 := p42.2; let p44 := p43.2; let p45 := p44.2; let p46 := p45.2; let p47 := p46.2; (.ret, ⟨[(6, .c (.p 8 0)), (7, .c (.b false)), (9, .c (.p 11 0))], [(0, .box [.i .i64 w7, .i .i64 w8, .i .i64 w9, .sl 66 w10 w11, .sl 68 w12 w13, .sl 3 w14 w15, .sl 3 w16 w17, .m 1]), (1, .map 93 96 w18), (8, .box [.i .i64 w80, .i .i64 w81, .i .i64 w82, .i .i64 w83, .i .i64 p.1, .i .i64 p1.1, .i .i64 p2.1, .i .i64 p3.1, .i .i64 p4.1, .i .i64 p5.1, .i .i64 p6.1, .i .i64 p7.1, .i .i64 p8.1, .i .i64 p9.1, .i .i64 p10.1, .i .i64 p11.1, .i .i64 p12.1, .i .i64 p13.1, .i .i64 p14.1, .i .i64 p15.1, .i .i64 p16.1, .i .i64 p17.1, .i .i64 p18.1, .i .i64 p19.1, .i .i64 p20.1, .i .i64 p21.1, .i .i64 p22.1, .i .i64 p23.1]), (11, .box [.i .i64 w80, .i .i64 w81, .i .i64 w82, .i .i64 w83, .i .i64 p24.1, .i .i64 p25.1, .i .i64 p26.1, .i .i64 p27.1, .i .i64 p28.1, .i .i64 p29.1, .i .i64 p30.1, .i .i64 p31.1, .i .i64 p32.1, .i .i64 p33.1, .i .i64 p34.1, .i .i64 p35.1, .i .i64 p36.1, .i .i64 p37.1, .i .i64 p38.1, .i .i64 p39.1, .i .i64 p40.1, .i .i64 p41.1, .i .i64 p42.1, .i .i64 p43.1, .i .i64 p44.1, .i .i64 p45.1, .i .i64 p46.1, .i .i64 p47])]⟩)
noncomputable def K76x0x33w1 (w2 : Bool) (w7 w8 w9 : Int) (w10 : Bool) (w11 : LD) (w12 : Bool) (w13 : LD) (w14 : Bool) (w15 : LD) (w16 : Bool) (w17 : LD) (w18 : (List (D × D))) (w47 w48 w49 w50 w51 w52 w53 w54 w55 w56 w57 w58 w59 w60 w61 w62 w63 w64 w65 w66 w67 w68 w69 w70 w71 w72 w73 w74 w80 w81 w82 w83 : Int) (p : Ty2) : Ex × St := let p1 := p.2; let p2 := p1.2; let p3 := p2.2; let p4 := p3.2; let p5 := p4.2; let p6 := p5.2; let p7 := p6.2; let p8 := p7.2; let p9 := p8.2; let p10 := p9.2; let p11 := p10.2; let p12 := p11.2; let p13 := p12.2; let p14 := p13.2; let p15 := p14.2; let p16 := p15.2; let p17 := p16.2; let p18 := p17.2; let p19 := p18.2; let p20 := p19.2; let p21 := p20.2; let p22 := p21.2; let p23 := p22.2; ((.exit 0), ⟨[(0, .c (.p 0 0)), (6, .c (.p 8 0)), (9, .c (.p 11 0)), (11, .c (.b w2))], [(0, .box [.i .i64 w7, .i .i64 w8, .i .i64 w9, .sl 66 w10 w11, .sl 68 w12 w13, .sl 3 w14 w15, .sl 3 w16 w17, .m 1]), (1, .map 93 96 w18), (8, .box [.i .i64 w47, .i .i64 w48, .i .i64 w49, .i .i64 w50, .i .i64 w51, .i .i64 w52, .i .i64 w53, .i .i64 w54, .i .i64 w55, .i .i64 w56, .i .i64 w57, .i .i64 w58, .i .i64 w59, .i .i64 w60, .i .i64 w61, .i .i64 w62, .i .i64 w63, .i .i64 w64, .i .i64 w65, .i .i64 w66, .i .i64 w67, .i .i64 w68, .i .i64 w69, .i .i64 w70, .i .i64 w71, .i .i64 w72, .i .i64 w73, .i .i64 w74]), (11, .box [.i .i64 w80, .i .i64 w81, .i .i64 w82, .i .i64 w83, .i .i64 p.1, .i .i64 p1.1, .i .i64 p2.1, .i .i64 p3.1, .i .i64 p4.1, .i .i64 p5.1, .i .i64 p6.1, .i .i64 p7.1, .i .i64 p8.1, .i .i64 p9.1, .i .i64 p10.1, .i .i64 p11.1, .i .i64 p12.1, .i .i64 p13.1, .i .i64 p14.1, .i .i64 p15.1, .i .i64 p16.1, .i .i64 p17.1, .i .i64 p18.1, .i .i64 p19.1, .i .i64 p20.1, .i .i64 p21.1, .i .i64 p22.1, .i .i64 p23])]⟩)
end Go.Proofs.Ytefmjfcdgadggaa
