/- Functions of the program as plain Lean definitions, each with the proof that the program computes it. No condition. Printed by a program of the prover, part 3. -/
import Derived.Test.YtefmjfcdgadggaaG5p2
import Derived.KernelRfl
set_option linter.all false
set_option maxRecDepth 100000
namespace Go.Proofs.Ytefmjfcdgadggaa
open Go Go.AM
noncomputable def P76x0x33 (w0 : Int) (w1 w2 w3 : Bool) (w4 : LD) (w5 w6 w7 w8 w9 : Int) (w10 : Bool) (w11 : LD) (w12 : Bool) (w13 : LD) (w14 : Bool) (w15 : LD) (w16 : Bool) (w17 : LD) (w18 : (List (D × D))) (w19 w20 w21 w22 w23 w24 w25 w26 w27 w28 w29 w30 w31 w32 w33 w34 w35 w36 w37 w38 w39 w40 w41 w42 w43 w44 w45 w46 w47 w48 w49 w50 w51 w52 w53 w54 w55 w56 w57 w58 w59 w60 w61 w62 w63 w64 w65 w66 w67 w68 w69 w70 w71 w72 w73 w74 : Int) (w75 : LB) (w76 w77 w78 : Int) (w79 : Bool) (w80 w81 w82 w83 w84 w85 w86 w87 w88 w89 w90 w91 w92 w93 w94 w95 w96 w97 w98 w99 w100 w101 w102 w103 w104 w105 w106 w107 : Int) : St := ⟨[(0, .c (.p 0 0)), (2, .c (.i .i64 w0)), (4, .c (.p 6 0)), (6, .c (.p 8 0)), (8, .c (.p 10 0)), (9, .c (.p 11 0)), (10, .c (.b w1)), (11, .c (.b w2)), (67, .c (.sl 68 w3 w4)), (68, .c (.i .i64 w5)), (69, .c (.i .i64 w6))], [(0, .box [.i .i64 w7, .i .i64 w8, .i .i64 w9, .sl 66 w10 w11, .sl 68 w12 w13, .sl 3 w14 w15, .sl 3 w16 w17, .m 1]), (1, .map 93 96 w18), (6, .box [.i .i64 w19, .i .i64 w20, .i .i64 w21, .i .i64 w22, .i .i64 w23, .i .i64 w24, .i .i64 w25, .i .i64 w26, .i .i64 w27, .i .i64 w28, .i .i64 w29, .i .i64 w30, .i .i64 w31, .i .i64 w32, .i .i64 w33, .i .i64 w34, .i .i64 w35, .i .i64 w36, .i .i64 w37, .i .i64 w38, .i .i64 w39, .i .i64 w40, .i .i64 w41, .i .i64 w42, .i .i64 w43, .i .i64 w44, .i .i64 w45, .i .i64 w46]), (8, .box [.i .i64 w47, .i .i64 w48, .i .i64 w49, .i .i64 w50, .i .i64 w51, .i .i64 w52, .i .i64 w53, .i .i64 w54, .i .i64 w55, .i .i64 w56, .i .i64 w57, .i .i64 w58, .i .i64 w59, .i .i64 w60, .i .i64 w61, .i .i64 w62, .i .i64 w63, .i .i64 w64, .i .i64 w65, .i .i64 w66, .i .i64 w67, .i .i64 w68, .i .i64 w69, .i .i64 w70, .i .i64 w71, .i .i64 w72, .i .i64 w73, .i .i64 w74]), (10, .box [.s w75, .i .i64 w76, .i .i64 w77, .i .i64 w78, .b w79]), (11, .box [.i .i64 w80, .i .i64 w81, .i .i64 w82, .i .i64 w83, .i .i64 w84, .i .i64 w85, .i .i64 w86, .i .i64 w87, .i .i64 w88, .i .i64 w89, .i .i64 w90, .i .i64 w91, .i .i64 w92, .i .i64 w93, .i .i64 w94, .i .i64 w95, .i .i64 w96, .i .i64 w97, .i .i64 w98, .i .i64 w99, .i .i64 w100, .i .i64 w101, .i .i64 w102, .i .i64 w103, .i .i64 w104, .i .i64 w105, .i .i64 w106, .i .i64 w107])]⟩
noncomputable def S76x0x33 (N : Nat) {R : Type} (w0 : Int) (w1 w2 : Bool) (w4 : LD) (w5 w19 w21 : Int) (w75 : LB) (w76 w80 w81 : Int) (w6 w84 w85 w86 w87 w88 w89 w90 w91 w92 w93 w94 w95 w96 w97 w98 w99 w100 w101 w102 w103 w104 w105 w106 w107 : Int) (kr : Int → Int → Int → Int → Int → Int → Int → Int → Int → Int → Int → Int → Int → Int → Int → Int → Int → Int → Int → Int → Int → Int → Int → Int → Int → Option R) (k0 : Ty0 → Option R) (k1 : Ty2 → Option R) : Option R :=
  bif (decide (w6 < w5)) then
    bif (inB w6 w4.length) then
      bnd (G76x0x51047 N w0 w1 w2 w6 ((w4.getD w6.toNat (.i 0)).cell 0).toI (((w4.getD w6.toNat (.i 0)).cell 0).toI == 3) w19 w21 w75 w76 w80 w81 w84 w85 w86 w87 w88 w89 w90 w91 w92 w93 w94 w95 w96 w97 w98 w99 w100 w101 w102 w103 w104 w105 w106 w107 ((w4.getD w6.toNat (.i 0)).cell 1).toI ((w4.getD w6.toNat (.i 0)).cell 2).toI ((w4.getD w6.toNat (.i 0)).cell 3).toI ((w4.getD w6.toNat (.i 0)).cell 4).toI ((w4.getD w6.toNat (.i 0)).cell 5).toS) fun y0 =>
      bif (inlB y0) then
        k0 (inlV y0)
      else
        bif (inrQ y0).isSome then
          kr (IntKind.wrap .i64 (w6 + 1)) ((inrQ y0).getD default).1 ((inrQ y0).getD default).2.1 ((inrQ y0).getD default).2.2.1 ((inrQ y0).getD default).2.2.2.1 ((inrQ y0).getD default).2.2.2.2.1 ((inrQ y0).getD default).2.2.2.2.2.1 ((inrQ y0).getD default).2.2.2.2.2.2.1 ((inrQ y0).getD default).2.2.2.2.2.2.2.1 ((inrQ y0).getD default).2.2.2.2.2.2.2.2.1 ((inrQ y0).getD default).2.2.2.2.2.2.2.2.2.1 ((inrQ y0).getD default).2.2.2.2.2.2.2.2.2.2.1 ((inrQ y0).getD default).2.2.2.2.2.2.2.2.2.2.2.1 ((inrQ y0).getD default).2.2.2.2.2.2.2.2.2.2.2.2.1 ((inrQ y0).getD default).2.2.2.2.2.2.2.2.2.2.2.2.2.1 ((inrQ y0).getD default).2.2.2.2.2.2.2.2.2.2.2.2.2.2.1 ((inrQ y0).getD default).2.2.2.2.2.2.2.2.2.2.2.2.2.2.2.1 ((inrQ y0).getD default).2.2.2.2.2.2.2.2.2.2.2.2.2.2.2.2.1 ((inrQ y0).getD default).2.2.2.2.2.2.2.2.2.2.2.2.2.2.2.2.2.1 ((inrQ y0).getD default).2.2.2.2.2.2.2.2.2.2.2.2.2.2.2.2.2.2.1 ((inrQ y0).getD default).2.2.2.2.2.2.2.2.2.2.2.2.2.2.2.2.2.2.2.1 ((inrQ y0).getD default).2.2.2.2.2.2.2.2.2.2.2.2.2.2.2.2.2.2.2.2.1 ((inrQ y0).getD default).2.2.2.2.2.2.2.2.2.2.2.2.2.2.2.2.2.2.2.2.2.1 ((inrQ y0).getD default).2.2.2.2.2.2.2.2.2.2.2.2.2.2.2.2.2.2.2.2.2.2.1 ((inrQ y0).getD default).2.2.2.2.2.2.2.2.2.2.2.2.2.2.2.2.2.2.2.2.2.2.2
        else
          none
    else
      none
  else
    k1 (w84, w85, w86, w87, w88, w89, w90, w91, w92, w93, w94, w95, w96, w97, w98, w99, w100, w101, w102, w103, w104, w105, w106, w107)
theorem mono76x0x33 (N : Nat) {R : Type} (w0 : Int) (w1 w2 : Bool) (w4 : LD) (w5 w19 w21 : Int) (w75 : LB) (w76 w80 w81 : Int) (w6 w84 w85 w86 w87 w88 w89 w90 w91 w92 w93 w94 w95 w96 w97 w98 w99 w100 w101 w102 w103 w104 w105 w106 w107 : Int) {kr kr' : Int → Int → Int → Int → Int → Int → Int → Int → Int → Int → Int → Int → Int → Int → Int → Int → Int → Int → Int → Int → Int → Int → Int → Int → Int → Option R} (k0 : Ty0 → Option R) (k1 : Ty2 → Option R) {r : R} (hk : ∀ w6' w84' w85' w86' w87' w88' w89' w90' w91' w92' w93' w94' w95' w96' w97' w98' w99' w100' w101' w102' w103' w104' w105' w106' w107', kr w6' w84' w85' w86' w87' w88' w89' w90' w91' w92' w93' w94' w95' w96' w97' w98' w99' w100' w101' w102' w103' w104' w105' w106' w107' = some r → kr' w6' w84' w85' w86' w87' w88' w89' w90' w91' w92' w93' w94' w95' w96' w97' w98' w99' w100' w101' w102' w103' w104' w105' w106' w107' = some r) : S76x0x33 N w0 w1 w2 w4 w5 w19 w21 w75 w76 w80 w81 w6 w84 w85 w86 w87 w88 w89 w90 w91 w92 w93 w94 w95 w96 w97 w98 w99 w100 w101 w102 w103 w104 w105 w106 w107 kr k0 k1 = some r → S76x0x33 N w0 w1 w2 w4 w5 w19 w21 w75 w76 w80 w81 w6 w84 w85 w86 w87 w88 w89 w90 w91 w92 w93 w94 w95 w96 w97 w98 w99 w100 w101 w102 w103 w104 w105 w106 w107 kr' k0 k1 = some r := by
  unfold S76x0x33
  repeat' (first | exact hk _ _ _ _ _ _ _ _ _ _ _ _ _ _ _ _ _ _ _ _ _ _ _ _ _ | exact fun h => h | apply cond_mono | (apply bnd_mono; intro _))
noncomputable def L76x0x33 (N : Nat) {R : Type} (w0 : Int) (w1 w2 : Bool) (w4 : LD) (w5 w19 w21 : Int) (w75 : LB) (w76 w80 w81 : Int) : Nat → Int → Int → Int → Int → Int → Int → Int → Int → Int → Int → Int → Int → Int → Int → Int → Int → Int → Int → Int → Int → Int → Int → Int → Int → Int → (Ty0 → Option R) → (Ty2 → Option R) → Option R
  | 0, _, _, _, _, _, _, _, _, _, _, _, _, _, _, _, _, _, _, _, _, _, _, _, _, _, _, _ => none
  | m + 1, w6, w84, w85, w86, w87, w88, w89, w90, w91, w92, w93, w94, w95, w96, w97, w98, w99, w100, w101, w102, w103, w104, w105, w106, w107, k0, k1 => S76x0x33 N w0 w1 w2 w4 w5 w19 w21 w75 w76 w80 w81 w6 w84 w85 w86 w87 w88 w89 w90 w91 w92 w93 w94 w95 w96 w97 w98 w99 w100 w101 w102 w103 w104 w105 w106 w107 (fun w6 w84 w85 w86 w87 w88 w89 w90 w91 w92 w93 w94 w95 w96 w97 w98 w99 w100 w101 w102 w103 w104 w105 w106 w107 => L76x0x33 N w0 w1 w2 w4 w5 w19 w21 w75 w76 w80 w81 m w6 w84 w85 w86 w87 w88 w89 w90 w91 w92 w93 w94 w95 w96 w97 w98 w99 w100 w101 w102 w103 w104 w105 w106 w107 k0 k1) k0 k1
theorem lp76x0x33 : piece Try.prog 76 33 = .loop (loopB (piece Try.prog 76 33)) := by kernel_rfl
theorem nl76x0x33 (N : Nat) : lawOf (h76x0s12 N) (.loop (loopB (piece Try.prog 76 33))) = none := by kernel_rfl
theorem cl76x0x33 (N : Nat) (w0 : Int) (w1 w2 w3 : Bool) (w4 : LD) (w5 w7 w8 w9 : Int) (w10 : Bool) (w11 : LD) (w12 : Bool) (w13 : LD) (w14 : Bool) (w15 : LD) (w16 : Bool) (w17 : LD) (w18 : (List (D × D))) (w19 w20 w21 w22 w23 w24 w25 w26 w27 w28 w29 w30 w31 w32 w33 w34 w35 w36 w37 w38 w39 w40 w41 w42 w43 w44 w45 w46 w47 w48 w49 w50 w51 w52 w53 w54 w55 w56 w57 w58 w59 w60 w61 w62 w63 w64 w65 w66 w67 w68 w69 w70 w71 w72 w73 w74 : Int) (w75 : LB) (w76 w77 w78 : Int) (w79 : Bool) (w80 w81 w82 w83 : Int) (w6 w84 w85 w86 w87 w88 w89 w90 w91 w92 w93 w94 w95 w96 w97 w98 w99 w100 w101 w102 w103 w104 w105 w106 w107 : Int) : clearSt Try.prog 2 (h76x0s12 N).loops 33 (P76x0x33 w0 w1 w2 w3 w4 w5 w6 w7 w8 w9 w10 w11 w12 w13 w14 w15 w16 w17 w18 w19 w20 w21 w22 w23 w24 w25 w26 w27 w28 w29 w30 w31 w32 w33 w34 w35 w36 w37 w38 w39 w40 w41 w42 w43 w44 w45 w46 w47 w48 w49 w50 w51 w52 w53 w54 w55 w56 w57 w58 w59 w60 w61 w62 w63 w64 w65 w66 w67 w68 w69 w70 w71 w72 w73 w74 w75 w76 w77 w78 w79 w80 w81 w82 w83 w84 w85 w86 w87 w88 w89 w90 w91 w92 w93 w94 w95 w96 w97 w98 w99 w100 w101 w102 w103 w104 w105 w106 w107) = (P76x0x33 w0 w1 w2 w3 w4 w5 w6 w7 w8 w9 w10 w11 w12 w13 w14 w15 w16 w17 w18 w19 w20 w21 w22 w23 w24 w25 w26 w27 w28 w29 w30 w31 w32 w33 w34 w35 w36 w37 w38 w39 w40 w41 w42 w43 w44 w45 w46 w47 w48 w49 w50 w51 w52 w53 w54 w55 w56 w57 w58 w59 w60 w61 w62 w63 w64 w65 w66 w67 w68 w69 w70 w71 w72 w73 w74 w75 w76 w77 w78 w79 w80 w81 w82 w83 w84 w85 w86 w87 w88 w89 w90 w91 w92 w93 w94 w95 w96 w97 w98 w99 w100 w101 w102 w103 w104 w105 w106 w107) := by kernel_rfl
theorem step76x0x33 (N : Nat) (m : Nat) (kn : St → Option (Ex × St)) (w0 : Int) (w1 w2 w3 : Bool) (w4 : LD) (w5 w7 w8 w9 : Int) (w10 : Bool) (w11 : LD) (w12 : Bool) (w13 : LD) (w14 : Bool) (w15 : LD) (w16 : Bool) (w17 : LD) (w18 : (List (D × D))) (w19 w20 w21 w22 w23 w24 w25 w26 w27 w28 w29 w30 w31 w32 w33 w34 w35 w36 w37 w38 w39 w40 w41 w42 w43 w44 w45 w46 w47 w48 w49 w50 w51 w52 w53 w54 w55 w56 w57 w58 w59 w60 w61 w62 w63 w64 w65 w66 w67 w68 w69 w70 w71 w72 w73 w74 : Int) (w75 : LB) (w76 w77 w78 : Int) (w79 : Bool) (w80 w81 w82 w83 : Int) (w6 w84 w85 w86 w87 w88 w89 w90 w91 w92 w93 w94 w95 w96 w97 w98 w99 w100 w101 w102 w103 w104 w105 w106 w107 : Int) : exec Try.prog (T93x0 N) (h76x0s12 N) 2 (m + 100) (loopB (piece Try.prog 76 33)) (P76x0x33 w0 w1 w2 w3 w4 w5 w6 w7 w8 w9 w10 w11 w12 w13 w14 w15 w16 w17 w18 w19 w20 w21 w22 w23 w24 w25 w26 w27 w28 w29 w30 w31 w32 w33 w34 w35 w36 w37 w38 w39 w40 w41 w42 w43 w44 w45 w46 w47 w48 w49 w50 w51 w52 w53 w54 w55 w56 w57 w58 w59 w60 w61 w62 w63 w64 w65 w66 w67 w68 w69 w70 w71 w72 w73 w74 w75 w76 w77 w78 w79 w80 w81 w82 w83 w84 w85 w86 w87 w88 w89 w90 w91 w92 w93 w94 w95 w96 w97 w98 w99 w100 w101 w102 w103 w104 w105 w106 w107) (reK (fun st => kn (clearSt Try.prog 2 (h76x0s12 N).loops 33 st)) (fun e st => some (e, cutSt [6, 7, 11, 9, 0] [11, 8, 0, 1] st))) = S76x0x33 N w0 w1 w2 w4 w5 w19 w21 w75 w76 w80 w81 w6 w84 w85 w86 w87 w88 w89 w90 w91 w92 w93 w94 w95 w96 w97 w98 w99 w100 w101 w102 w103 w104 w105 w106 w107 (fun w6 w84 w85 w86 w87 w88 w89 w90 w91 w92 w93 w94 w95 w96 w97 w98 w99 w100 w101 w102 w103 w104 w105 w106 w107 => kn (P76x0x33 w0 w1 w2 w3 w4 w5 w6 w7 w8 w9 w10 w11 w12 w13 w14 w15 w16 w17 w18 w19 w20 w21 w22 w23 w24 w25 w26 w27 w28 w29 w30 w31 w32 w33 w34 w35 w36 w37 w38 w39 w40 w41 w42 w43 w44 w45 w46 w47 w48 w49 w50 w51 w52 w53 w54 w55 w56 w57 w58 w59 w60 w61 w62 w63 w64 w65 w66 w67 w68 w69 w70 w71 w72 w73 w74 w75 w76 w77 w78 w79 w80 w81 w82 w83 w84 w85 w86 w87 w88 w89 w90 w91 w92 w93 w94 w95 w96 w97 w98 w99 w100 w101 w102 w103 w104 w105 w106 w107)) (fun p => some (K76x0x33w0 w7 w8 w9 w10 w11 w12 w13 w14 w15 w16 w17 w18 w80 w81 w82 w83 p)) (fun p => some (K76x0x33w1 w2 w7 w8 w9 w10 w11 w12 w13 w14 w15 w16 w17 w18 w47 w48 w49 w50 w51 w52 w53 w54 w55 w56 w57 w58 w59 w60 w61 w62 w63 w64 w65 w66 w67 w68 w69 w70 w71 w72 w73 w74 w80 w81 w82 w83 p)) := by kernel_rfl
theorem run76x0x33 (N : Nat) (w0 : Int) (w1 w2 w3 : Bool) (w4 : LD) (w5 w7 w8 w9 : Int) (w10 : Bool) (w11 : LD) (w12 : Bool) (w13 : LD) (w14 : Bool) (w15 : LD) (w16 : Bool) (w17 : LD) (w18 : (List (D × D))) (w19 w20 w21 w22 w23 w24 w25 w26 w27 w28 w29 w30 w31 w32 w33 w34 w35 w36 w37 w38 w39 w40 w41 w42 w43 w44 w45 w46 w47 w48 w49 w50 w51 w52 w53 w54 w55 w56 w57 w58 w59 w60 w61 w62 w63 w64 w65 w66 w67 w68 w69 w70 w71 w72 w73 w74 : Int) (w75 : LB) (w76 w77 w78 : Int) (w79 : Bool) (w80 w81 w82 w83 : Int) : ∀ (m : Nat) (w6 w84 w85 w86 w87 w88 w89 w90 w91 w92 w93 w94 w95 w96 w97 w98 w99 w100 w101 w102 w103 w104 w105 w106 w107 : Int) (x : Ex × St), L76x0x33 N w0 w1 w2 w4 w5 w19 w21 w75 w76 w80 w81 m w6 w84 w85 w86 w87 w88 w89 w90 w91 w92 w93 w94 w95 w96 w97 w98 w99 w100 w101 w102 w103 w104 w105 w106 w107 (fun p => some (K76x0x33w0 w7 w8 w9 w10 w11 w12 w13 w14 w15 w16 w17 w18 w80 w81 w82 w83 p)) (fun p => some (K76x0x33w1 w2 w7 w8 w9 w10 w11 w12 w13 w14 w15 w16 w17 w18 w47 w48 w49 w50 w51 w52 w53 w54 w55 w56 w57 w58 w59 w60 w61 w62 w63 w64 w65 w66 w67 w68 w69 w70 w71 w72 w73 w74 w80 w81 w82 w83 p)) = some x → exec Try.prog (T93x0 N) (h76x0s12 N) 2 (m + 101) (.loop (loopB (piece Try.prog 76 33))) (P76x0x33 w0 w1 w2 w3 w4 w5 w6 w7 w8 w9 w10 w11 w12 w13 w14 w15 w16 w17 w18 w19 w20 w21 w22 w23 w24 w25 w26 w27 w28 w29 w30 w31 w32 w33 w34 w35 w36 w37 w38 w39 w40 w41 w42 w43 w44 w45 w46 w47 w48 w49 w50 w51 w52 w53 w54 w55 w56 w57 w58 w59 w60 w61 w62 w63 w64 w65 w66 w67 w68 w69 w70 w71 w72 w73 w74 w75 w76 w77 w78 w79 w80 w81 w82 w83 w84 w85 w86 w87 w88 w89 w90 w91 w92 w93 w94 w95 w96 w97 w98 w99 w100 w101 w102 w103 w104 w105 w106 w107) (fun e st => some (e, cutSt [6, 7, 11, 9, 0] [11, 8, 0, 1] st)) = some x := by
  intro m
  induction m with
  | zero => intro w6 w84 w85 w86 w87 w88 w89 w90 w91 w92 w93 w94 w95 w96 w97 w98 w99 w100 w101 w102 w103 w104 w105 w106 w107 x h; cases h
  | succ m ih =>
    intro w6 w84 w85 w86 w87 w88 w89 w90 w91 w92 w93 w94 w95 w96 w97 w98 w99 w100 w101 w102 w103 w104 w105 w106 w107 x h
    exact loop_round (n := m + 101) (nl76x0x33 N) (by kernel_rfl) (cl76x0x33 N ..) (fun kn => step76x0x33 N (m + 1) kn ..) (mono76x0x33 N _ _ _ _ _ _ _ _ _ _ _ _ _ _ _ _ _ _ _ _ _ _ _ _ _ _ _ _ _ _ _ _ _ _ _ _ _ _ (fun w6 w84 w85 w86 w87 w88 w89 w90 w91 w92 w93 w94 w95 w96 w97 w98 w99 w100 w101 w102 w103 w104 w105 w106 w107 => ih w6 w84 w85 w86 w87 w88 w89 w90 w91 w92 w93 w94 w95 w96 w97 w98 w99 w100 w101 w102 w103 w104 w105 w106 w107 x) h)
noncomputable def G76x0x33 (N : Nat) (w0 : Int) (w1 w2 : Bool) (w4 : LD) (w5 w19 w21 : Int) (w75 : LB) (w76 w80 w81 : Int) (w6 w84 w85 w86 w87 w88 w89 w90 w91 w92 w93 w94 w95 w96 w97 w98 w99 w100 w101 w102 w103 w104 w105 w106 w107 : Int) : Option (Sum (Ty0) (Ty2)) := L76x0x33 N (R := (Sum (Ty0) (Ty2))) w0 w1 w2 w4 w5 w19 w21 w75 w76 w80 w81 N w6 w84 w85 w86 w87 w88 w89 w90 w91 w92 w93 w94 w95 w96 w97 w98 w99 w100 w101 w102 w103 w104 w105 w106 w107 (fun p => some (.inl p)) (fun p => some (.inr p))
theorem sb76x0x33 (N : Nat) {R A : Type} (w0 : Int) (w1 w2 : Bool) (w4 : LD) (w5 w19 w21 : Int) (w75 : LB) (w76 w80 w81 : Int) (w6 w84 w85 w86 w87 w88 w89 w90 w91 w92 w93 w94 w95 w96 w97 w98 w99 w100 w101 w102 w103 w104 w105 w106 w107 : Int) (kr : Int → Int → Int → Int → Int → Int → Int → Int → Int → Int → Int → Int → Int → Int → Int → Int → Int → Int → Int → Int → Int → Int → Int → Int → Int → Option R) (kr' : Int → Int → Int → Int → Int → Int → Int → Int → Int → Int → Int → Int → Int → Int → Int → Int → Int → Int → Int → Int → Int → Int → Int → Int → Int → Option A) (k0 : Ty0 → Option R) (k1 : Ty2 → Option R) (j0 : Ty0 → Option A) (j1 : Ty2 → Option A) (K : A → Option R) (hr : ∀ w6' w84' w85' w86' w87' w88' w89' w90' w91' w92' w93' w94' w95' w96' w97' w98' w99' w100' w101' w102' w103' w104' w105' w106' w107', kr w6' w84' w85' w86' w87' w88' w89' w90' w91' w92' w93' w94' w95' w96' w97' w98' w99' w100' w101' w102' w103' w104' w105' w106' w107' = (kr' w6' w84' w85' w86' w87' w88' w89' w90' w91' w92' w93' w94' w95' w96' w97' w98' w99' w100' w101' w102' w103' w104' w105' w106' w107').bind K) (h0 : ∀ p, k0 p = (j0 p).bind K) (h1 : ∀ p, k1 p = (j1 p).bind K) : S76x0x33 N w0 w1 w2 w4 w5 w19 w21 w75 w76 w80 w81 w6 w84 w85 w86 w87 w88 w89 w90 w91 w92 w93 w94 w95 w96 w97 w98 w99 w100 w101 w102 w103 w104 w105 w106 w107 kr k0 k1 = (S76x0x33 N w0 w1 w2 w4 w5 w19 w21 w75 w76 w80 w81 w6 w84 w85 w86 w87 w88 w89 w90 w91 w92 w93 w94 w95 w96 w97 w98 w99 w100 w101 w102 w103 w104 w105 w106 w107 kr' j0 j1).bind K := by
  unfold S76x0x33
  repeat' (first | rfl | apply hr | apply h0 | apply h1 | apply cond_b | (apply bnd_b; intro _))
theorem lbind76x0x33 (N : Nat) {R : Type} (w0 : Int) (w1 w2 : Bool) (w4 : LD) (w5 w19 w21 : Int) (w75 : LB) (w76 w80 w81 : Int) : ∀ (m : Nat) (w6 w84 w85 w86 w87 w88 w89 w90 w91 w92 w93 w94 w95 w96 w97 w98 w99 w100 w101 w102 w103 w104 w105 w106 w107 : Int) (k0 : Ty0 → Option R) (k1 : Ty2 → Option R), L76x0x33 N w0 w1 w2 w4 w5 w19 w21 w75 w76 w80 w81 m w6 w84 w85 w86 w87 w88 w89 w90 w91 w92 w93 w94 w95 w96 w97 w98 w99 w100 w101 w102 w103 w104 w105 w106 w107 k0 k1 = (L76x0x33 N (R := (Sum (Ty0) (Ty2))) w0 w1 w2 w4 w5 w19 w21 w75 w76 w80 w81 m w6 w84 w85 w86 w87 w88 w89 w90 w91 w92 w93 w94 w95 w96 w97 w98 w99 w100 w101 w102 w103 w104 w105 w106 w107 (fun p => some (.inl p)) (fun p => some (.inr p))).bind (sumE k0 k1) := by
  intro m
  induction m with
  | zero => intros; rfl
  | succ m ih =>
    intro w6 w84 w85 w86 w87 w88 w89 w90 w91 w92 w93 w94 w95 w96 w97 w98 w99 w100 w101 w102 w103 w104 w105 w106 w107 k0 k1
    exact sb76x0x33 N _ _ _ _ _ _ _ _ _ _ _ _ _ _ _ _ _ _ _ _ _ _ _ _ _ _ _ _ _ _ _ _ _ _ _ _ _ _ _ _ _ _ _ (fun w6 w84 w85 w86 w87 w88 w89 w90 w91 w92 w93 w94 w95 w96 w97 w98 w99 w100 w101 w102 w103 w104 w105 w106 w107 => ih w6 w84 w85 w86 w87 w88 w89 w90 w91 w92 w93 w94 w95 w96 w97 w98 w99 w100 w101 w102 w103 w104 w105 w106 w107 k0 k1) (fun _ => rfl) (fun _ => rfl)
theorem one76x0x33 : oneB Try.prog 76 33 = true := by kernel_rfl
noncomputable def sh76x0x33 : Sh := { tmps := [(0, .c (.p 0 0)), (2, .c (.i .i64)), (4, .c (.p 6 0)), (6, .c (.p 8 0)), (8, .c (.p 10 0)), (9, .c (.p 11 0)), (10, .c (.b)), (11, .c (.b)), (67, .c (.sl 68)), (68, .c (.i .i64)), (69, .c (.i .i64))], mem := [(0, .box (.i .i64 :: .i .i64 :: [.i .i64, .sl 66, .sl 68, .sl 3, .sl 3, .m 1])), (1, .map 93 96), (6, .box (rI 28 ([]))), (8, .box (rI 28 ([]))), (10, .box ([.s, .i .i64, .i .i64, .i .i64, .b])), (11, .box (rI 28 ([])))] }
noncomputable def A76x0x33 (N : Nat) (L : List Lf) : List (Bool × (Ex × St)) := bnd (G76x0x33 N (li L 0) (lb L 1) (lb L 2) (ll L 4) (li L 5) (li L 19) (li L 21) (ls L 75) (li L 76) (li L 80) (li L 81) (li L 6) (li L 84) (li L 85) (li L 86) (li L 87) (li L 88) (li L 89) (li L 90) (li L 91) (li L 92) (li L 93) (li L 94) (li L 95) (li L 96) (li L 97) (li L 98) (li L 99) (li L 100) (li L 101) (li L 102) (li L 103) (li L 104) (li L 105) (li L 106) (li L 107)) fun q => [((inlB q), K76x0x33w0 (li L 7) (li L 8) (li L 9) (lb L 10) (ll L 11) (lb L 12) (ll L 13) (lb L 14) (ll L 15) (lb L 16) (ll L 17) (lm L 18) (li L 80) (li L 81) (li L 82) (li L 83) (inlV q)), ((inrQ q).isSome, K76x0x33w1 (lb L 2) (li L 7) (li L 8) (li L 9) (lb L 10) (ll L 11) (lb L 12) (ll L 13) (lb L 14) (ll L 15) (lb L 16) (ll L 17) (lm L 18) (li L 47) (li L 48) (li L 49) (li L 50) (li L 51) (li L 52) (li L 53) (li L 54) (li L 55) (li L 56) (li L 57) (li L 58) (li L 59) (li L 60) (li L 61) (li L 62) (li L 63) (li L 64) (li L 65) (li L 66) (li L 67) (li L 68) (li L 69) (li L 70) (li L 71) (li L 72) (li L 73) (li L 74) (li L 80) (li L 81) (li L 82) (li L 83) ((inrQ q).getD default))]
theorem eq76x0x33 (L : List Lf) : ofSh sh76x0x33 L = (P76x0x33 (li L 0) (lb L 1) (lb L 2) (lb L 3) (ll L 4) (li L 5) (li L 6) (li L 7) (li L 8) (li L 9) (lb L 10) (ll L 11) (lb L 12) (ll L 13) (lb L 14) (ll L 15) (lb L 16) (ll L 17) (lm L 18) (li L 19) (li L 20) (li L 21) (li L 22) (li L 23) (li L 24) (li L 25) (li L 26) (li L 27) (li L 28) (li L 29) (li L 30) (li L 31) (li L 32) (li L 33) (li L 34) (li L 35) (li L 36) (li L 37) (li L 38) (li L 39) (li L 40) (li L 41) (li L 42) (li L 43) (li L 44) (li L 45) (li L 46) (li L 47) (li L 48) (li L 49) (li L 50) (li L 51) (li L 52) (li L 53) (li L 54) (li L 55) (li L 56) (li L 57) (li L 58) (li L 59) (li L 60) (li L 61) (li L 62) (li L 63) (li L 64) (li L 65) (li L 66) (li L 67) (li L 68) (li L 69) (li L 70) (li L 71) (li L 72) (li L 73) (li L 74) (ls L 75) (li L 76) (li L 77) (li L 78) (lb L 79) (li L 80) (li L 81) (li L 82) (li L 83) (li L 84) (li L 85) (li L 86) (li L 87) (li L 88) (li L 89) (li L 90) (li L 91) (li L 92) (li L 93) (li L 94) (li L 95) (li L 96) (li L 97) (li L 98) (li L 99) (li L 100) (li L 101) (li L 102) (li L 103) (li L 104) (li L 105) (li L 106) (li L 107)) := by kernel_rfl
theorem law76x0x33 (N : Nat) : CutLaw Try.prog 2 (piece Try.prog 76 33) (loSh sh76x0x33 (A76x0x33 N)) :=
  law_shL progOk (T93x0_ok N) (al76x0s12 N) one76x0x33 lp76x0x33 eq76x0x33 fun L x hx => run76x0x33 N _ _ _ _ _ _ _ _ _ _ _ _ _ _ _ _ _ _ _ _ _ _ _ _ _ _ _ _ _ _ _ _ _ _ _ _ _ _ _ _ _ _ _ _ _ _ _ _ _ _ _ _ _ _ _ _ _ _ _ _ _ _ _ _ _ _ _ _ _ _ _ _ _ _ _ _ _ _ _ _ _ _ _ N _ _ _ _ _ _ _ _ _ _ _ _ _ _ _ _ _ _ _ _ _ _ _ _ _ x ((lbind76x0x33 N _ _ _ _ _ _ _ _ _ _ _ N _ _ _ _ _ _ _ _ _ _ _ _ _ _ _ _ _ _ _ _ _ _ _ _ _ _ _).trans ((altS alt1) x hx))
noncomputable def h76x0s13 (N : Nat) : Hint := { (h76x0s12 N) with los := (33, loSh sh76x0x33 (A76x0x33 N)) :: (h76x0s12 N).los }
theorem al76x0s13 (N : Nat) : AllCuts Try.prog (h76x0s13 N).los 2 76 := AllCuts.cons (al76x0s12 N) one76x0x33 (law76x0x33 N)
noncomputable def F76x0x125 (N : Nat) {R : Type} (w0 : Bool) (w42 w43 : Int) (k0 : Int → R) : R :=
  bif w0 then
    k0 w42
  else
    k0 w43
noncomputable def V76x0x125 (N : Nat) (w0 : Bool) (w42 w43 : Int) : Int := F76x0x125 N w0 w42 w43 (fun p => p)
theorem tot76x0x125 (N : Nat) {R : Type} (w0 : Bool) (w42 w43 : Int) (k0 : Int → R) : F76x0x125 N w0 w42 w43 k0 = k0 (V76x0x125 N w0 w42 w43) := by
  unfold V76x0x125 F76x0x125
  repeat' (first | rfl | apply cond_k | (apply bnd_k; intro _))
noncomputable def sh76x0x125 : Sh := { tmps := [(0, .c (.p 0 0)), (6, .c (.p 8 0)), (9, .c (.p 11 0)), (202, .c (.b))], mem := [(0, .box (.i .i64 :: .i .i64 :: [.i .i64, .sl 66, .sl 68, .sl 3, .sl 3, .m 1])), (1, .map 93 96), (8, .box (rI 28 ([]))), (11, .box (rI 28 ([])))] }
noncomputable def K76x0x125w0 (L : List Lf) (p : Int) : Ex × St := (.normal, ⟨[(0, .c (.p 0 0)), (6, .c (.p 8 0)), (9, .c (.p 11 0))], [(0, .box [.i .i64 (li L 1), .i .i64 (li L 2), .i .i64 (li L 3), .sl 66 (lb L 4) (ll L 5), .sl 68 (lb L 6) (ll L 7), .sl 3 (lb L 8) (ll L 9), .sl 3 (lb L 10) (ll L 11), .m 1]), (1, .map 93 96 (lm L 12)), (8, .box (rL L 13 28 ([]))), (11, .box (.i .i64 (li L 41) :: .i .i64 (li L 42) :: .i .i64 p :: rL L 44 25 ([])))]⟩)
noncomputable def A76x0x125 (N : Nat) (L : List Lf) : List (Bool × (Ex × St)) := bnd (F76x0x125 N (lb L 0) (li L 42) (li L 43) (fun p => p)) fun q => [(true, K76x0x125w0 L q)]
theorem raw76x0x125 (N : Nat) (L : List Lf) : (exec Try.prog (T93x0 N) (h76x0s13 N) 2 100 (piece Try.prog 76 125) (ofSh sh76x0x125 L) (fun e st => some (e, cutSt [9, 0, 6] [11, 8, 1, 0] st)) : Option (Ex × St)) = F76x0x125 N (lb L 0) (li L 42) (li L 43) (fun p => some (K76x0x125w0 L p)) := by kernel_rfl
theorem one76x0x125 : oneB Try.prog 76 125 = true := by kernel_rfl
theorem law76x0x125 (N : Nat) : CutLaw Try.prog 2 (piece Try.prog 76 125) (loSh sh76x0x125 (A76x0x125 N)) :=
  law_sh progOk (T93x0_ok N) (al76x0s13 N) one76x0x125 fun L x hx => (raw76x0x125 N L).trans ((tot76x0x125 N ..).trans (alt0 _ _ hx))
noncomputable def h76x0s14 (N : Nat) : Hint := { (h76x0s13 N) with los := (125, loSh sh76x0x125 (A76x0x125 N)) :: (h76x0s13 N).los }
theorem al76x0s14 (N : Nat) : AllCuts Try.prog (h76x0s14 N).los 2 76 := AllCuts.cons (al76x0s13 N) one76x0x125 (law76x0x125 N)
noncomputable def F76x0x119 (N : Nat) {R : Type} (w0 : Bool) (w7 : LD) (w42 w43 : Int) (k0 : Int × Int → Option R) : Option R :=
  bif w0 then
    bnd (G74x0 N w7 [(.i 7)]) fun y0 =>
    bif y0.isSome then
      bnd (V76x0x125 N (y0.getD default) w42 0) fun y1 =>
      k0 (0, y1)
    else
      none
  else
    k0 (w42, w43)
noncomputable def G76x0x119 (N : Nat) (w0 : Bool) (w7 : LD) (w42 w43 : Int) : Option (Int × Int) := F76x0x119 N w0 w7 w42 w43 (fun p => some p)
theorem bind76x0x119 (N : Nat) {R : Type} (w0 : Bool) (w7 : LD) (w42 w43 : Int) (k0 : Int × Int → Option R) : F76x0x119 N w0 w7 w42 w43 k0 = (G76x0x119 N w0 w7 w42 w43).bind k0 := by
  unfold G76x0x119 F76x0x119
  repeat' (first | rfl | apply cond_b | (apply bnd_b; intro _))
noncomputable def J76x0x119 (N : Nat) (L : List Lf) {R : Type} (k0 : Int × Int → Option R) : Option R := F76x0x119 N (lb L 0) (ll L 7) (li L 42) (li L 43) k0
noncomputable def sh76x0x119 : Sh := { tmps := [(0, .c (.p 0 0)), (6, .c (.p 8 0)), (9, .c (.p 11 0)), (195, .c (.b))], mem := [(0, .box (.i .i64 :: .i .i64 :: [.i .i64, .sl 66, .sl 68, .sl 3, .sl 3, .m 1])), (1, .map 93 96), (8, .box (rI 28 ([]))), (11, .box (rI 28 ([])))] }
noncomputable def K76x0x119w0 (L : List Lf) (p : Int × Int) : Ex × St := (.normal, ⟨[(0, .c (.p 0 0)), (6, .c (.p 8 0)), (9, .c (.p 11 0))], [(0, .box [.i .i64 (li L 1), .i .i64 (li L 2), .i .i64 (li L 3), .sl 66 (lb L 4) (ll L 5), .sl 68 (lb L 6) (ll L 7), .sl 3 (lb L 8) (ll L 9), .sl 3 (lb L 10) (ll L 11), .m 1]), (1, .map 93 96 (lm L 12)), (8, .box (rL L 13 28 ([]))), (11, .box (.i .i64 (li L 41) :: .i .i64 p.1 :: .i .i64 p.2 :: rL L 44 25 ([])))]⟩)
noncomputable def A76x0x119 (N : Nat) (L : List Lf) : List (Bool × (Ex × St)) := bnd (J76x0x119 N L (fun p => some p)) fun q => [(q.isSome, K76x0x119w0 L (q.getD default))]
theorem raw76x0x119 (N : Nat) (L : List Lf) : (exec Try.prog (T93x0 N) (h76x0s14 N) 2 100 (piece Try.prog 76 119) (ofSh sh76x0x119 L) (fun e st => some (e, cutSt [0, 9, 6] [11, 8, 1, 0] st)) : Option (Ex × St)) = J76x0x119 N L (fun p => some (K76x0x119w0 L p)) := by kernel_rfl
theorem one76x0x119 : oneB Try.prog 76 119 = true := by kernel_rfl
theorem law76x0x119 (N : Nat) : CutLaw Try.prog 2 (piece Try.prog 76 119) (loSh sh76x0x119 (A76x0x119 N)) :=
  law_sh progOk (T93x0_ok N) (al76x0s14 N) one76x0x119 fun L x hx => (raw76x0x119 N L).trans ((bind76x0x119 N ..).trans (alt1 x hx))
noncomputable def h76x0s15 (N : Nat) : Hint := { (h76x0s14 N) with los := (119, loSh sh76x0x119 (A76x0x119 N)) :: (h76x0s14 N).los }
theorem al76x0s15 (N : Nat) : AllCuts Try.prog (h76x0s15 N).los 2 76 := AllCuts.cons (al76x0s14 N) one76x0x119 (law76x0x119 N)
noncomputable def F76x0x134 (N : Nat) {R : Type} (w0 : Bool) (w42 : Int) (k0 : Int → R) : R :=
  bif w0 then
    k0 0
  else
    k0 w42
noncomputable def V76x0x134 (N : Nat) (w0 : Bool) (w42 : Int) : Int := F76x0x134 N w0 w42 (fun p => p)
theorem tot76x0x134 (N : Nat) {R : Type} (w0 : Bool) (w42 : Int) (k0 : Int → R) : F76x0x134 N w0 w42 k0 = k0 (V76x0x134 N w0 w42) := by
  unfold V76x0x134 F76x0x134
  repeat' (first | rfl | apply cond_k | (apply bnd_k; intro _))
noncomputable def sh76x0x134 : Sh := { tmps := [(6, .c (.p 8 0)), (9, .c (.p 11 0)), (213, .c (.b))], mem := [(0, .box (.i .i64 :: .i .i64 :: [.i .i64, .sl 66, .sl 68, .sl 3, .sl 3, .m 1])), (1, .map 93 96), (8, .box (rI 28 ([]))), (11, .box (rI 28 ([])))] }
noncomputable def K76x0x134w0 (L : List Lf) (p : Int) : Ex × St := (.normal, ⟨[(6, .c (.p 8 0)), (9, .c (.p 11 0))], [(0, .box [.i .i64 (li L 1), .i .i64 (li L 2), .i .i64 (li L 3), .sl 66 (lb L 4) (ll L 5), .sl 68 (lb L 6) (ll L 7), .sl 3 (lb L 8) (ll L 9), .sl 3 (lb L 10) (ll L 11), .m 1]), (1, .map 93 96 (lm L 12)), (8, .box (rL L 13 28 ([]))), (11, .box (.i .i64 (li L 41) :: .i .i64 p :: rL L 43 26 ([])))]⟩)
noncomputable def A76x0x134 (N : Nat) (L : List Lf) : List (Bool × (Ex × St)) := bnd (F76x0x134 N (lb L 0) (li L 42) (fun p => p)) fun q => [(true, K76x0x134w0 L q)]
theorem raw76x0x134 (N : Nat) (L : List Lf) : (exec Try.prog (T93x0 N) (h76x0s15 N) 2 100 (piece Try.prog 76 134) (ofSh sh76x0x134 L) (fun e st => some (e, cutSt [9, 6] [11, 8, 0, 1] st)) : Option (Ex × St)) = F76x0x134 N (lb L 0) (li L 42) (fun p => some (K76x0x134w0 L p)) := by kernel_rfl
theorem one76x0x134 : oneB Try.prog 76 134 = true := by kernel_rfl
theorem law76x0x134 (N : Nat) : CutLaw Try.prog 2 (piece Try.prog 76 134) (loSh sh76x0x134 (A76x0x134 N)) :=
  law_sh progOk (T93x0_ok N) (al76x0s15 N) one76x0x134 fun L x hx => (raw76x0x134 N L).trans ((tot76x0x134 N ..).trans (alt0 _ _ hx))
noncomputable def h76x0s16 (N : Nat) : Hint := { (h76x0s15 N) with los := (134, loSh sh76x0x134 (A76x0x134 N)) :: (h76x0s15 N).los }
theorem al76x0s16 (N : Nat) : AllCuts Try.prog (h76x0s16 N).los 2 76 := AllCuts.cons (al76x0s15 N) one76x0x134 (law76x0x134 N)
noncomputable def F76x0 (N : Nat) {R : Type} (v0 v1 v2 v3 v4 v5 v6 v7 v8 v9 v10 v11 v12 v13 v14 v15 v16 v17 v18 v19 v20 v21 v22 v23 v24 v25 v26 v27 v28 v30 : Int) (v33 v35 : LD) (k0 : Ty1 → Option R) : Option R :=
  bnd (G63x0 N v33 v28) fun y0 =>
  bif y0.isSome then
    bnd (G76x0x23 N (y0.getD default).2.2.2.2 v35 (max2 0 (IntKind.wrap .i64 (v3 - 1)))) fun y1 =>
    bif y1.isSome then
      bnd (V76x0x25 N v30 (IntKind.wrap .i64 (v0 + 1))) fun y2 =>
      bnd (G76x0x33 N v28 y2 (((IntKind.wrap .i64 (v0 + 1)).tmod 7) == 0) v35 (v35.length : Int) v0 v2 (y0.getD default).1 (y0.getD default).2.1 (IntKind.wrap .i64 (v0 + 1)) (IntKind.wrap .i64 (v1 + (y0.getD default).2.1)) 0 v4 v5 v6 v7 v8 v9 v10 v11 v12 v13 v14 v15 v16 v17 v18 v19 v20 v21 v22 v23 v24 v25 v26 v27) fun y3 =>
      bif (inlB y3) then
        k0 ((IntKind.wrap .i64 (v0 + 1)), (IntKind.wrap .i64 (v1 + (y0.getD default).2.1)), v2, (y1.getD default), (inlV y3).1, (inlV y3).2.1, (inlV y3).2.2.1, (inlV y3).2.2.2.1, (inlV y3).2.2.2.2.1, (inlV y3).2.2.2.2.2.1, (inlV y3).2.2.2.2.2.2.1, (inlV y3).2.2.2.2.2.2.2.1, (inlV y3).2.2.2.2.2.2.2.2.1, (inlV y3).2.2.2.2.2.2.2.2.2.1, (inlV y3).2.2.2.2.2.2.2.2.2.2.1, (inlV y3).2.2.2.2.2.2.2.2.2.2.2.1, (inlV y3).2.2.2.2.2.2.2.2.2.2.2.2.1, (inlV y3).2.2.2.2.2.2.2.2.2.2.2.2.2.1, (inlV y3).2.2.2.2.2.2.2.2.2.2.2.2.2.2.1, (inlV y3).2.2.2.2.2.2.2.2.2.2.2.2.2.2.2.1, (inlV y3).2.2.2.2.2.2.2.2.2.2.2.2.2.2.2.2.1, (inlV y3).2.2.2.2.2.2.2.2.2.2.2.2.2.2.2.2.2.1, (inlV y3).2.2.2.2.2.2.2.2.2.2.2.2.2.2.2.2.2.2.1, (inlV y3).2.2.2.2.2.2.2.2.2.2.2.2.2.2.2.2.2.2.2.1, (inlV y3).2.2.2.2.2.2.2.2.2.2.2.2.2.2.2.2.2.2.2.2.1, (inlV y3).2.2.2.2.2.2.2.2.2.2.2.2.2.2.2.2.2.2.2.2.2.1, (inlV y3).2.2.2.2.2.2.2.2.2.2.2.2.2.2.2.2.2.2.2.2.2.2.1, (inlV y3).2.2.2.2.2.2.2.2.2.2.2.2.2.2.2.2.2.2.2.2.2.2.2.1, false)
      else
        bif (inrQ y3).isSome then
          bnd (G76x0x119 N (((IntKind.wrap .i64 (v0 + 1)).tmod 7) == 0) v35 (IntKind.wrap .i64 (v1 + (y0.getD default).2.1)) v2) fun y4 =>
          bif y4.isSome then
            bnd (G74x0 N v35 [(.i 7), (.i 3), (.i 4)]) fun y5 =>
            bif y5.isSome then
              bnd (V76x0x134 N (!(y5.getD default)) (y4.getD default).1) fun y6 =>
              bnd ((inrQ y3).getD default).2.2.2.2.2.2.2.2.2.2.2.2.2.2.1 fun y7 =>
              bnd ((inrQ y3).getD default).2.2.2.2.2.2.2.2.2.2.2.2.2.2.2.1 fun y8 =>
              bnd ((inrQ y3).getD default).2.2.2.2.2.2.2.2.2.2.2.2.2.2.2.2.1 fun y9 =>
              bnd ((inrQ y3).getD default).2.2.2.2.2.2.2.2.2.2.2.2.2.2.2.2.2.1 fun y10 =>
              bnd ((inrQ y3).getD default).2.2.2.2.2.2.2.2.2.2.2.2.2.2.2.2.2.2.1 fun y11 =>
              bnd ((inrQ y3).getD default).2.2.2.2.2.2.2.2.2.2.2.2.2.2.2.2.2.2.2.1 fun y12 =>
              bnd ((inrQ y3).getD default).2.2.2.2.2.2.2.2.2.2.2.2.2.2.2.2.2.2.2.2.1 fun y13 =>
              bnd ((inrQ y3).getD default).2.2.2.2.2.2.2.2.2.2.2.2.2.2.2.2.2.2.2.2.2.1 fun y14 =>
              bnd ((inrQ y3).getD default).2.2.2.2.2.2.2.2.2.2.2.2.2.2.2.2.2.2.2.2.2.2.1 fun y15 =>
              bnd ((inrQ y3).getD default).2.2.2.2.2.2.2.2.2.2.2.2.2.2.2.2.2.2.2.2.2.2.2 fun y16 =>
              k0 ((IntKind.wrap .i64 (v0 + 1)), y6, (y4.getD default).2, (y1.getD default), ((inrQ y3).getD default).1, ((inrQ y3).getD default).2.1, ((inrQ y3).getD default).2.2.1, ((inrQ y3).getD default).2.2.2.1, ((inrQ y3).getD default).2.2.2.2.1, ((inrQ y3).getD default).2.2.2.2.2.1, ((inrQ y3).getD default).2.2.2.2.2.2.1, ((inrQ y3).getD default).2.2.2.2.2.2.2.1, ((inrQ y3).getD default).2.2.2.2.2.2.2.2.1, ((inrQ y3).getD default).2.2.2.2.2.2.2.2.2.1, ((inrQ y3).getD default).2.2.2.2.2.2.2.2.2.2.1, ((inrQ y3).getD default).2.2.2.2.2.2.2.2.2.2.2.1, ((inrQ y3).getD default).2.2.2.2.2.2.2.2.2.2.2.2.1, ((inrQ y3).getD default).2.2.2.2.2.2.2.2.2.2.2.2.2.1, y7, y8, y9, y10, y11, y12, y13, y14, y15, y16, true)
            else
              none
          else
            none
        else
          none
    else
      none
  else
    none
noncomputable def G76x0 (N : Nat) (v0 v1 v2 v3 v4 v5 v6 v7 v8 v9 v10 v11 v12 v13 v14 v15 v16 v17 v18 v19 v20 v21 v22 v23 v24 v25 v26 v27 v28 v30 : Int) (v33 v35 : LD) : Option (Ty1) := F76x0 N v0 v1 v2 v3 v4 v5 v6 v7 v8 v9 v10 v11 v12 v13 v14 v15 v16 v17 v18 v19 v20 v21 v22 v23 v24 v25 v26 v27 v28 v30 v33 v35 (fun p => some p)
theorem bind76x0 (N : Nat) {R : Type} (v0 v1 v2 v3 v4 v5 v6 v7 v8 v9 v10 v11 v12 v13 v14 v15 v16 v17 v18 v19 v20 v21 v22 v23 v24 v25 v26 v27 v28 v30 : Int) (v33 v35 : LD) (k0 : Ty1 → Option R) : F76x0 N v0 v1 v2 v3 v4 v5 v6 v7 v8 v9 v10 v11 v12 v13 v14 v15 v16 v17 v18 v19 v20 v21 v22 v23 v24 v25 v26 v27 v28 v30 v33 v35 k0 = (G76x0 N v0 v1 v2 v3 v4 v5 v6 v7 v8 v9 v10 v11 v12 v13 v14 v15 v16 v17 v18 v19 v20 v21 v22 v23 v24 v25 v26 v27 v28 v30 v33 v35).bind k0 := by
  unfold G76x0 F76x0
  repeat' (first | rfl | apply cond_b | (apply bnd_b; intro _))
noncomputable def J76x0 (N : Nat) (L : List Lf) {R : Type} (k0 : Ty1 → Option R) : Option R := F76x0 N (li L 0) (li L 1) (li L 2) (li L 3) (li L 4) (li L 5) (li L 6) (li L 7) (li L 8) (li L 9) (li L 10) (li L 11) (li L 12) (li L 13) (li L 14) (li L 15) (li L 16) (li L 17) (li L 18) (li L 19) (li L 20) (li L 21) (li L 22) (li L 23) (li L 24) (li L 25) (li L 26) (li L 27) (li L 28) (li L 30) (ll L 33) (ll L 35) k0
noncomputable def sh76x0 : Sh := { tmps := [(0, .c (.p 0 0)), (1, .g (rI 28 ([]))), (2, .c (.i .i64))], mem := [(0, .box (.i .i64 :: .i .i64 :: [.i .i64, .sl 66, .sl 68, .sl 3, .sl 3, .m 1])), (1, .map 93 96)] }
noncomputable def K76x0w0 (L : List Lf) (p : Ty1) : Res := let p1 := p.2; let p2 := p1.2; let p3 := p2.2; let p4 := p3.2; let p5 := p4.2; let p6 := p5.2; let p7 := p6.2; let p8 := p7.2; let p9 := p8.2; let p10 := p9.2; let p11 := p10.2; let p12 := p11.2; let p13 := p12.2; let p14 := p13.2; let p15 := p14.2; let p16 := p15.2; let p17 := p16.2; let p18 := p17.2; let p19 := p18.2; let p20 := p19.2; let p21 := p20.2; let p22 := p21.2; let p23 := p22.2; let p24 := p23.2; let p25 := p24.2; let p26 := p25.2; let p27 := p26.2; let p28 := p27.2; ([.g [.i .i64 p.1, .i .i64 p1.1, .i .i64 p2.1, .i .i64 p3.1, .i .i64 p4.1, .i .i64 p5.1, .i .i64 p6.1, .i .i64 p7.1, .i .i64 p8.1, .i .i64 p9.1, .i .i64 p10.1, .i .i64 p11.1, .i .i64 p12.1, .i .i64 p13.1, .i .i64 p14.1, .i .i64 p15.1, .i .i64 p16.1, .i .i64 p17.1, .i .i64 p18.1, .i .i64 p19.1, .i .i64 p20.1, .i .i64 p21.1, .i .i64 p22.1, .i .i64 p23.1, .i .i64 p24.1, .i .i64 p25.1, .i .i64 p26.1, .i .i64 p27.1], .c (.b p28)], [(0, .box [.i .i64 (li L 29), .i .i64 (li L 30), .i .i64 (li L 31), .sl 66 (lb L 32) (ll L 33), .sl 68 (lb L 34) (ll L 35), .sl 3 (lb L 36) (ll L 37), .sl 3 (lb L 38) (ll L 39), .m 1]), (1, .map 93 96 (lm L 40))])
noncomputable def A76x0 (N : Nat) (L : List Lf) : List (Bool × Res) := bnd (J76x0 N L (fun p => some p)) fun q => [(q.isSome, K76x0w0 L (q.getD default))]
theorem raw76x0 (N : Nat) (L : List Lf) : (body Try.prog (T93x0 N) (h76x0s16 N) 200 76 (valsOf (ofSh sh76x0 L).tmps) (ofSh sh76x0 L).mem : Option Res) = J76x0 N L (fun p => some (K76x0w0 L p)) := by kernel_rfl
theorem ok76x0 (N : Nat) : ∀ args mem alts, spSh sh76x0 (A76x0 N) args mem = some alts → ∀ res, altK alts some = some res → CallOk Try.prog 76 args mem res :=
  spSh_law fun L x hx => callOk_of (n := 200) progOk (T93x0_ok N) (al76x0s16 N) rfl ((raw76x0 N L).trans ((bind76x0 N ..).trans (alt1 x hx)))
noncomputable def T76x0 (N : Nat) : Oracle := ext 76 (spSh sh76x0 (A76x0 N)) (T93x0 N)
theorem T76x0_ok (N : Nat) : OracleOk Try.prog (T76x0 N) := ext_ok (T93x0_ok N) (enters_of (by kernel_rfl)) (ok76x0 N)
abbrev Rc75x1 : Type := Int → Int → Int → Int → Int → Int → Int → Int → Int → Int → Int → Int → Int → Int → Int → Int → Int → Int → Int → Int → Int → Int → Int → Int → Int → Int → Int → Int → Int → Int → Int → Bool → LD → Bool → LD → Bool → LD → Bool → LD → (List (D × D)) → Option (Ty9)
noncomputable def sh75x1 : Sh := { tmps := [(0, .c (.p 0 0)), (1, .g (rI 28 ([])))], mem := [(0, .box (.i .i64 :: .i .i64 :: [.i .i64, .sl 66, .sl 68, .sl 3, .sl 3, .m 1])), (1, .map 93 96)] }
noncomputable def B75x1 (N : Nat) (rc : Rc75x1) (L : List Lf) : List (Bool × Res) := bnd (rc (li L 0) (li L 1) (li L 2) (li L 3) (li L 4) (li L 5) (li L 6) (li L 7) (li L 8) (li L 9) (li L 10) (li L 11) (li L 12) (li L 13) (li L 14) (li L 15) (li L 16) (li L 17) (li L 18) (li L 19) (li L 20) (li L 21) (li L 22) (li L 23) (li L 24) (li L 25) (li L 26) (li L 27) (li L 28) (li L 29) (li L 30) (lb L 31) (ll L 32) (lb L 33) (ll L 34) (lb L 35) (ll L 36) (lb L 37) (ll L 38) (lm L 39)) fun q => [(q.isSome, ([.g [.i .i64 (q.getD default).1, .i .i64 (q.getD default).2.1, .i .i64 (q.getD default).2.2.1, .i .i64 (q.getD default).2.2.2.1]], [(0, .box [.i .i64 (li L 28), .i .i64 (li L 29), .i .i64 (li L 30), .sl 66 (lb L 31) (ll L 32), .sl 68 (lb L 33) (ll L 34), .sl 3 (lb L 35) (ll L 36), .sl 3 (lb L 37) (ll L 38), .m 1]), (1, .map 93 96 (q.getD default).2.2.2.2)]))]
noncomputable def O75x1 (N : Nat) (rc : Rc75x1) : Oracle := ext 75 (spSh sh75x1 ((B75x1 N) rc)) (T76x0 N)
noncomputable def rg75x1 : List (Nat × List Nat) := [(0, [1, 0]), (1, [3, 0, 4]), (2, [4]), (3, [0, 3, 4]), (4, [6, 5, 4, 0, 3]), (5, [5, 4]), (6, [0, 3, 4]), (7, [0, 3, 7, 4]), (8, [8, 0, 3, 7, 4]), (10, [3, 0, 8, 7, 4]), (11, [0, 3, 8, 7, 4]), (12, [10, 8, 0, 3, 7, 4, 9]), (13, [0, 9, 8, 3, 7, 4]), (14, [11, 8, 0, 3, 7, 4]), (15, [11, 0, 8, 3, 7, 4]), (16, [0, 3, 8, 11, 7, 4]), (17, [11, 7, 8, 0, 3, 4]), (18, [7, 11, 8, 0, 3, 4]), (19, [7, 11, 12, 8, 0, 3, 4]), (20, [12, 11, 8, 7, 13, 0, 3, 4]), (21, [11, 8, 7, 13, 0, 3, 4]), (22, [13, 7, 8, 0, 3, 4]), (9, [8, 0, 3, 7, 4]), (23, [0, 3, 7, 4]), (24, [7, 4])]
noncomputable def hd75x1 : Hints := [(24, [8, 0, 3, 7, 4], [9, 6, 5, 1, 0], []), (31, [3, 0, 8, 7, 4], [9, 6, 5, 1, 0], []), (49, [0, 3, 8, 11, 7, 4], [13, 9, 6, 5, 1, 0], []), (53, [11, 7, 8, 0, 3, 4, 124], [13, 9, 6, 5, 1, 0], []), (65, [11, 8, 7, 13, 0, 3, 4, 158], [13, 9, 6, 5, 1, 0], [])]
noncomputable def h75x1s0 (N : Nat) (rc : Rc75x1) : Hint := { loops := hd75x1, regs := rg75x1, los := [] }
theorem al75x1s0 (N : Nat) (rc : Rc75x1) (hR : OracleOk Try.prog ((O75x1 N) rc)) : AllCuts Try.prog ((h75x1s0 N) rc).los 2 75 := AllCuts.nil
noncomputable def F75x1x31 (N : Nat) (rc : Rc75x1) {R : Type} (w0 w1 : Int) (w5 w7 w9 : LD) (w13 w16 : Int) (k0 : Bool → Option R) : Option R :=
  bif (decide (w13 < (w9.length : Int))) then
    bif (inB w13 w9.length) then
      bif ((w9.getD w13.toNat (.i 0)).toI != w0) then
        k0 true
      else
        bnd (G92x0 N w13 w16 w0 w1 w5 w7) fun y0 =>
        bif y0.isSome then
          k0 (!(y0.getD default))
        else
          none
    else
      none
  else
    bnd (G92x0 N w13 w16 w0 w1 w5 w7) fun y0 =>
    bif y0.isSome then
      k0 (!(y0.getD default))
    else
      none
noncomputable def G75x1x31 (N : Nat) (rc : Rc75x1) (w0 w1 : Int) (w5 w7 w9 : LD) (w13 w16 : Int) : Option (Bool) := F75x1x31 N rc w0 w1 w5 w7 w9 w13 w16 (fun p => some p)
theorem bind75x1x31 (N : Nat) (rc : Rc75x1) {R : Type} (w0 w1 : Int) (w5 w7 w9 : LD) (w13 w16 : Int) (k0 : Bool → Option R) : F75x1x31 N rc w0 w1 w5 w7 w9 w13 w16 k0 = (G75x1x31 N rc w0 w1 w5 w7 w9 w13 w16).bind k0 := by
  unfold G75x1x31 F75x1x31
  repeat' (first | rfl | apply cond_b | (apply bnd_b; intro _))
noncomputable def J75x1x31 (N : Nat) (rc : Rc75x1) (L : List Lf) {R : Type} (k0 : Bool → Option R) : Option R := F75x1x31 N rc (li L 0) (li L 1) (ll L 5) (ll L 7) (ll L 9) (li L 13) (li L 16) k0
noncomputable def sh75x1x31 : Sh := { tmps := [(0, .c (.p 0 0)), (3, .c (.p 5 0)), (4, .c (.p 6 0)), (7, .c (.p 9 0)), (8, .c (.i .i64))], mem := [(0, .box (.i .i64 :: .i .i64 :: [.i .i64, .sl 66, .sl 68, .sl 3, .sl 3, .m 1])), (1, .map 93 96), (5, .box (rI 28 ([]))), (6, .box ([.i .i64, .i .i64, .i .i64, .i .i64])), (9, .box ([.i .i64, .i .i64, .i .i64, .i .i64]))] }
noncomputable def K75x1x31w0 (L : List Lf) (p : Bool) : Ex × St := (.normal, ⟨[(0, .c (.p 0 0)), (3, .c (.p 5 0)), (4, .c (.p 6 0)), (7, .c (.p 9 0)), (8, .c (.i .i64 (li L 0))), (71, .c (.b p))], [(0, .box [.i .i64 (li L 1), .i .i64 (li L 2), .i .i64 (li L 3), .sl 66 (lb L 4) (ll L 5), .sl 68 (lb L 6) (ll L 7), .sl 3 (lb L 8) (ll L 9), .sl 3 (lb L 10) (ll L 11), .m 1]), (1, .map 93 96 (lm L 12)), (5, .box (rL L 13 28 ([]))), (6, .box (rL L 41 4 ([]))), (9, .box (rL L 45 4 ([])))]⟩)
noncomputable def A75x1x31 (N : Nat) (rc : Rc75x1) (L : List Lf) : List (Bool × (Ex × St)) := bnd (J75x1x31 N rc L (fun p => some p)) fun q => [(q.isSome, K75x1x31w0 L (q.getD default))]
theorem raw75x1x31 (N : Nat) (rc : Rc75x1) (L : List Lf) : (exec Try.prog ((O75x1 N) rc) ((h75x1s0 N) rc) 2 100 (piece Try.prog 75 31) (ofSh sh75x1x31 L) (fun e st => some (e, cutSt [8, 0, 3, 7, 4, 71] [9, 6, 5, 1, 0] st)) : Option (Ex × St)) = J75x1x31 N rc L (fun p => some (K75x1x31w0 L p)) := by kernel_rfl
theorem one75x1x31 : oneB Try.prog 75 31 = true := by kernel_rfl
theorem law75x1x31 (N : Nat) (rc : Rc75x1) (hR : OracleOk Try.prog ((O75x1 N) rc)) : CutLaw Try.prog 2 (piece Try.prog 75 31) (loSh sh75x1x31 ((A75x1x31 N) rc)) :=
  law_sh progOk hR ((al75x1s0 N) rc hR) one75x1x31 fun L x hx => (raw75x1x31 N rc L).trans ((bind75x1x31 N rc ..).trans (alt1 x hx))
noncomputable def h75x1s1 (N : Nat) (rc : Rc75x1) : Hint := { ((h75x1s0 N) rc) with los := (31, loSh sh75x1x31 ((A75x1x31 N) rc)) :: ((h75x1s0 N) rc).los }
theorem al75x1s1 (N : Nat) (rc : Rc75x1) (hR : OracleOk Try.prog ((O75x1 N) rc)) : AllCuts Try.prog ((h75x1s1 N) rc).los 2 75 := AllCuts.cons ((al75x1s0 N) rc hR) one75x1x31 ((law75x1x31 N) rc hR)
noncomputable def F75x1x49 (N : Nat) (rc : Rc75x1) {R : Type} (w0 : Int) (w9 : LD) (w10 : Bool) (w11 : LD) (w13 : Int) (k0 : Bool → Option R) : Option R :=
  bif (!w10) then
    bif (decide (w13 ≥ (w9.length : Int))) then
      bif (inB w13 w11.length) then
        k0 ((w11.getD w13.toNat (.i 0)).toI != w0)
      else
        none
    else
      k0 false
  else
    k0 false
noncomputable def G75x1x49 (N : Nat) (rc : Rc75x1) (w0 : Int) (w9 : LD) (w10 : Bool) (w11 : LD) (w13 : Int) : Option (Bool) := F75x1x49 N rc w0 w9 w10 w11 w13 (fun p => some p)
theorem bind75x1x49 (N : Nat) (rc : Rc75x1) {R : Type} (w0 : Int) (w9 : LD) (w10 : Bool) (w11 : LD) (w13 : Int) (k0 : Bool → Option R) : F75x1x49 N rc w0 w9 w10 w11 w13 k0 = (G75x1x49 N rc w0 w9 w10 w11 w13).bind k0 := by
  unfold G75x1x49 F75x1x49
  repeat' (first | rfl | apply cond_b | (apply bnd_b; intro _))
noncomputable def J75x1x49 (N : Nat) (rc : Rc75x1) (L : List Lf) {R : Type} (k0 : Bool → Option R) : Option R := F75x1x49 N rc (li L 0) (ll L 9) (lb L 10) (ll L 11) (li L 13) k0
noncomputable def sh75x1x49 : Sh := { tmps := [(0, .c (.p 0 0)), (3, .c (.p 5 0)), (4, .c (.p 6 0)), (7, .c (.p 9 0)), (8, .c (.i .i64)), (11, .c (.p 13 0))], mem := [(0, .box (.i .i64 :: .i .i64 :: [.i .i64, .sl 66, .sl 68, .sl 3, .sl 3, .m 1])), (1, .map 93 96), (5, .box (rI 28 ([]))), (6, .box ([.i .i64, .i .i64, .i .i64, .i .i64])), (9, .box ([.i .i64, .i .i64, .i .i64, .i .i64])), (13, .box ([.i .i64, .i .i64, .i .i64, .i .i64]))] }
noncomputable def K75x1x49w0 (L : List Lf) (p : Bool) : Ex × St := (.normal, ⟨[(0, .c (.p 0 0)), (3, .c (.p 5 0)), (4, .c (.p 6 0)), (7, .c (.p 9 0)), (8, .c (.i .i64 (li L 0))), (11, .c (.p 13 0)), (124, .c (.b p))], [(0, .box [.i .i64 (li L 1), .i .i64 (li L 2), .i .i64 (li L 3), .sl 66 (lb L 4) (ll L 5), .sl 68 (lb L 6) (ll L 7), .sl 3 (lb L 8) (ll L 9), .sl 3 (lb L 10) (ll L 11), .m 1]), (1, .map 93 96 (lm L 12)), (5, .box (rL L 13 28 ([]))), (6, .box (rL L 41 4 ([]))), (9, .box (rL L 45 4 ([]))), (13, .box (rL L 49 4 ([])))]⟩)
noncomputable def A75x1x49 (N : Nat) (rc : Rc75x1) (L : List Lf) : List (Bool × (Ex × St)) := bnd (J75x1x49 N rc L (fun p => some p)) fun q => [(q.isSome, K75x1x49w0 L (q.getD default))]
theorem raw75x1x49 (N : Nat) (rc : Rc75x1) (L : List Lf) : (exec Try.prog ((O75x1 N) rc) ((h75x1s1 N) rc) 2 100 (piece Try.prog 75 49) (ofSh sh75x1x49 L) (fun e st => some (e, cutSt [11, 7, 8, 0, 3, 4, 124] [13, 9, 6, 5, 1, 0] st)) : Option (Ex × St)) = J75x1x49 N rc L (fun p => some (K75x1x49w0 L p)) := by kernel_rfl
theorem one75x1x49 : oneB Try.prog 75 49 = true := by kernel_rfl
theorem law75x1x49 (N : Nat) (rc : Rc75x1) (hR : OracleOk Try.prog ((O75x1 N) rc)) : CutLaw Try.prog 2 (piece Try.prog 75 49) (loSh sh75x1x49 ((A75x1x49 N) rc)) :=
  law_sh progOk hR ((al75x1s1 N) rc hR) one75x1x49 fun L x hx => (raw75x1x49 N rc L).trans ((bind75x1x49 N rc ..).trans (alt1 x hx))
noncomputable def h75x1s2 (N : Nat) (rc : Rc75x1) : Hint := { ((h75x1s1 N) rc) with los := (49, loSh sh75x1x49 ((A75x1x49 N) rc)) :: ((h75x1s1 N) rc).los }
theorem al75x1s2 (N : Nat) (rc : Rc75x1) (hR : OracleOk Try.prog ((O75x1 N) rc)) : AllCuts Try.prog ((h75x1s2 N) rc).los 2 75 := AllCuts.cons ((al75x1s1 N) rc hR) one75x1x49 ((law75x1x49 N) rc hR)
noncomputable def F75x1x53 (N : Nat) (rc : Rc75x1) {R : Type} (w1 : Bool) (w51 : Int) (k0 : Int → R) : R :=
  bif w1 then
    k0 (IntKind.wrap .i64 (w51 + 1))
  else
    k0 w51
noncomputable def V75x1x53 (N : Nat) (rc : Rc75x1) (w1 : Bool) (w51 : Int) : Int := F75x1x53 N rc w1 w51 (fun p => p)
theorem tot75x1x53 (N : Nat) (rc : Rc75x1) {R : Type} (w1 : Bool) (w51 : Int) (k0 : Int → R) : F75x1x53 N rc w1 w51 k0 = k0 (V75x1x53 N rc w1 w51) := by
  unfold V75x1x53 F75x1x53
  repeat' (first | rfl | apply cond_k | (apply bnd_k; intro _))
noncomputable def sh75x1x53 : Sh := { tmps := [(0, .c (.p 0 0)), (3, .c (.p 5 0)), (4, .c (.p 6 0)), (7, .c (.p 9 0)), (8, .c (.i .i64)), (11, .c (.p 13 0)), (124, .c (.b))], mem := [(0, .box (.i .i64 :: .i .i64 :: [.i .i64, .sl 66, .sl 68, .sl 3, .sl 3, .m 1])), (1, .map 93 96), (5, .box (rI 28 ([]))), (6, .box ([.i .i64, .i .i64, .i .i64, .i .i64])), (9, .box ([.i .i64, .i .i64, .i .i64, .i .i64])), (13, .box ([.i .i64, .i .i64, .i .i64, .i .i64]))] }
noncomputable def K75x1x53w0 (L : List Lf) (p : Int) : Ex × St := (.normal, ⟨[(0, .c (.p 0 0)), (3, .c (.p 5 0)), (4, .c (.p 6 0)), (7, .c (.p 9 0)), (8, .c (.i .i64 (li L 0))), (11, .c (.p 13 0))], [(0, .box [.i .i64 (li L 2), .i .i64 (li L 3), .i .i64 (li L 4), .sl 66 (lb L 5) (ll L 6), .sl 68 (lb L 7) (ll L 8), .sl 3 (lb L 9) (ll L 10), .sl 3 (lb L 11) (ll L 12), .m 1]), (1, .map 93 96 (lm L 13)), (5, .box (rL L 14 28 ([]))), (6, .box (rL L 42 4 ([]))), (9, .box (rL L 46 4 ([]))), (13, .box [.i .i64 (li L 50), .i .i64 p, .i .i64 (li L 52), .i .i64 (li L 53)])]⟩)
noncomputable def A75x1x53 (N : Nat) (rc : Rc75x1) (L : List Lf) : List (Bool × (Ex × St)) := bnd (F75x1x53 N rc (lb L 1) (li L 51) (fun p => p)) fun q => [(true, K75x1x53w0 L q)]
theorem raw75x1x53 (N : Nat) (rc : Rc75x1) (L : List Lf) : (exec Try.prog ((O75x1 N) rc) ((h75x1s2 N) rc) 2 100 (piece Try.prog 75 53) (ofSh sh75x1x53 L) (fun e st => some (e, cutSt [7, 11, 8, 0, 3, 4] [13, 9, 6, 5, 1, 0] st)) : Option (Ex × St)) = F75x1x53 N rc (lb L 1) (li L 51) (fun p => some (K75x1x53w0 L p)) := by kernel_rfl
theorem one75x1x53 : oneB Try.prog 75 53 = true := by kernel_rfl
theorem law75x1x53 (N : Nat) (rc : Rc75x1) (hR : OracleOk Try.prog ((O75x1 N) rc)) : CutLaw Try.prog 2 (piece Try.prog 75 53) (loSh sh75x1x53 ((A75x1x53 N) rc)) :=
  law_sh progOk hR ((al75x1s2 N) rc hR) one75x1x53 fun L x hx => (raw75x1x53 N rc L).trans ((tot75x1x53 N rc ..).trans (alt0 _ _ hx))
noncomputable def h75x1s3 (N : Nat) (rc : Rc75x1) : Hint := { ((h75x1s2 N) rc) with los := (53, loSh sh75x1x53 ((A75x1x53 N) rc)) :: ((h75x1s2 N) rc).los }
theorem al75x1s3 (N : Nat) (rc : Rc75x1) (hR : OracleOk Try.prog ((O75x1 N) rc)) : AllCuts Try.prog ((h75x1s3 N) rc).los 2 75 := AllCuts.cons ((al75x1s2 N) rc hR) one75x1x53 ((law75x1x53 N) rc hR)
noncomputable def F75x1x65 (N : Nat) (rc : Rc75x1) {R : Type} (w0 : Int) (w2 : Bool) (w47 w48 w49 w50 w52 w53 : Int) (k0 : Int × Int × Int × Int → R) : R :=
  bif w2 then
    k0 (0, w52, w53, w0)
  else
    k0 (w47, w48, w49, w50)
noncomputable def V75x1x65 (N : Nat) (rc : Rc75x1) (w0 : Int) (w2 : Bool) (w47 w48 w49 w50 w52 w53 : Int) : Int × Int × Int × Int := F75x1x65 N rc w0 w2 w47 w48 w49 w50 w52 w53 (fun p => p)
theorem tot75x1x65 (N : Nat) (rc : Rc75x1) {R : Type} (w0 : Int) (w2 : Bool) (w47 w48 w49 w50 w52 w53 : Int) (k0 : Int × Int × Int × Int → R) : F75x1x65 N rc w0 w2 w47 w48 w49 w50 w52 w53 k0 = k0 (V75x1x65 N rc w0 w2 w47 w48 w49 w50 w52 w53) := by
  unfold V75x1x65 F75x1x65
  repeat' (first | rfl | apply cond_k | (apply bnd_k; intro _))
noncomputable def J75x1x65 (N : Nat) (rc : Rc75x1) (L : List Lf) {R : Type} (k0 : Int × Int × Int × Int → R) : R := F75x1x65 N rc (li L 0) (lb L 2) (li L 47) (li L 48) (li L 49) (li L 50) (li L 52) (li L 53) k0
noncomputable def sh75x1x65 : Sh := { tmps := [(0, .c (.p 0 0)), (3, .c (.p 5 0)), (4, .c (.p 6 0)), (7, .c (.p 9 0)), (8, .c (.i .i64)), (11, .c (.p 13 0)), (13, .c (.i .i64)), (158, .c (.b))], mem := [(0, .box (.i .i64 :: .i .i64 :: [.i .i64, .sl 66, .sl 68, .sl 3, .sl 3, .m 1])), (1, .map 93 96), (5, .box (rI 28 ([]))), (6, .box ([.i .i64, .i .i64, .i .i64, .i .i64])), (9, .box ([.i .i64, .i .i64, .i .i64, .i .i64])), (13, .box ([.i .i64, .i .i64, .i .i64, .i .i64]))] }
noncomputable def K75x1x65w0 (L : List Lf) (p : Int × Int × Int × Int) : Ex × St := (.normal, ⟨[(0, .c (.p 0 0)), (3, .c (.p 5 0)), (4, .c (.p 6 0)), (7, .c (.p 9 0)), (8, .c (.i .i64 (li L 0))), (13, .c (.i .i64 (li L 1)))], [(0, .box [.i .i64 (li L 3), .i .i64 (li L 4), .i .i64 (li L 5), .sl 66 (lb L 6) (ll L 7), .sl 68 (lb L 8) (ll L 9), .sl 3 (lb L 10) (ll L 11), .sl 3 (lb L 12) (ll L 13), .m 1]), (1, .map 93 96 (lm L 14)), (5, .box (rL L 15 28 ([]))), (6, .box (rL L 43 4 ([]))), (9, .box [.i .i64 p.1, .i .i64 p.2.1, .i .i64 p.2.2.1, .i .i64 p.2.2.2])]⟩)
noncomputable def A75x1x65 (N : Nat) (rc : Rc75x1) (L : List Lf) : List (Bool × (Ex × St)) := bnd (J75x1x65 N rc L (fun p => p)) fun q => [(true, K75x1x65w0 L q)]
theorem raw75x1x65 (N : Nat) (rc : Rc75x1) (L : List Lf) : (exec Try.prog ((O75x1 N) rc) ((h75x1s3 N) rc) 2 100 (piece Try.prog 75 65) (ofSh sh75x1x65 L) (fun e st => some (e, cutSt [13, 7, 8, 0, 3, 4] [9, 6, 5, 1, 0] st)) : Option (Ex × St)) = J75x1x65 N rc L (fun p => some (K75x1x65w0 L p)) := by kernel_rfl
theorem one75x1x65 : oneB Try.prog 75 65 = true := by kernel_rfl
theorem law75x1x65 (N : Nat) (rc : Rc75x1) (hR : OracleOk Try.prog ((O75x1 N) rc)) : CutLaw Try.prog 2 (piece Try.prog 75 65) (loSh sh75x1x65 ((A75x1x65 N) rc)) :=
  law_sh progOk hR ((al75x1s3 N) rc hR) one75x1x65 fun L x hx => (raw75x1x65 N rc L).trans ((tot75x1x65 N rc ..).trans (alt0 _ _ hx))
noncomputable def h75x1s4 (N : Nat) (rc : Rc75x1) : Hint := { ((h75x1s3 N) rc) with los := (65, loSh sh75x1x65 ((A75x1x65 N) rc)) :: ((h75x1s3 N) rc).los }
theorem al75x1s4 (N : Nat) (rc : Rc75x1) (hR : OracleOk Try.prog ((O75x1 N) rc)) : AllCuts Try.prog ((h75x1s4 N) rc).los 2 75 := AllCuts.cons ((al75x1s3 N) rc hR) one75x1x65 ((law75x1x65 N) rc hR)
noncomputable def K75x1x24w0 (w1 w2 w3 : Int) (w4 : Bool) (w5 : LD) (w6 : Bool) (w7 : LD) (w8 : Bool) (w9 : LD) (w10 : Bool) (w11 : LD) (w13 w14 w15 w16 w17 w18 w19 w20 w21 w22 w23 w24 w25 w26 w27 w28 w29 w30 w31 w32 w33 w34 w35 w36 w37 w38 w39 w40 w41 w42 w43 w44 : Int) (p : Ty10) : Ex × St := ((.exit 0), ⟨[(0, .c (.p 0 0)), (3, .c (.p 5 0)), (4, .c (.p 6 0)), (7, .c (.p 9 0))], [(0, .box [.i .i64 w1, .i .i64 w2, .i .i64 w3, .sl 66 w4 w5, .sl 68 w6 w7, .sl 3 w8 w9, .sl 3 w10 w11, .m 1]), (1, .map 93 96 p.1), (5, .box [.i .i64 w13, .i .i64 w14, .i .i64 w15, .i .i64 w16, .i .i64 w17, .i .i64 w18, .i .i64 w19, .i .i64 w20, .i .i64 w21, .i .i64 w22, .i .i64 w23, .i .i64 w24, .i .i64 w25, .i .i64 w26, .i .i64 w27, .i .i64 w28, .i .i64 w29, .i .i64 w30, .i .i64 w31, .i .i64 w32, .i .i64 w33, .i .i64 w34, .i .i64 w35, .i .i64 w36, .i .i64 w37, .i .i64 w38, .i .i64 w39, .i .i64 w40]), (6, .box [.i .i64 w41, .i .i64 w42, .i .i64 w43, .i .i64 w44]), (9, .box [.i .i64 p.2.1, .i .i64 p.2.2.1, .i .i64 p.2.2.2.1, .i .i64 p.2.2.2.2])]⟩)
noncomputable def P75x1x24 (w0 w1 w2 w3 : Int) (w4 : Bool) (w5 : LD) (w6 : Bool) (w7 : LD) (w8 : Bool) (w9 : LD) (w10 : Bool) (w11 : LD) (w12 : (List (D × D))) (w13 w14 w15 w16 w17 w18 w19 w20 w21 w22 w23 w24 w25 w26 w27 w28 w29 w30 w31 w32 w33 w34 w35 w36 w37 w38 w39 w40 w41 w42 w43 w44 w45 w46 w47 w48 : Int) : St := ⟨[(0, .c (.p 0 0)), (3, .c (.p 5 0)), (4, .c (.p 6 0)), (7, .c (.p 9 0)), (8, .c (.i .i64 w0))], [(0, .box [.i .i64 w1, .i .i64 w2, .i .i64 w3, .sl 66 w4 w5, .sl 68 w6 w7, .sl 3 w8 w9, .sl 3 w10 w11, .m 1]), (1, .map 93 96 w12), (5, .box [.i .i64 w13, .i .i64 w14, .i .i64 w15, .i .i64 w16, .i .i64 w17, .i .i64 w18, .i .i64 w19, .i .i64 w20, .i .i64 w21, .i .i64 w22, .i .i64 w23, .i .i64 w24, .i .i64 w25, .i .i64 w26, .i .i64 w27, .i .i64 w28, .i .i64 w29, .i .i64 w30, .i .i64 w31, .i .i64 w32, .i .i64 w33, .i .i64 w34, .i .i64 w35, .i .i64 w36, .i .i64 w37, .i .i64 w38, .i .i64 w39, .i .i64 w40]), (6, .box [.i .i64 w41, .i .i64 w42, .i .i64 w43, .i .i64 w44]), (9, .box [.i .i64 w45, .i .i64 w46, .i .i64 w47, .i .i64 w48])]⟩
noncomputable def S75x1x24 (N : Nat) (rc : Rc75x1) {R : Type} (w1 w2 w3 : Int) (w4 : Bool) (w5 : LD) (w6 : Bool) (w7 : LD) (w8 : Bool) (w9 : LD) (w10 : Bool) (w11 : LD) (w13 w14 w15 w16 w17 w18 w19 w20 w21 w22 w23 w24 w25 w26 w27 w28 w29 w30 w31 w32 w33 w34 w35 w36 w37 w38 w39 w40 : Int) (w0 : Int) (w12 : (List (D × D))) (w45 w46 w47 w48 : Int) (kr : Int → (List (D × D)) → Int → Int → Int → Int → Option R) (k0 : Ty10 → Option R) : Option R :=
  bif (decide (w0 < (w5.length : Int))) then
    bnd (G75x1x31 N rc w0 w1 w5 w7 w9 w13 w16) fun y0 =>
    bif y0.isSome then
      bif (y0.getD default) then
        kr (IntKind.wrap .i64 (w0 + 1)) w12 w45 w46 w47 w48
      else
        bnd (G76x0 N w13 w14 w15 w16 w17 w18 w19 w20 w21 w22 w23 w24 w25 w26 w27 w28 w29 w30 w31 w32 w33 w34 w35 w36 w37 w38 w39 w40 w0 w2 w5 w7) fun y1 =>
        bif y1.isSome then
          bnd (y1.getD default).2.2.2.2.2.2.2.2.2.2.2.2.2.2.2.2.2.2.1 fun y2 =>
          bnd (y1.getD default).2.2.2.2.2.2.2.2.2.2.2.2.2.2.2.2.2.2.2.1 fun y3 =>
          bnd (y1.getD default).2.2.2.2.2.2.2.2.2.2.2.2.2.2.2.2.2.2.2.2.1 fun y4 =>
          bnd (y1.getD default).2.2.2.2.2.2.2.2.2.2.2.2.2.2.2.2.2.2.2.2.2.1 fun y5 =>
          bnd (y1.getD default).2.2.2.2.2.2.2.2.2.2.2.2.2.2.2.2.2.2.2.2.2.2.1 fun y6 =>
          bnd (y1.getD default).2.2.2.2.2.2.2.2.2.2.2.2.2.2.2.2.2.2.2.2.2.2.2.1 fun y7 =>
          bnd (y1.getD default).2.2.2.2.2.2.2.2.2.2.2.2.2.2.2.2.2.2.2.2.2.2.2.2.1 fun y8 =>
          bnd (y1.getD default).2.2.2.2.2.2.2.2.2.2.2.2.2.2.2.2.2.2.2.2.2.2.2.2.2.1 fun y9 =>
          bnd (y1.getD default).2.2.2.2.2.2.2.2.2.2.2.2.2.2.2.2.2.2.2.2.2.2.2.2.2.2.1 fun y10 =>
          bnd (y1.getD default).2.2.2.2.2.2.2.2.2.2.2.2.2.2.2.2.2.2.2.2.2.2.2.2.2.2.2.1 fun y11 =>
          bnd (y1.getD default).2.2.2.2.2.2.2.2.2.2.2.2.2.2.2.2.2.2.2.2.2.2.2.2.2.2.2.2 fun y12 =>
          bif (!y12) then
            kr (IntKind.wrap .i64 (w0 + 1)) w12 w45 w46 w47 w48
          else
            bnd (rc (y1.getD default).1 (y1.getD default).2.1 (y1.getD default).2.2.1 (y1.getD default).2.2.2.1 (y1.getD default).2.2.2.2.1 (y1.getD default).2.2.2.2.2.1 (y1.getD default).2.2.2.2.2.2.1 (y1.getD default).2.2.2.2.2.2.2.1 (y1.getD default).2.2.2.2.2.2.2.2.1 (y1.getD default).2.2.2.2.2.2.2.2.2.1 (y1.getD default).2.2.2.2.2.2.2.2.2.2.1 (y1.getD default).2.2.2.2.2.2.2.2.2.2.2.1 (y1.getD default).2.2.2.2.2.2.2.2.2.2.2.2.1 (y1.getD default).2.2.2.2.2.2.2.2.2.2.2.2.2.1 (y1.getD default).2.2.2.2.2.2.2.2.2.2.2.2.2.2.1 (y1.getD default).2.2.2.2.2.2.2.2.2.2.2.2.2.2.2.1 (y1.getD default).2.2.2.2.2.2.2.2.2.2.2.2.2.2.2.2.1 (y1.getD default).2.2.2.2.2.2.2.2.2.2.2.2.2.2.2.2.2.1 y2 y3 y4 y5 y6 y7 y8 y9 y10 y11 w1 w2 w3 w4 w5 w6 w7 w8 w9 w10 w11 w12) fun y13 =>
            bif y13.isSome then
              bif ((y13.getD default).1 == 0) then
                kr (IntKind.wrap .i64 (w0 + 1)) (y13.getD default).2.2.2.2 w45 w46 w47 w48
              else
                bnd (G63x0 N w5 w0) fun y14 =>
                bif y14.isSome then
                  bnd (IntKind.wrap .i64 ((y13.getD default).2.2.1 + (y14.getD default).2.2.2.1)) fun y15 =>
                  bnd (G75x1x49 N rc w0 w9 w10 w11 w13) fun y16 =>
                  bif y16.isSome then
                    bnd (V75x1x53 N rc (y16.getD default) (y13.getD default).2.1) fun y17 =>
                    bnd (bif (bif (w45 == 0) then true else (decide (y17 < w46))) then true else (bif (y17 == w46) then (decide (y15 > w47)) else false)) fun y18 =>
                    bnd (V75x1x65 N rc w0 y18 w45 w46 w47 w48 y17 y15) fun y19 =>
                    kr (IntKind.wrap .i64 (w0 + 1)) (y13.getD default).2.2.2.2 (IntKind.wrap .i64 (w45 + (y13.getD default).1)) y19.2.1 y19.2.2.1 y19.2.2.2
                  else
                    none
                else
                  none
            else
              none
        else
          none
    else
      none
  else
    k0 (w12, w45, w46, w47, w48)
theorem mono75x1x24 (N : Nat) (rc : Rc75x1) {R : Type} (w1 w2 w3 : Int) (w4 : Bool) (w5 : LD) (w6 : Bool) (w7 : LD) (w8 : Bool) (w9 : LD) (w10 : Bool) (w11 : LD) (w13 w14 w15 w16 w17 w18 w19 w20 w21 w22 w23 w24 w25 w26 w27 w28 w29 w30 w31 w32 w33 w34 w35 w36 w37 w38 w39 w40 : Int) (w0 : Int) (w12 : (List (D × D))) (w45 w46 w47 w48 : Int) {kr kr' : Int → (List (D × D)) → Int → Int → Int → Int → Option R} (k0 : Ty10 → Option R) {r : R} (hk : ∀ w0' w12' w45' w46' w47' w48', kr w0' w12' w45' w46' w47' w48' = some r → kr' w0' w12' w45' w46' w47' w48' = some r) : S75x1x24 N rc w1 w2 w3 w4 w5 w6 w7 w8 w9 w10 w11 w13 w14 w15 w16 w17 w18 w19 w20 w21 w22 w23 w24 w25 w26 w27 w28 w29 w30 w31 w32 w33 w34 w35 w36 w37 w38 w39 w40 w0 w12 w45 w46 w47 w48 kr k0 = some r → S75x1x24 N rc w1 w2 w3 w4 w5 w6 w7 w8 w9 w10 w11 w13 w14 w15 w16 w17 w18 w19 w20 w21 w22 w23 w24 w25 w26 w27 w28 w29 w30 w31 w32 w33 w34 w35 w36 w37 w38 w39 w40 w0 w12 w45 w46 w47 w48 kr' k0 = some r := by
  unfold S75x1x24
  repeat' (first | exact hk _ _ _ _ _ _ | exact fun h => h | apply cond_mono | (apply bnd_mono; intro _))
noncomputable def L75x1x24 (N : Nat) (rc : Rc75x1) {R : Type} (w1 w2 w3 : Int) (w4 : Bool) (w5 : LD) (w6 : Bool) (w7 : LD) (w8 : Bool) (w9 : LD) (w10 : Bool) (w11 : LD) (w13 w14 w15 w16 w17 w18 w19 w20 w21 w22 w23 w24 w25 w26 w27 w28 w29 w30 w31 w32 w33 w34 w35 w36 w37 w38 w39 w40 : Int) : Nat → Int → (List (D × D)) → Int → Int → Int → Int → (Ty10 → Option R) → Option R
  | 0, _, _, _, _, _, _, _ => none
  | m + 1, w0, w12, w45, w46, w47, w48, k0 => S75x1x24 N rc w1 w2 w3 w4 w5 w6 w7 w8 w9 w10 w11 w13 w14 w15 w16 w17 w18 w19 w20 w21 w22 w23 w24 w25 w26 w27 w28 w29 w30 w31 w32 w33 w34 w35 w36 w37 w38 w39 w40 w0 w12 w45 w46 w47 w48 (fun w0 w12 w45 w46 w47 w48 => L75x1x24 N rc w1 w2 w3 w4 w5 w6 w7 w8 w9 w10 w11 w13 w14 w15 w16 w17 w18 w19 w20 w21 w22 w23 w24 w25 w26 w27 w28 w29 w30 w31 w32 w33 w34 w35 w36 w37 w38 w39 w40 m w0 w12 w45 w46 w47 w48 k0) k0
theorem lp75x1x24 : piece Try.prog 75 24 = .loop (loopB (piece Try.prog 75 24)) := by kernel_rfl
theorem nl75x1x24 (N : Nat) (rc : Rc75x1) : lawOf ((h75x1s4 N) rc) (.loop (loopB (piece Try.prog 75 24))) = none := by kernel_rfl
theorem cl75x1x24 (N : Nat) (rc : Rc75x1) (w1 w2 w3 : Int) (w4 : Bool) (w5 : LD) (w6 : Bool) (w7 : LD) (w8 : Bool) (w9 : LD) (w10 : Bool) (w11 : LD) (w13 w14 w15 w16 w17 w18 w19 w20 w21 w22 w23 w24 w25 w26 w27 w28 w29 w30 w31 w32 w33 w34 w35 w36 w37 w38 w39 w40 w41 w42 w43 w44 : Int) (w0 : Int) (w12 : (List (D × D))) (w45 w46 w47 w48 : Int) : clearSt Try.prog 2 ((h75x1s4 N) rc).loops 24 (P75x1x24 w0 w1 w2 w3 w4 w5 w6 w7 w8 w9 w10 w11 w12 w13 w14 w15 w16 w17 w18 w19 w20 w21 w22 w23 w24 w25 w26 w27 w28 w29 w30 w31 w32 w33 w34 w35 w36 w37 w38 w39 w40 w41 w42 w43 w44 w45 w46 w47 w48) = (P75x1x24 w0 w1 w2 w3 w4 w5 w6 w7 w8 w9 w10 w11 w12 w13 w14 w15 w16 w17 w18 w19 w20 w21 w22 w23 w24 w25 w26 w27 w28 w29 w30 w31 w32 w33 w34 w35 w36 w37 w38 w39 w40 w41 w42 w43 w44 w45 w46 w47 w48) := by kernel_rfl
theorem step75x1x24 (N : Nat) (rc : Rc75x1) (m : Nat) (kn : St → Option (Ex × St)) (w1 w2 w3 : Int) (w4 : Bool) (w5 : LD) (w6 : Bool) (w7 : LD) (w8 : Bool) (w9 : LD) (w10 : Bool) (w11 : LD) (w13 w14 w15 w16 w17 w18 w19 w20 w21 w22 w23 w24 w25 w26 w27 w28 w29 w30 w31 w32 w33 w34 w35 w36 w37 w38 w39 w40 w41 w42 w43 w44 : Int) (w0 : Int) (w12 : (List (D × D))) (w45 w46 w47 w48 : Int) : exec Try.prog ((O75x1 N) rc) ((h75x1s4 N) rc) 2 (m + 100) (loopB (piece Try.prog 75 24)) (P75x1x24 w0 w1 w2 w3 w4 w5 w6 w7 w8 w9 w10 w11 w12 w13 w14 w15 w16 w17 w18 w19 w20 w21 w22 w23 w24 w25 w26 w27 w28 w29 w30 w31 w32 w33 w34 w35 w36 w37 w38 w39 w40 w41 w42 w43 w44 w45 w46 w47 w48) (reK (fun st => kn (clearSt Try.prog 2 ((h75x1s4 N) rc).loops 24 st)) (fun e st => some (e, cutSt [4, 0, 3, 7] [9, 6, 5, 1, 0] st))) = S75x1x24 N rc w1 w2 w3 w4 w5 w6 w7 w8 w9 w10 w11 w13 w14 w15 w16 w17 w18 w19 w20 w21 w22 w23 w24 w25 w26 w27 w28 w29 w30 w31 w32 w33 w34 w35 w36 w37 w38 w39 w40 w0 w12 w45 w46 w47 w48 (fun w0 w12 w45 w46 w47 w48 => kn (P75x1x24 w0 w1 w2 w3 w4 w5 w6 w7 w8 w9 w10 w11 w12 w13 w14 w15 w16 w17 w18 w19 w20 w21 w22 w23 w24 w25 w26 w27 w28 w29 w30 w31 w32 w33 w34 w35 w36 w37 w38 w39 w40 w41 w42 w43 w44 w45 w46 w47 w48)) (fun p => some (K75x1x24w0 w1 w2 w3 w4 w5 w6 w7 w8 w9 w10 w11 w13 w14 w15 w16 w17 w18 w19 w20 w21 w22 w23 w24 w25 w26 w27 w28 w29 w30 w31 w32 w33 w34 w35 w36 w37 w38 w39 w40 w41 w42 w43 w44 p)) := by kernel_rfl
theorem run75x1x24 (N : Nat) (rc : Rc75x1) (w1 w2 w3 : Int) (w4 : Bool) (w5 : LD) (w6 : Bool) (w7 : LD) (w8 : Bool) (w9 : LD) (w10 : Bool) (w11 : LD) (w13 w14 w15 w16 w17 w18 w19 w20 w21 w22 w23 w24 w25 w26 w27 w28 w29 w30 w31 w32 w33 w34 w35 w36 w37 w38 w39 w40 w41 w42 w43 w44 : Int) : ∀ (m : Nat) (w0 : Int) (w12 : (List (D × D))) (w45 w46 w47 w48 : Int) (x : Ex × St), L75x1x24 N rc w1 w2 w3 w4 w5 w6 w7 w8 w9 w10 w11 w13 w14 w15 w16 w17 w18 w19 w20 w21 w22 w23 w24 w25 w26 w27 w28 w29 w30 w31 w32 w33 w34 w35 w36 w37 w38 w39 w40 m w0 w12 w45 w46 w47 w48 (fun p => some (K75x1x24w0 w1 w2 w3 w4 w5 w6 w7 w8 w9 w10 w11 w13 w14 w15 w16 w17 w18 w19 w20 w21 w22 w23 w24 w25 w26 w27 w28 w29 w30 w31 w32 w33 w34 w35 w36 w37 w38 w39 w40 w41 w42 w43 w44 p)) = some x → exec Try.prog ((O75x1 N) rc) ((h75x1s4 N) rc) 2 (m + 101) (.loop (loopB (piece Try.prog 75 24))) (P75x1x24 w0 w1 w2 w3 w4 w5 w6 w7 w8 w9 w10 w11 w12 w13 w14 w15 w16 w17 w18 w19 w20 w21 w22 w23 w24 w25 w26 w27 w28 w29 w30 w31 w32 w33 w34 w35 w36 w37 w38 w39 w40 w41 w42 w43 w44 w45 w46 w47 w48) (fun e st => some (e, cutSt [4, 0, 3, 7] [9, 6, 5, 1, 0] st)) = some x := by
  intro m
  induction m with
  | zero => intro w0 w12 w45 w46 w47 w48 x h; cases h
  | succ m ih =>
    intro w0 w12 w45 w46 w47 w48 x h
    exact loop_round (n := m + 101) ((nl75x1x24 N) rc) (by kernel_rfl) (cl75x1x24 N rc ..) (fun kn => step75x1x24 N rc (m + 1) kn ..) (mono75x1x24 N rc _ _ _ _ _ _ _ _ _ _ _ _ _ _ _ _ _ _ _ _ _ _ _ _ _ _ _ _ _ _ _ _ _ _ _ _ _ _ _ _ _ _ _ _ _ _ (fun w0 w12 w45 w46 w47 w48 => ih w0 w12 w45 w46 w47 w48 x) h)
noncomputable def G75x1x24 (N : Nat) (rc : Rc75x1) (w1 w2 w3 : Int) (w4 : Bool) (w5 : LD) (w6 : Bool) (w7 : LD) (w8 : Bool) (w9 : LD) (w10 : Bool) (w11 : LD) (w13 w14 w15 w16 w17 w18 w19 w20 w21 w22 w23 w24 w25 w26 w27 w28 w29 w30 w31 w32 w33 w34 w35 w36 w37 w38 w39 w40 : Int) (w0 : Int) (w12 : (List (D × D))) (w45 w46 w47 w48 : Int) : Option (Ty10) := L75x1x24 N rc (R := (Ty10)) w1 w2 w3 w4 w5 w6 w7 w8 w9 w10 w11 w13 w14 w15 w16 w17 w18 w19 w20 w21 w22 w23 w24 w25 w26 w27 w28 w29 w30 w31 w32 w33 w34 w35 w36 w37 w38 w39 w40 N w0 w12 w45 w46 w47 w48 (fun p => some p)
theorem sb75x1x24 (N : Nat) (rc : Rc75x1) {R A : Type} (w1 w2 w3 : Int) (w4 : Bool) (w5 : LD) (w6 : Bool) (w7 : LD) (w8 : Bool) (w9 : LD) (w10 : Bool) (w11 : LD) (w13 w14 w15 w16 w17 w18 w19 w20 w21 w22 w23 w24 w25 w26 w27 w28 w29 w30 w31 w32 w33 w34 w35 w36 w37 w38 w39 w40 : Int) (w0 : Int) (w12 : (List (D × D))) (w45 w46 w47 w48 : Int) (kr : Int → (List (D × D)) → Int → Int → Int → Int → Option R) (kr' : Int → (List (D × D)) → Int → Int → Int → Int → Option A) (k0 : Ty10 → Option R) (j0 : Ty10 → Option A) (K : A → Option R) (hr : ∀ w0' w12' w45' w46' w47' w48', kr w0' w12' w45' w46' w47' w48' = (kr' w0' w12' w45' w46' w47' w48').bind K) (h0 : ∀ p, k0 p = (j0 p).bind K) : S75x1x24 N rc w1 w2 w3 w4 w5 w6 w7 w8 w9 w10 w11 w13 w14 w15 w16 w17 w18 w19 w20 w21 w22 w23 w24 w25 w26 w27 w28 w29 w30 w31 w32 w33 w34 w35 w36 w37 w38 w39 w40 w0 w12 w45 w46 w47 w48 kr k0 = (S75x1x24 N rc w1 w2 w3 w4 w5 w6 w7 w8 w9 w10 w11 w13 w14 w15 w16 w17 w18 w19 w20 w21 w22 w23 w24 w25 w26 w27 w28 w29 w30 w31 w32 w33 w34 w35 w36 w37 w38 w39 w40 w0 w12 w45 w46 w47 w48 kr' j0).bind K := by
  unfold S75x1x24
  repeat' (first | rfl | apply hr | apply h0 | apply cond_b | (apply bnd_b; intro _))
theorem lbind75x1x24 (N : Nat) (rc : Rc75x1) {R : Type} (w1 w2 w3 : Int) (w4 : Bool) (w5 : LD) (w6 : Bool) (w7 : LD) (w8 : Bool) (w9 : LD) (w10 : Bool) (w11 : LD) (w13 w14 w15 w16 w17 w18 w19 w20 w21 w22 w23 w24 w25 w26 w27 w28 w29 w30 w31 w32 w33 w34 w35 w36 w37 w38 w39 w40 : Int) : ∀ (m : Nat) (w0 : Int) (w12 : (List (D × D))) (w45 w46 w47 w48 : Int) (k0 : Ty10 → Option R), L75x1x24 N rc w1 w2 w3 w4 w5 w6 w7 w8 w9 w10 w11 w13 w14 w15 w16 w17 w18 w19 w20 w21 w22 w23 w24 w25 w26 w27 w28 w29 w30 w31 w32 w33 w34 w35 w36 w37 w38 w39 w40 m w0 w12 w45 w46 w47 w48 k0 = (L75x1x24 N rc (R := (Ty10)) w1 w2 w3 w4 w5 w6 w7 w8 w9 w10 w11 w13 w14 w15 w16 w17 w18 w19 w20 w21 w22 w23 w24 w25 w26 w27 w28 w29 w30 w31 w32 w33 w34 w35 w36 w37 w38 w39 w40 m w0 w12 w45 w46 w47 w48 (fun p => some p)).bind k0 := by
  intro m
  induction m with
  | zero => intros; rfl
  | succ m ih =>
    intro w0 w12 w45 w46 w47 w48 k0
    exact sb75x1x24 N rc _ _ _ _ _ _ _ _ _ _ _ _ _ _ _ _ _ _ _ _ _ _ _ _ _ _ _ _ _ _ _ _ _ _ _ _ _ _ _ _ _ _ _ _ _ _ _ _ _ _ (fun w0 w12 w45 w46 w47 w48 => ih w0 w12 w45 w46 w47 w48 k0) (fun _ => rfl)
theorem one75x1x24 : oneB Try.prog 75 24 = true := by kernel_rfl
noncomputable def sh75x1x24 : Sh := { tmps := [(0, .c (.p 0 0)), (3, .c (.p 5 0)), (4, .c (.p 6 0)), (7, .c (.p 9 0)), (8, .c (.i .i64))], mem := [(0, .box (.i .i64 :: .i .i64 :: [.i .i64, .sl 66, .sl 68, .sl 3, .sl 3, .m 1])), (1, .map 93 96), (5, .box (rI 28 ([]))), (6, .box ([.i .i64, .i .i64, .i .i64, .i .i64])), (9, .box ([.i .i64, .i .i64, .i .i64, .i .i64]))] }
noncomputable def A75x1x24 (N : Nat) (rc : Rc75x1) (L : List Lf) : List (Bool × (Ex × St)) := bnd (G75x1x24 N rc (li L 1) (li L 2) (li L 3) (lb L 4) (ll L 5) (lb L 6) (ll L 7) (lb L 8) (ll L 9) (lb L 10) (ll L 11) (li L 13) (li L 14) (li L 15) (li L 16) (li L 17) (li L 18) (li L 19) (li L 20) (li L 21) (li L 22) (li L 23) (li L 24) (li L 25) (li L 26) (li L 27) (li L 28) (li L 29) (li L 30) (li L 31) (li L 32) (li L 33) (li L 34) (li L 35) (li L 36) (li L 37) (li L 38) (li L 39) (li L 40) (li L 0) (lm L 12) (li L 45) (li L 46) (li L 47) (li L 48)) fun q => [(q.isSome, K75x1x24w0 (li L 1) (li L 2) (li L 3) (lb L 4) (ll L 5) (lb L 6) (ll L 7) (lb L 8) (ll L 9) (lb L 10) (ll L 11) (li L 13) (li L 14) (li L 15) (li L 16) (li L 17) (li L 18) (li L 19) (li L 20) (li L 21) (li L 22) (li L 23) (li L 24) (li L 25) (li L 26) (li L 27) (li L 28) (li L 29) (li L 30) (li L 31) (li L 32) (li L 33) (li L 34) (li L 35) (li L 36) (li L 37) (li L 38) (li L 39) (li L 40) (li L 41) (li L 42) (li L 43) (li L 44) (q.getD default))]
theorem eq75x1x24 (L : List Lf) : ofSh sh75x1x24 L = (P75x1x24 (li L 0) (li L 1) (li L 2) (li L 3) (lb L 4) (ll L 5) (lb L 6) (ll L 7) (lb L 8) (ll L 9) (lb L 10) (ll L 11) (lm L 12) (li L 13) (li L 14) (li L 15) (li L 16) (li L 17) (li L 18) (li L 19) (li L 20) (li L 21) (li L 22) (li L 23) (li L 24) (li L 25) (li L 26) (li L 27) (li L 28) (li L 29) (li L 30) (li L 31) (li L 32) (li L 33) (li L 34) (li L 35) (li L 36) (li L 37) (li L 38) (li L 39) (li L 40) (li L 41) (li L 42) (li L 43) (li L 44) (li L 45) (li L 46) (li L 47) (li L 48)) := by kernel_rfl
theorem law75x1x24 (N : Nat) (rc : Rc75x1) (hR : OracleOk Try.prog ((O75x1 N) rc)) : CutLaw Try.prog 2 (piece Try.prog 75 24) (loSh sh75x1x24 ((A75x1x24 N) rc)) :=
  law_shL progOk hR ((al75x1s4 N) rc hR) one75x1x24 lp75x1x24 eq75x1x24 fun L x hx => run75x1x24 N rc _ _ _ _ _ _ _ _ _ _ _ _ _ _ _ _ _ _ _ _ _ _ _ _ _ _ _ _ _ _ _ _ _ _ _ _ _ _ _ _ _ _ _ N _ _ _ _ _ _ x ((lbind75x1x24 N rc _ _ _ _ _ _ _ _ _ _ _ _ _ _ _ _ _ _ _ _ _ _ _ _ _ _ _ _ _ _ _ _ _ _ _ _ _ _ _ N _ _ _ _ _ _ _).trans (alt1 x hx))
noncomputable def h75x1s5 (N : Nat) (rc : Rc75x1) : Hint := { ((h75x1s4 N) rc) with los := (24, loSh sh75x1x24 ((A75x1x24 N) rc)) :: ((h75x1s4 N) rc).los }
theorem al75x1s5 (N : Nat) (rc : Rc75x1) (hR : OracleOk Try.prog ((O75x1 N) rc)) : AllCuts Try.prog ((h75x1s5 N) rc).los 2 75 := AllCuts.cons ((al75x1s4 N) rc hR) one75x1x24 ((law75x1x24 N) rc hR)
noncomputable def F75x1 (N : Nat) (rc : Rc75x1) {R : Type} (v0 v1 v2 v3 v4 v5 v6 v7 v8 v9 v10 v11 v12 v13 v14 v15 v16 v17 v18 v19 v20 v21 v22 v23 v24 v25 v26 v27 v28 v29 v30 : Int) (v31 : Bool) (v32 : LD) (v33 : Bool) (v34 : LD) (v35 : Bool) (v36 : LD) (v37 : Bool) (v38 : LD) (v39 : (List (D × D))) (k0 : Ty9 → Option R) : Option R :=
  bif (v0 == v29) then
    k0 (1, 0, 0, (-2), v39)
  else
    bnd (((findB Try.prog 93 (.a [(.i v0), (.i v1), (.i v2), (.i v3), (.i v4), (.i v5), (.i v6), (.i v7), (.i v8), (.i v9), (.i v10), (.i v11), (.i v12), (.i v13), (.i v14), (.i v15), (.i v16), (.i v17), (.i v18), (.i v19), (.i v20), (.i v21), (.i v22), (.i v23), (.i v24), (.i v25), (.i v26), (.i v27)]) v39).getD (.a [(.i 0), (.i 0), (.i 0), (.i 0)])).cell 0).toI fun y0 =>
    bnd (((findB Try.prog 93 (.a [(.i v0), (.i v1), (.i v2), (.i v3), (.i v4), (.i v5), (.i v6), (.i v7), (.i v8), (.i v9), (.i v10), (.i v11), (.i v12), (.i v13), (.i v14), (.i v15), (.i v16), (.i v17), (.i v18), (.i v19), (.i v20), (.i v21), (.i v22), (.i v23), (.i v24), (.i v25), (.i v26), (.i v27)]) v39).getD (.a [(.i 0), (.i 0), (.i 0), (.i 0)])).cell 1).toI fun y1 =>
    bnd (((findB Try.prog 93 (.a [(.i v0), (.i v1), (.i v2), (.i v3), (.i v4), (.i v5), (.i v6), (.i v7), (.i v8), (.i v9), (.i v10), (.i v11), (.i v12), (.i v13), (.i v14), (.i v15), (.i v16), (.i v17), (.i v18), (.i v19), (.i v20), (.i v21), (.i v22), (.i v23), (.i v24), (.i v25), (.i v26), (.i v27)]) v39).getD (.a [(.i 0), (.i 0), (.i 0), (.i 0)])).cell 2).toI fun y2 =>
    bnd (((findB Try.prog 93 (.a [(.i v0), (.i v1), (.i v2), (.i v3), (.i v4), (.i v5), (.i v6), (.i v7), (.i v8), (.i v9), (.i v10), (.i v11), (.i v12), (.i v13), (.i v14), (.i v15), (.i v16), (.i v17), (.i v18), (.i v19), (.i v20), (.i v21), (.i v22), (.i v23), (.i v24), (.i v25), (.i v26), (.i v27)]) v39).getD (.a [(.i 0), (.i 0), (.i 0), (.i 0)])).cell 3).toI fun y3 =>
    bnd (findB Try.prog 93 (.a [(.i v0), (.i v1), (.i v2), (.i v3), (.i v4), (.i v5), (.i v6), (.i v7), (.i v8), (.i v9), (.i v10), (.i v11), (.i v12), (.i v13), (.i v14), (.i v15), (.i v16), (.i v17), (.i v18), (.i v19), (.i v20), (.i v21), (.i v22), (.i v23), (.i v24), (.i v25), (.i v26), (.i v27)]) v39).isSome fun y4 =>
    bif y4 then
      k0 (y0, y1, y2, y3, v39)
    else
      bnd (G75x1x24 N rc v28 v29 v30 v31 v32 v33 v34 v35 v36 v37 v38 v0 v1 v2 v3 v4 v5 v6 v7 v8 v9 v10 v11 v12 v13 v14 v15 v16 v17 v18 v19 v20 v21 v22 v23 v24 v25 v26 v27 (-1) v39 0 0 0 (-2)) fun y5 =>
      bif y5.isSome then
        bnd (putB Try.prog 93 (.a [(.i v0), (.i v1), (.i v2), (.i v3), (.i v4), (.i v5), (.i v6), (.i v7), (.i v8), (.i v9), (.i v10), (.i v11), (.i v12), (.i v13), (.i v14), (.i v15), (.i v16), (.i v17), (.i v18), (.i v19), (.i v20), (.i v21), (.i v22), (.i v23), (.i v24), (.i v25), (.i v26), (.i v27)]) (.a [(.i (y5.getD default).2.1), (.i (y5.getD default).2.2.1), (.i (y5.getD default).2.2.2.1), (.i (y5.getD default).2.2.2.2)]) (y5.getD default).1) fun y6 =>
        k0 ((y5.getD default).2.1, (y5.getD default).2.2.1, (y5.getD default).2.2.2.1, (y5.getD default).2.2.2.2, y6)
      else
        none
noncomputable def G75x1 (N : Nat) (rc : Rc75x1) (v0 v1 v2 v3 v4 v5 v6 v7 v8 v9 v10 v11 v12 v13 v14 v15 v16 v17 v18 v19 v20 v21 v22 v23 v24 v25 v26 v27 v28 v29 v30 : Int) (v31 : Bool) (v32 : LD) (v33 : Bool) (v34 : LD) (v35 : Bool) (v36 : LD) (v37 : Bool) (v38 : LD) (v39 : (List (D × D))) : Option (Ty9) := F75x1 N rc v0 v1 v2 v3 v4 v5 v6 v7 v8 v9 v10 v11 v12 v13 v14 v15 v16 v17 v18 v19 v20 v21 v22 v23 v24 v25 v26 v27 v28 v29 v30 v31 v32 v33 v34 v35 v36 v37 v38 v39 (fun p => some p)
theorem bind75x1 (N : Nat) (rc : Rc75x1) {R : Type} (v0 v1 v2 v3 v4 v5 v6 v7 v8 v9 v10 v11 v12 v13 v14 v15 v16 v17 v18 v19 v20 v21 v22 v23 v24 v25 v26 v27 v28 v29 v30 : Int) (v31 : Bool) (v32 : LD) (v33 : Bool) (v34 : LD) (v35 : Bool) (v36 : LD) (v37 : Bool) (v38 : LD) (v39 : (List (D × D))) (k0 : Ty9 → Option R) : F75x1 N rc v0 v1 v2 v3 v4 v5 v6 v7 v8 v9 v10 v11 v12 v13 v14 v15 v16 v17 v18 v19 v20 v21 v22 v23 v24 v25 v26 v27 v28 v29 v30 v31 v32 v33 v34 v35 v36 v37 v38 v39 k0 = (G75x1 N rc v0 v1 v2 v3 v4 v5 v6 v7 v8 v9 v10 v11 v12 v13 v14 v15 v16 v17 v18 v19 v20 v21 v22 v23 v24 v25 v26 v27 v28 v29 v30 v31 v32 v33 v34 v35 v36 v37 v38 v39).bind k0 := by
  unfold G75x1 F75x1
  repeat' (first | rfl | apply cond_b | (apply bnd_b; intro _))
noncomputable def J75x1 (N : Nat) (rc : Rc75x1) (L : List Lf) {R : Type} (k0 : Ty9 → Option R) : Option R := F75x1 N rc (li L 0) (li L 1) (li L 2) (li L 3) (li L 4) (li L 5) (li L 6) (li L 7) (li L 8) (li L 9) (li L 10) (li L 11) (li L 12) (li L 13) (li L 14) (li L 15) (li L 16) (li L 17) (li L 18) (li L 19) (li L 20) (li L 21) (li L 22) (li L 23) (li L 24) (li L 25) (li L 26) (li L 27) (li L 28) (li L 29) (li L 30) (lb L 31) (ll L 32) (lb L 33) (ll L 34) (lb L 35) (ll L 36) (lb L 37) (ll L 38) (lm L 39) k0
noncomputable def K75x1w0 (L : List Lf) (p : Ty9) : Res := ([.g [.i .i64 p.1, .i .i64 p.2.1, .i .i64 p.2.2.1, .i .i64 p.2.2.2.1]], [(0, .box [.i .i64 (li L 28), .i .i64 (li L 29), .i .i64 (li L 30), .sl 66 (lb L 31) (ll L 32), .sl 68 (lb L 33) (ll L 34), .sl 3 (lb L 35) (ll L 36), .sl 3 (lb L 37) (ll L 38), .m 1]), (1, .map 93 96 p.2.2.2.2)])
theorem raw75x1 (N : Nat) (rc : Rc75x1) (L : List Lf) : (body Try.prog ((O75x1 N) rc) ((h75x1s5 N) rc) 200 75 (valsOf (ofSh sh75x1 L).tmps) (ofSh sh75x1 L).mem : Option Res) = J75x1 N rc L (fun p => some (K75x1w0 L p)) := by kernel_rfl
theorem fin75x1 (N : Nat) (rc : Rc75x1) (hR : OracleOk Try.prog ((O75x1 N) rc)) (L : List Lf) (x : Res) (hx : altK ((B75x1 N) (fun v0 v1 v2 v3 v4 v5 v6 v7 v8 v9 v10 v11 v12 v13 v14 v15 v16 v17 v18 v19 v20 v21 v22 v23 v24 v25 v26 v27 v28 v29 v30 v31 v32 v33 v34 v35 v36 v37 v38 v39 => G75x1 N rc v0 v1 v2 v3 v4 v5 v6 v7 v8 v9 v10 v11 v12 v13 v14 v15 v16 v17 v18 v19 v20 v21 v22 v23 v24 v25 v26 v27 v28 v29 v30 v31 v32 v33 v34 v35 v36 v37 v38 v39) L) some = some x) : CallOk Try.prog 75 (valsOf (ofSh sh75x1 L).tmps) (ofSh sh75x1 L).mem x :=
  callOk_of (n := 200) progOk hR ((al75x1s5 N) rc hR) rfl ((raw75x1 N rc L).trans ((bind75x1 N rc ..).trans (alt1 x hx)))
noncomputable def R75x1 (N : Nat) : Nat → Rc75x1
  | 0 => fun _ _ _ _ _ _ _ _ _ _ _ _ _ _ _ _ _ _ _ _ _ _ _ _ _ _ _ _ _ _ _ _ _ _ _ _ _ _ _ _ => none
  | m + 1 => fun v0 v1 v2 v3 v4 v5 v6 v7 v8 v9 v10 v11 v12 v13 v14 v15 v16 v17 v18 v19 v20 v21 v22 v23 v24 v25 v26 v27 v28 v29 v30 v31 v32 v33 v34 v35 v36 v37 v38 v39 => G75x1 N (R75x1 N m) v0 v1 v2 v3 v4 v5 v6 v7 v8 v9 v10 v11 v12 v13 v14 v15 v16 v17 v18 v19 v20 v21 v22 v23 v24 v25 v26 v27 v28 v29 v30 v31 v32 v33 v34 v35 v36 v37 v38 v39
theorem Rok75x1 (N : Nat) : ∀ m, OracleOk Try.prog ((O75x1 N) (R75x1 N m))
  | 0 => ext_ok (T76x0_ok N) (enters_of (by kernel_rfl)) (spSh_law fun L x hx => by
    have h : (none : Option Res) = some x := hx
    cases h)
  | m + 1 => ext_ok (T76x0_ok N) (enters_of (by kernel_rfl)) (spSh_law fun L x hx => fin75x1 N (R75x1 N m) (Rok75x1 N m) L x hx)
noncomputable def T75x1 (N : Nat) : Oracle := (O75x1 N) (R75x1 N N)
theorem T75x1_ok (N : Nat) : OracleOk Try.prog (T75x1 N) := Rok75x1 N N
noncomputable def rg45x0 : List (Nat × List Nat) := [(0, [0, 1, 2]), (1, [3, 1, 2]), (2, [3, 8]), (3, [3, 9, 8]), (4, [3, 9, 8]), (5, [8, 9, 3]), (6, [10, 9, 3, 8]), (7, []), (8, [9, 3, 8, 10]), (9, [9, 3, 8, 11, 10]), (10, [8, 9, 11, 3, 10]), (11, [11, 12, 8, 9, 3, 10]), (12, [8, 9, 12, 3, 11, 10]), (13, [10, 11])]
noncomputable def hd45x0 : Hints := [(14, [3, 9, 8, 22], [9, 16, 18, 3], []), (27, [9, 3, 8, 11, 10], [9, 16, 18, 3, 11], [11])]
noncomputable def h45x0s0 (N : Nat) : Hint := { loops := hd45x0, regs := rg45x0, los := [] }
theorem al45x0s0 (N : Nat) : AllCuts Try.prog (h45x0s0 N).los 0 45 := AllCuts.nil
noncomputable def F45x0x14 (N : Nat) {R : Type} (w0 : Bool) (w3 w10 : Int) (k0 : Int → R) : R :=
  bif w0 then
    k0 w3
  else
    k0 w10
noncomputable def V45x0x14 (N : Nat) (w0 : Bool) (w3 w10 : Int) : Int := F45x0x14 N w0 w3 w10 (fun p => p)
theorem tot45x0x14 (N : Nat) {R : Type} (w0 : Bool) (w3 w10 : Int) (k0 : Int → R) : F45x0x14 N w0 w3 w10 k0 = k0 (V45x0x14 N w0 w3 w10) := by
  unfold V45x0x14 F45x0x14
  repeat' (first | rfl | apply cond_k | (apply bnd_k; intro _))
noncomputable def sh45x0x14 : Sh := { tmps := [(3, .c (.p 3 0)), (8, .c (.p 18 0)), (9, .c (.p 9 0)), (22, .c (.b))], mem := [(3, .box ([.i .i64, .i .i64, .i .i64, .sl 66, .sl 68])), (9, .box (rI 28 ([]))), (16, .map 93 96), (18, .box (.i .i64 :: .i .i64 :: [.i .i64, .sl 66, .sl 68, .sl 3, .sl 3, .m 16]))] }
noncomputable def K45x0x14w0 (L : List Lf) (p : Int) : Ex × St := (.normal, ⟨[(3, .c (.p 3 0)), (8, .c (.p 18 0)), (9, .c (.p 9 0))], [(3, .box [.i .i64 (li L 1), .i .i64 (li L 2), .i .i64 (li L 3), .sl 66 (lb L 4) (ll L 5), .sl 68 (lb L 6) (ll L 7)]), (9, .box (.i .i64 (li L 8) :: .i .i64 (li L 9) :: .i .i64 p :: rL L 11 25 ([]))), (16, .map 93 96 (lm L 36)), (18, .box [.i .i64 (li L 37), .i .i64 (li L 38), .i .i64 (li L 39), .sl 66 (lb L 40) (ll L 41), .sl 68 (lb L 42) (ll L 43), .sl 3 (lb L 44) (ll L 45), .sl 3 (lb L 46) (ll L 47), .m 16])]⟩)
noncomputable def A45x0x14 (N : Nat) (L : List Lf) : List (Bool × (Ex × St)) := bnd (F45x0x14 N (lb L 0) (li L 3) (li L 10) (fun p => p)) fun q => [(true, K45x0x14w0 L q)]
theorem raw45x0x14 (N : Nat) (L : List Lf) : (exec Try.prog (T75x1 N) (h45x0s0 N) 0 100 (piece Try.prog 45 14) (ofSh sh45x0x14 L) (fun e st => some (e, cutSt [8, 9, 3] [9, 16, 18, 3] st)) : Option (Ex × St)) = F45x0x14 N (lb L 0) (li L 3) (li L 10) (fun p => some (K45x0x14w0 L p)) := by kernel_rfl
theorem one45x0x14 : oneB Try.prog 45 14 = true := by kernel_rfl
theorem law45x0x14 (N : Nat) : CutLaw Try.prog 0 (piece Try.prog 45 14) (loSh sh45x0x14 (A45x0x14 N)) :=
  law_sh progOk (T75x1_ok N) (al45x0s0 N) one45x0x14 fun L x hx => (raw45x0x14 N L).trans ((tot45x0x14 N ..).trans (alt0 _ _ hx))
noncomputable def h45x0s1 (N : Nat) : Hint := { (h45x0s0 N) with los := (14, loSh sh45x0x14 (A45x0x14 N)) :: (h45x0s0 N).los }
theorem al45x0s1 (N : Nat) : AllCuts Try.prog (h45x0s1 N).los 0 45 := AllCuts.cons (al45x0s0 N) one45x0x14 (law45x0x14 N)
noncomputable def K45x0x27w0 (w0 : Int) (p : Bool × LD) : Ex × St := ((.exit 0), ⟨[(10, .c (.i .i64 w0)), (11, .c (.o 11))], [(11, .row 3 true p.1 p.2)]⟩)
noncomputable def P45x0x27 (w0 w1 w2 w3 : Int) (w4 : Bool) (w5 : LD) (w6 : Bool) (w7 : LD) (w8 w9 w10 w11 w12 w13 w14 w15 w16 w17 w18 w19 w20 w21 w22 w23 w24 w25 w26 w27 w28 w29 w30 w31 w32 w33 w34 w35 : Int) (w36 : Bool) (w37 : LD) (w38 : (List (D × D))) (w39 w40 w41 : Int) (w42 : Bool) (w43 : LD) (w44 : Bool) (w45 : LD) (w46 : Bool) (w47 : LD) (w48 : Bool) (w49 : LD) : St := ⟨[(3, .c (.p 3 0)), (8, .c (.p 18 0)), (9, .c (.p 9 0)), (10, .c (.i .i64 w0)), (11, .c (.o 11))], [(3, .box [.i .i64 w1, .i .i64 w2, .i .i64 w3, .sl 66 w4 w5, .sl 68 w6 w7]), (9, .box [.i .i64 w8, .i .i64 w9, .i .i64 w10, .i .i64 w11, .i .i64 w12, .i .i64 w13, .i .i64 w14, .i .i64 w15, .i .i64 w16, .i .i64 w17, .i .i64 w18, .i .i64 w19, .i .i64 w20, .i .i64 w21, .i .i64 w22, .i .i64 w23, .i .i64 w24, .i .i64 w25, .i .i64 w26, .i .i64 w27, .i .i64 w28, .i .i64 w29, .i .i64 w30, .i .i64 w31, .i .i64 w32, .i .i64 w33, .i .i64 w34, .i .i64 w35]), (11, .row 3 true w36 w37), (16, .map 93 96 w38), (18, .box [.i .i64 w39, .i .i64 w40, .i .i64 w41, .sl 66 w42 w43, .sl 68 w44 w45, .sl 3 w46 w47, .sl 3 w48 w49, .m 16])]⟩
noncomputable def S45x0x27 (N : Nat) {R : Type} (w2 w39 w40 w41 : Int) (w42 : Bool) (w43 : LD) (w44 : Bool) (w45 : LD) (w46 : Bool) (w47 : LD) (w48 : Bool) (w49 : LD) (w8 w9 w10 w11 w12 w13 w14 w15 w16 w17 w18 w19 w20 w21 w22 w23 w24 w25 w26 w27 w28 w29 w30 w31 w32 w33 w34 w35 : Int) (w36 : Bool) (w37 : LD) (w38 : (List (D × D))) (kr : Int → Int → Int → Int → Int → Int → Int → Int → Int → Int → Int → Int → Int → Int → Int → Int → Int → Int → Int → Int → Int → Int → Int → Int → Int → Int → Int → Int → Bool → LD → (List (D × D)) → Option R) (k0 : Bool × LD → Option R) : Option R :=
  bif (decide (w8 < w2)) then
    bnd (R75x1 N N w8 w9 w10 w11 w12 w13 w14 w15 w16 w17 w18 w19 w20 w21 w22 w23 w24 w25 w26 w27 w28 w29 w30 w31 w32 w33 w34 w35 w39 w40 w41 w42 w43 w44 w45 w46 w47 w48 w49 w38) fun y0 =>
    bif y0.isSome then
      bif (decide ((w37.length + 1) * 8 ≤ room) && decide ((w37.length + 1) ≤ strMax)) then
        bnd (G76x0 N w8 w9 w10 w11 w12 w13 w14 w15 w16 w17 w18 w19 w20 w21 w22 w23 w24 w25 w26 w27 w28 w29 w30 w31 w32 w33 w34 w35 (y0.getD default).2.2.2.1 w40 w43 w45) fun y1 =>
        bif y1.isSome then
          bnd (y1.getD default).2.2.2.2.2.2.2.2.2.2.2.2.2.2.2.2.2.2.1 fun y2 =>
          bnd (y1.getD default).2.2.2.2.2.2.2.2.2.2.2.2.2.2.2.2.2.2.2.1 fun y3 =>
          bnd (y1.getD default).2.2.2.2.2.2.2.2.2.2.2.2.2.2.2.2.2.2.2.2.1 fun y4 =>
          bnd (y1.getD default).2.2.2.2.2.2.2.2.2.2.2.2.2.2.2.2.2.2.2.2.2.1 fun y5 =>
          bnd (y1.getD default).2.2.2.2.2.2.2.2.2.2.2.2.2.2.2.2.2.2.2.2.2.2.1 fun y6 =>
          bnd (y1.getD default).2.2.2.2.2.2.2.2.2.2.2.2.2.2.2.2.2.2.2.2.2.2.2.1 fun y7 =>
          bnd (y1.getD default).2.2.2.2.2.2.2.2.2.2.2.2.2.2.2.2.2.2.2.2.2.2.2.2.1 fun y8 =>
          bnd (y1.getD default).2.2.2.2.2.2.2.2.2.2.2.2.2.2.2.2.2.2.2.2.2.2.2.2.2.1 fun y9 =>
          bnd (y1.getD default).2.2.2.2.2.2.2.2.2.2.2.2.2.2.2.2.2.2.2.2.2.2.2.2.2.2.1 fun y10 =>
          bnd (y1.getD default).2.2.2.2.2.2.2.2.2.2.2.2.2.2.2.2.2.2.2.2.2.2.2.2.2.2.2.1 fun y11 =>
          bnd (y1.getD default).2.2.2.2.2.2.2.2.2.2.2.2.2.2.2.2.2.2.2.2.2.2.2.2.2.2.2.2 fun y12 =>
          kr (y1.getD default).1 (y1.getD default).2.1 (y1.getD default).2.2.1 (y1.getD default).2.2.2.1 (y1.getD default).2.2.2.2.1 (y1.getD default).2.2.2.2.2.1 (y1.getD default).2.2.2.2.2.2.1 (y1.getD default).2.2.2.2.2.2.2.1 (y1.getD default).2.2.2.2.2.2.2.2.1 (y1.getD default).2.2.2.2.2.2.2.2.2.1 (y1.getD default).2.2.2.2.2.2.2.2.2.2.1 (y1.getD default).2.2.2.2.2.2.2.2.2.2.2.1 (y1.getD default).2.2.2.2.2.2.2.2.2.2.2.2.1 (y1.getD default).2.2.2.2.2.2.2.2.2.2.2.2.2.1 (y1.getD default).2.2.2.2.2.2.2.2.2.2.2.2.2.2.1 (y1.getD default).2.2.2.2.2.2.2.2.2.2.2.2.2.2.2.1 (y1.getD default).2.2.2.2.2.2.2.2.2.2.2.2.2.2.2.2.1 (y1.getD default).2.2.2.2.2.2.2.2.2.2.2.2.2.2.2.2.2.1 y2 y3 y4 y5 y6 y7 y8 y9 y10 y11 false (w37 ++ [(.i (y0.getD default).2.2.2.1)]) (y0.getD default).2.2.2.2
        else
          none
      else
        none
    else
      none
  else
    k0 (w36, w37)
theorem mono45x0x27 (N : Nat) {R : Type} (w2 w39 w40 w41 : Int) (w42 : Bool) (w43 : LD) (w44 : Bool) (w45 : LD) (w46 : Bool) (w47 : LD) (w48 : Bool) (w49 : LD) (w8 w9 w10 w11 w12 w13 w14 w15 w16 w17 w18 w19 w20 w21 w22 w23 w24 w25 w26 w27 w28 w29 w30 w31 w32 w33 w34 w35 : Int) (w36 : Bool) (w37 : LD) (w38 : (List (D × D))) {kr kr' : Int → Int → Int → Int → Int → Int → Int → Int → Int → Int → Int → Int → Int → Int → Int → Int → Int → Int → Int → Int → Int → Int → Int → Int → Int → Int → Int → Int → Bool → LD → (List (D × D)) → Option R} (k0 : Bool × LD → Option R) {r : R} (hk : ∀ w8' w9' w10' w11' w12' w13' w14' w15' w16' w17' w18' w19' w20' w21' w22' w23' w24' w25' w26' w27' w28' w29' w30' w31' w32' w33' w34' w35' w36' w37' w38', kr w8' w9' w10' w11' w12' w13' w14' w15' w16' w17' w18' w19' w20' w21' w22' w23' w24' w25' w26' w27' w28' w29' w30' w31' w32' w33' w34' w35' w36' w37' w38' = some r → kr' w8' w9' w10' w11' w12' w13' w14' w15' w16' w17' w18' w19' w20' w21' w22' w23' w24' w25' w26' w27' w28' w29' w30' w31' w32' w33' w34' w35' w36' w37' w38' = some r) : S45x0x27 N w2 w39 w40 w41 w42 w43 w44 w45 w46 w47 w48 w49 w8 w9 w10 w11 w12 w13 w14 w15 w16 w17 w18 w19 w20 w21 w22 w23 w24 w25 w26 w27 w28 w29 w30 w31 w32 w33 w34 w35 w36 w37 w38 kr k0 = some r → S45x0x27 N w2 w39 w40 w41 w42 w43 w44 w45 w46 w47 w48 w49 w8 w9 w10 w11 w12 w13 w14 w15 w16 w17 w18 w19 w20 w21 w22 w23 w24 w25 w26 w27 w28 w29 w30 w31 w32 w33 w34 w35 w36 w37 w38 kr' k0 = some r := by
  unfold S45x0x27
  repeat' (first | exact hk _ _ _ _ _ _ _ _ _ _ _ _ _ _ _ _ _ _ _ _ _ _ _ _ _ _ _ _ _ _ _ | exact fun h => h | apply cond_mono | (apply bnd_mono; intro _))
noncomputable def L45x0x27 (N : Nat) {R : Type} (w2 w39 w40 w41 : Int) (w42 : Bool) (w43 : LD) (w44 : Bool) (w45 : LD) (w46 : Bool) (w47 : LD) (w48 : Bool) (w49 : LD) : Nat → Int → Int → Int → Int → Int → Int → Int → Int → Int → Int → Int → Int → Int → Int → Int → Int → Int → Int → Int → Int → Int → Int → Int → Int → Int → Int → Int → Int → Bool → LD → (List (D × D)) → (Bool × LD → Option R) → Option R
  | 0, _, _, _, _, _, _, _, _, _, _, _, _, _, _, _, _, _, _, _, _, _, _, _, _, _, _, _, _, _, _, _, _ => none
  | m + 1, w8, w9, w10, w11, w12, w13, w14, w15, w16, w17, w18, w19, w20, w21, w22, w23, w24, w25, w26, w27, w28, w29, w30, w31, w32, w33, w34, w35, w36, w37, w38, k0 => S45x0x27 N w2 w39 w40 w41 w42 w43 w44 w45 w46 w47 w48 w49 w8 w9 w10 w11 w12 w13 w14 w15 w16 w17 w18 w19 w20 w21 w22 w23 w24 w25 w26 w27 w28 w29 w30 w31 w32 w33 w34 w35 w36 w37 w38 (fun w8 w9 w10 w11 w12 w13 w14 w15 w16 w17 w18 w19 w20 w21 w22 w23 w24 w25 w26 w27 w28 w29 w30 w31 w32 w33 w34 w35 w36 w37 w38 => L45x0x27 N w2 w39 w40 w41 w42 w43 w44 w45 w46 w47 w48 w49 m w8 w9 w10 w11 w12 w13 w14 w15 w16 w17 w18 w19 w20 w21 w22 w23 w24 w25 w26 w27 w28 w29 w30 w31 w32 w33 w34 w35 w36 w37 w38 k0) k0
theorem lp45x0x27 : piece Try.prog 45 27 = .loop (loopB (piece Try.prog 45 27)) := by kernel_rfl
theorem nl45x0x27 (N : Nat) : lawOf (h45x0s1 N) (.loop (loopB (piece Try.prog 45 27))) = none := by kernel_rfl
theorem cl45x0x27 (N : Nat) (w0 w1 w2 w3 : Int) (w4 : Bool) (w5 : LD) (w6 : Bool) (w7 : LD) (w39 w40 w41 : Int) (w42 : Bool) (w43 : LD) (w44 : Bool) (w45 : LD) (w46 : Bool) (w47 : LD) (w48 : Bool) (w49 : LD) (w8 w9 w10 w11 w12 w13 w14 w15 w16 w17 w18 w19 w20 w21 w22 w23 w24 w25 w26 w27 w28 w29 w30 w31 w32 w33 w34 w35 : Int) (w36 : Bool) (w37 : LD) (w38 : (List (D × D))) : clearSt Try.prog 0 (h45x0s1 N).loops 27 (P45x0x27 w0 w1 w2 w3 w4 w5 w6 w7 w8 w9 w10 w11 w12 w13 w14 w15 w16 w17 w18 w19 w20 w21 w22 w23 w24 w25 w26 w27 w28 w29 w30 w31 w32 w33 w34 w35 w36 w37 w38 w39 w40 w41 w42 w43 w44 w45 w46 w47 w48 w49) = (P45x0x27 w0 w1 w2 w3 w4 w5 w6 w7 w8 w9 w10 w11 w12 w13 w14 w15 w16 w17 w18 w19 w20 w21 w22 w23 w24 w25 w26 w27 w28 w29 w30 w31 w32 w33 w34 w35 w36 w37 w38 w39 w40 w41 w42 w43 w44 w45 w46 w47 w48 w49) := by kernel_rfl
theorem step45x0x27 (N : Nat) (m : Nat) (kn : St → Option (Ex × St)) (w0 w1 w2 w3 : Int) (w4 : Bool) (w5 : LD) (w6 : Bool) (w7 : LD) (w39 w40 w41 : Int) (w42 : Bool) (w43 : LD) (w44 : Bool) (w45 : LD) (w46 : Bool) (w47 : LD) (w48 : Bool) (w49 : LD) (w8 w9 w10 w11 w12 w13 w14 w15 w16 w17 w18 w19 w20 w21 w22 w23 w24 w25 w26 w27 w28 w29 w30 w31 w32 w33 w34 w35 : Int) (w36 : Bool) (w37 : LD) (w38 : (List (D × D))) : exec Try.prog (T75x1 N) (h45x0s1 N) 0 (m + 100) (loopB (piece Try.prog 45 27)) (P45x0x27 w0 w1 w2 w3 w4 w5 w6 w7 w8 w9 w10 w11 w12 w13 w14 w15 w16 w17 w18 w19 w20 w21 w22 w23 w24 w25 w26 w27 w28 w29 w30 w31 w32 w33 w34 w35 w36 w37 w38 w39 w40 w41 w42 w43 w44 w45 w46 w47 w48 w49) (reK (fun st => kn (clearSt Try.prog 0 (h45x0s1 N).loops 27 st)) (fun e st => some (e, cutSt [6, 7, 10, 11] [11] st))) = S45x0x27 N w2 w39 w40 w41 w42 w43 w44 w45 w46 w47 w48 w49 w8 w9 w10 w11 w12 w13 w14 w15 w16 w17 w18 w19 w20 w21 w22 w23 w24 w25 w26 w27 w28 w29 w30 w31 w32 w33 w34 w35 w36 w37 w38 (fun w8 w9 w10 w11 w12 w13 w14 w15 w16 w17 w18 w19 w20 w21 w22 w23 w24 w25 w26 w27 w28 w29 w30 w31 w32 w33 w34 w35 w36 w37 w38 => kn (P45x0x27 w0 w1 w2 w3 w4 w5 w6 w7 w8 w9 w10 w11 w12 w13 w14 w15 w16 w17 w18 w19 w20 w21 w22 w23 w24 w25 w26 w27 w28 w29 w30 w31 w32 w33 w34 w35 w36 w37 w38 w39 w40 w41 w42 w43 w44 w45 w46 w47 w48 w49)) (fun p => some (K45x0x27w0 w0 p)) := by kernel_rfl
theorem run45x0x27 (N : Nat) (w0 w1 w2 w3 : Int) (w4 : Bool) (w5 : LD) (w6 : Bool) (w7 : LD) (w39 w40 w41 : Int) (w42 : Bool) (w43 : LD) (w44 : Bool) (w45 : LD) (w46 : Bool) (w47 : LD) (w48 : Bool) (w49 : LD) : ∀ (m : Nat) (w8 w9 w10 w11 w12 w13 w14 w15 w16 w17 w18 w19 w20 w21 w22 w23 w24 w25 w26 w27 w28 w29 w30 w31 w32 w33 w34 w35 : Int) (w36 : Bool) (w37 : LD) (w38 : (List (D × D))) (x : Ex × St), L45x0x27 N w2 w39 w40 w41 w42 w43 w44 w45 w46 w47 w48 w49 m w8 w9 w10 w11 w12 w13 w14 w15 w16 w17 w18 w19 w20 w21 w22 w23 w24 w25 w26 w27 w28 w29 w30 w31 w32 w33 w34 w35 w36 w37 w38 (fun p => some (K45x0x27w0 w0 p)) = some x → exec Try.prog (T75x1 N) (h45x0s1 N) 0 (m + 101) (.loop (loopB (piece Try.prog 45 27))) (P45x0x27 w0 w1 w2 w3 w4 w5 w6 w7 w8 w9 w10 w11 w12 w13 w14 w15 w16 w17 w18 w19 w20 w21 w22 w23 w24 w25 w26 w27 w28 w29 w30 w31 w32 w33 w34 w35 w36 w37 w38 w39 w40 w41 w42 w43 w44 w45 w46 w47 w48 w49) (fun e st => some (e, cutSt [6, 7, 10, 11] [11] st)) = some x := by
  intro m
  induction m with
  | zero => intro w8 w9 w10 w11 w12 w13 w14 w15 w16 w17 w18 w19 w20 w21 w22 w23 w24 w25 w26 w27 w28 w29 w30 w31 w32 w33 w34 w35 w36 w37 w38 x h; cases h
  | succ m ih =>
    intro w8 w9 w10 w11 w12 w13 w14 w15 w16 w17 w18 w19 w20 w21 w22 w23 w24 w25 w26 w27 w28 w29 w30 w31 w32 w33 w34 w35 w36 w37 w38 x h
    exact loop_round (n := m + 101) (nl45x0x27 N) (by kernel_rfl) (cl45x0x27 N ..) (fun kn => step45x0x27 N (m + 1) kn ..) (mono45x0x27 N _ _ _ _ _ _ _ _ _ _ _ _ _ _ _ _ _ _ _ _ _ _ _ _ _ _ _ _ _ _ _ _ _ _ _ _ _ _ _ _ _ _ _ _ (fun w8 w9 w10 w11 w12 w13 w14 w15 w16 w17 w18 w19 w20 w21 w22 w23 w24 w25 w26 w27 w28 w29 w30 w31 w32 w33 w34 w35 w36 w37 w38 => ih w8 w9 w10 w11 w12 w13 w14 w15 w16 w17 w18 w19 w20 w21 w22 w23 w24 w25 w26 w27 w28 w29 w30 w31 w32 w33 w34 w35 w36 w37 w38 x) h)
noncomputable def G45x0x27 (N : Nat) (w2 w39 w40 w41 : Int) (w42 : Bool) (w43 : LD) (w44 : Bool) (w45 : LD) (w46 : Bool) (w47 : LD) (w48 : Bool) (w49 : LD) (w8 w9 w10 w11 w12 w13 w14 w15 w16 w17 w18 w19 w20 w21 w22 w23 w24 w25 w26 w27 w28 w29 w30 w31 w32 w33 w34 w35 : Int) (w36 : Bool) (w37 : LD) (w38 : (List (D × D))) : Option (Bool × LD) := L45x0x27 N (R := (Bool × LD)) w2 w39 w40 w41 w42 w43 w44 w45 w46 w47 w48 w49 N w8 w9 w10 w11 w12 w13 w14 w15 w16 w17 w18 w19 w20 w21 w22 w23 w24 w25 w26 w27 w28 w29 w30 w31 w32 w33 w34 w35 w36 w37 w38 (fun p => some p)
theorem sb45x0x27 (N : Nat) {R A : Type} (w2 w39 w40 w41 : Int) (w42 : Bool) (w43 : LD) (w44 : Bool) (w45 : LD) (w46 : Bool) (w47 : LD) (w48 : Bool) (w49 : LD) (w8 w9 w10 w11 w12 w13 w14 w15 w16 w17 w18 w19 w20 w21 w22 w23 w24 w25 w26 w27 w28 w29 w30 w31 w32 w33 w34 w35 : Int) (w36 : Bool) (w37 : LD) (w38 : (List (D × D))) (kr : Int → Int → Int → Int → Int → Int → Int → Int → Int → Int → Int → Int → Int → Int → Int → Int → Int → Int → Int → Int → Int → Int → Int → Int → Int → Int → Int → Int → Bool → LD → (List (D × D)) → Option R) (kr' : Int → Int → Int → Int → Int → Int → Int → Int → Int → Int → Int → Int → Int → Int → Int → Int → Int → Int → Int → Int → Int → Int → Int → Int → Int → Int → Int → Int → Bool → LD → (List (D × D)) → Option A) (k0 : Bool × LD → Option R) (j0 : Bool × LD → Option A) (K : A → Option R) (hr : ∀ w8' w9' w10' w11' w12' w13' w14' w15' w16' w17' w18' w19' w20' w21' w22' w23' w24' w25' w26' w27' w28' w29' w30' w31' w32' w33' w34' w35' w36' w37' w38', kr w8' w9' w10' w11' w12' w13' w14' w15' w16' w17' w18' w19' w20' w21' w22' w23' w24' w25' w26' w27' w28' w29' w30' w31' w32' w33' w34' w35' w36' w37' w38' = (kr' w8' w9' w10' w11' w12' w13' w14' w15' w16' w17' w18' w19' w20' w21' w22' w23' w24' w25' w26' w27' w28' w29' w30' w31' w32' w33' w34' w35' w36' w37' w38').bind K) (h0 : ∀ p, k0 p = (j0 p).bind K) : S45x0x27 N w2 w39 w40 w41 w42 w43 w44 w45 w46 w47 w48 w49 w8 w9 w10 w11 w12 w13 w14 w15 w16 w17 w18 w19 w20 w21 w22 w23 w24 w25 w26 w27 w28 w29 w30 w31 w32 w33 w34 w35 w36 w37 w38 kr k0 = (S45x0x27 N w2 w39 w40 w41 w42 w43 w44 w45 w46 w47 w48 w49 w8 w9 w10 w11 w12 w13 w14 w15 w16 w17 w18 w19 w20 w21 w22 w23 w24 w25 w26 w27 w28 w29 w30 w31 w32 w33 w34 w35 w36 w37 w38 kr' j0).bind K := by
  unfold S45x0x27
  repeat' (first | rfl | apply hr | apply h0 | apply cond_b | (apply bnd_b; intro _))
theorem lbind45x0x27 (N : Nat) {R : Type} (w2 w39 w40 w41 : Int) (w42 : Bool) (w43 : LD) (w44 : Bool) (w45 : LD) (w46 : Bool) (w47 : LD) (w48 : Bool) (w49 : LD) : ∀ (m : Nat) (w8 w9 w10 w11 w12 w13 w14 w15 w16 w17 w18 w19 w20 w21 w22 w23 w24 w25 w26 w27 w28 w29 w30 w31 w32 w33 w34 w35 : Int) (w36 : Bool) (w37 : LD) (w38 : (List (D × D))) (k0 : Bool × LD → Option R), L45x0x27 N w2 w39 w40 w41 w42 w43 w44 w45 w46 w47 w48 w49 m w8 w9 w10 w11 w12 w13 w14 w15 w16 w17 w18 w19 w20 w21 w22 w23 w24 w25 w26 w27 w28 w29 w30 w31 w32 w33 w34 w35 w36 w37 w38 k0 = (L45x0x27 N (R := (Bool × LD)) w2 w39 w40 w41 w42 w43 w44 w45 w46 w47 w48 w49 m w8 w9 w10 w11 w12 w13 w14 w15 w16 w17 w18 w19 w20 w21 w22 w23 w24 w25 w26 w27 w28 w29 w30 w31 w32 w33 w34 w35 w36 w37 w38 (fun p => some p)).bind k0 := by
  intro m
  induction m with
  | zero => intros; rfl
  | succ m ih =>
    intro w8 w9 w10 w11 w12 w13 w14 w15 w16 w17 w18 w19 w20 w21 w22 w23 w24 w25 w26 w27 w28 w29 w30 w31 w32 w33 w34 w35 w36 w37 w38 k0
    exact sb45x0x27 N _ _ _ _ _ _ _ _ _ _ _ _ _ _ _ _ _ _ _ _ _ _ _ _ _ _ _ _ _ _ _ _ _ _ _ _ _ _ _ _ _ _ _ _ _ _ _ _ (fun w8 w9 w10 w11 w12 w13 w14 w15 w16 w17 w18 w19 w20 w21 w22 w23 w24 w25 w26 w27 w28 w29 w30 w31 w32 w33 w34 w35 w36 w37 w38 => ih w8 w9 w10 w11 w12 w13 w14 w15 w16 w17 w18 w19 w20 w21 w22 w23 w24 w25 w26 w27 w28 w29 w30 w31 w32 w33 w34 w35 w36 w37 w38 k0) (fun _ => rfl)
theorem one45x0x27 : oneB Try.prog 45 27 = true := by kernel_rfl
noncomputable def sh45x0x27 : Sh := { tmps := [(3, .c (.p 3 0)), (8, .c (.p 18 0)), (9, .c (.p 9 0)), (10, .c (.i .i64)), (11, .c (.o 11))], mem := [(3, .box ([.i .i64, .i .i64, .i .i64, .sl 66, .sl 68])), (9, .box (rI 28 ([]))), (11, .row 3 true), (16, .map 93 96), (18, .box (.i .i64 :: .i .i64 :: [.i .i64, .sl 66, .sl 68, .sl 3, .sl 3, .m 16]))] }
noncomputable def A45x0x27 (N : Nat) (L : List Lf) : List (Bool × (Ex × St)) := bnd (G45x0x27 N (li L 2) (li L 39) (li L 40) (li L 41) (lb L 42) (ll L 43) (lb L 44) (ll L 45) (lb L 46) (ll L 47) (lb L 48) (ll L 49) (li L 8) (li L 9) (li L 10) (li L 11) (li L 12) (li L 13) (li L 14) (li L 15) (li L 16) (li L 17) (li L 18) (li L 19) (li L 20) (li L 21) (li L 22) (li L 23) (li L 24) (li L 25) (li L 26) (li L 27) (li L 28) (li L 29) (li L 30) (li L 31) (li L 32) (li L 33) (li L 34) (li L 35) (lb L 36) (ll L 37) (lm L 38)) fun q => [(q.isSome, K45x0x27w0 (li L 0) (q.getD default))]
theorem eq45x0x27 (L : List Lf) : ofSh sh45x0x27 L = (P45x0x27 (li L 0) (li L 1) (li L 2) (li L 3) (lb L 4) (ll L 5) (lb L 6) (ll L 7) (li L 8) (li L 9) (li L 10) (li L 11) (li L 12) (li L 13) (li L 14) (li L 15) (li L 16) (li L 17) (li L 18) (li L 19) (li L 20) (li L 21) (li L 22) (li L 23) (li L 24) (li L 25) (li L 26) (li L 27) (li L 28) (li L 29) (li L 30) (li L 31) (li L 32) (li L 33) (li L 34) (li L 35) (lb L 36) (ll L 37) (lm L 38) (li L 39) (li L 40) (li L 41) (lb L 42) (ll L 43) (lb L 44) (ll L 45) (lb L 46) (ll L 47) (lb L 48) (ll L 49)) := by kernel_rfl
theorem law45x0x27 (N : Nat) : CutLaw Try.prog 0 (piece Try.prog 45 27) (loSh sh45x0x27 (A45x0x27 N)) :=
  law_shL progOk (T75x1_ok N) (al45x0s1 N) one45x0x27 lp45x0x27 eq45x0x27 fun L x hx => run45x0x27 N _ _ _ _ _ _ _ _ _ _ _ _ _ _ _ _ _ _ _ N _ _ _ _ _ _ _ _ _ _ _ _ _ _ _ _ _ _ _ _ _ _ _ _ _ _ _ _ _ _ _ x ((lbind45x0x27 N _ _ _ _ _ _ _ _ _ _ _ _ N _ _ _ _ _ _ _ _ _ _ _ _ _ _ _ _ _ _ _ _ _ _ _ _ _ _ _ _ _ _ _ _).trans (alt1 x hx))
noncomputable def h45x0s2 (N : Nat) : Hint := { (h45x0s1 N) with los := (27, loSh sh45x0x27 (A45x0x27 N)) :: (h45x0s1 N).los }
theorem al45x0s2 (N : Nat) : AllCuts Try.prog (h45x0s2 N).los 0 45 := AllCuts.cons (al45x0s1 N) one45x0x27 (law45x0x27 N)
noncomputable def F45x0 (N : Nat) {R : Type} (v0 v1 v2 : Int) (v3 : Bool) (v4 : LD) (v5 : Bool) (v6 : LD) (v7 : Bool) (v8 : LD) (v9 : Bool) (v10 : LD) (k0 : Int × Bool × LD → Option R) : Option R :=
  bnd (G74x0 N v6 [(.i 7)]) fun y0 =>
  bif y0.isSome then
    bnd (V45x0x14 N (y0.getD default) v2 0) fun y1 =>
    bnd (R75x1 N N 0 0 y1 0 0 0 0 0 0 0 0 0 0 0 0 0 0 0 0 0 0 0 0 0 0 0 0 0 v0 v1 v2 v3 v4 v5 v6 v7 v8 v9 v10 []) fun y2 =>
    bif y2.isSome then
      bif ((y2.getD default).1 == 0) then
        k0 (0, true, [])
      else
        bnd (G45x0x27 N v1 v0 v1 v2 v3 v4 v5 v6 v7 v8 v9 v10 0 0 y1 0 0 0 0 0 0 0 0 0 0 0 0 0 0 0 0 0 0 0 0 0 0 0 0 0 true [] (y2.getD default).2.2.2.2) fun y3 =>
        bif y3.isSome then
          k0 ((y2.getD default).1, (y3.getD default).1, (y3.getD default).2)
        else
          none
    else
      none
  else
    none
noncomputable def G45x0 (N : Nat) (v0 v1 v2 : Int) (v3 : Bool) (v4 : LD) (v5 : Bool) (v6 : LD) (v7 : Bool) (v8 : LD) (v9 : Bool) (v10 : LD) : Option (Int × Bool × LD) := F45x0 N v0 v1 v2 v3 v4 v5 v6 v7 v8 v9 v10 (fun p => some p)
theorem bind45x0 (N : Nat) {R : Type} (v0 v1 v2 : Int) (v3 : Bool) (v4 : LD) (v5 : Bool) (v6 : LD) (v7 : Bool) (v8 : LD) (v9 : Bool) (v10 : LD) (k0 : Int × Bool × LD → Option R) : F45x0 N v0 v1 v2 v3 v4 v5 v6 v7 v8 v9 v10 k0 = (G45x0 N v0 v1 v2 v3 v4 v5 v6 v7 v8 v9 v10).bind k0 := by
  unfold G45x0 F45x0
  repeat' (first | rfl | apply cond_b | (apply bnd_b; intro _))
noncomputable def J45x0 (N : Nat) (L : List Lf) {R : Type} (k0 : Int × Bool × LD → Option R) : Option R := F45x0 N (li L 0) (li L 1) (li L 2) (lb L 3) (ll L 4) (lb L 5) (ll L 6) (lb L 7) (ll L 8) (lb L 9) (ll L 10) k0
noncomputable def sh45x0 : Sh := { tmps := [(0, .g ([.i .i64, .i .i64, .i .i64, .sl 66, .sl 68])), (1, .c (.sl 3)), (2, .c (.sl 3))], mem := [] }
noncomputable def A45x0 (N : Nat) (L : List Lf) : List (Bool × Res) := bnd (J45x0 N L (fun p => some p)) fun q => [(q.isSome, ([.c (.i .i64 (q.getD default).1), .c (.sl 3 (q.getD default).2.1 (q.getD default).2.2)], []))]
theorem raw45x0 (N : Nat) (L : List Lf) : (body Try.prog (T75x1 N) (h45x0s2 N) 200 45 (valsOf (ofSh sh45x0 L).tmps) (ofSh sh45x0 L).mem : Option Res) = J45x0 N L (fun p => some ([.c (.i .i64 p.1), .c (.sl 3 p.2.1 p.2.2)], [])) := by kernel_rfl
theorem ok45x0 (N : Nat) : ∀ args mem alts, spSh sh45x0 (A45x0 N) args mem = some alts → ∀ res, altK alts some = some res → CallOk Try.prog 45 args mem res :=
  spSh_law fun L x hx => callOk_of (n := 200) progOk (T75x1_ok N) (al45x0s2 N) rfl ((raw45x0 N L).trans ((bind45x0 N ..).trans (alt1 x hx)))
noncomputable def T45x0 (N : Nat) : Oracle := ext 45 (spSh sh45x0 (A45x0 N)) (T75x1 N)
theorem T45x0_ok (N : Nat) : OracleOk Try.prog (T45x0 N) := ext_ok (T75x1_ok N) (enters_of (by kernel_rfl)) (ok45x0 N)
noncomputable def rg22x0 : List (Nat × List Nat) := [(0, [0, 1, 2]), (1, [3, 1, 2]), (2, [9, 3, 2, 1]), (3, [9]), (4, [3, 2, 1]), (5, [10, 3, 2, 1]), (6, [10]), (7, [3, 2, 1]), (8, [12, 11])]
noncomputable def hd22x0 : Hints := []
noncomputable def h22x0s0 (N : Nat) : Hint := { loops := hd22x0, regs := rg22x0, los := [] }
theorem al22x0s0 (N : Nat) : AllCuts Try.prog (h22x0s0 N).los 0 22 := AllCuts.nil
noncomputable def F22x0 (N : Nat) {R : Type} (v0 v1 v2 : Int) (v3 : Bool) (v4 : LD) (v5 : Bool) (v6 v8 : LD) (v9 : Bool) (v10 : LD) (k0 : Ty15 → Option R) : Option R :=
  bnd (G58x0 N v0 v1 v2 v4 v6 v8) fun y0 =>
  bif y0.isSome then
    bif ((y0.getD default) != 0) then
      k0 (true, [], false, (y0.getD default))
    else
      bnd (G44x0 N v0 v1 v2 v4 v6 v10) fun y1 =>
      bif y1.isSome then
        bif ((y1.getD default) != 0) then
          k0 (true, [], false, (y1.getD default))
        else
          bif (decide ((0 + v8.length) * 8 ≤ room) && decide ((0 + v8.length) ≤ strMax)) then
            bnd (G45x0 N v0 v1 v2 v3 v4 v5 v6 v9 v10 (v8.isEmpty && false) v8) fun y2 =>
            bif y2.isSome then
              k0 ((y2.getD default).2.1, (y2.getD default).2.2, (decide ((y2.getD default).1 > 0)), 0)
            else
              none
          else
            none
      else
        none
  else
    none
noncomputable def G22x0 (N : Nat) (v0 v1 v2 : Int) (v3 : Bool) (v4 : LD) (v5 : Bool) (v6 v8 : LD) (v9 : Bool) (v10 : LD) : Option (Ty15) := F22x0 N v0 v1 v2 v3 v4 v5 v6 v8 v9 v10 (fun p => some p)
theorem bind22x0 (N : Nat) {R : Type} (v0 v1 v2 : Int) (v3 : Bool) (v4 : LD) (v5 : Bool) (v6 v8 : LD) (v9 : Bool) (v10 : LD) (k0 : Ty15 → Option R) : F22x0 N v0 v1 v2 v3 v4 v5 v6 v8 v9 v10 k0 = (G22x0 N v0 v1 v2 v3 v4 v5 v6 v8 v9 v10).bind k0 := by
  unfold G22x0 F22x0
  repeat' (first | rfl | apply cond_b | (apply bnd_b; intro _))
noncomputable def J22x0 (N : Nat) (L : List Lf) {R : Type} (k0 : Ty15 → Option R) : Option R := F22x0 N (li L 0) (li L 1) (li L 2) (lb L 3) (ll L 4) (lb L 5) (ll L 6) (ll L 8) (lb L 9) (ll L 10) k0
noncomputable def sh22x0 : Sh := { tmps := [(0, .g ([.i .i64, .i .i64, .i .i64, .sl 66, .sl 68])), (1, .c (.sl 3)), (2, .c (.sl 3))], mem := [] }
noncomputable def K22x0w0 (L : List Lf) (p : Ty15) : Res := ([.c (.sl 3 p.1 p.2.1), .c (.b p.2.2.1), .c (.i .i64 p.2.2.2)], [])
noncomputable def A22x0 (N : Nat) (L : List Lf) : List (Bool × Res) := bnd (J22x0 N L (fun p => some p)) fun q => [(q.isSome, K22x0w0 L (q.getD default))]
theorem raw22x0 (N : Nat) (L : List Lf) : (body Try.prog (T45x0 N) (h22x0s0 N) 200 22 (valsOf (ofSh sh22x0 L).tmps) (ofSh sh22x0 L).mem : Option Res) = J22x0 N L (fun p => some (K22x0w0 L p)) := by kernel_rfl
theorem ok22x0 (N : Nat) : ∀ args mem alts, spSh sh22x0 (A22x0 N) args mem = some alts → ∀ res, altK alts some = some res → CallOk Try.prog 22 args mem res :=
  spSh_law fun L x hx => callOk_of (n := 200) progOk (T45x0_ok N) (al22x0s0 N) rfl ((raw22x0 N L).trans ((bind22x0 N ..).trans (alt1 x hx)))
noncomputable def T22x0 (N : Nat) : Oracle := ext 22 (spSh sh22x0 (A22x0 N)) (T45x0 N)
theorem T22x0_ok (N : Nat) : OracleOk Try.prog (T22x0 N) := ext_ok (T45x0_ok N) (enters_of (by kernel_rfl)) (ok22x0 N)
noncomputable def rg15x0 : List (Nat × List Nat) := [(0, [0, 1]), (1, [0, 1]), (2, []), (3, [0, 1]), (4, [13, 12, 0, 1]), (5, [13, 0, 1, 12]), (6, [0, 5, 1, 13, 12]), (7, []), (8, [13, 12, 0, 1]), (9, [])]
noncomputable def hd15x0 : Hints := [(12, [13, 12, 0, 1], [], [])]
noncomputable def h15x0s0 (N : Nat) : Hint := { loops := hd15x0, regs := rg15x0, los := [] }
theorem al15x0s0 (N : Nat) : AllCuts Try.prog (h15x0s0 N).los 0 15 := AllCuts.nil
noncomputable def P15x0x12 (w0 : Bool) (w1 : LD) (w2 : Bool) (w3 : LD) (w4 w5 : Int) : St := ⟨[(0, .c (.sl 3 w0 w1)), (1, .c (.sl 3 w2 w3)), (12, .c (.i .i64 w4)), (13, .c (.i .i64 w5))], []⟩
noncomputable def S15x0x12 (N : Nat) {R : Type} (w1 w3 : LD) (w4 : Int) (w5 : Int) (kr : Int → Option R) (k0 : Unit → Option R) (k1 : Unit → Option R) : Option R :=
  bif (decide (w5 < w4)) then
    bif (inB w5 w1.length) then
      bif (inB w5 w3.length) then
        bnd ((w1.getD w5.toNat (.i 0)).toI != (w3.getD w5.toNat (.i 0)).toI) fun y0 =>
        bif y0 then
          k0 ()
        else
          kr (IntKind.wrap .i64 (w5 + 1))
      else
        none
    else
      none
  else
    k1 ()
theorem mono15x0x12 (N : Nat) {R : Type} (w1 w3 : LD) (w4 : Int) (w5 : Int) {kr kr' : Int → Option R} (k0 : Unit → Option R) (k1 : Unit → Option R) {r : R} (hk : ∀ w5', kr w5' = some r → kr' w5' = some r) : S15x0x12 N w1 w3 w4 w5 kr k0 k1 = some r → S15x0x12 N w1 w3 w4 w5 kr' k0 k1 = some r := by
  unfold S15x0x12
  repeat' (first | exact hk _ | exact fun h => h | apply cond_mono | (apply bnd_mono; intro _))
noncomputable def L15x0x12 (N : Nat) {R : Type} (w1 w3 : LD) (w4 : Int) : Nat → Int → (Unit → Option R) → (Unit → Option R) → Option R
  | 0, _, _, _ => none
  | m + 1, w5, k0, k1 => S15x0x12 N w1 w3 w4 w5 (fun w5 => L15x0x12 N w1 w3 w4 m w5 k0 k1) k0 k1
theorem lp15x0x12 : piece Try.prog 15 12 = .loop (loopB (piece Try.prog 15 12)) := by kernel_rfl
theorem nl15x0x12 (N : Nat) : lawOf (h15x0s0 N) (.loop (loopB (piece Try.prog 15 12))) = none := by kernel_rfl
theorem cl15x0x12 (N : Nat) (w0 : Bool) (w1 : LD) (w2 : Bool) (w3 : LD) (w4 : Int) (w5 : Int) : clearSt Try.prog 0 (h15x0s0 N).loops 12 (P15x0x12 w0 w1 w2 w3 w4 w5) = (P15x0x12 w0 w1 w2 w3 w4 w5) := by kernel_rfl
theorem step15x0x12 (N : Nat) (m : Nat) (kn : St → Option (Ex × St)) (w0 : Bool) (w1 : LD) (w2 : Bool) (w3 : LD) (w4 : Int) (w5 : Int) : exec Try.prog (T22x0 N) (h15x0s0 N) 0 (m + 100) (loopB (piece Try.prog 15 12)) (P15x0x12 w0 w1 w2 w3 w4 w5) (reK (fun st => kn (clearSt Try.prog 0 (h15x0s0 N).loops 12 st)) (fun e st => some (e, cutSt [4] [] st))) = S15x0x12 N w1 w3 w4 w5 (fun w5 => kn (P15x0x12 w0 w1 w2 w3 w4 w5)) (fun _ => some (.ret, ⟨[(4, .c (.b false))], []⟩)) (fun _ => some ((.exit 0), ⟨[], []⟩)) := by kernel_rfl
theorem run15x0x12 (N : Nat) (w0 : Bool) (w1 : LD) (w2 : Bool) (w3 : LD) (w4 : Int) : ∀ (m : Nat) (w5 : Int) (x : Ex × St), L15x0x12 N w1 w3 w4 m w5 (fun _ => some (.ret, ⟨[(4, .c (.b false))], []⟩)) (fun _ => some ((.exit 0), ⟨[], []⟩)) = some x → exec Try.prog (T22x0 N) (h15x0s0 N) 0 (m + 101) (.loop (loopB (piece Try.prog 15 12))) (P15x0x12 w0 w1 w2 w3 w4 w5) (fun e st => some (e, cutSt [4] [] st)) = some x := by
  intro m
  induction m with
  | zero => intro w5 x h; cases h
  | succ m ih =>
    intro w5 x h
    exact loop_round (n := m + 101) (nl15x0x12 N) (by kernel_rfl) (cl15x0x12 N ..) (fun kn => step15x0x12 N (m + 1) kn ..) (mono15x0x12 N _ _ _ _ _ _ (fun w5 => ih w5 x) h)
noncomputable def G15x0x12 (N : Nat) (w1 w3 : LD) (w4 : Int) (w5 : Int) : Option (Sum (Unit) (Unit)) := L15x0x12 N (R := (Sum (Unit) (Unit))) w1 w3 w4 N w5 (fun p => some (.inl p)) (fun p => some (.inr p))
theorem sb15x0x12 (N : Nat) {R A : Type} (w1 w3 : LD) (w4 : Int) (w5 : Int) (kr : Int → Option R) (kr' : Int → Option A) (k0 : Unit → Option R) (k1 : Unit → Option R) (j0 : Unit → Option A) (j1 : Unit → Option A) (K : A → Option R) (hr : ∀ w5', kr w5' = (kr' w5').bind K) (h0 : ∀ p, k0 p = (j0 p).bind K) (h1 : ∀ p, k1 p = (j1 p).bind K) : S15x0x12 N w1 w3 w4 w5 kr k0 k1 = (S15x0x12 N w1 w3 w4 w5 kr' j0 j1).bind K := by
  unfold S15x0x12
  repeat' (first | rfl | apply hr | apply h0 | apply h1 | apply cond_b | (apply bnd_b; intro _))
theorem lbind15x0x12 (N : Nat) {R : Type} (w1 w3 : LD) (w4 : Int) : ∀ (m : Nat) (w5 : Int) (k0 : Unit → Option R) (k1 : Unit → Option R), L15x0x12 N w1 w3 w4 m w5 k0 k1 = (L15x0x12 N (R := (Sum (Unit) (Unit))) w1 w3 w4 m w5 (fun p => some (.inl p)) (fun p => some (.inr p))).bind (sumE k0 k1) := by
  intro m
  induction m with
  | zero => intros; rfl
  | succ m ih =>
    intro w5 k0 k1
    exact sb15x0x12 N _ _ _ _ _ _ _ _ _ _ _ (fun w5 => ih w5 k0 k1) (fun _ => rfl) (fun _ => rfl)
theorem one15x0x12 : oneB Try.prog 15 12 = true := by kernel_rfl
noncomputable def sh15x0x12 : Sh := { tmps := [(0, .c (.sl 3)), (1, .c (.sl 3)), (12, .c (.i .i64)), (13, .c (.i .i64))], mem := [] }
noncomputable def A15x0x12 (N : Nat) (L : List Lf) : List (Bool × (Ex × St)) := bnd (G15x0x12 N (ll L 1) (ll L 3) (li L 4) (li L 5)) fun q => [((inlB q), (.ret, ⟨[(4, .c (.b false))], []⟩)), ((inrQ q).isSome, ((.exit 0), ⟨[], []⟩))]
theorem eq15x0x12 (L : List Lf) : ofSh sh15x0x12 L = (P15x0x12 (lb L 0) (ll L 1) (lb L 2) (ll L 3) (li L 4) (li L 5)) := by kernel_rfl
theorem law15x0x12 (N : Nat) : CutLaw Try.prog 0 (piece Try.prog 15 12) (loSh sh15x0x12 (A15x0x12 N)) :=
  law_shL progOk (T22x0_ok N) (al15x0s0 N) one15x0x12 lp15x0x12 eq15x0x12 fun L x hx => run15x0x12 N _ _ _ _ _ N _ x ((lbind15x0x12 N _ _ _ N _ _ _).trans ((altS alt1) x hx))
noncomputable def h15x0s1 (N : Nat) : Hint := { (h15x0s0 N) with los := (12, loSh sh15x0x12 (A15x0x12 N)) :: (h15x0s0 N).los }
theorem al15x0s1 (N : Nat) : AllCuts Try.prog (h15x0s1 N).los 0 15 := AllCuts.cons (al15x0s0 N) one15x0x12 (law15x0x12 N)
noncomputable def F15x0 (N : Nat) {R : Type} (v1 v3 : LD) (k0 : Bool → Option R) : Option R :=
  bif ((v1.length : Int) != (v3.length : Int)) then
    k0 false
  else
    bnd (G15x0x12 N v1 v3 (v1.length : Int) 0) fun y0 =>
    bif (inlB y0) then
      k0 false
    else
      bif (inrQ y0).isSome then
        k0 true
      else
        none
noncomputable def G15x0 (N : Nat) (v1 v3 : LD) : Option (Bool) := F15x0 N v1 v3 (fun p => some p)
theorem bind15x0 (N : Nat) {R : Type} (v1 v3 : LD) (k0 : Bool → Option R) : F15x0 N v1 v3 k0 = (G15x0 N v1 v3).bind k0 := by
  unfold G15x0 F15x0
  repeat' (first | rfl | apply cond_b | (apply bnd_b; intro _))
noncomputable def sh15x0 : Sh := { tmps := [(0, .c (.sl 3)), (1, .c (.sl 3))], mem := [] }
noncomputable def A15x0 (N : Nat) (L : List Lf) : List (Bool × Res) := bnd (F15x0 N (ll L 1) (ll L 3) (fun p => some p)) fun q => [(q.isSome, ([.c (.b (q.getD default))], []))]
theorem raw15x0 (N : Nat) (L : List Lf) : (body Try.prog (T22x0 N) (h15x0s1 N) 200 15 (valsOf (ofSh sh15x0 L).tmps) (ofSh sh15x0 L).mem : Option Res) = F15x0 N (ll L 1) (ll L 3) (fun p => some ([.c (.b p)], [])) := by kernel_rfl
theorem ok15x0 (N : Nat) : ∀ args mem alts, spSh sh15x0 (A15x0 N) args mem = some alts → ∀ res, altK alts some = some res → CallOk Try.prog 15 args mem res :=
  spSh_law fun L x hx => callOk_of (n := 200) progOk (T22x0_ok N) (al15x0s1 N) rfl ((raw15x0 N L).trans ((bind15x0 N ..).trans (alt1 x hx)))
noncomputable def T15x0 (N : Nat) : Oracle := ext 15 (spSh sh15x0 (A15x0 N)) (T22x0 N)
theorem T15x0_ok (N : Nat) : OracleOk Try.prog (T15x0 N) := ext_ok (T22x0_ok N) (enters_of (by kernel_rfl)) (ok15x0 N)
noncomputable def rg11x0 : List (Nat × List Nat) := [(0, [0, 1]), (1, [2, 1])]
noncomputable def hd11x0 : Hints := []
noncomputable def h11x0s0 (N : Nat) : Hint := { loops := hd11x0, regs := rg11x0, los := [] }
theorem al11x0s0 (N : Nat) : AllCuts Try.prog (h11x0s0 N).los 0 11 := AllCuts.nil
noncomputable def F11x0 (N : Nat) {R : Type} (v0 v1 v2 : Int) (v3 : Bool) (v4 : LD) (v5 : Bool) (v6 : LD) (v7 : Bool) (v8 : LD) (k0 : Ty15 → Option R) : Option R :=
  bnd (G43x0 N v0 v1 v2 v3 v4 v5 v6 v7 v8 true []) fun y0 =>
  bif y0.isSome then
    k0 (y0.getD default)
  else
    none
noncomputable def G11x0 (N : Nat) (v0 v1 v2 : Int) (v3 : Bool) (v4 : LD) (v5 : Bool) (v6 : LD) (v7 : Bool) (v8 : LD) : Option (Ty15) := F11x0 N v0 v1 v2 v3 v4 v5 v6 v7 v8 (fun p => some p)
theorem bind11x0 (N : Nat) {R : Type} (v0 v1 v2 : Int) (v3 : Bool) (v4 : LD) (v5 : Bool) (v6 : LD) (v7 : Bool) (v8 : LD) (k0 : Ty15 → Option R) : F11x0 N v0 v1 v2 v3 v4 v5 v6 v7 v8 k0 = (G11x0 N v0 v1 v2 v3 v4 v5 v6 v7 v8).bind k0 := by
  unfold G11x0 F11x0
  repeat' (first | rfl | apply cond_b | (apply bnd_b; intro _))
noncomputable def J11x0 (N : Nat) (L : List Lf) {R : Type} (k0 : Ty15 → Option R) : Option R := F11x0 N (li L 0) (li L 1) (li L 2) (lb L 3) (ll L 4) (lb L 5) (ll L 6) (lb L 7) (ll L 8) k0
noncomputable def sh11x0 : Sh := { tmps := [(0, .g ([.i .i64, .i .i64, .i .i64, .sl 66, .sl 68])), (1, .c (.sl 3))], mem := [] }
noncomputable def K11x0w0 (L : List Lf) (p : Ty15) : Res := ([.c (.sl 3 p.1 p.2.1), .c (.b p.2.2.1), .c (.i .i64 p.2.2.2)], [])
noncomputable def A11x0 (N : Nat) (L : List Lf) : List (Bool × Res) := bnd (J11x0 N L (fun p => some p)) fun q => [(q.isSome, K11x0w0 L (q.getD default))]
theorem raw11x0 (N : Nat) (L : List Lf) : (body Try.prog (T15x0 N) (h11x0s0 N) 200 11 (valsOf (ofSh sh11x0 L).tmps) (ofSh sh11x0 L).mem : Option Res) = J11x0 N L (fun p => some (K11x0w0 L p)) := by kernel_rfl
theorem ok11x0 (N : Nat) : ∀ args mem alts, spSh sh11x0 (A11x0 N) args mem = some alts → ∀ res, altK alts some = some res → CallOk Try.prog 11 args mem res :=
  spSh_law fun L x hx => callOk_of (n := 200) progOk (T15x0_ok N) (al11x0s0 N) rfl ((raw11x0 N L).trans ((bind11x0 N ..).trans (alt1 x hx)))
noncomputable def T11x0 (N : Nat) : Oracle := ext 11 (spSh sh11x0 (A11x0 N)) (T15x0 N)
theorem T11x0_ok (N : Nat) : OracleOk Try.prog (T11x0 N) := ext_ok (T15x0_ok N) (enters_of (by kernel_rfl)) (ok11x0 N)
noncomputable def rg16x0 : List (Nat × List Nat) := [(0, []), (1, []), (2, [1]), (3, [4, 3, 2])]
noncomputable def hd16x0 : Hints := [(10, [4, 3, 2], [], [])]
noncomputable def h16x0s0 (N : Nat) : Hint := { loops := hd16x0, regs := rg16x0, los := [] }
theorem al16x0s0 (N : Nat) : AllCuts Try.prog (h16x0s0 N).los 0 16 := AllCuts.nil
noncomputable def F16x0x10 (N : Nat) {R : Type} (w1 : LD) (w2 : Bool) (w3 : Int) (k0 : Bool → Option R) : Option R :=
  bif (bif (w3 == 0) then w2 else false) then
    bnd (G15x0 N w1 [(.i 0), (.i (-1)), (.i 0)]) fun y0 =>
    bif y0.isSome then
      k0 (y0.getD default)
    else
      none
  else
    k0 false
noncomputable def G16x0x10 (N : Nat) (w1 : LD) (w2 : Bool) (w3 : Int) : Option (Bool) := F16x0x10 N w1 w2 w3 (fun p => some p)
theorem bind16x0x10 (N : Nat) {R : Type} (w1 : LD) (w2 : Bool) (w3 : Int) (k0 : Bool → Option R) : F16x0x10 N w1 w2 w3 k0 = (G16x0x10 N w1 w2 w3).bind k0 := by
  unfold G16x0x10 F16x0x10
  repeat' (first | rfl | apply cond_b | (apply bnd_b; intro _))
noncomputable def sh16x0x10 : Sh := { tmps := [(2, .c (.sl 3)), (3, .c (.b)), (4, .c (.i .i64))], mem := [] }
noncomputable def A16x0x10 (N : Nat) (L : List Lf) : List (Bool × (Ex × St)) := bnd (F16x0x10 N (ll L 1) (lb L 2) (li L 3) (fun p => some p)) fun q => [(q.isSome, (.normal, ⟨[(0, .c (.b (q.getD default)))], []⟩))]
theorem raw16x0x10 (N : Nat) (L : List Lf) : (exec Try.prog (T11x0 N) (h16x0s0 N) 0 100 (piece Try.prog 16 10) (ofSh sh16x0x10 L) (fun e st => some (e, cutSt [0] [] st)) : Option (Ex × St)) = F16x0x10 N (ll L 1) (lb L 2) (li L 3) (fun p => some (.normal, ⟨[(0, .c (.b p))], []⟩)) := by kernel_rfl
theorem one16x0x10 : oneB Try.prog 16 10 = true := by kernel_rfl
theorem law16x0x10 (N : Nat) : CutLaw Try.prog 0 (piece Try.prog 16 10) (loSh sh16x0x10 (A16x0x10 N)) :=
  law_sh progOk (T11x0_ok N) (al16x0s0 N) one16x0x10 fun L x hx => (raw16x0x10 N L).trans ((bind16x0x10 N ..).trans (alt1 x hx))
noncomputable def h16x0s1 (N : Nat) : Hint := { (h16x0s0 N) with los := (10, loSh sh16x0x10 (A16x0x10 N)) :: (h16x0s0 N).los }
theorem al16x0s1 (N : Nat) : AllCuts Try.prog (h16x0s1 N).los 0 16 := AllCuts.cons (al16x0s0 N) one16x0x10 (law16x0x10 N)
noncomputable def F16x0 (N : Nat) {R : Type} (k0 : Bool → Option R) : Option R :=
  bnd (G11x0 N 0 3 0 false [(.a [(.s ([102, 97, 115, 116] : List UInt8)), (.i 0), (.i 0), (.i 5), (.b true)])] false [(.a [(.i 5), (.i 0), (.i 2), (.i 0), (.i 0), (.s ([] : List UInt8))])] true []) fun y0 =>
  bif y0.isSome then
    bnd (G16x0x10 N (y0.getD default).2.1 (y0.getD default).2.2.1 (y0.getD default).2.2.2) fun y1 =>
    bif y1.isSome then
      k0 (y1.getD default)
    else
      none
  else
    none
noncomputable def G16x0 (N : Nat) : Option (Bool) := F16x0 N (fun p => some p)
theorem bind16x0 (N : Nat) {R : Type} (k0 : Bool → Option R) : F16x0 N k0 = (G16x0 N).bind k0 := by
  unfold G16x0 F16x0
  repeat' (first | rfl | apply cond_b | (apply bnd_b; intro _))
noncomputable def sh16x0 : Sh := { tmps := [], mem := [] }
noncomputable def A16x0 (N : Nat) (L : List Lf) : List (Bool × Res) := bnd (F16x0 N (fun p => some p)) fun q => [(q.isSome, ([.c (.b (q.getD default))], []))]
theorem raw16x0 (N : Nat) (L : List Lf) : (body Try.prog (T11x0 N) (h16x0s1 N) 200 16 (valsOf (ofSh sh16x0 L).tmps) (ofSh sh16x0 L).mem : Option Res) = F16x0 N (fun p => some ([.c (.b p)], [])) := by kernel_rfl
theorem ok16x0 (N : Nat) : ∀ args mem alts, spSh sh16x0 (A16x0 N) args mem = some alts → ∀ res, altK alts some = some res → CallOk Try.prog 16 args mem res :=
  spSh_law fun L x hx => callOk_of (n := 200) progOk (T11x0_ok N) (al16x0s1 N) rfl ((raw16x0 N L).trans ((bind16x0 N ..).trans (alt1 x hx)))
noncomputable def T16x0 (N : Nat) : Oracle := ext 16 (spSh sh16x0 (A16x0 N)) (T11x0 N)
theorem T16x0_ok (N : Nat) : OracleOk Try.prog (T16x0 N) := ext_ok (T11x0_ok N) (enters_of (by kernel_rfl)) (ok16x0 N)
noncomputable def rg5x0 : List (Nat × List Nat) := [(0, [0, 1, 2]), (1, [3, 1, 2]), (2, [3, 1, 2, 7, 8, 9]), (3, [7, 10, 8, 11, 9, 12])]
noncomputable def hd5x0 : Hints := [(10, [7, 10, 8, 11, 9, 12], [], [])]
noncomputable def h5x0s0 (N : Nat) : Hint := { loops := hd5x0, regs := rg5x0, los := [] }
theorem al5x0s0 (N : Nat) : AllCuts Try.prog (h5x0s0 N).los 0 5 := AllCuts.nil
noncomputable def F5x0x10 (N : Nat) {R : Type} (w1 : LD) (w2 : Bool) (w3 : Int) (w5 : LD) (w6 : Bool) (w7 : Int) (k0 : Bool → Option R) : Option R :=
  bnd (G15x0 N w1 w5) fun y0 =>
  bif y0.isSome then
    bnd (bif (bif (y0.getD default) then (w2 == w6) else false) then (w3 == w7) else false) fun y1 =>
    bif y1 then
      bnd (G16x0 N) fun y2 =>
      bif y2.isSome then
        k0 (y2.getD default)
      else
        none
    else
      k0 false
  else
    none
noncomputable def G5x0x10 (N : Nat) (w1 : LD) (w2 : Bool) (w3 : Int) (w5 : LD) (w6 : Bool) (w7 : Int) : Option (Bool) := F5x0x10 N w1 w2 w3 w5 w6 w7 (fun p => some p)
theorem bind5x0x10 (N : Nat) {R : Type} (w1 : LD) (w2 : Bool) (w3 : Int) (w5 : LD) (w6 : Bool) (w7 : Int) (k0 : Bool → Option R) : F5x0x10 N w1 w2 w3 w5 w6 w7 k0 = (G5x0x10 N w1 w2 w3 w5 w6 w7).bind k0 := by
  unfold G5x0x10 F5x0x10
  repeat' (first | rfl | apply cond_b | (apply bnd_b; intro _))
noncomputable def J5x0x10 (N : Nat) (L : List Lf) {R : Type} (k0 : Bool → Option R) : Option R := F5x0x10 N (ll L 1) (lb L 2) (li L 3) (ll L 5) (lb L 6) (li L 7) k0
noncomputable def sh5x0x10 : Sh := { tmps := [(7, .c (.sl 3)), (8, .c (.b)), (9, .c (.i .i64)), (10, .c (.sl 3)), (11, .c (.b)), (12, .c (.i .i64))], mem := [] }
noncomputable def A5x0x10 (N : Nat) (L : List Lf) : List (Bool × (Ex × St)) := bnd (J5x0x10 N L (fun p => some p)) fun q => [(q.isSome, (.normal, ⟨[(6, .c (.b (q.getD default)))], []⟩))]
theorem raw5x0x10 (N : Nat) (L : List Lf) : (exec Try.prog (T16x0 N) (h5x0s0 N) 0 100 (piece Try.prog 5 10) (ofSh sh5x0x10 L) (fun e st => some (e, cutSt [6] [] st)) : Option (Ex × St)) = J5x0x10 N L (fun p => some (.normal, ⟨[(6, .c (.b p))], []⟩)) := by kernel_rfl
theorem one5x0x10 : oneB Try.prog 5 10 = true := by kernel_rfl
theorem law5x0x10 (N : Nat) : CutLaw Try.prog 0 (piece Try.prog 5 10) (loSh sh5x0x10 (A5x0x10 N)) :=
  law_sh progOk (T16x0_ok N) (al5x0s0 N) one5x0x10 fun L x hx => (raw5x0x10 N L).trans ((bind5x0x10 N ..).trans (alt1 x hx))
noncomputable def h5x0s1 (N : Nat) : Hint := { (h5x0s0 N) with los := (10, loSh sh5x0x10 (A5x0x10 N)) :: (h5x0s0 N).los }
theorem al5x0s1 (N : Nat) : AllCuts Try.prog (h5x0s1 N).los 0 5 := AllCuts.cons (al5x0s0 N) one5x0x10 (law5x0x10 N)
noncomputable def F5x0 (N : Nat) {R : Type} (v0 v1 v2 : Int) (v3 : Bool) (v4 : LD) (v5 : Bool) (v6 : LD) (v7 : Bool) (v8 : LD) (v9 : Bool) (v10 : LD) (k0 : Bool → Option R) : Option R :=
  bnd (G21x0 N v0 v1 v2 v3 v4 v5 v6 v7 v8 v9 v10) fun y0 =>
  bif y0.isSome then
    bnd (G22x0 N v0 v1 v2 v3 v4 v5 v6 v8 v9 v10) fun y1 =>
    bif y1.isSome then
      bnd (G5x0x10 N (y0.getD default).2.1 (y0.getD default).2.2.1 (y0.getD default).2.2.2 (y1.getD default).2.1 (y1.getD default).2.2.1 (y1.getD default).2.2.2) fun y2 =>
      bif y2.isSome then
        k0 (y2.getD default)
      else
        none
    else
      none
  else
    none
noncomputable def G5x0 (N : Nat) (v0 v1 v2 : Int) (v3 : Bool) (v4 : LD) (v5 : Bool) (v6 : LD) (v7 : Bool) (v8 : LD) (v9 : Bool) (v10 : LD) : Option (Bool) := F5x0 N v0 v1 v2 v3 v4 v5 v6 v7 v8 v9 v10 (fun p => some p)
theorem bind5x0 (N : Nat) {R : Type} (v0 v1 v2 : Int) (v3 : Bool) (v4 : LD) (v5 : Bool) (v6 : LD) (v7 : Bool) (v8 : LD) (v9 : Bool) (v10 : LD) (k0 : Bool → Option R) : F5x0 N v0 v1 v2 v3 v4 v5 v6 v7 v8 v9 v10 k0 = (G5x0 N v0 v1 v2 v3 v4 v5 v6 v7 v8 v9 v10).bind k0 := by
  unfold G5x0 F5x0
  repeat' (first | rfl | apply cond_b | (apply bnd_b; intro _))
noncomputable def J5x0 (N : Nat) (L : List Lf) {R : Type} (k0 : Bool → Option R) : Option R := F5x0 N (li L 0) (li L 1) (li L 2) (lb L 3) (ll L 4) (lb L 5) (ll L 6) (lb L 7) (ll L 8) (lb L 9) (ll L 10) k0
noncomputable def sh5x0 : Sh := { tmps := [(0, .g ([.i .i64, .i .i64, .i .i64, .sl 66, .sl 68])), (1, .c (.sl 3)), (2, .c (.sl 3))], mem := [] }
noncomputable def A5x0 (N : Nat) (L : List Lf) : List (Bool × Res) := bnd (J5x0 N L (fun p => some p)) fun q => [(q.isSome, ([.c (.b (q.getD default))], []))]
theorem raw5x0 (N : Nat) (L : List Lf) : (body Try.prog (T16x0 N) (h5x0s1 N) 200 5 (valsOf (ofSh sh5x0 L).tmps) (ofSh sh5x0 L).mem : Option Res) = J5x0 N L (fun p => some ([.c (.b p)], [])) := by kernel_rfl
theorem ok5x0 (N : Nat) : ∀ args mem alts, spSh sh5x0 (A5x0 N) args mem = some alts → ∀ res, altK alts some = some res → CallOk Try.prog 5 args mem res :=
  spSh_law fun L x hx => callOk_of (n := 200) progOk (T16x0_ok N) (al5x0s1 N) rfl ((raw5x0 N L).trans ((bind5x0 N ..).trans (alt1 x hx)))
noncomputable def T5x0 (N : Nat) : Oracle := ext 5 (spSh sh5x0 (A5x0 N)) (T16x0 N)
theorem T5x0_ok (N : Nat) : OracleOk Try.prog (T5x0 N) := ext_ok (T16x0_ok N) (enters_of (by kernel_rfl)) (ok5x0 N)
end Go.Proofs.Ytefmjfcdgadggaa
