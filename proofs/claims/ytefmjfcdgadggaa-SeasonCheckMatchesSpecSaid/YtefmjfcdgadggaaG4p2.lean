/- Functions of the program as plain Lean definitions, each with the proof that the program computes it. No condition. Printed by a program of the prover, part 2. -/
import Derived.Test.YtefmjfcdgadggaaG4p1
import Derived.KernelRfl
set_option linter.all false
set_option linter.unusedVariables false
set_option linter.unusedSimpArgs false
set_option maxRecDepth 100000
namespace Go.Proofs.Ytefmjfcdgadggaa
open Go Go.AM
noncomputable def A96x0x9 (N : Nat) (L : List Lf) : List (Bool × (Ex × St)) := bnd (G96x0x9 N (ll L 1) (li L 2) (lb L 11) (lb L 12) (lb L 13) (lb L 14) (lb L 15) (lb L 16) (lb L 17) (lb L 18) (lb L 19) (lb L 20) (lb L 21) (lb L 22) (li L 23) (li L 3) (li L 31) (li L 32) (li L 33) (li L 34) (li L 35) (li L 36) (li L 37) (li L 38) (li L 39) (li L 40) (li L 41) (li L 42) (lb L 63) (lb L 64) (lb L 65) (lb L 66) (lb L 67) (lb L 68) (lb L 69) (lb L 70) (lb L 71) (lb L 72)) fun q => [(q.isSome, K96x0x9w0 L (q.getD default))]
theorem eq96x0x9 (L : List Lf) : ofSh sh96x0x9 L = (P96x0x9 (lb L 0) (ll L 1) (li L 2) (li L 3) (li L 4) (li L 5) (li L 6) (lb L 7) (ll L 8) (lb L 9) (ll L 10) (lb L 11) (lb L 12) (lb L 13) (lb L 14) (lb L 15) (lb L 16) (lb L 17) (lb L 18) (lb L 19) (lb L 20) (lb L 21) (lb L 22) (li L 23) (li L 24) (li L 25) (li L 26) (li L 27) (li L 28) (li L 29) (li L 30) (li L 31) (li L 32) (li L 33) (li L 34) (li L 35) (li L 36) (li L 37) (li L 38) (li L 39) (li L 40) (li L 41) (li L 42) (li L 43) (li L 44) (li L 45) (li L 46) (li L 47) (li L 48) (li L 49) (li L 50) (li L 51) (li L 52) (li L 53) (li L 54) (li L 55) (li L 56) (li L 57) (li L 58) (li L 59) (li L 60) (li L 61) (li L 62) (lb L 63) (lb L 64) (lb L 65) (lb L 66) (lb L 67) (lb L 68) (lb L 69) (lb L 70) (lb L 71) (lb L 72)) := by kernel_rfl
theorem law96x0x9 (N : Nat) : CutLaw Try.prog 1 (piece Try.prog 96 9) (loSh sh96x0x9 (A96x0x9 N)) :=
  law_shL progOk (T95x0_ok N) (al96x0s2 N) one96x0x9 lp96x0x9 eq96x0x9 fun L x hx => run96x0x9 N _ _ _ _ _ _ _ _ _ _ _ _ _ _ _ _ _ _ _ _ _ _ _ _ _ _ _ _ _ _ _ _ _ _ _ _ _ _ _ _ _ _ _ _ _ _ _ _ _ _ N _ _ _ _ _ _ _ _ _ _ _ _ _ _ _ _ _ _ _ _ _ _ _ x ((lbind96x0x9 N _ _ _ _ _ _ _ _ _ _ _ _ _ _ _ N _ _ _ _ _ _ _ _ _ _ _ _ _ _ _ _ _ _ _ _ _ _ _ _).trans (alt1 x hx))
noncomputable def h96x0s3 (N : Nat) : Hint := { (h96x0s2 N) with los := (9, loSh sh96x0x9 (A96x0x9 N)) :: (h96x0s2 N).los }
theorem al96x0s3 (N : Nat) : AllCuts Try.prog (h96x0s3 N).los 1 96 := AllCuts.cons (al96x0s2 N) one96x0x9 (law96x0x9 N)
noncomputable def F96x0x38 (N : Nat) {R : Type} (w0 : Bool) (w21 : Int) (k0 : Int → R) : R :=
  bif w0 then
    k0 0
  else
    k0 w21
noncomputable def V96x0x38 (N : Nat) (w0 : Bool) (w21 : Int) : Int := F96x0x38 N w0 w21 (fun p => p)
theorem tot96x0x38 (N : Nat) {R : Type} (w0 : Bool) (w21 : Int) (k0 : Int → R) : F96x0x38 N w0 w21 k0 = k0 (V96x0x38 N w0 w21) := by
  unfold V96x0x38 F96x0x38
  repeat' (first | rfl | apply cond_k | (apply bnd_k; intro _))
noncomputable def sh96x0x38 : Sh := { tmps := [(3, .c (.p 4 0)), (4, .c (.p 5 0)), (5, .c (.p 6 0)), (63, .c (.b))], mem := [(0, .box [.i .i64, .i .i64, .i .i64, .sl 66, .sl 68, .b, .b, .b, .b, .b, .b, .b, .b, .b, .b, .b, .b]), (4, .box [.i .i64, .i .i64, .i .i64, .i .i64, .i .i64, .i .i64, .i .i64, .i .i64, .i .i64, .i .i64, .i .i64, .i .i64, .i .i64, .i .i64, .i .i64, .i .i64, .i .i64, .i .i64, .i .i64, .i .i64]), (5, .box [.i .i64, .i .i64, .i .i64, .i .i64, .i .i64, .i .i64, .i .i64, .i .i64, .i .i64, .i .i64, .i .i64, .i .i64, .i .i64, .i .i64, .i .i64, .i .i64, .i .i64, .i .i64, .i .i64, .i .i64]), (6, .box [.b, .b, .b, .b, .b, .b, .b, .b, .b, .b])] }
noncomputable def K96x0x38w0 (L : List Lf) (p : Int) : Ex × St := (.normal, ⟨[(3, .c (.p 4 0)), (4, .c (.p 5 0)), (5, .c (.p 6 0))], [(0, .box [.i .i64 (li L 1), .i .i64 (li L 2), .i .i64 (li L 3), .sl 66 (lb L 4) (ll L 5), .sl 68 (lb L 6) (ll L 7), .b (lb L 8), .b (lb L 9), .b (lb L 10), .b (lb L 11), .b (lb L 12), .b (lb L 13), .b (lb L 14), .b (lb L 15), .b (lb L 16), .b (lb L 17), .b (lb L 18), .b (lb L 19)]), (4, .box [.i .i64 (li L 20), .i .i64 p, .i .i64 (li L 22), .i .i64 (li L 23), .i .i64 (li L 24), .i .i64 (li L 25), .i .i64 (li L 26), .i .i64 (li L 27), .i .i64 (li L 28), .i .i64 (li L 29), .i .i64 (li L 30), .i .i64 (li L 31), .i .i64 (li L 32), .i .i64 (li L 33), .i .i64 (li L 34), .i .i64 (li L 35), .i .i64 (li L 36), .i .i64 (li L 37), .i .i64 (li L 38), .i .i64 (li L 39)]), (5, .box [.i .i64 (li L 40), .i .i64 (li L 41), .i .i64 (li L 42), .i .i64 (li L 43), .i .i64 (li L 44), .i .i64 (li L 45), .i .i64 (li L 46), .i .i64 (li L 47), .i .i64 (li L 48), .i .i64 (li L 49), .i .i64 (li L 50), .i .i64 (li L 51), .i .i64 (li L 52), .i .i64 (li L 53), .i .i64 (li L 54), .i .i64 (li L 55), .i .i64 (li L 56), .i .i64 (li L 57), .i .i64 (li L 58), .i .i64 (li L 59)]), (6, .box [.b (lb L 60), .b (lb L 61), .b (lb L 62), .b (lb L 63), .b (lb L 64), .b (lb L 65), .b (lb L 66), .b (lb L 67), .b (lb L 68), .b (lb L 69)])]⟩)
noncomputable def A96x0x38 (N : Nat) (L : List Lf) : List (Bool × (Ex × St)) := bnd (F96x0x38 N (lb L 0) (li L 21) (fun p => p)) fun q => [(true, K96x0x38w0 L q)]
theorem raw96x0x38 (N : Nat) (L : List Lf) : (exec Try.prog (T95x0 N) (h96x0s3 N) 1 100 (piece Try.prog 96 38) (ofSh sh96x0x38 L) (fun e st => some (e, cutSt [5, 3, 4] [6, 5, 4, 0] st)) : Option (Ex × St)) = F96x0x38 N (lb L 0) (li L 21) (fun p => some (K96x0x38w0 L p)) := by kernel_rfl
theorem one96x0x38 : oneB Try.prog 96 38 = true := by kernel_rfl
theorem law96x0x38 (N : Nat) : CutLaw Try.prog 1 (piece Try.prog 96 38) (loSh sh96x0x38 (A96x0x38 N)) :=
  law_sh progOk (T95x0_ok N) (al96x0s3 N) one96x0x38 fun L x hx => (raw96x0x38 N L).trans ((tot96x0x38 N ..).trans (alt0 _ _ hx))
noncomputable def h96x0s4 (N : Nat) : Hint := { (h96x0s3 N) with los := (38, loSh sh96x0x38 (A96x0x38 N)) :: (h96x0s3 N).los }
theorem al96x0s4 (N : Nat) : AllCuts Try.prog (h96x0s4 N).los 1 96 := AllCuts.cons (al96x0s3 N) one96x0x38 (law96x0x38 N)
noncomputable def F96x0x32 (N : Nat) {R : Type} (w0 : Bool) (w21 w22 : Int) (w63 w64 : Bool) (k0 : Int × Int → R) : R :=
  bif w0 then
    bnd (V96x0x38 N (bif (!w63) then (!w64) else false) w21) fun x21657856 =>
    k0 (x21657856, 0)
  else
    k0 (w21, w22)
noncomputable def V96x0x32 (N : Nat) (w0 : Bool) (w21 w22 : Int) (w63 w64 : Bool) : Int × Int := F96x0x32 N w0 w21 w22 w63 w64 (fun p => p)
theorem tot96x0x32 (N : Nat) {R : Type} (w0 : Bool) (w21 w22 : Int) (w63 w64 : Bool) (k0 : Int × Int → R) : F96x0x32 N w0 w21 w22 w63 w64 k0 = k0 (V96x0x32 N w0 w21 w22 w63 w64) := by
  unfold V96x0x32 F96x0x32
  repeat' (first | rfl | apply cond_k | (apply bnd_k; intro _))
noncomputable def J96x0x32 (N : Nat) (L : List Lf) {R : Type} (k0 : Int × Int → R) : R := F96x0x32 N (lb L 0) (li L 21) (li L 22) (lb L 63) (lb L 64) k0
noncomputable def sh96x0x32 : Sh := { tmps := [(3, .c (.p 4 0)), (4, .c (.p 5 0)), (5, .c (.p 6 0)), (54, .c (.b))], mem := [(0, .box [.i .i64, .i .i64, .i .i64, .sl 66, .sl 68, .b, .b, .b, .b, .b, .b, .b, .b, .b, .b, .b, .b]), (4, .box [.i .i64, .i .i64, .i .i64, .i .i64, .i .i64, .i .i64, .i .i64, .i .i64, .i .i64, .i .i64, .i .i64, .i .i64, .i .i64, .i .i64, .i .i64, .i .i64, .i .i64, .i .i64, .i .i64, .i .i64]), (5, .box [.i .i64, .i .i64, .i .i64, .i .i64, .i .i64, .i .i64, .i .i64, .i .i64, .i .i64, .i .i64, .i .i64, .i .i64, .i .i64, .i .i64, .i .i64, .i .i64, .i .i64, .i .i64, .i .i64, .i .i64]), (6, .box [.b, .b, .b, .b, .b, .b, .b, .b, .b, .b])] }
noncomputable def K96x0x32w0 (L : List Lf) (p : Int × Int) : Ex × St := (.normal, ⟨[(3, .c (.p 4 0)), (4, .c (.p 5 0)), (5, .c (.p 6 0))], [(0, .box [.i .i64 (li L 1), .i .i64 (li L 2), .i .i64 (li L 3), .sl 66 (lb L 4) (ll L 5), .sl 68 (lb L 6) (ll L 7), .b (lb L 8), .b (lb L 9), .b (lb L 10), .b (lb L 11), .b (lb L 12), .b (lb L 13), .b (lb L 14), .b (lb L 15), .b (lb L 16), .b (lb L 17), .b (lb L 18), .b (lb L 19)]), (4, .box [.i .i64 (li L 20), .i .i64 p.1, .i .i64 p.2, .i .i64 (li L 23), .i .i64 (li L 24), .i .i64 (li L 25), .i .i64 (li L 26), .i .i64 (li L 27), .i .i64 (li L 28), .i .i64 (li L 29), .i .i64 (li L 30), .i .i64 (li L 31), .i .i64 (li L 32), .i .i64 (li L 33), .i .i64 (li L 34), .i .i64 (li L 35), .i .i64 (li L 36), .i .i64 (li L 37), .i .i64 (li L 38), .i .i64 (li L 39)]), (5, .box [.i .i64 (li L 40), .i .i64 (li L 41), .i .i64 (li L 42), .i .i64 (li L 43), .i .i64 (li L 44), .i .i64 (li L 45), .i .i64 (li L 46), .i .i64 (li L 47), .i .i64 (li L 48), .i .i64 (li L 49), .i .i64 (li L 50), .i .i64 (li L 51), .i .i64 (li L 52), .i .i64 (li L 53), .i .i64 (li L 54), .i .i64 (li L 55), .i .i64 (li L 56), .i .i64 (li L 57), .i .i64 (li L 58), .i .i64 (li L 59)]), (6, .box [.b (lb L 60), .b (lb L 61), .b (lb L 62), .b (lb L 63), .b (lb L 64), .b (lb L 65), .b (lb L 66), .b (lb L 67), .b (lb L 68), .b (lb L 69)])]⟩)
noncomputable def A96x0x32 (N : Nat) (L : List Lf) : List (Bool × (Ex × St)) := bnd (J96x0x32 N L (fun p => p)) fun q => [(true, K96x0x32w0 L q)]
theorem raw96x0x32 (N : Nat) (L : List Lf) : (exec Try.prog (T95x0 N) (h96x0s4 N) 1 100 (piece Try.prog 96 32) (ofSh sh96x0x32 L) (fun e st => some (e, cutSt [5, 3, 4] [6, 5, 4, 0] st)) : Option (Ex × St)) = J96x0x32 N L (fun p => some (K96x0x32w0 L p)) := by kernel_rfl
theorem one96x0x32 : oneB Try.prog 96 32 = true := by kernel_rfl
theorem law96x0x32 (N : Nat) : CutLaw Try.prog 1 (piece Try.prog 96 32) (loSh sh96x0x32 (A96x0x32 N)) :=
  law_sh progOk (T95x0_ok N) (al96x0s4 N) one96x0x32 fun L x hx => (raw96x0x32 N L).trans ((tot96x0x32 N ..).trans (alt0 _ _ hx))
noncomputable def h96x0s5 (N : Nat) : Hint := { (h96x0s4 N) with los := (32, loSh sh96x0x32 (A96x0x32 N)) :: (h96x0s4 N).los }
theorem al96x0s5 (N : Nat) : AllCuts Try.prog (h96x0s5 N).los 1 96 := AllCuts.cons (al96x0s4 N) one96x0x32 (law96x0x32 N)
noncomputable def F96x0x44 (N : Nat) {R : Type} (w0 : Bool) (w23 : Int) (k0 : Int → R) : R :=
  bif w0 then
    k0 0
  else
    k0 w23
noncomputable def V96x0x44 (N : Nat) (w0 : Bool) (w23 : Int) : Int := F96x0x44 N w0 w23 (fun p => p)
theorem tot96x0x44 (N : Nat) {R : Type} (w0 : Bool) (w23 : Int) (k0 : Int → R) : F96x0x44 N w0 w23 k0 = k0 (V96x0x44 N w0 w23) := by
  unfold V96x0x44 F96x0x44
  repeat' (first | rfl | apply cond_k | (apply bnd_k; intro _))
noncomputable def sh96x0x44 : Sh := { tmps := [(3, .c (.p 4 0)), (4, .c (.p 5 0)), (5, .c (.p 6 0)), (67, .c (.b))], mem := [(0, .box [.i .i64, .i .i64, .i .i64, .sl 66, .sl 68, .b, .b, .b, .b, .b, .b, .b, .b, .b, .b, .b, .b]), (4, .box [.i .i64, .i .i64, .i .i64, .i .i64, .i .i64, .i .i64, .i .i64, .i .i64, .i .i64, .i .i64, .i .i64, .i .i64, .i .i64, .i .i64, .i .i64, .i .i64, .i .i64, .i .i64, .i .i64, .i .i64]), (5, .box [.i .i64, .i .i64, .i .i64, .i .i64, .i .i64, .i .i64, .i .i64, .i .i64, .i .i64, .i .i64, .i .i64, .i .i64, .i .i64, .i .i64, .i .i64, .i .i64, .i .i64, .i .i64, .i .i64, .i .i64]), (6, .box [.b, .b, .b, .b, .b, .b, .b, .b, .b, .b])] }
noncomputable def K96x0x44w0 (L : List Lf) (p : Int) : Ex × St := (.normal, ⟨[(3, .c (.p 4 0)), (4, .c (.p 5 0)), (5, .c (.p 6 0))], [(0, .box [.i .i64 (li L 1), .i .i64 (li L 2), .i .i64 (li L 3), .sl 66 (lb L 4) (ll L 5), .sl 68 (lb L 6) (ll L 7), .b (lb L 8), .b (lb L 9), .b (lb L 10), .b (lb L 11), .b (lb L 12), .b (lb L 13), .b (lb L 14), .b (lb L 15), .b (lb L 16), .b (lb L 17), .b (lb L 18), .b (lb L 19)]), (4, .box [.i .i64 (li L 20), .i .i64 (li L 21), .i .i64 (li L 22), .i .i64 p, .i .i64 (li L 24), .i .i64 (li L 25), .i .i64 (li L 26), .i .i64 (li L 27), .i .i64 (li L 28), .i .i64 (li L 29), .i .i64 (li L 30), .i .i64 (li L 31), .i .i64 (li L 32), .i .i64 (li L 33), .i .i64 (li L 34), .i .i64 (li L 35), .i .i64 (li L 36), .i .i64 (li L 37), .i .i64 (li L 38), .i .i64 (li L 39)]), (5, .box [.i .i64 (li L 40), .i .i64 (li L 41), .i .i64 (li L 42), .i .i64 (li L 43), .i .i64 (li L 44), .i .i64 (li L 45), .i .i64 (li L 46), .i .i64 (li L 47), .i .i64 (li L 48), .i .i64 (li L 49), .i .i64 (li L 50), .i .i64 (li L 51), .i .i64 (li L 52), .i .i64 (li L 53), .i .i64 (li L 54), .i .i64 (li L 55), .i .i64 (li L 56), .i .i64 (li L 57), .i .i64 (li L 58), .i .i64 (li L 59)]), (6, .box [.b (lb L 60), .b (lb L 61), .b (lb L 62), .b (lb L 63), .b (lb L 64), .b (lb L 65), .b (lb L 66), .b (lb L 67), .b (lb L 68), .b (lb L 69)])]⟩)
noncomputable def A96x0x44 (N : Nat) (L : List Lf) : List (Bool × (Ex × St)) := bnd (F96x0x44 N (lb L 0) (li L 23) (fun p => p)) fun q => [(true, K96x0x44w0 L q)]
theorem raw96x0x44 (N : Nat) (L : List Lf) : (exec Try.prog (T95x0 N) (h96x0s5 N) 1 100 (piece Try.prog 96 44) (ofSh sh96x0x44 L) (fun e st => some (e, cutSt [5, 3, 4] [6, 5, 4, 0] st)) : Option (Ex × St)) = F96x0x44 N (lb L 0) (li L 23) (fun p => some (K96x0x44w0 L p)) := by kernel_rfl
theorem one96x0x44 : oneB Try.prog 96 44 = true := by kernel_rfl
theorem law96x0x44 (N : Nat) : CutLaw Try.prog 1 (piece Try.prog 96 44) (loSh sh96x0x44 (A96x0x44 N)) :=
  law_sh progOk (T95x0_ok N) (al96x0s5 N) one96x0x44 fun L x hx => (raw96x0x44 N L).trans ((tot96x0x44 N ..).trans (alt0 _ _ hx))
noncomputable def h96x0s6 (N : Nat) : Hint := { (h96x0s5 N) with los := (44, loSh sh96x0x44 (A96x0x44 N)) :: (h96x0s5 N).los }
theorem al96x0s6 (N : Nat) : AllCuts Try.prog (h96x0s6 N).los 1 96 := AllCuts.cons (al96x0s5 N) one96x0x44 (law96x0x44 N)
noncomputable def F96x0x50 (N : Nat) {R : Type} (w0 : Bool) (w24 w25 w26 w27 : Int) (k0 : Int × Int × Int × Int → R) : R :=
  bif w0 then
    k0 (0, 0, 0, 0)
  else
    k0 (w24, w25, w26, w27)
noncomputable def V96x0x50 (N : Nat) (w0 : Bool) (w24 w25 w26 w27 : Int) : Int × Int × Int × Int := F96x0x50 N w0 w24 w25 w26 w27 (fun p => p)
theorem tot96x0x50 (N : Nat) {R : Type} (w0 : Bool) (w24 w25 w26 w27 : Int) (k0 : Int × Int × Int × Int → R) : F96x0x50 N w0 w24 w25 w26 w27 k0 = k0 (V96x0x50 N w0 w24 w25 w26 w27) := by
  unfold V96x0x50 F96x0x50
  repeat' (first | rfl | apply cond_k | (apply bnd_k; intro _))
noncomputable def J96x0x50 (N : Nat) (L : List Lf) {R : Type} (k0 : Int × Int × Int × Int → R) : R := F96x0x50 N (lb L 0) (li L 24) (li L 25) (li L 26) (li L 27) k0
noncomputable def sh96x0x50 : Sh := { tmps := [(3, .c (.p 4 0)), (4, .c (.p 5 0)), (71, .c (.b))], mem := [(0, .box [.i .i64, .i .i64, .i .i64, .sl 66, .sl 68, .b, .b, .b, .b, .b, .b, .b, .b, .b, .b, .b, .b]), (4, .box [.i .i64, .i .i64, .i .i64, .i .i64, .i .i64, .i .i64, .i .i64, .i .i64, .i .i64, .i .i64, .i .i64, .i .i64, .i .i64, .i .i64, .i .i64, .i .i64, .i .i64, .i .i64, .i .i64, .i .i64]), (5, .box [.i .i64, .i .i64, .i .i64, .i .i64, .i .i64, .i .i64, .i .i64, .i .i64, .i .i64, .i .i64, .i .i64, .i .i64, .i .i64, .i .i64, .i .i64, .i .i64, .i .i64, .i .i64, .i .i64, .i .i64])] }
noncomputable def K96x0x50w0 (L : List Lf) (p : Int × Int × Int × Int) : Ex × St := (.normal, ⟨[(3, .c (.p 4 0)), (4, .c (.p 5 0))], [(0, .box [.i .i64 (li L 1), .i .i64 (li L 2), .i .i64 (li L 3), .sl 66 (lb L 4) (ll L 5), .sl 68 (lb L 6) (ll L 7), .b (lb L 8), .b (lb L 9), .b (lb L 10), .b (lb L 11), .b (lb L 12), .b (lb L 13), .b (lb L 14), .b (lb L 15), .b (lb L 16), .b (lb L 17), .b (lb L 18), .b (lb L 19)]), (4, .box [.i .i64 (li L 20), .i .i64 (li L 21), .i .i64 (li L 22), .i .i64 (li L 23), .i .i64 p.1, .i .i64 p.2.1, .i .i64 p.2.2.1, .i .i64 p.2.2.2, .i .i64 (li L 28), .i .i64 (li L 29), .i .i64 (li L 30), .i .i64 (li L 31), .i .i64 (li L 32), .i .i64 (li L 33), .i .i64 (li L 34), .i .i64 (li L 35), .i .i64 (li L 36), .i .i64 (li L 37), .i .i64 (li L 38), .i .i64 (li L 39)]), (5, .box [.i .i64 (li L 40), .i .i64 (li L 41), .i .i64 (li L 42), .i .i64 (li L 43), .i .i64 (li L 44), .i .i64 (li L 45), .i .i64 (li L 46), .i .i64 (li L 47), .i .i64 (li L 48), .i .i64 (li L 49), .i .i64 (li L 50), .i .i64 (li L 51), .i .i64 (li L 52), .i .i64 (li L 53), .i .i64 (li L 54), .i .i64 (li L 55), .i .i64 (li L 56), .i .i64 (li L 57), .i .i64 (li L 58), .i .i64 (li L 59)])]⟩)
noncomputable def A96x0x50 (N : Nat) (L : List Lf) : List (Bool × (Ex × St)) := bnd (J96x0x50 N L (fun p => p)) fun q => [(true, K96x0x50w0 L q)]
theorem raw96x0x50 (N : Nat) (L : List Lf) : (exec Try.prog (T95x0 N) (h96x0s6 N) 1 100 (piece Try.prog 96 50) (ofSh sh96x0x50 L) (fun e st => some (e, cutSt [3, 4] [5, 4, 0] st)) : Option (Ex × St)) = J96x0x50 N L (fun p => some (K96x0x50w0 L p)) := by kernel_rfl
theorem one96x0x50 : oneB Try.prog 96 50 = true := by kernel_rfl
theorem law96x0x50 (N : Nat) : CutLaw Try.prog 1 (piece Try.prog 96 50) (loSh sh96x0x50 (A96x0x50 N)) :=
  law_sh progOk (T95x0_ok N) (al96x0s6 N) one96x0x50 fun L x hx => (raw96x0x50 N L).trans ((tot96x0x50 N ..).trans (alt0 _ _ hx))
noncomputable def h96x0s7 (N : Nat) : Hint := { (h96x0s6 N) with los := (50, loSh sh96x0x50 (A96x0x50 N)) :: (h96x0s6 N).los }
theorem al96x0s7 (N : Nat) : AllCuts Try.prog (h96x0s7 N).los 1 96 := AllCuts.cons (al96x0s6 N) one96x0x50 (law96x0x50 N)
noncomputable def F96x0 (N : Nat) {R : Type} (v0 v1 v2 v3 v4 v5 v6 v7 v8 v9 v10 v11 v12 v13 v14 v15 v16 v17 v18 v19 : Int) (v26 : (List D)) (v27 v28 v29 v30 v31 v32 v33 v34 v35 v36 v37 v38 : Bool) (k0 : Int × Int × Int × Int × Int × Int × Int × Int × Int × Int × Int × Int × Int × Int × Int × Int × Int × Int × Int → Option R) : Option R :=
  bnd (G96x0x9 N v26 (v26.length : Int) v27 v28 v29 v30 v31 v32 v33 v34 v35 v36 v37 v38 v0 0 v8 v9 v10 v11 v12 v13 v14 v15 v16 v17 v18 v19 false false false false false false false false false false) fun x67443174 =>
  bif x67443174.isSome then
    bnd (x67443174.getD default).2.2.2.2.2.2.2.2.2.2.2.2.2.2.2.2.2.2.2.1 fun x10759441 =>
    bnd (V96x0x32 N (!x10759441) v1 v2 (x67443174.getD default).2.2.2.2.2.2.2.2.2.2.2.2.2.2.2.1 (x67443174.getD default).2.2.2.2.2.2.2.2.2.2.2.2.2.2.2.2.1) fun x46281653 =>
    bnd (!(x67443174.getD default).2.2.2.2.2.2.2.2.2.2.2.2.2.2.2.2.2.1) fun x36879027 =>
    bnd (V96x0x44 N x36879027 v3) fun x29776272 =>
    bnd (x67443174.getD default).2.2.2.2.2.2.2.2.2.2.2.2.2.2.2.2.2.2.1 fun x77767774 =>
    bnd (V96x0x50 N (!x77767774) v4 v5 v6 v7) fun x16495101 =>
    k0 (x46281653.1, x46281653.2, x29776272, x16495101.1, x16495101.2.1, x16495101.2.2.1, x16495101.2.2.2, (x67443174.getD default).1, (x67443174.getD default).2.1, (x67443174.getD default).2.2.1, (x67443174.getD default).2.2.2.1, (x67443174.getD default).2.2.2.2.1, (x67443174.getD default).2.2.2.2.2.1, (x67443174.getD default).2.2.2.2.2.2.1, (x67443174.getD default).2.2.2.2.2.2.2.1, (x67443174.getD default).2.2.2.2.2.2.2.2.1, (x67443174.getD default).2.2.2.2.2.2.2.2.2.1, (x67443174.getD default).2.2.2.2.2.2.2.2.2.2.1, (x67443174.getD default).2.2.2.2.2.2.2.2.2.2.2.1)
  else
    none
noncomputable def G96x0 (N : Nat) (v0 v1 v2 v3 v4 v5 v6 v7 v8 v9 v10 v11 v12 v13 v14 v15 v16 v17 v18 v19 : Int) (v26 : (List D)) (v27 v28 v29 v30 v31 v32 v33 v34 v35 v36 v37 v38 : Bool) : Option (Int × Int × Int × Int × Int × Int × Int × Int × Int × Int × Int × Int × Int × Int × Int × Int × Int × Int × Int) := F96x0 N v0 v1 v2 v3 v4 v5 v6 v7 v8 v9 v10 v11 v12 v13 v14 v15 v16 v17 v18 v19 v26 v27 v28 v29 v30 v31 v32 v33 v34 v35 v36 v37 v38 (fun p => some p)
theorem bind96x0 (N : Nat) {R : Type} (v0 v1 v2 v3 v4 v5 v6 v7 v8 v9 v10 v11 v12 v13 v14 v15 v16 v17 v18 v19 : Int) (v26 : (List D)) (v27 v28 v29 v30 v31 v32 v33 v34 v35 v36 v37 v38 : Bool) (k0 : Int × Int × Int × Int × Int × Int × Int × Int × Int × Int × Int × Int × Int × Int × Int × Int × Int × Int × Int → Option R) : F96x0 N v0 v1 v2 v3 v4 v5 v6 v7 v8 v9 v10 v11 v12 v13 v14 v15 v16 v17 v18 v19 v26 v27 v28 v29 v30 v31 v32 v33 v34 v35 v36 v37 v38 k0 = (G96x0 N v0 v1 v2 v3 v4 v5 v6 v7 v8 v9 v10 v11 v12 v13 v14 v15 v16 v17 v18 v19 v26 v27 v28 v29 v30 v31 v32 v33 v34 v35 v36 v37 v38).bind k0 := by
  unfold G96x0 F96x0
  repeat' (first | rfl | apply cond_b | (apply bnd_b; intro _))
noncomputable def J96x0 (N : Nat) (L : List Lf) {R : Type} (k0 : Int × Int × Int × Int × Int × Int × Int × Int × Int × Int × Int × Int × Int × Int × Int × Int × Int × Int × Int → Option R) : Option R := F96x0 N (li L 0) (li L 1) (li L 2) (li L 3) (li L 4) (li L 5) (li L 6) (li L 7) (li L 8) (li L 9) (li L 10) (li L 11) (li L 12) (li L 13) (li L 14) (li L 15) (li L 16) (li L 17) (li L 18) (li L 19) (ll L 26) (lb L 27) (lb L 28) (lb L 29) (lb L 30) (lb L 31) (lb L 32) (lb L 33) (lb L 34) (lb L 35) (lb L 36) (lb L 37) (lb L 38) k0
noncomputable def sh96x0 : Sh := { tmps := [(0, .c (.p 0 0)), (1, .g [.i .i64, .i .i64, .i .i64, .i .i64, .i .i64, .i .i64, .i .i64, .i .i64, .i .i64, .i .i64, .i .i64, .i .i64, .i .i64, .i .i64, .i .i64, .i .i64, .i .i64, .i .i64, .i .i64, .i .i64])], mem := [(0, .box [.i .i64, .i .i64, .i .i64, .sl 66, .sl 68, .b, .b, .b, .b, .b, .b, .b, .b, .b, .b, .b, .b])] }
noncomputable def K96x0w0 (L : List Lf) (p : Int × Int × Int × Int × Int × Int × Int × Int × Int × Int × Int × Int × Int × Int × Int × Int × Int × Int × Int) : Res := ([.g [.i .i64 (li L 0), .i .i64 p.1, .i .i64 p.2.1, .i .i64 p.2.2.1, .i .i64 p.2.2.2.1, .i .i64 p.2.2.2.2.1, .i .i64 p.2.2.2.2.2.1, .i .i64 p.2.2.2.2.2.2.1, .i .i64 p.2.2.2.2.2.2.2.1, .i .i64 p.2.2.2.2.2.2.2.2.1, .i .i64 p.2.2.2.2.2.2.2.2.2.1, .i .i64 p.2.2.2.2.2.2.2.2.2.2.1, .i .i64 p.2.2.2.2.2.2.2.2.2.2.2.1, .i .i64 p.2.2.2.2.2.2.2.2.2.2.2.2.1, .i .i64 p.2.2.2.2.2.2.2.2.2.2.2.2.2.1, .i .i64 p.2.2.2.2.2.2.2.2.2.2.2.2.2.2.1, .i .i64 p.2.2.2.2.2.2.2.2.2.2.2.2.2.2.2.1, .i .i64 p.2.2.2.2.2.2.2.2.2.2.2.2.2.2.2.2.1, .i .i64 p.2.2.2.2.2.2.2.2.2.2.2.2.2.2.2.2.2.1, .i .i64 p.2.2.2.2.2.2.2.2.2.2.2.2.2.2.2.2.2.2]], [(0, .box [.i .i64 (li L 20), .i .i64 (li L 21), .i .i64 (li L 22), .sl 66 (lb L 23) (ll L 24), .sl 68 (lb L 25) (ll L 26), .b (lb L 27), .b (lb L 28), .b (lb L 29), .b (lb L 30), .b (lb L 31), .b (lb L 32), .b (lb L 33), .b (lb L 34), .b (lb L 35), .b (lb L 36), .b (lb L 37), .b (lb L 38)])])
noncomputable def A96x0 (N : Nat) (L : List Lf) : List (Bool × Res) := bnd (J96x0 N L (fun p => some p)) fun q => [(q.isSome, K96x0w0 L (q.getD default))]
theorem raw96x0 (N : Nat) (L : List Lf) : (body Try.prog (T95x0 N) (h96x0s7 N) 200 96 (valsOf (ofSh sh96x0 L).tmps) (ofSh sh96x0 L).mem : Option Res) = J96x0 N L (fun p => some (K96x0w0 L p)) := by kernel_rfl
theorem ok96x0 (N : Nat) : ∀ args mem alts, spSh sh96x0 (A96x0 N) args mem = some alts → ∀ res, altK alts some = some res → CallOk Try.prog 96 args mem res :=
  spSh_law fun L x hx => callOk_of (n := 200) progOk (T95x0_ok N) (al96x0s7 N) rfl ((raw96x0 N L).trans ((bind96x0 N ..).trans (alt1 x hx)))
noncomputable def T96x0 (N : Nat) : Oracle := ext 96 (spSh sh96x0 (A96x0 N)) (T95x0 N)
theorem T96x0_ok (N : Nat) : OracleOk Try.prog (T96x0 N) := ext_ok (T95x0_ok N) (enters_of (by kernel_rfl)) (ok96x0 N)
noncomputable def rg88x0 : List (Nat × List Nat) := [(0, [1, 0, 2]), (1, [0, 2, 4, 6]), (2, [4, 8, 2, 0, 6]), (3, [4, 8, 2, 9, 0, 6]), (4, [2, 4, 9, 0, 8, 6]), (5, [2, 4, 9, 0, 8, 6]), (6, [9, 0, 4, 8, 2, 6]), (7, [10, 9, 0, 4, 8, 2, 6]), (8, [0, 9, 4, 8, 2, 10, 11, 6]), (9, [57, 56, 55, 9, 4, 8, 0, 2, 10, 11, 6]), (10, [57, 55, 9, 4, 8, 0, 2, 10, 11, 6, 56]), (11, [13, 9, 12, 4, 8, 0, 2, 10, 11, 6, 57, 56, 55]), (12, [12, 4, 8, 0, 2, 10, 11, 6, 57, 56, 55, 9]), (13, [0, 12, 4, 2, 10, 11, 6, 57, 56, 55, 9, 8]), (14, [6]), (15, [57, 56, 55, 9, 4, 8, 0, 2, 10, 11, 6]), (16, [8, 9, 4, 11, 0, 6]), (17, [9, 4, 11, 0, 6]), (18, [11, 4, 0, 6]), (19, [4, 0, 6]), (20, [4, 0, 6]), (21, [0, 4, 6])]
noncomputable def hd88x0 : Hints := [(17, [2, 4, 9, 0, 8, 6, 29], [9, 7, 5, 0], []), (27, [57, 56, 55, 9, 4, 8, 0, 2, 10, 11, 6], [9, 7, 5, 0], []), (34, [13, 9, 12, 4, 8, 0, 2, 10, 11, 6, 57, 56, 55], [14, 9, 7, 5, 0], []), (38, [12, 4, 8, 0, 2, 10, 11, 6, 57, 56, 55, 9, 76], [9, 7, 5, 0], []), (40, [0, 12, 4, 2, 10, 11, 6, 57, 56, 55, 9, 8], [9, 7, 5, 0], []), (53, [9, 4, 11, 0, 6, 106], [7, 5, 0], []), (59, [4, 0, 6, 110], [7, 5, 0], [])]
noncomputable def h88x0s0 (N : Nat) : Hint := { loops := hd88x0, regs := rg88x0, los := [] }
theorem al88x0s0 (N : Nat) : AllCuts Try.prog (h88x0s0 N).los 1 88 := AllCuts.nil
noncomputable def F88x0x17 (N : Nat) {R : Type} (w0 : Int) (w2 : Bool) (w26 w27 w28 w29 : Int) (k0 : Int × Int × Int × Int → Option R) : Option R :=
  bif w2 then
    bif (inB w0 4) then
      bnd (bif (Nat.beq w0.toNat 0) then w26 else (bif (Nat.beq w0.toNat 1) then w27 else (bif (Nat.beq w0.toNat 2) then w28 else w29))) fun x37541288 =>
      bif (inB w0 4) then
        bnd (bif (Nat.beq w0.toNat 0) then (IntKind.wrap .i64 (x37541288 + 1)) else w26) fun x28455449 =>
        bnd (bif (Nat.beq w0.toNat 1) then (IntKind.wrap .i64 (x37541288 + 1)) else w27) fun x26320164 =>
        bnd (bif (Nat.beq w0.toNat 2) then (IntKind.wrap .i64 (x37541288 + 1)) else w28) fun x22919266 =>
        bnd (bif (Nat.beq w0.toNat 3) then (IntKind.wrap .i64 (x37541288 + 1)) else w29) fun x8209476 =>
        k0 (x28455449, x26320164, x22919266, x8209476)
      else
        none
    else
      none
  else
    k0 (w26, w27, w28, w29)
noncomputable def G88x0x17 (N : Nat) (w0 : Int) (w2 : Bool) (w26 w27 w28 w29 : Int) : Option (Int × Int × Int × Int) := F88x0x17 N w0 w2 w26 w27 w28 w29 (fun p => some p)
theorem bind88x0x17 (N : Nat) {R : Type} (w0 : Int) (w2 : Bool) (w26 w27 w28 w29 : Int) (k0 : Int × Int × Int × Int → Option R) : F88x0x17 N w0 w2 w26 w27 w28 w29 k0 = (G88x0x17 N w0 w2 w26 w27 w28 w29).bind k0 := by
  unfold G88x0x17 F88x0x17
  repeat' (first | rfl | apply cond_b | (apply bnd_b; intro _))
noncomputable def J88x0x17 (N : Nat) (L : List Lf) {R : Type} (k0 : Int × Int × Int × Int → Option R) : Option R := F88x0x17 N (li L 0) (lb L 2) (li L 26) (li L 27) (li L 28) (li L 29) k0
noncomputable def sh88x0x17 : Sh := { tmps := [(0, .c (.p 0 0)), (2, .c (.i .i64)), (4, .c (.p 5 0)), (6, .c (.p 7 0)), (8, .c (.p 9 0)), (9, .c (.i .i64)), (29, .c (.b))], mem := [(0, .box [.i .i64, .i .i64, .i .i64, .sl 66, .sl 68, .b, .b, .b, .b, .b, .b, .b, .b, .b, .b, .b, .b]), (5, .box [.i .i64, .i .i64, .i .i64, .i .i64, .i .i64, .i .i64, .i .i64, .i .i64, .i .i64, .i .i64, .i .i64, .i .i64, .i .i64, .i .i64, .i .i64, .i .i64, .i .i64, .i .i64, .i .i64, .i .i64]), (7, .box [.i .i64, .i .i64, .i .i64, .i .i64, .i .i64, .i .i64, .i .i64, .i .i64, .i .i64, .i .i64, .i .i64, .i .i64, .i .i64, .i .i64, .i .i64, .i .i64, .i .i64, .i .i64, .i .i64, .i .i64]), (9, .box [.s, .i .i64, .i .i64, .i .i64, .b])] }
noncomputable def K88x0x17w0 (L : List Lf) (p : Int × Int × Int × Int) : Ex × St := (.normal, ⟨[(0, .c (.p 0 0)), (2, .c (.i .i64 (li L 0))), (4, .c (.p 5 0)), (6, .c (.p 7 0)), (8, .c (.p 9 0)), (9, .c (.i .i64 (li L 1)))], [(0, .box [.i .i64 (li L 3), .i .i64 (li L 4), .i .i64 (li L 5), .sl 66 (lb L 6) (ll L 7), .sl 68 (lb L 8) (ll L 9), .b (lb L 10), .b (lb L 11), .b (lb L 12), .b (lb L 13), .b (lb L 14), .b (lb L 15), .b (lb L 16), .b (lb L 17), .b (lb L 18), .b (lb L 19), .b (lb L 20), .b (lb L 21)]), (5, .box [.i .i64 (li L 22), .i .i64 (li L 23), .i .i64 (li L 24), .i .i64 (li L 25), .i .i64 p.1, .i .i64 p.2.1, .i .i64 p.2.2.1, .i .i64 p.2.2.2, .i .i64 (li L 30), .i .i64 (li L 31), .i .i64 (li L 32), .i .i64 (li L 33), .i .i64 (li L 34), .i .i64 (li L 35), .i .i64 (li L 36), .i .i64 (li L 37), .i .i64 (li L 38), .i .i64 (li L 39), .i .i64 (li L 40), .i .i64 (li L 41)]), (7, .box [.i .i64 (li L 42), .i .i64 (li L 43), .i .i64 (li L 44), .i .i64 (li L 45), .i .i64 (li L 46), .i .i64 (li L 47), .i .i64 (li L 48), .i .i64 (li L 49), .i .i64 (li L 50), .i .i64 (li L 51), .i .i64 (li L 52), .i .i64 (li L 53), .i .i64 (li L 54), .i .i64 (li L 55), .i .i64 (li L 56), .i .i64 (li L 57), .i .i64 (li L 58), .i .i64 (li L 59), .i .i64 (li L 60), .i .i64 (li L 61)]), (9, .box [.s (ls L 62), .i .i64 (li L 63), .i .i64 (li L 64), .i .i64 (li L 65), .b (lb L 66)])]⟩)
noncomputable def A88x0x17 (N : Nat) (L : List Lf) : List (Bool × (Ex × St)) := bnd (J88x0x17 N L (fun p => some p)) fun q => [(q.isSome, K88x0x17w0 L (q.getD default))]
theorem raw88x0x17 (N : Nat) (L : List Lf) : (exec Try.prog (T96x0 N) (h88x0s0 N) 1 100 (piece Try.prog 88 17) (ofSh sh88x0x17 L) (fun e st => some (e, cutSt [9, 0, 4, 8, 2, 6] [9, 7, 5, 0] st)) : Option (Ex × St)) = J88x0x17 N L (fun p => some (K88x0x17w0 L p)) := by kernel_rfl
theorem one88x0x17 : oneB Try.prog 88 17 = true := by kernel_rfl
theorem law88x0x17 (N : Nat) : CutLaw Try.prog 1 (piece Try.prog 88 17) (loSh sh88x0x17 (A88x0x17 N)) :=
  law_sh progOk (T96x0_ok N) (al88x0s0 N) one88x0x17 fun L x hx => (raw88x0x17 N L).trans ((bind88x0x17 N ..).trans (alt1 x hx))
noncomputable def h88x0s1 (N : Nat) : Hint := { (h88x0s0 N) with los := (17, loSh sh88x0x17 (A88x0x17 N)) :: (h88x0s0 N).los }
theorem al88x0s1 (N : Nat) : AllCuts Try.prog (h88x0s1 N).los 1 88 := AllCuts.cons (al88x0s0 N) one88x0x17 (law88x0x17 N)
noncomputable def F88x0x34 (N : Nat) {R : Type} (w1 w73 w74 w76 : Int) (k0 : Bool → R) : R :=
  bif (w73 == 9) then
    bnd (V48x0 N w1 (IntKind.wrap .i64 (w74 - w76)) (IntKind.wrap .i64 (w74 - 1))) fun x26347362 =>
    k0 x26347362
  else
    k0 false
noncomputable def V88x0x34 (N : Nat) (w1 w73 w74 w76 : Int) : Bool := F88x0x34 N w1 w73 w74 w76 (fun p => p)
theorem tot88x0x34 (N : Nat) {R : Type} (w1 w73 w74 w76 : Int) (k0 : Bool → R) : F88x0x34 N w1 w73 w74 w76 k0 = k0 (V88x0x34 N w1 w73 w74 w76) := by
  unfold V88x0x34 F88x0x34
  repeat' (first | rfl | apply cond_k | (apply bnd_k; intro _))
noncomputable def J88x0x34 (N : Nat) (L : List Lf) {R : Type} (k0 : Bool → R) : R := F88x0x34 N (li L 1) (li L 73) (li L 74) (li L 76) k0
noncomputable def sh88x0x34 : Sh := { tmps := [(0, .c (.p 0 0)), (2, .c (.i .i64)), (4, .c (.p 5 0)), (6, .c (.p 7 0)), (8, .c (.p 9 0)), (9, .c (.i .i64)), (10, .c (.b)), (11, .c (.b)), (12, .c (.i .i64)), (13, .c (.p 14 0)), (55, .c (.sl 68)), (56, .c (.i .i64)), (57, .c (.i .i64))], mem := [(0, .box [.i .i64, .i .i64, .i .i64, .sl 66, .sl 68, .b, .b, .b, .b, .b, .b, .b, .b, .b, .b, .b, .b]), (5, .box [.i .i64, .i .i64, .i .i64, .i .i64, .i .i64, .i .i64, .i .i64, .i .i64, .i .i64, .i .i64, .i .i64, .i .i64, .i .i64, .i .i64, .i .i64, .i .i64, .i .i64, .i .i64, .i .i64, .i .i64]), (7, .box [.i .i64, .i .i64, .i .i64, .i .i64, .i .i64, .i .i64, .i .i64, .i .i64, .i .i64, .i .i64, .i .i64, .i .i64, .i .i64, .i .i64, .i .i64, .i .i64, .i .i64, .i .i64, .i .i64, .i .i64]), (9, .box [.s, .i .i64, .i .i64, .i .i64, .b]), (14, .box [.i .i64, .i .i64, .i .i64, .i .i64, .i .i64, .s])] }
noncomputable def K88x0x34w0 (L : List Lf) (p : Bool) : Ex × St := (.normal, ⟨[(0, .c (.p 0 0)), (2, .c (.i .i64 (li L 0))), (4, .c (.p 5 0)), (6, .c (.p 7 0)), (8, .c (.p 9 0)), (9, .c (.i .i64 (li L 1))), (10, .c (.b (lb L 2))), (11, .c (.b (lb L 3))), (12, .c (.i .i64 (li L 4))), (55, .c (.sl 68 (lb L 5) (ll L 6))), (56, .c (.i .i64 (li L 7))), (57, .c (.i .i64 (li L 8))), (76, .c (.b p))], [(0, .box [.i .i64 (li L 9), .i .i64 (li L 10), .i .i64 (li L 11), .sl 66 (lb L 12) (ll L 13), .sl 68 (lb L 14) (ll L 15), .b (lb L 16), .b (lb L 17), .b (lb L 18), .b (lb L 19), .b (lb L 20), .b (lb L 21), .b (lb L 22), .b (lb L 23), .b (lb L 24), .b (lb L 25), .b (lb L 26), .b (lb L 27)]), (5, .box [.i .i64 (li L 28), .i .i64 (li L 29), .i .i64 (li L 30), .i .i64 (li L 31), .i .i64 (li L 32), .i .i64 (li L 33), .i .i64 (li L 34), .i .i64 (li L 35), .i .i64 (li L 36), .i .i64 (li L 37), .i .i64 (li L 38), .i .i64 (li L 39), .i .i64 (li L 40), .i .i64 (li L 41), .i .i64 (li L 42), .i .i64 (li L 43), .i .i64 (li L 44), .i .i64 (li L 45), .i .i64 (li L 46), .i .i64 (li L 47)]), (7, .box [.i .i64 (li L 48), .i .i64 (li L 49), .i .i64 (li L 50), .i .i64 (li L 51), .i .i64 (li L 52), .i .i64 (li L 53), .i .i64 (li L 54), .i .i64 (li L 55), .i .i64 (li L 56), .i .i64 (li L 57), .i .i64 (li L 58), .i .i64 (li L 59), .i .i64 (li L 60), .i .i64 (li L 61), .i .i64 (li L 62), .i .i64 (li L 63), .i .i64 (li L 64), .i .i64 (li L 65), .i .i64 (li L 66), .i .i64 (li L 67)]), (9, .box [.s (ls L 68), .i .i64 (li L 69), .i .i64 (li L 70), .i .i64 (li L 71), .b (lb L 72)])]⟩)
noncomputable def A88x0x34 (N : Nat) (L : List Lf) : List (Bool × (Ex × St)) := bnd (J88x0x34 N L (fun p => p)) fun q => [(true, K88x0x34w0 L q)]
theorem raw88x0x34 (N : Nat) (L : List Lf) : (exec Try.prog (T96x0 N) (h88x0s1 N) 1 100 (piece Try.prog 88 34) (ofSh sh88x0x34 L) (fun e st => some (e, cutSt [12, 4, 8, 0, 2, 10, 11, 6, 57, 56, 55, 9, 76] [9, 7, 5, 0] st)) : Option (Ex × St)) = J88x0x34 N L (fun p => some (K88x0x34w0 L p)) := by kernel_rfl
theorem one88x0x34 : oneB Try.prog 88 34 = true := by kernel_rfl
theorem law88x0x34 (N : Nat) : CutLaw Try.prog 1 (piece Try.prog 88 34) (loSh sh88x0x34 (A88x0x34 N)) :=
  law_sh progOk (T96x0_ok N) (al88x0s1 N) one88x0x34 fun L x hx => (raw88x0x34 N L).trans ((tot88x0x34 N ..).trans (alt0 _ _ hx))
noncomputable def h88x0s2 (N : Nat) : Hint := { (h88x0s1 N) with los := (34, loSh sh88x0x34 (A88x0x34 N)) :: (h88x0s1 N).los }
theorem al88x0s2 (N : Nat) : AllCuts Try.prog (h88x0s2 N).los 1 88 := AllCuts.cons (al88x0s1 N) one88x0x34 (law88x0x34 N)
noncomputable def F88x0x38 (N : Nat) {R : Type} (w4 : Int) (w9 : Bool) (w37 w38 w39 w40 w41 w42 w43 w44 w45 w46 w47 w48 w70 : Int) (k0 : Int × Int × Int × Int × Int × Int × Int × Int × Int × Int × Int × Int → Option R) : Option R :=
  bif w9 then
    bif (inB w4 12) then
      bnd (bif (Nat.beq w4.toNat 0) then w37 else (bif (Nat.beq w4.toNat 1) then w38 else (bif (Nat.beq w4.toNat 2) then w39 else (bif (Nat.beq w4.toNat 3) then w40 else (bif (Nat.beq w4.toNat 4) then w41 else (bif (Nat.beq w4.toNat 5) then w42 else (bif (Nat.beq w4.toNat 6) then w43 else (bif (Nat.beq w4.toNat 7) then w44 else (bif (Nat.beq w4.toNat 8) then w45 else (bif (Nat.beq w4.toNat 9) then w46 else (bif (Nat.beq w4.toNat 10) then w47 else w48))))))))))) fun x69851923 =>
      bif (inB w4 12) then
        bnd (bif (Nat.beq w4.toNat 0) then (IntKind.wrap .i64 (x69851923 + w70)) else w37) fun x36248059 =>
        bnd (bif (Nat.beq w4.toNat 1) then (IntKind.wrap .i64 (x69851923 + w70)) else w38) fun x73169943 =>
        bnd (bif (Nat.beq w4.toNat 2) then (IntKind.wrap .i64 (x69851923 + w70)) else w39) fun x64025740 =>
        bnd (bif (Nat.beq w4.toNat 3) then (IntKind.wrap .i64 (x69851923 + w70)) else w40) fun x97798231 =>
        bnd (bif (Nat.beq w4.toNat 4) then (IntKind.wrap .i64 (x69851923 + w70)) else w41) fun x85468058 =>
        bnd (bif (Nat.beq w4.toNat 5) then (IntKind.wrap .i64 (x69851923 + w70)) else w42) fun x76000336 =>
        bnd (bif (Nat.beq w4.toNat 6) then (IntKind.wrap .i64 (x69851923 + w70)) else w43) fun x46910986 =>
        bnd (bif (Nat.beq w4.toNat 7) then (IntKind.wrap .i64 (x69851923 + w70)) else w44) fun x83576976 =>
        bnd (bif (Nat.beq w4.toNat 8) then (IntKind.wrap .i64 (x69851923 + w70)) else w45) fun x20021533 =>
        bnd (bif (Nat.beq w4.toNat 9) then (IntKind.wrap .i64 (x69851923 + w70)) else w46) fun x4514387 =>
        bnd (bif (Nat.beq w4.toNat 10) then (IntKind.wrap .i64 (x69851923 + w70)) else w47) fun x24514280 =>
        bnd (bif (Nat.beq w4.toNat 11) then (IntKind.wrap .i64 (x69851923 + w70)) else w48) fun x41034862 =>
        k0 (x36248059, x73169943, x64025740, x97798231, x85468058, x76000336, x46910986, x83576976, x20021533, x4514387, x24514280, x41034862)
      else
        none
    else
      none
  else
    k0 (w37, w38, w39, w40, w41, w42, w43, w44, w45, w46, w47, w48)
noncomputable def G88x0x38 (N : Nat) (w4 : Int) (w9 : Bool) (w37 w38 w39 w40 w41 w42 w43 w44 w45 w46 w47 w48 w70 : Int) : Option (Int × Int × Int × Int × Int × Int × Int × Int × Int × Int × Int × Int) := F88x0x38 N w4 w9 w37 w38 w39 w40 w41 w42 w43 w44 w45 w46 w47 w48 w70 (fun p => some p)
theorem bind88x0x38 (N : Nat) {R : Type} (w4 : Int) (w9 : Bool) (w37 w38 w39 w40 w41 w42 w43 w44 w45 w46 w47 w48 w70 : Int) (k0 : Int × Int × Int × Int × Int × Int × Int × Int × Int × Int × Int × Int → Option R) : F88x0x38 N w4 w9 w37 w38 w39 w40 w41 w42 w43 w44 w45 w46 w47 w48 w70 k0 = (G88x0x38 N w4 w9 w37 w38 w39 w40 w41 w42 w43 w44 w45 w46 w47 w48 w70).bind k0 := by
  unfold G88x0x38 F88x0x38
  repeat' (first | rfl | apply cond_b | (apply bnd_b; intro _))
noncomputable def J88x0x38 (N : Nat) (L : List Lf) {R : Type} (k0 : Int × Int × Int × Int × Int × Int × Int × Int × Int × Int × Int × Int → Option R) : Option R := F88x0x38 N (li L 4) (lb L 9) (li L 37) (li L 38) (li L 39) (li L 40) (li L 41) (li L 42) (li L 43) (li L 44) (li L 45) (li L 46) (li L 47) (li L 48) (li L 70) k0
noncomputable def sh88x0x38 : Sh := { tmps := [(0, .c (.p 0 0)), (2, .c (.i .i64)), (4, .c (.p 5 0)), (6, .c (.p 7 0)), (8, .c (.p 9 0)), (9, .c (.i .i64)), (10, .c (.b)), (11, .c (.b)), (12, .c (.i .i64)), (55, .c (.sl 68)), (56, .c (.i .i64)), (57, .c (.i .i64)), (76, .c (.b))], mem := [(0, .box [.i .i64, .i .i64, .i .i64, .sl 66, .sl 68, .b, .b, .b, .b, .b, .b, .b, .b, .b, .b, .b, .b]), (5, .box [.i .i64, .i .i64, .i .i64, .i .i64, .i .i64, .i .i64, .i .i64, .i .i64, .i .i64, .i .i64, .i .i64, .i .i64, .i .i64, .i .i64, .i .i64, .i .i64, .i .i64, .i .i64, .i .i64, .i .i64]), (7, .box [.i .i64, .i .i64, .i .i64, .i .i64, .i .i64, .i .i64, .i .i64, .i .i64, .i .i64, .i .i64, .i .i64, .i .i64, .i .i64, .i .i64, .i .i64, .i .i64, .i .i64, .i .i64, .i .i64, .i .i64]), (9, .box [.s, .i .i64, .i .i64, .i .i64, .b])] }
noncomputable def K88x0x38w0 (L : List Lf) (p : Int × Int × Int × Int × Int × Int × Int × Int × Int × Int × Int × Int) : Ex × St := (.normal, ⟨[(0, .c (.p 0 0)), (2, .c (.i .i64 (li L 0))), (4, .c (.p 5 0)), (6, .c (.p 7 0)), (8, .c (.p 9 0)), (9, .c (.i .i64 (li L 1))), (10, .c (.b (lb L 2))), (11, .c (.b (lb L 3))), (12, .c (.i .i64 (li L 4))), (55, .c (.sl 68 (lb L 5) (ll L 6))), (56, .c (.i .i64 (li L 7))), (57, .c (.i .i64 (li L 8)))], [(0, .box [.i .i64 (li L 10), .i .i64 (li L 11), .i .i64 (li L 12), .sl 66 (lb L 13) (ll L 14), .sl 68 (lb L 15) (ll L 16), .b (lb L 17), .b (lb L 18), .b (lb L 19), .b (lb L 20), .b (lb L 21), .b (lb L 22), .b (lb L 23), .b (lb L 24), .b (lb L 25), .b (lb L 26), .b (lb L 27), .b (lb L 28)]), (5, .box [.i .i64 (li L 29), .i .i64 (li L 30), .i .i64 (li L 31), .i .i64 (li L 32), .i .i64 (li L 33), .i .i64 (li L 34), .i .i64 (li L 35), .i .i64 (li L 36), .i .i64 p.1, .i .i64 p.2.1, .i .i64 p.2.2.1, .i .i64 p.2.2.2.1, .i .i64 p.2.2.2.2.1, .i .i64 p.2.2.2.2.2.1, .i .i64 p.2.2.2.2.2.2.1, .i .i64 p.2.2.2.2.2.2.2.1, .i .i64 p.2.2.2.2.2.2.2.2.1, .i .i64 p.2.2.2.2.2.2.2.2.2.1, .i .i64 p.2.2.2.2.2.2.2.2.2.2.1, .i .i64 p.2.2.2.2.2.2.2.2.2.2.2]), (7, .box [.i .i64 (li L 49), .i .i64 (li L 50), .i .i64 (li L 51), .i .i64 (li L 52), .i .i64 (li L 53), .i .i64 (li L 54), .i .i64 (li L 55), .i .i64 (li L 56), .i .i64 (li L 57), .i .i64 (li L 58), .i .i64 (li L 59), .i .i64 (li L 60), .i .i64 (li L 61), .i .i64 (li L 62), .i .i64 (li L 63), .i .i64 (li L 64), .i .i64 (li L 65), .i .i64 (li L 66), .i .i64 (li L 67), .i .i64 (li L 68)]), (9, .box [.s (ls L 69), .i .i64 (li L 70), .i .i64 (li L 71), .i .i64 (li L 72), .b (lb L 73)])]⟩)
noncomputable def A88x0x38 (N : Nat) (L : List Lf) : List (Bool × (Ex × St)) := bnd (J88x0x38 N L (fun p => some p)) fun q => [(q.isSome, K88x0x38w0 L (q.getD default))]
theorem raw88x0x38 (N : Nat) (L : List Lf) : (exec Try.prog (T96x0 N) (h88x0s2 N) 1 100 (piece Try.prog 88 38) (ofSh sh88x0x38 L) (fun e st => some (e, cutSt [0, 12, 4, 2, 10, 11, 6, 57, 56, 55, 9, 8] [9, 7, 5, 0] st)) : Option (Ex × St)) = J88x0x38 N L (fun p => some (K88x0x38w0 L p)) := by kernel_rfl
theorem one88x0x38 : oneB Try.prog 88 38 = true := by kernel_rfl
theorem law88x0x38 (N : Nat) : CutLaw Try.prog 1 (piece Try.prog 88 38) (loSh sh88x0x38 (A88x0x38 N)) :=
  law_sh progOk (T96x0_ok N) (al88x0s2 N) one88x0x38 fun L x hx => (raw88x0x38 N L).trans ((bind88x0x38 N ..).trans (alt1 x hx))
noncomputable def h88x0s3 (N : Nat) : Hint := { (h88x0s2 N) with los := (38, loSh sh88x0x38 (A88x0x38 N)) :: (h88x0s2 N).los }
theorem al88x0s3 (N : Nat) : AllCuts Try.prog (h88x0s3 N).los 1 88 := AllCuts.cons (al88x0s2 N) one88x0x38 (law88x0x38 N)
noncomputable def F88x0x40 (N : Nat) {R : Type} (w0 : Int) (w2 w3 : Bool) (w4 w9 : Int) (w13 w15 : (List D)) (w16 w17 w18 w19 w20 w21 w22 w23 w24 w25 w26 w27 : Bool) (w28 w29 w30 w31 w32 w33 w34 w35 w36 w37 w38 w39 w40 w41 w42 w43 w44 w45 w46 w47 : Int) (k0 : Bool → Option R) : Option R :=
  bif (inB w4 12) then
    bnd (bif (Nat.beq w4.toNat 0) then w16 else (bif (Nat.beq w4.toNat 1) then w17 else (bif (Nat.beq w4.toNat 2) then w18 else (bif (Nat.beq w4.toNat 3) then w19 else (bif (Nat.beq w4.toNat 4) then w20 else (bif (Nat.beq w4.toNat 5) then w21 else (bif (Nat.beq w4.toNat 6) then w22 else (bif (Nat.beq w4.toNat 7) then w23 else (bif (Nat.beq w4.toNat 8) then w24 else (bif (Nat.beq w4.toNat 9) then w25 else (bif (Nat.beq w4.toNat 10) then w26 else w27))))))))))) fun x89936964 =>
    bif (!x89936964) then
      bnd (G95x0 N w28 w29 w30 w31 w32 w33 w34 w35 w36 w37 w38 w39 w40 w41 w42 w43 w44 w45 w46 w47 w4 w0 w2 w3 w9 w13 w15) fun x59107498 =>
      bif x59107498.isSome then
        k0 (!(x59107498.getD default))
      else
        none
    else
      k0 false
  else
    none
noncomputable def G88x0x40 (N : Nat) (w0 : Int) (w2 w3 : Bool) (w4 w9 : Int) (w13 w15 : (List D)) (w16 w17 w18 w19 w20 w21 w22 w23 w24 w25 w26 w27 : Bool) (w28 w29 w30 w31 w32 w33 w34 w35 w36 w37 w38 w39 w40 w41 w42 w43 w44 w45 w46 w47 : Int) : Option (Bool) := F88x0x40 N w0 w2 w3 w4 w9 w13 w15 w16 w17 w18 w19 w20 w21 w22 w23 w24 w25 w26 w27 w28 w29 w30 w31 w32 w33 w34 w35 w36 w37 w38 w39 w40 w41 w42 w43 w44 w45 w46 w47 (fun p => some p)
theorem bind88x0x40 (N : Nat) {R : Type} (w0 : Int) (w2 w3 : Bool) (w4 w9 : Int) (w13 w15 : (List D)) (w16 w17 w18 w19 w20 w21 w22 w23 w24 w25 w26 w27 : Bool) (w28 w29 w30 w31 w32 w33 w34 w35 w36 w37 w38 w39 w40 w41 w42 w43 w44 w45 w46 w47 : Int) (k0 : Bool → Option R) : F88x0x40 N w0 w2 w3 w4 w9 w13 w15 w16 w17 w18 w19 w20 w21 w22 w23 w24 w25 w26 w27 w28 w29 w30 w31 w32 w33 w34 w35 w36 w37 w38 w39 w40 w41 w42 w43 w44 w45 w46 w47 k0 = (G88x0x40 N w0 w2 w3 w4 w9 w13 w15 w16 w17 w18 w19 w20 w21 w22 w23 w24 w25 w26 w27 w28 w29 w30 w31 w32 w33 w34 w35 w36 w37 w38 w39 w40 w41 w42 w43 w44 w45 w46 w47).bind k0 := by
  unfold G88x0x40 F88x0x40
  repeat' (first | rfl | apply cond_b | (apply bnd_b; intro _))
noncomputable def J88x0x40 (N : Nat) (L : List Lf) {R : Type} (k0 : Bool → Option R) : Option R := F88x0x40 N (li L 0) (lb L 2) (lb L 3) (li L 4) (li L 9) (ll L 13) (ll L 15) (lb L 16) (lb L 17) (lb L 18) (lb L 19) (lb L 20) (lb L 21) (lb L 22) (lb L 23) (lb L 24) (lb L 25) (lb L 26) (lb L 27) (li L 28) (li L 29) (li L 30) (li L 31) (li L 32) (li L 33) (li L 34) (li L 35) (li L 36) (li L 37) (li L 38) (li L 39) (li L 40) (li L 41) (li L 42) (li L 43) (li L 44) (li L 45) (li L 46) (li L 47) k0
noncomputable def sh88x0x40 : Sh := { tmps := [(0, .c (.p 0 0)), (2, .c (.i .i64)), (4, .c (.p 5 0)), (6, .c (.p 7 0)), (8, .c (.p 9 0)), (9, .c (.i .i64)), (10, .c (.b)), (11, .c (.b)), (12, .c (.i .i64)), (55, .c (.sl 68)), (56, .c (.i .i64)), (57, .c (.i .i64))], mem := [(0, .box [.i .i64, .i .i64, .i .i64, .sl 66, .sl 68, .b, .b, .b, .b, .b, .b, .b, .b, .b, .b, .b, .b]), (5, .box [.i .i64, .i .i64, .i .i64, .i .i64, .i .i64, .i .i64, .i .i64, .i .i64, .i .i64, .i .i64, .i .i64, .i .i64, .i .i64, .i .i64, .i .i64, .i .i64, .i .i64, .i .i64, .i .i64, .i .i64]), (7, .box [.i .i64, .i .i64, .i .i64, .i .i64, .i .i64, .i .i64, .i .i64, .i .i64, .i .i64, .i .i64, .i .i64, .i .i64, .i .i64, .i .i64, .i .i64, .i .i64, .i .i64, .i .i64, .i .i64, .i .i64]), (9, .box [.s, .i .i64, .i .i64, .i .i64, .b])] }
noncomputable def K88x0x40w0 (L : List Lf) (p : Bool) : Ex × St := (.normal, ⟨[(0, .c (.p 0 0)), (2, .c (.i .i64 (li L 0))), (4, .c (.p 5 0)), (6, .c (.p 7 0)), (8, .c (.p 9 0)), (9, .c (.i .i64 (li L 1))), (10, .c (.b (lb L 2))), (11, .c (.b (lb L 3))), (55, .c (.sl 68 (lb L 5) (ll L 6))), (56, .c (.i .i64 (li L 7))), (57, .c (.i .i64 (li L 8))), (102, .c (.b p))], [(0, .box [.i .i64 (li L 9), .i .i64 (li L 10), .i .i64 (li L 11), .sl 66 (lb L 12) (ll L 13), .sl 68 (lb L 14) (ll L 15), .b (lb L 16), .b (lb L 17), .b (lb L 18), .b (lb L 19), .b (lb L 20), .b (lb L 21), .b (lb L 22), .b (lb L 23), .b (lb L 24), .b (lb L 25), .b (lb L 26), .b (lb L 27)]), (5, .box [.i .i64 (li L 28), .i .i64 (li L 29), .i .i64 (li L 30), .i .i64 (li L 31), .i .i64 (li L 32), .i .i64 (li L 33), .i .i64 (li L 34), .i .i64 (li L 35), .i .i64 (li L 36), .i .i64 (li L 37), .i .i64 (li L 38), .i .i64 (li L 39), .i .i64 (li L 40), .i .i64 (li L 41), .i .i64 (li L 42), .i .i64 (li L 43), .i .i64 (li L 44), .i .i64 (li L 45), .i .i64 (li L 46), .i .i64 (li L 47)]), (7, .box [.i .i64 (li L 48), .i .i64 (li L 49), .i .i64 (li L 50), .i .i64 (li L 51), .i .i64 (li L 52), .i .i64 (li L 53), .i .i64 (li L 54), .i .i64 (li L 55), .i .i64 (li L 56), .i .i64 (li L 57), .i .i64 (li L 58), .i .i64 (li L 59), .i .i64 (li L 60), .i .i64 (li L 61), .i .i64 (li L 62), .i .i64 (li L 63), .i .i64 (li L 64), .i .i64 (li L 65), .i .i64 (li L 66), .i .i64 (li L 67)]), (9, .box [.s (ls L 68), .i .i64 (li L 69), .i .i64 (li L 70), .i .i64 (li L 71), .b (lb L 72)])]⟩)
noncomputable def A88x0x40 (N : Nat) (L : List Lf) : List (Bool × (Ex × St)) := bnd (J88x0x40 N L (fun p => some p)) fun q => [(q.isSome, K88x0x40w0 L (q.getD default))]
theorem raw88x0x40 (N : Nat) (L : List Lf) : (exec Try.prog (T96x0 N) (h88x0s3 N) 1 100 (piece Try.prog 88 40) (ofSh sh88x0x40 L) (fun e st => some (e, cutSt [6, 57, 56, 55, 9, 4, 8, 0, 2, 10, 11, 102] [9, 7, 5, 0] st)) : Option (Ex × St)) = J88x0x40 N L (fun p => some (K88x0x40w0 L p)) := by kernel_rfl
theorem one88x0x40 : oneB Try.prog 88 40 = true := by kernel_rfl
theorem law88x0x40 (N : Nat) : CutLaw Try.prog 1 (piece Try.prog 88 40) (loSh sh88x0x40 (A88x0x40 N)) :=
  law_sh progOk (T96x0_ok N) (al88x0s3 N) one88x0x40 fun L x hx => (raw88x0x40 N L).trans ((bind88x0x40 N ..).trans (alt1 x hx))
noncomputable def h88x0s4 (N : Nat) : Hint := { (h88x0s3 N) with los := (40, loSh sh88x0x40 (A88x0x40 N)) :: (h88x0s3 N).los }
theorem al88x0s4 (N : Nat) : AllCuts Try.prog (h88x0s4 N).los 1 88 := AllCuts.cons (al88x0s3 N) one88x0x40 (law88x0x40 N)
noncomputable def P88x0x27 (w0 w1 : Int) (w2 w3 w4 : Bool) (w5 : (List D)) (w6 w7 w8 w9 w10 : Int) (w11 : Bool) (w12 : (List D)) (w13 : Bool) (w14 : (List D)) (w15 w16 w17 w18 w19 w20 w21 w22 w23 w24 w25 w26 : Bool) (w27 w28 w29 w30 w31 w32 w33 w34 w35 w36 w37 w38 w39 w40 w41 w42 w43 w44 w45 w46 w47 w48 w49 w50 w51 w52 w53 w54 w55 w56 w57 w58 w59 w60 w61 w62 w63 w64 w65 w66 : Int) (w67 : (List UInt8)) (w68 w69 w70 : Int) (w71 : Bool) : St := ⟨[(0, .c (.p 0 0)), (2, .c (.i .i64 w0)), (4, .c (.p 5 0)), (6, .c (.p 7 0)), (8, .c (.p 9 0)), (9, .c (.i .i64 w1)), (10, .c (.b w2)), (11, .c (.b w3)), (55, .c (.sl 68 w4 w5)), (56, .c (.i .i64 w6)), (57, .c (.i .i64 w7))], [(0, .box [.i .i64 w8, .i .i64 w9, .i .i64 w10, .sl 66 w11 w12, .sl 68 w13 w14, .b w15, .b w16, .b w17, .b w18, .b w19, .b w20, .b w21, .b w22, .b w23, .b w24, .b w25, .b w26]), (5, .box [.i .i64 w27, .i .i64 w28, .i .i64 w29, .i .i64 w30, .i .i64 w31, .i .i64 w32, .i .i64 w33, .i .i64 w34, .i .i64 w35, .i .i64 w36, .i .i64 w37, .i .i64 w38, .i .i64 w39, .i .i64 w40, .i .i64 w41, .i .i64 w42, .i .i64 w43, .i .i64 w44, .i .i64 w45, .i .i64 w46]), (7, .box [.i .i64 w47, .i .i64 w48, .i .i64 w49, .i .i64 w50, .i .i64 w51, .i .i64 w52, .i .i64 w53, .i .i64 w54, .i .i64 w55, .i .i64 w56, .i .i64 w57, .i .i64 w58, .i .i64 w59, .i .i64 w60, .i .i64 w61, .i .i64 w62, .i .i64 w63, .i .i64 w64, .i .i64 w65, .i .i64 w66]), (9, .box [.s w67, .i .i64 w68, .i .i64 w69, .i .i64 w70, .b w71])]⟩
noncomputable def S88x0x27 (N : Nat) {R : Type} (w0 w1 : Int) (w2 w3 : Bool) (w5 : (List D)) (w6 w8 : Int) (w12 w14 : (List D)) (w15 w16 w17 w18 w19 w20 w21 w22 w23 w24 w25 w26 : Bool) (w27 w28 w29 w30 w31 w32 w33 w34 w68 : Int) (w7 w35 w36 w37 w38 w39 w40 w41 w42 w43 w44 w45 w46 : Int) (kr : Int → Int → Int → Int → Int → Int → Int → Int → Int → Int → Int → Int → Int → Option R) (k0 : Int × Int × Int × Int × Int × Int × Int × Int × Int × Int × Int × Int → Option R) (k1 : Int × Int × Int × Int × Int × Int × Int × Int × Int × Int × Int × Int → Option R) : Option R :=
  bif (decide (w7 < w6)) then
    bif (inB w7 w5.length) then
      bnd (V88x0x34 N w1 ((w5.getD w7.toNat (.i 0)).cell 0).toI ((w5.getD w7.toNat (.i 0)).cell 1).toI ((w5.getD w7.toNat (.i 0)).cell 3).toI) fun x97172977 =>
      bnd (G88x0x38 N w7 x97172977 w35 w36 w37 w38 w39 w40 w41 w42 w43 w44 w45 w46 w68) fun x95904154 =>
      bif x95904154.isSome then
        bnd (G88x0x40 N w0 w2 w3 w7 w8 w12 w14 w15 w16 w17 w18 w19 w20 w21 w22 w23 w24 w25 w26 w27 w28 w29 w30 w31 w32 w33 w34 (x95904154.getD default).1 (x95904154.getD default).2.1 (x95904154.getD default).2.2.1 (x95904154.getD default).2.2.2.1 (x95904154.getD default).2.2.2.2.1 (x95904154.getD default).2.2.2.2.2.1 (x95904154.getD default).2.2.2.2.2.2.1 (x95904154.getD default).2.2.2.2.2.2.2.1 (x95904154.getD default).2.2.2.2.2.2.2.2.1 (x95904154.getD default).2.2.2.2.2.2.2.2.2.1 (x95904154.getD default).2.2.2.2.2.2.2.2.2.2.1 (x95904154.getD default).2.2.2.2.2.2.2.2.2.2.2) fun x3857646 =>
        bif x3857646.isSome then
          bif (x3857646.getD default) then
            k0 ((x95904154.getD default).1, (x95904154.getD default).2.1, (x95904154.getD default).2.2.1, (x95904154.getD default).2.2.2.1, (x95904154.getD default).2.2.2.2.1, (x95904154.getD default).2.2.2.2.2.1, (x95904154.getD default).2.2.2.2.2.2.1, (x95904154.getD default).2.2.2.2.2.2.2.1, (x95904154.getD default).2.2.2.2.2.2.2.2.1, (x95904154.getD default).2.2.2.2.2.2.2.2.2.1, (x95904154.getD default).2.2.2.2.2.2.2.2.2.2.1, (x95904154.getD default).2.2.2.2.2.2.2.2.2.2.2)
          else
            kr (IntKind.wrap .i64 (w7 + 1)) (x95904154.getD default).1 (x95904154.getD default).2.1 (x95904154.getD default).2.2.1 (x95904154.getD default).2.2.2.1 (x95904154.getD default).2.2.2.2.1 (x95904154.getD default).2.2.2.2.2.1 (x95904154.getD default).2.2.2.2.2.2.1 (x95904154.getD default).2.2.2.2.2.2.2.1 (x95904154.getD default).2.2.2.2.2.2.2.2.1 (x95904154.getD default).2.2.2.2.2.2.2.2.2.1 (x95904154.getD default).2.2.2.2.2.2.2.2.2.2.1 (x95904154.getD default).2.2.2.2.2.2.2.2.2.2.2
        else
          none
      else
        none
    else
      none
  else
    k1 (w35, w36, w37, w38, w39, w40, w41, w42, w43, w44, w45, w46)
theorem mono88x0x27 (N : Nat) {R : Type} (w0 w1 : Int) (w2 w3 : Bool) (w5 : (List D)) (w6 w8 : Int) (w12 w14 : (List D)) (w15 w16 w17 w18 w19 w20 w21 w22 w23 w24 w25 w26 : Bool) (w27 w28 w29 w30 w31 w32 w33 w34 w68 : Int) (w7 w35 w36 w37 w38 w39 w40 w41 w42 w43 w44 w45 w46 : Int) {kr kr' : Int → Int → Int → Int → Int → Int → Int → Int → Int → Int → Int → Int → Int → Option R} (k0 : Int × Int × Int × Int × Int × Int × Int × Int × Int × Int × Int × Int → Option R) (k1 : Int × Int × Int × Int × Int × Int × Int × Int × Int × Int × Int × Int → Option R) {r : R} (hk : ∀ w7' w35' w36' w37' w38' w39' w40' w41' w42' w43' w44' w45' w46', kr w7' w35' w36' w37' w38' w39' w40' w41' w42' w43' w44' w45' w46' = some r → kr' w7' w35' w36' w37' w38' w39' w40' w41' w42' w43' w44' w45' w46' = some r) : S88x0x27 N w0 w1 w2 w3 w5 w6 w8 w12 w14 w15 w16 w17 w18 w19 w20 w21 w22 w23 w24 w25 w26 w27 w28 w29 w30 w31 w32 w33 w34 w68 w7 w35 w36 w37 w38 w39 w40 w41 w42 w43 w44 w45 w46 kr k0 k1 = some r → S88x0x27 N w0 w1 w2 w3 w5 w6 w8 w12 w14 w15 w16 w17 w18 w19 w20 w21 w22 w23 w24 w25 w26 w27 w28 w29 w30 w31 w32 w33 w34 w68 w7 w35 w36 w37 w38 w39 w40 w41 w42 w43 w44 w45 w46 kr' k0 k1 = some r := by
  unfold S88x0x27
  repeat' (first | exact hk _ _ _ _ _ _ _ _ _ _ _ _ _ | exact fun h => h | apply cond_mono | (apply bnd_mono; intro _))
noncomputable def L88x0x27 (N : Nat) {R : Type} (w0 w1 : Int) (w2 w3 : Bool) (w5 : (List D)) (w6 w8 : Int) (w12 w14 : (List D)) (w15 w16 w17 w18 w19 w20 w21 w22 w23 w24 w25 w26 : Bool) (w27 w28 w29 w30 w31 w32 w33 w34 w68 : Int) : Nat → Int → Int → Int → Int → Int → Int → Int → Int → Int → Int → Int → Int → Int → (Int × Int × Int × Int × Int × Int × Int × Int × Int × Int × Int × Int → Option R) → (Int × Int × Int × Int × Int × Int × Int × Int × Int × Int × Int × Int → Option R) → Option R
  | 0, _, _, _, _, _, _, _, _, _, _, _, _, _, _, _ => none
  | m + 1, w7, w35, w36, w37, w38, w39, w40, w41, w42, w43, w44, w45, w46, k0, k1 => S88x0x27 N w0 w1 w2 w3 w5 w6 w8 w12 w14 w15 w16 w17 w18 w19 w20 w21 w22 w23 w24 w25 w26 w27 w28 w29 w30 w31 w32 w33 w34 w68 w7 w35 w36 w37 w38 w39 w40 w41 w42 w43 w44 w45 w46 (fun w7 w35 w36 w37 w38 w39 w40 w41 w42 w43 w44 w45 w46 => L88x0x27 N w0 w1 w2 w3 w5 w6 w8 w12 w14 w15 w16 w17 w18 w19 w20 w21 w22 w23 w24 w25 w26 w27 w28 w29 w30 w31 w32 w33 w34 w68 m w7 w35 w36 w37 w38 w39 w40 w41 w42 w43 w44 w45 w46 k0 k1) k0 k1
theorem lp88x0x27 : piece Try.prog 88 27 = .loop (loopB (piece Try.prog 88 27)) := by kernel_rfl
theorem nl88x0x27 (N : Nat) : lawOf (h88x0s4 N) (.loop (loopB (piece Try.prog 88 27))) = none := by kernel_rfl
theorem cl88x0x27 (N : Nat) (w0 w1 : Int) (w2 w3 w4 : Bool) (w5 : (List D)) (w6 w8 w9 w10 : Int) (w11 : Bool) (w12 : (List D)) (w13 : Bool) (w14 : (List D)) (w15 w16 w17 w18 w19 w20 w21 w22 w23 w24 w25 w26 : Bool) (w27 w28 w29 w30 w31 w32 w33 w34 w47 w48 w49 w50 w51 w52 w53 w54 w55 w56 w57 w58 w59 w60 w61 w62 w63 w64 w65 w66 : Int) (w67 : (List UInt8)) (w68 w69 w70 : Int) (w71 : Bool) (w7 w35 w36 w37 w38 w39 w40 w41 w42 w43 w44 w45 w46 : Int) : clearSt Try.prog 1 (h88x0s4 N).loops 27 (P88x0x27 w0 w1 w2 w3 w4 w5 w6 w7 w8 w9 w10 w11 w12 w13 w14 w15 w16 w17 w18 w19 w20 w21 w22 w23 w24 w25 w26 w27 w28 w29 w30 w31 w32 w33 w34 w35 w36 w37 w38 w39 w40 w41 w42 w43 w44 w45 w46 w47 w48 w49 w50 w51 w52 w53 w54 w55 w56 w57 w58 w59 w60 w61 w62 w63 w64 w65 w66 w67 w68 w69 w70 w71) = (P88x0x27 w0 w1 w2 w3 w4 w5 w6 w7 w8 w9 w10 w11 w12 w13 w14 w15 w16 w17 w18 w19 w20 w21 w22 w23 w24 w25 w26 w27 w28 w29 w30 w31 w32 w33 w34 w35 w36 w37 w38 w39 w40 w41 w42 w43 w44 w45 w46 w47 w48 w49 w50 w51 w52 w53 w54 w55 w56 w57 w58 w59 w60 w61 w62 w63 w64 w65 w66 w67 w68 w69 w70 w71) := by kernel_rfl
theorem step88x0x27 (N : Nat) (m : Nat) (kn : St → Option (Ex × St)) (w0 w1 : Int) (w2 w3 w4 : Bool) (w5 : (List D)) (w6 w8 w9 w10 : Int) (w11 : Bool) (w12 : (List D)) (w13 : Bool) (w14 : (List D)) (w15 w16 w17 w18 w19 w20 w21 w22 w23 w24 w25 w26 : Bool) (w27 w28 w29 w30 w31 w32 w33 w34 w47 w48 w49 w50 w51 w52 w53 w54 w55 w56 w57 w58 w59 w60 w61 w62 w63 w64 w65 w66 : Int) (w67 : (List UInt8)) (w68 w69 w70 : Int) (w71 : Bool) (w7 w35 w36 w37 w38 w39 w40 w41 w42 w43 w44 w45 w46 : Int) : exec Try.prog (T96x0 N) (h88x0s4 N) 1 (m + 100) (loopB (piece Try.prog 88 27)) (P88x0x27 w0 w1 w2 w3 w4 w5 w6 w7 w8 w9 w10 w11 w12 w13 w14 w15 w16 w17 w18 w19 w20 w21 w22 w23 w24 w25 w26 w27 w28 w29 w30 w31 w32 w33 w34 w35 w36 w37 w38 w39 w40 w41 w42 w43 w44 w45 w46 w47 w48 w49 w50 w51 w52 w53 w54 w55 w56 w57 w58 w59 w60 w61 w62 w63 w64 w65 w66 w67 w68 w69 w70 w71) (reK (fun st => kn (clearSt Try.prog 1 (h88x0s4 N).loops 27 st)) (fun e st => some (e, cutSt [6, 7, 8, 9, 4, 11, 0] [7, 0, 9, 5] st))) = S88x0x27 N w0 w1 w2 w3 w5 w6 w8 w12 w14 w15 w16 w17 w18 w19 w20 w21 w22 w23 w24 w25 w26 w27 w28 w29 w30 w31 w32 w33 w34 w68 w7 w35 w36 w37 w38 w39 w40 w41 w42 w43 w44 w45 w46 (fun w7 w35 w36 w37 w38 w39 w40 w41 w42 w43 w44 w45 w46 => kn (P88x0x27 w0 w1 w2 w3 w4 w5 w6 w7 w8 w9 w10 w11 w12 w13 w14 w15 w16 w17 w18 w19 w20 w21 w22 w23 w24 w25 w26 w27 w28 w29 w30 w31 w32 w33 w34 w35 w36 w37 w38 w39 w40 w41 w42 w43 w44 w45 w46 w47 w48 w49 w50 w51 w52 w53 w54 w55 w56 w57 w58 w59 w60 w61 w62 w63 w64 w65 w66 w67 w68 w69 w70 w71)) (fun p => some (.ret, ⟨[(6, .c (.p 7 0)), (7, .c (.b false))], [(0, .box [.i .i64 w8, .i .i64 w9, .i .i64 w10, .sl 66 w11 w12, .sl 68 w13 w14, .b w15, .b w16, .b w17, .b w18, .b w19, .b w20, .b w21, .b w22, .b w23, .b w24, .b w25, .b w26]), (5, .box [.i .i64 w27, .i .i64 w28, .i .i64 w29, .i .i64 w30, .i .i64 w31, .i .i64 w32, .i .i64 w33, .i .i64 w34, .i .i64 p.1, .i .i64 p.2.1, .i .i64 p.2.2.1, .i .i64 p.2.2.2.1, .i .i64 p.2.2.2.2.1, .i .i64 p.2.2.2.2.2.1, .i .i64 p.2.2.2.2.2.2.1, .i .i64 p.2.2.2.2.2.2.2.1, .i .i64 p.2.2.2.2.2.2.2.2.1, .i .i64 p.2.2.2.2.2.2.2.2.2.1, .i .i64 p.2.2.2.2.2.2.2.2.2.2.1, .i .i64 p.2.2.2.2.2.2.2.2.2.2.2]), (7, .box [.i .i64 0, .i .i64 0, .i .i64 0, .i .i64 0, .i .i64 0, .i .i64 0, .i .i64 0, .i .i64 0, .i .i64 0, .i .i64 0, .i .i64 0, .i .i64 0, .i .i64 0, .i .i64 0, .i .i64 0, .i .i64 0, .i .i64 0, .i .i64 0, .i .i64 0, .i .i64 0]), (9, .box [.s w67, .i .i64 w68, .i .i64 w69, .i .i64 w70, .b w71])]⟩)) (fun p => some ((.exit 0), ⟨[(0, .c (.p 0 0)), (4, .c (.p 5 0)), (6, .c (.p 7 0)), (8, .c (.p 9 0)), (9, .c (.i .i64 w1)), (11, .c (.b w3))], [(0, .box [.i .i64 w8, .i .i64 w9, .i .i64 w10, .sl 66 w11 w12, .sl 68 w13 w14, .b w15, .b w16, .b w17, .b w18, .b w19, .b w20, .b w21, .b w22, .b w23, .b w24, .b w25, .b w26]), (5, .box [.i .i64 w27, .i .i64 w28, .i .i64 w29, .i .i64 w30, .i .i64 w31, .i .i64 w32, .i .i64 w33, .i .i64 w34, .i .i64 p.1, .i .i64 p.2.1, .i .i64 p.2.2.1, .i .i64 p.2.2.2.1, .i .i64 p.2.2.2.2.1, .i .i64 p.2.2.2.2.2.1, .i .i64 p.2.2.2.2.2.2.1, .i .i64 p.2.2.2.2.2.2.2.1, .i .i64 p.2.2.2.2.2.2.2.2.1, .i .i64 p.2.2.2.2.2.2.2.2.2.1, .i .i64 p.2.2.2.2.2.2.2.2.2.2.1, .i .i64 p.2.2.2.2.2.2.2.2.2.2.2]), (7, .box [.i .i64 w47, .i .i64 w48, .i .i64 w49, .i .i64 w50, .i .i64 w51, .i .i64 w52, .i .i64 w53, .i .i64 w54, .i .i64 w55, .i .i64 w56, .i .i64 w57, .i .i64 w58, .i .i64 w59, .i .i64 w60, .i .i64 w61, .i .i64 w62, .i .i64 w63, .i .i64 w64, .i .i64 w65, .i .i64 w66]), (9, .box [.s w67, .i .i64 w68, .i .i64 w69, .i .i64 w70, .b w71])]⟩)) := by kernel_rfl
theorem run88x0x27 (N : Nat) (w0 w1 : Int) (w2 w3 w4 : Bool) (w5 : (List D)) (w6 w8 w9 w10 : Int) (w11 : Bool) (w12 : (List D)) (w13 : Bool) (w14 : (List D)) (w15 w16 w17 w18 w19 w20 w21 w22 w23 w24 w25 w26 : Bool) (w27 w28 w29 w30 w31 w32 w33 w34 w47 w48 w49 w50 w51 w52 w53 w54 w55 w56 w57 w58 w59 w60 w61 w62 w63 w64 w65 w66 : Int) (w67 : (List UInt8)) (w68 w69 w70 : Int) (w71 : Bool) : ∀ (m : Nat) (w7 w35 w36 w37 w38 w39 w40 w41 w42 w43 w44 w45 w46 : Int) (x : Ex × St), L88x0x27 N w0 w1 w2 w3 w5 w6 w8 w12 w14 w15 w16 w17 w18 w19 w20 w21 w22 w23 w24 w25 w26 w27 w28 w29 w30 w31 w32 w33 w34 w68 m w7 w35 w36 w37 w38 w39 w40 w41 w42 w43 w44 w45 w46 (fun p => some (.ret, ⟨[(6, .c (.p 7 0)), (7, .c (.b false))], [(0, .box [.i .i64 w8, .i .i64 w9, .i .i64 w10, .sl 66 w11 w12, .sl 68 w13 w14, .b w15, .b w16, .b w17, .b w18, .b w19, .b w20, .b w21, .b w22, .b w23, .b w24, .b w25, .b w26]), (5, .box [.i .i64 w27, .i .i64 w28, .i .i64 w29, .i .i64 w30, .i .i64 w31, .i .i64 w32, .i .i64 w33, .i .i64 w34, .i .i64 p.1, .i .i64 p.2.1, .i .i64 p.2.2.1, .i .i64 p.2.2.2.1, .i .i64 p.2.2.2.2.1, .i .i64 p.2.2.2.2.2.1, .i .i64 p.2.2.2.2.2.2.1, .i .i64 p.2.2.2.2.2.2.2.1, .i .i64 p.2.2.2.2.2.2.2.2.1, .i .i64 p.2.2.2.2.2.2.2.2.2.1, .i .i64 p.2.2.2.2.2.2.2.2.2.2.1, .i .i64 p.2.2.2.2.2.2.2.2.2.2.2]), (7, .box [.i .i64 0, .i .i64 0, .i .i64 0, .i .i64 0, .i .i64 0, .i .i64 0, .i .i64 0, .i .i64 0, .i .i64 0, .i .i64 0, .i .i64 0, .i .i64 0, .i .i64 0, .i .i64 0, .i .i64 0, .i .i64 0, .i .i64 0, .i .i64 0, .i .i64 0, .i .i64 0]), (9, .box [.s w67, .i .i64 w68, .i .i64 w69, .i .i64 w70, .b w71])]⟩)) (fun p => some ((.exit 0), ⟨[(0, .c (.p 0 0)), (4, .c (.p 5 0)), (6, .c (.p 7 0)), (8, .c (.p 9 0)), (9, .c (.i .i64 w1)), (11, .c (.b w3))], [(0, .box [.i .i64 w8, .i .i64 w9, .i .i64 w10, .sl 66 w11 w12, .sl 68 w13 w14, .b w15, .b w16, .b w17, .b w18, .b w19, .b w20, .b w21, .b w22, .b w23, .b w24, .b w25, .b w26]), (5, .box [.i .i64 w27, .i .i64 w28, .i .i64 w29, .i .i64 w30, .i .i64 w31, .i .i64 w32, .i .i64 w33, .i .i64 w34, .i .i64 p.1, .i .i64 p.2.1, .i .i64 p.2.2.1, .i .i64 p.2.2.2.1, .i .i64 p.2.2.2.2.1, .i .i64 p.2.2.2.2.2.1, .i .i64 p.2.2.2.2.2.2.1, .i .i64 p.2.2.2.2.2.2.2.1, .i .i64 p.2.2.2.2.2.2.2.2.1, .i .i64 p.2.2.2.2.2.2.2.2.2.1, .i .i64 p.2.2.2.2.2.2.2.2.2.2.1, .i .i64 p.2.2.2.2.2.2.2.2.2.2.2]), (7, .box [.i .i64 w47, .i .i64 w48, .i .i64 w49, .i .i64 w50, .i .i64 w51, .i .i64 w52, .i .i64 w53, .i .i64 w54, .i .i64 w55, .i .i64 w56, .i .i64 w57, .i .i64 w58, .i .i64 w59, .i .i64 w60, .i .i64 w61, .i .i64 w62, .i .i64 w63, .i .i64 w64, .i .i64 w65, .i .i64 w66]), (9, .box [.s w67, .i .i64 w68, .i .i64 w69, .i .i64 w70, .b w71])]⟩)) = some x → exec Try.prog (T96x0 N) (h88x0s4 N) 1 (m + 101) (.loop (loopB (piece Try.prog 88 27))) (P88x0x27 w0 w1 w2 w3 w4 w5 w6 w7 w8 w9 w10 w11 w12 w13 w14 w15 w16 w17 w18 w19 w20 w21 w22 w23 w24 w25 w26 w27 w28 w29 w30 w31 w32 w33 w34 w35 w36 w37 w38 w39 w40 w41 w42 w43 w44 w45 w46 w47 w48 w49 w50 w51 w52 w53 w54 w55 w56 w57 w58 w59 w60 w61 w62 w63 w64 w65 w66 w67 w68 w69 w70 w71) (fun e st => some (e, cutSt [6, 7, 8, 9, 4, 11, 0] [7, 0, 9, 5] st)) = some x := by
  intro m
  induction m with
  | zero => intro w7 w35 w36 w37 w38 w39 w40 w41 w42 w43 w44 w45 w46 x h; cases h
  | succ m ih =>
    intro w7 w35 w36 w37 w38 w39 w40 w41 w42 w43 w44 w45 w46 x h
    exact loop_round (n := m + 101) (nl88x0x27 N) (by kernel_rfl) (cl88x0x27 N ..) (fun kn => step88x0x27 N (m + 1) kn ..) (mono88x0x27 N _ _ _ _ _ _ _ _ _ _ _ _ _ _ _ _ _ _ _ _ _ _ _ _ _ _ _ _ _ _ _ _ _ _ _ _ _ _ _ _ _ _ _ _ _ (fun w7 w35 w36 w37 w38 w39 w40 w41 w42 w43 w44 w45 w46 => ih w7 w35 w36 w37 w38 w39 w40 w41 w42 w43 w44 w45 w46 x) h)
noncomputable def G88x0x27 (N : Nat) (w0 w1 : Int) (w2 w3 : Bool) (w5 : (List D)) (w6 w8 : Int) (w12 w14 : (List D)) (w15 w16 w17 w18 w19 w20 w21 w22 w23 w24 w25 w26 : Bool) (w27 w28 w29 w30 w31 w32 w33 w34 w68 : Int) (w7 w35 w36 w37 w38 w39 w40 w41 w42 w43 w44 w45 w46 : Int) : Option (Sum (Int × Int × Int × Int × Int × Int × Int × Int × Int × Int × Int × Int) (Int × Int × Int × Int × Int × Int × Int × Int × Int × Int × Int × Int)) := L88x0x27 N (R := (Sum (Int × Int × Int × Int × Int × Int × Int × Int × Int × Int × Int × Int) (Int × Int × Int × Int × Int × Int × Int × Int × Int × Int × Int × Int))) w0 w1 w2 w3 w5 w6 w8 w12 w14 w15 w16 w17 w18 w19 w20 w21 w22 w23 w24 w25 w26 w27 w28 w29 w30 w31 w32 w33 w34 w68 N w7 w35 w36 w37 w38 w39 w40 w41 w42 w43 w44 w45 w46 (fun p => some (.inl p)) (fun p => some (.inr p))
theorem sb88x0x27 (N : Nat) {R A : Type} (w0 w1 : Int) (w2 w3 : Bool) (w5 : (List D)) (w6 w8 : Int) (w12 w14 : (List D)) (w15 w16 w17 w18 w19 w20 w21 w22 w23 w24 w25 w26 : Bool) (w27 w28 w29 w30 w31 w32 w33 w34 w68 : Int) (w7 w35 w36 w37 w38 w39 w40 w41 w42 w43 w44 w45 w46 : Int) (kr : Int → Int → Int → Int → Int → Int → Int → Int → Int → Int → Int → Int → Int → Option R) (kr' : Int → Int → Int → Int → Int → Int → Int → Int → Int → Int → Int → Int → Int → Option A) (k0 : Int × Int × Int × Int × Int × Int × Int × Int × Int × Int × Int × Int → Option R) (k1 : Int × Int × Int × Int × Int × Int × Int × Int × Int × Int × Int × Int → Option R) (j0 : Int × Int × Int × Int × Int × Int × Int × Int × Int × Int × Int × Int → Option A) (j1 : Int × Int × Int × Int × Int × Int × Int × Int × Int × Int × Int × Int → Option A) (K : A → Option R) (hr : ∀ w7' w35' w36' w37' w38' w39' w40' w41' w42' w43' w44' w45' w46', kr w7' w35' w36' w37' w38' w39' w40' w41' w42' w43' w44' w45' w46' = (kr' w7' w35' w36' w37' w38' w39' w40' w41' w42' w43' w44' w45' w46').bind K) (h0 : ∀ p, k0 p = (j0 p).bind K) (h1 : ∀ p, k1 p = (j1 p).bind K) : S88x0x27 N w0 w1 w2 w3 w5 w6 w8 w12 w14 w15 w16 w17 w18 w19 w20 w21 w22 w23 w24 w25 w26 w27 w28 w29 w30 w31 w32 w33 w34 w68 w7 w35 w36 w37 w38 w39 w40 w41 w42 w43 w44 w45 w46 kr k0 k1 = (S88x0x27 N w0 w1 w2 w3 w5 w6 w8 w12 w14 w15 w16 w17 w18 w19 w20 w21 w22 w23 w24 w25 w26 w27 w28 w29 w30 w31 w32 w33 w34 w68 w7 w35 w36 w37 w38 w39 w40 w41 w42 w43 w44 w45 w46 kr' j0 j1).bind K := by
  unfold S88x0x27
  repeat' (first | rfl | apply hr | apply h0 | apply h1 | apply cond_b | (apply bnd_b; intro _))
theorem lbind88x0x27 (N : Nat) {R : Type} (w0 w1 : Int) (w2 w3 : Bool) (w5 : (List D)) (w6 w8 : Int) (w12 w14 : (List D)) (w15 w16 w17 w18 w19 w20 w21 w22 w23 w24 w25 w26 : Bool) (w27 w28 w29 w30 w31 w32 w33 w34 w68 : Int) : ∀ (m : Nat) (w7 w35 w36 w37 w38 w39 w40 w41 w42 w43 w44 w45 w46 : Int) (k0 : Int × Int × Int × Int × Int × Int × Int × Int × Int × Int × Int × Int → Option R) (k1 : Int × Int × Int × Int × Int × Int × Int × Int × Int × Int × Int × Int → Option R), L88x0x27 N w0 w1 w2 w3 w5 w6 w8 w12 w14 w15 w16 w17 w18 w19 w20 w21 w22 w23 w24 w25 w26 w27 w28 w29 w30 w31 w32 w33 w34 w68 m w7 w35 w36 w37 w38 w39 w40 w41 w42 w43 w44 w45 w46 k0 k1 = (L88x0x27 N (R := (Sum (Int × Int × Int × Int × Int × Int × Int × Int × Int × Int × Int × Int) (Int × Int × Int × Int × Int × Int × Int × Int × Int × Int × Int × Int))) w0 w1 w2 w3 w5 w6 w8 w12 w14 w15 w16 w17 w18 w19 w20 w21 w22 w23 w24 w25 w26 w27 w28 w29 w30 w31 w32 w33 w34 w68 m w7 w35 w36 w37 w38 w39 w40 w41 w42 w43 w44 w45 w46 (fun p => some (.inl p)) (fun p => some (.inr p))).bind (sumE k0 k1) := by
  intro m
  induction m with
  | zero => intros; rfl
  | succ m ih =>
    intro w7 w35 w36 w37 w38 w39 w40 w41 w42 w43 w44 w45 w46 k0 k1
    exact sb88x0x27 N _ _ _ _ _ _ _ _ _ _ _ _ _ _ _ _ _ _ _ _ _ _ _ _ _ _ _ _ _ _ _ _ _ _ _ _ _ _ _ _ _ _ _ _ _ _ _ _ _ _ (fun w7 w35 w36 w37 w38 w39 w40 w41 w42 w43 w44 w45 w46 => ih w7 w35 w36 w37 w38 w39 w40 w41 w42 w43 w44 w45 w46 k0 k1) (fun _ => rfl) (fun _ => rfl)
theorem one88x0x27 : oneB Try.prog 88 27 = true := by kernel_rfl
noncomputable def sh88x0x27 : Sh := { tmps := [(0, .c (.p 0 0)), (2, .c (.i .i64)), (4, .c (.p 5 0)), (6, .c (.p 7 0)), (8, .c (.p 9 0)), (9, .c (.i .i64)), (10, .c (.b)), (11, .c (.b)), (55, .c (.sl 68)), (56, .c (.i .i64)), (57, .c (.i .i64))], mem := [(0, .box [.i .i64, .i .i64, .i .i64, .sl 66, .sl 68, .b, .b, .b, .b, .b, .b, .b, .b, .b, .b, .b, .b]), (5, .box [.i .i64, .i .i64, .i .i64, .i .i64, .i .i64, .i .i64, .i .i64, .i .i64, .i .i64, .i .i64, .i .i64, .i .i64, .i .i64, .i .i64, .i .i64, .i .i64, .i .i64, .i .i64, .i .i64, .i .i64]), (7, .box [.i .i64, .i .i64, .i .i64, .i .i64, .i .i64, .i .i64, .i .i64, .i .i64, .i .i64, .i .i64, .i .i64, .i .i64, .i .i64, .i .i64, .i .i64, .i .i64, .i .i64, .i .i64, .i .i64, .i .i64]), (9, .box [.s, .i .i64, .i .i64, .i .i64, .b])] }
noncomputable def K88x0x27w0 (L : List Lf) (p : Int × Int × Int × Int × Int × Int × Int × Int × Int × Int × Int × Int) : Ex × St := (.ret, ⟨[(6, .c (.p 7 0)), (7, .c (.b false))], [(0, .box [.i .i64 (li L 8), .i .i64 (li L 9), .i .i64 (li L 10), .sl 66 (lb L 11) (ll L 12), .sl 68 (lb L 13) (ll L 14), .b (lb L 15), .b (lb L 16), .b (lb L 17), .b (lb L 18), .b (lb L 19), .b (lb L 20), .b (lb L 21), .b (lb L 22), .b (lb L 23), .b (lb L 24), .b (lb L 25), .b (lb L 26)]), (5, .box [.i .i64 (li L 27), .i .i64 (li L 28), .i .i64 (li L 29), .i .i64 (li L 30), .i .i64 (li L 31), .i .i64 (li L 32), .i .i64 (li L 33), .i .i64 (li L 34), .i .i64 p.1, .i .i64 p.2.1, .i .i64 p.2.2.1, .i .i64 p.2.2.2.1, .i .i64 p.2.2.2.2.1, .i .i64 p.2.2.2.2.2.1, .i .i64 p.2.2.2.2.2.2.1, .i .i64 p.2.2.2.2.2.2.2.1, .i .i64 p.2.2.2.2.2.2.2.2.1, .i .i64 p.2.2.2.2.2.2.2.2.2.1, .i .i64 p.2.2.2.2.2.2.2.2.2.2.1, .i .i64 p.2.2.2.2.2.2.2.2.2.2.2]), (7, .box [.i .i64 0, .i .i64 0, .i .i64 0, .i .i64 0, .i .i64 0, .i .i64 0, .i .i64 0, .i .i64 0, .i .i64 0, .i .i64 0, .i .i64 0, .i .i64 0, .i .i64 0, .i .i64 0, .i .i64 0, .i .i64 0, .i .i64 0, .i .i64 0, .i .i64 0, .i .i64 0]), (9, .box [.s (ls L 67), .i .i64 (li L 68), .i .i64 (li L 69), .i .i64 (li L 70), .b (lb L 71)])]⟩)
noncomputable def K88x0x27w1 (L : List Lf) (p : Int × Int × Int × Int × Int × Int × Int × Int × Int × Int × Int × Int) : Ex × St := ((.exit 0), ⟨[(0, .c (.p 0 0)), (4, .c (.p 5 0)), (6, .c (.p 7 0)), (8, .c (.p 9 0)), (9, .c (.i .i64 (li L 1))), (11, .c (.b (lb L 3)))], [(0, .box [.i .i64 (li L 8), .i .i64 (li L 9), .i .i64 (li L 10), .sl 66 (lb L 11) (ll L 12), .sl 68 (lb L 13) (ll L 14), .b (lb L 15), .b (lb L 16), .b (lb L 17), .b (lb L 18), .b (lb L 19), .b (lb L 20), .b (lb L 21), .b (lb L 22), .b (lb L 23), .b (lb L 24), .b (lb L 25), .b (lb L 26)]), (5, .box [.i .i64 (li L 27), .i .i64 (li L 28), .i .i64 (li L 29), .i .i64 (li L 30), .i .i64 (li L 31), .i .i64 (li L 32), .i .i64 (li L 33), .i .i64 (li L 34), .i .i64 p.1, .i .i64 p.2.1, .i .i64 p.2.2.1, .i .i64 p.2.2.2.1, .i .i64 p.2.2.2.2.1, .i .i64 p.2.2.2.2.2.1, .i .i64 p.2.2.2.2.2.2.1, .i .i64 p.2.2.2.2.2.2.2.1, .i .i64 p.2.2.2.2.2.2.2.2.1, .i .i64 p.2.2.2.2.2.2.2.2.2.1, .i .i64 p.2.2.2.2.2.2.2.2.2.2.1, .i .i64 p.2.2.2.2.2.2.2.2.2.2.2]), (7, .box [.i .i64 (li L 47), .i .i64 (li L 48), .i .i64 (li L 49), .i .i64 (li L 50), .i .i64 (li L 51), .i .i64 (li L 52), .i .i64 (li L 53), .i .i64 (li L 54), .i .i64 (li L 55), .i .i64 (li L 56), .i .i64 (li L 57), .i .i64 (li L 58), .i .i64 (li L 59), .i .i64 (li L 60), .i .i64 (li L 61), .i .i64 (li L 62), .i .i64 (li L 63), .i .i64 (li L 64), .i .i64 (li L 65), .i .i64 (li L 66)]), (9, .box [.s (ls L 67), .i .i64 (li L 68), .i .i64 (li L 69), .i .i64 (li L 70), .b (lb L 71)])]⟩)
noncomputable def A88x0x27 (N : Nat) (L : List Lf) : List (Bool × (Ex × St)) := bnd (G88x0x27 N (li L 0) (li L 1) (lb L 2) (lb L 3) (ll L 5) (li L 6) (li L 8) (ll L 12) (ll L 14) (lb L 15) (lb L 16) (lb L 17) (lb L 18) (lb L 19) (lb L 20) (lb L 21) (lb L 22) (lb L 23) (lb L 24) (lb L 25) (lb L 26) (li L 27) (li L 28) (li L 29) (li L 30) (li L 31) (li L 32) (li L 33) (li L 34) (li L 68) (li L 7) (li L 35) (li L 36) (li L 37) (li L 38) (li L 39) (li L 40) (li L 41) (li L 42) (li L 43) (li L 44) (li L 45) (li L 46)) fun q => [((inlB q), K88x0x27w0 L (inlV q)), ((inrQ q).isSome, K88x0x27w1 L ((inrQ q).getD default))]
theorem eq88x0x27 (L : List Lf) : ofSh sh88x0x27 L = (P88x0x27 (li L 0) (li L 1) (lb L 2) (lb L 3) (lb L 4) (ll L 5) (li L 6) (li L 7) (li L 8) (li L 9) (li L 10) (lb L 11) (ll L 12) (lb L 13) (ll L 14) (lb L 15) (lb L 16) (lb L 17) (lb L 18) (lb L 19) (lb L 20) (lb L 21) (lb L 22) (lb L 23) (lb L 24) (lb L 25) (lb L 26) (li L 27) (li L 28) (li L 29) (li L 30) (li L 31) (li L 32) (li L 33) (li L 34) (li L 35) (li L 36) (li L 37) (li L 38) (li L 39) (li L 40) (li L 41) (li L 42) (li L 43) (li L 44) (li L 45) (li L 46) (li L 47) (li L 48) (li L 49) (li L 50) (li L 51) (li L 52) (li L 53) (li L 54) (li L 55) (li L 56) (li L 57) (li L 58) (li L 59) (li L 60) (li L 61) (li L 62) (li L 63) (li L 64) (li L 65) (li L 66) (ls L 67) (li L 68) (li L 69) (li L 70) (lb L 71)) := by kernel_rfl
theorem law88x0x27 (N : Nat) : CutLaw Try.prog 1 (piece Try.prog 88 27) (loSh sh88x0x27 (A88x0x27 N)) :=
  law_shL progOk (T96x0_ok N) (al88x0s4 N) one88x0x27 lp88x0x27 eq88x0x27 fun L x hx => run88x0x27 N _ _ _ _ _ _ _ _ _ _ _ _ _ _ _ _ _ _ _ _ _ _ _ _ _ _ _ _ _ _ _ _ _ _ _ _ _ _ _ _ _ _ _ _ _ _ _ _ _ _ _ _ _ _ _ _ _ _ _ N _ _ _ _ _ _ _ _ _ _ _ _ _ x ((lbind88x0x27 N _ _ _ _ _ _ _ _ _ _ _ _ _ _ _ _ _ _ _ _ _ _ _ _ _ _ _ _ _ _ N _ _ _ _ _ _ _ _ _ _ _ _ _ _ _).trans ((altS alt1) x hx))
noncomputable def h88x0s5 (N : Nat) : Hint := { (h88x0s4 N) with los := (27, loSh sh88x0x27 (A88x0x27 N)) :: (h88x0s4 N).los }
theorem al88x0s5 (N : Nat) : AllCuts Try.prog (h88x0s5 N).los 1 88 := AllCuts.cons (al88x0s4 N) one88x0x27 (law88x0x27 N)
noncomputable def F88x0x53 (N : Nat) {R : Type} (w0 : Int) (w2 : Bool) (w25 : Int) (k0 : Int → R) : R :=
  bif w2 then
    k0 (IntKind.wrap .i64 (w0 + 1))
  else
    k0 w25
noncomputable def V88x0x53 (N : Nat) (w0 : Int) (w2 : Bool) (w25 : Int) : Int := F88x0x53 N w0 w2 w25 (fun p => p)
theorem tot88x0x53 (N : Nat) {R : Type} (w0 : Int) (w2 : Bool) (w25 : Int) (k0 : Int → R) : F88x0x53 N w0 w2 w25 k0 = k0 (V88x0x53 N w0 w2 w25) := by
  unfold V88x0x53 F88x0x53
  repeat' (first | rfl | apply cond_k | (apply bnd_k; intro _))
noncomputable def sh88x0x53 : Sh := { tmps := [(0, .c (.p 0 0)), (4, .c (.p 5 0)), (6, .c (.p 7 0)), (9, .c (.i .i64)), (11, .c (.b)), (106, .c (.b))], mem := [(0, .box [.i .i64, .i .i64, .i .i64, .sl 66, .sl 68, .b, .b, .b, .b, .b, .b, .b, .b, .b, .b, .b, .b]), (5, .box [.i .i64, .i .i64, .i .i64, .i .i64, .i .i64, .i .i64, .i .i64, .i .i64, .i .i64, .i .i64, .i .i64, .i .i64, .i .i64, .i .i64, .i .i64, .i .i64, .i .i64, .i .i64, .i .i64, .i .i64]), (7, .box [.i .i64, .i .i64, .i .i64, .i .i64, .i .i64, .i .i64, .i .i64, .i .i64, .i .i64, .i .i64, .i .i64, .i .i64, .i .i64, .i .i64, .i .i64, .i .i64, .i .i64, .i .i64, .i .i64, .i .i64])] }
noncomputable def K88x0x53w0 (L : List Lf) (p : Int) : Ex × St := (.normal, ⟨[(0, .c (.p 0 0)), (4, .c (.p 5 0)), (6, .c (.p 7 0)), (11, .c (.b (lb L 1)))], [(0, .box [.i .i64 (li L 3), .i .i64 (li L 4), .i .i64 (li L 5), .sl 66 (lb L 6) (ll L 7), .sl 68 (lb L 8) (ll L 9), .b (lb L 10), .b (lb L 11), .b (lb L 12), .b (lb L 13), .b (lb L 14), .b (lb L 15), .b (lb L 16), .b (lb L 17), .b (lb L 18), .b (lb L 19), .b (lb L 20), .b (lb L 21)]), (5, .box [.i .i64 (li L 22), .i .i64 (li L 23), .i .i64 (li L 24), .i .i64 p, .i .i64 (li L 26), .i .i64 (li L 27), .i .i64 (li L 28), .i .i64 (li L 29), .i .i64 (li L 30), .i .i64 (li L 31), .i .i64 (li L 32), .i .i64 (li L 33), .i .i64 (li L 34), .i .i64 (li L 35), .i .i64 (li L 36), .i .i64 (li L 37), .i .i64 (li L 38), .i .i64 (li L 39), .i .i64 (li L 40), .i .i64 (li L 41)]), (7, .box [.i .i64 (li L 42), .i .i64 (li L 43), .i .i64 (li L 44), .i .i64 (li L 45), .i .i64 (li L 46), .i .i64 (li L 47), .i .i64 (li L 48), .i .i64 (li L 49), .i .i64 (li L 50), .i .i64 (li L 51), .i .i64 (li L 52), .i .i64 (li L 53), .i .i64 (li L 54), .i .i64 (li L 55), .i .i64 (li L 56), .i .i64 (li L 57), .i .i64 (li L 58), .i .i64 (li L 59), .i .i64 (li L 60), .i .i64 (li L 61)])]⟩)
noncomputable def A88x0x53 (N : Nat) (L : List Lf) : List (Bool × (Ex × St)) := bnd (F88x0x53 N (li L 0) (lb L 2) (li L 25) (fun p => p)) fun q => [(true, K88x0x53w0 L q)]
theorem raw88x0x53 (N : Nat) (L : List Lf) : (exec Try.prog (T96x0 N) (h88x0s5 N) 1 100 (piece Try.prog 88 53) (ofSh sh88x0x53 L) (fun e st => some (e, cutSt [11, 4, 0, 6] [7, 5, 0] st)) : Option (Ex × St)) = F88x0x53 N (li L 0) (lb L 2) (li L 25) (fun p => some (K88x0x53w0 L p)) := by kernel_rfl
theorem one88x0x53 : oneB Try.prog 88 53 = true := by kernel_rfl
theorem law88x0x53 (N : Nat) : CutLaw Try.prog 1 (piece Try.prog 88 53) (loSh sh88x0x53 (A88x0x53 N)) :=
  law_sh progOk (T96x0_ok N) (al88x0s5 N) one88x0x53 fun L x hx => (raw88x0x53 N L).trans ((tot88x0x53 N ..).trans (alt0 _ _ hx))
noncomputable def h88x0s6 (N : Nat) : Hint := { (h88x0s5 N) with los := (53, loSh sh88x0x53 (A88x0x53 N)) :: (h88x0s5 N).los }
theorem al88x0s6 (N : Nat) : AllCuts Try.prog (h88x0s6 N).los 1 88 := AllCuts.cons (al88x0s5 N) one88x0x53 (law88x0x53 N)
noncomputable def F88x0x59 (N : Nat) {R : Type} (w0 : Bool) (w21 w22 w24 w25 w26 w27 : Int) (k0 : Int × Int × Int × Int × Int × Int → R) : R :=
  bif w0 then
    k0 (0, w21, 0, 0, 0, 0)
  else
    k0 (w21, w22, w24, w25, w26, w27)
noncomputable def V88x0x59 (N : Nat) (w0 : Bool) (w21 w22 w24 w25 w26 w27 : Int) : Int × Int × Int × Int × Int × Int := F88x0x59 N w0 w21 w22 w24 w25 w26 w27 (fun p => p)
theorem tot88x0x59 (N : Nat) {R : Type} (w0 : Bool) (w21 w22 w24 w25 w26 w27 : Int) (k0 : Int × Int × Int × Int × Int × Int → R) : F88x0x59 N w0 w21 w22 w24 w25 w26 w27 k0 = k0 (V88x0x59 N w0 w21 w22 w24 w25 w26 w27) := by
  unfold V88x0x59 F88x0x59
  repeat' (first | rfl | apply cond_k | (apply bnd_k; intro _))
noncomputable def J88x0x59 (N : Nat) (L : List Lf) {R : Type} (k0 : Int × Int × Int × Int × Int × Int → R) : R := F88x0x59 N (lb L 0) (li L 21) (li L 22) (li L 24) (li L 25) (li L 26) (li L 27) k0
noncomputable def sh88x0x59 : Sh := { tmps := [(0, .c (.p 0 0)), (4, .c (.p 5 0)), (6, .c (.p 7 0)), (110, .c (.b))], mem := [(0, .box [.i .i64, .i .i64, .i .i64, .sl 66, .sl 68, .b, .b, .b, .b, .b, .b, .b, .b, .b, .b, .b, .b]), (5, .box [.i .i64, .i .i64, .i .i64, .i .i64, .i .i64, .i .i64, .i .i64, .i .i64, .i .i64, .i .i64, .i .i64, .i .i64, .i .i64, .i .i64, .i .i64, .i .i64, .i .i64, .i .i64, .i .i64, .i .i64]), (7, .box [.i .i64, .i .i64, .i .i64, .i .i64, .i .i64, .i .i64, .i .i64, .i .i64, .i .i64, .i .i64, .i .i64, .i .i64, .i .i64, .i .i64, .i .i64, .i .i64, .i .i64, .i .i64, .i .i64, .i .i64])] }
noncomputable def K88x0x59w0 (L : List Lf) (p : Int × Int × Int × Int × Int × Int) : Ex × St := (.normal, ⟨[(0, .c (.p 0 0)), (4, .c (.p 5 0)), (6, .c (.p 7 0))], [(0, .box [.i .i64 (li L 1), .i .i64 (li L 2), .i .i64 (li L 3), .sl 66 (lb L 4) (ll L 5), .sl 68 (lb L 6) (ll L 7), .b (lb L 8), .b (lb L 9), .b (lb L 10), .b (lb L 11), .b (lb L 12), .b (lb L 13), .b (lb L 14), .b (lb L 15), .b (lb L 16), .b (lb L 17), .b (lb L 18), .b (lb L 19)]), (5, .box [.i .i64 (li L 20), .i .i64 p.1, .i .i64 p.2.1, .i .i64 (li L 23), .i .i64 p.2.2.1, .i .i64 p.2.2.2.1, .i .i64 p.2.2.2.2.1, .i .i64 p.2.2.2.2.2, .i .i64 (li L 28), .i .i64 (li L 29), .i .i64 (li L 30), .i .i64 (li L 31), .i .i64 (li L 32), .i .i64 (li L 33), .i .i64 (li L 34), .i .i64 (li L 35), .i .i64 (li L 36), .i .i64 (li L 37), .i .i64 (li L 38), .i .i64 (li L 39)]), (7, .box [.i .i64 (li L 40), .i .i64 (li L 41), .i .i64 (li L 42), .i .i64 (li L 43), .i .i64 (li L 44), .i .i64 (li L 45), .i .i64 (li L 46), .i .i64 (li L 47), .i .i64 (li L 48), .i .i64 (li L 49), .i .i64 (li L 50), .i .i64 (li L 51), .i .i64 (li L 52), .i .i64 (li L 53), .i .i64 (li L 54), .i .i64 (li L 55), .i .i64 (li L 56), .i .i64 (li L 57), .i .i64 (li L 58), .i .i64 (li L 59)])]⟩)
noncomputable def A88x0x59 (N : Nat) (L : List Lf) : List (Bool × (Ex × St)) := bnd (J88x0x59 N L (fun p => p)) fun q => [(true, K88x0x59w0 L q)]
theorem raw88x0x59 (N : Nat) (L : List Lf) : (exec Try.prog (T96x0 N) (h88x0s6 N) 1 100 (piece Try.prog 88 59) (ofSh sh88x0x59 L) (fun e st => some (e, cutSt [4, 0, 6] [7, 5, 0] st)) : Option (Ex × St)) = J88x0x59 N L (fun p => some (K88x0x59w0 L p)) := by kernel_rfl
theorem one88x0x59 : oneB Try.prog 88 59 = true := by kernel_rfl
theorem law88x0x59 (N : Nat) : CutLaw Try.prog 1 (piece Try.prog 88 59) (loSh sh88x0x59 (A88x0x59 N)) :=
  law_sh progOk (T96x0_ok N) (al88x0s6 N) one88x0x59 fun L x hx => (raw88x0x59 N L).trans ((tot88x0x59 N ..).trans (alt0 _ _ hx))
noncomputable def h88x0s7 (N : Nat) : Hint := { (h88x0s6 N) with los := (59, loSh sh88x0x59 (A88x0x59 N)) :: (h88x0s6 N).los }
theorem al88x0s7 (N : Nat) : AllCuts Try.prog (h88x0s7 N).los 1 88 := AllCuts.cons (al88x0s6 N) one88x0x59 (law88x0x59 N)
noncomputable def F88x0 (N : Nat) {R : Type} (v0 v1 v2 v3 v4 v5 v6 v7 v8 v9 v10 v11 v12 v13 v14 v15 v16 v17 v18 v19 v20 v21 v22 : Int) (v25 v27 : (List D)) (v28 v29 v30 v31 v32 v33 v34 v35 v36 v37 v38 v39 : Bool) (k0 : Int × Int × Int × Int × Int × Int × Int × Int × Int × Int × Int × Int × Int × Int × Int × Int × Int × Int × Int × Int × Bool → Option R) : Option R :=
  bnd (G70x0 N v25 v20) fun x51607859 =>
  bif x51607859.isSome then
    bnd (G88x0x17 N v20 (decide (v20 ≥ 0)) v4 v5 v6 v7) fun x82988229 =>
    bif x82988229.isSome then
      bnd (bif ((v0.tmod 7) == 6) then true else (v0 == (IntKind.wrap .i64 (v22 - 1)))) fun x22160738 =>
      bnd (G88x0x27 N v20 v0 ((v0.tmod 7) == 6) x22160738 v27 (v27.length : Int) v21 v25 v27 v28 v29 v30 v31 v32 v33 v34 v35 v36 v37 v38 v39 v0 (IntKind.wrap .i64 (v1 + (x51607859.getD default).2.1)) v2 v3 (x82988229.getD default).1 (x82988229.getD default).2.1 (x82988229.getD default).2.2.1 (x82988229.getD default).2.2.2 (x51607859.getD default).2.1 0 v8 v9 v10 v11 v12 v13 v14 v15 v16 v17 v18 v19) fun x3021440 =>
      bif (inlB x3021440) then
        k0 (0, 0, 0, 0, 0, 0, 0, 0, 0, 0, 0, 0, 0, 0, 0, 0, 0, 0, 0, 0, false)
      else
        bif (inrQ x3021440).isSome then
          bnd (V88x0x53 N v0 (x51607859.getD default).2.2.2.2 v3) fun x4934118 =>
          bnd (V88x0x59 N x22160738 (IntKind.wrap .i64 (v1 + (x51607859.getD default).2.1)) v2 (x82988229.getD default).1 (x82988229.getD default).2.1 (x82988229.getD default).2.2.1 (x82988229.getD default).2.2.2) fun x60500838 =>
          bnd (G96x0 N (IntKind.wrap .i64 (v0 + 1)) x60500838.1 x60500838.2.1 x4934118 x60500838.2.2.1 x60500838.2.2.2.1 x60500838.2.2.2.2.1 x60500838.2.2.2.2.2 ((inrQ x3021440).getD default).1 ((inrQ x3021440).getD default).2.1 ((inrQ x3021440).getD default).2.2.1 ((inrQ x3021440).getD default).2.2.2.1 ((inrQ x3021440).getD default).2.2.2.2.1 ((inrQ x3021440).getD default).2.2.2.2.2.1 ((inrQ x3021440).getD default).2.2.2.2.2.2.1 ((inrQ x3021440).getD default).2.2.2.2.2.2.2.1 ((inrQ x3021440).getD default).2.2.2.2.2.2.2.2.1 ((inrQ x3021440).getD default).2.2.2.2.2.2.2.2.2.1 ((inrQ x3021440).getD default).2.2.2.2.2.2.2.2.2.2.1 ((inrQ x3021440).getD default).2.2.2.2.2.2.2.2.2.2.2 v27 v28 v29 v30 v31 v32 v33 v34 v35 v36 v37 v38 v39) fun x47556015 =>
          bif x47556015.isSome then
            k0 ((IntKind.wrap .i64 (v0 + 1)), (x47556015.getD default).1, (x47556015.getD default).2.1, (x47556015.getD default).2.2.1, (x47556015.getD default).2.2.2.1, (x47556015.getD default).2.2.2.2.1, (x47556015.getD default).2.2.2.2.2.1, (x47556015.getD default).2.2.2.2.2.2.1, (x47556015.getD default).2.2.2.2.2.2.2.1, (x47556015.getD default).2.2.2.2.2.2.2.2.1, (x47556015.getD default).2.2.2.2.2.2.2.2.2.1, (x47556015.getD default).2.2.2.2.2.2.2.2.2.2.1, (x47556015.getD default).2.2.2.2.2.2.2.2.2.2.2.1, (x47556015.getD default).2.2.2.2.2.2.2.2.2.2.2.2.1, (x47556015.getD default).2.2.2.2.2.2.2.2.2.2.2.2.2.1, (x47556015.getD default).2.2.2.2.2.2.2.2.2.2.2.2.2.2.1, (x47556015.getD default).2.2.2.2.2.2.2.2.2.2.2.2.2.2.2.1, (x47556015.getD default).2.2.2.2.2.2.2.2.2.2.2.2.2.2.2.2.1, (x47556015.getD default).2.2.2.2.2.2.2.2.2.2.2.2.2.2.2.2.2.1, (x47556015.getD default).2.2.2.2.2.2.2.2.2.2.2.2.2.2.2.2.2.2, true)
          else
            none
        else
          none
    else
      none
  else
    none
noncomputable def G88x0 (N : Nat) (v0 v1 v2 v3 v4 v5 v6 v7 v8 v9 v10 v11 v12 v13 v14 v15 v16 v17 v18 v19 v20 v21 v22 : Int) (v25 v27 : (List D)) (v28 v29 v30 v31 v32 v33 v34 v35 v36 v37 v38 v39 : Bool) : Option (Int × Int × Int × Int × Int × Int × Int × Int × Int × Int × Int × Int × Int × Int × Int × Int × Int × Int × Int × Int × Bool) := F88x0 N v0 v1 v2 v3 v4 v5 v6 v7 v8 v9 v10 v11 v12 v13 v14 v15 v16 v17 v18 v19 v20 v21 v22 v25 v27 v28 v29 v30 v31 v32 v33 v34 v35 v36 v37 v38 v39 (fun p => some p)
theorem bind88x0 (N : Nat) {R : Type} (v0 v1 v2 v3 v4 v5 v6 v7 v8 v9 v10 v11 v12 v13 v14 v15 v16 v17 v18 v19 v20 v21 v22 : Int) (v25 v27 : (List D)) (v28 v29 v30 v31 v32 v33 v34 v35 v36 v37 v38 v39 : Bool) (k0 : Int × Int × Int × Int × Int × Int × Int × Int × Int × Int × Int × Int × Int × Int × Int × Int × Int × Int × Int × Int × Bool → Option R) : F88x0 N v0 v1 v2 v3 v4 v5 v6 v7 v8 v9 v10 v11 v12 v13 v14 v15 v16 v17 v18 v19 v20 v21 v22 v25 v27 v28 v29 v30 v31 v32 v33 v34 v35 v36 v37 v38 v39 k0 = (G88x0 N v0 v1 v2 v3 v4 v5 v6 v7 v8 v9 v10 v11 v12 v13 v14 v15 v16 v17 v18 v19 v20 v21 v22 v25 v27 v28 v29 v30 v31 v32 v33 v34 v35 v36 v37 v38 v39).bind k0 := by
  unfold G88x0 F88x0
  repeat' (first | rfl | apply cond_b | (apply bnd_b; intro _))
noncomputable def J88x0 (N : Nat) (L : List Lf) {R : Type} (k0 : Int × Int × Int × Int × Int × Int × Int × Int × Int × Int × Int × Int × Int × Int × Int × Int × Int × Int × Int × Int × Bool → Option R) : Option R := F88x0 N (li L 0) (li L 1) (li L 2) (li L 3) (li L 4) (li L 5) (li L 6) (li L 7) (li L 8) (li L 9) (li L 10) (li L 11) (li L 12) (li L 13) (li L 14) (li L 15) (li L 16) (li L 17) (li L 18) (li L 19) (li L 20) (li L 21) (li L 22) (ll L 25) (ll L 27) (lb L 28) (lb L 29) (lb L 30) (lb L 31) (lb L 32) (lb L 33) (lb L 34) (lb L 35) (lb L 36) (lb L 37) (lb L 38) (lb L 39) k0
noncomputable def sh88x0 : Sh := { tmps := [(0, .c (.p 0 0)), (1, .g [.i .i64, .i .i64, .i .i64, .i .i64, .i .i64, .i .i64, .i .i64, .i .i64, .i .i64, .i .i64, .i .i64, .i .i64, .i .i64, .i .i64, .i .i64, .i .i64, .i .i64, .i .i64, .i .i64, .i .i64]), (2, .c (.i .i64))], mem := [(0, .box [.i .i64, .i .i64, .i .i64, .sl 66, .sl 68, .b, .b, .b, .b, .b, .b, .b, .b, .b, .b, .b, .b])] }
noncomputable def K88x0w0 (L : List Lf) (p : Int × Int × Int × Int × Int × Int × Int × Int × Int × Int × Int × Int × Int × Int × Int × Int × Int × Int × Int × Int × Bool) : Res := ([.g [.i .i64 p.1, .i .i64 p.2.1, .i .i64 p.2.2.1, .i .i64 p.2.2.2.1, .i .i64 p.2.2.2.2.1, .i .i64 p.2.2.2.2.2.1, .i .i64 p.2.2.2.2.2.2.1, .i .i64 p.2.2.2.2.2.2.2.1, .i .i64 p.2.2.2.2.2.2.2.2.1, .i .i64 p.2.2.2.2.2.2.2.2.2.1, .i .i64 p.2.2.2.2.2.2.2.2.2.2.1, .i .i64 p.2.2.2.2.2.2.2.2.2.2.2.1, .i .i64 p.2.2.2.2.2.2.2.2.2.2.2.2.1, .i .i64 p.2.2.2.2.2.2.2.2.2.2.2.2.2.1, .i .i64 p.2.2.2.2.2.2.2.2.2.2.2.2.2.2.1, .i .i64 p.2.2.2.2.2.2.2.2.2.2.2.2.2.2.2.1, .i .i64 p.2.2.2.2.2.2.2.2.2.2.2.2.2.2.2.2.1, .i .i64 p.2.2.2.2.2.2.2.2.2.2.2.2.2.2.2.2.2.1, .i .i64 p.2.2.2.2.2.2.2.2.2.2.2.2.2.2.2.2.2.2.1, .i .i64 p.2.2.2.2.2.2.2.2.2.2.2.2.2.2.2.2.2.2.2.1], .c (.b p.2.2.2.2.2.2.2.2.2.2.2.2.2.2.2.2.2.2.2.2)], [(0, .box [.i .i64 (li L 21), .i .i64 (li L 22), .i .i64 (li L 23), .sl 66 (lb L 24) (ll L 25), .sl 68 (lb L 26) (ll L 27), .b (lb L 28), .b (lb L 29), .b (lb L 30), .b (lb L 31), .b (lb L 32), .b (lb L 33), .b (lb L 34), .b (lb L 35), .b (lb L 36), .b (lb L 37), .b (lb L 38), .b (lb L 39)])])
noncomputable def A88x0 (N : Nat) (L : List Lf) : List (Bool × Res) := bnd (J88x0 N L (fun p => some p)) fun q => [(q.isSome, K88x0w0 L (q.getD default))]
theorem raw88x0 (N : Nat) (L : List Lf) : (body Try.prog (T96x0 N) (h88x0s7 N) 200 88 (valsOf (ofSh sh88x0 L).tmps) (ofSh sh88x0 L).mem : Option Res) = J88x0 N L (fun p => some (K88x0w0 L p)) := by kernel_rfl
theorem ok88x0 (N : Nat) : ∀ args mem alts, spSh sh88x0 (A88x0 N) args mem = some alts → ∀ res, altK alts some = some res → CallOk Try.prog 88 args mem res :=
  spSh_law fun L x hx => callOk_of (n := 200) progOk (T96x0_ok N) (al88x0s7 N) rfl ((raw88x0 N L).trans ((bind88x0 N ..).trans (alt1 x hx)))
noncomputable def T88x0 (N : Nat) : Oracle := ext 88 (spSh sh88x0 (A88x0 N)) (T96x0 N)
theorem T88x0_ok (N : Nat) : OracleOk Try.prog (T88x0 N) := ext_ok (T96x0_ok N) (enters_of (by kernel_rfl)) (ok88x0 N)
abbrev Rc78x1 : Type := Int → Int → Int → Int → Int → Int → Int → Int → Int → Int → Int → Int → Int → Int → Int → Int → Int → Int → Int → Int → Int → Int → Int → Bool → (List D) → Bool → (List D) → Bool → Bool → Bool → Bool → Bool → Bool → Bool → Bool → Bool → Bool → Bool → Bool → Bool → (List D) → Bool → (List D) → (List (D × D)) → Option (Int × Int × Int × (List (D × D)))
noncomputable def sh78x1 : Sh := { tmps := [(0, .c (.p 0 0)), (1, .g [.i .i64, .i .i64, .i .i64, .i .i64, .i .i64, .i .i64, .i .i64, .i .i64, .i .i64, .i .i64, .i .i64, .i .i64, .i .i64, .i .i64, .i .i64, .i .i64, .i .i64, .i .i64, .i .i64, .i .i64])], mem := [(0, .box [.i .i64, .i .i64, .i .i64, .sl 66, .sl 68, .b, .b, .b, .b, .b, .b, .b, .b, .b, .b, .b, .b, .sl 3, .sl 3, .m 1]), (1, .map 106 59)] }
noncomputable def B78x1 (N : Nat) (rc : Rc78x1) (L : List Lf) : List (Bool × Res) := bnd (rc (li L 0) (li L 1) (li L 2) (li L 3) (li L 4) (li L 5) (li L 6) (li L 7) (li L 8) (li L 9) (li L 10) (li L 11) (li L 12) (li L 13) (li L 14) (li L 15) (li L 16) (li L 17) (li L 18) (li L 19) (li L 20) (li L 21) (li L 22) (lb L 23) (ll L 24) (lb L 25) (ll L 26) (lb L 27) (lb L 28) (lb L 29) (lb L 30) (lb L 31) (lb L 32) (lb L 33) (lb L 34) (lb L 35) (lb L 36) (lb L 37) (lb L 38) (lb L 39) (ll L 40) (lb L 41) (ll L 42) (lm L 43)) fun q => [(q.isSome, ([.g [.i .i64 (q.getD default).1, .i .i64 (q.getD default).2.1, .i .i64 (q.getD default).2.2.1]], [(0, .box [.i .i64 (li L 20), .i .i64 (li L 21), .i .i64 (li L 22), .sl 66 (lb L 23) (ll L 24), .sl 68 (lb L 25) (ll L 26), .b (lb L 27), .b (lb L 28), .b (lb L 29), .b (lb L 30), .b (lb L 31), .b (lb L 32), .b (lb L 33), .b (lb L 34), .b (lb L 35), .b (lb L 36), .b (lb L 37), .b (lb L 38), .sl 3 (lb L 39) (ll L 40), .sl 3 (lb L 41) (ll L 42), .m 1]), (1, .map 106 59 (q.getD default).2.2.2)]))]
noncomputable def O78x1 (N : Nat) (rc : Rc78x1) : Oracle := ext 78 (spSh sh78x1 ((B78x1 N) rc)) (T88x0 N)
noncomputable def rg90x1 : List (Nat × List Nat) := [(0, [1, 0, 2]), (1, [0, 4, 2, 6]), (2, [8, 6, 0, 7, 2, 4]), (3, [6]), (4, [0, 7, 6, 2, 4]), (5, [9, 6, 0, 2, 4]), (6, [9, 6]), (7, [9, 0, 2, 4, 6]), (8, [4, 0, 2, 9, 6]), (9, [9, 6]), (10, [9, 6])]
noncomputable def hd90x1 : Hints := [(25, [4, 0, 2, 9, 6], [11, 8, 6, 1, 0], []), (29, [9, 6, 70], [11, 8, 0, 1], [])]
noncomputable def h90x1s0 (N : Nat) (rc : Rc78x1) : Hint := { loops := hd90x1, regs := rg90x1, los := [] }
theorem al90x1s0 (N : Nat) (rc : Rc78x1) (hR : OracleOk Try.prog ((O78x1 N) rc)) : AllCuts Try.prog ((h90x1s0 N) rc).los 2 90 := AllCuts.nil
noncomputable def F90x1x25 (N : Nat) (rc : Rc78x1) {R : Type} (w0 : Int) (w21 w23 : (List D)) (w25 : Int) (k0 : Bool → Option R) : Option R :=
  bif (decide (w25 ≥ (w21.length : Int))) then
    bif (decide (w25 < (w23.length : Int))) then
      bif (inB w25 w23.length) then
        k0 ((w23.getD w25.toNat (.i 0)).toI != w0)
      else
        none
    else
      k0 false
  else
    k0 false
noncomputable def G90x1x25 (N : Nat) (rc : Rc78x1) (w0 : Int) (w21 w23 : (List D)) (w25 : Int) : Option (Bool) := F90x1x25 N rc w0 w21 w23 w25 (fun p => some p)
theorem bind90x1x25 (N : Nat) (rc : Rc78x1) {R : Type} (w0 : Int) (w21 w23 : (List D)) (w25 : Int) (k0 : Bool → Option R) : F90x1x25 N rc w0 w21 w23 w25 k0 = (G90x1x25 N rc w0 w21 w23 w25).bind k0 := by
  unfold G90x1x25 F90x1x25
  repeat' (first | rfl | apply cond_b | (apply bnd_b; intro _))
noncomputable def J90x1x25 (N : Nat) (rc : Rc78x1) (L : List Lf) {R : Type} (k0 : Bool → Option R) : Option R := F90x1x25 N rc (li L 0) (ll L 21) (ll L 23) (li L 25) k0
noncomputable def sh90x1x25 : Sh := { tmps := [(0, .c (.p 0 0)), (2, .c (.i .i64)), (4, .c (.p 6 0)), (6, .c (.p 8 0)), (9, .c (.p 11 0))], mem := [(0, .box [.i .i64, .i .i64, .i .i64, .sl 66, .sl 68, .b, .b, .b, .b, .b, .b, .b, .b, .b, .b, .b, .b, .sl 3, .sl 3, .m 1]), (1, .map 106 59), (6, .box [.i .i64, .i .i64, .i .i64, .i .i64, .i .i64, .i .i64, .i .i64, .i .i64, .i .i64, .i .i64, .i .i64, .i .i64, .i .i64, .i .i64, .i .i64, .i .i64, .i .i64, .i .i64, .i .i64, .i .i64]), (8, .box [.i .i64, .i .i64, .i .i64]), (11, .box [.i .i64, .i .i64, .i .i64])] }
noncomputable def K90x1x25w0 (L : List Lf) (p : Bool) : Ex × St := (.normal, ⟨[(6, .c (.p 8 0)), (9, .c (.p 11 0)), (70, .c (.b p))], [(0, .box [.i .i64 (li L 1), .i .i64 (li L 2), .i .i64 (li L 3), .sl 66 (lb L 4) (ll L 5), .sl 68 (lb L 6) (ll L 7), .b (lb L 8), .b (lb L 9), .b (lb L 10), .b (lb L 11), .b (lb L 12), .b (lb L 13), .b (lb L 14), .b (lb L 15), .b (lb L 16), .b (lb L 17), .b (lb L 18), .b (lb L 19), .sl 3 (lb L 20) (ll L 21), .sl 3 (lb L 22) (ll L 23), .m 1]), (1, .map 106 59 (lm L 24)), (8, .box [.i .i64 (li L 45), .i .i64 (li L 46), .i .i64 (li L 47)]), (11, .box [.i .i64 (li L 48), .i .i64 (li L 49), .i .i64 (li L 50)])]⟩)
noncomputable def A90x1x25 (N : Nat) (rc : Rc78x1) (L : List Lf) : List (Bool × (Ex × St)) := bnd (J90x1x25 N rc L (fun p => some p)) fun q => [(q.isSome, K90x1x25w0 L (q.getD default))]
theorem raw90x1x25 (N : Nat) (rc : Rc78x1) (L : List Lf) : (exec Try.prog ((O78x1 N) rc) ((h90x1s0 N) rc) 2 100 (piece Try.prog 90 25) (ofSh sh90x1x25 L) (fun e st => some (e, cutSt [9, 6, 70] [11, 8, 0, 1] st)) : Option (Ex × St)) = J90x1x25 N rc L (fun p => some (K90x1x25w0 L p)) := by kernel_rfl
theorem one90x1x25 : oneB Try.prog 90 25 = true := by kernel_rfl
theorem law90x1x25 (N : Nat) (rc : Rc78x1) (hR : OracleOk Try.prog ((O78x1 N) rc)) : CutLaw Try.prog 2 (piece Try.prog 90 25) (loSh sh90x1x25 ((A90x1x25 N) rc)) :=
  law_sh progOk hR ((al90x1s0 N) rc hR) one90x1x25 fun L x hx => (raw90x1x25 N rc L).trans ((bind90x1x25 N rc ..).trans (alt1 x hx))
noncomputable def h90x1s1 (N : Nat) (rc : Rc78x1) : Hint := { ((h90x1s0 N) rc) with los := (25, loSh sh90x1x25 ((A90x1x25 N) rc)) :: ((h90x1s0 N) rc).los }
theorem al90x1s1 (N : Nat) (rc : Rc78x1) (hR : OracleOk Try.prog ((O78x1 N) rc)) : AllCuts Try.prog ((h90x1s1 N) rc).los 2 90 := AllCuts.cons ((al90x1s0 N) rc hR) one90x1x25 ((law90x1x25 N) rc hR)
noncomputable def F90x1x29 (N : Nat) (rc : Rc78x1) {R : Type} (w0 : Bool) (w29 : Int) (k0 : Int → R) : R :=
  bif w0 then
    k0 (IntKind.wrap .i64 (w29 + 1))
  else
    k0 w29
noncomputable def V90x1x29 (N : Nat) (rc : Rc78x1) (w0 : Bool) (w29 : Int) : Int := F90x1x29 N rc w0 w29 (fun p => p)
theorem tot90x1x29 (N : Nat) (rc : Rc78x1) {R : Type} (w0 : Bool) (w29 : Int) (k0 : Int → R) : F90x1x29 N rc w0 w29 k0 = k0 (V90x1x29 N rc w0 w29) := by
  unfold V90x1x29 F90x1x29
  repeat' (first | rfl | apply cond_k | (apply bnd_k; intro _))
noncomputable def sh90x1x29 : Sh := { tmps := [(6, .c (.p 8 0)), (9, .c (.p 11 0)), (70, .c (.b))], mem := [(0, .box [.i .i64, .i .i64, .i .i64, .sl 66, .sl 68, .b, .b, .b, .b, .b, .b, .b, .b, .b, .b, .b, .b, .sl 3, .sl 3, .m 1]), (1, .map 106 59), (8, .box [.i .i64, .i .i64, .i .i64]), (11, .box [.i .i64, .i .i64, .i .i64])] }
noncomputable def K90x1x29w0 (L : List Lf) (p : Int) : Ex × St := (.normal, ⟨[(6, .c (.p 8 0)), (9, .c (.p 11 0))], [(0, .box [.i .i64 (li L 1), .i .i64 (li L 2), .i .i64 (li L 3), .sl 66 (lb L 4) (ll L 5), .sl 68 (lb L 6) (ll L 7), .b (lb L 8), .b (lb L 9), .b (lb L 10), .b (lb L 11), .b (lb L 12), .b (lb L 13), .b (lb L 14), .b (lb L 15), .b (lb L 16), .b (lb L 17), .b (lb L 18), .b (lb L 19), .sl 3 (lb L 20) (ll L 21), .sl 3 (lb L 22) (ll L 23), .m 1]), (1, .map 106 59 (lm L 24)), (8, .box [.i .i64 (li L 25), .i .i64 (li L 26), .i .i64 (li L 27)]), (11, .box [.i .i64 (li L 28), .i .i64 p, .i .i64 (li L 30)])]⟩)
noncomputable def A90x1x29 (N : Nat) (rc : Rc78x1) (L : List Lf) : List (Bool × (Ex × St)) := bnd (F90x1x29 N rc (lb L 0) (li L 29) (fun p => p)) fun q => [(true, K90x1x29w0 L q)]
theorem raw90x1x29 (N : Nat) (rc : Rc78x1) (L : List Lf) : (exec Try.prog ((O78x1 N) rc) ((h90x1s1 N) rc) 2 100 (piece Try.prog 90 29) (ofSh sh90x1x29 L) (fun e st => some (e, cutSt [9, 6] [11, 8, 0, 1] st)) : Option (Ex × St)) = F90x1x29 N rc (lb L 0) (li L 29) (fun p => some (K90x1x29w0 L p)) := by kernel_rfl
theorem one90x1x29 : oneB Try.prog 90 29 = true := by kernel_rfl
theorem law90x1x29 (N : Nat) (rc : Rc78x1) (hR : OracleOk Try.prog ((O78x1 N) rc)) : CutLaw Try.prog 2 (piece Try.prog 90 29) (loSh sh90x1x29 ((A90x1x29 N) rc)) :=
  law_sh progOk hR ((al90x1s1 N) rc hR) one90x1x29 fun L x hx => (raw90x1x29 N rc L).trans ((tot90x1x29 N rc ..).trans (alt0 _ _ hx))
noncomputable def h90x1s2 (N : Nat) (rc : Rc78x1) : Hint := { ((h90x1s1 N) rc) with los := (29, loSh sh90x1x29 ((A90x1x29 N) rc)) :: ((h90x1s1 N) rc).los }
theorem al90x1s2 (N : Nat) (rc : Rc78x1) (hR : OracleOk Try.prog ((O78x1 N) rc)) : AllCuts Try.prog ((h90x1s2 N) rc).los 2 90 := AllCuts.cons ((al90x1s1 N) rc hR) one90x1x29 ((law90x1x29 N) rc hR)
noncomputable def F90x1 (N : Nat) (rc : Rc78x1) {R : Type} (v0 v1 v2 v3 v4 v5 v6 v7 v8 v9 v10 v11 v12 v13 v14 v15 v16 v17 v18 v19 v20 v21 v22 v23 : Int) (v24 : Bool) (v25 : (List D)) (v26 : Bool) (v27 : (List D)) (v28 v29 v30 v31 v32 v33 v34 v35 v36 v37 v38 v39 v40 : Bool) (v41 : (List D)) (v42 : Bool) (v43 : (List D)) (v44 : (List (D × D))) (k0 : Int × Int × Int × (List (D × D)) → Option R) : Option R :=
  bnd (G88x0 N v0 v1 v2 v3 v4 v5 v6 v7 v8 v9 v10 v11 v12 v13 v14 v15 v16 v17 v18 v19 v20 v21 v22 v25 v27 v28 v29 v30 v31 v32 v33 v34 v35 v36 v37 v38 v39) fun x3572945 =>
  bif x3572945.isSome then
    bnd (x3572945.getD default).2.2.2.2.2.2.2.2.2.2.2.2.2.2.2.2.2.2.1 fun x7323135 =>
    bnd (x3572945.getD default).2.2.2.2.2.2.2.2.2.2.2.2.2.2.2.2.2.2.2.1 fun x7913248 =>
    bnd (x3572945.getD default).2.2.2.2.2.2.2.2.2.2.2.2.2.2.2.2.2.2.2.2 fun x88231455 =>
    bif (!x88231455) then
      k0 (0, 0, 0, v44)
    else
      bnd (rc (x3572945.getD default).1 (x3572945.getD default).2.1 (x3572945.getD default).2.2.1 (x3572945.getD default).2.2.2.1 (x3572945.getD default).2.2.2.2.1 (x3572945.getD default).2.2.2.2.2.1 (x3572945.getD default).2.2.2.2.2.2.1 (x3572945.getD default).2.2.2.2.2.2.2.1 (x3572945.getD default).2.2.2.2.2.2.2.2.1 (x3572945.getD default).2.2.2.2.2.2.2.2.2.1 (x3572945.getD default).2.2.2.2.2.2.2.2.2.2.1 (x3572945.getD default).2.2.2.2.2.2.2.2.2.2.2.1 (x3572945.getD default).2.2.2.2.2.2.2.2.2.2.2.2.1 (x3572945.getD default).2.2.2.2.2.2.2.2.2.2.2.2.2.1 (x3572945.getD default).2.2.2.2.2.2.2.2.2.2.2.2.2.2.1 (x3572945.getD default).2.2.2.2.2.2.2.2.2.2.2.2.2.2.2.1 (x3572945.getD default).2.2.2.2.2.2.2.2.2.2.2.2.2.2.2.2.1 (x3572945.getD default).2.2.2.2.2.2.2.2.2.2.2.2.2.2.2.2.2.1 x7323135 x7913248 v21 v22 v23 v24 v25 v26 v27 v28 v29 v30 v31 v32 v33 v34 v35 v36 v37 v38 v39 v40 v41 v42 v43 v44) fun x22561748 =>
      bif x22561748.isSome then
        bif ((x22561748.getD default).1 == 0) then
          k0 ((x22561748.getD default).1, (x22561748.getD default).2.1, (x22561748.getD default).2.2.1, (x22561748.getD default).2.2.2)
        else
          bnd (G70x0 N v25 v20) fun x51607859 =>
          bif x51607859.isSome then
            bnd (IntKind.wrap .i64 ((x22561748.getD default).2.2.1 + (x51607859.getD default).2.2.2.1)) fun x39895508 =>
            bnd (G90x1x25 N rc v20 v41 v43 v0) fun x31367487 =>
            bif x31367487.isSome then
              bnd (V90x1x29 N rc (x31367487.getD default) (x22561748.getD default).2.1) fun x30420134 =>
              k0 ((x22561748.getD default).1, x30420134, x39895508, (x22561748.getD default).2.2.2)
            else
              none
          else
            none
      else
        none
  else
    none
noncomputable def G90x1 (N : Nat) (rc : Rc78x1) (v0 v1 v2 v3 v4 v5 v6 v7 v8 v9 v10 v11 v12 v13 v14 v15 v16 v17 v18 v19 v20 v21 v22 v23 : Int) (v24 : Bool) (v25 : (List D)) (v26 : Bool) (v27 : (List D)) (v28 v29 v30 v31 v32 v33 v34 v35 v36 v37 v38 v39 v40 : Bool) (v41 : (List D)) (v42 : Bool) (v43 : (List D)) (v44 : (List (D × D))) : Option (Int × Int × Int × (List (D × D))) := F90x1 N rc v0 v1 v2 v3 v4 v5 v6 v7 v8 v9 v10 v11 v12 v13 v14 v15 v16 v17 v18 v19 v20 v21 v22 v23 v24 v25 v26 v27 v28 v29 v30 v31 v32 v33 v34 v35 v36 v37 v38 v39 v40 v41 v42 v43 v44 (fun p => some p)
theorem bind90x1 (N : Nat) (rc : Rc78x1) {R : Type} (v0 v1 v2 v3 v4 v5 v6 v7 v8 v9 v10 v11 v12 v13 v14 v15 v16 v17 v18 v19 v20 v21 v22 v23 : Int) (v24 : Bool) (v25 : (List D)) (v26 : Bool) (v27 : (List D)) (v28 v29 v30 v31 v32 v33 v34 v35 v36 v37 v38 v39 v40 : Bool) (v41 : (List D)) (v42 : Bool) (v43 : (List D)) (v44 : (List (D × D))) (k0 : Int × Int × Int × (List (D × D)) → Option R) : F90x1 N rc v0 v1 v2 v3 v4 v5 v6 v7 v8 v9 v10 v11 v12 v13 v14 v15 v16 v17 v18 v19 v20 v21 v22 v23 v24 v25 v26 v27 v28 v29 v30 v31 v32 v33 v34 v35 v36 v37 v38 v39 v40 v41 v42 v43 v44 k0 = (G90x1 N rc v0 v1 v2 v3 v4 v5 v6 v7 v8 v9 v10 v11 v12 v13 v14 v15 v16 v17 v18 v19 v20 v21 v22 v23 v24 v25 v26 v27 v28 v29 v30 v31 v32 v33 v34 v35 v36 v37 v38 v39 v40 v41 v42 v43 v44).bind k0 := by
  unfold G90x1 F90x1
  repeat' (first | rfl | apply cond_b | (apply bnd_b; intro _))
noncomputable def J90x1 (N : Nat) (rc : Rc78x1) (L : List Lf) {R : Type} (k0 : Int × Int × Int × (List (D × D)) → Option R) : Option R := F90x1 N rc (li L 0) (li L 1) (li L 2) (li L 3) (li L 4) (li L 5) (li L 6) (li L 7) (li L 8) (li L 9) (li L 10) (li L 11) (li L 12) (li L 13) (li L 14) (li L 15) (li L 16) (li L 17) (li L 18) (li L 19) (li L 20) (li L 21) (li L 22) (li L 23) (lb L 24) (ll L 25) (lb L 26) (ll L 27) (lb L 28) (lb L 29) (lb L 30) (lb L 31) (lb L 32) (lb L 33) (lb L 34) (lb L 35) (lb L 36) (lb L 37) (lb L 38) (lb L 39) (lb L 40) (ll L 41) (lb L 42) (ll L 43) (lm L 44) k0
noncomputable def sh90x1 : Sh := { tmps := [(0, .c (.p 0 0)), (1, .g [.i .i64, .i .i64, .i .i64, .i .i64, .i .i64, .i .i64, .i .i64, .i .i64, .i .i64, .i .i64, .i .i64, .i .i64, .i .i64, .i .i64, .i .i64, .i .i64, .i .i64, .i .i64, .i .i64, .i .i64]), (2, .c (.i .i64))], mem := [(0, .box [.i .i64, .i .i64, .i .i64, .sl 66, .sl 68, .b, .b, .b, .b, .b, .b, .b, .b, .b, .b, .b, .b, .sl 3, .sl 3, .m 1]), (1, .map 106 59)] }
noncomputable def K90x1w0 (L : List Lf) (p : Int × Int × Int × (List (D × D))) : Res := ([.g [.i .i64 p.1, .i .i64 p.2.1, .i .i64 p.2.2.1]], [(0, .box [.i .i64 (li L 21), .i .i64 (li L 22), .i .i64 (li L 23), .sl 66 (lb L 24) (ll L 25), .sl 68 (lb L 26) (ll L 27), .b (lb L 28), .b (lb L 29), .b (lb L 30), .b (lb L 31), .b (lb L 32), .b (lb L 33), .b (lb L 34), .b (lb L 35), .b (lb L 36), .b (lb L 37), .b (lb L 38), .b (lb L 39), .sl 3 (lb L 40) (ll L 41), .sl 3 (lb L 42) (ll L 43), .m 1]), (1, .map 106 59 p.2.2.2)])
noncomputable def A90x1 (N : Nat) (rc : Rc78x1) (L : List Lf) : List (Bool × Res) := bnd (J90x1 N rc L (fun p => some p)) fun q => [(q.isSome, K90x1w0 L (q.getD default))]
theorem raw90x1 (N : Nat) (rc : Rc78x1) (L : List Lf) : (body Try.prog ((O78x1 N) rc) ((h90x1s2 N) rc) 200 90 (valsOf (ofSh sh90x1 L).tmps) (ofSh sh90x1 L).mem : Option Res) = J90x1 N rc L (fun p => some (K90x1w0 L p)) := by kernel_rfl
theorem ok90x1 (N : Nat) (rc : Rc78x1) (hR : OracleOk Try.prog ((O78x1 N) rc)) : ∀ args mem alts, spSh sh90x1 ((A90x1 N) rc) args mem = some alts → ∀ res, altK alts some = some res → CallOk Try.prog 90 args mem res :=
  spSh_law fun L x hx => callOk_of (n := 200) progOk hR ((al90x1s2 N) rc hR) rfl ((raw90x1 N rc L).trans ((bind90x1 N rc ..).trans (alt1 x hx)))
noncomputable def T90x1 (N : Nat) (rc : Rc78x1) : Oracle := ext 90 (spSh sh90x1 ((A90x1 N) rc)) ((O78x1 N) rc)
theorem T90x1_ok (N : Nat) (rc : Rc78x1) (hR : OracleOk Try.prog ((O78x1 N) rc)) : OracleOk Try.prog ((T90x1 N) rc) := ext_ok hR (enters_of (by kernel_rfl)) ((ok90x1 N) rc hR)
noncomputable def rg91x0 : List (Nat × List Nat) := [(0, [0, 1]), (1, [2, 3])]
noncomputable def hd91x0 : Hints := []
noncomputable def h91x0s0 (N : Nat) (rc : Rc78x1) : Hint := { loops := hd91x0, regs := rg91x0, los := [] }
theorem al91x0s0 (N : Nat) (rc : Rc78x1) (hR : OracleOk Try.prog ((O78x1 N) rc)) : AllCuts Try.prog ((h91x0s0 N) rc).los 0 91 := AllCuts.nil
noncomputable def F91x0 (N : Nat) (rc : Rc78x1) {R : Type} (v0 v1 v2 v3 v4 v5 : Int) (k0 : Bool → R) : R :=
  bnd (bif (decide (v0 > 0)) then (bif (bif (v3 == 0) then true else (decide (v1 < v4))) then true else (bif (v1 == v4) then (decide (v2 > v5)) else false)) else false) fun x58532586 =>
  k0 x58532586
noncomputable def V91x0 (N : Nat) (rc : Rc78x1) (v0 v1 v2 v3 v4 v5 : Int) : Bool := F91x0 N rc v0 v1 v2 v3 v4 v5 (fun p => p)
theorem tot91x0 (N : Nat) (rc : Rc78x1) {R : Type} (v0 v1 v2 v3 v4 v5 : Int) (k0 : Bool → R) : F91x0 N rc v0 v1 v2 v3 v4 v5 k0 = k0 (V91x0 N rc v0 v1 v2 v3 v4 v5) := by
  unfold V91x0 F91x0
  repeat' (first | rfl | apply cond_k | (apply bnd_k; intro _))
noncomputable def J91x0 (N : Nat) (rc : Rc78x1) (L : List Lf) {R : Type} (k0 : Bool → R) : R := F91x0 N rc (li L 0) (li L 1) (li L 2) (li L 3) (li L 4) (li L 5) k0
noncomputable def sh91x0 : Sh := { tmps := [(0, .g [.i .i64, .i .i64, .i .i64]), (1, .g [.i .i64, .i .i64, .i .i64])], mem := [] }
noncomputable def A91x0 (N : Nat) (rc : Rc78x1) (L : List Lf) : List (Bool × Res) := bnd (J91x0 N rc L (fun p => p)) fun q => [(true, ([.c (.b q)], []))]
theorem raw91x0 (N : Nat) (rc : Rc78x1) (L : List Lf) : (body Try.prog ((T90x1 N) rc) ((h91x0s0 N) rc) 200 91 (valsOf (ofSh sh91x0 L).tmps) (ofSh sh91x0 L).mem : Option Res) = J91x0 N rc L (fun p => some ([.c (.b p)], [])) := by kernel_rfl
theorem ok91x0 (N : Nat) (rc : Rc78x1) (hR : OracleOk Try.prog ((O78x1 N) rc)) : ∀ args mem alts, spSh sh91x0 ((A91x0 N) rc) args mem = some alts → ∀ res, altK alts some = some res → CallOk Try.prog 91 args mem res :=
  spSh_law fun L x hx => callOk_of (n := 200) progOk ((T90x1_ok N) rc hR) ((al91x0s0 N) rc hR) rfl ((raw91x0 N rc L).trans ((tot91x0 N rc ..).trans (alt0 _ _ hx)))
noncomputable def T91x0 (N : Nat) (rc : Rc78x1) : Oracle := ext 91 (spSh sh91x0 ((A91x0 N) rc)) ((T90x1 N) rc)
theorem T91x0_ok (N : Nat) (rc : Rc78x1) (hR : OracleOk Try.prog ((O78x1 N) rc)) : OracleOk Try.prog ((T91x0 N) rc) := ext_ok ((T90x1_ok N) rc hR) (enters_of (by kernel_rfl)) ((ok91x0 N) rc hR)
noncomputable def rg78x1 : List (Nat × List Nat) := [(0, [1, 0]), (1, [3, 0, 4]), (2, [4]), (3, [0, 3, 4]), (4, [6, 5, 4, 0, 3]), (5, [5, 4]), (6, [0, 3, 4]), (7, [0, 3, 7, 4]), (8, [0, 3, 8, 7, 4]), (9, [9, 10, 0, 3, 8, 7, 4]), (10, [11, 10, 0, 3, 8, 7, 4]), (12, [0, 3, 11, 8, 7, 10, 4]), (13, [8, 12, 7, 11, 10, 0, 3, 4]), (14, [12, 7, 11, 10, 0, 3, 8, 4]), (15, [12, 7, 11, 10, 0, 3, 8, 4]), (11, [11, 10, 0, 3, 8, 7, 4]), (16, [8, 7, 0, 3, 4]), (17, [0, 3, 7, 4]), (18, [7, 4])]
noncomputable def hd78x1 : Hints := [(30, [11, 10, 0, 3, 8, 7, 4], [9, 6, 5, 1, 0], []), (47, [12, 7, 11, 10, 0, 3, 8, 4, 57], [14, 9, 6, 5, 1, 0], [])]
noncomputable def h78x1s0 (N : Nat) (rc : Rc78x1) : Hint := { loops := hd78x1, regs := rg78x1, los := [] }
theorem al78x1s0 (N : Nat) (rc : Rc78x1) (hR : OracleOk Try.prog ((O78x1 N) rc)) : AllCuts Try.prog ((h78x1s0 N) rc).los 2 78 := AllCuts.nil
noncomputable def F78x1x47 (N : Nat) (rc : Rc78x1) {R : Type} (w3 : Bool) (w51 w52 w53 w54 w55 w56 : Int) (k0 : Int × Int × Int → R) : R :=
  bif w3 then
    k0 (w54, w55, w56)
  else
    k0 (w51, w52, w53)
noncomputable def V78x1x47 (N : Nat) (rc : Rc78x1) (w3 : Bool) (w51 w52 w53 w54 w55 w56 : Int) : Int × Int × Int := F78x1x47 N rc w3 w51 w52 w53 w54 w55 w56 (fun p => p)
theorem tot78x1x47 (N : Nat) (rc : Rc78x1) {R : Type} (w3 : Bool) (w51 w52 w53 w54 w55 w56 : Int) (k0 : Int × Int × Int → R) : F78x1x47 N rc w3 w51 w52 w53 w54 w55 w56 k0 = k0 (V78x1x47 N rc w3 w51 w52 w53 w54 w55 w56) := by
  unfold V78x1x47 F78x1x47
  repeat' (first | rfl | apply cond_k | (apply bnd_k; intro _))
noncomputable def J78x1x47 (N : Nat) (rc : Rc78x1) (L : List Lf) {R : Type} (k0 : Int × Int × Int → R) : R := F78x1x47 N rc (lb L 3) (li L 51) (li L 52) (li L 53) (li L 54) (li L 55) (li L 56) k0
noncomputable def sh78x1x47 : Sh := { tmps := [(0, .c (.p 0 0)), (3, .c (.p 5 0)), (4, .c (.p 6 0)), (7, .c (.p 9 0)), (8, .c (.i .i64)), (10, .c (.i .i64)), (11, .c (.i .i64)), (12, .c (.p 14 0)), (57, .c (.b))], mem := [(0, .box [.i .i64, .i .i64, .i .i64, .sl 66, .sl 68, .b, .b, .b, .b, .b, .b, .b, .b, .b, .b, .b, .b, .sl 3, .sl 3, .m 1]), (1, .map 106 59), (5, .box [.i .i64, .i .i64, .i .i64, .i .i64, .i .i64, .i .i64, .i .i64, .i .i64, .i .i64, .i .i64, .i .i64, .i .i64, .i .i64, .i .i64, .i .i64, .i .i64, .i .i64, .i .i64, .i .i64, .i .i64]), (6, .box [.i .i64, .i .i64, .i .i64]), (9, .box [.i .i64, .i .i64, .i .i64]), (14, .box [.i .i64, .i .i64, .i .i64])] }
noncomputable def K78x1x47w0 (L : List Lf) (p : Int × Int × Int) : Ex × St := (.normal, ⟨[(0, .c (.p 0 0)), (3, .c (.p 5 0)), (4, .c (.p 6 0)), (7, .c (.p 9 0)), (8, .c (.i .i64 (li L 0))), (10, .c (.i .i64 (li L 1))), (11, .c (.i .i64 (li L 2)))], [(0, .box [.i .i64 (li L 4), .i .i64 (li L 5), .i .i64 (li L 6), .sl 66 (lb L 7) (ll L 8), .sl 68 (lb L 9) (ll L 10), .b (lb L 11), .b (lb L 12), .b (lb L 13), .b (lb L 14), .b (lb L 15), .b (lb L 16), .b (lb L 17), .b (lb L 18), .b (lb L 19), .b (lb L 20), .b (lb L 21), .b (lb L 22), .sl 3 (lb L 23) (ll L 24), .sl 3 (lb L 25) (ll L 26), .m 1]), (1, .map 106 59 (lm L 27)), (5, .box [.i .i64 (li L 28), .i .i64 (li L 29), .i .i64 (li L 30), .i .i64 (li L 31), .i .i64 (li L 32), .i .i64 (li L 33), .i .i64 (li L 34), .i .i64 (li L 35), .i .i64 (li L 36), .i .i64 (li L 37), .i .i64 (li L 38), .i .i64 (li L 39), .i .i64 (li L 40), .i .i64 (li L 41), .i .i64 (li L 42), .i .i64 (li L 43), .i .i64 (li L 44), .i .i64 (li L 45), .i .i64 (li L 46), .i .i64 (li L 47)]), (6, .box [.i .i64 (li L 48), .i .i64 (li L 49), .i .i64 (li L 50)]), (9, .box [.i .i64 p.1, .i .i64 p.2.1, .i .i64 p.2.2])]⟩)
noncomputable def A78x1x47 (N : Nat) (rc : Rc78x1) (L : List Lf) : List (Bool × (Ex × St)) := bnd (J78x1x47 N rc L (fun p => p)) fun q => [(true, K78x1x47w0 L q)]
theorem raw78x1x47 (N : Nat) (rc : Rc78x1) (L : List Lf) : (exec Try.prog ((T91x0 N) rc) ((h78x1s0 N) rc) 2 100 (piece Try.prog 78 47) (ofSh sh78x1x47 L) (fun e st => some (e, cutSt [11, 10, 0, 3, 8, 7, 4] [9, 6, 5, 1, 0] st)) : Option (Ex × St)) = J78x1x47 N rc L (fun p => some (K78x1x47w0 L p)) := by kernel_rfl
theorem one78x1x47 : oneB Try.prog 78 47 = true := by kernel_rfl
theorem law78x1x47 (N : Nat) (rc : Rc78x1) (hR : OracleOk Try.prog ((O78x1 N) rc)) : CutLaw Try.prog 2 (piece Try.prog 78 47) (loSh sh78x1x47 ((A78x1x47 N) rc)) :=
  law_sh progOk ((T91x0_ok N) rc hR) ((al78x1s0 N) rc hR) one78x1x47 fun L x hx => (raw78x1x47 N rc L).trans ((tot78x1x47 N rc ..).trans (alt0 _ _ hx))
noncomputable def h78x1s1 (N : Nat) (rc : Rc78x1) : Hint := { ((h78x1s0 N) rc) with los := (47, loSh sh78x1x47 ((A78x1x47 N) rc)) :: ((h78x1s0 N) rc).los }
theorem al78x1s1 (N : Nat) (rc : Rc78x1) (hR : OracleOk Try.prog ((O78x1 N) rc)) : AllCuts Try.prog ((h78x1s1 N) rc).los 2 78 := AllCuts.cons ((al78x1s0 N) rc hR) one78x1x47 ((law78x1x47 N) rc hR)
noncomputable def P78x1x30 (w0 w1 w2 w3 w4 w5 : Int) (w6 : Bool) (w7 : (List D)) (w8 : Bool) (w9 : (List D)) (w10 w11 w12 w13 w14 w15 w16 w17 w18 w19 w20 w21 w22 : Bool) (w23 : (List D)) (w24 : Bool) (w25 : (List D)) (w26 : (List (D × D))) (w27 w28 w29 w30 w31 w32 w33 w34 w35 w36 w37 w38 w39 w40 w41 w42 w43 w44 w45 w46 w47 w48 w49 w50 w51 w52 : Int) : St := ⟨[(0, .c (.p 0 0)), (3, .c (.p 5 0)), (4, .c (.p 6 0)), (7, .c (.p 9 0)), (8, .c (.i .i64 w0)), (10, .c (.i .i64 w1)), (11, .c (.i .i64 w2))], [(0, .box [.i .i64 w3, .i .i64 w4, .i .i64 w5, .sl 66 w6 w7, .sl 68 w8 w9, .b w10, .b w11, .b w12, .b w13, .b w14, .b w15, .b w16, .b w17, .b w18, .b w19, .b w20, .b w21, .sl 3 w22 w23, .sl 3 w24 w25, .m 1]), (1, .map 106 59 w26), (5, .box [.i .i64 w27, .i .i64 w28, .i .i64 w29, .i .i64 w30, .i .i64 w31, .i .i64 w32, .i .i64 w33, .i .i64 w34, .i .i64 w35, .i .i64 w36, .i .i64 w37, .i .i64 w38, .i .i64 w39, .i .i64 w40, .i .i64 w41, .i .i64 w42, .i .i64 w43, .i .i64 w44, .i .i64 w45, .i .i64 w46]), (6, .box [.i .i64 w47, .i .i64 w48, .i .i64 w49]), (9, .box [.i .i64 w50, .i .i64 w51, .i .i64 w52])]⟩
noncomputable def S78x1x30 (N : Nat) (rc : Rc78x1) {R : Type} (w1 w3 w4 w5 : Int) (w6 : Bool) (w7 : (List D)) (w8 : Bool) (w9 : (List D)) (w10 w11 w12 w13 w14 w15 w16 w17 w18 w19 w20 w21 w22 : Bool) (w23 : (List D)) (w24 : Bool) (w25 : (List D)) (w27 w28 w29 w30 w31 w32 w33 w34 w35 w36 w37 w38 w39 w40 w41 w42 w43 w44 w45 w46 : Int) (w0 w2 : Int) (w26 : (List (D × D))) (w50 w51 w52 : Int) (kr : Int → Int → (List (D × D)) → Int → Int → Int → Option R) (k0 : Int × (List (D × D)) × Int × Int × Int → Option R) : Option R :=
  bif (decide (w2 ≤ w1)) then
    bnd (G90x1 N rc w27 w28 w29 w30 w31 w32 w33 w34 w35 w36 w37 w38 w39 w40 w41 w42 w43 w44 w45 w46 w2 w3 w4 w5 w6 w7 w8 w9 w10 w11 w12 w13 w14 w15 w16 w17 w18 w19 w20 w21 w22 w23 w24 w25 w26) fun x45080714 =>
    bif x45080714.isSome then
      bnd (V91x0 N rc (x45080714.getD default).1 (x45080714.getD default).2.1 (x45080714.getD default).2.2.1 w50 w51 w52) fun x39992698 =>
      bnd (V78x1x47 N rc x39992698 w50 w51 w52 (x45080714.getD default).1 (x45080714.getD default).2.1 (x45080714.getD default).2.2.1) fun x99681859 =>
      kr (IntKind.wrap .i64 (w0 + (x45080714.getD default).1)) (IntKind.wrap .i64 (w2 + 1)) (x45080714.getD default).2.2.2 x99681859.1 x99681859.2.1 x99681859.2.2
    else
      none
  else
    k0 (w0, w26, w50, w51, w52)
theorem mono78x1x30 (N : Nat) (rc : Rc78x1) {R : Type} (w1 w3 w4 w5 : Int) (w6 : Bool) (w7 : (List D)) (w8 : Bool) (w9 : (List D)) (w10 w11 w12 w13 w14 w15 w16 w17 w18 w19 w20 w21 w22 : Bool) (w23 : (List D)) (w24 : Bool) (w25 : (List D)) (w27 w28 w29 w30 w31 w32 w33 w34 w35 w36 w37 w38 w39 w40 w41 w42 w43 w44 w45 w46 : Int) (w0 w2 : Int) (w26 : (List (D × D))) (w50 w51 w52 : Int) {kr kr' : Int → Int → (List (D × D)) → Int → Int → Int → Option R} (k0 : Int × (List (D × D)) × Int × Int × Int → Option R) {r : R} (hk : ∀ w0' w2' w26' w50' w51' w52', kr w0' w2' w26' w50' w51' w52' = some r → kr' w0' w2' w26' w50' w51' w52' = some r) : S78x1x30 N rc w1 w3 w4 w5 w6 w7 w8 w9 w10 w11 w12 w13 w14 w15 w16 w17 w18 w19 w20 w21 w22 w23 w24 w25 w27 w28 w29 w30 w31 w32 w33 w34 w35 w36 w37 w38 w39 w40 w41 w42 w43 w44 w45 w46 w0 w2 w26 w50 w51 w52 kr k0 = some r → S78x1x30 N rc w1 w3 w4 w5 w6 w7 w8 w9 w10 w11 w12 w13 w14 w15 w16 w17 w18 w19 w20 w21 w22 w23 w24 w25 w27 w28 w29 w30 w31 w32 w33 w34 w35 w36 w37 w38 w39 w40 w41 w42 w43 w44 w45 w46 w0 w2 w26 w50 w51 w52 kr' k0 = some r := by
  unfold S78x1x30
  repeat' (first | exact hk _ _ _ _ _ _ | exact fun h => h | apply cond_mono | (apply bnd_mono; intro _))
noncomputable def L78x1x30 (N : Nat) (rc : Rc78x1) {R : Type} (w1 w3 w4 w5 : Int) (w6 : Bool) (w7 : (List D)) (w8 : Bool) (w9 : (List D)) (w10 w11 w12 w13 w14 w15 w16 w17 w18 w19 w20 w21 w22 : Bool) (w23 : (List D)) (w24 : Bool) (w25 : (List D)) (w27 w28 w29 w30 w31 w32 w33 w34 w35 w36 w37 w38 w39 w40 w41 w42 w43 w44 w45 w46 : Int) : Nat → Int → Int → (List (D × D)) → Int → Int → Int → (Int × (List (D × D)) × Int × Int × Int → Option R) → Option R
  | 0, _, _, _, _, _, _, _ => none
  | m + 1, w0, w2, w26, w50, w51, w52, k0 => S78x1x30 N rc w1 w3 w4 w5 w6 w7 w8 w9 w10 w11 w12 w13 w14 w15 w16 w17 w18 w19 w20 w21 w22 w23 w24 w25 w27 w28 w29 w30 w31 w32 w33 w34 w35 w36 w37 w38 w39 w40 w41 w42 w43 w44 w45 w46 w0 w2 w26 w50 w51 w52 (fun w0 w2 w26 w50 w51 w52 => L78x1x30 N rc w1 w3 w4 w5 w6 w7 w8 w9 w10 w11 w12 w13 w14 w15 w16 w17 w18 w19 w20 w21 w22 w23 w24 w25 w27 w28 w29 w30 w31 w32 w33 w34 w35 w36 w37 w38 w39 w40 w41 w42 w43 w44 w45 w46 m w0 w2 w26 w50 w51 w52 k0) k0
theorem lp78x1x30 : piece Try.prog 78 30 = .loop (loopB (piece Try.prog 78 30)) := by kernel_rfl
theorem nl78x1x30 (N : Nat) (rc : Rc78x1) : lawOf ((h78x1s1 N) rc) (.loop (loopB (piece Try.prog 78 30))) = none := by kernel_rfl
theorem cl78x1x30 (N : Nat) (rc : Rc78x1) (w1 w3 w4 w5 : Int) (w6 : Bool) (w7 : (List D)) (w8 : Bool) (w9 : (List D)) (w10 w11 w12 w13 w14 w15 w16 w17 w18 w19 w20 w21 w22 : Bool) (w23 : (List D)) (w24 : Bool) (w25 : (List D)) (w27 w28 w29 w30 w31 w32 w33 w34 w35 w36 w37 w38 w39 w40 w41 w42 w43 w44 w45 w46 w47 w48 w49 : Int) (w0 w2 : Int) (w26 : (List (D × D))) (w50 w51 w52 : Int) : clearSt Try.prog 2 ((h78x1s1 N) rc).loops 30 (P78x1x30 w0 w1 w2 w3 w4 w5 w6 w7 w8 w9 w10 w11 w12 w13 w14 w15 w16 w17 w18 w19 w20 w21 w22 w23 w24 w25 w26 w27 w28 w29 w30 w31 w32 w33 w34 w35 w36 w37 w38 w39 w40 w41 w42 w43 w44 w45 w46 w47 w48 w49 w50 w51 w52) = (P78x1x30 w0 w1 w2 w3 w4 w5 w6 w7 w8 w9 w10 w11 w12 w13 w14 w15 w16 w17 w18 w19 w20 w21 w22 w23 w24 w25 w26 w27 w28 w29 w30 w31 w32 w33 w34 w35 w36 w37 w38 w39 w40 w41 w42 w43 w44 w45 w46 w47 w48 w49 w50 w51 w52) := by kernel_rfl
theorem step78x1x30 (N : Nat) (rc : Rc78x1) (m : Nat) (kn : St → Option (Ex × St)) (w1 w3 w4 w5 : Int) (w6 : Bool) (w7 : (List D)) (w8 : Bool) (w9 : (List D)) (w10 w11 w12 w13 w14 w15 w16 w17 w18 w19 w20 w21 w22 : Bool) (w23 : (List D)) (w24 : Bool) (w25 : (List D)) (w27 w28 w29 w30 w31 w32 w33 w34 w35 w36 w37 w38 w39 w40 w41 w42 w43 w44 w45 w46 w47 w48 w49 : Int) (w0 w2 : Int) (w26 : (List (D × D))) (w50 w51 w52 : Int) : exec Try.prog ((T91x0 N) rc) ((h78x1s1 N) rc) 2 (m + 100) (loopB (piece Try.prog 78 30)) (P78x1x30 w0 w1 w2 w3 w4 w5 w6 w7 w8 w9 w10 w11 w12 w13 w14 w15 w16 w17 w18 w19 w20 w21 w22 w23 w24 w25 w26 w27 w28 w29 w30 w31 w32 w33 w34 w35 w36 w37 w38 w39 w40 w41 w42 w43 w44 w45 w46 w47 w48 w49 w50 w51 w52) (reK (fun st => kn (clearSt Try.prog 2 ((h78x1s1 N) rc).loops 30 st)) (fun e st => some (e, cutSt [4, 8, 7, 0, 3] [9, 6, 5, 1, 0] st))) = S78x1x30 N rc w1 w3 w4 w5 w6 w7 w8 w9 w10 w11 w12 w13 w14 w15 w16 w17 w18 w19 w20 w21 w22 w23 w24 w25 w27 w28 w29 w30 w31 w32 w33 w34 w35 w36 w37 w38 w39 w40 w41 w42 w43 w44 w45 w46 w0 w2 w26 w50 w51 w52 (fun w0 w2 w26 w50 w51 w52 => kn (P78x1x30 w0 w1 w2 w3 w4 w5 w6 w7 w8 w9 w10 w11 w12 w13 w14 w15 w16 w17 w18 w19 w20 w21 w22 w23 w24 w25 w26 w27 w28 w29 w30 w31 w32 w33 w34 w35 w36 w37 w38 w39 w40 w41 w42 w43 w44 w45 w46 w47 w48 w49 w50 w51 w52)) (fun p => some ((.exit 0), ⟨[(0, .c (.p 0 0)), (3, .c (.p 5 0)), (4, .c (.p 6 0)), (7, .c (.p 9 0)), (8, .c (.i .i64 p.1))], [(0, .box [.i .i64 w3, .i .i64 w4, .i .i64 w5, .sl 66 w6 w7, .sl 68 w8 w9, .b w10, .b w11, .b w12, .b w13, .b w14, .b w15, .b w16, .b w17, .b w18, .b w19, .b w20, .b w21, .sl 3 w22 w23, .sl 3 w24 w25, .m 1]), (1, .map 106 59 p.2.1), (5, .box [.i .i64 w27, .i .i64 w28, .i .i64 w29, .i .i64 w30, .i .i64 w31, .i .i64 w32, .i .i64 w33, .i .i64 w34, .i .i64 w35, .i .i64 w36, .i .i64 w37, .i .i64 w38, .i .i64 w39, .i .i64 w40, .i .i64 w41, .i .i64 w42, .i .i64 w43, .i .i64 w44, .i .i64 w45, .i .i64 w46]), (6, .box [.i .i64 w47, .i .i64 w48, .i .i64 w49]), (9, .box [.i .i64 p.2.2.1, .i .i64 p.2.2.2.1, .i .i64 p.2.2.2.2])]⟩)) := by kernel_rfl
theorem run78x1x30 (N : Nat) (rc : Rc78x1) (w1 w3 w4 w5 : Int) (w6 : Bool) (w7 : (List D)) (w8 : Bool) (w9 : (List D)) (w10 w11 w12 w13 w14 w15 w16 w17 w18 w19 w20 w21 w22 : Bool) (w23 : (List D)) (w24 : Bool) (w25 : (List D)) (w27 w28 w29 w30 w31 w32 w33 w34 w35 w36 w37 w38 w39 w40 w41 w42 w43 w44 w45 w46 w47 w48 w49 : Int) : ∀ (m : Nat) (w0 w2 : Int) (w26 : (List (D × D))) (w50 w51 w52 : Int) (x : Ex × St), L78x1x30 N rc w1 w3 w4 w5 w6 w7 w8 w9 w10 w11 w12 w13 w14 w15 w16 w17 w18 w19 w20 w21 w22 w23 w24 w25 w27 w28 w29 w30 w31 w32 w33 w34 w35 w36 w37 w38 w39 w40 w41 w42 w43 w44 w45 w46 m w0 w2 w26 w50 w51 w52 (fun p => some ((.exit 0), ⟨[(0, .c (.p 0 0)), (3, .c (.p 5 0)), (4, .c (.p 6 0)), (7, .c (.p 9 0)), (8, .c (.i .i64 p.1))], [(0, .box [.i .i64 w3, .i .i64 w4, .i .i64 w5, .sl 66 w6 w7, .sl 68 w8 w9, .b w10, .b w11, .b w12, .b w13, .b w14, .b w15, .b w16, .b w17, .b w18, .b w19, .b w20, .b w21, .sl 3 w22 w23, .sl 3 w24 w25, .m 1]), (1, .map 106 59 p.2.1), (5, .box [.i .i64 w27, .i .i64 w28, .i .i64 w29, .i .i64 w30, .i .i64 w31, .i .i64 w32, .i .i64 w33, .i .i64 w34, .i .i64 w35, .i .i64 w36, .i .i64 w37, .i .i64 w38, .i .i64 w39, .i .i64 w40, .i .i64 w41, .i .i64 w42, .i .i64 w43, .i .i64 w44, .i .i64 w45, .i .i64 w46]), (6, .box [.i .i64 w47, .i .i64 w48, .i .i64 w49]), (9, .box [.i .i64 p.2.2.1, .i .i64 p.2.2.2.1, .i .i64 p.2.2.2.2])]⟩)) = some x → exec Try.prog ((T91x0 N) rc) ((h78x1s1 N) rc) 2 (m + 101) (.loop (loopB (piece Try.prog 78 30))) (P78x1x30 w0 w1 w2 w3 w4 w5 w6 w7 w8 w9 w10 w11 w12 w13 w14 w15 w16 w17 w18 w19 w20 w21 w22 w23 w24 w25 w26 w27 w28 w29 w30 w31 w32 w33 w34 w35 w36 w37 w38 w39 w40 w41 w42 w43 w44 w45 w46 w47 w48 w49 w50 w51 w52) (fun e st => some (e, cutSt [4, 8, 7, 0, 3] [9, 6, 5, 1, 0] st)) = some x := by
  intro m
  induction m with
  | zero => intro w0 w2 w26 w50 w51 w52 x h; cases h
  | succ m ih =>
    intro w0 w2 w26 w50 w51 w52 x h
    exact loop_round (n := m + 101) ((nl78x1x30 N) rc) (by kernel_rfl) (cl78x1x30 N rc ..) (fun kn => step78x1x30 N rc (m + 1) kn ..) (mono78x1x30 N rc _ _ _ _ _ _ _ _ _ _ _ _ _ _ _ _ _ _ _ _ _ _ _ _ _ _ _ _ _ _ _ _ _ _ _ _ _ _ _ _ _ _ _ _ _ _ _ _ _ _ _ (fun w0 w2 w26 w50 w51 w52 => ih w0 w2 w26 w50 w51 w52 x) h)
noncomputable def G78x1x30 (N : Nat) (rc : Rc78x1) (w1 w3 w4 w5 : Int) (w6 : Bool) (w7 : (List D)) (w8 : Bool) (w9 : (List D)) (w10 w11 w12 w13 w14 w15 w16 w17 w18 w19 w20 w21 w22 : Bool) (w23 : (List D)) (w24 : Bool) (w25 : (List D)) (w27 w28 w29 w30 w31 w32 w33 w34 w35 w36 w37 w38 w39 w40 w41 w42 w43 w44 w45 w46 : Int) (w0 w2 : Int) (w26 : (List (D × D))) (w50 w51 w52 : Int) : Option (Int × (List (D × D)) × Int × Int × Int) := L78x1x30 N rc (R := (Int × (List (D × D)) × Int × Int × Int)) w1 w3 w4 w5 w6 w7 w8 w9 w10 w11 w12 w13 w14 w15 w16 w17 w18 w19 w20 w21 w22 w23 w24 w25 w27 w28 w29 w30 w31 w32 w33 w34 w35 w36 w37 w38 w39 w40 w41 w42 w43 w44 w45 w46 N w0 w2 w26 w50 w51 w52 (fun p => some p)
theorem sb78x1x30 (N : Nat) (rc : Rc78x1) {R A : Type} (w1 w3 w4 w5 : Int) (w6 : Bool) (w7 : (List D)) (w8 : Bool) (w9 : (List D)) (w10 w11 w12 w13 w14 w15 w16 w17 w18 w19 w20 w21 w22 : Bool) (w23 : (List D)) (w24 : Bool) (w25 : (List D)) (w27 w28 w29 w30 w31 w32 w33 w34 w35 w36 w37 w38 w39 w40 w41 w42 w43 w44 w45 w46 : Int) (w0 w2 : Int) (w26 : (List (D × D))) (w50 w51 w52 : Int) (kr : Int → Int → (List (D × D)) → Int → Int → Int → Option R) (kr' : Int → Int → (List (D × D)) → Int → Int → Int → Option A) (k0 : Int × (List (D × D)) × Int × Int × Int → Option R) (j0 : Int × (List (D × D)) × Int × Int × Int → Option A) (K : A → Option R) (hr : ∀ w0' w2' w26' w50' w51' w52', kr w0' w2' w26' w50' w51' w52' = (kr' w0' w2' w26' w50' w51' w52').bind K) (h0 : ∀ p, k0 p = (j0 p).bind K) : S78x1x30 N rc w1 w3 w4 w5 w6 w7 w8 w9 w10 w11 w12 w13 w14 w15 w16 w17 w18 w19 w20 w21 w22 w23 w24 w25 w27 w28 w29 w30 w31 w32 w33 w34 w35 w36 w37 w38 w39 w40 w41 w42 w43 w44 w45 w46 w0 w2 w26 w50 w51 w52 kr k0 = (S78x1x30 N rc w1 w3 w4 w5 w6 w7 w8 w9 w10 w11 w12 w13 w14 w15 w16 w17 w18 w19 w20 w21 w22 w23 w24 w25 w27 w28 w29 w30 w31 w32 w33 w34 w35 w36 w37 w38 w39 w40 w41 w42 w43 w44 w45 w46 w0 w2 w26 w50 w51 w52 kr' j0).bind K := by
  unfold S78x1x30
  repeat' (first | rfl | apply hr | apply h0 | apply cond_b | (apply bnd_b; intro _))
theorem lbind78x1x30 (N : Nat) (rc : Rc78x1) {R : Type} (w1 w3 w4 w5 : Int) (w6 : Bool) (w7 : (List D)) (w8 : Bool) (w9 : (List D)) (w10 w11 w12 w13 w14 w15 w16 w17 w18 w19 w20 w21 w22 : Bool) (w23 : (List D)) (w24 : Bool) (w25 : (List D)) (w27 w28 w29 w30 w31 w32 w33 w34 w35 w36 w37 w38 w39 w40 w41 w42 w43 w44 w45 w46 : Int) : ∀ (m : Nat) (w0 w2 : Int) (w26 : (List (D × D))) (w50 w51 w52 : Int) (k0 : Int × (List (D × D)) × Int × Int × Int → Option R), L78x1x30 N rc w1 w3 w4 w5 w6 w7 w8 w9 w10 w11 w12 w13 w14 w15 w16 w17 w18 w19 w20 w21 w22 w23 w24 w25 w27 w28 w29 w30 w31 w32 w33 w34 w35 w36 w37 w38 w39 w40 w41 w42 w43 w44 w45 w46 m w0 w2 w26 w50 w51 w52 k0 = (L78x1x30 N rc (R := (Int × (List (D × D)) × Int × Int × Int)) w1 w3 w4 w5 w6 w7 w8 w9 w10 w11 w12 w13 w14 w15 w16 w17 w18 w19 w20 w21 w22 w23 w24 w25 w27 w28 w29 w30 w31 w32 w33 w34 w35 w36 w37 w38 w39 w40 w41 w42 w43 w44 w45 w46 m w0 w2 w26 w50 w51 w52 (fun p => some p)).bind k0 := by
  intro m
  induction m with
  | zero => intros; rfl
  | succ m ih =>
    intro w0 w2 w26 w50 w51 w52 k0
    exact sb78x1x30 N rc _ _ _ _ _ _ _ _ _ _ _ _ _ _ _ _ _ _ _ _ _ _ _ _ _ _ _ _ _ _ _ _ _ _ _ _ _ _ _ _ _ _ _ _ _ _ _ _ _ _ _ _ _ _ _ (fun w0 w2 w26 w50 w51 w52 => ih w0 w2 w26 w50 w51 w52 k0) (fun _ => rfl)
theorem one78x1x30 : oneB Try.prog 78 30 = true := by kernel_rfl
noncomputable def sh78x1x30 : Sh := { tmps := [(0, .c (.p 0 0)), (3, .c (.p 5 0)), (4, .c (.p 6 0)), (7, .c (.p 9 0)), (8, .c (.i .i64)), (10, .c (.i .i64)), (11, .c (.i .i64))], mem := [(0, .box [.i .i64, .i .i64, .i .i64, .sl 66, .sl 68, .b, .b, .b, .b, .b, .b, .b, .b, .b, .b, .b, .b, .sl 3, .sl 3, .m 1]), (1, .map 106 59), (5, .box [.i .i64, .i .i64, .i .i64, .i .i64, .i .i64, .i .i64, .i .i64, .i .i64, .i .i64, .i .i64, .i .i64, .i .i64, .i .i64, .i .i64, .i .i64, .i .i64, .i .i64, .i .i64, .i .i64, .i .i64]), (6, .box [.i .i64, .i .i64, .i .i64]), (9, .box [.i .i64, .i .i64, .i .i64])] }
noncomputable def K78x1x30w0 (L : List Lf) (p : Int × (List (D × D)) × Int × Int × Int) : Ex × St := ((.exit 0), ⟨[(0, .c (.p 0 0)), (3, .c (.p 5 0)), (4, .c (.p 6 0)), (7, .c (.p 9 0)), (8, .c (.i .i64 p.1))], [(0, .box [.i .i64 (li L 3), .i .i64 (li L 4), .i .i64 (li L 5), .sl 66 (lb L 6) (ll L 7), .sl 68 (lb L 8) (ll L 9), .b (lb L 10), .b (lb L 11), .b (lb L 12), .b (lb L 13), .b (lb L 14), .b (lb L 15), .b (lb L 16), .b (lb L 17), .b (lb L 18), .b (lb L 19), .b (lb L 20), .b (lb L 21), .sl 3 (lb L 22) (ll L 23), .sl 3 (lb L 24) (ll L 25), .m 1]), (1, .map 106 59 p.2.1), (5, .box [.i .i64 (li L 27), .i .i64 (li L 28), .i .i64 (li L 29), .i .i64 (li L 30), .i .i64 (li L 31), .i .i64 (li L 32), .i .i64 (li L 33), .i .i64 (li L 34), .i .i64 (li L 35), .i .i64 (li L 36), .i .i64 (li L 37), .i .i64 (li L 38), .i .i64 (li L 39), .i .i64 (li L 40), .i .i64 (li L 41), .i .i64 (li L 42), .i .i64 (li L 43), .i .i64 (li L 44), .i .i64 (li L 45), .i .i64 (li L 46)]), (6, .box [.i .i64 (li L 47), .i .i64 (li L 48), .i .i64 (li L 49)]), (9, .box [.i .i64 p.2.2.1, .i .i64 p.2.2.2.1, .i .i64 p.2.2.2.2])]⟩)
noncomputable def A78x1x30 (N : Nat) (rc : Rc78x1) (L : List Lf) : List (Bool × (Ex × St)) := bnd (G78x1x30 N rc (li L 1) (li L 3) (li L 4) (li L 5) (lb L 6) (ll L 7) (lb L 8) (ll L 9) (lb L 10) (lb L 11) (lb L 12) (lb L 13) (lb L 14) (lb L 15) (lb L 16) (lb L 17) (lb L 18) (lb L 19) (lb L 20) (lb L 21) (lb L 22) (ll L 23) (lb L 24) (ll L 25) (li L 27) (li L 28) (li L 29) (li L 30) (li L 31) (li L 32) (li L 33) (li L 34) (li L 35) (li L 36) (li L 37) (li L 38) (li L 39) (li L 40) (li L 41) (li L 42) (li L 43) (li L 44) (li L 45) (li L 46) (li L 0) (li L 2) (lm L 26) (li L 50) (li L 51) (li L 52)) fun q => [(q.isSome, K78x1x30w0 L (q.getD default))]
theorem eq78x1x30 (L : List Lf) : ofSh sh78x1x30 L = (P78x1x30 (li L 0) (li L 1) (li L 2) (li L 3) (li L 4) (li L 5) (lb L 6) (ll L 7) (lb L 8) (ll L 9) (lb L 10) (lb L 11) (lb L 12) (lb L 13) (lb L 14) (lb L 15) (lb L 16) (lb L 17) (lb L 18) (lb L 19) (lb L 20) (lb L 21) (lb L 22) (ll L 23) (lb L 24) (ll L 25) (lm L 26) (li L 27) (li L 28) (li L 29) (li L 30) (li L 31) (li L 32) (li L 33) (li L 34) (li L 35) (li L 36) (li L 37) (li L 38) (li L 39) (li L 40) (li L 41) (li L 42) (li L 43) (li L 44) (li L 45) (li L 46) (li L 47) (li L 48) (li L 49) (li L 50) (li L 51) (li L 52)) := by kernel_rfl
theorem law78x1x30 (N : Nat) (rc : Rc78x1) (hR : OracleOk Try.prog ((O78x1 N) rc)) : CutLaw Try.prog 2 (piece Try.prog 78 30) (loSh sh78x1x30 ((A78x1x30 N) rc)) :=
  law_shL progOk ((T91x0_ok N) rc hR) ((al78x1s1 N) rc hR) one78x1x30 lp78x1x30 eq78x1x30 fun L x hx => run78x1x30 N rc _ _ _ _ _ _ _ _ _ _ _ _ _ _ _ _ _ _ _ _ _ _ _ _ _ _ _ _ _ _ _ _ _ _ _ _ _ _ _ _ _ _ _ _ _ _ _ N _ _ _ _ _ _ x ((lbind78x1x30 N rc _ _ _ _ _ _ _ _ _ _ _ _ _ _ _ _ _ _ _ _ _ _ _ _ _ _ _ _ _ _ _ _ _ _ _ _ _ _ _ _ _ _ _ _ N _ _ _ _ _ _ _).trans (alt1 x hx))
noncomputable def h78x1s2 (N : Nat) (rc : Rc78x1) : Hint := { ((h78x1s1 N) rc) with los := (30, loSh sh78x1x30 ((A78x1x30 N) rc)) :: ((h78x1s1 N) rc).los }
theorem al78x1s2 (N : Nat) (rc : Rc78x1) (hR : OracleOk Try.prog ((O78x1 N) rc)) : AllCuts Try.prog ((h78x1s2 N) rc).los 2 78 := AllCuts.cons ((al78x1s1 N) rc hR) one78x1x30 ((law78x1x30 N) rc hR)
noncomputable def F78x1 (N : Nat) (rc : Rc78x1) {R : Type} (v0 v1 v2 v3 v4 v5 v6 v7 v8 v9 v10 v11 v12 v13 v14 v15 v16 v17 v18 v19 v20 v21 v22 : Int) (v23 : Bool) (v24 : (List D)) (v25 : Bool) (v26 : (List D)) (v27 v28 v29 v30 v31 v32 v33 v34 v35 v36 v37 v38 v39 : Bool) (v40 : (List D)) (v41 : Bool) (v42 : (List D)) (v43 : (List (D × D))) (k0 : Int × Int × Int × (List (D × D)) → Option R) : Option R :=
  bif (v0 == v21) then
    k0 (1, 0, 0, v43)
  else
    bnd (((findB Try.prog 106 (.a [(.i v0), (.i v1), (.i v2), (.i v3), (.i v4), (.i v5), (.i v6), (.i v7), (.i v8), (.i v9), (.i v10), (.i v11), (.i v12), (.i v13), (.i v14), (.i v15), (.i v16), (.i v17), (.i v18), (.i v19)]) v43).getD (.a [(.i 0), (.i 0), (.i 0)])).cell 0).toI fun x3330394 =>
    bnd (((findB Try.prog 106 (.a [(.i v0), (.i v1), (.i v2), (.i v3), (.i v4), (.i v5), (.i v6), (.i v7), (.i v8), (.i v9), (.i v10), (.i v11), (.i v12), (.i v13), (.i v14), (.i v15), (.i v16), (.i v17), (.i v18), (.i v19)]) v43).getD (.a [(.i 0), (.i 0), (.i 0)])).cell 1).toI fun x81494493 =>
    bnd (((findB Try.prog 106 (.a [(.i v0), (.i v1), (.i v2), (.i v3), (.i v4), (.i v5), (.i v6), (.i v7), (.i v8), (.i v9), (.i v10), (.i v11), (.i v12), (.i v13), (.i v14), (.i v15), (.i v16), (.i v17), (.i v18), (.i v19)]) v43).getD (.a [(.i 0), (.i 0), (.i 0)])).cell 2).toI fun x69916005 =>
    bnd (findB Try.prog 106 (.a [(.i v0), (.i v1), (.i v2), (.i v3), (.i v4), (.i v5), (.i v6), (.i v7), (.i v8), (.i v9), (.i v10), (.i v11), (.i v12), (.i v13), (.i v14), (.i v15), (.i v16), (.i v17), (.i v18), (.i v19)]) v43).isSome fun x63215695 =>
    bif x63215695 then
      k0 (x3330394, x81494493, x69916005, v43)
    else
      bnd (G89x0 N v0 v24 v40) fun x46414880 =>
      bif x46414880.isSome then
        bnd (G78x1x30 N rc (x46414880.getD default).2 v20 v21 v22 v23 v24 v25 v26 v27 v28 v29 v30 v31 v32 v33 v34 v35 v36 v37 v38 v39 v40 v41 v42 v0 v1 v2 v3 v4 v5 v6 v7 v8 v9 v10 v11 v12 v13 v14 v15 v16 v17 v18 v19 0 (x46414880.getD default).1 v43 0 0 0) fun x56701465 =>
        bif x56701465.isSome then
          bnd (putB Try.prog 106 (.a [(.i v0), (.i v1), (.i v2), (.i v3), (.i v4), (.i v5), (.i v6), (.i v7), (.i v8), (.i v9), (.i v10), (.i v11), (.i v12), (.i v13), (.i v14), (.i v15), (.i v16), (.i v17), (.i v18), (.i v19)]) (.a [(.i (x56701465.getD default).1), (.i (x56701465.getD default).2.2.2.1), (.i (x56701465.getD default).2.2.2.2)]) (x56701465.getD default).2.1) fun x50177057 =>
          k0 ((x56701465.getD default).1, (x56701465.getD default).2.2.2.1, (x56701465.getD default).2.2.2.2, x50177057)
        else
          none
      else
        none
noncomputable def G78x1 (N : Nat) (rc : Rc78x1) (v0 v1 v2 v3 v4 v5 v6 v7 v8 v9 v10 v11 v12 v13 v14 v15 v16 v17 v18 v19 v20 v21 v22 : Int) (v23 : Bool) (v24 : (List D)) (v25 : Bool) (v26 : (List D)) (v27 v28 v29 v30 v31 v32 v33 v34 v35 v36 v37 v38 v39 : Bool) (v40 : (List D)) (v41 : Bool) (v42 : (List D)) (v43 : (List (D × D))) : Option (Int × Int × Int × (List (D × D))) := F78x1 N rc v0 v1 v2 v3 v4 v5 v6 v7 v8 v9 v10 v11 v12 v13 v14 v15 v16 v17 v18 v19 v20 v21 v22 v23 v24 v25 v26 v27 v28 v29 v30 v31 v32 v33 v34 v35 v36 v37 v38 v39 v40 v41 v42 v43 (fun p => some p)
theorem bind78x1 (N : Nat) (rc : Rc78x1) {R : Type} (v0 v1 v2 v3 v4 v5 v6 v7 v8 v9 v10 v11 v12 v13 v14 v15 v16 v17 v18 v19 v20 v21 v22 : Int) (v23 : Bool) (v24 : (List D)) (v25 : Bool) (v26 : (List D)) (v27 v28 v29 v30 v31 v32 v33 v34 v35 v36 v37 v38 v39 : Bool) (v40 : (List D)) (v41 : Bool) (v42 : (List D)) (v43 : (List (D × D))) (k0 : Int × Int × Int × (List (D × D)) → Option R) : F78x1 N rc v0 v1 v2 v3 v4 v5 v6 v7 v8 v9 v10 v11 v12 v13 v14 v15 v16 v17 v18 v19 v20 v21 v22 v23 v24 v25 v26 v27 v28 v29 v30 v31 v32 v33 v34 v35 v36 v37 v38 v39 v40 v41 v42 v43 k0 = (G78x1 N rc v0 v1 v2 v3 v4 v5 v6 v7 v8 v9 v10 v11 v12 v13 v14 v15 v16 v17 v18 v19 v20 v21 v22 v23 v24 v25 v26 v27 v28 v29 v30 v31 v32 v33 v34 v35 v36 v37 v38 v39 v40 v41 v42 v43).bind k0 := by
  unfold G78x1 F78x1
  repeat' (first | rfl | apply cond_b | (apply bnd_b; intro _))
noncomputable def J78x1 (N : Nat) (rc : Rc78x1) (L : List Lf) {R : Type} (k0 : Int × Int × Int × (List (D × D)) → Option R) : Option R := F78x1 N rc (li L 0) (li L 1) (li L 2) (li L 3) (li L 4) (li L 5) (li L 6) (li L 7) (li L 8) (li L 9) (li L 10) (li L 11) (li L 12) (li L 13) (li L 14) (li L 15) (li L 16) (li L 17) (li L 18) (li L 19) (li L 20) (li L 21) (li L 22) (lb L 23) (ll L 24) (lb L 25) (ll L 26) (lb L 27) (lb L 28) (lb L 29) (lb L 30) (lb L 31) (lb L 32) (lb L 33) (lb L 34) (lb L 35) (lb L 36) (lb L 37) (lb L 38) (lb L 39) (ll L 40) (lb L 41) (ll L 42) (lm L 43) k0
noncomputable def K78x1w0 (L : List Lf) (p : Int × Int × Int × (List (D × D))) : Res := ([.g [.i .i64 p.1, .i .i64 p.2.1, .i .i64 p.2.2.1]], [(0, .box [.i .i64 (li L 20), .i .i64 (li L 21), .i .i64 (li L 22), .sl 66 (lb L 23) (ll L 24), .sl 68 (lb L 25) (ll L 26), .b (lb L 27), .b (lb L 28), .b (lb L 29), .b (lb L 30), .b (lb L 31), .b (lb L 32), .b (lb L 33), .b (lb L 34), .b (lb L 35), .b (lb L 36), .b (lb L 37), .b (lb L 38), .sl 3 (lb L 39) (ll L 40), .sl 3 (lb L 41) (ll L 42), .m 1]), (1, .map 106 59 p.2.2.2)])
theorem raw78x1 (N : Nat) (rc : Rc78x1) (L : List Lf) : (body Try.prog ((T91x0 N) rc) ((h78x1s2 N) rc) 200 78 (valsOf (ofSh sh78x1 L).tmps) (ofSh sh78x1 L).mem : Option Res) = J78x1 N rc L (fun p => some (K78x1w0 L p)) := by kernel_rfl
theorem fin78x1 (N : Nat) (rc : Rc78x1) (hR : OracleOk Try.prog ((O78x1 N) rc)) (L : List Lf) (x : Res) (hx : altK ((B78x1 N) (fun v0 v1 v2 v3 v4 v5 v6 v7 v8 v9 v10 v11 v12 v13 v14 v15 v16 v17 v18 v19 v20 v21 v22 v23 v24 v25 v26 v27 v28 v29 v30 v31 v32 v33 v34 v35 v36 v37 v38 v39 v40 v41 v42 v43 => G78x1 N rc v0 v1 v2 v3 v4 v5 v6 v7 v8 v9 v10 v11 v12 v13 v14 v15 v16 v17 v18 v19 v20 v21 v22 v23 v24 v25 v26 v27 v28 v29 v30 v31 v32 v33 v34 v35 v36 v37 v38 v39 v40 v41 v42 v43) L) some = some x) : CallOk Try.prog 78 (valsOf (ofSh sh78x1 L).tmps) (ofSh sh78x1 L).mem x :=
  callOk_of (n := 200) progOk ((T91x0_ok N) rc hR) ((al78x1s2 N) rc hR) rfl ((raw78x1 N rc L).trans ((bind78x1 N rc ..).trans (alt1 x hx)))
noncomputable def R78x1 (N : Nat) : Nat → Rc78x1
  | 0 => fun _ _ _ _ _ _ _ _ _ _ _ _ _ _ _ _ _ _ _ _ _ _ _ _ _ _ _ _ _ _ _ _ _ _ _ _ _ _ _ _ _ _ _ _ => none
  | m + 1 => fun v0 v1 v2 v3 v4 v5 v6 v7 v8 v9 v10 v11 v12 v13 v14 v15 v16 v17 v18 v19 v20 v21 v22 v23 v24 v25 v26 v27 v28 v29 v30 v31 v32 v33 v34 v35 v36 v37 v38 v39 v40 v41 v42 v43 => G78x1 N (R78x1 N m) v0 v1 v2 v3 v4 v5 v6 v7 v8 v9 v10 v11 v12 v13 v14 v15 v16 v17 v18 v19 v20 v21 v22 v23 v24 v25 v26 v27 v28 v29 v30 v31 v32 v33 v34 v35 v36 v37 v38 v39 v40 v41 v42 v43
theorem Rok78x1 (N : Nat) : ∀ m, OracleOk Try.prog ((O78x1 N) (R78x1 N m))
  | 0 => ext_ok (T88x0_ok N) (enters_of (by kernel_rfl)) (spSh_law fun L x hx => by
    have h : (none : Option Res) = some x := hx
    cases h)
  | m + 1 => ext_ok (T88x0_ok N) (enters_of (by kernel_rfl)) (spSh_law fun L x hx => fin78x1 N (R78x1 N m) (Rok78x1 N m) L x hx)
noncomputable def T78x1 (N : Nat) : Oracle := (O78x1 N) (R78x1 N N)
theorem T78x1_ok (N : Nat) : OracleOk Try.prog (T78x1 N) := Rok78x1 N N
noncomputable def rg47x0 : List (Nat × List Nat) := [(0, [0, 1, 2]), (1, [3, 1, 2, 7]), (2, [8, 7])]
noncomputable def hd47x0 : Hints := []
noncomputable def h47x0s0 (N : Nat) : Hint := { loops := hd47x0, regs := rg47x0, los := [] }
theorem al47x0s0 (N : Nat) : AllCuts Try.prog (h47x0s0 N).los 0 47 := AllCuts.nil
noncomputable def F47x0 (N : Nat) {R : Type} (v0 v1 v2 : Int) (v3 : Bool) (v4 : (List D)) (v5 : Bool) (v6 : (List D)) (v7 v8 v9 v10 v11 v12 v13 v14 v15 v16 v17 v18 v19 : Bool) (v20 : (List D)) (v21 : Bool) (v22 : (List D)) (k0 : Int × Int × Int × (List (D × D)) → Option R) : Option R :=
  bnd (R78x1 N N 0 0 v2 0 0 0 0 0 0 0 0 0 0 0 0 0 0 0 0 0 v0 v1 v2 v3 v4 v5 v6 v7 v8 v9 v10 v11 v12 v13 v14 v15 v16 v17 v18 v19 v20 v21 v22 []) fun x68934179 =>
  bif x68934179.isSome then
    k0 ((x68934179.getD default).1, (x68934179.getD default).2.1, (x68934179.getD default).2.2.1, (x68934179.getD default).2.2.2)
  else
    none
noncomputable def G47x0 (N : Nat) (v0 v1 v2 : Int) (v3 : Bool) (v4 : (List D)) (v5 : Bool) (v6 : (List D)) (v7 v8 v9 v10 v11 v12 v13 v14 v15 v16 v17 v18 v19 : Bool) (v20 : (List D)) (v21 : Bool) (v22 : (List D)) : Option (Int × Int × Int × (List (D × D))) := F47x0 N v0 v1 v2 v3 v4 v5 v6 v7 v8 v9 v10 v11 v12 v13 v14 v15 v16 v17 v18 v19 v20 v21 v22 (fun p => some p)
theorem bind47x0 (N : Nat) {R : Type} (v0 v1 v2 : Int) (v3 : Bool) (v4 : (List D)) (v5 : Bool) (v6 : (List D)) (v7 v8 v9 v10 v11 v12 v13 v14 v15 v16 v17 v18 v19 : Bool) (v20 : (List D)) (v21 : Bool) (v22 : (List D)) (k0 : Int × Int × Int × (List (D × D)) → Option R) : F47x0 N v0 v1 v2 v3 v4 v5 v6 v7 v8 v9 v10 v11 v12 v13 v14 v15 v16 v17 v18 v19 v20 v21 v22 k0 = (G47x0 N v0 v1 v2 v3 v4 v5 v6 v7 v8 v9 v10 v11 v12 v13 v14 v15 v16 v17 v18 v19 v20 v21 v22).bind k0 := by
  unfold G47x0 F47x0
  repeat' (first | rfl | apply cond_b | (apply bnd_b; intro _))
noncomputable def J47x0 (N : Nat) (L : List Lf) {R : Type} (k0 : Int × Int × Int × (List (D × D)) → Option R) : Option R := F47x0 N (li L 0) (li L 1) (li L 2) (lb L 3) (ll L 4) (lb L 5) (ll L 6) (lb L 7) (lb L 8) (lb L 9) (lb L 10) (lb L 11) (lb L 12) (lb L 13) (lb L 14) (lb L 15) (lb L 16) (lb L 17) (lb L 18) (lb L 19) (ll L 20) (lb L 21) (ll L 22) k0
noncomputable def sh47x0 : Sh := { tmps := [(0, .g [.i .i64, .i .i64, .i .i64, .sl 66, .sl 68, .b, .b, .b, .b, .b, .b, .b, .b, .b, .b, .b, .b]), (1, .c (.sl 3)), (2, .c (.sl 3))], mem := [] }
noncomputable def K47x0w0 (L : List Lf) (p : Int × Int × Int × (List (D × D))) : Res := ([.c (.p 14 0), .g [.i .i64 p.1, .i .i64 p.2.1, .i .i64 p.2.2.1]], [(12, .map 106 59 p.2.2.2), (14, .box [.i .i64 (li L 0), .i .i64 (li L 1), .i .i64 (li L 2), .sl 66 (lb L 3) (ll L 4), .sl 68 (lb L 5) (ll L 6), .b (lb L 7), .b (lb L 8), .b (lb L 9), .b (lb L 10), .b (lb L 11), .b (lb L 12), .b (lb L 13), .b (lb L 14), .b (lb L 15), .b (lb L 16), .b (lb L 17), .b (lb L 18), .sl 3 (lb L 19) (ll L 20), .sl 3 (lb L 21) (ll L 22), .m 12])])
noncomputable def A47x0 (N : Nat) (L : List Lf) : List (Bool × Res) := bnd (J47x0 N L (fun p => some p)) fun q => [(q.isSome, K47x0w0 L (q.getD default))]
theorem raw47x0 (N : Nat) (L : List Lf) : (body Try.prog (T78x1 N) (h47x0s0 N) 200 47 (valsOf (ofSh sh47x0 L).tmps) (ofSh sh47x0 L).mem : Option Res) = J47x0 N L (fun p => some (K47x0w0 L p)) := by kernel_rfl
theorem ok47x0 (N : Nat) : ∀ args mem alts, spSh sh47x0 (A47x0 N) args mem = some alts → ∀ res, altK alts some = some res → CallOk Try.prog 47 args mem res :=
  spSh_law fun L x hx => callOk_of (n := 200) progOk (T78x1_ok N) (al47x0s0 N) rfl ((raw47x0 N L).trans ((bind47x0 N ..).trans (alt1 x hx)))
noncomputable def T47x0 (N : Nat) : Oracle := ext 47 (spSh sh47x0 (A47x0 N)) (T78x1 N)
theorem T47x0_ok (N : Nat) : OracleOk Try.prog (T47x0 N) := ext_ok (T78x1_ok N) (enters_of (by kernel_rfl)) (ok47x0 N)
noncomputable def rg90x2 : List (Nat × List Nat) := [(0, [1, 0, 2]), (1, [0, 4, 2, 6]), (2, [8, 6, 0, 7, 2, 4]), (3, [6]), (4, [0, 7, 6, 2, 4]), (5, [9, 6, 0, 2, 4]), (6, [9, 6]), (7, [9, 0, 2, 4, 6]), (8, [4, 0, 2, 9, 6]), (9, [9, 6]), (10, [9, 6])]
noncomputable def hd90x2 : Hints := [(25, [4, 0, 2, 9, 6], [11, 8, 6, 1, 0], []), (29, [9, 6, 70], [11, 8, 0, 1], [])]
noncomputable def h90x2s0 (N : Nat) : Hint := { loops := hd90x2, regs := rg90x2, los := [] }
theorem al90x2s0 (N : Nat) : AllCuts Try.prog (h90x2s0 N).los 2 90 := AllCuts.nil
noncomputable def F90x2x25 (N : Nat) {R : Type} (w0 : Int) (w21 w23 : (List D)) (w25 : Int) (k0 : Bool → Option R) : Option R :=
  bif (decide (w25 ≥ (w21.length : Int))) then
    bif (decide (w25 < (w23.length : Int))) then
      bif (inB w25 w23.length) then
        k0 ((w23.getD w25.toNat (.i 0)).toI != w0)
      else
        none
    else
      k0 false
  else
    k0 false
noncomputable def G90x2x25 (N : Nat) (w0 : Int) (w21 w23 : (List D)) (w25 : Int) : Option (Bool) := F90x2x25 N w0 w21 w23 w25 (fun p => some p)
theorem bind90x2x25 (N : Nat) {R : Type} (w0 : Int) (w21 w23 : (List D)) (w25 : Int) (k0 : Bool → Option R) : F90x2x25 N w0 w21 w23 w25 k0 = (G90x2x25 N w0 w21 w23 w25).bind k0 := by
  unfold G90x2x25 F90x2x25
  repeat' (first | rfl | apply cond_b | (apply bnd_b; intro _))
noncomputable def J90x2x25 (N : Nat) (L : List Lf) {R : Type} (k0 : Bool → Option R) : Option R := F90x2x25 N (li L 0) (ll L 21) (ll L 23) (li L 25) k0
noncomputable def sh90x2x25 : Sh := { tmps := [(0, .c (.p 0 0)), (2, .c (.i .i64)), (4, .c (.p 6 0)), (6, .c (.p 8 0)), (9, .c (.p 11 0))], mem := [(0, .box [.i .i64, .i .i64, .i .i64, .sl 66, .sl 68, .b, .b, .b, .b, .b, .b, .b, .b, .b, .b, .b, .b, .sl 3, .sl 3, .m 1]), (1, .map 106 59), (6, .box [.i .i64, .i .i64, .i .i64, .i .i64, .i .i64, .i .i64, .i .i64, .i .i64, .i .i64, .i .i64, .i .i64, .i .i64, .i .i64, .i .i64, .i .i64, .i .i64, .i .i64, .i .i64, .i .i64, .i .i64]), (8, .box [.i .i64, .i .i64, .i .i64]), (11, .box [.i .i64, .i .i64, .i .i64])] }
noncomputable def K90x2x25w0 (L : List Lf) (p : Bool) : Ex × St := (.normal, ⟨[(6, .c (.p 8 0)), (9, .c (.p 11 0)), (70, .c (.b p))], [(0, .box [.i .i64 (li L 1), .i .i64 (li L 2), .i .i64 (li L 3), .sl 66 (lb L 4) (ll L 5), .sl 68 (lb L 6) (ll L 7), .b (lb L 8), .b (lb L 9), .b (lb L 10), .b (lb L 11), .b (lb L 12), .b (lb L 13), .b (lb L 14), .b (lb L 15), .b (lb L 16), .b (lb L 17), .b (lb L 18), .b (lb L 19), .sl 3 (lb L 20) (ll L 21), .sl 3 (lb L 22) (ll L 23), .m 1]), (1, .map 106 59 (lm L 24)), (8, .box [.i .i64 (li L 45), .i .i64 (li L 46), .i .i64 (li L 47)]), (11, .box [.i .i64 (li L 48), .i .i64 (li L 49), .i .i64 (li L 50)])]⟩)
noncomputable def A90x2x25 (N : Nat) (L : List Lf) : List (Bool × (Ex × St)) := bnd (J90x2x25 N L (fun p => some p)) fun q => [(q.isSome, K90x2x25w0 L (q.getD default))]
theorem raw90x2x25 (N : Nat) (L : List Lf) : (exec Try.prog (T47x0 N) (h90x2s0 N) 2 100 (piece Try.prog 90 25) (ofSh sh90x2x25 L) (fun e st => some (e, cutSt [9, 6, 70] [11, 8, 0, 1] st)) : Option (Ex × St)) = J90x2x25 N L (fun p => some (K90x2x25w0 L p)) := by kernel_rfl
theorem one90x2x25 : oneB Try.prog 90 25 = true := by kernel_rfl
theorem law90x2x25 (N : Nat) : CutLaw Try.prog 2 (piece Try.prog 90 25) (loSh sh90x2x25 (A90x2x25 N)) :=
  law_sh progOk (T47x0_ok N) (al90x2s0 N) one90x2x25 fun L x hx => (raw90x2x25 N L).trans ((bind90x2x25 N ..).trans (alt1 x hx))
noncomputable def h90x2s1 (N : Nat) : Hint := { (h90x2s0 N) with los := (25, loSh sh90x2x25 (A90x2x25 N)) :: (h90x2s0 N).los }
theorem al90x2s1 (N : Nat) : AllCuts Try.prog (h90x2s1 N).los 2 90 := AllCuts.cons (al90x2s0 N) one90x2x25 (law90x2x25 N)
noncomputable def F90x2x29 (N : Nat) {R : Type} (w0 : Bool) (w29 : Int) (k0 : Int → R) : R :=
  bif w0 then
    k0 (IntKind.wrap .i64 (w29 + 1))
  else
    k0 w29
noncomputable def V90x2x29 (N : Nat) (w0 : Bool) (w29 : Int) : Int := F90x2x29 N w0 w29 (fun p => p)
theorem tot90x2x29 (N : Nat) {R : Type} (w0 : Bool) (w29 : Int) (k0 : Int → R) : F90x2x29 N w0 w29 k0 = k0 (V90x2x29 N w0 w29) := by
  unfold V90x2x29 F90x2x29
  repeat' (first | rfl | apply cond_k | (apply bnd_k; intro _))
noncomputable def sh90x2x29 : Sh := { tmps := [(6, .c (.p 8 0)), (9, .c (.p 11 0)), (70, .c (.b))], mem := [(0, .box [.i .i64, .i .i64, .i .i64, .sl 66, .sl 68, .b, .b, .b, .b, .b, .b, .b, .b, .b, .b, .b, .b, .sl 3, .sl 3, .m 1]), (1, .map 106 59), (8, .box [.i .i64, .i .i64, .i .i64]), (11, .box [.i .i64, .i .i64, .i .i64])] }
noncomputable def K90x2x29w0 (L : List Lf) (p : Int) : Ex × St := (.normal, ⟨[(6, .c (.p 8 0)), (9, .c (.p 11 0))], [(0, .box [.i .i64 (li L 1), .i .i64 (li L 2), .i .i64 (li L 3), .sl 66 (lb L 4) (ll L 5), .sl 68 (lb L 6) (ll L 7), .b (lb L 8), .b (lb L 9), .b (lb L 10), .b (lb L 11), .b (lb L 12), .b (lb L 13), .b (lb L 14), .b (lb L 15), .b (lb L 16), .b (lb L 17), .b (lb L 18), .b (lb L 19), .sl 3 (lb L 20) (ll L 21), .sl 3 (lb L 22) (ll L 23), .m 1]), (1, .map 106 59 (lm L 24)), (8, .box [.i .i64 (li L 25), .i .i64 (li L 26), .i .i64 (li L 27)]), (11, .box [.i .i64 (li L 28), .i .i64 p, .i .i64 (li L 30)])]⟩)
noncomputable def A90x2x29 (N : Nat) (L : List Lf) : List (Bool × (Ex × St)) := bnd (F90x2x29 N (lb L 0) (li L 29) (fun p => p)) fun q => [(true, K90x2x29w0 L q)]
theorem raw90x2x29 (N : Nat) (L : List Lf) : (exec Try.prog (T47x0 N) (h90x2s1 N) 2 100 (piece Try.prog 90 29) (ofSh sh90x2x29 L) (fun e st => some (e, cutSt [9, 6] [11, 8, 0, 1] st)) : Option (Ex × St)) = F90x2x29 N (lb L 0) (li L 29) (fun p => some (K90x2x29w0 L p)) := by kernel_rfl
theorem one90x2x29 : oneB Try.prog 90 29 = true := by kernel_rfl
theorem law90x2x29 (N : Nat) : CutLaw Try.prog 2 (piece Try.prog 90 29) (loSh sh90x2x29 (A90x2x29 N)) :=
  law_sh progOk (T47x0_ok N) (al90x2s1 N) one90x2x29 fun L x hx => (raw90x2x29 N L).trans ((tot90x2x29 N ..).trans (alt0 _ _ hx))
noncomputable def h90x2s2 (N : Nat) : Hint := { (h90x2s1 N) with los := (29, loSh sh90x2x29 (A90x2x29 N)) :: (h90x2s1 N).los }
theorem al90x2s2 (N : Nat) : AllCuts Try.prog (h90x2s2 N).los 2 90 := AllCuts.cons (al90x2s1 N) one90x2x29 (law90x2x29 N)
noncomputable def F90x2 (N : Nat) {R : Type} (v0 v1 v2 v3 v4 v5 v6 v7 v8 v9 v10 v11 v12 v13 v14 v15 v16 v17 v18 v19 v20 v21 v22 v23 : Int) (v24 : Bool) (v25 : (List D)) (v26 : Bool) (v27 : (List D)) (v28 v29 v30 v31 v32 v33 v34 v35 v36 v37 v38 v39 v40 : Bool) (v41 : (List D)) (v42 : Bool) (v43 : (List D)) (v44 : (List (D × D))) (k0 : Int × Int × Int × (List (D × D)) → Option R) : Option R :=
  bnd (G88x0 N v0 v1 v2 v3 v4 v5 v6 v7 v8 v9 v10 v11 v12 v13 v14 v15 v16 v17 v18 v19 v20 v21 v22 v25 v27 v28 v29 v30 v31 v32 v33 v34 v35 v36 v37 v38 v39) fun x3572945 =>
  bif x3572945.isSome then
    bnd (x3572945.getD default).2.2.2.2.2.2.2.2.2.2.2.2.2.2.2.2.2.2.1 fun x7323135 =>
    bnd (x3572945.getD default).2.2.2.2.2.2.2.2.2.2.2.2.2.2.2.2.2.2.2.1 fun x7913248 =>
    bnd (x3572945.getD default).2.2.2.2.2.2.2.2.2.2.2.2.2.2.2.2.2.2.2.2 fun x88231455 =>
    bif (!x88231455) then
      k0 (0, 0, 0, v44)
    else
      bnd (R78x1 N N (x3572945.getD default).1 (x3572945.getD default).2.1 (x3572945.getD default).2.2.1 (x3572945.getD default).2.2.2.1 (x3572945.getD default).2.2.2.2.1 (x3572945.getD default).2.2.2.2.2.1 (x3572945.getD default).2.2.2.2.2.2.1 (x3572945.getD default).2.2.2.2.2.2.2.1 (x3572945.getD default).2.2.2.2.2.2.2.2.1 (x3572945.getD default).2.2.2.2.2.2.2.2.2.1 (x3572945.getD default).2.2.2.2.2.2.2.2.2.2.1 (x3572945.getD default).2.2.2.2.2.2.2.2.2.2.2.1 (x3572945.getD default).2.2.2.2.2.2.2.2.2.2.2.2.1 (x3572945.getD default).2.2.2.2.2.2.2.2.2.2.2.2.2.1 (x3572945.getD default).2.2.2.2.2.2.2.2.2.2.2.2.2.2.1 (x3572945.getD default).2.2.2.2.2.2.2.2.2.2.2.2.2.2.2.1 (x3572945.getD default).2.2.2.2.2.2.2.2.2.2.2.2.2.2.2.2.1 (x3572945.getD default).2.2.2.2.2.2.2.2.2.2.2.2.2.2.2.2.2.1 x7323135 x7913248 v21 v22 v23 v24 v25 v26 v27 v28 v29 v30 v31 v32 v33 v34 v35 v36 v37 v38 v39 v40 v41 v42 v43 v44) fun x73419373 =>
      bif x73419373.isSome then
        bif ((x73419373.getD default).1 == 0) then
          k0 ((x73419373.getD default).1, (x73419373.getD default).2.1, (x73419373.getD default).2.2.1, (x73419373.getD default).2.2.2)
        else
          bnd (G70x0 N v25 v20) fun x51607859 =>
          bif x51607859.isSome then
            bnd (IntKind.wrap .i64 ((x73419373.getD default).2.2.1 + (x51607859.getD default).2.2.2.1)) fun x94116704 =>
            bnd (G90x2x25 N v20 v41 v43 v0) fun x61982539 =>
            bif x61982539.isSome then
              bnd (V90x2x29 N (x61982539.getD default) (x73419373.getD default).2.1) fun x32537806 =>
              k0 ((x73419373.getD default).1, x32537806, x94116704, (x73419373.getD default).2.2.2)
            else
              none
          else
            none
      else
        none
  else
    none
noncomputable def G90x2 (N : Nat) (v0 v1 v2 v3 v4 v5 v6 v7 v8 v9 v10 v11 v12 v13 v14 v15 v16 v17 v18 v19 v20 v21 v22 v23 : Int) (v24 : Bool) (v25 : (List D)) (v26 : Bool) (v27 : (List D)) (v28 v29 v30 v31 v32 v33 v34 v35 v36 v37 v38 v39 v40 : Bool) (v41 : (List D)) (v42 : Bool) (v43 : (List D)) (v44 : (List (D × D))) : Option (Int × Int × Int × (List (D × D))) := F90x2 N v0 v1 v2 v3 v4 v5 v6 v7 v8 v9 v10 v11 v12 v13 v14 v15 v16 v17 v18 v19 v20 v21 v22 v23 v24 v25 v26 v27 v28 v29 v30 v31 v32 v33 v34 v35 v36 v37 v38 v39 v40 v41 v42 v43 v44 (fun p => some p)
theorem bind90x2 (N : Nat) {R : Type} (v0 v1 v2 v3 v4 v5 v6 v7 v8 v9 v10 v11 v12 v13 v14 v15 v16 v17 v18 v19 v20 v21 v22 v23 : Int) (v24 : Bool) (v25 : (List D)) (v26 : Bool) (v27 : (List D)) (v28 v29 v30 v31 v32 v33 v34 v35 v36 v37 v38 v39 v40 : Bool) (v41 : (List D)) (v42 : Bool) (v43 : (List D)) (v44 : (List (D × D))) (k0 : Int × Int × Int × (List (D × D)) → Option R) : F90x2 N v0 v1 v2 v3 v4 v5 v6 v7 v8 v9 v10 v11 v12 v13 v14 v15 v16 v17 v18 v19 v20 v21 v22 v23 v24 v25 v26 v27 v28 v29 v30 v31 v32 v33 v34 v35 v36 v37 v38 v39 v40 v41 v42 v43 v44 k0 = (G90x2 N v0 v1 v2 v3 v4 v5 v6 v7 v8 v9 v10 v11 v12 v13 v14 v15 v16 v17 v18 v19 v20 v21 v22 v23 v24 v25 v26 v27 v28 v29 v30 v31 v32 v33 v34 v35 v36 v37 v38 v39 v40 v41 v42 v43 v44).bind k0 := by
  unfold G90x2 F90x2
  repeat' (first | rfl | apply cond_b | (apply bnd_b; intro _))
noncomputable def J90x2 (N : Nat) (L : List Lf) {R : Type} (k0 : Int × Int × Int × (List (D × D)) → Option R) : Option R := F90x2 N (li L 0) (li L 1) (li L 2) (li L 3) (li L 4) (li L 5) (li L 6) (li L 7) (li L 8) (li L 9) (li L 10) (li L 11) (li L 12) (li L 13) (li L 14) (li L 15) (li L 16) (li L 17) (li L 18) (li L 19) (li L 20) (li L 21) (li L 22) (li L 23) (lb L 24) (ll L 25) (lb L 26) (ll L 27) (lb L 28) (lb L 29) (lb L 30) (lb L 31) (lb L 32) (lb L 33) (lb L 34) (lb L 35) (lb L 36) (lb L 37) (lb L 38) (lb L 39) (lb L 40) (ll L 41) (lb L 42) (ll L 43) (lm L 44) k0
noncomputable def sh90x2 : Sh := { tmps := [(0, .c (.p 0 0)), (1, .g [.i .i64, .i .i64, .i .i64, .i .i64, .i .i64, .i .i64, .i .i64, .i .i64, .i .i64, .i .i64, .i .i64, .i .i64, .i .i64, .i .i64, .i .i64, .i .i64, .i .i64, .i .i64, .i .i64, .i .i64]), (2, .c (.i .i64))], mem := [(0, .box [.i .i64, .i .i64, .i .i64, .sl 66, .sl 68, .b, .b, .b, .b, .b, .b, .b, .b, .b, .b, .b, .b, .sl 3, .sl 3, .m 1]), (1, .map 106 59)] }
noncomputable def K90x2w0 (L : List Lf) (p : Int × Int × Int × (List (D × D))) : Res := ([.g [.i .i64 p.1, .i .i64 p.2.1, .i .i64 p.2.2.1]], [(0, .box [.i .i64 (li L 21), .i .i64 (li L 22), .i .i64 (li L 23), .sl 66 (lb L 24) (ll L 25), .sl 68 (lb L 26) (ll L 27), .b (lb L 28), .b (lb L 29), .b (lb L 30), .b (lb L 31), .b (lb L 32), .b (lb L 33), .b (lb L 34), .b (lb L 35), .b (lb L 36), .b (lb L 37), .b (lb L 38), .b (lb L 39), .sl 3 (lb L 40) (ll L 41), .sl 3 (lb L 42) (ll L 43), .m 1]), (1, .map 106 59 p.2.2.2)])
noncomputable def A90x2 (N : Nat) (L : List Lf) : List (Bool × Res) := bnd (J90x2 N L (fun p => some p)) fun q => [(q.isSome, K90x2w0 L (q.getD default))]
theorem raw90x2 (N : Nat) (L : List Lf) : (body Try.prog (T47x0 N) (h90x2s2 N) 200 90 (valsOf (ofSh sh90x2 L).tmps) (ofSh sh90x2 L).mem : Option Res) = J90x2 N L (fun p => some (K90x2w0 L p)) := by kernel_rfl
theorem ok90x2 (N : Nat) : ∀ args mem alts, spSh sh90x2 (A90x2 N) args mem = some alts → ∀ res, altK alts some = some res → CallOk Try.prog 90 args mem res :=
  spSh_law fun L x hx => callOk_of (n := 200) progOk (T47x0_ok N) (al90x2s2 N) rfl ((raw90x2 N L).trans ((bind90x2 N ..).trans (alt1 x hx)))
noncomputable def T90x2 (N : Nat) : Oracle := ext 90 (spSh sh90x2 (A90x2 N)) (T47x0 N)
theorem T90x2_ok (N : Nat) : OracleOk Try.prog (T90x2 N) := ext_ok (T47x0_ok N) (enters_of (by kernel_rfl)) (ok90x2 N)
noncomputable def rg91x1 : List (Nat × List Nat) := [(0, [0, 1]), (1, [2, 3])]
noncomputable def hd91x1 : Hints := []
noncomputable def h91x1s0 (N : Nat) : Hint := { loops := hd91x1, regs := rg91x1, los := [] }
theorem al91x1s0 (N : Nat) : AllCuts Try.prog (h91x1s0 N).los 0 91 := AllCuts.nil
noncomputable def F91x1 (N : Nat) {R : Type} (v0 v1 v2 v3 v4 v5 : Int) (k0 : Bool → R) : R :=
  bnd (bif (decide (v0 > 0)) then (bif (bif (v3 == 0) then true else (decide (v1 < v4))) then true else (bif (v1 == v4) then (decide (v2 > v5)) else false)) else false) fun x58532586 =>
  k0 x58532586
noncomputable def V91x1 (N : Nat) (v0 v1 v2 v3 v4 v5 : Int) : Bool := F91x1 N v0 v1 v2 v3 v4 v5 (fun p => p)
theorem tot91x1 (N : Nat) {R : Type} (v0 v1 v2 v3 v4 v5 : Int) (k0 : Bool → R) : F91x1 N v0 v1 v2 v3 v4 v5 k0 = k0 (V91x1 N v0 v1 v2 v3 v4 v5) := by
  unfold V91x1 F91x1
  repeat' (first | rfl | apply cond_k | (apply bnd_k; intro _))
noncomputable def J91x1 (N : Nat) (L : List Lf) {R : Type} (k0 : Bool → R) : R := F91x1 N (li L 0) (li L 1) (li L 2) (li L 3) (li L 4) (li L 5) k0
noncomputable def sh91x1 : Sh := { tmps := [(0, .g [.i .i64, .i .i64, .i .i64]), (1, .g [.i .i64, .i .i64, .i .i64])], mem := [] }
noncomputable def A91x1 (N : Nat) (L : List Lf) : List (Bool × Res) := bnd (J91x1 N L (fun p => p)) fun q => [(true, ([.c (.b q)], []))]
theorem raw91x1 (N : Nat) (L : List Lf) : (body Try.prog (T90x2 N) (h91x1s0 N) 200 91 (valsOf (ofSh sh91x1 L).tmps) (ofSh sh91x1 L).mem : Option Res) = J91x1 N L (fun p => some ([.c (.b p)], [])) := by kernel_rfl
theorem ok91x1 (N : Nat) : ∀ args mem alts, spSh sh91x1 (A91x1 N) args mem = some alts → ∀ res, altK alts some = some res → CallOk Try.prog 91 args mem res :=
  spSh_law fun L x hx => callOk_of (n := 200) progOk (T90x2_ok N) (al91x1s0 N) rfl ((raw91x1 N L).trans ((tot91x1 N ..).trans (alt0 _ _ hx)))
noncomputable def T91x1 (N : Nat) : Oracle := ext 91 (spSh sh91x1 (A91x1 N)) (T90x2 N)
theorem T91x1_ok (N : Nat) : OracleOk Try.prog (T91x1 N) := ext_ok (T90x2_ok N) (enters_of (by kernel_rfl)) (ok91x1 N)
noncomputable def rg72x0 : List (Nat × List Nat) := [(0, [0]), (1, [0]), (2, [0, 3]), (3, [4, 0, 3]), (4, [0, 4, 3]), (5, [0, 4, 5, 3]), (6, [6, 7, 0, 4, 5, 3]), (7, [8, 7, 0, 4, 5, 3]), (9, [0, 4, 8, 5, 3, 7]), (10, [9, 5, 3, 8, 0, 4, 7]), (8, [8, 7, 0, 4, 5, 3]), (11, [3, 8, 0, 4]), (12, [0, 4, 8, 3]), (13, [4, 0, 3]), (14, [65, 0, 3]), (15, [3])]
noncomputable def hd72x0 : Hints := [(9, [4, 0, 3], [6, 1, 0, 5], [3]), (21, [8, 7, 0, 4, 5, 3], [7, 6, 5, 1, 0], [3]), (31, [9, 5, 3, 8, 0, 4, 7], [11, 7, 6, 5, 1, 0], [])]
noncomputable def h72x0s0 (N : Nat) : Hint := { loops := hd72x0, regs := rg72x0, los := [] }
theorem al72x0s0 (N : Nat) : AllCuts Try.prog (h72x0s0 N).los 2 72 := AllCuts.nil
noncomputable def F72x0x31 (N : Nat) {R : Type} (w48 w49 w50 w51 w52 w53 : Int) (k0 : Bool → R) : R :=
  bif (decide (w51 > 0)) then
    bnd (V91x1 N w48 w49 w50 w51 w52 w53) fun x8648093 =>
    k0 (!x8648093)
  else
    k0 false
noncomputable def V72x0x31 (N : Nat) (w48 w49 w50 w51 w52 w53 : Int) : Bool := F72x0x31 N w48 w49 w50 w51 w52 w53 (fun p => p)
theorem tot72x0x31 (N : Nat) {R : Type} (w48 w49 w50 w51 w52 w53 : Int) (k0 : Bool → R) : F72x0x31 N w48 w49 w50 w51 w52 w53 k0 = k0 (V72x0x31 N w48 w49 w50 w51 w52 w53) := by
  unfold V72x0x31 F72x0x31
  repeat' (first | rfl | apply cond_k | (apply bnd_k; intro _))
noncomputable def J72x0x31 (N : Nat) (L : List Lf) {R : Type} (k0 : Bool → R) : R := F72x0x31 N (li L 48) (li L 49) (li L 50) (li L 51) (li L 52) (li L 53) k0
noncomputable def sh72x0x31 : Sh := { tmps := [(0, .c (.p 0 0)), (3, .c (.o 5)), (4, .c (.p 6 0)), (5, .c (.p 7 0)), (7, .c (.i .i64)), (8, .c (.i .i64)), (9, .c (.p 11 0))], mem := [(0, .box [.i .i64, .i .i64, .i .i64, .sl 66, .sl 68, .b, .b, .b, .b, .b, .b, .b, .b, .b, .b, .b, .b, .sl 3, .sl 3, .m 1]), (1, .map 106 59), (5, .row 3 true), (6, .box [.i .i64, .i .i64, .i .i64, .i .i64, .i .i64, .i .i64, .i .i64, .i .i64, .i .i64, .i .i64, .i .i64, .i .i64, .i .i64, .i .i64, .i .i64, .i .i64, .i .i64, .i .i64, .i .i64, .i .i64]), (7, .box [.i .i64, .i .i64, .i .i64]), (11, .box [.i .i64, .i .i64, .i .i64])] }
noncomputable def K72x0x31w0 (L : List Lf) (p : Bool) : Ex × St := (.normal, ⟨[(0, .c (.p 0 0)), (3, .c (.o 5)), (4, .c (.p 6 0)), (5, .c (.p 7 0)), (7, .c (.i .i64 (li L 0))), (8, .c (.i .i64 (li L 1))), (51, .c (.b p))], [(0, .box [.i .i64 (li L 2), .i .i64 (li L 3), .i .i64 (li L 4), .sl 66 (lb L 5) (ll L 6), .sl 68 (lb L 7) (ll L 8), .b (lb L 9), .b (lb L 10), .b (lb L 11), .b (lb L 12), .b (lb L 13), .b (lb L 14), .b (lb L 15), .b (lb L 16), .b (lb L 17), .b (lb L 18), .b (lb L 19), .b (lb L 20), .sl 3 (lb L 21) (ll L 22), .sl 3 (lb L 23) (ll L 24), .m 1]), (1, .map 106 59 (lm L 25)), (5, .row 3 true (lb L 26) (ll L 27)), (6, .box [.i .i64 (li L 28), .i .i64 (li L 29), .i .i64 (li L 30), .i .i64 (li L 31), .i .i64 (li L 32), .i .i64 (li L 33), .i .i64 (li L 34), .i .i64 (li L 35), .i .i64 (li L 36), .i .i64 (li L 37), .i .i64 (li L 38), .i .i64 (li L 39), .i .i64 (li L 40), .i .i64 (li L 41), .i .i64 (li L 42), .i .i64 (li L 43), .i .i64 (li L 44), .i .i64 (li L 45), .i .i64 (li L 46), .i .i64 (li L 47)]), (7, .box [.i .i64 (li L 48), .i .i64 (li L 49), .i .i64 (li L 50)])]⟩)
noncomputable def A72x0x31 (N : Nat) (L : List Lf) : List (Bool × (Ex × St)) := bnd (J72x0x31 N L (fun p => p)) fun q => [(true, K72x0x31w0 L q)]
theorem raw72x0x31 (N : Nat) (L : List Lf) : (exec Try.prog (T91x1 N) (h72x0s0 N) 2 100 (piece Try.prog 72 31) (ofSh sh72x0x31 L) (fun e st => some (e, cutSt [3, 8, 0, 4, 7, 5, 51] [7, 6, 5, 1, 0] st)) : Option (Ex × St)) = J72x0x31 N L (fun p => some (K72x0x31w0 L p)) := by kernel_rfl
theorem one72x0x31 : oneB Try.prog 72 31 = true := by kernel_rfl
theorem law72x0x31 (N : Nat) : CutLaw Try.prog 2 (piece Try.prog 72 31) (loSh sh72x0x31 (A72x0x31 N)) :=
  law_sh progOk (T91x1_ok N) (al72x0s0 N) one72x0x31 fun L x hx => (raw72x0x31 N L).trans ((tot72x0x31 N ..).trans (alt0 _ _ hx))
noncomputable def h72x0s1 (N : Nat) : Hint := { (h72x0s0 N) with los := (31, loSh sh72x0x31 (A72x0x31 N)) :: (h72x0s0 N).los }
theorem al72x0s1 (N : Nat) : AllCuts Try.prog (h72x0s1 N).los 2 72 := AllCuts.cons (al72x0s0 N) one72x0x31 (law72x0x31 N)
noncomputable def P72x0x21 (w0 w1 w2 w3 w4 : Int) (w5 : Bool) (w6 : (List D)) (w7 : Bool) (w8 : (List D)) (w9 w10 w11 w12 w13 w14 w15 w16 w17 w18 w19 w20 w21 : Bool) (w22 : (List D)) (w23 : Bool) (w24 : (List D)) (w25 : (List (D × D))) (w26 : Bool) (w27 : (List D)) (w28 w29 w30 w31 w32 w33 w34 w35 w36 w37 w38 w39 w40 w41 w42 w43 w44 w45 w46 w47 w48 w49 w50 : Int) : St := ⟨[(0, .c (.p 0 0)), (3, .c (.o 5)), (4, .c (.p 6 0)), (5, .c (.p 7 0)), (7, .c (.i .i64 w0)), (8, .c (.i .i64 w1))], [(0, .box [.i .i64 w2, .i .i64 w3, .i .i64 w4, .sl 66 w5 w6, .sl 68 w7 w8, .b w9, .b w10, .b w11, .b w12, .b w13, .b w14, .b w15, .b w16, .b w17, .b w18, .b w19, .b w20, .sl 3 w21 w22, .sl 3 w23 w24, .m 1]), (1, .map 106 59 w25), (5, .row 3 true w26 w27), (6, .box [.i .i64 w28, .i .i64 w29, .i .i64 w30, .i .i64 w31, .i .i64 w32, .i .i64 w33, .i .i64 w34, .i .i64 w35, .i .i64 w36, .i .i64 w37, .i .i64 w38, .i .i64 w39, .i .i64 w40, .i .i64 w41, .i .i64 w42, .i .i64 w43, .i .i64 w44, .i .i64 w45, .i .i64 w46, .i .i64 w47]), (7, .box [.i .i64 w48, .i .i64 w49, .i .i64 w50])]⟩
noncomputable def S72x0x21 (N : Nat) {R : Type} (w0 w2 w3 w4 : Int) (w5 : Bool) (w6 : (List D)) (w7 : Bool) (w8 : (List D)) (w9 w10 w11 w12 w13 w14 w15 w16 w17 w18 w19 w20 w21 : Bool) (w22 : (List D)) (w23 : Bool) (w24 : (List D)) (w28 w29 w30 w31 w32 w33 w34 w35 w36 w37 w38 w39 w40 w41 w42 w43 w44 w45 w46 w47 w48 w49 w50 : Int) (w1 : Int) (w25 : (List (D × D))) (kr : Int → (List (D × D)) → Option R) (k0 : Int × (List (D × D)) → Option R) : Option R :=
  bif (decide (w1 < w0)) then
    bnd (G90x2 N w28 w29 w30 w31 w32 w33 w34 w35 w36 w37 w38 w39 w40 w41 w42 w43 w44 w45 w46 w47 w1 w2 w3 w4 w5 w6 w7 w8 w9 w10 w11 w12 w13 w14 w15 w16 w17 w18 w19 w20 w21 w22 w23 w24 w25) fun x98524122 =>
    bif x98524122.isSome then
      bnd (V72x0x31 N w48 w49 w50 (x98524122.getD default).1 (x98524122.getD default).2.1 (x98524122.getD default).2.2.1) fun x51755432 =>
      bif x51755432 then
        k0 (w1, (x98524122.getD default).2.2.2)
      else
        kr (IntKind.wrap .i64 (w1 + 1)) (x98524122.getD default).2.2.2
    else
      none
  else
    k0 (w1, w25)
theorem mono72x0x21 (N : Nat) {R : Type} (w0 w2 w3 w4 : Int) (w5 : Bool) (w6 : (List D)) (w7 : Bool) (w8 : (List D)) (w9 w10 w11 w12 w13 w14 w15 w16 w17 w18 w19 w20 w21 : Bool) (w22 : (List D)) (w23 : Bool) (w24 : (List D)) (w28 w29 w30 w31 w32 w33 w34 w35 w36 w37 w38 w39 w40 w41 w42 w43 w44 w45 w46 w47 w48 w49 w50 : Int) (w1 : Int) (w25 : (List (D × D))) {kr kr' : Int → (List (D × D)) → Option R} (k0 : Int × (List (D × D)) → Option R) {r : R} (hk : ∀ w1' w25', kr w1' w25' = some r → kr' w1' w25' = some r) : S72x0x21 N w0 w2 w3 w4 w5 w6 w7 w8 w9 w10 w11 w12 w13 w14 w15 w16 w17 w18 w19 w20 w21 w22 w23 w24 w28 w29 w30 w31 w32 w33 w34 w35 w36 w37 w38 w39 w40 w41 w42 w43 w44 w45 w46 w47 w48 w49 w50 w1 w25 kr k0 = some r → S72x0x21 N w0 w2 w3 w4 w5 w6 w7 w8 w9 w10 w11 w12 w13 w14 w15 w16 w17 w18 w19 w20 w21 w22 w23 w24 w28 w29 w30 w31 w32 w33 w34 w35 w36 w37 w38 w39 w40 w41 w42 w43 w44 w45 w46 w47 w48 w49 w50 w1 w25 kr' k0 = some r := by
  unfold S72x0x21
  repeat' (first | exact hk _ _ | exact fun h => h | apply cond_mono | (apply bnd_mono; intro _))
noncomputable def L72x0x21 (N : Nat) {R : Type} (w0 w2 w3 w4 : Int) (w5 : Bool) (w6 : (List D)) (w7 : Bool) (w8 : (List D)) (w9 w10 w11 w12 w13 w14 w15 w16 w17 w18 w19 w20 w21 : Bool) (w22 : (List D)) (w23 : Bool) (w24 : (List D)) (w28 w29 w30 w31 w32 w33 w34 w35 w36 w37 w38 w39 w40 w41 w42 w43 w44 w45 w46 w47 w48 w49 w50 : Int) : Nat → Int → (List (D × D)) → (Int × (List (D × D)) → Option R) → Option R
  | 0, _, _, _ => none
  | m + 1, w1, w25, k0 => S72x0x21 N w0 w2 w3 w4 w5 w6 w7 w8 w9 w10 w11 w12 w13 w14 w15 w16 w17 w18 w19 w20 w21 w22 w23 w24 w28 w29 w30 w31 w32 w33 w34 w35 w36 w37 w38 w39 w40 w41 w42 w43 w44 w45 w46 w47 w48 w49 w50 w1 w25 (fun w1 w25 => L72x0x21 N w0 w2 w3 w4 w5 w6 w7 w8 w9 w10 w11 w12 w13 w14 w15 w16 w17 w18 w19 w20 w21 w22 w23 w24 w28 w29 w30 w31 w32 w33 w34 w35 w36 w37 w38 w39 w40 w41 w42 w43 w44 w45 w46 w47 w48 w49 w50 m w1 w25 k0) k0
theorem lp72x0x21 : piece Try.prog 72 21 = .loop (loopB (piece Try.prog 72 21)) := by kernel_rfl
theorem nl72x0x21 (N : Nat) : lawOf (h72x0s1 N) (.loop (loopB (piece Try.prog 72 21))) = none := by kernel_rfl
theorem cl72x0x21 (N : Nat) (w0 w2 w3 w4 : Int) (w5 : Bool) (w6 : (List D)) (w7 : Bool) (w8 : (List D)) (w9 w10 w11 w12 w13 w14 w15 w16 w17 w18 w19 w20 w21 : Bool) (w22 : (List D)) (w23 : Bool) (w24 : (List D)) (w26 : Bool) (w27 : (List D)) (w28 w29 w30 w31 w32 w33 w34 w35 w36 w37 w38 w39 w40 w41 w42 w43 w44 w45 w46 w47 w48 w49 w50 : Int) (w1 : Int) (w25 : (List (D × D))) : clearSt Try.prog 2 (h72x0s1 N).loops 21 (P72x0x21 w0 w1 w2 w3 w4 w5 w6 w7 w8 w9 w10 w11 w12 w13 w14 w15 w16 w17 w18 w19 w20 w21 w22 w23 w24 w25 w26 w27 w28 w29 w30 w31 w32 w33 w34 w35 w36 w37 w38 w39 w40 w41 w42 w43 w44 w45 w46 w47 w48 w49 w50) = (P72x0x21 w0 w1 w2 w3 w4 w5 w6 w7 w8 w9 w10 w11 w12 w13 w14 w15 w16 w17 w18 w19 w20 w21 w22 w23 w24 w25 w26 w27 w28 w29 w30 w31 w32 w33 w34 w35 w36 w37 w38 w39 w40 w41 w42 w43 w44 w45 w46 w47 w48 w49 w50) := by kernel_rfl
theorem step72x0x21 (N : Nat) (m : Nat) (kn : St → Option (Ex × St)) (w0 w2 w3 w4 : Int) (w5 : Bool) (w6 : (List D)) (w7 : Bool) (w8 : (List D)) (w9 w10 w11 w12 w13 w14 w15 w16 w17 w18 w19 w20 w21 : Bool) (w22 : (List D)) (w23 : Bool) (w24 : (List D)) (w26 : Bool) (w27 : (List D)) (w28 w29 w30 w31 w32 w33 w34 w35 w36 w37 w38 w39 w40 w41 w42 w43 w44 w45 w46 w47 w48 w49 w50 : Int) (w1 : Int) (w25 : (List (D × D))) : exec Try.prog (T91x1 N) (h72x0s1 N) 2 (m + 100) (loopB (piece Try.prog 72 21)) (P72x0x21 w0 w1 w2 w3 w4 w5 w6 w7 w8 w9 w10 w11 w12 w13 w14 w15 w16 w17 w18 w19 w20 w21 w22 w23 w24 w25 w26 w27 w28 w29 w30 w31 w32 w33 w34 w35 w36 w37 w38 w39 w40 w41 w42 w43 w44 w45 w46 w47 w48 w49 w50) (reK (fun st => kn (clearSt Try.prog 2 (h72x0s1 N).loops 21 st)) (fun e st => some (e, cutSt [2, 3, 8, 0, 4] [6, 5, 1, 0] st))) = S72x0x21 N w0 w2 w3 w4 w5 w6 w7 w8 w9 w10 w11 w12 w13 w14 w15 w16 w17 w18 w19 w20 w21 w22 w23 w24 w28 w29 w30 w31 w32 w33 w34 w35 w36 w37 w38 w39 w40 w41 w42 w43 w44 w45 w46 w47 w48 w49 w50 w1 w25 (fun w1 w25 => kn (P72x0x21 w0 w1 w2 w3 w4 w5 w6 w7 w8 w9 w10 w11 w12 w13 w14 w15 w16 w17 w18 w19 w20 w21 w22 w23 w24 w25 w26 w27 w28 w29 w30 w31 w32 w33 w34 w35 w36 w37 w38 w39 w40 w41 w42 w43 w44 w45 w46 w47 w48 w49 w50)) (fun p => some ((.exit 2), ⟨[(0, .c (.p 0 0)), (3, .c (.o 5)), (4, .c (.p 6 0)), (8, .c (.i .i64 p.1))], [(0, .box [.i .i64 w2, .i .i64 w3, .i .i64 w4, .sl 66 w5 w6, .sl 68 w7 w8, .b w9, .b w10, .b w11, .b w12, .b w13, .b w14, .b w15, .b w16, .b w17, .b w18, .b w19, .b w20, .sl 3 w21 w22, .sl 3 w23 w24, .m 1]), (1, .map 106 59 p.2), (5, .row 3 true w26 w27), (6, .box [.i .i64 w28, .i .i64 w29, .i .i64 w30, .i .i64 w31, .i .i64 w32, .i .i64 w33, .i .i64 w34, .i .i64 w35, .i .i64 w36, .i .i64 w37, .i .i64 w38, .i .i64 w39, .i .i64 w40, .i .i64 w41, .i .i64 w42, .i .i64 w43, .i .i64 w44, .i .i64 w45, .i .i64 w46, .i .i64 w47])]⟩)) := by kernel_rfl
theorem run72x0x21 (N : Nat) (w0 w2 w3 w4 : Int) (w5 : Bool) (w6 : (List D)) (w7 : Bool) (w8 : (List D)) (w9 w10 w11 w12 w13 w14 w15 w16 w17 w18 w19 w20 w21 : Bool) (w22 : (List D)) (w23 : Bool) (w24 : (List D)) (w26 : Bool) (w27 : (List D)) (w28 w29 w30 w31 w32 w33 w34 w35 w36 w37 w38 w39 w40 w41 w42 w43 w44 w45 w46 w47 w48 w49 w50 : Int) : ∀ (m : Nat) (w1 : Int) (w25 : (List (D × D))) (x : Ex × St), L72x0x21 N w0 w2 w3 w4 w5 w6 w7 w8 w9 w10 w11 w12 w13 w14 w15 w16 w17 w18 w19 w20 w21 w22 w23 w24 w28 w29 w30 w31 w32 w33 w34 w35 w36 w37 w38 w39 w40 w41 w42 w43 w44 w45 w46 w47 w48 w49 w50 m w1 w25 (fun p => some ((.exit 2), ⟨[(0, .c (.p 0 0)), (3, .c (.o 5)), (4, .c (.p 6 0)), (8, .c (.i .i64 p.1))], [(0, .box [.i .i64 w2, .i .i64 w3, .i .i64 w4, .sl 66 w5 w6, .sl 68 w7 w8, .b w9, .b w10, .b w11, .b w12, .b w13, .b w14, .b w15, .b w16, .b w17, .b w18, .b w19, .b w20, .sl 3 w21 w22, .sl 3 w23 w24, .m 1]), (1, .map 106 59 p.2), (5, .row 3 true w26 w27), (6, .box [.i .i64 w28, .i .i64 w29, .i .i64 w30, .i .i64 w31, .i .i64 w32, .i .i64 w33, .i .i64 w34, .i .i64 w35, .i .i64 w36, .i .i64 w37, .i .i64 w38, .i .i64 w39, .i .i64 w40, .i .i64 w41, .i .i64 w42, .i .i64 w43, .i .i64 w44, .i .i64 w45, .i .i64 w46, .i .i64 w47])]⟩)) = some x → exec Try.prog (T91x1 N) (h72x0s1 N) 2 (m + 101) (.loop (loopB (piece Try.prog 72 21))) (P72x0x21 w0 w1 w2 w3 w4 w5 w6 w7 w8 w9 w10 w11 w12 w13 w14 w15 w16 w17 w18 w19 w20 w21 w22 w23 w24 w25 w26 w27 w28 w29 w30 w31 w32 w33 w34 w35 w36 w37 w38 w39 w40 w41 w42 w43 w44 w45 w46 w47 w48 w49 w50) (fun e st => some (e, cutSt [2, 3, 8, 0, 4] [6, 5, 1, 0] st)) = some x := by
  intro m
  induction m with
  | zero => intro w1 w25 x h; cases h
  | succ m ih =>
    intro w1 w25 x h
    exact loop_round (n := m + 101) (nl72x0x21 N) (by kernel_rfl) (cl72x0x21 N ..) (fun kn => step72x0x21 N (m + 1) kn ..) (mono72x0x21 N _ _ _ _ _ _ _ _ _ _ _ _ _ _ _ _ _ _ _ _ _ _ _ _ _ _ _ _ _ _ _ _ _ _ _ _ _ _ _ _ _ _ _ _ _ _ _ _ _ _ (fun w1 w25 => ih w1 w25 x) h)
noncomputable def G72x0x21 (N : Nat) (w0 w2 w3 w4 : Int) (w5 : Bool) (w6 : (List D)) (w7 : Bool) (w8 : (List D)) (w9 w10 w11 w12 w13 w14 w15 w16 w17 w18 w19 w20 w21 : Bool) (w22 : (List D)) (w23 : Bool) (w24 : (List D)) (w28 w29 w30 w31 w32 w33 w34 w35 w36 w37 w38 w39 w40 w41 w42 w43 w44 w45 w46 w47 w48 w49 w50 : Int) (w1 : Int) (w25 : (List (D × D))) : Option (Int × (List (D × D))) := L72x0x21 N (R := (Int × (List (D × D)))) w0 w2 w3 w4 w5 w6 w7 w8 w9 w10 w11 w12 w13 w14 w15 w16 w17 w18 w19 w20 w21 w22 w23 w24 w28 w29 w30 w31 w32 w33 w34 w35 w36 w37 w38 w39 w40 w41 w42 w43 w44 w45 w46 w47 w48 w49 w50 N w1 w25 (fun p => some p)
theorem sb72x0x21 (N : Nat) {R A : Type} (w0 w2 w3 w4 : Int) (w5 : Bool) (w6 : (List D)) (w7 : Bool) (w8 : (List D)) (w9 w10 w11 w12 w13 w14 w15 w16 w17 w18 w19 w20 w21 : Bool) (w22 : (List D)) (w23 : Bool) (w24 : (List D)) (w28 w29 w30 w31 w32 w33 w34 w35 w36 w37 w38 w39 w40 w41 w42 w43 w44 w45 w46 w47 w48 w49 w50 : Int) (w1 : Int) (w25 : (List (D × D))) (kr : Int → (List (D × D)) → Option R) (kr' : Int → (List (D × D)) → Option A) (k0 : Int × (List (D × D)) → Option R) (j0 : Int × (List (D × D)) → Option A) (K : A → Option R) (hr : ∀ w1' w25', kr w1' w25' = (kr' w1' w25').bind K) (h0 : ∀ p, k0 p = (j0 p).bind K) : S72x0x21 N w0 w2 w3 w4 w5 w6 w7 w8 w9 w10 w11 w12 w13 w14 w15 w16 w17 w18 w19 w20 w21 w22 w23 w24 w28 w29 w30 w31 w32 w33 w34 w35 w36 w37 w38 w39 w40 w41 w42 w43 w44 w45 w46 w47 w48 w49 w50 w1 w25 kr k0 = (S72x0x21 N w0 w2 w3 w4 w5 w6 w7 w8 w9 w10 w11 w12 w13 w14 w15 w16 w17 w18 w19 w20 w21 w22 w23 w24 w28 w29 w30 w31 w32 w33 w34 w35 w36 w37 w38 w39 w40 w41 w42 w43 w44 w45 w46 w47 w48 w49 w50 w1 w25 kr' j0).bind K := by
  unfold S72x0x21
  repeat' (first | rfl | apply hr | apply h0 | apply cond_b | (apply bnd_b; intro _))
theorem lbind72x0x21 (N : Nat) {R : Type} (w0 w2 w3 w4 : Int) (w5 : Bool) (w6 : (List D)) (w7 : Bool) (w8 : (List D)) (w9 w10 w11 w12 w13 w14 w15 w16 w17 w18 w19 w20 w21 : Bool) (w22 : (List D)) (w23 : Bool) (w24 : (List D)) (w28 w29 w30 w31 w32 w33 w34 w35 w36 w37 w38 w39 w40 w41 w42 w43 w44 w45 w46 w47 w48 w49 w50 : Int) : ∀ (m : Nat) (w1 : Int) (w25 : (List (D × D))) (k0 : Int × (List (D × D)) → Option R), L72x0x21 N w0 w2 w3 w4 w5 w6 w7 w8 w9 w10 w11 w12 w13 w14 w15 w16 w17 w18 w19 w20 w21 w22 w23 w24 w28 w29 w30 w31 w32 w33 w34 w35 w36 w37 w38 w39 w40 w41 w42 w43 w44 w45 w46 w47 w48 w49 w50 m w1 w25 k0 = (L72x0x21 N (R := (Int × (List (D × D)))) w0 w2 w3 w4 w5 w6 w7 w8 w9 w10 w11 w12 w13 w14 w15 w16 w17 w18 w19 w20 w21 w22 w23 w24 w28 w29 w30 w31 w32 w33 w34 w35 w36 w37 w38 w39 w40 w41 w42 w43 w44 w45 w46 w47 w48 w49 w50 m w1 w25 (fun p => some p)).bind k0 := by
  intro m
  induction m with
  | zero => intros; rfl
  | succ m ih =>
    intro w1 w25 k0
    exact sb72x0x21 N _ _ _ _ _ _ _ _ _ _ _ _ _ _ _ _ _ _ _ _ _ _ _ _ _ _ _ _ _ _ _ _ _ _ _ _ _ _ _ _ _ _ _ _ _ _ _ _ _ _ _ _ _ _ (fun w1 w25 => ih w1 w25 k0) (fun _ => rfl)
theorem one72x0x21 : oneB Try.prog 72 21 = true := by kernel_rfl
noncomputable def sh72x0x21 : Sh := { tmps := [(0, .c (.p 0 0)), (3, .c (.o 5)), (4, .c (.p 6 0)), (5, .c (.p 7 0)), (7, .c (.i .i64)), (8, .c (.i .i64))], mem := [(0, .box [.i .i64, .i .i64, .i .i64, .sl 66, .sl 68, .b, .b, .b, .b, .b, .b, .b, .b, .b, .b, .b, .b, .sl 3, .sl 3, .m 1]), (1, .map 106 59), (5, .row 3 true), (6, .box [.i .i64, .i .i64, .i .i64, .i .i64, .i .i64, .i .i64, .i .i64, .i .i64, .i .i64, .i .i64, .i .i64, .i .i64, .i .i64, .i .i64, .i .i64, .i .i64, .i .i64, .i .i64, .i .i64, .i .i64]), (7, .box [.i .i64, .i .i64, .i .i64])] }
noncomputable def K72x0x21w0 (L : List Lf) (p : Int × (List (D × D))) : Ex × St := ((.exit 2), ⟨[(0, .c (.p 0 0)), (3, .c (.o 5)), (4, .c (.p 6 0)), (8, .c (.i .i64 p.1))], [(0, .box [.i .i64 (li L 2), .i .i64 (li L 3), .i .i64 (li L 4), .sl 66 (lb L 5) (ll L 6), .sl 68 (lb L 7) (ll L 8), .b (lb L 9), .b (lb L 10), .b (lb L 11), .b (lb L 12), .b (lb L 13), .b (lb L 14), .b (lb L 15), .b (lb L 16), .b (lb L 17), .b (lb L 18), .b (lb L 19), .b (lb L 20), .sl 3 (lb L 21) (ll L 22), .sl 3 (lb L 23) (ll L 24), .m 1]), (1, .map 106 59 p.2), (5, .row 3 true (lb L 26) (ll L 27)), (6, .box [.i .i64 (li L 28), .i .i64 (li L 29), .i .i64 (li L 30), .i .i64 (li L 31), .i .i64 (li L 32), .i .i64 (li L 33), .i .i64 (li L 34), .i .i64 (li L 35), .i .i64 (li L 36), .i .i64 (li L 37), .i .i64 (li L 38), .i .i64 (li L 39), .i .i64 (li L 40), .i .i64 (li L 41), .i .i64 (li L 42), .i .i64 (li L 43), .i .i64 (li L 44), .i .i64 (li L 45), .i .i64 (li L 46), .i .i64 (li L 47)])]⟩)
noncomputable def A72x0x21 (N : Nat) (L : List Lf) : List (Bool × (Ex × St)) := bnd (G72x0x21 N (li L 0) (li L 2) (li L 3) (li L 4) (lb L 5) (ll L 6) (lb L 7) (ll L 8) (lb L 9) (lb L 10) (lb L 11) (lb L 12) (lb L 13) (lb L 14) (lb L 15) (lb L 16) (lb L 17) (lb L 18) (lb L 19) (lb L 20) (lb L 21) (ll L 22) (lb L 23) (ll L 24) (li L 28) (li L 29) (li L 30) (li L 31) (li L 32) (li L 33) (li L 34) (li L 35) (li L 36) (li L 37) (li L 38) (li L 39) (li L 40) (li L 41) (li L 42) (li L 43) (li L 44) (li L 45) (li L 46) (li L 47) (li L 48) (li L 49) (li L 50) (li L 1) (lm L 25)) fun q => [(q.isSome, K72x0x21w0 L (q.getD default))]
theorem eq72x0x21 (L : List Lf) : ofSh sh72x0x21 L = (P72x0x21 (li L 0) (li L 1) (li L 2) (li L 3) (li L 4) (lb L 5) (ll L 6) (lb L 7) (ll L 8) (lb L 9) (lb L 10) (lb L 11) (lb L 12) (lb L 13) (lb L 14) (lb L 15) (lb L 16) (lb L 17) (lb L 18) (lb L 19) (lb L 20) (lb L 21) (ll L 22) (lb L 23) (ll L 24) (lm L 25) (lb L 26) (ll L 27) (li L 28) (li L 29) (li L 30) (li L 31) (li L 32) (li L 33) (li L 34) (li L 35) (li L 36) (li L 37) (li L 38) (li L 39) (li L 40) (li L 41) (li L 42) (li L 43) (li L 44) (li L 45) (li L 46) (li L 47) (li L 48) (li L 49) (li L 50)) := by kernel_rfl
theorem law72x0x21 (N : Nat) : CutLaw Try.prog 2 (piece Try.prog 72 21) (loSh sh72x0x21 (A72x0x21 N)) :=
  law_shL progOk (T91x1_ok N) (al72x0s1 N) one72x0x21 lp72x0x21 eq72x0x21 fun L x hx => run72x0x21 N _ _ _ _ _ _ _ _ _ _ _ _ _ _ _ _ _ _ _ _ _ _ _ _ _ _ _ _ _ _ _ _ _ _ _ _ _ _ _ _ _ _ _ _ _ _ _ _ _ N _ _ x ((lbind72x0x21 N _ _ _ _ _ _ _ _ _ _ _ _ _ _ _ _ _ _ _ _ _ _ _ _ _ _ _ _ _ _ _ _ _ _ _ _ _ _ _ _ _ _ _ _ _ _ _ N _ _ _).trans (alt1 x hx))
noncomputable def h72x0s2 (N : Nat) : Hint := { (h72x0s1 N) with los := (21, loSh sh72x0x21 (A72x0x21 N)) :: (h72x0s1 N).los }
theorem al72x0s2 (N : Nat) : AllCuts Try.prog (h72x0s2 N).los 2 72 := AllCuts.cons (al72x0s1 N) one72x0x21 (law72x0x21 N)
noncomputable def P72x0x9 (w0 w1 w2 : Int) (w3 : Bool) (w4 : (List D)) (w5 : Bool) (w6 : (List D)) (w7 w8 w9 w10 w11 w12 w13 w14 w15 w16 w17 w18 w19 : Bool) (w20 : (List D)) (w21 : Bool) (w22 : (List D)) (w23 : (List (D × D))) (w24 : Bool) (w25 : (List D)) (w26 w27 w28 w29 w30 w31 w32 w33 w34 w35 w36 w37 w38 w39 w40 w41 w42 w43 w44 w45 : Int) : St := ⟨[(0, .c (.p 0 0)), (3, .c (.o 5)), (4, .c (.p 6 0))], [(0, .box [.i .i64 w0, .i .i64 w1, .i .i64 w2, .sl 66 w3 w4, .sl 68 w5 w6, .b w7, .b w8, .b w9, .b w10, .b w11, .b w12, .b w13, .b w14, .b w15, .b w16, .b w17, .b w18, .sl 3 w19 w20, .sl 3 w21 w22, .m 1]), (1, .map 106 59 w23), (5, .row 3 true w24 w25), (6, .box [.i .i64 w26, .i .i64 w27, .i .i64 w28, .i .i64 w29, .i .i64 w30, .i .i64 w31, .i .i64 w32, .i .i64 w33, .i .i64 w34, .i .i64 w35, .i .i64 w36, .i .i64 w37, .i .i64 w38, .i .i64 w39, .i .i64 w40, .i .i64 w41, .i .i64 w42, .i .i64 w43, .i .i64 w44, .i .i64 w45])]⟩
noncomputable def S72x0x9 (N : Nat) {R : Type} (w0 w1 w2 : Int) (w3 : Bool) (w4 : (List D)) (w5 : Bool) (w6 : (List D)) (w7 w8 w9 w10 w11 w12 w13 w14 w15 w16 w17 w18 w19 : Bool) (w20 : (List D)) (w21 : Bool) (w22 : (List D)) (w23 : (List (D × D))) (w24 : Bool) (w25 : (List D)) (w26 w27 w28 w29 w30 w31 w32 w33 w34 w35 w36 w37 w38 w39 w40 w41 w42 w43 w44 w45 : Int) (kr : (List (D × D)) → Bool → (List D) → Int → Int → Int → Int → Int → Int → Int → Int → Int → Int → Int → Int → Int → Int → Int → Int → Int → Int → Int → Int → Option R) (k0 : (List (D × D)) × Bool × (List D) → Option R) : Option R :=
  bif (decide (w26 < w1)) then
    bnd (R78x1 N N w26 w27 w28 w29 w30 w31 w32 w33 w34 w35 w36 w37 w38 w39 w40 w41 w42 w43 w44 w45 w0 w1 w2 w3 w4 w5 w6 w7 w8 w9 w10 w11 w12 w13 w14 w15 w16 w17 w18 w19 w20 w21 w22 w23) fun x73506784 =>
    bif x73506784.isSome then
      bnd (G89x0 N w26 w4 w20) fun x84736567 =>
      bif x84736567.isSome then
        bnd (G72x0x21 N (x84736567.getD default).2 w0 w1 w2 w3 w4 w5 w6 w7 w8 w9 w10 w11 w12 w13 w14 w15 w16 w17 w18 w19 w20 w21 w22 w26 w27 w28 w29 w30 w31 w32 w33 w34 w35 w36 w37 w38 w39 w40 w41 w42 w43 w44 w45 (x73506784.getD default).1 (x73506784.getD default).2.1 (x73506784.getD default).2.2.1 (x84736567.getD default).1 (x73506784.getD default).2.2.2) fun x61902584 =>
        bif x61902584.isSome then
          bif (decide ((w25.length + 1) * 8 ≤ room) && decide ((w25.length + 1) ≤ strMax)) then
            bnd (G88x0 N w26 w27 w28 w29 w30 w31 w32 w33 w34 w35 w36 w37 w38 w39 w40 w41 w42 w43 w44 w45 (x61902584.getD default).1 w0 w1 w4 w6 w7 w8 w9 w10 w11 w12 w13 w14 w15 w16 w17 w18) fun x7931937 =>
            bif x7931937.isSome then
              bnd (x7931937.getD default).2.2.2.2.2.2.2.2.2.2.2.2.2.2.2.2.2.2.1 fun x94389883 =>
              bnd (x7931937.getD default).2.2.2.2.2.2.2.2.2.2.2.2.2.2.2.2.2.2.2.1 fun x48805741 =>
              bnd (x7931937.getD default).2.2.2.2.2.2.2.2.2.2.2.2.2.2.2.2.2.2.2.2 fun x81558463 =>
              kr (x61902584.getD default).2 false (w25 ++ [(.i (x61902584.getD default).1)]) (x7931937.getD default).1 (x7931937.getD default).2.1 (x7931937.getD default).2.2.1 (x7931937.getD default).2.2.2.1 (x7931937.getD default).2.2.2.2.1 (x7931937.getD default).2.2.2.2.2.1 (x7931937.getD default).2.2.2.2.2.2.1 (x7931937.getD default).2.2.2.2.2.2.2.1 (x7931937.getD default).2.2.2.2.2.2.2.2.1 (x7931937.getD default).2.2.2.2.2.2.2.2.2.1 (x7931937.getD default).2.2.2.2.2.2.2.2.2.2.1 (x7931937.getD default).2.2.2.2.2.2.2.2.2.2.2.1 (x7931937.getD default).2.2.2.2.2.2.2.2.2.2.2.2.1 (x7931937.getD default).2.2.2.2.2.2.2.2.2.2.2.2.2.1 (x7931937.getD default).2.2.2.2.2.2.2.2.2.2.2.2.2.2.1 (x7931937.getD default).2.2.2.2.2.2.2.2.2.2.2.2.2.2.2.1 (x7931937.getD default).2.2.2.2.2.2.2.2.2.2.2.2.2.2.2.2.1 (x7931937.getD default).2.2.2.2.2.2.2.2.2.2.2.2.2.2.2.2.2.1 x94389883 x48805741
            else
              none
          else
            none
        else
          none
      else
        none
    else
      none
  else
    k0 (w23, w24, w25)
theorem mono72x0x9 (N : Nat) {R : Type} (w0 w1 w2 : Int) (w3 : Bool) (w4 : (List D)) (w5 : Bool) (w6 : (List D)) (w7 w8 w9 w10 w11 w12 w13 w14 w15 w16 w17 w18 w19 : Bool) (w20 : (List D)) (w21 : Bool) (w22 : (List D)) (w23 : (List (D × D))) (w24 : Bool) (w25 : (List D)) (w26 w27 w28 w29 w30 w31 w32 w33 w34 w35 w36 w37 w38 w39 w40 w41 w42 w43 w44 w45 : Int) {kr kr' : (List (D × D)) → Bool → (List D) → Int → Int → Int → Int → Int → Int → Int → Int → Int → Int → Int → Int → Int → Int → Int → Int → Int → Int → Int → Int → Option R} (k0 : (List (D × D)) × Bool × (List D) → Option R) {r : R} (hk : ∀ w23' w24' w25' w26' w27' w28' w29' w30' w31' w32' w33' w34' w35' w36' w37' w38' w39' w40' w41' w42' w43' w44' w45', kr w23' w24' w25' w26' w27' w28' w29' w30' w31' w32' w33' w34' w35' w36' w37' w38' w39' w40' w41' w42' w43' w44' w45' = some r → kr' w23' w24' w25' w26' w27' w28' w29' w30' w31' w32' w33' w34' w35' w36' w37' w38' w39' w40' w41' w42' w43' w44' w45' = some r) : S72x0x9 N w0 w1 w2 w3 w4 w5 w6 w7 w8 w9 w10 w11 w12 w13 w14 w15 w16 w17 w18 w19 w20 w21 w22 w23 w24 w25 w26 w27 w28 w29 w30 w31 w32 w33 w34 w35 w36 w37 w38 w39 w40 w41 w42 w43 w44 w45 kr k0 = some r → S72x0x9 N w0 w1 w2 w3 w4 w5 w6 w7 w8 w9 w10 w11 w12 w13 w14 w15 w16 w17 w18 w19 w20 w21 w22 w23 w24 w25 w26 w27 w28 w29 w30 w31 w32 w33 w34 w35 w36 w37 w38 w39 w40 w41 w42 w43 w44 w45 kr' k0 = some r := by
  unfold S72x0x9
  repeat' (first | exact hk _ _ _ _ _ _ _ _ _ _ _ _ _ _ _ _ _ _ _ _ _ _ _ | exact fun h => h | apply cond_mono | (apply bnd_mono; intro _))
noncomputable def L72x0x9 (N : Nat) {R : Type} (w0 w1 w2 : Int) (w3 : Bool) (w4 : (List D)) (w5 : Bool) (w6 : (List D)) (w7 w8 w9 w10 w11 w12 w13 w14 w15 w16 w17 w18 w19 : Bool) (w20 : (List D)) (w21 : Bool) (w22 : (List D)) : Nat → (List (D × D)) → Bool → (List D) → Int → Int → Int → Int → Int → Int → Int → Int → Int → Int → Int → Int → Int → Int → Int → Int → Int → Int → Int → Int → ((List (D × D)) × Bool × (List D) → Option R) → Option R
  | 0, _, _, _, _, _, _, _, _, _, _, _, _, _, _, _, _, _, _, _, _, _, _, _, _ => none
  | m + 1, w23, w24, w25, w26, w27, w28, w29, w30, w31, w32, w33, w34, w35, w36, w37, w38, w39, w40, w41, w42, w43, w44, w45, k0 => S72x0x9 N w0 w1 w2 w3 w4 w5 w6 w7 w8 w9 w10 w11 w12 w13 w14 w15 w16 w17 w18 w19 w20 w21 w22 w23 w24 w25 w26 w27 w28 w29 w30 w31 w32 w33 w34 w35 w36 w37 w38 w39 w40 w41 w42 w43 w44 w45 (fun w23 w24 w25 w26 w27 w28 w29 w30 w31 w32 w33 w34 w35 w36 w37 w38 w39 w40 w41 w42 w43 w44 w45 => L72x0x9 N w0 w1 w2 w3 w4 w5 w6 w7 w8 w9 w10 w11 w12 w13 w14 w15 w16 w17 w18 w19 w20 w21 w22 m w23 w24 w25 w26 w27 w28 w29 w30 w31 w32 w33 w34 w35 w36 w37 w38 w39 w40 w41 w42 w43 w44 w45 k0) k0
theorem lp72x0x9 : piece Try.prog 72 9 = .loop (loopB (piece Try.prog 72 9)) := by kernel_rfl
theorem nl72x0x9 (N : Nat) : lawOf (h72x0s2 N) (.loop (loopB (piece Try.prog 72 9))) = none := by kernel_rfl
theorem cl72x0x9 (N : Nat) (w0 w1 w2 : Int) (w3 : Bool) (w4 : (List D)) (w5 : Bool) (w6 : (List D)) (w7 w8 w9 w10 w11 w12 w13 w14 w15 w16 w17 w18 w19 : Bool) (w20 : (List D)) (w21 : Bool) (w22 : (List D)) (w23 : (List (D × D))) (w24 : Bool) (w25 : (List D)) (w26 w27 w28 w29 w30 w31 w32 w33 w34 w35 w36 w37 w38 w39 w40 w41 w42 w43 w44 w45 : Int) : clearSt Try.prog 2 (h72x0s2 N).loops 9 (P72x0x9 w0 w1 w2 w3 w4 w5 w6 w7 w8 w9 w10 w11 w12 w13 w14 w15 w16 w17 w18 w19 w20 w21 w22 w23 w24 w25 w26 w27 w28 w29 w30 w31 w32 w33 w34 w35 w36 w37 w38 w39 w40 w41 w42 w43 w44 w45) = (P72x0x9 w0 w1 w2 w3 w4 w5 w6 w7 w8 w9 w10 w11 w12 w13 w14 w15 w16 w17 w18 w19 w20 w21 w22 w23 w24 w25 w26 w27 w28 w29 w30 w31 w32 w33 w34 w35 w36 w37 w38 w39 w40 w41 w42 w43 w44 w45) := by kernel_rfl
theorem step72x0x9 (N : Nat) (m : Nat) (kn : St → Option (Ex × St)) (w0 w1 w2 : Int) (w3 : Bool) (w4 : (List D)) (w5 : Bool) (w6 : (List D)) (w7 w8 w9 w10 w11 w12 w13 w14 w15 w16 w17 w18 w19 : Bool) (w20 : (List D)) (w21 : Bool) (w22 : (List D)) (w23 : (List (D × D))) (w24 : Bool) (w25 : (List D)) (w26 w27 w28 w29 w30 w31 w32 w33 w34 w35 w36 w37 w38 w39 w40 w41 w42 w43 w44 w45 : Int) : exec Try.prog (T91x1 N) (h72x0s2 N) 2 (m + 100) (loopB (piece Try.prog 72 9)) (P72x0x9 w0 w1 w2 w3 w4 w5 w6 w7 w8 w9 w10 w11 w12 w13 w14 w15 w16 w17 w18 w19 w20 w21 w22 w23 w24 w25 w26 w27 w28 w29 w30 w31 w32 w33 w34 w35 w36 w37 w38 w39 w40 w41 w42 w43 w44 w45) (reK (fun st => kn (clearSt Try.prog 2 (h72x0s2 N).loops 9 st)) (fun e st => some (e, cutSt [2, 3] [5, 0, 1] st))) = S72x0x9 N w0 w1 w2 w3 w4 w5 w6 w7 w8 w9 w10 w11 w12 w13 w14 w15 w16 w17 w18 w19 w20 w21 w22 w23 w24 w25 w26 w27 w28 w29 w30 w31 w32 w33 w34 w35 w36 w37 w38 w39 w40 w41 w42 w43 w44 w45 (fun w23 w24 w25 w26 w27 w28 w29 w30 w31 w32 w33 w34 w35 w36 w37 w38 w39 w40 w41 w42 w43 w44 w45 => kn (P72x0x9 w0 w1 w2 w3 w4 w5 w6 w7 w8 w9 w10 w11 w12 w13 w14 w15 w16 w17 w18 w19 w20 w21 w22 w23 w24 w25 w26 w27 w28 w29 w30 w31 w32 w33 w34 w35 w36 w37 w38 w39 w40 w41 w42 w43 w44 w45)) (fun p => some ((.exit 0), ⟨[(3, .c (.o 5))], [(0, .box [.i .i64 w0, .i .i64 w1, .i .i64 w2, .sl 66 w3 w4, .sl 68 w5 w6, .b w7, .b w8, .b w9, .b w10, .b w11, .b w12, .b w13, .b w14, .b w15, .b w16, .b w17, .b w18, .sl 3 w19 w20, .sl 3 w21 w22, .m 1]), (1, .map 106 59 p.1), (5, .row 3 true p.2.1 p.2.2)]⟩)) := by kernel_rfl
theorem run72x0x9 (N : Nat) (w0 w1 w2 : Int) (w3 : Bool) (w4 : (List D)) (w5 : Bool) (w6 : (List D)) (w7 w8 w9 w10 w11 w12 w13 w14 w15 w16 w17 w18 w19 : Bool) (w20 : (List D)) (w21 : Bool) (w22 : (List D)) : ∀ (m : Nat) (w23 : (List (D × D))) (w24 : Bool) (w25 : (List D)) (w26 w27 w28 w29 w30 w31 w32 w33 w34 w35 w36 w37 w38 w39 w40 w41 w42 w43 w44 w45 : Int) (x : Ex × St), L72x0x9 N w0 w1 w2 w3 w4 w5 w6 w7 w8 w9 w10 w11 w12 w13 w14 w15 w16 w17 w18 w19 w20 w21 w22 m w23 w24 w25 w26 w27 w28 w29 w30 w31 w32 w33 w34 w35 w36 w37 w38 w39 w40 w41 w42 w43 w44 w45 (fun p => some ((.exit 0), ⟨[(3, .c (.o 5))], [(0, .box [.i .i64 w0, .i .i64 w1, .i .i64 w2, .sl 66 w3 w4, .sl 68 w5 w6, .b w7, .b w8, .b w9, .b w10, .b w11, .b w12, .b w13, .b w14, .b w15, .b w16, .b w17, .b w18, .sl 3 w19 w20, .sl 3 w21 w22, .m 1]), (1, .map 106 59 p.1), (5, .row 3 true p.2.1 p.2.2)]⟩)) = some x → exec Try.prog (T91x1 N) (h72x0s2 N) 2 (m + 101) (.loop (loopB (piece Try.prog 72 9))) (P72x0x9 w0 w1 w2 w3 w4 w5 w6 w7 w8 w9 w10 w11 w12 w13 w14 w15 w16 w17 w18 w19 w20 w21 w22 w23 w24 w25 w26 w27 w28 w29 w30 w31 w32 w33 w34 w35 w36 w37 w38 w39 w40 w41 w42 w43 w44 w45) (fun e st => some (e, cutSt [2, 3] [5, 0, 1] st)) = some x := by
  intro m
  induction m with
  | zero => intro w23 w24 w25 w26 w27 w28 w29 w30 w31 w32 w33 w34 w35 w36 w37 w38 w39 w40 w41 w42 w43 w44 w45 x h; cases h
  | succ m ih =>
    intro w23 w24 w25 w26 w27 w28 w29 w30 w31 w32 w33 w34 w35 w36 w37 w38 w39 w40 w41 w42 w43 w44 w45 x h
    exact loop_round (n := m + 101) (nl72x0x9 N) (by kernel_rfl) (cl72x0x9 N ..) (fun kn => step72x0x9 N (m + 1) kn ..) (mono72x0x9 N _ _ _ _ _ _ _ _ _ _ _ _ _ _ _ _ _ _ _ _ _ _ _ _ _ _ _ _ _ _ _ _ _ _ _ _ _ _ _ _ _ _ _ _ _ _ _ (fun w23 w24 w25 w26 w27 w28 w29 w30 w31 w32 w33 w34 w35 w36 w37 w38 w39 w40 w41 w42 w43 w44 w45 => ih w23 w24 w25 w26 w27 w28 w29 w30 w31 w32 w33 w34 w35 w36 w37 w38 w39 w40 w41 w42 w43 w44 w45 x) h)
noncomputable def G72x0x9 (N : Nat) (w0 w1 w2 : Int) (w3 : Bool) (w4 : (List D)) (w5 : Bool) (w6 : (List D)) (w7 w8 w9 w10 w11 w12 w13 w14 w15 w16 w17 w18 w19 : Bool) (w20 : (List D)) (w21 : Bool) (w22 : (List D)) (w23 : (List (D × D))) (w24 : Bool) (w25 : (List D)) (w26 w27 w28 w29 w30 w31 w32 w33 w34 w35 w36 w37 w38 w39 w40 w41 w42 w43 w44 w45 : Int) : Option ((List (D × D)) × Bool × (List D)) := L72x0x9 N (R := ((List (D × D)) × Bool × (List D))) w0 w1 w2 w3 w4 w5 w6 w7 w8 w9 w10 w11 w12 w13 w14 w15 w16 w17 w18 w19 w20 w21 w22 N w23 w24 w25 w26 w27 w28 w29 w30 w31 w32 w33 w34 w35 w36 w37 w38 w39 w40 w41 w42 w43 w44 w45 (fun p => some p)
theorem sb72x0x9 (N : Nat) {R A : Type} (w0 w1 w2 : Int) (w3 : Bool) (w4 : (List D)) (w5 : Bool) (w6 : (List D)) (w7 w8 w9 w10 w11 w12 w13 w14 w15 w16 w17 w18 w19 : Bool) (w20 : (List D)) (w21 : Bool) (w22 : (List D)) (w23 : (List (D × D))) (w24 : Bool) (w25 : (List D)) (w26 w27 w28 w29 w30 w31 w32 w33 w34 w35 w36 w37 w38 w39 w40 w41 w42 w43 w44 w45 : Int) (kr : (List (D × D)) → Bool → (List D) → Int → Int → Int → Int → Int → Int → Int → Int → Int → Int → Int → Int → Int → Int → Int → Int → Int → Int → Int → Int → Option R) (kr' : (List (D × D)) → Bool → (List D) → Int → Int → Int → Int → Int → Int → Int → Int → Int → Int → Int → Int → Int → Int → Int → Int → Int → Int → Int → Int → Option A) (k0 : (List (D × D)) × Bool × (List D) → Option R) (j0 : (List (D × D)) × Bool × (List D) → Option A) (K : A → Option R) (hr : ∀ w23' w24' w25' w26' w27' w28' w29' w30' w31' w32' w33' w34' w35' w36' w37' w38' w39' w40' w41' w42' w43' w44' w45', kr w23' w24' w25' w26' w27' w28' w29' w30' w31' w32' w33' w34' w35' w36' w37' w38' w39' w40' w41' w42' w43' w44' w45' = (kr' w23' w24' w25' w26' w27' w28' w29' w30' w31' w32' w33' w34' w35' w36' w37' w38' w39' w40' w41' w42' w43' w44' w45').bind K) (h0 : ∀ p, k0 p = (j0 p).bind K) : S72x0x9 N w0 w1 w2 w3 w4 w5 w6 w7 w8 w9 w10 w11 w12 w13 w14 w15 w16 w17 w18 w19 w20 w21 w22 w23 w24 w25 w26 w27 w28 w29 w30 w31 w32 w33 w34 w35 w36 w37 w38 w39 w40 w41 w42 w43 w44 w45 kr k0 = (S72x0x9 N w0 w1 w2 w3 w4 w5 w6 w7 w8 w9 w10 w11 w12 w13 w14 w15 w16 w17 w18 w19 w20 w21 w22 w23 w24 w25 w26 w27 w28 w29 w30 w31 w32 w33 w34 w35 w36 w37 w38 w39 w40 w41 w42 w43 w44 w45 kr' j0).bind K := by
  unfold S72x0x9
  repeat' (first | rfl | apply hr | apply h0 | apply cond_b | (apply bnd_b; intro _))
theorem lbind72x0x9 (N : Nat) {R : Type} (w0 w1 w2 : Int) (w3 : Bool) (w4 : (List D)) (w5 : Bool) (w6 : (List D)) (w7 w8 w9 w10 w11 w12 w13 w14 w15 w16 w17 w18 w19 : Bool) (w20 : (List D)) (w21 : Bool) (w22 : (List D)) : ∀ (m : Nat) (w23 : (List (D × D))) (w24 : Bool) (w25 : (List D)) (w26 w27 w28 w29 w30 w31 w32 w33 w34 w35 w36 w37 w38 w39 w40 w41 w42 w43 w44 w45 : Int) (k0 : (List (D × D)) × Bool × (List D) → Option R), L72x0x9 N w0 w1 w2 w3 w4 w5 w6 w7 w8 w9 w10 w11 w12 w13 w14 w15 w16 w17 w18 w19 w20 w21 w22 m w23 w24 w25 w26 w27 w28 w29 w30 w31 w32 w33 w34 w35 w36 w37 w38 w39 w40 w41 w42 w43 w44 w45 k0 = (L72x0x9 N (R := ((List (D × D)) × Bool × (List D))) w0 w1 w2 w3 w4 w5 w6 w7 w8 w9 w10 w11 w12 w13 w14 w15 w16 w17 w18 w19 w20 w21 w22 m w23 w24 w25 w26 w27 w28 w29 w30 w31 w32 w33 w34 w35 w36 w37 w38 w39 w40 w41 w42 w43 w44 w45 (fun p => some p)).bind k0 := by
  intro m
  induction m with
  | zero => intros; rfl
  | succ m ih =>
    intro w23 w24 w25 w26 w27 w28 w29 w30 w31 w32 w33 w34 w35 w36 w37 w38 w39 w40 w41 w42 w43 w44 w45 k0
    exact sb72x0x9 N _ _ _ _ _ _ _ _ _ _ _ _ _ _ _ _ _ _ _ _ _ _ _ _ _ _ _ _ _ _ _ _ _ _ _ _ _ _ _ _ _ _ _ _ _ _ _ _ _ _ _ (fun w23 w24 w25 w26 w27 w28 w29 w30 w31 w32 w33 w34 w35 w36 w37 w38 w39 w40 w41 w42 w43 w44 w45 => ih w23 w24 w25 w26 w27 w28 w29 w30 w31 w32 w33 w34 w35 w36 w37 w38 w39 w40 w41 w42 w43 w44 w45 k0) (fun _ => rfl)
theorem one72x0x9 : oneB Try.prog 72 9 = true := by kernel_rfl
noncomputable def sh72x0x9 : Sh := { tmps := [(0, .c (.p 0 0)), (3, .c (.o 5)), (4, .c (.p 6 0))], mem := [(0, .box [.i .i64, .i .i64, .i .i64, .sl 66, .sl 68, .b, .b, .b, .b, .b, .b, .b, .b, .b, .b, .b, .b, .sl 3, .sl 3, .m 1]), (1, .map 106 59), (5, .row 3 true), (6, .box [.i .i64, .i .i64, .i .i64, .i .i64, .i .i64, .i .i64, .i .i64, .i .i64, .i .i64, .i .i64, .i .i64, .i .i64, .i .i64, .i .i64, .i .i64, .i .i64, .i .i64, .i .i64, .i .i64, .i .i64])] }
noncomputable def K72x0x9w0 (L : List Lf) (p : (List (D × D)) × Bool × (List D)) : Ex × St := ((.exit 0), ⟨[(3, .c (.o 5))], [(0, .box [.i .i64 (li L 0), .i .i64 (li L 1), .i .i64 (li L 2), .sl 66 (lb L 3) (ll L 4), .sl 68 (lb L 5) (ll L 6), .b (lb L 7), .b (lb L 8), .b (lb L 9), .b (lb L 10), .b (lb L 11), .b (lb L 12), .b (lb L 13), .b (lb L 14), .b (lb L 15), .b (lb L 16), .b (lb L 17), .b (lb L 18), .sl 3 (lb L 19) (ll L 20), .sl 3 (lb L 21) (ll L 22), .m 1]), (1, .map 106 59 p.1), (5, .row 3 true p.2.1 p.2.2)]⟩)
noncomputable def A72x0x9 (N : Nat) (L : List Lf) : List (Bool × (Ex × St)) := bnd (G72x0x9 N (li L 0) (li L 1) (li L 2) (lb L 3) (ll L 4) (lb L 5) (ll L 6) (lb L 7) (lb L 8) (lb L 9) (lb L 10) (lb L 11) (lb L 12) (lb L 13) (lb L 14) (lb L 15) (lb L 16) (lb L 17) (lb L 18) (lb L 19) (ll L 20) (lb L 21) (ll L 22) (lm L 23) (lb L 24) (ll L 25) (li L 26) (li L 27) (li L 28) (li L 29) (li L 30) (li L 31) (li L 32) (li L 33) (li L 34) (li L 35) (li L 36) (li L 37) (li L 38) (li L 39) (li L 40) (li L 41) (li L 42) (li L 43) (li L 44) (li L 45)) fun q => [(q.isSome, K72x0x9w0 L (q.getD default))]
theorem eq72x0x9 (L : List Lf) : ofSh sh72x0x9 L = (P72x0x9 (li L 0) (li L 1) (li L 2) (lb L 3) (ll L 4) (lb L 5) (ll L 6) (lb L 7) (lb L 8) (lb L 9) (lb L 10) (lb L 11) (lb L 12) (lb L 13) (lb L 14) (lb L 15) (lb L 16) (lb L 17) (lb L 18) (lb L 19) (ll L 20) (lb L 21) (ll L 22) (lm L 23) (lb L 24) (ll L 25) (li L 26) (li L 27) (li L 28) (li L 29) (li L 30) (li L 31) (li L 32) (li L 33) (li L 34) (li L 35) (li L 36) (li L 37) (li L 38) (li L 39) (li L 40) (li L 41) (li L 42) (li L 43) (li L 44) (li L 45)) := by kernel_rfl
theorem law72x0x9 (N : Nat) : CutLaw Try.prog 2 (piece Try.prog 72 9) (loSh sh72x0x9 (A72x0x9 N)) :=
  law_shL progOk (T91x1_ok N) (al72x0s2 N) one72x0x9 lp72x0x9 eq72x0x9 fun L x hx => run72x0x9 N _ _ _ _ _ _ _ _ _ _ _ _ _ _ _ _ _ _ _ _ _ _ _ N _ _ _ _ _ _ _ _ _ _ _ _ _ _ _ _ _ _ _ _ _ _ _ x ((lbind72x0x9 N _ _ _ _ _ _ _ _ _ _ _ _ _ _ _ _ _ _ _ _ _ _ _ N _ _ _ _ _ _ _ _ _ _ _ _ _ _ _ _ _ _ _ _ _ _ _ _).trans (alt1 x hx))
noncomputable def h72x0s3 (N : Nat) : Hint := { (h72x0s2 N) with los := (9, loSh sh72x0x9 (A72x0x9 N)) :: (h72x0s2 N).los }
theorem al72x0s3 (N : Nat) : AllCuts Try.prog (h72x0s3 N).los 2 72 := AllCuts.cons (al72x0s2 N) one72x0x9 (law72x0x9 N)
noncomputable def F72x0 (N : Nat) {R : Type} (v0 v1 v2 : Int) (v3 : Bool) (v4 : (List D)) (v5 : Bool) (v6 : (List D)) (v7 v8 v9 v10 v11 v12 v13 v14 v15 v16 v17 v18 v19 : Bool) (v20 : (List D)) (v21 : Bool) (v22 : (List D)) (v23 : (List (D × D))) (k0 : Bool × (List D) × (List (D × D)) → Option R) : Option R :=
  bnd (G72x0x9 N v0 v1 v2 v3 v4 v5 v6 v7 v8 v9 v10 v11 v12 v13 v14 v15 v16 v17 v18 v19 v20 v21 v22 v23 true [] 0 0 v2 0 0 0 0 0 0 0 0 0 0 0 0 0 0 0 0 0) fun x54124306 =>
  bif x54124306.isSome then
    k0 ((x54124306.getD default).2.1, (x54124306.getD default).2.2, (x54124306.getD default).1)
  else
    none
noncomputable def G72x0 (N : Nat) (v0 v1 v2 : Int) (v3 : Bool) (v4 : (List D)) (v5 : Bool) (v6 : (List D)) (v7 v8 v9 v10 v11 v12 v13 v14 v15 v16 v17 v18 v19 : Bool) (v20 : (List D)) (v21 : Bool) (v22 : (List D)) (v23 : (List (D × D))) : Option (Bool × (List D) × (List (D × D))) := F72x0 N v0 v1 v2 v3 v4 v5 v6 v7 v8 v9 v10 v11 v12 v13 v14 v15 v16 v17 v18 v19 v20 v21 v22 v23 (fun p => some p)
theorem bind72x0 (N : Nat) {R : Type} (v0 v1 v2 : Int) (v3 : Bool) (v4 : (List D)) (v5 : Bool) (v6 : (List D)) (v7 v8 v9 v10 v11 v12 v13 v14 v15 v16 v17 v18 v19 : Bool) (v20 : (List D)) (v21 : Bool) (v22 : (List D)) (v23 : (List (D × D))) (k0 : Bool × (List D) × (List (D × D)) → Option R) : F72x0 N v0 v1 v2 v3 v4 v5 v6 v7 v8 v9 v10 v11 v12 v13 v14 v15 v16 v17 v18 v19 v20 v21 v22 v23 k0 = (G72x0 N v0 v1 v2 v3 v4 v5 v6 v7 v8 v9 v10 v11 v12 v13 v14 v15 v16 v17 v18 v19 v20 v21 v22 v23).bind k0 := by
  unfold G72x0 F72x0
  repeat' (first | rfl | apply cond_b | (apply bnd_b; intro _))
noncomputable def J72x0 (N : Nat) (L : List Lf) {R : Type} (k0 : Bool × (List D) × (List (D × D)) → Option R) : Option R := F72x0 N (li L 0) (li L 1) (li L 2) (lb L 3) (ll L 4) (lb L 5) (ll L 6) (lb L 7) (lb L 8) (lb L 9) (lb L 10) (lb L 11) (lb L 12) (lb L 13) (lb L 14) (lb L 15) (lb L 16) (lb L 17) (lb L 18) (lb L 19) (ll L 20) (lb L 21) (ll L 22) (lm L 23) k0
noncomputable def sh72x0 : Sh := { tmps := [(0, .c (.p 0 0))], mem := [(0, .box [.i .i64, .i .i64, .i .i64, .sl 66, .sl 68, .b, .b, .b, .b, .b, .b, .b, .b, .b, .b, .b, .b, .sl 3, .sl 3, .m 1]), (1, .map 106 59)] }
noncomputable def K72x0w0 (L : List Lf) (p : Bool × (List D) × (List (D × D))) : Res := ([.c (.sl 3 p.1 p.2.1)], [(0, .box [.i .i64 (li L 0), .i .i64 (li L 1), .i .i64 (li L 2), .sl 66 (lb L 3) (ll L 4), .sl 68 (lb L 5) (ll L 6), .b (lb L 7), .b (lb L 8), .b (lb L 9), .b (lb L 10), .b (lb L 11), .b (lb L 12), .b (lb L 13), .b (lb L 14), .b (lb L 15), .b (lb L 16), .b (lb L 17), .b (lb L 18), .sl 3 (lb L 19) (ll L 20), .sl 3 (lb L 21) (ll L 22), .m 1]), (1, .map 106 59 p.2.2)])
noncomputable def A72x0 (N : Nat) (L : List Lf) : List (Bool × Res) := bnd (J72x0 N L (fun p => some p)) fun q => [(q.isSome, K72x0w0 L (q.getD default))]
theorem raw72x0 (N : Nat) (L : List Lf) : (body Try.prog (T91x1 N) (h72x0s3 N) 200 72 (valsOf (ofSh sh72x0 L).tmps) (ofSh sh72x0 L).mem : Option Res) = J72x0 N L (fun p => some (K72x0w0 L p)) := by kernel_rfl
theorem ok72x0 (N : Nat) : ∀ args mem alts, spSh sh72x0 (A72x0 N) args mem = some alts → ∀ res, altK alts some = some res → CallOk Try.prog 72 args mem res :=
  spSh_law fun L x hx => callOk_of (n := 200) progOk (T91x1_ok N) (al72x0s3 N) rfl ((raw72x0 N L).trans ((bind72x0 N ..).trans (alt1 x hx)))
noncomputable def T72x0 (N : Nat) : Oracle := ext 72 (spSh sh72x0 (A72x0 N)) (T91x1 N)
theorem T72x0_ok (N : Nat) : OracleOk Try.prog (T72x0 N) := ext_ok (T91x1_ok N) (enters_of (by kernel_rfl)) (ok72x0 N)
noncomputable def rg43x0 : List (Nat × List Nat) := [(0, [0, 1, 2]), (1, [3, 1, 2]), (2, [9, 3, 1, 2]), (3, [9]), (4, [3, 1, 2]), (5, [11, 10]), (6, []), (7, [10])]
noncomputable def hd43x0 : Hints := []
noncomputable def h43x0s0 (N : Nat) : Hint := { loops := hd43x0, regs := rg43x0, los := [] }
theorem al43x0s0 (N : Nat) : AllCuts Try.prog (h43x0s0 N).los 0 43 := AllCuts.nil
noncomputable def F43x0 (N : Nat) {R : Type} (v0 v1 v2 : Int) (v3 : Bool) (v4 : (List D)) (v5 : Bool) (v6 : (List D)) (v7 : Bool) (v8 : (List D)) (v9 : Bool) (v10 : (List D)) (k0 : Bool × (List D) × Bool × Int → Option R) : Option R :=
  bnd (G46x0 N v0 v1 v2 v4 v6 v8) fun x46621314 =>
  bif x46621314.isSome then
    bif ((x46621314.getD default) != 0) then
      k0 (true, [], false, (x46621314.getD default))
    else
      bnd (G47x0 N v0 v1 v2 v3 v4 v5 v6 false false false false false false false false false false false false v7 v8 v9 v10) fun x7580834 =>
      bif x7580834.isSome then
        bif ((x7580834.getD default).1 == 0) then
          k0 (true, [], false, 0)
        else
          bnd (G72x0 N v0 v1 v2 v3 v4 v5 v6 false false false false false false false false false false false false v7 v8 v9 v10 (x7580834.getD default).2.2.2) fun x53357615 =>
          bif x53357615.isSome then
            k0 ((x53357615.getD default).1, (x53357615.getD default).2.1, true, 0)
          else
            none
      else
        none
  else
    none
noncomputable def G43x0 (N : Nat) (v0 v1 v2 : Int) (v3 : Bool) (v4 : (List D)) (v5 : Bool) (v6 : (List D)) (v7 : Bool) (v8 : (List D)) (v9 : Bool) (v10 : (List D)) : Option (Bool × (List D) × Bool × Int) := F43x0 N v0 v1 v2 v3 v4 v5 v6 v7 v8 v9 v10 (fun p => some p)
theorem bind43x0 (N : Nat) {R : Type} (v0 v1 v2 : Int) (v3 : Bool) (v4 : (List D)) (v5 : Bool) (v6 : (List D)) (v7 : Bool) (v8 : (List D)) (v9 : Bool) (v10 : (List D)) (k0 : Bool × (List D) × Bool × Int → Option R) : F43x0 N v0 v1 v2 v3 v4 v5 v6 v7 v8 v9 v10 k0 = (G43x0 N v0 v1 v2 v3 v4 v5 v6 v7 v8 v9 v10).bind k0 := by
  unfold G43x0 F43x0
  repeat' (first | rfl | apply cond_b | (apply bnd_b; intro _))
noncomputable def J43x0 (N : Nat) (L : List Lf) {R : Type} (k0 : Bool × (List D) × Bool × Int → Option R) : Option R := F43x0 N (li L 0) (li L 1) (li L 2) (lb L 3) (ll L 4) (lb L 5) (ll L 6) (lb L 7) (ll L 8) (lb L 9) (ll L 10) k0
noncomputable def sh43x0 : Sh := { tmps := [(0, .g [.i .i64, .i .i64, .i .i64, .sl 66, .sl 68]), (1, .c (.sl 3)), (2, .c (.sl 3))], mem := [] }
noncomputable def K43x0w0 (L : List Lf) (p : Bool × (List D) × Bool × Int) : Res := ([.c (.sl 3 p.1 p.2.1), .c (.b p.2.2.1), .c (.i .i64 p.2.2.2)], [])
noncomputable def A43x0 (N : Nat) (L : List Lf) : List (Bool × Res) := bnd (J43x0 N L (fun p => some p)) fun q => [(q.isSome, K43x0w0 L (q.getD default))]
theorem raw43x0 (N : Nat) (L : List Lf) : (body Try.prog (T72x0 N) (h43x0s0 N) 200 43 (valsOf (ofSh sh43x0 L).tmps) (ofSh sh43x0 L).mem : Option Res) = J43x0 N L (fun p => some (K43x0w0 L p)) := by kernel_rfl
theorem ok43x0 (N : Nat) : ∀ args mem alts, spSh sh43x0 (A43x0 N) args mem = some alts → ∀ res, altK alts some = some res → CallOk Try.prog 43 args mem res :=
  spSh_law fun L x hx => callOk_of (n := 200) progOk (T72x0_ok N) (al43x0s0 N) rfl ((raw43x0 N L).trans ((bind43x0 N ..).trans (alt1 x hx)))
noncomputable def T43x0 (N : Nat) : Oracle := ext 43 (spSh sh43x0 (A43x0 N)) (T72x0 N)
theorem T43x0_ok (N : Nat) : OracleOk Try.prog (T43x0 N) := ext_ok (T72x0_ok N) (enters_of (by kernel_rfl)) (ok43x0 N)
noncomputable def rg11x0 : List (Nat × List Nat) := [(0, [0, 1]), (1, [2, 1])]
noncomputable def hd11x0 : Hints := []
noncomputable def h11x0s0 (N : Nat) : Hint := { loops := hd11x0, regs := rg11x0, los := [] }
theorem al11x0s0 (N : Nat) : AllCuts Try.prog (h11x0s0 N).los 0 11 := AllCuts.nil
noncomputable def F11x0 (N : Nat) {R : Type} (v0 v1 v2 : Int) (v3 : Bool) (v4 : (List D)) (v5 : Bool) (v6 : (List D)) (v7 : Bool) (v8 : (List D)) (k0 : Bool × (List D) × Bool × Int → Option R) : Option R :=
  bnd (G43x0 N v0 v1 v2 v3 v4 v5 v6 v7 v8 true []) fun x5630889 =>
  bif x5630889.isSome then
    k0 ((x5630889.getD default).1, (x5630889.getD default).2.1, (x5630889.getD default).2.2.1, (x5630889.getD default).2.2.2)
  else
    none
noncomputable def G11x0 (N : Nat) (v0 v1 v2 : Int) (v3 : Bool) (v4 : (List D)) (v5 : Bool) (v6 : (List D)) (v7 : Bool) (v8 : (List D)) : Option (Bool × (List D) × Bool × Int) := F11x0 N v0 v1 v2 v3 v4 v5 v6 v7 v8 (fun p => some p)
theorem bind11x0 (N : Nat) {R : Type} (v0 v1 v2 : Int) (v3 : Bool) (v4 : (List D)) (v5 : Bool) (v6 : (List D)) (v7 : Bool) (v8 : (List D)) (k0 : Bool × (List D) × Bool × Int → Option R) : F11x0 N v0 v1 v2 v3 v4 v5 v6 v7 v8 k0 = (G11x0 N v0 v1 v2 v3 v4 v5 v6 v7 v8).bind k0 := by
  unfold G11x0 F11x0
  repeat' (first | rfl | apply cond_b | (apply bnd_b; intro _))
noncomputable def J11x0 (N : Nat) (L : List Lf) {R : Type} (k0 : Bool × (List D) × Bool × Int → Option R) : Option R := F11x0 N (li L 0) (li L 1) (li L 2) (lb L 3) (ll L 4) (lb L 5) (ll L 6) (lb L 7) (ll L 8) k0
noncomputable def sh11x0 : Sh := { tmps := [(0, .g [.i .i64, .i .i64, .i .i64, .sl 66, .sl 68]), (1, .c (.sl 3))], mem := [] }
noncomputable def K11x0w0 (L : List Lf) (p : Bool × (List D) × Bool × Int) : Res := ([.c (.sl 3 p.1 p.2.1), .c (.b p.2.2.1), .c (.i .i64 p.2.2.2)], [])
noncomputable def A11x0 (N : Nat) (L : List Lf) : List (Bool × Res) := bnd (J11x0 N L (fun p => some p)) fun q => [(q.isSome, K11x0w0 L (q.getD default))]
theorem raw11x0 (N : Nat) (L : List Lf) : (body Try.prog (T43x0 N) (h11x0s0 N) 200 11 (valsOf (ofSh sh11x0 L).tmps) (ofSh sh11x0 L).mem : Option Res) = J11x0 N L (fun p => some (K11x0w0 L p)) := by kernel_rfl
theorem ok11x0 (N : Nat) : ∀ args mem alts, spSh sh11x0 (A11x0 N) args mem = some alts → ∀ res, altK alts some = some res → CallOk Try.prog 11 args mem res :=
  spSh_law fun L x hx => callOk_of (n := 200) progOk (T43x0_ok N) (al11x0s0 N) rfl ((raw11x0 N L).trans ((bind11x0 N ..).trans (alt1 x hx)))
noncomputable def T11x0 (N : Nat) : Oracle := ext 11 (spSh sh11x0 (A11x0 N)) (T43x0 N)
theorem T11x0_ok (N : Nat) : OracleOk Try.prog (T11x0 N) := ext_ok (T43x0_ok N) (enters_of (by kernel_rfl)) (ok11x0 N)
noncomputable def rg15x0 : List (Nat × List Nat) := [(0, [0, 1]), (1, [0, 1]), (2, []), (3, [0, 1]), (4, [13, 12, 0, 1]), (5, [13, 0, 1, 12]), (6, [0, 5, 1, 13, 12]), (7, []), (8, [13, 12, 0, 1]), (9, [])]
noncomputable def hd15x0 : Hints := [(12, [13, 12, 0, 1], [], [])]
noncomputable def h15x0s0 (N : Nat) : Hint := { loops := hd15x0, regs := rg15x0, los := [] }
theorem al15x0s0 (N : Nat) : AllCuts Try.prog (h15x0s0 N).los 0 15 := AllCuts.nil
noncomputable def P15x0x12 (w0 : Bool) (w1 : (List D)) (w2 : Bool) (w3 : (List D)) (w4 w5 : Int) : St := ⟨[(0, .c (.sl 3 w0 w1)), (1, .c (.sl 3 w2 w3)), (12, .c (.i .i64 w4)), (13, .c (.i .i64 w5))], []⟩
noncomputable def S15x0x12 (N : Nat) {R : Type} (w1 w3 : (List D)) (w4 : Int) (w5 : Int) (kr : Int → Option R) (k0 : Unit → Option R) (k1 : Unit → Option R) : Option R :=
  bif (decide (w5 < w4)) then
    bif (inB w5 w1.length) then
      bif (inB w5 w3.length) then
        bnd ((w1.getD w5.toNat (.i 0)).toI != (w3.getD w5.toNat (.i 0)).toI) fun x9963677 =>
        bif x9963677 then
          k0 ()
        else
          kr (IntKind.wrap .i64 (w5 + 1))
      else
        none
    else
      none
  else
    k1 ()
theorem mono15x0x12 (N : Nat) {R : Type} (w1 w3 : (List D)) (w4 : Int) (w5 : Int) {kr kr' : Int → Option R} (k0 : Unit → Option R) (k1 : Unit → Option R) {r : R} (hk : ∀ w5', kr w5' = some r → kr' w5' = some r) : S15x0x12 N w1 w3 w4 w5 kr k0 k1 = some r → S15x0x12 N w1 w3 w4 w5 kr' k0 k1 = some r := by
  unfold S15x0x12
  repeat' (first | exact hk _ | exact fun h => h | apply cond_mono | (apply bnd_mono; intro _))
noncomputable def L15x0x12 (N : Nat) {R : Type} (w1 w3 : (List D)) (w4 : Int) : Nat → Int → (Unit → Option R) → (Unit → Option R) → Option R
  | 0, _, _, _ => none
  | m + 1, w5, k0, k1 => S15x0x12 N w1 w3 w4 w5 (fun w5 => L15x0x12 N w1 w3 w4 m w5 k0 k1) k0 k1
theorem lp15x0x12 : piece Try.prog 15 12 = .loop (loopB (piece Try.prog 15 12)) := by kernel_rfl
theorem nl15x0x12 (N : Nat) : lawOf (h15x0s0 N) (.loop (loopB (piece Try.prog 15 12))) = none := by kernel_rfl
theorem cl15x0x12 (N : Nat) (w0 : Bool) (w1 : (List D)) (w2 : Bool) (w3 : (List D)) (w4 : Int) (w5 : Int) : clearSt Try.prog 0 (h15x0s0 N).loops 12 (P15x0x12 w0 w1 w2 w3 w4 w5) = (P15x0x12 w0 w1 w2 w3 w4 w5) := by kernel_rfl
theorem step15x0x12 (N : Nat) (m : Nat) (kn : St → Option (Ex × St)) (w0 : Bool) (w1 : (List D)) (w2 : Bool) (w3 : (List D)) (w4 : Int) (w5 : Int) : exec Try.prog (T11x0 N) (h15x0s0 N) 0 (m + 100) (loopB (piece Try.prog 15 12)) (P15x0x12 w0 w1 w2 w3 w4 w5) (reK (fun st => kn (clearSt Try.prog 0 (h15x0s0 N).loops 12 st)) (fun e st => some (e, cutSt [4] [] st))) = S15x0x12 N w1 w3 w4 w5 (fun w5 => kn (P15x0x12 w0 w1 w2 w3 w4 w5)) (fun p => some (.ret, ⟨[(4, .c (.b false))], []⟩)) (fun p => some ((.exit 0), ⟨[], []⟩)) := by kernel_rfl
theorem run15x0x12 (N : Nat) (w0 : Bool) (w1 : (List D)) (w2 : Bool) (w3 : (List D)) (w4 : Int) : ∀ (m : Nat) (w5 : Int) (x : Ex × St), L15x0x12 N w1 w3 w4 m w5 (fun p => some (.ret, ⟨[(4, .c (.b false))], []⟩)) (fun p => some ((.exit 0), ⟨[], []⟩)) = some x → exec Try.prog (T11x0 N) (h15x0s0 N) 0 (m + 101) (.loop (loopB (piece Try.prog 15 12))) (P15x0x12 w0 w1 w2 w3 w4 w5) (fun e st => some (e, cutSt [4] [] st)) = some x := by
  intro m
  induction m with
  | zero => intro w5 x h; cases h
  | succ m ih =>
    intro w5 x h
    exact loop_round (n := m + 101) (nl15x0x12 N) (by kernel_rfl) (cl15x0x12 N ..) (fun kn => step15x0x12 N (m + 1) kn ..) (mono15x0x12 N _ _ _ _ _ _ (fun w5 => ih w5 x) h)
noncomputable def G15x0x12 (N : Nat) (w1 w3 : (List D)) (w4 : Int) (w5 : Int) : Option (Sum (Unit) (Unit)) := L15x0x12 N (R := (Sum (Unit) (Unit))) w1 w3 w4 N w5 (fun p => some (.inl p)) (fun p => some (.inr p))
theorem sb15x0x12 (N : Nat) {R A : Type} (w1 w3 : (List D)) (w4 : Int) (w5 : Int) (kr : Int → Option R) (kr' : Int → Option A) (k0 : Unit → Option R) (k1 : Unit → Option R) (j0 : Unit → Option A) (j1 : Unit → Option A) (K : A → Option R) (hr : ∀ w5', kr w5' = (kr' w5').bind K) (h0 : ∀ p, k0 p = (j0 p).bind K) (h1 : ∀ p, k1 p = (j1 p).bind K) : S15x0x12 N w1 w3 w4 w5 kr k0 k1 = (S15x0x12 N w1 w3 w4 w5 kr' j0 j1).bind K := by
  unfold S15x0x12
  repeat' (first | rfl | apply hr | apply h0 | apply h1 | apply cond_b | (apply bnd_b; intro _))
theorem lbind15x0x12 (N : Nat) {R : Type} (w1 w3 : (List D)) (w4 : Int) : ∀ (m : Nat) (w5 : Int) (k0 : Unit → Option R) (k1 : Unit → Option R), L15x0x12 N w1 w3 w4 m w5 k0 k1 = (L15x0x12 N (R := (Sum (Unit) (Unit))) w1 w3 w4 m w5 (fun p => some (.inl p)) (fun p => some (.inr p))).bind (sumE k0 k1) := by
  intro m
  induction m with
  | zero => intros; rfl
  | succ m ih =>
    intro w5 k0 k1
    exact sb15x0x12 N _ _ _ _ _ _ _ _ _ _ _ (fun w5 => ih w5 k0 k1) (fun _ => rfl) (fun _ => rfl)
theorem one15x0x12 : oneB Try.prog 15 12 = true := by kernel_rfl
noncomputable def sh15x0x12 : Sh := { tmps := [(0, .c (.sl 3)), (1, .c (.sl 3)), (12, .c (.i .i64)), (13, .c (.i .i64))], mem := [] }
noncomputable def A15x0x12 (N : Nat) (L : List Lf) : List (Bool × (Ex × St)) := bnd (G15x0x12 N (ll L 1) (ll L 3) (li L 4) (li L 5)) fun q => [((inlB q), (.ret, ⟨[(4, .c (.b false))], []⟩)), ((inrQ q).isSome, ((.exit 0), ⟨[], []⟩))]
theorem eq15x0x12 (L : List Lf) : ofSh sh15x0x12 L = (P15x0x12 (lb L 0) (ll L 1) (lb L 2) (ll L 3) (li L 4) (li L 5)) := by kernel_rfl
theorem law15x0x12 (N : Nat) : CutLaw Try.prog 0 (piece Try.prog 15 12) (loSh sh15x0x12 (A15x0x12 N)) :=
  law_shL progOk (T11x0_ok N) (al15x0s0 N) one15x0x12 lp15x0x12 eq15x0x12 fun L x hx => run15x0x12 N _ _ _ _ _ N _ x ((lbind15x0x12 N _ _ _ N _ _ _).trans ((altS alt1) x hx))
noncomputable def h15x0s1 (N : Nat) : Hint := { (h15x0s0 N) with los := (12, loSh sh15x0x12 (A15x0x12 N)) :: (h15x0s0 N).los }
theorem al15x0s1 (N : Nat) : AllCuts Try.prog (h15x0s1 N).los 0 15 := AllCuts.cons (al15x0s0 N) one15x0x12 (law15x0x12 N)
noncomputable def F15x0 (N : Nat) {R : Type} (v1 v3 : (List D)) (k0 : Bool → Option R) : Option R :=
  bif ((v1.length : Int) != (v3.length : Int)) then
    k0 false
  else
    bnd (G15x0x12 N v1 v3 (v1.length : Int) 0) fun x39323196 =>
    bif (inlB x39323196) then
      k0 false
    else
      bif (inrQ x39323196).isSome then
        k0 true
      else
        none
noncomputable def G15x0 (N : Nat) (v1 v3 : (List D)) : Option (Bool) := F15x0 N v1 v3 (fun p => some p)
theorem bind15x0 (N : Nat) {R : Type} (v1 v3 : (List D)) (k0 : Bool → Option R) : F15x0 N v1 v3 k0 = (G15x0 N v1 v3).bind k0 := by
  unfold G15x0 F15x0
  repeat' (first | rfl | apply cond_b | (apply bnd_b; intro _))
noncomputable def sh15x0 : Sh := { tmps := [(0, .c (.sl 3)), (1, .c (.sl 3))], mem := [] }
noncomputable def A15x0 (N : Nat) (L : List Lf) : List (Bool × Res) := bnd (F15x0 N (ll L 1) (ll L 3) (fun p => some p)) fun q => [(q.isSome, ([.c (.b (q.getD default))], []))]
theorem raw15x0 (N : Nat) (L : List Lf) : (body Try.prog (T11x0 N) (h15x0s1 N) 200 15 (valsOf (ofSh sh15x0 L).tmps) (ofSh sh15x0 L).mem : Option Res) = F15x0 N (ll L 1) (ll L 3) (fun p => some ([.c (.b p)], [])) := by kernel_rfl
theorem ok15x0 (N : Nat) : ∀ args mem alts, spSh sh15x0 (A15x0 N) args mem = some alts → ∀ res, altK alts some = some res → CallOk Try.prog 15 args mem res :=
  spSh_law fun L x hx => callOk_of (n := 200) progOk (T11x0_ok N) (al15x0s1 N) rfl ((raw15x0 N L).trans ((bind15x0 N ..).trans (alt1 x hx)))
noncomputable def T15x0 (N : Nat) : Oracle := ext 15 (spSh sh15x0 (A15x0 N)) (T11x0 N)
theorem T15x0_ok (N : Nat) : OracleOk Try.prog (T15x0 N) := ext_ok (T11x0_ok N) (enters_of (by kernel_rfl)) (ok15x0 N)
noncomputable def rg16x0 : List (Nat × List Nat) := [(0, []), (1, []), (2, [1]), (3, [4, 3, 2])]
noncomputable def hd16x0 : Hints := [(10, [4, 3, 2], [], [])]
noncomputable def h16x0s0 (N : Nat) : Hint := { loops := hd16x0, regs := rg16x0, los := [] }
theorem al16x0s0 (N : Nat) : AllCuts Try.prog (h16x0s0 N).los 0 16 := AllCuts.nil
noncomputable def F16x0x10 (N : Nat) {R : Type} (w1 : (List D)) (w2 : Bool) (w3 : Int) (k0 : Bool → Option R) : Option R :=
  bif (bif (w3 == 0) then w2 else false) then
    bnd (G15x0 N w1 [(.i 0), (.i (-1)), (.i 0)]) fun x2088785 =>
    bif x2088785.isSome then
      k0 (x2088785.getD default)
    else
      none
  else
    k0 false
noncomputable def G16x0x10 (N : Nat) (w1 : (List D)) (w2 : Bool) (w3 : Int) : Option (Bool) := F16x0x10 N w1 w2 w3 (fun p => some p)
theorem bind16x0x10 (N : Nat) {R : Type} (w1 : (List D)) (w2 : Bool) (w3 : Int) (k0 : Bool → Option R) : F16x0x10 N w1 w2 w3 k0 = (G16x0x10 N w1 w2 w3).bind k0 := by
  unfold G16x0x10 F16x0x10
  repeat' (first | rfl | apply cond_b | (apply bnd_b; intro _))
noncomputable def sh16x0x10 : Sh := { tmps := [(2, .c (.sl 3)), (3, .c (.b)), (4, .c (.i .i64))], mem := [] }
noncomputable def A16x0x10 (N : Nat) (L : List Lf) : List (Bool × (Ex × St)) := bnd (F16x0x10 N (ll L 1) (lb L 2) (li L 3) (fun p => some p)) fun q => [(q.isSome, (.normal, ⟨[(0, .c (.b (q.getD default)))], []⟩))]
theorem raw16x0x10 (N : Nat) (L : List Lf) : (exec Try.prog (T15x0 N) (h16x0s0 N) 0 100 (piece Try.prog 16 10) (ofSh sh16x0x10 L) (fun e st => some (e, cutSt [0] [] st)) : Option (Ex × St)) = F16x0x10 N (ll L 1) (lb L 2) (li L 3) (fun p => some (.normal, ⟨[(0, .c (.b p))], []⟩)) := by kernel_rfl
theorem one16x0x10 : oneB Try.prog 16 10 = true := by kernel_rfl
theorem law16x0x10 (N : Nat) : CutLaw Try.prog 0 (piece Try.prog 16 10) (loSh sh16x0x10 (A16x0x10 N)) :=
  law_sh progOk (T15x0_ok N) (al16x0s0 N) one16x0x10 fun L x hx => (raw16x0x10 N L).trans ((bind16x0x10 N ..).trans (alt1 x hx))
noncomputable def h16x0s1 (N : Nat) : Hint := { (h16x0s0 N) with los := (10, loSh sh16x0x10 (A16x0x10 N)) :: (h16x0s0 N).los }
theorem al16x0s1 (N : Nat) : AllCuts Try.prog (h16x0s1 N).los 0 16 := AllCuts.cons (al16x0s0 N) one16x0x10 (law16x0x10 N)
noncomputable def F16x0 (N : Nat) {R : Type} (k0 : Bool → Option R) : Option R :=
  bnd (G11x0 N 0 3 0 false [(.a [(.s ([102, 97, 115, 116] : List UInt8)), (.i 0), (.i 0), (.i 5), (.b true)])] false [(.a [(.i 5), (.i 0), (.i 2), (.i 0), (.i 0), (.s ([] : List UInt8))])] true []) fun x42505371 =>
  bif x42505371.isSome then
    bnd (G16x0x10 N (x42505371.getD default).2.1 (x42505371.getD default).2.2.1 (x42505371.getD default).2.2.2) fun x92917028 =>
    bif x92917028.isSome then
      k0 (x92917028.getD default)
    else
      none
  else
    none
noncomputable def G16x0 (N : Nat) : Option (Bool) := F16x0 N (fun p => some p)
theorem bind16x0 (N : Nat) {R : Type} (k0 : Bool → Option R) : F16x0 N k0 = (G16x0 N).bind k0 := by
  unfold G16x0 F16x0
  repeat' (first | rfl | apply cond_b | (apply bnd_b; intro _))
noncomputable def sh16x0 : Sh := { tmps := [], mem := [] }
noncomputable def A16x0 (N : Nat) (L : List Lf) : List (Bool × Res) := bnd (F16x0 N (fun p => some p)) fun q => [(q.isSome, ([.c (.b (q.getD default))], []))]
theorem raw16x0 (N : Nat) (L : List Lf) : (body Try.prog (T15x0 N) (h16x0s1 N) 200 16 (valsOf (ofSh sh16x0 L).tmps) (ofSh sh16x0 L).mem : Option Res) = F16x0 N (fun p => some ([.c (.b p)], [])) := by kernel_rfl
theorem ok16x0 (N : Nat) : ∀ args mem alts, spSh sh16x0 (A16x0 N) args mem = some alts → ∀ res, altK alts some = some res → CallOk Try.prog 16 args mem res :=
  spSh_law fun L x hx => callOk_of (n := 200) progOk (T15x0_ok N) (al16x0s1 N) rfl ((raw16x0 N L).trans ((bind16x0 N ..).trans (alt1 x hx)))
noncomputable def T16x0 (N : Nat) : Oracle := ext 16 (spSh sh16x0 (A16x0 N)) (T15x0 N)
theorem T16x0_ok (N : Nat) : OracleOk Try.prog (T16x0 N) := ext_ok (T15x0_ok N) (enters_of (by kernel_rfl)) (ok16x0 N)
noncomputable def rg4x0 : List (Nat × List Nat) := [(0, [0, 1]), (1, [2, 1]), (2, [2, 1, 5, 6]), (3, [2, 5, 7, 6, 8])]
noncomputable def hd4x0 : Hints := [(10, [2, 5, 7, 6, 8], [2], [])]
noncomputable def h4x0s0 (N : Nat) : Hint := { loops := hd4x0, regs := rg4x0, los := [] }
theorem al4x0s0 (N : Nat) : AllCuts Try.prog (h4x0s0 N).los 0 4 := AllCuts.nil
noncomputable def F4x0x10 (N : Nat) {R : Type} (w0 w1 w2 w3 w4 w5 w6 : Int) (w8 w10 : (List D)) (k0 : Bool → Option R) : Option R :=
  bnd (G19x0 N w4 w5 w6 w8 w10) fun x49750855 =>
  bif x49750855.isSome then
    bnd (G20x0 N w4 w5 w6 w8 w10) fun x68422055 =>
    bif x68422055.isSome then
      bif ((x49750855.getD default) == (x68422055.getD default)) then
        bif (w0 == w2) then
          bif (w1 == w3) then
            bnd (G16x0 N) fun x42517929 =>
            bif x42517929.isSome then
              k0 (x42517929.getD default)
            else
              none
          else
            k0 false
        else
          k0 false
      else
        k0 false
    else
      none
  else
    none
noncomputable def G4x0x10 (N : Nat) (w0 w1 w2 w3 w4 w5 w6 : Int) (w8 w10 : (List D)) : Option (Bool) := F4x0x10 N w0 w1 w2 w3 w4 w5 w6 w8 w10 (fun p => some p)
theorem bind4x0x10 (N : Nat) {R : Type} (w0 w1 w2 w3 w4 w5 w6 : Int) (w8 w10 : (List D)) (k0 : Bool → Option R) : F4x0x10 N w0 w1 w2 w3 w4 w5 w6 w8 w10 k0 = (G4x0x10 N w0 w1 w2 w3 w4 w5 w6 w8 w10).bind k0 := by
  unfold G4x0x10 F4x0x10
  repeat' (first | rfl | apply cond_b | (apply bnd_b; intro _))
noncomputable def J4x0x10 (N : Nat) (L : List Lf) {R : Type} (k0 : Bool → Option R) : Option R := F4x0x10 N (li L 0) (li L 1) (li L 2) (li L 3) (li L 4) (li L 5) (li L 6) (ll L 8) (ll L 10) k0
noncomputable def sh4x0x10 : Sh := { tmps := [(2, .c (.p 2 0)), (5, .c (.i .i64)), (6, .c (.i .i64)), (7, .c (.i .i64)), (8, .c (.i .i64))], mem := [(2, .box [.i .i64, .i .i64, .i .i64, .sl 66, .sl 68])] }
noncomputable def A4x0x10 (N : Nat) (L : List Lf) : List (Bool × (Ex × St)) := bnd (J4x0x10 N L (fun p => some p)) fun q => [(q.isSome, (.normal, ⟨[(4, .c (.b (q.getD default)))], []⟩))]
theorem raw4x0x10 (N : Nat) (L : List Lf) : (exec Try.prog (T16x0 N) (h4x0s0 N) 0 100 (piece Try.prog 4 10) (ofSh sh4x0x10 L) (fun e st => some (e, cutSt [4] [] st)) : Option (Ex × St)) = J4x0x10 N L (fun p => some (.normal, ⟨[(4, .c (.b p))], []⟩)) := by kernel_rfl
theorem one4x0x10 : oneB Try.prog 4 10 = true := by kernel_rfl
theorem law4x0x10 (N : Nat) : CutLaw Try.prog 0 (piece Try.prog 4 10) (loSh sh4x0x10 (A4x0x10 N)) :=
  law_sh progOk (T16x0_ok N) (al4x0s0 N) one4x0x10 fun L x hx => (raw4x0x10 N L).trans ((bind4x0x10 N ..).trans (alt1 x hx))
noncomputable def h4x0s1 (N : Nat) : Hint := { (h4x0s0 N) with los := (10, loSh sh4x0x10 (A4x0x10 N)) :: (h4x0s0 N).los }
theorem al4x0s1 (N : Nat) : AllCuts Try.prog (h4x0s1 N).los 0 4 := AllCuts.cons (al4x0s0 N) one4x0x10 (law4x0x10 N)
noncomputable def F4x0 (N : Nat) {R : Type} (v0 v1 v2 : Int) (v4 v6 : (List D)) (v7 : Int) (k0 : Bool → Option R) : Option R :=
  bnd (G17x0 N v0 v1 v2 v4 v6 v7) fun x29824742 =>
  bif x29824742.isSome then
    bnd (G18x0 N v0 v1 v2 v4 v6 v7) fun x84239089 =>
    bif x84239089.isSome then
      bnd (G4x0x10 N (x29824742.getD default).1 (x29824742.getD default).2 (x84239089.getD default).1 (x84239089.getD default).2 v0 v1 v2 v4 v6) fun x96619169 =>
      bif x96619169.isSome then
        k0 (x96619169.getD default)
      else
        none
    else
      none
  else
    none
noncomputable def G4x0 (N : Nat) (v0 v1 v2 : Int) (v4 v6 : (List D)) (v7 : Int) : Option (Bool) := F4x0 N v0 v1 v2 v4 v6 v7 (fun p => some p)
theorem bind4x0 (N : Nat) {R : Type} (v0 v1 v2 : Int) (v4 v6 : (List D)) (v7 : Int) (k0 : Bool → Option R) : F4x0 N v0 v1 v2 v4 v6 v7 k0 = (G4x0 N v0 v1 v2 v4 v6 v7).bind k0 := by
  unfold G4x0 F4x0
  repeat' (first | rfl | apply cond_b | (apply bnd_b; intro _))
noncomputable def J4x0 (N : Nat) (L : List Lf) {R : Type} (k0 : Bool → Option R) : Option R := F4x0 N (li L 0) (li L 1) (li L 2) (ll L 4) (ll L 6) (li L 7) k0
noncomputable def sh4x0 : Sh := { tmps := [(0, .g [.i .i64, .i .i64, .i .i64, .sl 66, .sl 68]), (1, .c (.i .i64))], mem := [] }
noncomputable def A4x0 (N : Nat) (L : List Lf) : List (Bool × Res) := bnd (J4x0 N L (fun p => some p)) fun q => [(q.isSome, ([.c (.b (q.getD default))], []))]
theorem raw4x0 (N : Nat) (L : List Lf) : (body Try.prog (T16x0 N) (h4x0s1 N) 200 4 (valsOf (ofSh sh4x0 L).tmps) (ofSh sh4x0 L).mem : Option Res) = J4x0 N L (fun p => some ([.c (.b p)], [])) := by kernel_rfl
theorem ok4x0 (N : Nat) : ∀ args mem alts, spSh sh4x0 (A4x0 N) args mem = some alts → ∀ res, altK alts some = some res → CallOk Try.prog 4 args mem res :=
  spSh_law fun L x hx => callOk_of (n := 200) progOk (T16x0_ok N) (al4x0s1 N) rfl ((raw4x0 N L).trans ((bind4x0 N ..).trans (alt1 x hx)))
noncomputable def T4x0 (N : Nat) : Oracle := ext 4 (spSh sh4x0 (A4x0 N)) (T16x0 N)
theorem T4x0_ok (N : Nat) : OracleOk Try.prog (T4x0 N) := ext_ok (T16x0_ok N) (enters_of (by kernel_rfl)) (ok4x0 N)
end Go.Proofs.Ytefmjfcdgadggaa
