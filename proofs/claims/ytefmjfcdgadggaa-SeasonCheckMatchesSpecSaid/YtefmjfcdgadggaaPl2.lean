/- A part of a proof of a law: lemmas on what the functions of the program compute. Conditions: those of each lemma. -/
import Derived.Test.YtefmjfcdgadggaaPl1
set_option linter.all false
namespace Go.Proofs.Ytefmjfcdgadggaa
open Go Go.AM
set_option maxHeartbeats 1000000
def out (n a b : Int) : Bool := decide (n < a ∨ n > b)
def chkS (all : List D) : Int → List D → Option Int
  | _, [] => none
  | i, x :: r => bif !nameB (x.cell 0).toS then some 8 else bif decide (sesAt all (x.cell 0).toS < i) then some 5 else bif out (x.cell 1).toI 0 1000 || (out (x.cell 2).toI 0 1000 || out (x.cell 3).toI 0 1000) then some 9 else chkS all (i + 1) r
def sumO : Option Int → Option (Sum Int Unit)
  | some e => some (.inl e)
  | none => some (.inr ())
def ruleE (days : Int) (ses : List D) (k day n low high : Int) (name : List UInt8) : Int :=
  if ¬(1 ≤ k ∧ k ≤ 9) then 7 else
  if ((k = 1 ∨ k = 2) ∧ ¬(0 ≤ day ∧ day ≤ 6)) ∨ ((k = 8 ∨ k = 9) ∧ ¬(0 ≤ day ∧ day ≤ days - 1)) ∨ ((k = 2 ∨ k = 3 ∨ k = 4 ∨ k = 7 ∨ k = 9) ∧ ¬(0 ≤ n ∧ n ≤ 100000)) ∨ (k = 5 ∧ ¬(1 ≤ n ∧ n ≤ 14)) ∨ (k = 6 ∧ ¬(0 ≤ low ∧ low ≤ high ∧ high ≤ 7)) ∨ (k = 9 ∧ ¬(1 ≤ low ∧ low ≤ 14)) then 9 else
  if (k = 6 ∨ k = 8 ∧ name ≠ []) ∧ sesAt ses name < 0 then 4 else
  if (¬(k = 1 ∨ k = 2 ∨ k = 8 ∨ k = 9) ∧ day ≠ 0) ∨ ((k = 1 ∨ k = 6 ∨ k = 8) ∧ n ≠ 0) ∨ (¬(k = 6 ∨ k = 9) ∧ low ≠ 0) ∨ (k ≠ 6 ∧ high ≠ 0) ∨ (¬(k = 6 ∨ k = 8) ∧ name ≠ []) then 2 else 0
def chkR (days : Int) (ses : List D) : List D → Option Int
  | [] => none
  | r :: l => bif ruleE days ses (r.cell 0).toI (r.cell 1).toI (r.cell 2).toI (r.cell 3).toI (r.cell 4).toI (r.cell 5).toS != 0 then some (ruleE days ses (r.cell 0).toI (r.cell 1).toI (r.cell 2).toI (r.cell 3).toI (r.cell 4).toI (r.cell 5).toS) else chkR days ses l
variable {N : Nat}
theorem kinds9 {k : Int} (h : 1 ≤ k ∧ k ≤ 9) : k = 1 ∨ k = 2 ∨ k = 3 ∨ k = 4 ∨ k = 5 ∨ k = 6 ∨ k = 7 ∨ k = 8 ∨ k = 9 := by omega
theorem V50x0_eq (a b c : Int) : V50x0 N a b c = out a b c := by
  unfold V50x0 F50x0 out; rw [Bool.eq_iff_iff]; simp
theorem V48x0_eq (a b c : Int) : V48x0 N a b c = !out a b c := by
  unfold V48x0 F48x0 out; rw [Bool.eq_iff_iff]; simp
theorem nameE (l : List UInt8) : (l == ([] : List UInt8)) = decide (l = []) := by cases l <;> rfl
theorem G56x0_eq (hN : maxLen < N) {days : Int} (hd : 1 ≤ days ∧ days ≤ 14) {ses : List D} (hs : ses.length ≤ maxLen) (k day n low high : Int) (name : List UInt8) : G56x0 N days ses k day n low high name = some (ruleE days ses k day n low high name) := by
  unfold G56x0 F56x0
  rw [V50x0_eq]
  by_cases hk : 1 ≤ k ∧ k ≤ 9
  · have e : out k 1 9 = false := by simp [out]; omega
    have ew : IntKind.wrap .i64 (days - 1) = days - 1 := wrapI (by omega) (by omega)
    rw [e]
    rcases kinds9 hk with rfl | rfl | rfl | rfl | rfl | rfl | rfl | rfl | rfl <;>
    simp [bnd_eq, ruleE, V56x0x18002, F56x0x18002, V56x0x24023, F56x0x24023, V56x0x27002, F56x0x27002, V56x0x32, F56x0x32, V56x0x39002, F56x0x39002, V56x0x42002, F56x0x42002, V56x0x45002, F56x0x45002, V56x0x48002, F56x0x48002,
      V56x0x54053, F56x0x54053, V56x0x52, F56x0x52, V56x0x60059, F56x0x60059, V56x0x58, F56x0x58, V56x0x65, F56x0x65, V56x0x71, F56x0x71, V56x0x70, F56x0x70, G56x0x83, F56x0x83, G55x0_eq hN hs, V50x0_eq, ew,
      V84x0, F84x0, V84x0x18017, F84x0x18017, V84x0x24023, F84x0x24023, V84x0x27002, F84x0x27002, V84x0x30002, F84x0x30002, V84x0x33002, F84x0x33002, V84x0x39038, F84x0x39038, V84x0x45044, F84x0x45044, V84x0x9050, F84x0x9050, out, inlB_inr, inrQ_inr]
    all_goals cases name with
      | nil => (by_cases hq : sesAt ses [] < 0) <;> simp [hq, inlB_inr, inlB_inl, inrQ_inr, Bool.cond_eq_ite] <;> (repeat' split) <;> first | rfl | omega | (simp_all; done) | (simp_all; omega)
      | cons c l => (by_cases hq : sesAt ses (c :: l) < 0) <;> simp [hq, inlB_inr, inlB_inl, inrQ_inr, Bool.cond_eq_ite] <;> (repeat' split) <;> first | rfl | omega | (simp_all; done) | (simp_all; omega)
  · have e : out k 1 9 = true := by simp [out]; omega
    rw [e]
    simp [bnd_eq, ruleE, hk]
theorem G53x0_eq (hN : maxLen < N) {days : Int} (hd : 1 ≤ days ∧ days ≤ 14) {ses : List D} (hs : ses.length ≤ maxLen) (k day n low high : Int) (name : List UInt8) : G53x0 N days ses k day n low high name = some (ruleE days ses k day n low high name) := by
  unfold G53x0 F53x0
  rw [V48x0_eq]
  by_cases hk : 1 ≤ k ∧ k ≤ 9
  · have e : out k 1 9 = false := by simp [out]; omega
    have ew : IntKind.wrap .i64 (days - 1) = days - 1 := wrapI (by omega) (by omega)
    rw [e]
    rcases kinds9 hk with rfl | rfl | rfl | rfl | rfl | rfl | rfl | rfl | rfl <;>
    simp [bnd_eq, ruleE, V83x0, F83x0, V53x0x20, F53x0x20, V53x0x26, F53x0x26, V53x0x31, F53x0x31, V53x0x34, F53x0x34, V53x0x33002, F53x0x33002, V53x0x43, F53x0x43, V53x0x42002, F53x0x42002, G53x0x49, F53x0x49, V53x0x66002, F53x0x66002,
      V53x0x63002, F53x0x63002, V53x0x60002, F53x0x60002, V53x0x57002, F53x0x57002, G52x0_eq hN hs, V48x0_eq, ew, out]
    all_goals cases name with
      | nil => (by_cases hq : sesAt ses [] < 0) <;> simp [hq, Bool.cond_eq_ite] <;> (repeat' split) <;> first | rfl | omega | (simp_all; done) | (simp_all; omega)
      | cons c l => (by_cases hq : sesAt ses (c :: l) < 0) <;> simp [hq, Bool.cond_eq_ite] <;> (repeat' split) <;> first | rfl | omega | (simp_all; done) | (simp_all; omega)
  · have e : out k 1 9 = true := by simp [out]; omega
    rw [e]
    simp [bnd_eq, ruleE, hk]
/-- The names of a list are as long as a text can be. -/
def NamesOk (xs : List D) : Prop := ∀ x ∈ xs, (x.cell 0).toS.length ≤ maxLen
theorem getD_mem {α : Type} {xs : List α} {w : Int} (d : α) (h0 : 0 ≤ w) (h1 : w < xs.length) : xs.getD w.toNat d ∈ xs := by
  have hl : w.toNat < xs.length := by omega
  rw [List.getD_eq_getElem?_getD, List.getElem?_eq_getElem hl]
  exact List.getElem_mem hl
theorem G20x0x18_eq (hN : maxLen < N) {xs ys : List D} (hs : xs.length ≤ maxLen) (hy : ys.length ≤ maxLen) (hn : NamesOk xs) : G20x0x18 N xs xs.length ys 0 = sumO (chkS ys 0 xs) := by
  unfold G20x0x18
  refine (for_ind (.i 0 : D) (S := fun w kr => S20x0x18 N xs xs.length ys w kr _ _) (L := fun m w => L20x0x18 N xs xs.length ys m w _ _) (fun m w => rfl) (fun w l => sumO (chkS ys w l)) hs ?_ ?_ hN).trans rfl
  · intro kr; simp [S20x0x18, chkS, sumO]
  · intro w kr h0 h1 hw hi hk
    simp only [S20x0x18, decide_eq_true h1, _root_.cond_true, hi, bnd_eq, hw, hk, chkS, G54x0_eq hN (hn _ (getD_mem _ h0 h1)), G55x0_eq hN hy, Option.isSome_some, getD_some, V20x0x37, F20x0x37, V50x0_eq]
    generalize xs.getD w.toNat (.i 0) = x
    cases nameB (x.cell 0).toS <;> cases decide (sesAt ys (x.cell 0).toS < w) <;> cases out (x.cell 1).toI 0 1000 <;> cases out (x.cell 2).toI 0 1000 <;> cases out (x.cell 3).toI 0 1000 <;> rfl
theorem G19x0x18_eq (hN : maxLen < N) {xs ys : List D} (hs : xs.length ≤ maxLen) (hy : ys.length ≤ maxLen) (hn : NamesOk xs) : G19x0x18 N xs xs.length ys 0 = sumO (chkS ys 0 xs) := by
  unfold G19x0x18
  refine (for_ind (.i 0 : D) (S := fun w kr => S19x0x18 N xs xs.length ys w kr _ _) (L := fun m w => L19x0x18 N xs xs.length ys m w _ _) (fun m w => rfl) (fun w l => sumO (chkS ys w l)) hs ?_ ?_ hN).trans rfl
  · intro kr; simp [S19x0x18, chkS, sumO]
  · intro w kr h0 h1 hw hi hk
    simp only [S19x0x18, decide_eq_true h1, _root_.cond_true, hi, bnd_eq, hw, hk, chkS, G51x0_eq hN (hn _ (getD_mem _ h0 h1)), G52x0_eq hN hy, Option.isSome_some, getD_some, V19x0x37, F19x0x37, V48x0_eq]
    generalize xs.getD w.toNat (.i 0) = x
    cases nameB (x.cell 0).toS <;> cases decide (sesAt ys (x.cell 0).toS < w) <;> cases out (x.cell 1).toI 0 1000 <;> cases out (x.cell 2).toI 0 1000 <;> cases out (x.cell 3).toI 0 1000 <;> rfl
theorem G20x0x48_eq (hN : maxLen < N) {xs ys : List D} {days : Int} (hd : 1 ≤ days ∧ days ≤ 14) (hs : xs.length ≤ maxLen) (hy : ys.length ≤ maxLen) : G20x0x48 N xs xs.length days ys 0 = sumO (chkR days ys xs) := by
  unfold G20x0x48
  refine (for_ind (.i 0 : D) (S := fun w kr => S20x0x48 N xs xs.length days ys w kr _ _) (L := fun m w => L20x0x48 N xs xs.length days ys m w _ _) (fun m w => rfl) (fun w l => sumO (chkR days ys l)) hs ?_ ?_ hN).trans rfl
  · intro kr; simp [S20x0x48, chkR, sumO]
  · intro w kr h0 h1 hw hi hk
    simp only [S20x0x48, decide_eq_true h1, _root_.cond_true, hi, bnd_eq, hw, hk, chkR, G56x0_eq hN hd hy, Option.isSome_some, getD_some]
    cases ruleE .. != 0 <;> rfl
theorem G19x0x48_eq (hN : maxLen < N) {xs ys : List D} {days : Int} (hd : 1 ≤ days ∧ days ≤ 14) (hs : xs.length ≤ maxLen) (hy : ys.length ≤ maxLen) : G19x0x48 N xs xs.length days ys 0 = sumO (chkR days ys xs) := by
  unfold G19x0x48
  refine (for_ind (.i 0 : D) (S := fun w kr => S19x0x48 N xs xs.length days ys w kr _ _) (L := fun m w => L19x0x48 N xs xs.length days ys m w _ _) (fun m w => rfl) (fun w l => sumO (chkR days ys l)) hs ?_ ?_ hN).trans rfl
  · intro kr; simp [S19x0x48, chkR, sumO]
  · intro w kr h0 h1 hw hi hk
    simp only [S19x0x48, decide_eq_true h1, _root_.cond_true, hi, bnd_eq, hw, hk, chkR, G53x0_eq hN hd hy, Option.isSome_some, getD_some]
    cases ruleE .. != 0 <;> rfl
/-- What Check answers. -/
def chk (first days before : Int) (ses rules : List D) : Int :=
  bif out first 0 999985 || (out days 1 14 || out before 0 100000) then 9 else bif decide (ses.length > 4) || decide (rules.length > 12) then 3 else
  match chkS ses 0 ses with
  | some e => e
  | none => match chkR days ses rules with
    | some e => e
    | none => 0
theorem G20x0_eq (hN : maxLen < N) {first days before : Int} {ses rules : List D} (hs : ses.length ≤ maxLen) (hr : rules.length ≤ maxLen) (hn : NamesOk ses) : G20x0 N first days before ses rules = some (chk first days before ses rules) := by
  unfold G20x0 F20x0 V20x0x4 F20x0x4 chk
  simp only [bnd_eq, V50x0_eq]
  cases out first 0 999985 with
  | true => rfl
  | false =>
  cases hd : out days 1 14 with
  | true => rfl
  | false =>
  cases out before 0 100000 with
  | true => rfl
  | false =>
  have hd : 1 ≤ days ∧ days ≤ 14 := by simp [out] at hd; omega
  rw [show (bif (decide ((ses.length : Int) > 4)) then true else (decide ((rules.length : Int) > 12))) = (decide (ses.length > 4) || decide (rules.length > 12)) by rw [Bool.eq_iff_iff]; simp; omega]
  cases decide (ses.length > 4) || decide (rules.length > 12) with
  | true => rfl
  | false =>
  rw [G20x0x18_eq hN hs hs hn, G20x0x48_eq hN hd hr hs]
  cases chkS ses 0 ses with
  | some e => rfl
  | none => cases chkR days ses rules <;> rfl
theorem G19x0_eq (hN : maxLen < N) {first days before : Int} {ses rules : List D} (hs : ses.length ≤ maxLen) (hr : rules.length ≤ maxLen) (hn : NamesOk ses) : G19x0 N first days before ses rules = some (chk first days before ses rules) := by
  unfold G19x0 F19x0 V19x0x4 F19x0x4 chk
  simp only [bnd_eq, V48x0_eq]
  cases out first 0 999985 with
  | true => rfl
  | false =>
  cases hd : out days 1 14 with
  | true => rfl
  | false =>
  cases out before 0 100000 with
  | true => rfl
  | false =>
  have hd : 1 ≤ days ∧ days ≤ 14 := by simp [out] at hd; omega
  rw [show (bif (decide ((ses.length : Int) > 4)) then true else (decide ((rules.length : Int) > 12))) = (decide (ses.length > 4) || decide (rules.length > 12)) by rw [Bool.eq_iff_iff]; simp; omega]
  cases decide (ses.length > 4) || decide (rules.length > 12) with
  | true => rfl
  | false =>
  rw [G19x0x18_eq hN hs hs hn, G19x0x48_eq hN hd hr hs]
  cases chkS ses 0 ses with
  | some e => rfl
  | none => cases chkR days ses rules <;> rfl
end Go.Proofs.Ytefmjfcdgadggaa
