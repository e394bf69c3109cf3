/- Proved: for every season, number of a rule and plan, season.Keeps, Broken, Worth, Loads and Weeks answer what the reference package answers (SeasonKeepsMatchSpec returns true and leaves its arguments as they were). Conditions: none beyond those of the given statement. -/
import Derived.Test.YtefmjfcdgadggaaG10p2
import Derived.KernelRfl
import Derived.Test.YtefmjfcdgadggaaRows
set_option linter.all false
set_option maxRecDepth 100000
namespace Go.Proofs.Ytefmjfcdgadggaa
open Go Go.AM

/-! ### What Check says -/
def ltr (n : Int) : Bool := decide (97 ≤ n ∧ n ≤ 122 ∨ 65 ≤ n ∧ n ≤ 90 ∨ 48 ≤ n ∧ n ≤ 57 ∨ n = 45 ∨ n = 95 ∨ n = 46)
def nameB (s : List UInt8) : Bool := s.all (fun c => ltr (c.toNat : Int)) && decide (1 ≤ s.length ∧ s.length ≤ 60)
def sesAt (xs : List D) (name : List UInt8) : Int := match xs.findIdx? (fun x => (x.cell 0).toS == name) with
 | some j => j
 | none => -1
variable {N : Nat}

theorem G54x0x6_eq (hN : maxLen < N) {s : List UInt8} (hs : s.length ≤ maxLen) : G54x0x6 N s 0 = some (bif s.all (fun c => ltr (c.toNat : Int)) then .inr () else .inl ()) := by
 unfold G54x0x6
 refine (for_ind (0 : UInt8) (S := fun w kr => S54x0x6 N s w kr _ _) (L := fun m w => L54x0x6 N s m w _ _) (fun m w => rfl) (fun _ l => some (bif l.all (fun c => ltr (c.toNat : Int)) then .inr () else .inl ())) hs ?_ ?_ hN).trans rfl
 ·intro kr; simp [S54x0x6]
 ·intro w kr h0 h1 hw hi hk
  simp only [S54x0x6, decide_eq_true h1, _root_.cond_true, hi, bnd_eq, hw, hk, List.all_cons]
  generalize ((s.getD w.toNat 0).toNat : Int) = n
  refine (cond_congr (c' := !ltr n) ?_).trans ?_
  ·rw [Bool.eq_iff_iff]; simp [ltr]; omega
  ·cases ltr n <;> rfl
theorem G54x0_eq (hN : maxLen < N) {s : List UInt8} (hs : s.length ≤ maxLen) : G54x0 N s = some (nameB s) := by
 unfold G54x0 F54x0
 rw [G54x0x6_eq hN hs]
 unfold nameB
 cases s.all (fun c => ltr (c.toNat : Int)) with
 | false => rfl
 | true =>
  simp only [bnd_eq, inlB_inr, inrQ_inr, _root_.cond_true, _root_.cond_false, Option.isSome_some, Bool.true_and]
  congr 1
  rw [Bool.eq_iff_iff]; simp; omega
theorem G51x0x6_eq (hN : maxLen < N) {s : List UInt8} (hs : s.length ≤ maxLen) : G51x0x6 N s s.length 0 = some (bif s.all (fun c => ltr (c.toNat : Int)) then .inr () else .inl ()) := by
 unfold G51x0x6
 refine (for_ind (0 : UInt8) (S := fun w kr => S51x0x6 N s s.length w kr _ _) (L := fun m w => L51x0x6 N s s.length m w _ _) (fun m w => rfl) (fun _ l => some (bif l.all (fun c => ltr (c.toNat : Int)) then .inr () else .inl ())) hs ?_ ?_ hN).trans rfl
 ·intro kr; simp [S51x0x6]
 ·intro w kr h0 h1 hw hi hk
  simp only [S51x0x6, decide_eq_true h1, _root_.cond_true, hi, bnd_eq, hw, hk, List.all_cons, V51x0x19, F51x0x19, V80x0, F80x0]
  generalize ((s.getD w.toNat 0).toNat : Int) = n
  refine (cond_congr (c' := !ltr n) ?_).trans ?_
  ·rw [Bool.eq_iff_iff]; simp [ltr]; omega
  ·cases ltr n <;> rfl
theorem G51x0_eq (hN : maxLen < N) {s : List UInt8} (hs : s.length ≤ maxLen) : G51x0 N s = some (nameB s) := by
 unfold G51x0 F51x0
 rw [G51x0x6_eq hN hs]
 unfold nameB
 cases s.all (fun c => ltr (c.toNat : Int)) with
 | false => rfl
 | true =>
  simp only [bnd_eq, inlB_inr, inrQ_inr, _root_.cond_true, _root_.cond_false, Option.isSome_some, Bool.true_and]
  congr 1
  rw [Bool.eq_iff_iff]; simp; omega
/-- The number of the first session with a name, from a place on. -/
def fstAt (name : List UInt8) (w : Int) (l : List D) : Option (Sum Int Unit) := match l.findIdx? (fun x => (x.cell 0).toS == name) with
 | some j => some (.inl (w + j))
 | none => some (.inr ())
theorem fstAt_cons (name : List UInt8) (w : Int) (x : D) (l : List D) : fstAt name w (x :: l) = bif (x.cell 0).toS == name then some (.inl w) else fstAt name (w + 1) l := by
 unfold fstAt
 rw [List.findIdx?_cons]
 cases (x.cell 0).toS == name with
 | true => simp
 | false =>
  simp only [Bool.false_eq_true, if_false, _root_.cond_false]
  cases l.findIdx? (fun x => (x.cell 0).toS == name) with
  | none => rfl
  | some j => simp; omega
theorem G55x0x6_eq (hN : maxLen < N) {xs : List D} {s : List UInt8} (hs : xs.length ≤ maxLen) : G55x0x6 N s xs xs.length 0 = fstAt s 0 xs := by
 unfold G55x0x6
 refine (for_ind (.i 0 : D) (S := fun w kr => S55x0x6 N s xs xs.length w kr _ _) (L := fun m w => L55x0x6 N s xs xs.length m w _ _) (fun m w => rfl) (fstAt s) hs ?_ ?_ hN).trans rfl
 ·intro kr; simp [S55x0x6, fstAt]
 ·intro w kr h0 h1 hw hi hk
  simp only [S55x0x6, decide_eq_true h1, _root_.cond_true, hi, bnd_eq, hw, hk, fstAt_cons]
theorem G81x0x6_eq (hN : maxLen < N) {xs : List D} {s : List UInt8} (hs : xs.length ≤ maxLen) : G81x0x6 N xs xs.length s 0 = fstAt s 0 xs := by
 unfold G81x0x6
 refine (for_ind (.i 0 : D) (S := fun w kr => S81x0x6 N xs xs.length s w kr _ _) (L := fun m w => L81x0x6 N xs xs.length s m w _ _) (fun m w => rfl) (fstAt s) hs ?_ ?_ hN).trans rfl
 ·intro kr; simp [S81x0x6, fstAt]
 ·intro w kr h0 h1 hw hi hk
  simp only [S81x0x6, V82x0, F82x0, decide_eq_true h1, _root_.cond_true, hi, bnd_eq, hw, hk, fstAt_cons]
theorem G55x0_eq (hN : maxLen < N) {xs : List D} {s : List UInt8} (hs : xs.length ≤ maxLen) : G55x0 N xs s = some (sesAt xs s) := by
 unfold G55x0 F55x0
 rw [G55x0x6_eq hN hs]
 unfold fstAt sesAt
 cases xs.findIdx? (fun x => (x.cell 0).toS == s) with
 | none => rfl
 | some j => simp [bnd_eq, inlB_inl, inlV_inl]
theorem G52x0_eq (hN : maxLen < N) {xs : List D} {s : List UInt8} (hs : xs.length ≤ maxLen) : G52x0 N xs s = some (sesAt xs s) := by
 unfold G52x0 F52x0 G81x0 F81x0
 rw [G81x0x6_eq hN hs]
 unfold fstAt sesAt
 cases xs.findIdx? (fun x => (x.cell 0).toS == s) with
 | none => rfl
 | some j => simp [bnd_eq, inlB_inl, inlV_inl]
end Go.Proofs.Ytefmjfcdgadggaa

namespace Go.Proofs.Ytefmjfcdgadggaa
open Go Go.AM
set_option maxHeartbeats 1000000
def out (n a b : Int) : Bool := decide (n < a ∨ n > b)
def chkS (all : List D) : Int → List D → Option Int
 | _, [] => none
 | i, x :: r => bif !nameB (x.cell 0).toS then some 8 else bif decide (sesAt all (x.cell 0).toS < i) then some 5 else bif out (x.cell 1).toI 0 1000 || (out (x.cell 2).toI 0 1000 || out (x.cell 3).toI 0 1000) then some 9 else chkS all (i + 1) r
def sumO : Option Int → Option (Sum Int Unit)
 | some e => some (.inl e)
 | none => some (.inr ())
def ruleE (days : Int) (ses : List D) (k day n low high : Int) (name : List UInt8) : Int :=
 if ¬(1 ≤ k ∧ k ≤ 9) then 7 else
 if ((k = 1 ∨ k = 2) ∧ ¬(0 ≤ day ∧ day ≤ 6)) ∨ ((k = 8 ∨ k = 9) ∧ ¬(0 ≤ day ∧ day ≤ days - 1)) ∨ ((k = 2 ∨ k = 3 ∨ k = 4 ∨ k = 7 ∨ k = 9) ∧ ¬(0 ≤ n ∧ n ≤ 100000)) ∨ (k = 5 ∧ ¬(1 ≤ n ∧ n ≤ 14)) ∨ (k = 6 ∧ ¬(0 ≤ low ∧ low ≤ high ∧ high ≤ 7)) ∨ (k = 9 ∧ ¬(1 ≤ low ∧ low ≤ 14)) then 9 else
 if (k = 6 ∨ k = 8 ∧ name ≠ []) ∧ sesAt ses name < 0 then 4 else
 if (¬(k = 1 ∨ k = 2 ∨ k = 8 ∨ k = 9) ∧ day ≠ 0) ∨ ((k = 1 ∨ k = 6 ∨ k = 8) ∧ n ≠ 0) ∨ (¬(k = 6 ∨ k = 9) ∧ low ≠ 0) ∨ (k ≠ 6 ∧ high ≠ 0) ∨ (¬(k = 6 ∨ k = 8) ∧ name ≠ []) then 2 else 0
def chkR (days : Int) (ses : List D) : List D → Option Int
 | [] => none
 | r :: l => bif ruleE days ses (r.cell 0).toI (r.cell 1).toI (r.cell 2).toI (r.cell 3).toI (r.cell 4).toI (r.cell 5).toS != 0 then some (ruleE days ses (r.cell 0).toI (r.cell 1).toI (r.cell 2).toI (r.cell 3).toI (r.cell 4).toI (r.cell 5).toS) else chkR days ses l
variable {N : Nat}
theorem kinds9 {k : Int} (h : 1 ≤ k ∧ k ≤ 9) : k = 1 ∨ k = 2 ∨ k = 3 ∨ k = 4 ∨ k = 5 ∨ k = 6 ∨ k = 7 ∨ k = 8 ∨ k = 9 := by omega
theorem V50x0_eq (a b c : Int) : V50x0 N a b c = out a b c := by
 unfold V50x0 F50x0 out; rw [Bool.eq_iff_iff]; simp
theorem V48x0_eq (a b c : Int) : V48x0 N a b c = !out a b c := by
 unfold V48x0 F48x0 out; rw [Bool.eq_iff_iff]; simp
theorem G56x0_eq (hN : maxLen < N) {days : Int} (hd : 1 ≤ days ∧ days ≤ 14) {ses : List D} (hs : ses.length ≤ maxLen) (k day n low high : Int) (name : List UInt8) : G56x0 N days ses k day n low high name = some (ruleE days ses k day n low high name) := by
 unfold G56x0 F56x0
 rw [V50x0_eq]
 by_cases hk : 1 ≤ k ∧ k ≤ 9
 ·have e : out k 1 9 = false := by simp [out]; omega
  have ew : IntKind.wrap .i64 (days - 1) = days - 1 := wrapI (by omega) (by omega)
  rw [e]
  rcases kinds9 hk with rfl | rfl | rfl | rfl | rfl | rfl | rfl | rfl | rfl <;>
  simp [bnd_eq, ruleE, V56x0x18002, F56x0x18002, V56x0x24023, F56x0x24023, V56x0x27002, F56x0x27002, V56x0x32, F56x0x32, V56x0x39002, F56x0x39002, V56x0x42002, F56x0x42002, V56x0x45002, F56x0x45002, V56x0x48002, F56x0x48002,
   V56x0x54053, F56x0x54053, V56x0x52, F56x0x52, V56x0x60059, F56x0x60059, V56x0x58, F56x0x58, V56x0x65, F56x0x65, V56x0x71, F56x0x71, V56x0x70, F56x0x70, G56x0x83, F56x0x83, G55x0_eq hN hs, V50x0_eq, ew,
   V84x0, F84x0, V84x0x18017, F84x0x18017, V84x0x24023, F84x0x24023, V84x0x27002, F84x0x27002, V84x0x30002, F84x0x30002, V84x0x33002, F84x0x33002, V84x0x39038, F84x0x39038, V84x0x45044, F84x0x45044, V84x0x9050, F84x0x9050, out, inlB_inr, inrQ_inr]
  all_goals cases name with
   | nil => (by_cases hq : sesAt ses [] < 0) <;> simp [hq, inlB_inr, inlB_inl, inrQ_inr, Bool.cond_eq_ite] <;> (repeat' split) <;> first | rfl | omega | (simp_all; done) | (simp_all; omega)
   | cons c l => (by_cases hq : sesAt ses (c :: l) < 0) <;> simp [hq, inlB_inr, inlB_inl, inrQ_inr, Bool.cond_eq_ite] <;> (repeat' split) <;> first | rfl | omega | (simp_all; done) | (simp_all; omega)
 ·have e : out k 1 9 = true := by simp [out]; omega
  rw [e]
  simp [bnd_eq, ruleE, hk]
theorem G53x0_eq (hN : maxLen < N) {days : Int} (hd : 1 ≤ days ∧ days ≤ 14) {ses : List D} (hs : ses.length ≤ maxLen) (k day n low high : Int) (name : List UInt8) : G53x0 N days ses k day n low high name = some (ruleE days ses k day n low high name) := by
 unfold G53x0 F53x0
 rw [V48x0_eq]
 by_cases hk : 1 ≤ k ∧ k ≤ 9
 ·have e : out k 1 9 = false := by simp [out]; omega
  have ew : IntKind.wrap .i64 (days - 1) = days - 1 := wrapI (by omega) (by omega)
  rw [e]
  rcases kinds9 hk with rfl | rfl | rfl | rfl | rfl | rfl | rfl | rfl | rfl <;>
  simp [bnd_eq, ruleE, V83x0, F83x0, V53x0x20, F53x0x20, V53x0x26, F53x0x26, V53x0x31, F53x0x31, V53x0x34, F53x0x34, V53x0x33002, F53x0x33002, V53x0x43, F53x0x43, V53x0x42002, F53x0x42002, G53x0x49, F53x0x49, V53x0x66002, F53x0x66002,
   V53x0x63002, F53x0x63002, V53x0x60002, F53x0x60002, V53x0x57002, F53x0x57002, G52x0_eq hN hs, V48x0_eq, ew, out]
  all_goals cases name with
   | nil => (by_cases hq : sesAt ses [] < 0) <;> simp [hq, Bool.cond_eq_ite] <;> (repeat' split) <;> first | rfl | omega | (simp_all; done) | (simp_all; omega)
   | cons c l => (by_cases hq : sesAt ses (c :: l) < 0) <;> simp [hq, Bool.cond_eq_ite] <;> (repeat' split) <;> first | rfl | omega | (simp_all; done) | (simp_all; omega)
 ·have e : out k 1 9 = true := by simp [out]; omega
  rw [e]
  simp [bnd_eq, ruleE, hk]
/-- The names of a list are as long as a text can be. -/
def NamesOk (xs : List D) : Prop := ∀ x ∈ xs, (x.cell 0).toS.length ≤ maxLen
theorem getD_mem {α : Type} {xs : List α} {w : Int} (d : α) (h0 : 0 ≤ w) (h1 : w < xs.length) : xs.getD w.toNat d ∈ xs := by
 have hl : w.toNat < xs.length := by omega
 rw [List.getD_eq_getElem?_getD, List.getElem?_eq_getElem hl]
 exact List.getElem_mem hl
theorem G20x0x18_eq (hN : maxLen < N) {xs ys : List D} (hs : xs.length ≤ maxLen) (hy : ys.length ≤ maxLen) (hn : NamesOk xs) : G20x0x18 N xs xs.length ys 0 = sumO (chkS ys 0 xs) := by
 unfold G20x0x18
 refine (for_ind (.i 0 : D) (S := fun w kr => S20x0x18 N xs xs.length ys w kr _ _) (L := fun m w => L20x0x18 N xs xs.length ys m w _ _) (fun m w => rfl) (fun w l => sumO (chkS ys w l)) hs ?_ ?_ hN).trans rfl
 ·intro kr; simp [S20x0x18, chkS, sumO]
 ·intro w kr h0 h1 hw hi hk
  simp only [S20x0x18, decide_eq_true h1, _root_.cond_true, hi, bnd_eq, hw, hk, chkS, G54x0_eq hN (hn _ (getD_mem _ h0 h1)), G55x0_eq hN hy, Option.isSome_some, getD_some, V20x0x37, F20x0x37, V50x0_eq]
  generalize xs.getD w.toNat (.i 0) = x
  cases nameB (x.cell 0).toS <;> cases decide (sesAt ys (x.cell 0).toS < w) <;> cases out (x.cell 1).toI 0 1000 <;> cases out (x.cell 2).toI 0 1000 <;> cases out (x.cell 3).toI 0 1000 <;> rfl
theorem G19x0x18_eq (hN : maxLen < N) {xs ys : List D} (hs : xs.length ≤ maxLen) (hy : ys.length ≤ maxLen) (hn : NamesOk xs) : G19x0x18 N xs xs.length ys 0 = sumO (chkS ys 0 xs) := by
 unfold G19x0x18
 refine (for_ind (.i 0 : D) (S := fun w kr => S19x0x18 N xs xs.length ys w kr _ _) (L := fun m w => L19x0x18 N xs xs.length ys m w _ _) (fun m w => rfl) (fun w l => sumO (chkS ys w l)) hs ?_ ?_ hN).trans rfl
 ·intro kr; simp [S19x0x18, chkS, sumO]
 ·intro w kr h0 h1 hw hi hk
  simp only [S19x0x18, decide_eq_true h1, _root_.cond_true, hi, bnd_eq, hw, hk, chkS, G51x0_eq hN (hn _ (getD_mem _ h0 h1)), G52x0_eq hN hy, Option.isSome_some, getD_some, V19x0x37, F19x0x37, V48x0_eq]
  generalize xs.getD w.toNat (.i 0) = x
  cases nameB (x.cell 0).toS <;> cases decide (sesAt ys (x.cell 0).toS < w) <;> cases out (x.cell 1).toI 0 1000 <;> cases out (x.cell 2).toI 0 1000 <;> cases out (x.cell 3).toI 0 1000 <;> rfl
theorem G20x0x48_eq (hN : maxLen < N) {xs ys : List D} {days : Int} (hd : 1 ≤ days ∧ days ≤ 14) (hs : xs.length ≤ maxLen) (hy : ys.length ≤ maxLen) : G20x0x48 N xs xs.length days ys 0 = sumO (chkR days ys xs) := by
 unfold G20x0x48
 refine (for_ind (.i 0 : D) (S := fun w kr => S20x0x48 N xs xs.length days ys w kr _ _) (L := fun m w => L20x0x48 N xs xs.length days ys m w _ _) (fun m w => rfl) (fun w l => sumO (chkR days ys l)) hs ?_ ?_ hN).trans rfl
 ·intro kr; simp [S20x0x48, chkR, sumO]
 ·intro w kr h0 h1 hw hi hk
  simp only [S20x0x48, decide_eq_true h1, _root_.cond_true, hi, bnd_eq, hw, hk, chkR, G56x0_eq hN hd hy, Option.isSome_some, getD_some]
  cases ruleE .. != 0 <;> rfl
theorem G19x0x48_eq (hN : maxLen < N) {xs ys : List D} {days : Int} (hd : 1 ≤ days ∧ days ≤ 14) (hs : xs.length ≤ maxLen) (hy : ys.length ≤ maxLen) : G19x0x48 N xs xs.length days ys 0 = sumO (chkR days ys xs) := by
 unfold G19x0x48
 refine (for_ind (.i 0 : D) (S := fun w kr => S19x0x48 N xs xs.length days ys w kr _ _) (L := fun m w => L19x0x48 N xs xs.length days ys m w _ _) (fun m w => rfl) (fun w l => sumO (chkR days ys l)) hs ?_ ?_ hN).trans rfl
 ·intro kr; simp [S19x0x48, chkR, sumO]
 ·intro w kr h0 h1 hw hi hk
  simp only [S19x0x48, decide_eq_true h1, _root_.cond_true, hi, bnd_eq, hw, hk, chkR, G53x0_eq hN hd hy, Option.isSome_some, getD_some]
  cases ruleE .. != 0 <;> rfl
/-- What Check answers. -/
def chk (first days before : Int) (ses rules : List D) : Int :=
 bif out first 0 999985 || (out days 1 14 || out before 0 100000) then 9 else bif decide (ses.length > 4) || decide (rules.length > 12) then 3 else
 match chkS ses 0 ses with
 | some e => e
 | none => match chkR days ses rules with
  | some e => e
  | none => 0
theorem G20x0_eq (hN : maxLen < N) {first days before : Int} {ses rules : List D} (hs : ses.length ≤ maxLen) (hr : rules.length ≤ maxLen) (hn : NamesOk ses) : G20x0 N first days before ses rules = some (chk first days before ses rules) := by
 unfold G20x0 F20x0 V20x0x4 F20x0x4 chk
 simp only [bnd_eq, V50x0_eq]
 cases out first 0 999985 with
 | true => rfl
 | false =>
 cases hd : out days 1 14 with
 | true => rfl
 | false =>
 cases out before 0 100000 with
 | true => rfl
 | false =>
 have hd : 1 ≤ days ∧ days ≤ 14 := by simp [out] at hd; omega
 rw [show (bif (decide ((ses.length : Int) > 4)) then true else (decide ((rules.length : Int) > 12))) = (decide (ses.length > 4) || decide (rules.length > 12)) by rw [Bool.eq_iff_iff]; simp; omega]
 cases decide (ses.length > 4) || decide (rules.length > 12) with
 | true => rfl
 | false =>
 rw [G20x0x18_eq hN hs hs hn, G20x0x48_eq hN hd hr hs]
 cases chkS ses 0 ses with
 | some e => rfl
 | none => cases chkR days ses rules <;> rfl
theorem G19x0_eq (hN : maxLen < N) {first days before : Int} {ses rules : List D} (hs : ses.length ≤ maxLen) (hr : rules.length ≤ maxLen) (hn : NamesOk ses) : G19x0 N first days before ses rules = some (chk first days before ses rules) := by
 unfold G19x0 F19x0 V19x0x4 F19x0x4 chk
 simp only [bnd_eq, V48x0_eq]
 cases out first 0 999985 with
 | true => rfl
 | false =>
 cases hd : out days 1 14 with
 | true => rfl
 | false =>
 cases out before 0 100000 with
 | true => rfl
 | false =>
 have hd : 1 ≤ days ∧ days ≤ 14 := by simp [out] at hd; omega
 rw [show (bif (decide ((ses.length : Int) > 4)) then true else (decide ((rules.length : Int) > 12))) = (decide (ses.length > 4) || decide (rules.length > 12)) by rw [Bool.eq_iff_iff]; simp; omega]
 cases decide (ses.length > 4) || decide (rules.length > 12) with
 | true => rfl
 | false =>
 rw [G19x0x18_eq hN hs hs hn, G19x0x48_eq hN hd hr hs]
 cases chkS ses 0 ses with
 | some e => rfl
 | none => cases chkR days ses rules <;> rfl
end Go.Proofs.Ytefmjfcdgadggaa

namespace Go.Proofs.Ytefmjfcdgadggaa
open Go Go.AM
set_option maxHeartbeats 1000000
set_option maxRecDepth 100000
variable {N : Nat}

/-! ### Small arrays as functions -/
def upd {A : Type} (f : Nat → A) (i : Nat) (x : A) : Nat → A := fun j => bif Nat.beq i j then x else f j
theorem upd_self {A : Type} (f : Nat → A) (i : Nat) (x : A) : upd f i x i = x := by unfold upd; rw [beq_eq']; simp
theorem upd_ne {A : Type} (f : Nat → A) {i j : Nat} (x : A) (h : j ≠ i) : upd f i x j = f j := by unfold upd; rw [beq_eq']; simp [Ne.symm h]
def Zero {A : Type} (z : A) (n : Nat) (f : Nat → A) : Prop := ∀ j, n ≤ j → f j = z
theorem Zero.upd {A : Type} {z : A} {n : Nat} {f : Nat → A} (h : Zero z n f) {i : Nat} (hi : i < n) (x : A) : Zero z n (upd f i x) := fun j hj => by rw [upd_ne _ _ (by omega)]; exact h j hj
def of4 {A : Type} (z x0 x1 x2 x3 : A) : Nat → A := fun j => match j with
  | 0 => x0
  | 1 => x1
  | 2 => x2
  | 3 => x3
  | _ => z
theorem of4_eq {A : Type} {z : A} {f : Nat → A} (h : Zero z 4 f) : of4 z (f 0) (f 1) (f 2) (f 3) = f := by
  funext j
  match j with
  | 0 => rfl
  | 1 => rfl
  | 2 => rfl
  | 3 => rfl
  | j + 4 => exact (h _ (by omega)).symm
theorem sel4 {A : Type} (f : Nat → A) {i : Nat} (h : i < 4) : (bif Nat.beq i 0 then f 0 else (bif Nat.beq i 1 then f 1 else (bif Nat.beq i 2 then f 2 else f 3))) = f i := by
  match i, h with
  | 0, _ => rfl
  | 1, _ => rfl
  | 2, _ => rfl
  | 3, _ => rfl
  | i + 4, h => omega
def of10 {A : Type} (z x0 x1 x2 x3 x4 x5 x6 x7 x8 x9 : A) : Nat → A := fun j => match j with
  | 0 => x0
  | 1 => x1
  | 2 => x2
  | 3 => x3
  | 4 => x4
  | 5 => x5
  | 6 => x6
  | 7 => x7
  | 8 => x8
  | 9 => x9
  | _ => z
theorem of10_eq {A : Type} {z : A} {f : Nat → A} (h : Zero z 10 f) : of10 z (f 0) (f 1) (f 2) (f 3) (f 4) (f 5) (f 6) (f 7) (f 8) (f 9) = f := by
  funext j
  match j with
  | 0 => rfl
  | 1 => rfl
  | 2 => rfl
  | 3 => rfl
  | 4 => rfl
  | 5 => rfl
  | 6 => rfl
  | 7 => rfl
  | 8 => rfl
  | 9 => rfl
  | j + 10 => exact (h _ (by omega)).symm
theorem sel10 {A : Type} (f : Nat → A) {i : Nat} (h : i < 10) : (bif Nat.beq i 0 then f 0 else (bif Nat.beq i 1 then f 1 else (bif Nat.beq i 2 then f 2 else (bif Nat.beq i 3 then f 3 else (bif Nat.beq i 4 then f 4 else (bif Nat.beq i 5 then f 5 else (bif Nat.beq i 6 then f 6 else (bif Nat.beq i 7 then f 7 else (bif Nat.beq i 8 then f 8 else f 9))))))))) = f i := by
  match i, h with
  | 0, _ => rfl
  | 1, _ => rfl
  | 2, _ => rfl
  | 3, _ => rfl
  | 4, _ => rfl
  | 5, _ => rfl
  | 6, _ => rfl
  | 7, _ => rfl
  | 8, _ => rfl
  | 9, _ => rfl
  | i + 10, h => omega
def of12 {A : Type} (z x0 x1 x2 x3 x4 x5 x6 x7 x8 x9 x10 x11 : A) : Nat → A := fun j => match j with
  | 0 => x0
  | 1 => x1
  | 2 => x2
  | 3 => x3
  | 4 => x4
  | 5 => x5
  | 6 => x6
  | 7 => x7
  | 8 => x8
  | 9 => x9
  | 10 => x10
  | 11 => x11
  | _ => z
theorem of12_eq {A : Type} {z : A} {f : Nat → A} (h : Zero z 12 f) : of12 z (f 0) (f 1) (f 2) (f 3) (f 4) (f 5) (f 6) (f 7) (f 8) (f 9) (f 10) (f 11) = f := by
  funext j
  match j with
  | 0 => rfl
  | 1 => rfl
  | 2 => rfl
  | 3 => rfl
  | 4 => rfl
  | 5 => rfl
  | 6 => rfl
  | 7 => rfl
  | 8 => rfl
  | 9 => rfl
  | 10 => rfl
  | 11 => rfl
  | j + 12 => exact (h _ (by omega)).symm
theorem sel12 {A : Type} (f : Nat → A) {i : Nat} (h : i < 12) : (bif Nat.beq i 0 then f 0 else (bif Nat.beq i 1 then f 1 else (bif Nat.beq i 2 then f 2 else (bif Nat.beq i 3 then f 3 else (bif Nat.beq i 4 then f 4 else (bif Nat.beq i 5 then f 5 else (bif Nat.beq i 6 then f 6 else (bif Nat.beq i 7 then f 7 else (bif Nat.beq i 8 then f 8 else (bif Nat.beq i 9 then f 9 else (bif Nat.beq i 10 then f 10 else f 11))))))))))) = f i := by
  match i, h with
  | 0, _ => rfl
  | 1, _ => rfl
  | 2, _ => rfl
  | 3, _ => rfl
  | 4, _ => rfl
  | 5, _ => rfl
  | 6, _ => rfl
  | 7, _ => rfl
  | 8, _ => rfl
  | 9, _ => rfl
  | 10, _ => rfl
  | 11, _ => rfl
  | i + 12, h => omega
/-! ### Sessions -/
def sName (ses : List D) (n : Int) : List UInt8 := bif decide (n < 0) then [] else ((ses.getD n.toNat (.i 0)).cell 0).toS
def sLoad (ses : List D) (n : Int) : Int := bif decide (n < 0) then 0 else ((ses.getD n.toNat (.i 0)).cell 1).toI
def sMin (ses : List D) (n : Int) : Int := bif decide (n < 0) then 0 else ((ses.getD n.toNat (.i 0)).cell 2).toI
def sWorth (ses : List D) (n : Int) : Int := bif decide (n < 0) then 0 else ((ses.getD n.toNat (.i 0)).cell 3).toI
def sHard (ses : List D) (n : Int) : Bool := bif decide (n < 0) then false else ((ses.getD n.toNat (.i 0)).cell 4).toB
theorem G70x0_eq {ses : List D} {n : Int} (h : n < ses.length) : G70x0 N ses n = some (sName ses n, sLoad ses n, sMin ses n, sWorth ses n, sHard ses n) := by
  unfold G70x0 F70x0 sName sLoad sMin sWorth sHard
  by_cases hn : n < 0
  · simp [hn]
  · simp [hn, inB_of (show 0 ≤ n by omega) h]
/-! ### A right season -/
structure Good (first days before : Int) (ses rules : List D) : Prop where
  gfirst : 0 ≤ first ∧ first ≤ 999985
  gdays : 1 ≤ days ∧ days ≤ 14
  gbefore : 0 ≤ before ∧ before ≤ 100000
  nses : ses.length ≤ 4
  nrules : rules.length ≤ 12
  names : NamesOk ses
  num : ∀ x ∈ ses, (0 ≤ (x.cell 1).toI ∧ (x.cell 1).toI ≤ 1000) ∧ (0 ≤ (x.cell 2).toI ∧ (x.cell 2).toI ≤ 1000) ∧ (0 ≤ (x.cell 3).toI ∧ (x.cell 3).toI ≤ 1000)
  nodup : ∀ i : Nat, i < ses.length → sesAt ses ((ses.getD i (.i 0)).cell 0).toS = i
  named : ∀ x ∈ ses, (x.cell 0).toS ≠ []
  rule : ∀ r ∈ rules, ruleE days ses (r.cell 0).toI (r.cell 1).toI (r.cell 2).toI (r.cell 3).toI (r.cell 4).toI (r.cell 5).toS = 0
theorem sesAt_le {ses : List D} {i : Nat} (h : i < ses.length) : sesAt ses ((ses.getD i (.i 0)).cell 0).toS ≤ i := by
  unfold sesAt
  cases hf : ses.findIdx? (fun x => (x.cell 0).toS == ((ses.getD i (.i 0)).cell 0).toS) with
  | none =>
    rw [List.findIdx?_eq_none_iff] at hf
    have := hf (ses.getD i (.i 0)) (by rw [List.getD_eq_getElem?_getD, List.getElem?_eq_getElem h]; exact List.getElem_mem h)
    simp at this
  | some j =>
    rw [List.findIdx?_eq_some_iff_getElem] at hf
    obtain ⟨h1, h2, h3⟩ := hf
    by_cases hj : j ≤ i
    · simp; omega
    · have := h3 i (by omega)
      rw [List.getD_eq_getElem?_getD, List.getElem?_eq_getElem h] at this
      simp at this
theorem chkS_none : ∀ (all l pre : List D), all = pre ++ l → chkS all pre.length l = none → ∀ i : Nat, i < l.length → nameB ((l.getD i (.i 0)).cell 0).toS = true ∧ ¬ sesAt all ((l.getD i (.i 0)).cell 0).toS < pre.length + i ∧
    out ((l.getD i (.i 0)).cell 1).toI 0 1000 = false ∧ out ((l.getD i (.i 0)).cell 2).toI 0 1000 = false ∧ out ((l.getD i (.i 0)).cell 3).toI 0 1000 = false
  | all, [], pre, _, _, i, hi => by simp at hi
  | all, x :: l, pre, he, h, i, hi => by
    unfold chkS at h
    cases h1 : nameB (x.cell 0).toS with
    | false => rw [h1] at h; cases h
    | true =>
    by_cases h2 : sesAt all (x.cell 0).toS < pre.length
    · rw [h1, decide_eq_true h2] at h; cases h
    · rw [h1, decide_eq_false h2] at h
      simp only [Bool.not_true, _root_.cond_false] at h
      cases h3 : out (x.cell 1).toI 0 1000 || (out (x.cell 2).toI 0 1000 || out (x.cell 3).toI 0 1000) with
      | true => rw [h3] at h; cases h
      | false =>
        rw [h3] at h
        simp only [_root_.cond_false] at h
        simp only [Bool.or_eq_false_iff] at h3
        cases i with
        | zero => simpa using ⟨h1, by omega, h3⟩
        | succ i =>
          have := chkS_none all l (pre ++ [x]) (by simpa using he) (by simpa using h) i (by simpa using hi)
          simp only [List.getD_cons_succ]
          obtain ⟨a, b, c⟩ := this
          refine ⟨a, ?_, c⟩
          simp at b ⊢
          omega
theorem chkR_none {days : Int} {ses : List D} : ∀ {l : List D}, chkR days ses l = none → ∀ r ∈ l, ruleE days ses (r.cell 0).toI (r.cell 1).toI (r.cell 2).toI (r.cell 3).toI (r.cell 4).toI (r.cell 5).toS = 0
  | [], _, r, hr => by simp at hr
  | x :: l, h, r, hr => by
    unfold chkR at h
    cases h1 : ruleE days ses (x.cell 0).toI (x.cell 1).toI (x.cell 2).toI (x.cell 3).toI (x.cell 4).toI (x.cell 5).toS != 0 with
    | true => rw [h1] at h; cases h
    | false =>
      rw [h1] at h
      rcases List.mem_cons.1 hr with rfl | hr
      · simpa using h1
      · exact chkR_none h r hr
theorem chkR_pos {days : Int} {ses : List D} : ∀ {l : List D} {e : Int}, chkR days ses l = some e → e ≠ 0
  | [], _, h => by cases h
  | x :: l, e, h => by
    unfold chkR at h
    cases h1 : ruleE days ses (x.cell 0).toI (x.cell 1).toI (x.cell 2).toI (x.cell 3).toI (x.cell 4).toI (x.cell 5).toS != 0 with
    | true => rw [h1] at h; simp at h; subst h; simpa using h1
    | false => rw [h1] at h; exact chkR_pos h
theorem chkS_pos {all : List D} : ∀ {l : List D} {i e : Int}, chkS all i l = some e → e ≠ 0
  | [], _, _, h => by cases h
  | x :: l, i, e, h => by
    unfold chkS at h
    cases h1 : nameB (x.cell 0).toS <;> cases h2 : decide (sesAt all (x.cell 0).toS < i) <;> cases h3 : out (x.cell 1).toI 0 1000 || (out (x.cell 2).toI 0 1000 || out (x.cell 3).toI 0 1000) <;> rw [h1, h2, h3] at h <;>
      first | exact chkS_pos h | (simp at h; subst h; decide)
theorem good_of {first days before : Int} {ses rules : List D} (hn : NamesOk ses) (h : chk first days before ses rules = 0) : Good first days before ses rules := by
  unfold chk at h
  cases h1 : out first 0 999985 || (out days 1 14 || out before 0 100000) with
  | true => rw [h1] at h; cases h
  | false =>
  cases h2 : decide (ses.length > 4) || decide (rules.length > 12) with
  | true => rw [h1, h2] at h; cases h
  | false =>
  rw [h1, h2] at h
  simp only [_root_.cond_false] at h
  cases h3 : chkS ses 0 ses with
  | some e => rw [h3] at h; exact absurd h (chkS_pos h3)
  | none =>
  cases h4 : chkR days ses rules with
  | some e => rw [h3, h4] at h; exact absurd h (chkR_pos h4)
  | none =>
  simp only [Bool.or_eq_false_iff, out, decide_eq_false_iff_not] at h1 h2
  have hs := chkS_none ses ses [] rfl (by simpa using h3)
  have at' : ∀ x ∈ ses, ∃ i : Nat, i < ses.length ∧ ses.getD i (.i 0) = x := fun x hx => by
    obtain ⟨i, hi, rfl⟩ := List.getElem_of_mem hx
    exact ⟨i, hi, by rw [List.getD_eq_getElem?_getD, List.getElem?_eq_getElem hi]; rfl⟩
  refine ⟨by omega, by omega, by omega, by omega, by omega, hn, fun x hx => ?_, fun i hi => ?_, fun x hx => ?_, chkR_none h4⟩
  · obtain ⟨i, hi, rfl⟩ := at' x hx
    have := hs i hi
    simp only [out, decide_eq_false_iff_not] at this
    omega
  · have a := sesAt_le hi
    have b := (hs i hi).2.1
    simp only [List.length_nil] at b
    omega
  · obtain ⟨i, hi, rfl⟩ := at' x hx
    have := (hs i hi).1
    intro he
    rw [he] at this
    simp [nameB] at this
/-- What a right rule's numbers are. -/
theorem rule_ok {days : Int} {ses : List D} {k day n low high : Int} {name : List UInt8} (hd : 1 ≤ days) (h : ruleE days ses k day n low high name = 0) :
    (1 ≤ k ∧ k ≤ 9) ∧ (k = 6 → 0 ≤ sesAt ses name) ∧ (0 ≤ n ∧ n ≤ 100000) ∧ (-14 ≤ low ∧ low ≤ 14) ∧ (-14 ≤ day ∧ day ≤ days + 7) ∧ ((k = 8 ∨ k = 9) → 0 ≤ day ∧ day ≤ days - 1) ∧ (k = 9 → 1 ≤ low) ∧ (k = 5 → 1 ≤ n ∧ n ≤ 14) ∧ (k = 8 → name ≠ [] → 0 ≤ sesAt ses name) ∧ (k = 6 → 0 ≤ low ∧ high ≤ 7) := by
  unfold ruleE at h
  by_cases hk : 1 ≤ k ∧ k ≤ 9
  · rw [if_neg (by simpa using hk)] at h
    split at h
    · cases h
    · rename_i h1
      split at h
      · cases h
      · rename_i h2
        split at h
        · cases h
        · rename_i h3
          refine ⟨hk, ?_, ?_, ?_, ?_, ?_, ?_, ?_, ?_, ?_⟩
          · intro hk6; by_cases hs : sesAt ses name < 0
            · exact absurd ⟨.inl hk6, hs⟩ h2
            · omega
          all_goals first | omega | skip
          intro hk8 hne
          by_cases hs : sesAt ses name < 0
          · exact absurd ⟨.inr ⟨hk8, hne⟩, hs⟩ h2
          · omega
  · rw [if_pos (by simpa using hk)] at h; cases h

/-! ### How a season stands -/
structure PS where
  day : Int
  week : Int
  before : Int
  hard : Int
  cnt : Nat → Int
  tap : Nat → Int
structure PS.Ok (t : PS) : Prop where
  day : 0 ≤ t.day ∧ t.day ≤ 14
  week : 0 ≤ t.week ∧ t.week ≤ 1000 * t.day
  before : 0 ≤ t.before ∧ t.before ≤ 100000
  hard : 0 ≤ t.hard ∧ t.hard ≤ t.day
  cnt : ∀ j, 0 ≤ t.cnt j ∧ t.cnt j ≤ t.day
  tap : ∀ j, 0 ≤ t.tap j ∧ t.tap j ≤ 1000 * t.day
  zc : Zero 0 4 t.cnt
  zt : Zero 0 12 t.tap
def rKind (r : D) : Int := (r.cell 0).toI
def rDay (r : D) : Int := (r.cell 1).toI
def rN (r : D) : Int := (r.cell 2).toI
def rLow (r : D) : Int := (r.cell 3).toI
def rHigh (r : D) : Int := (r.cell 4).toI
def rName (r : D) : List UInt8 := (r.cell 5).toS
def wday (first day : Int) : Int := (first + day).tmod 7
/-- Is a rule kept on a day (the state: with what is done on it)? -/
def keepsV (first : Int) (ses : List D) (t : PS) (k : Nat) (r : D) (n : Int) (full ends : Bool) : Bool :=
  bif rKind r == 1 then decide (n < 0) || wday first t.day != rDay r else
  bif rKind r == 2 then decide (n < 0) || (decide (sMin ses n ≤ rN r) || wday first t.day != rDay r) else
  bif rKind r == 3 then decide (t.week ≤ rN r) else
  bif rKind r == 4 then !full || decide (t.week ≥ rN r) else
  bif rKind r == 5 then !sHard ses n || t.hard == 0 || decide (t.day + 1 - t.hard ≥ rN r) else
  bif rKind r == 6 then decide (t.cnt (sesAt ses (rName r)).toNat ≤ rHigh r) && (!full || decide (t.cnt (sesAt ses (rName r)).toNat ≥ rLow r)) else
  bif rKind r == 7 then !ends || decide (100 * t.week ≤ rN r * t.before) else
  bif rKind r == 8 then t.day != rDay r || n == sesAt ses (rName r) else
  decide (t.tap k ≤ rN r)

theorem sesAt_lt' {ses : List D} {s : List UInt8} (h : 0 ≤ sesAt ses s) : sesAt ses s < ses.length := by
  unfold sesAt at h ⊢
  cases hf : ses.findIdx? (fun x => (x.cell 0).toS == s) with
  | none => rw [hf] at h; simp at h
  | some j =>
    rw [List.findIdx?_eq_some_iff_getElem] at hf
    obtain ⟨h1, _⟩ := hf
    simp; omega
theorem small {x : Int} (h : -1000000000000 ≤ x ∧ x ≤ 1000000000000) : IntKind.wrap .i64 x = x := wrapI (by omega) (by omega)
theorem mul_small {a b : Int} (h1 : 0 ≤ a ∧ a ≤ 100000) (h2 : 0 ≤ b ∧ b ≤ 100000) : 0 ≤ a * b ∧ a * b ≤ 10000000000 := by
  refine ⟨Int.mul_nonneg h1.1 h2.1, ?_⟩
  have := Int.mul_le_mul h1.2 h2.2 h2.1 (by omega : (0 : Int) ≤ 100000)
  omega
theorem G95x0_eq (hN : maxLen < N) {first days before : Int} {ses rules : List D} (hg : Good first days before ses rules) {t : PS} (d1 : 0 ≤ t.day ∧ t.day ≤ 14) (d2 : 0 ≤ t.week ∧ t.week ≤ 100000) (d3 : 0 ≤ t.before ∧ t.before ≤ 100000) (d4 : 0 ≤ t.hard ∧ t.hard ≤ 14) {k n : Int} (hk : 0 ≤ k ∧ k < rules.length) (hn : n < ses.length) (full ends : Bool) :
    G95x0 N t.day t.week t.before t.hard (t.cnt 0) (t.cnt 1) (t.cnt 2) (t.cnt 3) (t.tap 0) (t.tap 1) (t.tap 2) (t.tap 3) (t.tap 4) (t.tap 5) (t.tap 6) (t.tap 7) (t.tap 8) (t.tap 9) (t.tap 10) (t.tap 11) k n full ends first ses rules = some (keepsV first ses t k.toNat (rules.getD k.toNat (.i 0)) n full ends) := by
  have hl : ses.length ≤ maxLen := Nat.le_trans hg.nses (by decide)
  have hr := rule_ok hg.gdays.1 (hg.rule _ (getD_mem (.i 0) hk.1 hk.2))
  have hkk := hg.nrules
  have d5 := hg.gfirst; have d6 := hg.gdays
  unfold G95x0 F95x0
  rw [inB_of hk.1 hk.2, G70x0_eq hn]
  simp only [bnd_eq, _root_.cond_true, Option.isSome_some, getD_some]
  generalize rules.getD k.toNat (.i 0) = r at hr ⊢
  have hkind := hr.1
  have hrn := hr.2.2.1
  have e1 : IntKind.wrap .i64 (t.day + 1) = t.day + 1 := small (by omega)
  have e2 : IntKind.wrap .i64 (t.day + 1 - t.hard) = t.day + 1 - t.hard := small (by omega)
  have e3 : IntKind.wrap .i64 (100 * t.week) = 100 * t.week := small (by omega)
  have e4 : IntKind.wrap .i64 ((r.cell 2).toI * t.before) = (r.cell 2).toI * t.before := by
    have := mul_small hrn d3
    exact small (by omega)
  have e5 : IntKind.wrap .i64 (first + t.day) = first + t.day := small (by omega)
  have h12 : inB k 12 = true := inB_of hk.1 (by omega)
  have hk12 : k.toNat < 12 := by omega
  unfold keepsV rKind rDay rN rLow rHigh rName wday
  rcases kinds9 hkind with h | h | h | h | h | h | h | h | h
  all_goals rw [h]
  · simp only [V95x0x19, F95x0x19, V49x0, F49x0, bnd_eq, e5, beq_self_eq_true, _root_.cond_true]
    cases decide (n < 0) <;> rfl
  · simp only [V95x0x25, F95x0x25, V49x0, F49x0, bnd_eq, e5, beq_self_eq_true, _root_.cond_true]
    cases decide (n < 0) <;> cases decide (sMin ses n ≤ (r.cell 2).toI) <;> rfl
  · rfl
  · cases full <;> rfl
  · simp only [e1, e2]
    cases sHard ses n <;> cases t.hard == 0 <;> rfl
  · have hs := hr.2.1 h
    have hs4 : sesAt ses (r.cell 5).toS < 4 := by have := sesAt_lt' hs; have := hg.nses; omega
    have e6 : inB (sesAt ses (r.cell 5).toS) 4 = true := inB_of hs hs4
    simp only [G52x0_eq hN hl, Option.isSome_some, getD_some, e6]
    rw [sel4 t.cnt (show (sesAt ses (r.cell 5).toS).toNat < 4 by omega)]
    simp only [show ((6 : Int) == 1) = false by decide, show ((6 : Int) == 2) = false by decide, show ((6 : Int) == 3) = false by decide, show ((6 : Int) == 4) = false by decide, show ((6 : Int) == 5) = false by decide, beq_self_eq_true, _root_.cond_true, _root_.cond_false]
    cases decide (t.cnt (sesAt ses (r.cell 5).toS).toNat ≤ (r.cell 4).toI) <;> cases full <;> rfl
  · simp only [e3, e4]
    cases ends <;> rfl
  · simp only [G95x0x64, F95x0x64, bnd_eq, G52x0_eq hN hl, Option.isSome_some, getD_some, _root_.cond_true]
    cases t.day != (r.cell 1).toI <;> rfl
  · simp only [h12]
    rw [sel12 t.tap hk12]
    rfl

/-! ### A state without what no rule looks at -/
def plT (day : Int) (off : Nat → Bool) : Int → List D → (Nat → Int) → (Nat → Int)
  | _, [], tp => tp
  | w, r :: l, tp => plT day off (w + 1) l (bif off w.toNat || decide (day ≥ rDay r) then upd tp w.toNat 0 else tp)
def plF (off : Nat → Bool) : Int → List D → (Nat → Bool) → (Nat → Bool)
  | _, [], fl => fl
  | w, r :: l, fl => plF off (w + 1) l (upd fl (rKind r).toNat (fl (rKind r).toNat || !off w.toNat))
theorem for_ind2 {α A X : Type} {xs : List α} (d : α) {S : Int → A → (Int → A → X) → X} {L : Nat → Int → A → X} (hL : ∀ m w a, L (m + 1) w a = S w a (L m)) (spec : Int → List α → A → X) (Inv : Int → A → Prop) (hlen : xs.length ≤ maxLen)
    (hend : ∀ a kr, Inv xs.length a → S xs.length a kr = spec xs.length [] a)
    (hstep : ∀ (w : Int) (a : A) (kr : Int → A → X), 0 ≤ w → w < xs.length → Inv w a → IntKind.wrap .i64 (w + 1) = w + 1 → inB w xs.length = true → (∀ a', Inv (w + 1) a' → kr (w + 1) a' = spec (w + 1) (xs.drop (w + 1).toNat) a') → S w a kr = spec w (xs.getD w.toNat d :: xs.drop (w + 1).toNat) a)
    {N : Nat} (hN : maxLen < N) {a : A} (ha : Inv 0 a) : L N 0 a = spec 0 xs a := by
  have hm : maxLen = 9223372036854775807 := rfl
  have := loop_ind (A := Int × A) (S := fun x kr => S x.1 x.2 (fun w a => kr (w, a))) (L := fun m x => L m x.1 x.2) (fun m x => hL m x.1 x.2) (fun x => spec x.1 (xs.drop x.1.toNat) x.2) (fun x => (0 ≤ x.1 ∧ x.1 ≤ xs.length) ∧ Inv x.1 x.2) (fun x => (xs.length - x.1).toNat) (fun x kr ⟨⟨h0, h1⟩, hi⟩ ih => by
    obtain ⟨w, a⟩ := x
    dsimp only at h0 h1 hi ih ⊢
    by_cases hw : w < xs.length
    · rw [drop_at d h0 hw]
      exact hstep w a _ h0 hw hi (wrapI (by omega) (by omega)) (inB_of h0 hw) fun a' ha' => ih (w + 1, a') ⟨⟨by dsimp only; omega, by dsimp only; omega⟩, ha'⟩ (by dsimp only; omega)
    · have : w = xs.length := by omega
      subst this
      rw [drop_end (by omega)]
      exact hend a _ hi) N (0, a) ⟨⟨Int.le_refl _, by dsimp only; omega⟩, ha⟩ (by dsimp only; omega)
  simpa using this
theorem plT_zero {day : Int} {off : Nat → Bool} : ∀ {l : List D} {w : Int} {tp : Nat → Int}, 0 ≤ w → w + l.length ≤ 12 → Zero 0 12 tp → Zero 0 12 (plT day off w l tp)
  | [], _, _, _, _, h => h
  | r :: l, w, tp, h0, h1, h => by
    simp only [List.length_cons] at h1
    unfold plT
    refine plT_zero (by omega) (by omega) ?_
    cases off w.toNat || decide (day ≥ rDay r) with
    | true => exact h.upd (by omega) _
    | false => exact h
theorem G96x0x16_eq {k : Int} (h0 : 0 ≤ k) (h1 : k < 12) (off fl : Nat → Bool) {kind : Int} (h2 : 0 ≤ kind) (h3 : kind < 10) : G96x0x16 N k (off 0) (off 1) (off 2) (off 3) (off 4) (off 5) (off 6) (off 7) (off 8) (off 9) (off 10) (off 11) (fl 0) (fl 1) (fl 2) (fl 3) (fl 4) (fl 5) (fl 6) (fl 7) (fl 8) (fl 9) kind = some (upd fl kind.toNat (fl kind.toNat || !off k.toNat) 0, upd fl kind.toNat (fl kind.toNat || !off k.toNat) 1, upd fl kind.toNat (fl kind.toNat || !off k.toNat) 2, upd fl kind.toNat (fl kind.toNat || !off k.toNat) 3, upd fl kind.toNat (fl kind.toNat || !off k.toNat) 4, upd fl kind.toNat (fl kind.toNat || !off k.toNat) 5, upd fl kind.toNat (fl kind.toNat || !off k.toNat) 6, upd fl kind.toNat (fl kind.toNat || !off k.toNat) 7, upd fl kind.toNat (fl kind.toNat || !off k.toNat) 8, upd fl kind.toNat (fl kind.toNat || !off k.toNat) 9) := by
  unfold G96x0x16 F96x0x16
  rw [inB_of (n := 10) h2 (by omega), inB_of (n := 12) h0 (by omega), sel10 fl (by omega), sel12 off (by omega)]
  simp only [bnd_eq, _root_.cond_true]
  generalize fl kind.toNat = b
  cases b <;> rfl
theorem G96x0x23_eq {k : Int} (h0 : 0 ≤ k) (h1 : k < 12) (b : Bool) (tp : Nat → Int) : G96x0x23 N k b (tp 0) (tp 1) (tp 2) (tp 3) (tp 4) (tp 5) (tp 6) (tp 7) (tp 8) (tp 9) (tp 10) (tp 11) = some ((bif b then upd tp k.toNat 0 else tp) 0, (bif b then upd tp k.toNat 0 else tp) 1, (bif b then upd tp k.toNat 0 else tp) 2, (bif b then upd tp k.toNat 0 else tp) 3, (bif b then upd tp k.toNat 0 else tp) 4, (bif b then upd tp k.toNat 0 else tp) 5, (bif b then upd tp k.toNat 0 else tp) 6, (bif b then upd tp k.toNat 0 else tp) 7, (bif b then upd tp k.toNat 0 else tp) 8, (bif b then upd tp k.toNat 0 else tp) 9, (bif b then upd tp k.toNat 0 else tp) 10, (bif b then upd tp k.toNat 0 else tp) 11) := by
  unfold G96x0x23 F96x0x23
  rw [inB_of (n := 12) h0 (by omega)]
  cases b <;> rfl
theorem G96x0x9_eq (hN : maxLen < N) {rules : List D} (hl : rules.length ≤ 12) (hk : ∀ r ∈ rules, 1 ≤ rKind r ∧ rKind r ≤ 9) (day : Int) (off fl : Nat → Bool) (tp : Nat → Int) (hz : Zero 0 12 tp) (hf : Zero false 10 fl) :
    G96x0x9 N rules rules.length (off 0) (off 1) (off 2) (off 3) (off 4) (off 5) (off 6) (off 7) (off 8) (off 9) (off 10) (off 11) day 0 (tp 0) (tp 1) (tp 2) (tp 3) (tp 4) (tp 5) (tp 6) (tp 7) (tp 8) (tp 9) (tp 10) (tp 11) (fl 0) (fl 1) (fl 2) (fl 3) (fl 4) (fl 5) (fl 6) (fl 7) (fl 8) (fl 9) = some (plT day off 0 rules tp 0, plT day off 0 rules tp 1, plT day off 0 rules tp 2, plT day off 0 rules tp 3, plT day off 0 rules tp 4, plT day off 0 rules tp 5, plT day off 0 rules tp 6, plT day off 0 rules tp 7, plT day off 0 rules tp 8, plT day off 0 rules tp 9, plT day off 0 rules tp 10, plT day off 0 rules tp 11, plF off 0 rules fl 0, plF off 0 rules fl 1, plF off 0 rules fl 2, plF off 0 rules fl 3, plF off 0 rules fl 4, plF off 0 rules fl 5, plF off 0 rules fl 6, plF off 0 rules fl 7, plF off 0 rules fl 8, plF off 0 rules fl 9) := by
  unfold G96x0x9
  refine (for_ind2 (.i 0 : D) (A := (Nat → Int) × (Nat → Bool)) (S := fun w a kr => S96x0x9 N rules rules.length (off 0) (off 1) (off 2) (off 3) (off 4) (off 5) (off 6) (off 7) (off 8) (off 9) (off 10) (off 11) day w (a.1 0) (a.1 1) (a.1 2) (a.1 3) (a.1 4) (a.1 5) (a.1 6) (a.1 7) (a.1 8) (a.1 9) (a.1 10) (a.1 11) (a.2 0) (a.2 1) (a.2 2) (a.2 3) (a.2 4) (a.2 5) (a.2 6) (a.2 7) (a.2 8) (a.2 9) (fun w' t0 t1 t2 t3 t4 t5 t6 t7 t8 t9 t10 t11 f0 f1 f2 f3 f4 f5 f6 f7 f8 f9 => kr w' (of12 0 t0 t1 t2 t3 t4 t5 t6 t7 t8 t9 t10 t11, of10 false f0 f1 f2 f3 f4 f5 f6 f7 f8 f9)) _) (L := fun m w a => L96x0x9 N rules rules.length (off 0) (off 1) (off 2) (off 3) (off 4) (off 5) (off 6) (off 7) (off 8) (off 9) (off 10) (off 11) day m w (a.1 0) (a.1 1) (a.1 2) (a.1 3) (a.1 4) (a.1 5) (a.1 6) (a.1 7) (a.1 8) (a.1 9) (a.1 10) (a.1 11) (a.2 0) (a.2 1) (a.2 2) (a.2 3) (a.2 4) (a.2 5) (a.2 6) (a.2 7) (a.2 8) (a.2 9) _)
    (fun m w a => rfl) (fun w l a => some (plT day off w l a.1 0, plT day off w l a.1 1, plT day off w l a.1 2, plT day off w l a.1 3, plT day off w l a.1 4, plT day off w l a.1 5, plT day off w l a.1 6, plT day off w l a.1 7, plT day off w l a.1 8, plT day off w l a.1 9, plT day off w l a.1 10, plT day off w l a.1 11, plF off w l a.2 0, plF off w l a.2 1, plF off w l a.2 2, plF off w l a.2 3, plF off w l a.2 4, plF off w l a.2 5, plF off w l a.2 6, plF off w l a.2 7, plF off w l a.2 8, plF off w l a.2 9)) (fun w a => Zero 0 12 a.1 ∧ Zero false 10 a.2) (Nat.le_trans hl (by decide)) ?_ ?_ hN (a := (tp, fl)) ⟨hz, hf⟩).trans rfl
  · intro a kr _; simp [S96x0x9, plT, plF]
  · intro w a kr h0 h1 ⟨i1, i2⟩ hw hi ih
    have hr := hk _ (getD_mem (.i 0) h0 h1)
    have h12 : w < 12 := by omega
    simp only [S96x0x9, decide_eq_true h1, _root_.cond_true, hi, bnd_eq]
    rw [G96x0x16_eq h0 h12 off a.2 (kind := ((rules.getD w.toNat (.i 0)).cell 0).toI) (by unfold rKind at hr; omega) (by unfold rKind at hr; omega), sel12 off (by omega), inB_of (n := 12) h0 (by omega), G96x0x23_eq h0 h12 _ a.1]
    simp only [Option.isSome_some, getD_some, _root_.cond_true, hw]
    rw [of12_eq, of10_eq]
    · rw [ih]
      · rfl
      · refine ⟨?_, i2.upd (by unfold rKind at hr; omega) _⟩
        generalize (bif off w.toNat then true else decide (day ≥ ((rules.getD w.toNat (.i 0)).cell 1).toI)) = b
        cases b with
        | true => exact i1.upd (by omega) _
        | false => exact i1
    · exact i2.upd (by unfold rKind at hr; omega) _
    · generalize (bif off w.toNat then true else decide (day ≥ ((rules.getD w.toNat (.i 0)).cell 1).toI)) = b
      cases b with
      | true => exact i1.upd (by omega) _
      | false => exact i1
/-- A state without what no rule looks at any more. -/
def plainP (off : Nat → Bool) (rules : List D) (t : PS) : PS :=
  { day := t.day
    week := bif plF off 0 rules (fun _ => false) 7 then t.week else bif !plF off 0 rules (fun _ => false) 3 && !plF off 0 rules (fun _ => false) 4 then 0 else t.week
    before := bif plF off 0 rules (fun _ => false) 7 then t.before else 0
    hard := bif plF off 0 rules (fun _ => false) 5 then t.hard else 0
    cnt := bif plF off 0 rules (fun _ => false) 6 then t.cnt else fun _ => 0
    tap := plT t.day off 0 rules t.tap }
theorem G96x0_eq (hN : maxLen < N) {rules : List D} (hl : rules.length ≤ 12) (hk : ∀ r ∈ rules, 1 ≤ rKind r ∧ rKind r ≤ 9) (off : Nat → Bool) (t : PS) (hz : Zero 0 12 t.tap) :
    G96x0 N t.day t.week t.before t.hard (t.cnt 0) (t.cnt 1) (t.cnt 2) (t.cnt 3) (t.tap 0) (t.tap 1) (t.tap 2) (t.tap 3) (t.tap 4) (t.tap 5) (t.tap 6) (t.tap 7) (t.tap 8) (t.tap 9) (t.tap 10) (t.tap 11) rules (off 0) (off 1) (off 2) (off 3) (off 4) (off 5) (off 6) (off 7) (off 8) (off 9) (off 10) (off 11) = some ((plainP off rules t).week, (plainP off rules t).before, (plainP off rules t).hard, (plainP off rules t).cnt 0, (plainP off rules t).cnt 1, (plainP off rules t).cnt 2, (plainP off rules t).cnt 3, (plainP off rules t).tap 0, (plainP off rules t).tap 1, (plainP off rules t).tap 2, (plainP off rules t).tap 3, (plainP off rules t).tap 4, (plainP off rules t).tap 5, (plainP off rules t).tap 6, (plainP off rules t).tap 7, (plainP off rules t).tap 8, (plainP off rules t).tap 9, (plainP off rules t).tap 10, (plainP off rules t).tap 11) := by
  unfold G96x0 F96x0
  have := G96x0x9_eq hN hl hk t.day off (fun _ => false) t.tap hz (fun _ _ => rfl)
  rw [this]
  simp only [bnd_eq, Option.isSome_some, getD_some, _root_.cond_true, V96x0x32, F96x0x32, V96x0x38, F96x0x38, V96x0x44, F96x0x44, V96x0x50, F96x0x50, plainP]
  generalize plF off 0 rules (fun _ => false) = fl
  cases fl 7 <;> cases fl 3 <;> cases fl 4 <;> cases fl 5 <;> cases fl 6 <;> rfl

/-! ### A day -/
theorem G88x0x17_eq {n : Int} (hn : n < 4) {cnt : Nat → Int} (hc : ∀ j, 0 ≤ cnt j ∧ cnt j ≤ 14) : G88x0x17 N n (decide (n ≥ 0)) (cnt 0) (cnt 1) (cnt 2) (cnt 3) = some ((bif decide (n ≥ 0) then upd cnt n.toNat (cnt n.toNat + 1) else cnt) 0, (bif decide (n ≥ 0) then upd cnt n.toNat (cnt n.toNat + 1) else cnt) 1, (bif decide (n ≥ 0) then upd cnt n.toNat (cnt n.toNat + 1) else cnt) 2, (bif decide (n ≥ 0) then upd cnt n.toNat (cnt n.toNat + 1) else cnt) 3) := by
  unfold G88x0x17 F88x0x17
  by_cases h : n ≥ 0
  · have e : IntKind.wrap .i64 (cnt n.toNat + 1) = cnt n.toNat + 1 := by have := hc n.toNat; exact small (by omega)
    rw [decide_eq_true h, inB_of (n := 4) h (by omega), sel4 cnt (by omega)]
    simp only [bnd_eq, _root_.cond_true, e]
    rfl
  · rw [decide_eq_false h]; rfl
theorem V88x0x34_eq {day kind rd low : Int} (h1 : -14 ≤ rd ∧ rd ≤ 30) (h2 : -14 ≤ low ∧ low ≤ 14) : V88x0x34 N day kind rd low = (kind == 9 && !out day (rd - low) (rd - 1)) := by
  unfold V88x0x34 F88x0x34
  rw [small (show -1000000000000 ≤ rd - low ∧ rd - low ≤ 1000000000000 by omega), small (show -1000000000000 ≤ rd - 1 ∧ rd - 1 ≤ 1000000000000 by omega), V48x0_eq]
  cases kind == 9 <;> rfl
theorem G88x0x38_eq {k : Int} (h0 : 0 ≤ k) (h1 : k < 12) (b : Bool) (tp : Nat → Int) {load : Int} (hb : -1000000 ≤ tp k.toNat + load ∧ tp k.toNat + load ≤ 1000000) : G88x0x38 N k b (tp 0) (tp 1) (tp 2) (tp 3) (tp 4) (tp 5) (tp 6) (tp 7) (tp 8) (tp 9) (tp 10) (tp 11) load = some ((bif b then upd tp k.toNat (tp k.toNat + load) else tp) 0, (bif b then upd tp k.toNat (tp k.toNat + load) else tp) 1, (bif b then upd tp k.toNat (tp k.toNat + load) else tp) 2, (bif b then upd tp k.toNat (tp k.toNat + load) else tp) 3, (bif b then upd tp k.toNat (tp k.toNat + load) else tp) 4, (bif b then upd tp k.toNat (tp k.toNat + load) else tp) 5, (bif b then upd tp k.toNat (tp k.toNat + load) else tp) 6, (bif b then upd tp k.toNat (tp k.toNat + load) else tp) 7, (bif b then upd tp k.toNat (tp k.toNat + load) else tp) 8, (bif b then upd tp k.toNat (tp k.toNat + load) else tp) 9, (bif b then upd tp k.toNat (tp k.toNat + load) else tp) 10, (bif b then upd tp k.toNat (tp k.toNat + load) else tp) 11) := by
  unfold G88x0x38 F88x0x38
  rw [inB_of (n := 12) h0 (by omega), sel12 tp (by omega)]
  simp only [bnd_eq, _root_.cond_true, small (show -1000000000000 ≤ tp k.toNat + load ∧ tp k.toNat + load ≤ 1000000000000 by omega)]
  cases b <;> rfl
theorem G88x0x40_eq (hN : maxLen < N) {first days before : Int} {ses rules : List D} (hg : Good first days before ses rules) {t : PS} (d1 : 0 ≤ t.day ∧ t.day ≤ 14) (d2 : 0 ≤ t.week ∧ t.week ≤ 100000) (d3 : 0 ≤ t.before ∧ t.before ≤ 100000) (d4 : 0 ≤ t.hard ∧ t.hard ≤ 14) {k n : Int} (hk : 0 ≤ k ∧ k < rules.length) (hn : n < ses.length) (full ends : Bool) (off : Nat → Bool) :
    G88x0x40 N n full ends k first ses rules (off 0) (off 1) (off 2) (off 3) (off 4) (off 5) (off 6) (off 7) (off 8) (off 9) (off 10) (off 11) t.day t.week t.before t.hard (t.cnt 0) (t.cnt 1) (t.cnt 2) (t.cnt 3) (t.tap 0) (t.tap 1) (t.tap 2) (t.tap 3) (t.tap 4) (t.tap 5) (t.tap 6) (t.tap 7) (t.tap 8) (t.tap 9) (t.tap 10) (t.tap 11) = some (!off k.toNat && !keepsV first ses t k.toNat (rules.getD k.toNat (.i 0)) n full ends) := by
  have := hg.nrules
  unfold G88x0x40 F88x0x40
  rw [inB_of (n := 12) hk.1 (by omega), sel12 off (by omega), G95x0_eq hN hg d1 d2 d3 d4 hk hn full ends]
  simp only [bnd_eq, _root_.cond_true, Option.isSome_some, getD_some]
  cases off k.toNat <;> rfl
def tapUp (ses : List D) (day n : Int) (w : Nat) (r : D) (tp : Nat → Int) : Nat → Int := bif rKind r == 9 && !out day (rDay r - rLow r) (rDay r - 1) then upd tp w (tp w + sLoad ses n) else tp
theorem tap38 {k : Int} (h0 : 0 ≤ k) (h1 : k < 12) (ses : List D) (day n : Int) (r : D) (tp : Nat → Int) (hb : -1000000 ≤ tp k.toNat + sLoad ses n ∧ tp k.toNat + sLoad ses n ≤ 1000000) (h2 : -14 ≤ rDay r ∧ rDay r ≤ 30) (h3 : -14 ≤ rLow r ∧ rLow r ≤ 14) :
    G88x0x38 N k (V88x0x34 N day (r.cell 0).toI (r.cell 1).toI (r.cell 3).toI) (tp 0) (tp 1) (tp 2) (tp 3) (tp 4) (tp 5) (tp 6) (tp 7) (tp 8) (tp 9) (tp 10) (tp 11) (sLoad ses n) = some (tapUp ses day n k.toNat r tp 0, tapUp ses day n k.toNat r tp 1, tapUp ses day n k.toNat r tp 2, tapUp ses day n k.toNat r tp 3, tapUp ses day n k.toNat r tp 4, tapUp ses day n k.toNat r tp 5, tapUp ses day n k.toNat r tp 6, tapUp ses day n k.toNat r tp 7, tapUp ses day n k.toNat r tp 8, tapUp ses day n k.toNat r tp 9, tapUp ses day n k.toNat r tp 10, tapUp ses day n k.toNat r tp 11) := by
  rw [V88x0x34_eq (rd := (r.cell 1).toI) (low := (r.cell 3).toI) h2 h3, G88x0x38_eq h0 h1 _ tp hb]
  rfl
def ruL (first : Int) (ses : List D) (t : PS) (n : Int) (full ends : Bool) (off : Nat → Bool) : Int → List D → (Nat → Int) → Sum (Nat → Int) (Nat → Int)
  | _, [], tp => .inr tp
  | w, r :: l, tp => bif !off w.toNat && !keepsV first ses { t with tap := tapUp ses t.day n w.toNat r tp } w.toNat r n full ends then .inl (tapUp ses t.day n w.toNat r tp)
    else ruL first ses t n full ends off (w + 1) l (tapUp ses t.day n w.toNat r tp)
def sum12 : Sum (Nat → Int) (Nat → Int) → Option (Sum (Int × Int × Int × Int × Int × Int × Int × Int × Int × Int × Int × Int) (Int × Int × Int × Int × Int × Int × Int × Int × Int × Int × Int × Int))
  | .inl tp => some (.inl (tp 0, tp 1, tp 2, tp 3, tp 4, tp 5, tp 6, tp 7, tp 8, tp 9, tp 10, tp 11))
  | .inr tp => some (.inr (tp 0, tp 1, tp 2, tp 3, tp 4, tp 5, tp 6, tp 7, tp 8, tp 9, tp 10, tp 11))
structure TapIn (day w : Int) (tp : Nat → Int) : Prop where
  z : Zero 0 12 tp
  lo : ∀ j, 0 ≤ tp j
  hi : ∀ j, tp j ≤ 1000 * day + 1000
  on : ∀ j, w.toNat ≤ j → tp j ≤ 1000 * day
theorem sLoad_in {first days before : Int} {ses rules : List D} (hg : Good first days before ses rules) {n : Int} (hn : n < ses.length) : 0 ≤ sLoad ses n ∧ sLoad ses n ≤ 1000 := by
  unfold sLoad
  by_cases h : n < 0
  · rw [decide_eq_true h]; simp
  · rw [decide_eq_false h]
    exact (hg.num _ (getD_mem (.i 0) (by omega) hn)).1
theorem TapIn.up {first days before : Int} {ses rules : List D} (hg : Good first days before ses rules) {n : Int} (hn : n < ses.length) {day w : Int} {tp : Nat → Int} (h : TapIn day w tp) (hd : 0 ≤ day) (h0 : 0 ≤ w) (h1 : w < 12) (r : D) : TapIn day (w + 1) (tapUp ses day n w.toNat r tp) := by
  have hs := sLoad_in hg hn
  unfold tapUp
  cases rKind r == 9 && !out day (rDay r - rLow r) (rDay r - 1) with
  | false => exact ⟨h.z, h.lo, h.hi, fun j hj => h.on j (by omega)⟩
  | true =>
    refine ⟨h.z.upd (by omega) _, fun j => ?_, fun j => ?_, fun j hj => ?_⟩
    · by_cases hj : j = w.toNat
      · subst hj; simp only [_root_.cond_true, upd_self]; have := h.lo w.toNat; omega
      · simp only [_root_.cond_true, upd_ne _ _ hj]; exact h.lo j
    · by_cases hj : j = w.toNat
      · subst hj; simp only [_root_.cond_true, upd_self]; have := h.on w.toNat (Nat.le_refl _); omega
      · simp only [_root_.cond_true, upd_ne _ _ hj]; exact h.hi j
    · simp only [_root_.cond_true, upd_ne _ _ (show j ≠ w.toNat by omega)]; exact h.on j (by omega)
theorem G88x0x27_eq (hN : maxLen < N) {first days before : Int} {ses rules : List D} (hg : Good first days before ses rules) {t : PS} (d1 : 0 ≤ t.day ∧ t.day ≤ 14) (d2 : 0 ≤ t.week ∧ t.week ≤ 100000) (d3 : 0 ≤ t.before ∧ t.before ≤ 100000) (d4 : 0 ≤ t.hard ∧ t.hard ≤ 14) {n : Int} (hn : n < ses.length) (full ends : Bool) (off : Nat → Bool) {tp : Nat → Int} (hz : TapIn t.day 0 tp) :
    G88x0x27 N n t.day full ends rules rules.length first ses rules (off 0) (off 1) (off 2) (off 3) (off 4) (off 5) (off 6) (off 7) (off 8) (off 9) (off 10) (off 11) t.day t.week t.before t.hard (t.cnt 0) (t.cnt 1) (t.cnt 2) (t.cnt 3) (sLoad ses n) 0 (tp 0) (tp 1) (tp 2) (tp 3) (tp 4) (tp 5) (tp 6) (tp 7) (tp 8) (tp 9) (tp 10) (tp 11) = sum12 (ruL first ses t n full ends off 0 rules tp) := by
  unfold G88x0x27
  refine (for_ind2 (.i 0 : D) (A := Nat → Int) (S := fun w a kr => S88x0x27 N n t.day full ends rules rules.length first ses rules (off 0) (off 1) (off 2) (off 3) (off 4) (off 5) (off 6) (off 7) (off 8) (off 9) (off 10) (off 11) t.day t.week t.before t.hard (t.cnt 0) (t.cnt 1) (t.cnt 2) (t.cnt 3) (sLoad ses n) w (a 0) (a 1) (a 2) (a 3) (a 4) (a 5) (a 6) (a 7) (a 8) (a 9) (a 10) (a 11) (fun w' t0 t1 t2 t3 t4 t5 t6 t7 t8 t9 t10 t11 => kr w' (of12 0 t0 t1 t2 t3 t4 t5 t6 t7 t8 t9 t10 t11)) _ _) (L := fun m w a => L88x0x27 N n t.day full ends rules rules.length first ses rules (off 0) (off 1) (off 2) (off 3) (off 4) (off 5) (off 6) (off 7) (off 8) (off 9) (off 10) (off 11) t.day t.week t.before t.hard (t.cnt 0) (t.cnt 1) (t.cnt 2) (t.cnt 3) (sLoad ses n) m w (a 0) (a 1) (a 2) (a 3) (a 4) (a 5) (a 6) (a 7) (a 8) (a 9) (a 10) (a 11) _ _)
    (fun m w a => rfl) (fun w l a => sum12 (ruL first ses t n full ends off w l a)) (fun w a => TapIn t.day w a) (Nat.le_trans hg.nrules (by decide)) ?_ ?_ hN (a := tp) hz).trans rfl
  · intro a kr _; simp [S88x0x27, ruL, sum12]
  · intro w a kr h0 h1 i1 hw hi ih
    have hr := rule_ok hg.gdays.1 (hg.rule _ (getD_mem (.i 0) h0 h1))
    have hnr := hg.nrules
    have h12 : w < 12 := by omega
    have hs := sLoad_in hg hn
    have i2 := i1.up hg hn d1.1 h0 h12 (rules.getD w.toNat (.i 0))
    have b1 := i1.lo w.toNat
    have b2 := i1.hi w.toNat
    simp only [S88x0x27, decide_eq_true h1, _root_.cond_true, hi, bnd_eq]
    rw [tap38 h0 h12 ses t.day n (rules.getD w.toNat (.i 0)) a (by omega) (by have := hr.2.2.2.2.1; have := hg.gdays; unfold rDay; omega) hr.2.2.2.1]
    have hk := G88x0x40_eq hN hg (t := { t with tap := tapUp ses t.day n w.toNat (rules.getD w.toNat (.i 0)) a }) d1 d2 d3 d4 ⟨h0, h1⟩ hn full ends off
    dsimp only at hk
    simp only [Option.isSome_some, getD_some, _root_.cond_true, hw, hk, ruL]
    rw [of12_eq i2.z]
    cases !off w.toNat && !keepsV first ses { t with tap := tapUp ses t.day n w.toNat (rules.getD w.toNat (.i 0)) a } w.toNat (rules.getD w.toNat (.i 0)) n full ends with
    | true => rfl
    | false => exact ih _ i2

end Go.Proofs.Ytefmjfcdgadggaa

namespace Go.Proofs.Ytefmjfcdgadggaa
open Go Go.AM
set_option maxHeartbeats 1000000
set_option maxRecDepth 100000
variable {N : Nat}
def fullD (day : Int) : Bool := day.tmod 7 == 6
def endsD (days day : Int) : Bool := fullD day || day == days - 1
/-- The state of a day, with what is done on it. -/
def midP (ses : List D) (t : PS) (n : Int) : PS := { t with week := t.week + sLoad ses n, cnt := bif decide (n ≥ 0) then upd t.cnt n.toNat (t.cnt n.toNat + 1) else t.cnt }
def behP (days : Int) (ses : List D) (t : PS) (n : Int) (tp : Nat → Int) : PS :=
  { day := t.day + 1
    week := bif endsD days t.day then 0 else t.week + sLoad ses n
    before := bif endsD days t.day then t.week + sLoad ses n else t.before
    hard := bif sHard ses n then t.day + 1 else t.hard
    cnt := bif endsD days t.day then fun _ => 0 else (midP ses t n).cnt
    tap := tp }
def pdoes (first days : Int) (ses rules : List D) (off : Nat → Bool) (t : PS) (n : Int) : Option PS :=
  match ruL first ses (midP ses t n) n (fullD t.day) (endsD days t.day) off 0 rules t.tap with
  | .inl _ => none
  | .inr tp => some (plainP off rules (behP days ses t n tp))
def doesT : Option PS → Int × Int × Int × Int × Int × Int × Int × Int × Int × Int × Int × Int × Int × Int × Int × Int × Int × Int × Int × Int × Bool
  | none => (0, 0, 0, 0, 0, 0, 0, 0, 0, 0, 0, 0, 0, 0, 0, 0, 0, 0, 0, 0, false)
  | some t => (t.day, t.week, t.before, t.hard, t.cnt 0, t.cnt 1, t.cnt 2, t.cnt 3, t.tap 0, t.tap 1, t.tap 2, t.tap 3, t.tap 4, t.tap 5, t.tap 6, t.tap 7, t.tap 8, t.tap 9, t.tap 10, t.tap 11, true)
theorem ruL_in {first days before : Int} {ses rules : List D} (hg : Good first days before ses rules) {n : Int} (hn : n < ses.length) {t : PS} (hd : 0 ≤ t.day) {full ends : Bool} {off : Nat → Bool} : ∀ {l : List D} {w : Int} {tp tp' : Nat → Int}, 0 ≤ w → w + l.length ≤ 12 → TapIn t.day w tp → ruL first ses t n full ends off w l tp = .inr tp' → Zero 0 12 tp' ∧ (∀ j, 0 ≤ tp' j) ∧ ∀ j, tp' j ≤ 1000 * t.day + 1000
  | [], w, tp, tp', _, _, h, he => by
    unfold ruL at he
    cases he
    exact ⟨h.z, h.lo, h.hi⟩
  | r :: l, w, tp, tp', h0, h1, h, he => by
    simp only [List.length_cons] at h1
    unfold ruL at he
    have i2 := h.up hg hn hd h0 (by omega) r
    generalize (!off w.toNat && !keepsV first ses { t with tap := tapUp ses t.day n w.toNat r tp } w.toNat r n full ends) = b at he
    cases b with
    | true => cases he
    | false => exact ruL_in hg hn hd (by omega) (by omega) i2 he
theorem kinds_of {first days before : Int} {ses rules : List D} (hg : Good first days before ses rules) : ∀ r ∈ rules, 1 ≤ rKind r ∧ rKind r ≤ 9 := fun r hr => (rule_ok hg.gdays.1 (hg.rule r hr)).1
theorem tapIn_of {t : PS} (ht : t.Ok) : TapIn t.day 0 t.tap := ⟨ht.zt, fun j => (ht.tap j).1, fun j => by have := (ht.tap j).2; omega, fun j _ => (ht.tap j).2⟩
theorem G88x0_eq (hN : maxLen < N) {first days before : Int} {ses rules : List D} (hg : Good first days before ses rules) {t : PS} (ht : t.Ok) (hd : t.day < days) {n : Int} (hn : -1 ≤ n ∧ n < ses.length) (off : Nat → Bool) :
    G88x0 N t.day t.week t.before t.hard (t.cnt 0) (t.cnt 1) (t.cnt 2) (t.cnt 3) (t.tap 0) (t.tap 1) (t.tap 2) (t.tap 3) (t.tap 4) (t.tap 5) (t.tap 6) (t.tap 7) (t.tap 8) (t.tap 9) (t.tap 10) (t.tap 11) n first days ses rules (off 0) (off 1) (off 2) (off 3) (off 4) (off 5) (off 6) (off 7) (off 8) (off 9) (off 10) (off 11) = some (doesT (pdoes first days ses rules off t n)) := by
  have hs := sLoad_in hg hn.2
  have d0 := hg.gdays; have d1 := ht.day; have d2 := ht.week; have d3 := ht.before; have d4 := ht.hard; have d5 := hg.nses
  have e1 : IntKind.wrap .i64 (t.week + sLoad ses n) = t.week + sLoad ses n := small (by omega)
  have e2 : IntKind.wrap .i64 (days - 1) = days - 1 := small (by omega)
  have e3 : IntKind.wrap .i64 (t.day + 1) = t.day + 1 := small (by omega)
  have e4 : (bif (t.day.tmod 7 == 6) then true else (t.day == days - 1)) = endsD days t.day := by unfold endsD fullD; cases t.day.tmod 7 == 6 <;> rfl
  have hm := G88x0x27_eq hN hg (t := midP ses t n) d1 (by dsimp only [midP]; omega) d3 (by dsimp only [midP]; omega) hn.2 (fullD t.day) (endsD days t.day) off (tp := t.tap) (tapIn_of (t := t) ht)
  dsimp only [midP, fullD] at hm
  unfold G88x0 F88x0
  rw [G70x0_eq hn.2, G88x0x17_eq (by omega) (fun j => by have := ht.cnt j; omega)]
  simp only [bnd_eq, Option.isSome_some, getD_some, _root_.cond_true, e1, e2, e4, hm]
  unfold pdoes
  dsimp only [midP, fullD]
  cases hr : ruL first ses { t with week := t.week + sLoad ses n, cnt := bif decide (n ≥ 0) then upd t.cnt n.toNat (t.cnt n.toNat + 1) else t.cnt } n (t.day.tmod 7 == 6) (endsD days t.day) off 0 rules t.tap with
  | inl tp => rfl
  | inr tp =>
    have hz := (ruL_in hg hn.2 (t := midP ses t n) d1.1 (Int.le_refl _) (by have := hg.nrules; omega) (tapIn_of (t := t) ht) hr).1
    have hp := G96x0_eq hN hg.nrules (kinds_of hg) off (behP days ses t n tp) hz
    simp only [sum12, inlB_inr, inrQ_inr, getD_some, Option.isSome_some, _root_.cond_true, _root_.cond_false, V88x0x53, F88x0x53, V88x0x59, F88x0x59, e3]
    unfold doesT
    dsimp only
    revert hp
    generalize hpp : plainP off rules (behP days ses t n tp) = q
    have hq : q.day = t.day + 1 := by rw [← hpp]; rfl
    unfold behP midP
    dsimp only
    cases endsD days t.day <;> cases sHard ses n <;> intro hp <;> simp only [_root_.cond_true, _root_.cond_false] at hp ⊢ <;> rw [hp, hq] <;> rfl
end Go.Proofs.Ytefmjfcdgadggaa

namespace Go.Proofs.Ytefmjfcdgadggaa
open Go Go.AM
set_option maxHeartbeats 1000000
set_option maxRecDepth 100000
variable {N : Nat}
/-! ### A day leaves a state in order -/
theorem plT_or {day : Int} {off : Nat → Bool} : ∀ {l : List D} {w : Int} {tp : Nat → Int} (j : Nat), plT day off w l tp j = 0 ∨ plT day off w l tp j = tp j
 | [], _, _, _ => .inr rfl
 | r :: l, w, tp, j => by
  unfold plT
  rcases plT_or (day := day) (off := off) (l := l) (w := w + 1) (tp := bif off w.toNat || decide (day ≥ rDay r) then upd tp w.toNat 0 else tp) j with h | h
  ·exact .inl h
  ·rw [h]
   cases off w.toNat || decide (day ≥ rDay r) with
   | false => exact .inr rfl
   | true =>
    by_cases hj : j = w.toNat
    ·subst hj; exact .inl (upd_self _ _ _)
    ·exact .inr (upd_ne _ _ hj)
theorem pdoes_ok {first days before : Int} {ses rules : List D} (hg : Good first days before ses rules) {t t' : PS} (ht : t.Ok) (hd : t.day < days) {n : Int} (hn : -1 ≤ n ∧ n < ses.length) {off : Nat → Bool} (h : pdoes first days ses rules off t n = some t') : t'.Ok ∧ t'.day = t.day + 1 := by
 have hs := sLoad_in hg hn.2
 have d0 := hg.gdays; have d1 := ht.day; have d2 := ht.week; have d3 := ht.before; have d4 := ht.hard; have d5 := hg.nses; have d6 := hg.nrules
 unfold pdoes at h
 cases hr : ruL first ses (midP ses t n) n (fullD t.day) (endsD days t.day) off 0 rules t.tap with
 | inl tp => rw [hr] at h; cases h
 | inr tp =>
  rw [hr] at h
  simp only [Option.some.injEq] at h
  obtain ⟨hz, hlo, hhi⟩ := ruL_in hg hn.2 (t := midP ses t n) d1.1 (Int.le_refl _) (by omega) (tapIn_of (t := t) ht) hr
  have hcz : Zero 0 4 (midP ses t n).cnt := by
   unfold midP
   by_cases h0 : n ≥ 0
   ·rw [decide_eq_true h0]; exact ht.zc.upd (by omega) _
   ·rw [decide_eq_false h0]; exact ht.zc
  have hcb : ∀ j, 0 ≤ (midP ses t n).cnt j ∧ (midP ses t n).cnt j ≤ t.day + 1 := by
   intro j
   have := ht.cnt j
   unfold midP
   by_cases h0 : n ≥ 0
   ·rw [decide_eq_true h0]
    by_cases hj : j = n.toNat
    ·subst hj; simp only [_root_.cond_true, upd_self]; omega
    ·simp only [_root_.cond_true, upd_ne _ _ hj]; omega
   ·rw [decide_eq_false h0]; simp only [_root_.cond_false]; omega
  subst h
  refine ⟨⟨?_, ?_, ?_, ?_, fun j => ?_, fun j => ?_, ?_, ?_⟩, rfl⟩
  ·show 0 ≤ t.day + 1 ∧ t.day + 1 ≤ 14; omega
  ·simp only [plainP, behP]
   generalize plF off 0 rules (fun _ => false) = fl
   cases fl 7 <;> cases fl 3 <;> cases fl 4 <;> cases endsD days t.day <;> simp <;> omega
  ·simp only [plainP, behP]
   generalize plF off 0 rules (fun _ => false) = fl
   cases fl 7 <;> cases endsD days t.day <;> simp <;> omega
  ·simp only [plainP, behP]
   generalize plF off 0 rules (fun _ => false) = fl
   cases fl 5 <;> cases sHard ses n <;> simp <;> omega
  ·have := hcb j
   simp only [plainP, behP]
   generalize plF off 0 rules (fun _ => false) = fl
   cases fl 6 <;> cases endsD days t.day <;> simp <;> omega
  ·simp only [plainP, behP]
   rcases plT_or (day := t.day + 1) (off := off) (l := rules) (w := 0) (tp := tp) j with h | h
   ·rw [h]; omega
   ·have a := hlo j
    have b := hhi j
    simp only [midP] at b
    rw [h]; omega
  ·simp only [plainP, behP]
   generalize plF off 0 rules (fun _ => false) = fl
   cases fl 6 <;> cases endsD days t.day <;> first | exact hcz | exact fun _ _ => rfl
  ·simp only [plainP, behP]
   exact plT_zero (Int.le_refl _) (by omega) hz
/-! ### The search, without what was seen -/
abbrev R3 := Int × Int × Int
def pbetter (r o : R3) : Bool := bif decide (r.1 > 0) then (bif (bif (o.1 == 0) then true else (decide (r.2.1 < o.2.1))) then true else (bif (r.2.1 == o.2.1) then (decide (r.2.2 > o.2.2)) else false)) else false
def upto (n : Int) : Nat → List Int
 | 0 => []
 | k + 1 => n :: upto (n + 1) k
/-- What can be done on a day. -/
def least (done : List D) (day : Int) : Int := bif decide (day < done.length) then (done.getD day.toNat (.i 0)).toI else -1
def most (ses done : List D) (day : Int) : Int := bif decide (day < done.length) then (done.getD day.toNat (.i 0)).toI else ses.length - 1
def ns (ses done : List D) (day : Int) : List Int := upto (least done day) (most ses done day + 1 - least done day).toNat
def differs (done plan : List D) (day n : Int) : Bool := decide (day ≥ done.length) && (decide (day < plan.length) && (plan.getD day.toNat (.i 0)).toI != n)
def addR (ses done plan : List D) (day n : Int) (r : R3) : R3 := bif r.1 == 0 then r else (r.1, bif differs done plan day n then r.2.1 + 1 else r.2.1, r.2.2 + sWorth ses n)
/-- A row of right numbers of what was done. -/
def DoneOk (ses done : List D) : Prop := ∀ x ∈ done, -1 ≤ x.toI ∧ x.toI < ses.length
section
variable (first days : Int) (ses rules : List D) (off : Nat → Bool) (done plan : List D)
end
end Go.Proofs.Ytefmjfcdgadggaa

namespace Go.Proofs.Ytefmjfcdgadggaa
open Go Go.AM
set_option maxHeartbeats 2000000
set_option maxRecDepth 100000
variable {N : Nat}
theorem loop_indP {A X : Type} {S : A → (A → X) → X} {L : Nat → A → X} (hL : ∀ m a, L (m + 1) a = S a (L m)) (P : A → X → Prop) (Inv : A → Prop) (μ : A → Nat)
  (h : ∀ a kr, Inv a → (∀ a', Inv a' → μ a' < μ a → P a' (kr a')) → P a (S a kr)) : ∀ (m : Nat) (a : A), Inv a → μ a < m → P a (L m a) := by
 intro m
 induction m with
 | zero => intro a _ h; omega
 | succ m ih => intro a ha hm; rw [hL]; exact h a (L m) ha fun a' h1 h2 => ih a' h1 (by omega)
section
variable {first days before : Int} {ses rules : List D} {off : Nat → Bool} {done plan : List D}
theorem sWorth_in (hg : Good first days before ses rules) {n : Int} (hn : n < ses.length) : 0 ≤ sWorth ses n ∧ sWorth ses n ≤ 1000 := by
 unfold sWorth
 by_cases h : n < 0
 ·rw [decide_eq_true h]; simp
 ·rw [decide_eq_false h]
  exact (hg.num _ (getD_mem (.i 0) (by omega) hn)).2.2
end
end Go.Proofs.Ytefmjfcdgadggaa

namespace Go.Proofs.Ytefmjfcdgadggaa
open Go Go.AM
set_option maxHeartbeats 2000000
set_option maxRecDepth 100000
variable {N : Nat}
section
variable {first days before : Int} {ses rules : List D} {off : Nat → Bool} {done plan : List D} {nb rb db pb : Bool}
variable (first days ses rules off done plan) in
end
end Go.Proofs.Ytefmjfcdgadggaa

namespace Go.Proofs.Ytefmjfcdgadggaa
open Go Go.AM
set_option maxHeartbeats 2000000
set_option maxRecDepth 100000
/-! ### What was done, the last day first, and what the rules see of it -/
section
variable (before : Int) (ses : List D)
def hWk : List Int → Int
 | [] => 0
 | n :: h => bif fullD h.length then 0 else hWk h + sLoad ses n
def hBef : List Int → Int
 | [] => before
 | n :: h => bif fullD h.length then hWk ses h + sLoad ses n else hBef h
def hHard : List Int → Int
 | [] => 0
 | n :: h => bif sHard ses n then h.length + 1 else hHard h
def hCnt (i : Int) : List Int → Int
 | [] => 0
 | n :: h => bif fullD h.length then 0 else hCnt i h + (bif n == i then 1 else 0)
def inWin (r : D) (day : Int) : Bool := !out day (rDay r - rLow r) (rDay r - 1)
def hTap (r : D) : List Int → Int
 | [] => 0
 | n :: h => bif decide ((h.length : Int) + 1 ≥ rDay r) then 0 else hTap r h + (bif inWin r h.length then sLoad ses n else 0)
end
/-- Is a rule kept on the day behind h, if n is done? -/
def V (first days before : Int) (ses : List D) (r : D) (h : List Int) (n : Int) : Bool :=
 bif rKind r == 1 then decide (n < 0) || wday first h.length != rDay r else
 bif rKind r == 2 then decide (n < 0) || (decide (sMin ses n ≤ rN r) || wday first h.length != rDay r) else
 bif rKind r == 3 then decide (hWk ses h + sLoad ses n ≤ rN r) else
 bif rKind r == 4 then !fullD h.length || decide (hWk ses h + sLoad ses n ≥ rN r) else
 bif rKind r == 5 then !sHard ses n || hHard ses h == 0 || decide ((h.length : Int) + 1 - hHard ses h ≥ rN r) else
 bif rKind r == 6 then decide (hCnt (sesAt ses (rName r)) h + (bif n == sesAt ses (rName r) then 1 else 0) ≤ rHigh r) && (!fullD h.length || decide (hCnt (sesAt ses (rName r)) h + (bif n == sesAt ses (rName r) then 1 else 0) ≥ rLow r)) else
 bif rKind r == 7 then !endsD days h.length || decide (100 * (hWk ses h + sLoad ses n) ≤ rN r * hBef before ses h) else
 bif rKind r == 8 then (h.length : Int) != rDay r || n == sesAt ses (rName r) else
 decide (hTap ses r h + (bif inWin r h.length then sLoad ses n else 0) ≤ rN r)
/-! ### The program's state and what was done -/
section
variable (before : Int) (ses rules : List D) (off : Nat → Bool)
def active (k : Int) : Bool := plF off 0 rules (fun _ => false) k.toNat
structure PRel (days : Int) (t : PS) (h : List Int) : Prop where
 day : t.day = h.length
 week : h.length < days → (active rules off 3 = true ∨ active rules off 4 = true ∨ active rules off 7 = true) → t.week = hWk ses h
 bef : h.length < days → active rules off 7 = true → t.before = hBef before ses h
 hard : h.length < days → active rules off 5 = true → t.hard = hHard ses h
 cnt : h.length < days → active rules off 6 = true → ∀ i : Nat, i < 4 → t.cnt i = hCnt i h
 tap : h.length < days → ∀ k : Nat, k < rules.length → off k = false → rKind (rules.getD k (.i 0)) = 9 → t.tap k = hTap ses (rules.getD k (.i 0)) h
end
theorem plF_mono {off : Nat → Bool} : ∀ {l : List D} {w : Int} {fl : Nat → Bool} {j : Nat}, fl j = true → plF off w l fl j = true
 | [], _, _, _, h => h
 | r :: l, w, fl, j, h => by
  unfold plF
  refine plF_mono ?_
  by_cases hj : j = (rKind r).toNat
  ·subst hj; rw [upd_self, h]; rfl
  ·rw [upd_ne _ _ hj]; exact h
theorem plF_on {off : Nat → Bool} : ∀ {l : List D} {w : Int} {fl : Nat → Bool} {k : Nat}, 0 ≤ w → k < l.length → off (w.toNat + k) = false → plF off w l fl (rKind (l.getD k (.i 0))).toNat = true
 | [], _, _, _, _, h, _ => by simp at h
 | r :: l, w, fl, 0, h0, h, ho => by
  unfold plF
  refine plF_mono ?_
  simp only [List.getD_cons_zero]
  rw [upd_self]
  simp only [Nat.add_zero] at ho
  rw [ho]; simp
 | r :: l, w, fl, k + 1, h0, h, ho => by
  unfold plF
  simp only [List.getD_cons_succ]
  refine plF_on (by omega) (by simpa using h) ?_
  rw [show (w + 1).toNat + k = w.toNat + (k + 1) by omega]; exact ho
theorem active_of {rules : List D} {off : Nat → Bool} {k : Nat} (hk : k < rules.length) (ho : off k = false) {j : Int} (hj : rKind (rules.getD k (.i 0)) = j) : active rules off j = true := by
 unfold active
 rw [← hj]
 exact plF_on (Int.le_refl _) hk (by simpa using ho)
/-- The verdict of the program is the rule's. -/
theorem keepsV_V {first days before : Int} {ses rules : List D} (hg : Good first days before ses rules) {off : Nat → Bool} {t : PS} {h : List Int} (hr : PRel before ses rules off days t h) (hd : h.length < days) {n : Int} (hn : -1 ≤ n ∧ n < ses.length) {k : Nat} (hk : k < rules.length) (ho : off k = false) {tp : Nat → Int} (htp : tp k = t.tap k) :
  keepsV first ses { midP ses t n with tap := tapUp ses t.day n k (rules.getD k (.i 0)) tp } k (rules.getD k (.i 0)) n (fullD t.day) (endsD days t.day) = V first days before ses (rules.getD k (.i 0)) h n := by
 have hx := rule_ok hg.gdays.1 (hg.rule _ (getD_mem (w := (k : Int)) (.i 0) (by omega) (by omega)))
 rw [Int.toNat_natCast] at hx
 have h9 := kinds9 hx.1
 have a3 := active_of (j := 3) hk ho
 have a4 := active_of (j := 4) hk ho
 have a5 := active_of (j := 5) hk ho
 have a6 := active_of (j := 6) hk ho
 have a7 := active_of (j := 7) hk ho
 have h4 := hg.nses
 have hday := hr.day
 generalize hrr : rules.getD k (.i 0) = r at *
 have htap := hr.tap hd k hk ho
 rw [hrr] at htap
 have hkk : (rKind r = 1 ∨ rKind r = 2 ∨ rKind r = 3 ∨ rKind r = 4 ∨ rKind r = 5 ∨ rKind r = 6 ∨ rKind r = 7 ∨ rKind r = 8 ∨ rKind r = 9) := h9
 unfold keepsV V midP
 dsimp only
 rw [hday]
 rcases hkk with e | e | e | e | e | e | e | e | e
 ·rw [e]; rfl
 ·rw [e]; rfl
 ·rw [hr.week hd (.inl (a3 e)), e]; rfl
 ·rw [hr.week hd (.inr (.inl (a4 e))), e]; rfl
 ·rw [hr.hard hd (a5 e), e]; rfl
 ·have hs := hx.2.1 e
  have hs4 := sesAt_lt' hs
  have ec : (bif decide (n ≥ 0) then upd t.cnt n.toNat (t.cnt n.toNat + 1) else t.cnt) (sesAt ses (rName r)).toNat = hCnt (sesAt ses (rName r)) h + (bif n == sesAt ses (rName r) then 1 else 0) := by
   have hc := hr.cnt hd (a6 e)
   have hs' : ((sesAt ses (rName r)).toNat : Int) = sesAt ses (rName r) := Int.toNat_of_nonneg hs
   have hc2 := hc (sesAt ses (rName r)).toNat (by have : sesAt ses (rName r) < ses.length := hs4; omega)
   rw [hs'] at hc2
   by_cases h0 : n ≥ 0
   ·rw [decide_eq_true h0]
    simp only [_root_.cond_true]
    by_cases hj : n = sesAt ses (rName r)
    ·rw [← hj, upd_self]
     rw [← hj] at hc2
     rw [hc2]; simp
    ·rw [upd_ne _ _ (by have : 0 ≤ sesAt ses (rName r) := hs; omega), hc2]
     have : (n == sesAt ses (rName r)) = false := by simpa using hj
     rw [this]; simp
   ·rw [decide_eq_false h0]
    have : (n == sesAt ses (rName r)) = false := by rw [beq_eq_false_iff_ne]; have : 0 ≤ sesAt ses (rName r) := hs; omega
    rw [this]
    simp only [_root_.cond_false]
    rw [hc2]; simp
  simp only [ec]
  rw [e]; rfl
 ·rw [hr.week hd (.inr (.inr (a7 e))), hr.bef hd (a7 e), e]; rfl
 ·rw [e]; rfl
 ·have et : tapUp ses (h.length : Int) n k r tp k = hTap ses r h + (bif inWin r h.length then sLoad ses n else 0) := by
   unfold tapUp
   rw [e]
   simp only [beq_self_eq_true, Bool.true_and]
   show (bif inWin r h.length then upd tp k (tp k + sLoad ses n) else tp) k = _
   cases inWin r h.length with
   | true => simp only [_root_.cond_true, upd_self, htp, htap e]
   | false => simp only [_root_.cond_false, htp, htap e]; simp
  simp only [et]
  rw [e]; rfl
end Go.Proofs.Ytefmjfcdgadggaa

namespace Go.Proofs.Ytefmjfcdgadggaa
open Go Go.AM
set_option maxHeartbeats 2000000
set_option maxRecDepth 100000
def accF (f : Nat → D → Bool) : Nat → List D → Bool
 | _, [] => true
 | k, r :: l => f k r && accF f (k + 1) l
theorem plT_lt {day : Int} {off : Nat → Bool} : ∀ {l : List D} {w : Int} {tp : Nat → Int} {j : Nat}, 0 ≤ w → (j : Int) < w → plT day off w l tp j = tp j
 | [], _, _, _, _, _ => rfl
 | r :: l, w, tp, j, h0, h => by
  unfold plT
  rw [plT_lt (by omega) (by omega)]
  cases off w.toNat || decide (day ≥ rDay r) with
  | true => exact upd_ne _ _ (by omega)
  | false => rfl
theorem plT_at {day : Int} {off : Nat → Bool} : ∀ {l : List D} {w : Int} {tp : Nat → Int} {k : Nat}, 0 ≤ w → k < l.length → plT day off w l tp (w.toNat + k) = bif off (w.toNat + k) || decide (day ≥ rDay (l.getD k (.i 0))) then 0 else tp (w.toNat + k)
 | [], _, _, _, _, h => by simp at h
 | r :: l, w, tp, 0, h0, _ => by
  unfold plT
  rw [Nat.add_zero, plT_lt (by omega) (by omega)]
  simp only [List.getD_cons_zero]
  cases off w.toNat || decide (day ≥ rDay r) with
  | true => exact upd_self _ _ _
  | false => rfl
 | r :: l, w, tp, k + 1, h0, h => by
  unfold plT
  have := plT_at (day := day) (off := off) (l := l) (w := w + 1) (tp := bif off w.toNat || decide (day ≥ rDay r) then upd tp w.toNat 0 else tp) (k := k) (by omega) (by simpa using h)
  rw [show (w + 1).toNat + k = w.toNat + (k + 1) by omega] at this
  rw [this, List.getD_cons_succ]
  congr 1
  cases off w.toNat || decide (day ≥ rDay r) with
  | true => exact upd_ne _ _ (by omega)
  | false => rfl
section
variable {first days before : Int} {ses rules : List D} {off : Nat → Bool}
theorem tapUp_ne {ses : List D} {day n : Int} {k j : Nat} {r : D} {tp : Nat → Int} (h : j ≠ k) : tapUp ses day n k r tp j = tp j := by
 unfold tapUp
 cases rKind r == 9 && !out day (rDay r - rLow r) (rDay r - 1) with
 | true => exact upd_ne _ _ h
 | false => rfl
theorem tapUp_at {ses : List D} {day n : Int} {k : Nat} {r : D} {tp tp' : Nat → Int} (h : tp k = tp' k) : tapUp ses day n k r tp k = tapUp ses day n k r tp' k := by
 unfold tapUp
 cases rKind r == 9 && !out day (rDay r - rLow r) (rDay r - 1) with
 | true => simp only [_root_.cond_true, upd_self, h]
 | false => exact h
theorem ruL_spec (hg : Good first days before ses rules) {t : PS} {h : List Int} (hr : PRel before ses rules off days t h) (hd : h.length < days) {n : Int} (hn : -1 ≤ n ∧ n < ses.length) : ∀ {l : List D} {w : Nat} {tp : Nat → Int}, rules.drop w = l → (∀ k, w ≤ k → tp k = t.tap k) →
  (accF (fun k r => off k || V first days before ses r h n) w l = true → ∃ tp', ruL first ses (midP ses t n) n (fullD t.day) (endsD days t.day) off w l tp = .inr tp' ∧ (∀ k, k < w → tp' k = tp k) ∧ ∀ k, w ≤ k → k < rules.length → tp' k = tapUp ses t.day n k (rules.getD k (.i 0)) t.tap k) ∧
  (accF (fun k r => off k || V first days before ses r h n) w l = false → ∃ tp', ruL first ses (midP ses t n) n (fullD t.day) (endsD days t.day) off w l tp = .inl tp')
 | [], w, tp, hl, htp => by
  have hlen : rules.length ≤ w := List.drop_eq_nil_iff.1 hl
  exact ⟨fun _ => ⟨tp, rfl, fun _ _ => rfl, fun k h1 h2 => by omega⟩, fun h => by cases h⟩
 | r :: l, w, tp, hl, htp => by
  have hlen : w < rules.length := by
   rcases Nat.lt_or_ge w rules.length with h | h
   ·exact h
   ·rw [List.drop_eq_nil_of_le h] at hl; cases hl
  have hdrop := List.drop_eq_getElem_cons hlen
  rw [hl] at hdrop
  obtain ⟨hr1, hl1⟩ := List.cons.inj hdrop
  have hrw : rules.getD w (.i 0) = r := by rw [List.getD_eq_getElem?_getD, List.getElem?_eq_getElem hlen]; exact hr1.symm
  have ih := ruL_spec hg hr hd hn (l := l) (w := w + 1) (tp := tapUp ses t.day n w r tp) hl1.symm fun k hk => by rw [tapUp_ne (by omega)]; exact htp k (by omega)
  have hcond : (!off w && !keepsV first ses { midP ses t n with tap := tapUp ses (midP ses t n).day n w r tp } w r n (fullD t.day) (endsD days t.day)) = !(off w || V first days before ses r h n) := by
   cases ho : off w with
   | true => rfl
   | false =>
    have := keepsV_V hg hr hd hn hlen ho (tp := tp) (htp w (Nat.le_refl _))
    rw [hrw] at this
    rw [← this]
    rfl
  unfold accF ruL
  simp only [Int.toNat_natCast]
  rw [hcond]
  cases hv : off w || V first days before ses r h n with
  | false =>
   refine ⟨fun h => by simp at h, fun _ => ⟨_, rfl⟩⟩
  | true =>
   simp only [Bool.not_true, _root_.cond_false, Bool.true_and]
   have hcast : ((w : Int) + 1) = ((w + 1 : Nat) : Int) := by simp
   rw [hcast]
   refine ⟨fun h => ?_, fun h => ih.2 h⟩
   obtain ⟨tp', h1, h2, h3⟩ := ih.1 h
   refine ⟨tp', h1, fun k hk => ?_, fun k hk hk2 => ?_⟩
   ·rw [h2 k (by omega), tapUp_ne (by omega)]
   ·rcases Nat.eq_or_lt_of_le hk with rfl | hk
    ·rw [h2 _ (by omega), hrw]
     exact tapUp_at (htp _ (Nat.le_refl _))
    ·exact h3 k hk hk2
/-- Is a day right by all active rules? -/
def accP (first days before : Int) (ses rules : List D) (off : Nat → Bool) (h : List Int) (n : Int) : Bool := accF (fun k r => off k || V first days before ses r h n) 0 rules
theorem pdoes_rel (hg : Good first days before ses rules) {t : PS} {h : List Int} (hr : PRel before ses rules off days t h) (hd : h.length < days) {n : Int} (hn : -1 ≤ n ∧ n < ses.length) :
  (accP first days before ses rules off h n = true → ∃ t', pdoes first days ses rules off t n = some t' ∧ PRel before ses rules off days t' (n :: h)) ∧ (accP first days before ses rules off h n = false → pdoes first days ses rules off t n = none) := by
 have hs := ruL_spec hg hr hd hn (l := rules) (w := 0) (tp := t.tap) rfl fun _ _ => rfl
 unfold accP pdoes
 refine ⟨fun ha => ?_, fun ha => ?_⟩
 ·obtain ⟨tp', h1, _, h3⟩ := hs.1 ha
  have h1 : ruL first ses (midP ses t n) n (fullD t.day) (endsD days t.day) off 0 rules t.tap = .inr tp' := h1
  rw [h1]
  refine ⟨_, rfl, ⟨?_, ?_, ?_, ?_, ?_, ?_⟩⟩
  ·show t.day + 1 = ((n :: h).length : Int)
   rw [hr.day]; simp
  all_goals
   intro hd2
   have hd3 : (h.length : Int) + 1 < days := by simpa using hd2
   have he : endsD days t.day = fullD h.length := by
    unfold endsD
    rw [hr.day]
    have : ((h.length : Int) == days - 1) = false := by rw [beq_eq_false_iff_ne]; omega
    rw [this, Bool.or_false]
  ·intro hact
   have hw := hr.week hd hact
   show (bif active rules off 7 then (behP days ses t n tp').week else bif !active rules off 3 && !active rules off 4 then 0 else (behP days ses t n tp').week) = _
   have : (bif active rules off 7 then (behP days ses t n tp').week else bif !active rules off 3 && !active rules off 4 then 0 else (behP days ses t n tp').week) = (behP days ses t n tp').week := by
    rcases hact with h | h | h <;> rw [h]
    ·cases active rules off 7 <;> rfl
    ·cases active rules off 7 <;> cases active rules off 3 <;> rfl
    ·rfl
   rw [this]
   unfold behP
   dsimp only
   rw [he, hw]
   rfl
  ·intro hact
   show (bif active rules off 7 then (behP days ses t n tp').before else 0) = _
   rw [hact]
   unfold behP
   dsimp only
   rw [he, hr.week hd (.inr (.inr hact)), hr.bef hd hact]
   rfl
  ·intro hact
   show (bif active rules off 5 then (behP days ses t n tp').hard else 0) = _
   rw [hact]
   unfold behP
   dsimp only
   rw [hr.hard hd hact, hr.day]
   rfl
  ·intro hact i hi
   show (bif active rules off 6 then (behP days ses t n tp').cnt else fun _ => 0) i = _
   rw [hact]
   unfold behP midP
   dsimp only
   rw [he]
   show _ = bif fullD h.length then 0 else hCnt i h + (bif n == (i : Int) then 1 else 0)
   cases fullD h.length with
   | true => rfl
   | false =>
    simp only [_root_.cond_true, _root_.cond_false]
    have hc := hr.cnt hd hact i hi
    by_cases h0 : n ≥ 0
    ·rw [decide_eq_true h0]
     simp only [_root_.cond_true]
     by_cases hj : n = i
     ·subst hj
      simp only [Int.toNat_natCast, upd_self, hc, beq_self_eq_true, _root_.cond_true]
     ·rw [upd_ne _ _ (by omega), hc]
      have : (n == (i : Int)) = false := by simpa using hj
      rw [this]; simp
    ·rw [decide_eq_false h0]
     have : (n == (i : Int)) = false := by rw [beq_eq_false_iff_ne]; omega
     rw [this]
     simp only [_root_.cond_false]
     rw [hc]; simp
  ·intro k hk ho h9
   show plT (t.day + 1) off 0 rules tp' k = _
   have := plT_at (day := t.day + 1) (off := off) (l := rules) (w := 0) (tp := tp') (k := k) (Int.le_refl _) hk
   simp only [Int.toNat_zero, Nat.zero_add] at this
   rw [this, ho, h3 k (Nat.zero_le _) hk, hr.day]
   simp only [Bool.false_or]
   show _ = bif decide ((h.length : Int) + 1 ≥ rDay (rules.getD k (.i 0))) then 0 else hTap ses (rules.getD k (.i 0)) h + (bif inWin (rules.getD k (.i 0)) h.length then sLoad ses n else 0)
   congr 1
   unfold tapUp
   rw [h9]
   simp only [beq_self_eq_true, Bool.true_and]
   show (bif inWin (rules.getD k (.i 0)) h.length then upd t.tap k (t.tap k + sLoad ses n) else t.tap) k = _
   have htap := hr.tap hd k hk ho h9
   cases inWin (rules.getD k (.i 0)) h.length with
   | true => simp only [_root_.cond_true, upd_self, htap]
   | false => simp only [_root_.cond_false, htap]; simp
 ·obtain ⟨tp', h1⟩ := hs.2 ha
  have h1 : ruL first ses (midP ses t n) n (fullD t.day) (endsD days t.day) off 0 rules t.tap = .inl tp' := h1
  rw [h1]
end
end Go.Proofs.Ytefmjfcdgadggaa

namespace Go.Proofs.Ytefmjfcdgadggaa
open Go Go.AM
set_option maxHeartbeats 2000000
set_option maxRecDepth 100000
/-! ### The best of all that can come, with its plan -/
abbrev RP := R3 × List Int
def dstep (acc : Int × RP) (c : RP) : Int × RP := (acc.1 + c.1.1, bif pbetter c.1 acc.2.1 then c else acc.2)
section
variable (acc : List Int → Int → Bool) (ses done plan : List D)
def DD : Nat → List Int → RP
 | 0, _ => ((1, 0, 0), [])
 | m + 1, h =>
  let a := (ns ses done h.length).foldl (fun x n => dstep x (bif acc h n then (addR ses done plan h.length n (DD m (n :: h)).1, n :: (DD m (n :: h)).2) else ((0, 0, 0), []))) (0, ((0, 0, 0), []))
  ((a.1, a.2.1.2.1, a.2.1.2.2), a.2.2)
end
section
variable {first days before : Int} {ses rules : List D} {off : Nat → Bool} {done plan : List D}
end
/-- r is worth as much as o, or more. -/
def geq (r o : R3) : Prop := r.2.1 < o.2.1 ∨ (r.2.1 = o.2.1 ∧ r.2.2 ≥ o.2.2)
def gtr (r o : R3) : Prop := r.2.1 < o.2.1 ∨ (r.2.1 = o.2.1 ∧ r.2.2 > o.2.2)
end Go.Proofs.Ytefmjfcdgadggaa

namespace Go.Proofs.Ytefmjfcdgadggaa
open Go Go.AM
set_option maxHeartbeats 2000000
set_option maxRecDepth 100000
variable {N : Nat}
/-! ### The pick -/
section
variable {acc : List Int → Int → Bool} {ses done plan : List D}
end
section
variable {first days before : Int} {ses rules : List D} {off : Nat → Bool} {done plan : List D} {nb rb db pb : Bool}
end
end Go.Proofs.Ytefmjfcdgadggaa

namespace Go.Proofs.Ytefmjfcdgadggaa
open Go Go.AM
set_option maxHeartbeats 2000000
set_option maxRecDepth 100000
variable {N : Nat}
theorem roomOk {k : Nat} (h : k ≤ 1000) : (decide ((k + 1) * 8 ≤ room) && decide ((k + 1) ≤ strMax)) = true := by
 have h1 : room = 140737488355328 := rfl
 have h2 : strMax = 9223372036854775807 := rfl
 rw [decide_eq_true (by omega), decide_eq_true (by omega)]; rfl
section
variable {first days before : Int} {ses rules : List D} {off : Nat → Bool} {done plan : List D} {nb rb db pb : Bool}
/-- How a season begins. -/
def begP (before : Int) : PS := ⟨0, 0, before, 0, fun _ => 0, fun _ => 0⟩
theorem begP_ok (hg : Good first days before ses rules) : (begP before).Ok := ⟨by simp [begP], by simp [begP], hg.gbefore, by simp [begP], fun _ => by simp [begP], fun _ => by simp [begP], fun _ _ => rfl, fun _ _ => rfl⟩
theorem begP_rel : PRel before ses rules off days (begP before) [] := ⟨rfl, fun _ _ => rfl, fun _ _ => rfl, fun _ _ => rfl, fun _ _ _ _ => rfl, fun _ _ _ _ _ => rfl⟩
/-- All that can come of a season. -/
def allD (first days before : Int) (ses rules : List D) (off : Nat → Bool) (done plan : List D) : RP := DD (accP first days before ses rules off) ses done plan days.toNat []
end
/-! ### What was done -/
def doneB (days : Int) (ses done : List D) : Bool := decide ((done.length : Int) ≤ days) && done.all (fun x => !out x.toI (-1) ((ses.length : Int) - 1))
theorem doneOk_of {days : Int} {ses done : List D} (h : doneB days ses done = true) : DoneOk ses done := by
 unfold doneB at h
 simp only [Bool.and_eq_true, List.all_eq_true] at h
 intro x hx
 have := h.2 x hx
 simp only [out, Bool.not_eq_true', decide_eq_false_iff_not] at this
 omega
def fstBad (ses : List D) (w : Int) : List D → Option (Sum Int Unit)
 | [] => some (.inr ())
 | x :: l => bif out x.toI (-1) ((ses.length : Int) - 1) then some (.inl w) else fstBad ses (w + 1) l
theorem fstBad_all {ses : List D} : ∀ {l : List D} {w : Int}, 0 ≤ w → (l.all (fun x => !out x.toI (-1) ((ses.length : Int) - 1)) = true → fstBad ses w l = some (.inr ())) ∧ (l.all (fun x => !out x.toI (-1) ((ses.length : Int) - 1)) = false → ∃ k, 0 ≤ k ∧ fstBad ses w l = some (.inl k))
 | [], _, _ => ⟨fun _ => rfl, fun h => by cases h⟩
 | x :: l, w, h0 => by
  have ih := fstBad_all (ses := ses) (l := l) (w := w + 1) (by omega)
  simp only [List.all_cons]
  unfold fstBad
  cases out x.toI (-1) ((ses.length : Int) - 1) with
  | true => exact ⟨fun h => by simp at h, fun _ => ⟨w, h0, rfl⟩⟩
  | false => simpa using ih
theorem G65x0_eq (hN : maxLen < N) {ses done : List D} (hs : ses.length ≤ 4) (hl : done.length ≤ maxLen) : G65x0 N done ses = some (!done.all (fun x => !out x.toI (-1) ((ses.length : Int) - 1))) := by
 have e : G86x0x6 N done done.length ses 0 = fstBad ses 0 done := by
  unfold G86x0x6
  refine (for_ind (.i 0 : D) (S := fun w kr => S86x0x6 N done done.length ses w kr _ _) (L := fun m w => L86x0x6 N done done.length ses m w _ _) (fun m w => rfl) (fstBad ses) hl ?_ ?_ hN).trans rfl
  ·intro kr; simp [S86x0x6, fstBad]
  ·intro w kr h0 h1 hw hi hk
   simp only [S86x0x6, V94x0, F94x0, V48x0_eq, small (show -1000000000000 ≤ (ses.length : Int) - 1 ∧ (ses.length : Int) - 1 ≤ 1000000000000 by omega), decide_eq_true h1, _root_.cond_true, hi, bnd_eq, hw, hk, fstBad, Bool.not_not]
 unfold G65x0 F65x0 G86x0 F86x0
 rw [e]
 have hf := fstBad_all (ses := ses) (l := done) (w := 0) (Int.le_refl _)
 cases ha : done.all (fun x => !out x.toI (-1) ((ses.length : Int) - 1)) with
 | true => rw [hf.1 ha]; rfl
 | false =>
  obtain ⟨k, hk, h⟩ := hf.2 ha
  rw [h]
  simp only [bnd_eq, inlB_inl, inlV_inl, _root_.cond_true, Option.isSome_some, getD_some]
  rw [decide_eq_true (show k ≥ 0 from hk)]; rfl
theorem G77x0_eq (hN : maxLen < N) {days : Int} {ses done : List D} (hs : ses.length ≤ 4) (hl : done.length ≤ maxLen) : G77x0 N days ses done = some (doneB days ses done) := by
 unfold G77x0 F77x0 G77x0x4 F77x0x4 doneB
 rw [G65x0_eq hN hs hl]
 cases decide ((done.length : Int) ≤ days) with
 | true => simp [bnd_eq]
 | false => rfl
/-- The error of a season and of what was done. -/
def doneE (first days before : Int) (ses rules done : List D) : Int := bif chk first days before ses rules != 0 then chk first days before ses rules else bif doneB days ses done then 0 else 2
theorem nses_of {first days before : Int} {ses rules : List D} (hn : NamesOk ses) (h : (chk first days before ses rules != 0) = false) : Good first days before ses rules := good_of hn (by simpa using h)
theorem G46x0_eq (hN : maxLen < N) {first days before : Int} {ses rules done : List D} (hs : ses.length ≤ maxLen) (hr : rules.length ≤ maxLen) (hn : NamesOk ses) (hl : done.length ≤ maxLen) : G46x0 N first days before ses rules done = some (doneE first days before ses rules done) := by
 unfold G46x0 F46x0 doneE
 rw [G19x0_eq hN hs hr hn]
 simp only [bnd_eq, Option.isSome_some, getD_some, _root_.cond_true]
 cases hc : chk first days before ses rules != 0 with
 | true => rfl
 | false =>
  rw [G77x0_eq hN (nses_of hn hc).nses hl]
  cases doneB days ses done <;> rfl
theorem good_done {first days before : Int} {ses rules done : List D} (hn : NamesOk ses) (h : (doneE first days before ses rules done != 0) = false) : Good first days before ses rules ∧ DoneOk ses done := by
 unfold doneE at h
 cases hc : chk first days before ses rules != 0 with
 | true => rw [hc] at h; simp only [_root_.cond_true] at h; rw [hc] at h; cases h
 | false =>
  rw [hc] at h
  simp only [_root_.cond_false] at h
  cases hb : doneB days ses done with
  | false => rw [hb] at h; cases h
  | true => exact ⟨nses_of hn hc, doneOk_of hb⟩
end Go.Proofs.Ytefmjfcdgadggaa

namespace Go.Proofs.Ytefmjfcdgadggaa
open Go Go.AM
set_option maxHeartbeats 4000000
set_option maxRecDepth 100000
variable {N : Nat}
/-! ### The document's reading of what was done -/
theorem G63x0_eq {ses : List D} {n : Int} (h : n < ses.length) : G63x0 N ses n = some (sName ses n, sLoad ses n, sMin ses n, sWorth ses n, sHard ses n) := by
 unfold G63x0 F63x0 sName sLoad sMin sWorth sHard
 by_cases hn : n < 0
 ·simp [hn]
 ·simp [hn, inB_of (show 0 ≤ n by omega) h]
theorem G73x0_eq (hN : maxLen < N) {ses done : List D} (hs : ses.length ≤ 4) (hl : done.length ≤ maxLen) : G73x0 N ses done = some (bif done.all (fun x => !out x.toI (-1) ((ses.length : Int) - 1)) then 0 else 2) := by
 have e : G73x0x6 N done done.length ses 0 = some (bif done.all (fun x => !out x.toI (-1) ((ses.length : Int) - 1)) then .inr () else .inl ()) := by
  unfold G73x0x6
  refine (for_ind (.i 0 : D) (S := fun w kr => S73x0x6 N done done.length ses w kr _ _) (L := fun m w => L73x0x6 N done done.length ses m w _ _) (fun m w => rfl) (fun _ l => some (bif l.all (fun x => !out x.toI (-1) ((ses.length : Int) - 1)) then .inr () else .inl ())) hl ?_ ?_ hN).trans rfl
  ·intro kr; simp [S73x0x6]
  ·intro w kr h0 h1 hw hi hk
   simp only [S73x0x6, V50x0_eq, small (show -1000000000000 ≤ (ses.length : Int) - 1 ∧ (ses.length : Int) - 1 ≤ 1000000000000 by omega), decide_eq_true h1, _root_.cond_true, hi, bnd_eq, hw, hk, List.all_cons]
   cases out (done.getD w.toNat (.i 0)).toI (-1) ((ses.length : Int) - 1) <;> rfl
 unfold G73x0 F73x0
 rw [e]
 cases done.all (fun x => !out x.toI (-1) ((ses.length : Int) - 1)) <;> rfl
def hasK (rules : List D) (ks : List Int) : Bool := rules.any (fun r => ks.any (fun k => rKind r == k))
/-- How many days a hard one keeps the next ones off. -/
def apartOf : List D → Int → Int
 | [], a => a
 | r :: l, a => apartOf l (bif rKind r == 5 then max a (rN r) else a)
/-! ### A day by the document -/
structure XS where
 day : Int
 week : Int
 last : Int
 rest : Int
 cnt : Nat → Int
 tap : Nat → Int
structure XS.Ok (t : XS) : Prop where
 day : 0 ≤ t.day ∧ t.day ≤ 14
 week : 0 ≤ t.week ∧ t.week ≤ 1000 * t.day
 last : 0 ≤ t.last ∧ t.last ≤ 100000
 rest : 0 ≤ t.rest ∧ t.rest ≤ 14
 cnt : ∀ j, 0 ≤ t.cnt j ∧ t.cnt j ≤ t.day
 tap : ∀ j, 0 ≤ t.tap j ∧ t.tap j ≤ 1000 * t.day
 zc : Zero 0 12 t.cnt
 zt : Zero 0 12 t.tap
abbrev P24 := Int × Int × Int × Int × Int × Int × Int × Int × Int × Int × Int × Int × Int × Int × Int × Int × Int × Int × Int × Int × Int × Int × Int × Int
abbrev P48 := Int × Int × Int × Int × Int × Int × Int × Int × Int × Int × Int × Int × Int × Int × Int × Int × Int × Int × Int × Int × Int × Int × Int × Int × Int × Int × Int × Int × Int × Int × Int × Int × Int × Int × Int × Int × Int × Int × Int × Int × Int × Int × Int × Int × Int × Int × Int × Int
def XR (g : Option (Sum P48 P24)) : Option ((Nat → Int) × (Nat → Int)) → Prop
 | none => ∃ p, g = some (.inl p)
 | some x => g = some (.inr (x.1 0, x.1 1, x.1 2, x.1 3, x.1 4, x.1 5, x.1 6, x.1 7, x.1 8, x.1 9, x.1 10, x.1 11, x.2 0, x.2 1, x.2 2, x.2 3, x.2 4, x.2 5, x.2 6, x.2 7, x.2 8, x.2 9, x.2 10, x.2 11))
/-- A rule on a day, by the document. -/
def xrule (ses : List D) (day n : Int) (whole ends : Bool) (week last : Int) (k : Nat) (r : D) (c t : Nat → Int) : Option ((Nat → Int) × (Nat → Int)) :=
 bif rKind r == 3 then (bif decide (week > rN r) then none else some (c, t)) else
 bif rKind r == 4 then (bif whole && decide (week < rN r) then none else some (c, t)) else
 bif rKind r == 7 then (bif ends && decide (week * 100 > rN r * last) then none else some (c, t)) else
 bif rKind r == 6 then
  (bif decide ((bif decide (n ≥ 0) && (sName ses n == rName r) then upd c k (c k + 1) else c) k > rHigh r) || (whole && decide ((bif decide (n ≥ 0) && (sName ses n == rName r) then upd c k (c k + 1) else c) k < rLow r)) then none
   else some (bif whole then upd (bif decide (n ≥ 0) && (sName ses n == rName r) then upd c k (c k + 1) else c) k 0 else (bif decide (n ≥ 0) && (sName ses n == rName r) then upd c k (c k + 1) else c), t)) else
 bif rKind r == 9 then
  (bif decide ((bif inWin r day then upd t k (t k + sLoad ses n) else t) k > rN r) then none
   else some (c, bif decide (day + 1 ≥ rDay r) then upd (bif inWin r day then upd t k (t k + sLoad ses n) else t) k 0 else (bif inWin r day then upd t k (t k + sLoad ses n) else t)))
 else some (c, t)
end Go.Proofs.Ytefmjfcdgadggaa

namespace Go.Proofs.Ytefmjfcdgadggaa
open Go Go.AM
set_option maxHeartbeats 4000000
set_option maxRecDepth 100000
variable {N : Nat}
theorem XR.none {g : Option (Sum P48 P24)} {o : Option ((Nat → Int) × (Nat → Int))} (h : XR g o) (ho : o = .none) : ∃ p, g = some (.inl p) := by subst ho; exact h
structure XIn (day w : Int) (c t : Nat → Int) : Prop where
 zc : Zero 0 12 c
 zt : Zero 0 12 t
 cl : ∀ j, 0 ≤ c j ∧ c j ≤ day + 1
 tl : ∀ j, 0 ≤ t j ∧ t j ≤ 1000 * day + 1000
 con : ∀ j, w.toNat ≤ j → c j ≤ day
 ton : ∀ j, w.toNat ≤ j → t j ≤ 1000 * day
theorem XIn.up {first days before : Int} {ses rules : List D} (hg : Good first days before ses rules) {n : Int} (hn : n < ses.length) {day w : Int} {c t : Nat → Int} (h : XIn day w c t) (hd : 0 ≤ day) (h0 : 0 ≤ w) (h1 : w < 12) {r : D} {whole ends : Bool} {week last : Int} {c' t' : Nat → Int} (he : xrule ses day n whole ends week last w.toNat r c t = some (c', t')) : XIn day (w + 1) c' t' := by
 have hs := sLoad_in hg hn
 have hsame : XIn day (w + 1) c t := ⟨h.zc, h.zt, h.cl, h.tl, fun j hj => h.con j (by omega), fun j hj => h.ton j (by omega)⟩
 have hcu : ∀ {f : Nat → Int} {x : Int}, (∀ j, 0 ≤ f j ∧ f j ≤ day + 1) → 0 ≤ x → x ≤ day + 1 → ∀ j, 0 ≤ upd f w.toNat x j ∧ upd f w.toNat x j ≤ day + 1 := by
  intro f x hf h1 h2 j
  by_cases hj : j = w.toNat
  ·subst hj; rw [upd_self]; exact ⟨h1, h2⟩
  ·rw [upd_ne _ _ hj]; exact hf j
 have htu : ∀ {f : Nat → Int} {x : Int}, (∀ j, 0 ≤ f j ∧ f j ≤ 1000 * day + 1000) → 0 ≤ x → x ≤ 1000 * day + 1000 → ∀ j, 0 ≤ upd f w.toNat x j ∧ upd f w.toNat x j ≤ 1000 * day + 1000 := by
  intro f x hf h1 h2 j
  by_cases hj : j = w.toNat
  ·subst hj; rw [upd_self]; exact ⟨h1, h2⟩
  ·rw [upd_ne _ _ hj]; exact hf j
 have hon : ∀ {f : Nat → Int} {x b : Int}, (∀ j, w.toNat ≤ j → f j ≤ b) → ∀ j, (w + 1).toNat ≤ j → upd f w.toNat x j ≤ b := fun hf j hj => by rw [upd_ne _ _ (by omega)]; exact hf j (by omega)
 unfold xrule at he
 cases k3 : rKind r == 3 with
 | true =>
  rw [k3] at he
  cases hx : decide (week > rN r) <;> simp [hx] at he
  obtain ⟨rfl, rfl⟩ := he
  exact hsame
 | false =>
 cases k4 : rKind r == 4 with
 | true =>
  rw [k3, k4] at he
  cases hx : (whole && decide (week < rN r)) <;> simp only [hx, _root_.cond_true, _root_.cond_false] at he
  ·simp at he; obtain ⟨rfl, rfl⟩ := he; exact hsame
  ·cases he
 | false =>
 cases k7 : rKind r == 7 with
 | true =>
  rw [k3, k4, k7] at he
  cases hx : (ends && decide (week * 100 > rN r * last)) <;> simp only [hx, _root_.cond_true, _root_.cond_false] at he
  ·simp at he; obtain ⟨rfl, rfl⟩ := he; exact hsame
  ·cases he
 | false =>
 cases k6 : rKind r == 6 with
 | true =>
  rw [k3, k4, k7, k6] at he
  simp only [_root_.cond_true, _root_.cond_false] at he
  have hc1 : (∀ j, 0 ≤ (bif decide (n ≥ 0) && (sName ses n == rName r) then upd c w.toNat (c w.toNat + 1) else c) j ∧ (bif decide (n ≥ 0) && (sName ses n == rName r) then upd c w.toNat (c w.toNat + 1) else c) j ≤ day + 1) ∧ (∀ j, (w + 1).toNat ≤ j → (bif decide (n ≥ 0) && (sName ses n == rName r) then upd c w.toNat (c w.toNat + 1) else c) j ≤ day) ∧ Zero 0 12 (bif decide (n ≥ 0) && (sName ses n == rName r) then upd c w.toNat (c w.toNat + 1) else c) := by
   have a := h.cl w.toNat
   have b := h.con w.toNat (Nat.le_refl _)
   cases decide (n ≥ 0) && (sName ses n == rName r) with
   | true => exact ⟨hcu h.cl (by omega) (by omega), hon h.con, h.zc.upd (by omega) _⟩
   | false => exact ⟨h.cl, hsame.con, h.zc⟩
  revert he hc1
  generalize (bif decide (n ≥ 0) && (sName ses n == rName r) then upd c w.toNat (c w.toNat + 1) else c) = c1
  intro he hc1
  cases hx : (decide (c1 w.toNat > rHigh r) || (whole && decide (c1 w.toNat < rLow r))) with
  | true => rw [hx] at he; cases he
  | false =>
   rw [hx] at he
   simp only [_root_.cond_false, Option.some.injEq, Prod.mk.injEq] at he
   obtain ⟨rfl, rfl⟩ := he
   cases whole with
   | true => exact ⟨hc1.2.2.upd (by omega) _, h.zt, hcu hc1.1 (by omega) (by omega), h.tl, fun j hj => by simp only [_root_.cond_true]; rw [upd_ne _ _ (by omega)]; exact hc1.2.1 j hj, hsame.ton⟩
   | false => exact ⟨hc1.2.2, h.zt, hc1.1, h.tl, hc1.2.1, hsame.ton⟩
 | false =>
 cases k9 : rKind r == 9 with
 | true =>
  rw [k3, k4, k7, k6, k9] at he
  simp only [_root_.cond_true, _root_.cond_false] at he
  have ht1 : (∀ j, 0 ≤ (bif inWin r day then upd t w.toNat (t w.toNat + sLoad ses n) else t) j ∧ (bif inWin r day then upd t w.toNat (t w.toNat + sLoad ses n) else t) j ≤ 1000 * day + 1000) ∧ (∀ j, (w + 1).toNat ≤ j → (bif inWin r day then upd t w.toNat (t w.toNat + sLoad ses n) else t) j ≤ 1000 * day) ∧ Zero 0 12 (bif inWin r day then upd t w.toNat (t w.toNat + sLoad ses n) else t) := by
   have a := h.tl w.toNat
   have b := h.ton w.toNat (Nat.le_refl _)
   cases inWin r day with
   | true => exact ⟨htu h.tl (by omega) (by omega), hon h.ton, h.zt.upd (by omega) _⟩
   | false => exact ⟨h.tl, hsame.ton, h.zt⟩
  revert he ht1
  generalize (bif inWin r day then upd t w.toNat (t w.toNat + sLoad ses n) else t) = t1
  intro he ht1
  cases hx : decide (t1 w.toNat > rN r) with
  | true => rw [hx] at he; cases he
  | false =>
   rw [hx] at he
   simp only [_root_.cond_false, Option.some.injEq, Prod.mk.injEq] at he
   obtain ⟨rfl, rfl⟩ := he
   cases decide (day + 1 ≥ rDay r) with
   | true => exact ⟨h.zc, ht1.2.2.upd (by omega) _, h.cl, htu ht1.1 (by omega) (by omega), hsame.con, fun j hj => by simp only [_root_.cond_true]; rw [upd_ne _ _ (by omega)]; exact ht1.2.1 j hj⟩
   | false => exact ⟨h.zc, ht1.2.2, h.cl, ht1.1, hsame.con, ht1.2.1⟩
 | false =>
  rw [k3, k4, k7, k6, k9] at he
  simp only [_root_.cond_false, Option.some.injEq, Prod.mk.injEq] at he
  obtain ⟨rfl, rfl⟩ := he
  exact hsame
end Go.Proofs.Ytefmjfcdgadggaa

namespace Go.Proofs.Ytefmjfcdgadggaa
open Go Go.AM
set_option maxHeartbeats 4000000
set_option maxRecDepth 100000
variable {N : Nat}
section
variable {first days before : Int} {ses rules : List D}
end
end Go.Proofs.Ytefmjfcdgadggaa

namespace Go.Proofs.Ytefmjfcdgadggaa
open Go Go.AM
set_option maxHeartbeats 4000000
set_option maxRecDepth 100000
section
variable {first days before : Int} {ses rules : List D}
/-- What the document's state tells of what was done. -/
structure XRel (days before : Int) (ses rules : List D) (x : XS) (h : List Int) : Prop where
 day : x.day = h.length
 week : h.length < days → hasK rules [7, 3, 4] = true → x.week = hWk ses h
 last : h.length < days → hasK rules [7] = true → x.last = hBef before ses h
 rest : h.length < days → x.rest = bif hHard ses h == 0 then 0 else max 0 (apartOf rules 1 - (h.length + 1 - hHard ses h))
 cnt : h.length < days → ∀ k : Nat, k < rules.length → rKind (rules.getD k (.i 0)) = 6 → x.cnt k = hCnt (sesAt ses (rName (rules.getD k (.i 0)))) h
 tap : h.length < days → ∀ k : Nat, k < rules.length → rKind (rules.getD k (.i 0)) = 9 → x.tap k = hTap ses (rules.getD k (.i 0)) h
end
end Go.Proofs.Ytefmjfcdgadggaa

namespace Go.Proofs.Ytefmjfcdgadggaa
open Go Go.AM
set_option maxHeartbeats 4000000
set_option maxRecDepth 100000
section
variable {first days before : Int} {ses rules : List D}
end
end Go.Proofs.Ytefmjfcdgadggaa

namespace Go.Proofs.Ytefmjfcdgadggaa
open Go Go.AM
set_option maxHeartbeats 4000000
set_option maxRecDepth 100000
section
variable (first days : Int) (ses rules done plan : List D)
end
section
variable {first days before : Int} {ses rules done plan : List D}
end
end Go.Proofs.Ytefmjfcdgadggaa

namespace Go.Proofs.Ytefmjfcdgadggaa
open Go Go.AM
set_option maxHeartbeats 4000000
set_option maxRecDepth 100000
variable {N : Nat}
section
variable {first days before : Int} {ses rules done plan : List D} {nb rb fb ab : Bool}
variable (first days ses rules done plan) in
end
end Go.Proofs.Ytefmjfcdgadggaa

namespace Go.Proofs.Ytefmjfcdgadggaa
open Go Go.AM
set_option maxHeartbeats 4000000
set_option maxRecDepth 100000
variable {N : Nat}
section
variable {first days before : Int} {ses rules done plan : List D} {nb rb fb ab : Bool}
end
end Go.Proofs.Ytefmjfcdgadggaa

namespace Go.Proofs.Ytefmjfcdgadggaa
open Go Go.AM
set_option maxHeartbeats 4000000
set_option maxRecDepth 100000
variable {N : Nat}
section
variable {first days before : Int} {ses rules done plan : List D} {nb rb fb ab : Bool}
end
end Go.Proofs.Ytefmjfcdgadggaa

namespace Go.Proofs.Ytefmjfcdgadggaa
open Go Go.AM
set_option maxRecDepth 100000
set_option maxHeartbeats 1000000
theorem told_ok : G16x0 18446744073709551616 = some true := by kernel_rfl
/-- The law's data. -/
theorem kinds66 : kinds Try.prog 66 = [.str, .int .i64, .int .i64, .int .i64, .bool] := by kernel_rfl
theorem names_ok {m : Nat} {x : D} (h : TyEl Try.prog (TyK Try.prog (m + 1)) 66 x) : (x.cell 0).toS.length ≤ maxLen := by
 unfold TyEl at h
 have : isAggB Try.prog 66 = true := by kernel_rfl
 rw [if_pos this, kinds66] at h
 obtain ⟨cs, rfl, hc⟩ := h
 match cs, hc with
 | c :: r, hc =>
  obtain ⟨s, rfl, hl⟩ := hc.1
  exact hl
theorem kinds25 : kinds Try.prog 25 = [.int .i64, .int .i64, .int .i64, .sl 66, .sl 68] := by kernel_rfl
theorem kinds3 : kinds Try.prog 3 = [.int .i64] := by kernel_rfl
theorem kinds26 : kinds Try.prog 26 = [.sl 3] := by kernel_rfl
/-- A season, typed. -/
structure SeasonOk (first days before : Int) (ses rules : List D) : Prop where
 ls : ses.length ≤ maxLen
 lr : rules.length ≤ maxLen
 es : ∀ x ∈ ses, TyEl Try.prog (TyK Try.prog 5) 66 x
 er : ∀ x ∈ rules, TyEl Try.prog (TyK Try.prog 5) 68 x
theorem SeasonOk.names {first days before : Int} {ses rules : List D} (h : SeasonOk first days before ses rules) : NamesOk ses := fun x hx => names_ok (h.es x hx)
theorem arg25 {ds : List D} (h : ArgOk Try.prog 6 25 ds) : ∃ first days before n ses n' rules, ds = [.i first, .i days, .i before, .l n ses, .l n' rules] ∧ SeasonOk first days before ses rules := by
 unfold ArgOk at h
 rw [kinds25] at h
 obtain ⟨_, _, rfl, h0, h⟩ := all2_cons h
 obtain ⟨_, _, rfl, h1, h⟩ := all2_cons h
 obtain ⟨_, _, rfl, h2, h⟩ := all2_cons h
 obtain ⟨_, _, rfl, h3, h⟩ := all2_cons h
 obtain ⟨_, _, rfl, h4, h⟩ := all2_cons h
 obtain rfl := all2_nil h
 obtain ⟨a, rfl, _⟩ := ty_int (m := 5) h0
 obtain ⟨b, rfl, _⟩ := ty_int (m := 5) h1
 obtain ⟨c, rfl, _⟩ := ty_int (m := 5) h2
 obtain ⟨n, xs, rfl, _, l1, e1⟩ := ty_sl (m := 5) h3
 obtain ⟨n', ys, rfl, _, l2, e2⟩ := ty_sl (m := 5) h4
 exact ⟨a, b, c, n, xs, n', ys, rfl, l1, l2, e1, e2⟩
theorem arg3 {ds : List D} (h : ArgOk Try.prog 6 3 ds) : ∃ i, ds = [.i i] ∧ (Lit.int .i64 i).wf = true := by
 unfold ArgOk at h
 rw [kinds3] at h
 obtain ⟨_, _, rfl, h0, h⟩ := all2_cons h
 obtain rfl := all2_nil h
 obtain ⟨a, rfl, w⟩ := ty_int (m := 5) h0
 exact ⟨a, rfl, w⟩
theorem arg26 {ds : List D} (h : ArgOk Try.prog 6 26 ds) : ∃ n xs, ds = [.l n xs] ∧ (n = true → xs = []) ∧ xs.length ≤ maxLen ∧ ∀ x ∈ xs, TyEl Try.prog (TyK Try.prog 5) 3 x := by
 unfold ArgOk at h
 rw [kinds26] at h
 obtain ⟨_, _, rfl, h0, h⟩ := all2_cons h
 obtain rfl := all2_nil h
 obtain ⟨n, xs, rfl, hn, l, e⟩ := ty_sl (m := 5) h0
 exact ⟨n, xs, rfl, hn, l, e⟩
theorem Try.own : ownKnob Try.prog.godebug = none := by kernel_rfl
theorem Try.laidOut : laidOutB Try.prog = true := by kernel_rfl
end Go.Proofs.Ytefmjfcdgadggaa

namespace Go.Proofs.Ytefmjfcdgadggaa
open Go Go.AM
set_option maxRecDepth 100000
set_option maxHeartbeats 1000000
variable {N : Nat}
section
variable {first days before : Int} {ses rules done plan : List D} {nb rb fb ab : Bool}
/-- The error of a season and of a whole plan. -/
def planE (first days before : Int) (ses rules plan : List D) : Int := bif doneE first days before ses rules plan != 0 then doneE first days before ses rules plan else bif (plan.length : Int) != days then 2 else 0
theorem G57x0_eq (hN : maxLen < N) (hs : ses.length ≤ maxLen) (hr : rules.length ≤ maxLen) (hn : NamesOk ses) (hl : plan.length ≤ maxLen) : G57x0 N first days before ses rules plan = some (planE first days before ses rules plan) := by
 unfold G57x0 F57x0 planE
 rw [G46x0_eq hN hs hr hn hl]
 simp only [bnd_eq, Option.isSome_some, getD_some, _root_.cond_true]
 cases doneE first days before ses rules plan != 0 <;> cases (plan.length : Int) != days <;> rfl
theorem G58x0_eq (hN : maxLen < N) (hs : ses.length ≤ maxLen) (hr : rules.length ≤ maxLen) (hn : NamesOk ses) (hl : plan.length ≤ maxLen) : G58x0 N first days before ses rules plan = some (planE first days before ses rules plan) := by
 unfold G58x0 F58x0 planE doneE doneB
 rw [G20x0_eq hN hs hr hn]
 simp only [bnd_eq, Option.isSome_some, getD_some, _root_.cond_true]
 cases hc : chk first days before ses rules != 0 with
 | true => simp only [_root_.cond_true, hc]
 | false =>
  rw [G73x0_eq hN (nses_of hn hc).nses hl]
  by_cases h : (plan.length : Int) = days
  ·have h1 : ((plan.length : Int) != days) = false := by simp [h]
   rw [h1, decide_eq_true (show (plan.length : Int) ≤ days by omega)]
   cases plan.all (fun x => !out x.toI (-1) ((ses.length : Int) - 1)) <;> rfl
  ·have h1 : ((plan.length : Int) != days) = true := by simp [h]
   rw [h1]
   cases decide ((plan.length : Int) ≤ days) <;> cases plan.all (fun x => !out x.toI (-1) ((ses.length : Int) - 1)) <;> rfl
end
end Go.Proofs.Ytefmjfcdgadggaa

namespace Go.Proofs.Ytefmjfcdgadggaa
open Go Go.AM
set_option maxHeartbeats 4000000
set_option maxRecDepth 100000
variable {N : Nat}
def nums (l : List Nat) : List D := l.map fun (k : Nat) => D.i (k : Int)
section
variable {first days before : Int} {ses rules done plan : List D} {off : Nat → Bool} {nb rb fb : Bool}
/-- The plans of a season without the rules that are off. -/
def ways (first days before : Int) (ses rules done : List D) (off : Nat → Bool) : Int := (allD first days before ses rules off done []).1.1
end
end Go.Proofs.Ytefmjfcdgadggaa

namespace Go.Proofs.Ytefmjfcdgadggaa
open Go Go.AM
set_option maxHeartbeats 4000000
set_option maxRecDepth 100000
variable {N : Nat}
theorem nums_len {ks : List Nat} : (nums ks).length = ks.length := List.length_map ..
section
variable {first days before : Int} {ses rules done plan : List D} {off : Nat → Bool} {nb rb fb ab : Bool}
end
end Go.Proofs.Ytefmjfcdgadggaa

namespace Go.Proofs.Ytefmjfcdgadggaa
open Go Go.AM
set_option maxHeartbeats 4000000
set_option maxRecDepth 100000
variable {N : Nat}
section
variable {first days before : Int} {ses rules done plan : List D} {off : Nat → Bool} {nb rb fb ab : Bool}
end
end Go.Proofs.Ytefmjfcdgadggaa

namespace Go.Proofs.Ytefmjfcdgadggaa
open Go Go.AM
set_option maxHeartbeats 4000000
set_option maxRecDepth 100000
variable {N : Nat}
/-! ### Fewer rules, more plans -/
section
variable {acc acc' : List Int → Int → Bool} {ses done plan : List D}
end
section
variable {first days before : Int} {ses rules done plan : List D} {off off' : Nat → Bool} {nb rb fb ab : Bool}
end
section
variable {first days before : Int} {ses rules done plan : List D} {off off' : Nat → Bool} {nb rb fb ab : Bool}
end
end Go.Proofs.Ytefmjfcdgadggaa

namespace Go.Proofs.Ytefmjfcdgadggaa
open Go Go.AM
set_option maxHeartbeats 2000000
set_option maxRecDepth 100000
/-! ### Days and weeks of a plan -/
/-- All of the first days. -/
def allP (f : Nat → Bool) : Nat → Bool
 | 0 => true
 | i + 1 => allP f i && f i
theorem allP_iff {f : Nat → Bool} : ∀ {n : Nat}, allP f n = true ↔ ∀ i, i < n → f i = true
 | 0 => ⟨fun _ i h => by omega, fun _ => rfl⟩
 | n + 1 => by
  unfold allP
  rw [Bool.and_eq_true, allP_iff (n := n)]
  refine ⟨fun h i hi => ?_, fun h => ⟨fun i hi => h i (by omega), h n (by omega)⟩⟩
  by_cases hn : i = n
  ·subst hn; exact h.2
  ·exact h.1 i (by omega)
theorem allP_congr {f g : Nat → Bool} {n : Nat} (h : ∀ i, i < n → f i = g i) : allP f n = allP g n := by
 rw [Bool.eq_iff_iff, allP_iff, allP_iff]
 exact ⟨fun a i hi => (h i hi) ▸ a i hi, fun a i hi => (h i hi).symm ▸ a i hi⟩
theorem allP_and {f g : Nat → Bool} : ∀ {n : Nat}, allP (fun i => f i && g i) n = (allP f n && allP g n)
 | 0 => rfl
 | n + 1 => by
  unfold allP
  rw [allP_and]
  cases allP f n <;> cases allP g n <;> cases f n <;> cases g n <;> rfl
def allFrom (f : Nat → Bool) : Nat → Nat → Bool
 | _, 0 => true
 | w, m + 1 => f w && allFrom f (w + 1) m
theorem allFrom_iff {f : Nat → Bool} : ∀ {m w : Nat}, allFrom f w m = true ↔ ∀ i, w ≤ i → i < w + m → f i = true
 | 0, w => ⟨fun _ i h1 h2 => by omega, fun _ => rfl⟩
 | m + 1, w => by
  unfold allFrom
  rw [Bool.and_eq_true, allFrom_iff (m := m)]
  refine ⟨fun h i h1 h2 => ?_, fun h => ⟨h w (by omega) (by omega), fun i h1 h2 => h i (by omega) (by omega)⟩⟩
  by_cases hn : i = w
  ·subst hn; exact h.1
  ·exact h.2 i (by omega) (by omega)
theorem allFrom_all {f : Nat → Bool} {n : Nat} : allFrom f 0 n = allP f n := by
 rw [Bool.eq_iff_iff, allFrom_iff, allP_iff]
 exact ⟨fun h i hi => h i (by omega) (by omega), fun h i _ hi => h i (by omega)⟩
theorem allP_list {α : Type} (d : α) (p : α → Bool) (l : List α) : allP (fun j => p (l.getD j d)) l.length = l.all p := by
 rw [Bool.eq_iff_iff, allP_iff, List.all_eq_true]
 refine ⟨fun h x hx => ?_, fun h i hi => ?_⟩
 ·obtain ⟨i, hi, rfl⟩ := List.getElem_of_mem hx
  have := h i hi
  rw [List.getD_eq_getElem?_getD, List.getElem?_eq_getElem hi] at this
  exact this
 ·rw [List.getD_eq_getElem?_getD, List.getElem?_eq_getElem hi]
  exact h _ (List.getElem_mem hi)
/-- A loop that looks for a place that isn't right. -/
theorem scan_ind {X : Type} {S : Int → (Int → X) → X} {L : Nat → Int → X} (hL : ∀ m a, L (m + 1) a = S a (L m)) (ok : Nat → Bool) (x0 x1 : X) {n : Nat} (hn : n ≤ 1000000)
  (hend : ∀ kr, S n kr = x1) (hstep : ∀ (w : Nat) (kr : Int → X), w < n → IntKind.wrap .i64 ((w : Int) + 1) = ((w + 1 : Nat) : Int) → S w kr = bif ok w then kr ((w + 1 : Nat) : Int) else x0) {N : Nat} (hN : maxLen < N) : L N 0 = bif allP ok n then x1 else x0 := by
 have hm : maxLen = 9223372036854775807 := rfl
 have := loop_ind hL (fun w => bif allFrom ok w.toNat (n - w.toNat) then x1 else x0) (fun w => 0 ≤ w ∧ w ≤ n) (fun w => (n - w).toNat) (fun w kr ⟨h0, h1⟩ ih => by
  obtain ⟨k, rfl⟩ := Int.eq_ofNat_of_zero_le h0
  by_cases hw : k < n
  ·have e := hstep k kr hw (small (by omega))
   have i := ih ((k + 1 : Nat) : Int) ⟨by omega, by omega⟩ (by omega)
   rw [e, i]
   simp only [Int.toNat_natCast]
   rw [show n - k = (n - (k + 1)) + 1 by omega]
   show _ = bif ok k && allFrom ok (k + 1) (n - (k + 1)) then x1 else x0
   cases ok k <;> rfl
  ·have : k = n := by omega
   subst this
   simp only [Int.toNat_natCast]
   rw [Nat.sub_self]
   exact hend kr) N 0 ⟨Int.le_refl _, by omega⟩ (by omega)
 rw [this]
 simp only [Int.toNat_zero, Nat.sub_zero, allFrom_all]
/-- What was done ahead of a day, the last first. -/
def hist (P : Nat → Int) : Nat → List Int
 | 0 => []
 | i + 1 => P i :: hist P i
theorem hist_len (P : Nat → Int) : ∀ i, (hist P i).length = i
 | 0 => rfl
 | i + 1 => by unfold hist; simp [hist_len P i]
theorem full_nat (i : Nat) : fullD (i : Int) = (i % 7 == 6) := by
 unfold fullD
 rw [Int.tmod_eq_emod_of_nonneg (by omega), Bool.eq_iff_iff]
 simp only [beq_iff_eq]
 omega
def sumF (g : Nat → Int) (a : Nat) : Nat → Int
 | 0 => 0
 | m + 1 => sumF g a m + g (a + m)
/-- A week so far, ahead of a day. -/
def wk (g : Nat → Int) : Nat → Int
 | 0 => 0
 | i + 1 => bif i % 7 == 6 then 0 else wk g i + g i
/-- The whole weeks. -/
def fw (g : Nat → Int) : Nat → List Int
 | 0 => []
 | i + 1 => bif i % 7 == 6 then fw g i ++ [wk g i + g i] else fw g i
/-- All weeks. -/
def ws (g : Nat → Int) (i : Nat) : List Int := fw g i ++ bif i % 7 == 0 then [] else [wk g i]
theorem getD_l {l l' : List Int} {j : Nat} {d : Int} (h : j < l.length) : (l ++ l').getD j d = l.getD j d := by
 rw [List.getD_eq_getElem?_getD, List.getD_eq_getElem?_getD, List.getElem?_append_left h]
theorem getD_r {l l' : List Int} {j : Nat} {d : Int} (h : l.length ≤ j) : (l ++ l').getD j d = l'.getD (j - l.length) d := by
 rw [List.getD_eq_getElem?_getD, List.getD_eq_getElem?_getD, List.getElem?_append_right h]
theorem wk_zero {g : Nat → Int} : ∀ {i : Nat}, i % 7 = 0 → wk g i = 0
 | 0, _ => rfl
 | i + 1, h => by
  unfold wk
  rw [show (i % 7 == 6) = true by rw [beq_iff_eq]; omega]
  rfl
theorem fw_len {g : Nat → Int} : ∀ {i : Nat}, (fw g i).length = i / 7
 | 0 => rfl
 | i + 1 => by
  have ih := fw_len (g := g) (i := i)
  unfold fw
  by_cases h : i % 7 = 6
  ·rw [show (i % 7 == 6) = true by rw [beq_iff_eq]; exact h]
   simp only [_root_.cond_true, List.length_append, List.length_singleton, ih]
   omega
  ·rw [show (i % 7 == 6) = false by rw [beq_eq_false_iff_ne]; exact h]
   simp only [_root_.cond_false, ih]
   omega
theorem ws_len {g : Nat → Int} {i : Nat} : (ws g i).length = (i + 6) / 7 := by
 unfold ws
 rw [List.length_append, fw_len]
 by_cases h : i % 7 = 0
 ·rw [show (i % 7 == 0) = true by rw [beq_iff_eq]; exact h]
  simp only [_root_.cond_true, List.length_nil]
  omega
 ·rw [show (i % 7 == 0) = false by rw [beq_eq_false_iff_ne]; exact h]
  simp only [_root_.cond_false, List.length_singleton]
  omega
/-- A day's step of all weeks. -/
theorem ws_succ {g : Nat → Int} {i : Nat} : ws g (i + 1) = fw g i ++ [wk g i + g i] := by
 unfold ws
 rw [fw, wk]
 by_cases h : i % 7 = 6
 ·rw [show (i % 7 == 6) = true by rw [beq_iff_eq]; exact h, show ((i + 1) % 7 == 0) = true by rw [beq_iff_eq]; omega]
  simp
 ·rw [show (i % 7 == 6) = false by rw [beq_eq_false_iff_ne]; exact h, show ((i + 1) % 7 == 0) = false by rw [beq_eq_false_iff_ne]; omega]
  rfl
theorem hWk_eq {ses : List D} {P : Nat → Int} : ∀ i, hWk ses (hist P i) = wk (fun k => sLoad ses (P k)) i
 | 0 => rfl
 | i + 1 => by
  unfold hist hWk wk
  rw [hist_len, full_nat, hWk_eq i]
theorem hCnt_eq {c : Int} {P : Nat → Int} : ∀ i, hCnt c (hist P i) = wk (fun k => bif P k == c then 1 else 0) i
 | 0 => rfl
 | i + 1 => by
  unfold hist hCnt wk
  rw [hist_len, full_nat, hCnt_eq i]
theorem wk_sum {g : Nat → Int} : ∀ i, wk g i = sumF g (7 * (i / 7)) (i % 7)
 | 0 => rfl
 | i + 1 => by
  unfold wk
  by_cases h : i % 7 = 6
  ·rw [show (i % 7 == 6) = true by rw [beq_iff_eq]; exact h, show (i + 1) % 7 = 0 by omega]; rfl
  ·rw [show (i % 7 == 6) = false by rw [beq_eq_false_iff_ne]; exact h, show (i + 1) % 7 = i % 7 + 1 by omega, show (i + 1) / 7 = i / 7 by omega, wk_sum i]
   show _ = sumF g (7 * (i / 7)) (i % 7) + g (7 * (i / 7) + i % 7)
   rw [Nat.div_add_mod]; rfl
theorem fw_at {g : Nat → Int} : ∀ {n j : Nat}, j < n / 7 → (fw g n).getD j 0 = sumF g (7 * j) 7
 | 0, j, h => by omega
 | n + 1, j, h => by
  unfold fw
  by_cases h6 : n % 7 = 6
  ·rw [show (n % 7 == 6) = true by rw [beq_iff_eq]; exact h6]
   simp only [_root_.cond_true]
   by_cases hj : j < n / 7
   ·rw [getD_l (by rw [fw_len]; exact hj)]
    exact fw_at hj
   ·have hj' : j = n / 7 := by omega
    subst hj'
    rw [getD_r (by rw [fw_len]; exact Nat.le_refl _), fw_len, Nat.sub_self, wk_sum, h6]
    show sumF g (7 * (n / 7)) 6 + g n = sumF g (7 * (n / 7)) 6 + g (7 * (n / 7) + 6)
    rw [show 7 * (n / 7) + 6 = n by omega]
  ·rw [show (n % 7 == 6) = false by rw [beq_eq_false_iff_ne]; exact h6]
   simp only [_root_.cond_false]
   exact fw_at (by omega)
/-- A week's sum, as the document makes it. -/
theorem ws_at {g : Nat → Int} {n j : Nat} (h : j < (n + 6) / 7) : (ws g n).getD j 0 = sumF g (7 * j) (min (7 * j + 7) n - 7 * j) := by
 unfold ws
 by_cases hj : j < n / 7
 ·rw [getD_l (by rw [fw_len]; exact hj), fw_at hj, Nat.min_eq_left (by omega), Nat.add_sub_cancel_left]
 ·have hj' : j = n / 7 := by omega
  subst hj'
  rw [getD_r (by rw [fw_len]; exact Nat.le_refl _), fw_len, Nat.sub_self]
  rw [show (n % 7 == 0) = false by rw [beq_eq_false_iff_ne]; omega]
  show wk g n = _
  rw [wk_sum, Nat.min_eq_right (by omega), show n - 7 * (n / 7) = n % 7 by omega]
/-! ### Rules over weeks -/
section
variable {g : Nat → Int} {x : Int}
theorem most_eq (hg : ∀ i, 0 ≤ g i) : ∀ n, allP (fun i => decide (wk g i + g i ≤ x)) n = (ws g n).all (fun y => decide (y ≤ x))
 | 0 => rfl
 | n + 1 => by
  unfold allP
  rw [most_eq hg n, ws_succ, List.all_append]
  unfold ws
  rw [List.all_append]
  have := hg n
  by_cases h : n % 7 = 0
  ·rw [show (n % 7 == 0) = true by rw [beq_iff_eq]; exact h]
   simp
  ·rw [show (n % 7 == 0) = false by rw [beq_eq_false_iff_ne]; exact h]
   simp only [_root_.cond_false, List.all_cons, List.all_nil, Bool.and_true, Bool.and_assoc]
   by_cases h1 : wk g n + g n ≤ x
   ·rw [decide_eq_true h1, decide_eq_true (show wk g n ≤ x by omega)]; rfl
   ·rw [decide_eq_false h1]; simp
theorem least_eq : ∀ n, allP (fun i => !(i % 7 == 6) || decide (wk g i + g i ≥ x)) n = (fw g n).all (fun y => decide (y ≥ x))
 | 0 => rfl
 | n + 1 => by
  unfold allP fw
  rw [least_eq n]
  cases n % 7 == 6 with
  | true => simp
  | false => simp
end
/-! ### Growth -/
def chain (r : Int) : Int → List Int → Bool
 | _, [] => true
 | b, y :: l => decide (100 * y ≤ r * b) && chain r y l
def lastD (b : Int) (l : List Int) : Int := l.foldl (fun _ y => y) b
theorem chain_app {r : Int} : ∀ {l l' : List Int} {b : Int}, chain r b (l ++ l') = (chain r b l && chain r (lastD b l) l')
 | [], _, _ => rfl
 | y :: l, l', b => by
  show (decide (100 * y ≤ r * b) && chain r y (l ++ l')) = (decide (100 * y ≤ r * b) && chain r y l && chain r (lastD y l) l')
  rw [chain_app, Bool.and_assoc]
theorem lastD_app {l : List Int} {b y : Int} : lastD b (l ++ [y]) = y := by unfold lastD; rw [List.foldl_append]; rfl
theorem hBef_eq {before : Int} {ses : List D} {P : Nat → Int} : ∀ i, hBef before ses (hist P i) = lastD before (fw (fun k => sLoad ses (P k)) i)
 | 0 => rfl
 | i + 1 => by
  unfold hist hBef fw
  rw [hist_len, full_nat, hWk_eq, hBef_eq i]
  cases i % 7 == 6 with
  | true => exact lastD_app.symm
  | false => rfl
theorem grow_eq {before r : Int} {g : Nat → Int} : ∀ n, allP (fun i => !(i % 7 == 6) || decide (100 * (wk g i + g i) ≤ r * lastD before (fw g i))) n = chain r before (fw g n)
 | 0 => rfl
 | n + 1 => by
  unfold allP
  rw [fw, grow_eq n]
  cases n % 7 == 6 with
  | true =>
   simp only [_root_.cond_true, Bool.not_true, Bool.false_or]
   rw [chain_app]
   simp [chain]
  | false => simp
theorem grow_all {before r : Int} {g : Nat → Int} {n : Nat} (hn : 0 < n) : allP (fun i => !(i % 7 == 6 || (i : Int) == (n : Int) - 1) || decide (100 * (wk g i + g i) ≤ r * lastD before (fw g i))) n = chain r before (ws g n) := by
 obtain ⟨m, rfl⟩ : ∃ m, n = m + 1 := ⟨n - 1, by omega⟩
 unfold allP
 rw [ws_succ, chain_app, ← grow_eq m]
 congr 1
 ·refine allP_congr fun i hi => ?_
  rw [show ((i : Int) == ((m + 1 : Nat) : Int) - 1) = false by rw [beq_eq_false_iff_ne]; omega, Bool.or_false]
 ·rw [show ((m : Int) == ((m + 1 : Nat) : Int) - 1) = true by rw [beq_iff_eq]; omega, Bool.or_true]
  simp [chain]
/-! ### Hard days -/
def hardL (H : Nat → Bool) : Nat → Int
 | 0 => 0
 | i + 1 => bif H i then (i : Int) + 1 else hardL H i
theorem hHard_eq {ses : List D} {P : Nat → Int} : ∀ i, hHard ses (hist P i) = hardL (fun k => sHard ses (P k)) i
 | 0 => rfl
 | i + 1 => by
  unfold hist hHard hardL
  rw [hist_len, hHard_eq i]
theorem hardL_spec {H : Nat → Bool} : ∀ i, (hardL H i = 0 ∧ ∀ k, k < i → H k = false) ∨ (∃ k : Nat, k < i ∧ H k = true ∧ hardL H i = (k : Int) + 1 ∧ ∀ j, k < j → j < i → H j = false)
 | 0 => .inl ⟨rfl, fun k h => by omega⟩
 | i + 1 => by
  unfold hardL
  cases h : H i with
  | true => exact .inr ⟨i, by omega, h, rfl, fun j h1 h2 => by omega⟩
  | false =>
   rcases hardL_spec (H := H) i with ⟨h1, h2⟩ | ⟨k, h1, h2, h3, h4⟩
   ·refine .inl ⟨h1, fun k hk => ?_⟩
    by_cases hki : k = i
    ·subst hki; exact h
    ·exact h2 k (by omega)
   ·refine .inr ⟨k, by omega, h2, h3, fun j h5 h6 => ?_⟩
    by_cases hji : j = i
    ·subst hji; exact h
    ·exact h4 j h5 (by omega)
theorem apart_eq {H : Nat → Bool} {x : Int} (i : Nat) : (!H i || hardL H i == 0 || decide ((i : Int) + 1 - hardL H i ≥ x)) = allP (fun k => !(H i && H k && decide ((i : Int) - k < x))) i := by
 rw [Bool.eq_iff_iff, allP_iff]
 cases hi : H i with
 | false => simp
 | true =>
  rcases hardL_spec (H := H) i with ⟨h1, h2⟩ | ⟨k, h1, h2, h3, h4⟩
  ·rw [h1]
   simp only [Bool.not_true, Bool.false_or, beq_self_eq_true, Bool.true_or, Bool.true_and, true_iff]
   intro k hk
   rw [h2 k hk]; rfl
  ·rw [h3]
   rw [show ((k : Int) + 1 == 0) = false by rw [beq_eq_false_iff_ne]; omega]
   simp only [Bool.not_true, Bool.false_or, Bool.true_and, decide_eq_true_eq]
   refine ⟨fun h j hj => ?_, fun h => ?_⟩
   ·by_cases hjk : j ≤ k
    ·rw [decide_eq_false (by omega)]; simp
    ·rw [h4 j (by omega) hj]; rfl
   ·have := h k h1
    rw [h2] at this
    simp only [Bool.true_and, Bool.not_eq_true', decide_eq_false_iff_not] at this
    omega
theorem tap_all {g : Nat → Int} (hg : ∀ i, 0 ≤ g i) {x : Int} (hx : 0 ≤ x) : ∀ n, allP (fun i => decide (sumF g 0 i + g i ≤ x)) n = decide (sumF g 0 n ≤ x)
 | 0 => by rw [show sumF g 0 0 = 0 from rfl, decide_eq_true hx]; rfl
 | n + 1 => by
  unfold allP
  rw [tap_all hg hx n, show sumF g 0 (n + 1) = sumF g 0 n + g (0 + n) from rfl, Nat.zero_add]
  have := hg n
  by_cases h : sumF g 0 n + g n ≤ x
  ·rw [decide_eq_true h, decide_eq_true (show sumF g 0 n ≤ x by omega)]; rfl
  ·rw [decide_eq_false h, Bool.and_false]
theorem allP_more {f : Nat → Bool} {m : Nat} : ∀ {n : Nat}, m ≤ n → (∀ i, m ≤ i → i < n → f i = true) → allP f n = allP f m
 | 0, h, _ => by
  have : m = 0 := by omega
  subst this; rfl
 | n + 1, h, hf => by
  by_cases hm : m = n + 1
  ·subst hm; rfl
  ·show (allP f n && f n) = allP f m
   rw [hf n (by omega) (by omega), Bool.and_true]
   exact allP_more (by omega) fun i h1 h2 => hf i h1 (by omega)
end Go.Proofs.Ytefmjfcdgadggaa

namespace Go.Proofs.Ytefmjfcdgadggaa
open Go Go.AM
set_option maxHeartbeats 2000000
set_option maxRecDepth 100000
variable {N : Nat}
/-- A plan's session of a day (a day off behind its end). -/
def pN (plan : List D) (i : Nat) : Int := (plan.getD i (.i (-1))).toI
theorem pN_at {plan : List D} {i : Nat} (h : i < plan.length) : (plan.getD i (.i 0)).toI = pN plan i := by
 unfold pN
 rw [List.getD_eq_getElem?_getD, List.getD_eq_getElem?_getD, List.getElem?_eq_getElem h]; rfl
theorem tmod_nat (i : Nat) : (i : Int).tmod 7 = ((i % 7 : Nat) : Int) := by rw [Int.tmod_eq_emod_of_nonneg (by omega)]; omega
theorem tdiv_nat (i : Nat) : (i : Int).tdiv 7 = ((i / 7 : Nat) : Int) := by rw [Int.tdiv_eq_ediv_of_nonneg (by omega)]; omega
theorem set_last {α : Type} {l : List α} {a b : α} {k : Nat} (h : k = l.length) : (l ++ [a]).set k b = l ++ [b] := by
 subst h
 rw [List.set_append_right _ _ (Nat.le_refl _), Nat.sub_self]; rfl
theorem getD_last {α : Type} {l : List α} {a d : α} {k : Nat} (h : k = l.length) : (l ++ [a]).getD k d = a := by
 subst h
 rw [List.getD_eq_getElem?_getD, List.getElem?_append_right (Nat.le_refl _), Nat.sub_self]; rfl
theorem wk_bd {g : Nat → Int} (hg : ∀ i, 0 ≤ g i ∧ g i ≤ 1000) : ∀ i : Nat, 0 ≤ wk g i ∧ wk g i ≤ 1000 * i
 | 0 => by unfold wk; omega
 | i + 1 => by
  have := wk_bd hg i
  have := hg i
  unfold wk
  cases i % 7 == 6 <;> simp only [_root_.cond_true, _root_.cond_false] <;> omega
theorem fw_bd {g : Nat → Int} (hg : ∀ i, 0 ≤ g i ∧ g i ≤ 1000) : ∀ {i : Nat} {x : Int}, x ∈ fw g i → 0 ≤ x ∧ x ≤ 1000 * i
 | 0, x, h => by simp [fw] at h
 | i + 1, x, h => by
  have h1 := wk_bd hg i
  have h2 := hg i
  unfold fw at h
  cases hb : i % 7 == 6 with
  | true =>
   rw [hb] at h
   simp only [_root_.cond_true, List.mem_append, List.mem_singleton] at h
   rcases h with h | rfl
   ·have := fw_bd hg h; omega
   ·omega
  | false => rw [hb] at h; have := fw_bd hg h; omega
theorem ws_bd {g : Nat → Int} (hg : ∀ i, 0 ≤ g i ∧ g i ≤ 1000) {i : Nat} {x : Int} (h : x ∈ ws g i) : 0 ≤ x ∧ x ≤ 1000 * i := by
 unfold ws at h
 rcases List.mem_append.1 h with h | h
 ·exact fw_bd hg h
 ·cases hb : i % 7 == 0 with
  | true => rw [hb] at h; simp at h
  | false =>
   rw [hb] at h
   simp only [_root_.cond_false, List.mem_singleton] at h
   subst h; exact wk_bd hg i
section
variable {first days before : Int} {ses rules plan : List D} {r : D}
theorem pN_in (hp : DoneOk ses plan) (i : Nat) : -1 ≤ pN plan i ∧ pN plan i < ses.length := by
 by_cases h : i < plan.length
 ·have := hp _ (getD_mem (xs := plan) (w := (i : Int)) (.i (-1)) (by omega) (by omega))
  rw [Int.toNat_natCast] at this
  exact this
 ·unfold pN
  rw [List.getD_eq_getElem?_getD, List.getElem?_eq_none (by omega)]
  simp only [Option.getD_none, D.toI]
  omega
/-- The load of a day. -/
def ldF (ses plan : List D) (i : Nat) : Int := sLoad ses (pN plan i)
theorem ldF_in (hg : Good first days before ses rules) (hp : DoneOk ses plan) (i : Nat) : 0 ≤ ldF ses plan i ∧ ldF ses plan i ≤ 1000 := sLoad_in hg (pN_in hp i).2
theorem G71x0_eq (hg : Good first days before ses rules) (hN : maxLen < N) (hp : DoneOk ses plan) (hl : plan.length ≤ 14) : ∃ b, G71x0 N ses plan = some (b, (ws (ldF ses plan) plan.length).map D.i) := by
 have hM : maxLen = 9223372036854775807 := rfl
 have key := loop_indP (A := Int × Bool × List D) (S := fun a kr => S71x0x9 N plan plan.length ses a.1 a.2.1 a.2.2 (fun x y z => kr (x, y, z)) (fun p => some p)) (L := fun k a => L71x0x9 N plan plan.length ses k a.1 a.2.1 a.2.2 (fun p => some p)) (fun k a => rfl)
  (fun a x => a.2.2 = (ws (ldF ses plan) a.1.toNat).map D.i → ∃ b, x = some (b, (ws (ldF ses plan) plan.length).map D.i))
  (fun a => 0 ≤ a.1 ∧ a.1 ≤ plan.length) (fun a => ((plan.length : Int) - a.1).toNat) (by
   rintro ⟨w, b, ol⟩ kr ⟨h0, h1⟩ ih hol
   dsimp only at h0 h1 ih hol ⊢
   obtain ⟨i, rfl⟩ := Int.eq_ofNat_of_zero_le h0
   rw [Int.toNat_natCast] at hol
   subst hol
   by_cases hw : (i : Int) < plan.length
   ·have ew : IntKind.wrap .i64 ((i : Int) + 1) = ((i + 1 : Nat) : Int) := small (by omega)
    have e7 : IntKind.wrap .i64 ((i / 7 : Nat) : Int) = ((i / 7 : Nat) : Int) := small (by omega)
    have hgi := ldF_in hg hp i
    have hwk := wk_bd (ldF_in hg hp) i
    have hon := G63x0_eq (N := N) (ses := ses) (n := pN plan i) (pN_in hp i).2
    have hfl : ((fw (ldF ses plan) i).map D.i).length = i / 7 := by rw [List.length_map, fw_len]
    have next : ∀ b', ∃ b, kr (((i + 1 : Nat) : Int), b', (fw (ldF ses plan) i).map D.i ++ [.i (wk (ldF ses plan) i + ldF ses plan i)]) = some (b, (ws (ldF ses plan) plan.length).map D.i) := fun b' => ih (((i + 1 : Nat) : Int), b', _) ⟨by dsimp only; omega, by dsimp only; omega⟩ (by dsimp only; omega) (by dsimp only; rw [Int.toNat_natCast, ws_succ, List.map_append]; rfl)
    have eld : sLoad ses (pN plan i) = ldF ses plan i := rfl
    simp only [S71x0x9, decide_eq_true hw, _root_.cond_true, inB_of h0 hw, tmod_nat, tdiv_nat, e7, ew, bnd_eq, Int.toNat_natCast, pN_at (show i < plan.length by omega), hon, Option.isSome_some, getD_some, eld]
    by_cases h7 : i % 7 = 0
    ·have hws : (ws (ldF ses plan) i).map D.i = (fw (ldF ses plan) i).map D.i := by
      unfold ws
      rw [show (i % 7 == 0) = true by rw [beq_iff_eq]; exact h7]; simp
     have hz := wk_zero (g := ldF ses plan) h7
     rw [hz] at next
     rw [hws, show ((((i % 7 : Nat) : Int)) == 0) = true by rw [beq_iff_eq]; omega]
     have hll : ((fw (ldF ses plan) i).map D.i ++ [D.i 0]).length = i / 7 + 1 := by rw [List.length_append, hfl]; rfl
     simp only [G71x0x20, F71x0x20, _root_.cond_true, roomOk (show ((fw (ldF ses plan) i).map D.i).length ≤ 1000 by omega), inlB_inl, inlV_inl, hll, inB_of (show (0 : Int) ≤ ((i / 7 : Nat) : Int) by omega) (show ((i / 7 : Nat) : Int) < ((i / 7 + 1 : Nat) : Int) by omega), decide_eq_true (show i / 7 < i / 7 + 1 by omega), getD_last (show i / 7 = ((fw (ldF ses plan) i).map D.i).length from hfl.symm), set_last (show i / 7 = ((fw (ldF ses plan) i).map D.i).length from hfl.symm), D.toI, small (show -1000000000000 ≤ 0 + ldF ses plan i ∧ 0 + ldF ses plan i ≤ 1000000000000 by omega)]
     exact next false
    ·have hws : (ws (ldF ses plan) i).map D.i = (fw (ldF ses plan) i).map D.i ++ [.i (wk (ldF ses plan) i)] := by
      unfold ws
      rw [show (i % 7 == 0) = false by rw [beq_eq_false_iff_ne]; exact h7, List.map_append]; rfl
     rw [hws, show ((((i % 7 : Nat) : Int)) == 0) = false by rw [beq_eq_false_iff_ne]; omega]
     have hll : ((fw (ldF ses plan) i).map D.i ++ [D.i (wk (ldF ses plan) i)]).length = i / 7 + 1 := by rw [List.length_append, hfl]; rfl
     simp only [G71x0x20, F71x0x20, _root_.cond_false, _root_.cond_true, inlB_inr, inrQ_inr, Option.isSome_some, hll, inB_of (show (0 : Int) ≤ ((i / 7 : Nat) : Int) by omega) (show ((i / 7 : Nat) : Int) < ((i / 7 + 1 : Nat) : Int) by omega), decide_eq_true (show i / 7 < i / 7 + 1 by omega), getD_last (show i / 7 = ((fw (ldF ses plan) i).map D.i).length from hfl.symm), set_last (show i / 7 = ((fw (ldF ses plan) i).map D.i).length from hfl.symm), D.toI, small (show -1000000000000 ≤ wk (ldF ses plan) i + ldF ses plan i ∧ wk (ldF ses plan) i + ldF ses plan i ≤ 1000000000000 by omega)]
     exact next b
   ·have : i = plan.length := by omega
    subst this
    refine ⟨b, ?_⟩
    simp only [S71x0x9, decide_eq_false hw, _root_.cond_false])
  N (0, true, []) ⟨by simp, by simp⟩ (by dsimp only; omega) rfl
 obtain ⟨b, key⟩ := key
 refine ⟨b, ?_⟩
 unfold G71x0 F71x0 G71x0x9
 rw [key]
 rfl
end
end Go.Proofs.Ytefmjfcdgadggaa

namespace Go.Proofs.Ytefmjfcdgadggaa
open Go Go.AM
set_option maxHeartbeats 4000000
set_option maxRecDepth 100000
variable {N : Nat}
/-! ### The document's rules, kind by kind -/
abbrev inrU : Option (Sum Unit Unit) := some (.inr ())
abbrev inlU : Option (Sum Unit Unit) := some (.inl ())
section
variable {first days before : Int} {ses rules plan : List D} {r : D}
/-- Is a rule kept on a day of a plan? -/
def vP (first days before : Int) (ses : List D) (r : D) (plan : List D) (i : Nat) : Bool := V first days before ses r (hist (pN plan) i) (pN plan i)
theorem kind1_eq (hg : Good first days before ses rules) (hN : maxLen < N) (hp : DoneOk ses plan) (hl : plan.length ≤ 14) (e : rKind r = 1) :
  G62x0x36 N plan plan.length first ses 1 (rDay r) (rN r) 0 = bif allP (vP first days before ses r plan) plan.length then inrU else inlU := by
 have hf := hg.gfirst
 refine (scan_ind (S := fun w kr => S62x0x36 N plan plan.length first ses 1 (rDay r) (rN r) w kr (fun p => some (.inl p)) (fun p => some (.inr p))) (L := fun m w => L62x0x36 N plan plan.length first ses 1 (rDay r) (rN r) m w _ _) (fun m w => rfl) _ inlU inrU (n := plan.length) (by omega) ?_ ?_ hN)
 ·intro kr; simp [S62x0x36]
 ·intro w kr hw ew
  have hv : vP first days before ses r plan w = (decide (pN plan w < 0) || wday first w != rDay r) := by
   unfold vP V; rw [e, hist_len]; rfl
  rw [hv]
  unfold wday
  simp only [S62x0x36, decide_eq_true (show (w : Int) < plan.length by omega), _root_.cond_true, inB_of (show (0 : Int) ≤ w by omega) (show (w : Int) < plan.length by omega), small (show -1000000000000 ≤ first + (w : Int) ∧ first + (w : Int) ≤ 1000000000000 by omega), ew, Int.toNat_natCast, pN_at hw, G62x0x46, F62x0x46, bnd_eq]
  cases (first + (w : Int)).tmod 7 != rDay r with
  | true => simp
  | false =>
   by_cases h : pN plan w ≥ 0
   ·rw [decide_eq_true h, decide_eq_false (show ¬ pN plan w < 0 by omega)]; rfl
   ·rw [decide_eq_false h, decide_eq_true (show pN plan w < 0 by omega)]; rfl
theorem kind2_eq (hg : Good first days before ses rules) (hN : maxLen < N) (hp : DoneOk ses plan) (hl : plan.length ≤ 14) (hn : 0 ≤ rN r) (e : rKind r = 2) :
  G62x0x36 N plan plan.length first ses 2 (rDay r) (rN r) 0 = bif allP (vP first days before ses r plan) plan.length then inrU else inlU := by
 have hf := hg.gfirst
 refine (scan_ind (S := fun w kr => S62x0x36 N plan plan.length first ses 2 (rDay r) (rN r) w kr (fun p => some (.inl p)) (fun p => some (.inr p))) (L := fun m w => L62x0x36 N plan plan.length first ses 2 (rDay r) (rN r) m w _ _) (fun m w => rfl) _ inlU inrU (n := plan.length) (by omega) ?_ ?_ hN)
 ·intro kr; simp [S62x0x36]
 ·intro w kr hw ew
  have hv : vP first days before ses r plan w = (decide (pN plan w < 0) || (decide (sMin ses (pN plan w) ≤ rN r) || wday first w != rDay r)) := by
   unfold vP V; rw [e, hist_len]; rfl
  rw [hv]
  unfold wday
  simp only [S62x0x36, decide_eq_true (show (w : Int) < plan.length by omega), _root_.cond_true, inB_of (show (0 : Int) ≤ w by omega) (show (w : Int) < plan.length by omega), small (show -1000000000000 ≤ first + (w : Int) ∧ first + (w : Int) ≤ 1000000000000 by omega), ew, Int.toNat_natCast, pN_at hw, G62x0x46, F62x0x46, bnd_eq, G63x0_eq (pN_in hp w).2, Option.isSome_some, getD_some]
  cases (first + (w : Int)).tmod 7 != rDay r with
  | true => simp
  | false =>
   have hz : pN plan w < 0 → sMin ses (pN plan w) ≤ rN r := fun h => by unfold sMin; rw [decide_eq_true h]; exact hn
   by_cases h : sMin ses (pN plan w) ≤ rN r
   ·rw [decide_eq_true h, decide_eq_false (show ¬ sMin ses (pN plan w) > rN r by omega)]; simp
   ·rw [decide_eq_false h, decide_eq_true (show sMin ses (pN plan w) > rN r by omega), decide_eq_false fun h' => h (hz h')]; rfl
theorem ws_map {g : Nat → Int} {n j : Nat} (h : j < (n + 6) / 7) : (((ws g n).map D.i).getD j (.i 0)).toI = (ws g n).getD j 0 := by
 have hl : j < (ws g n).length := by rw [ws_len]; exact h
 simp only [List.getD_eq_getElem?_getD, List.getElem?_map, List.getElem?_eq_getElem hl, Option.map_some, Option.getD_some, D.toI]
theorem ws_mapl {g : Nat → Int} {n : Nat} : ((ws g n).map D.i).length = (n + 6) / 7 := by rw [List.length_map, ws_len]
theorem kind3_eq (hg : Good first days before ses rules) (hN : maxLen < N) (hp : DoneOk ses plan) (hl : plan.length ≤ 14) (e : rKind r = 3) :
  G62x0x60 N ((ws (ldF ses plan) plan.length).map D.i) (((ws (ldF ses plan) plan.length).map D.i).length : Int) (rN r) 0 = bif allP (vP first days before ses r plan) plan.length then inrU else inlU := by
 have hv : ∀ i, i < plan.length → vP first days before ses r plan i = decide (wk (ldF ses plan) i + ldF ses plan i ≤ rN r) := fun i _ => by
  unfold vP V; rw [e, hWk_eq]; rfl
 rw [allP_congr hv, most_eq (fun i => (ldF_in hg hp i).1), ← allP_list 0 (fun y => decide (y ≤ rN r)), ws_len]
 refine (scan_ind (S := fun w kr => S62x0x60 N ((ws (ldF ses plan) plan.length).map D.i) (((ws (ldF ses plan) plan.length).map D.i).length : Int) (rN r) w kr (fun p => some (.inl p)) (fun p => some (.inr p))) (L := fun m w => L62x0x60 N ((ws (ldF ses plan) plan.length).map D.i) (((ws (ldF ses plan) plan.length).map D.i).length : Int) (rN r) m w _ _) (fun m w => rfl) _ inlU inrU (n := (plan.length + 6) / 7) (by omega) ?_ ?_ hN)
 ·intro kr; simp only [S62x0x60, ws_mapl]; simp
 ·intro w kr hw ew
  simp only [S62x0x60, ws_mapl, decide_eq_true (show (w : Int) < ((plan.length + 6) / 7 : Nat) by omega), _root_.cond_true, inB_of (show (0 : Int) ≤ w by omega) (show (w : Int) < ((plan.length + 6) / 7 : Nat) by omega), ew, Int.toNat_natCast, ws_map hw]
  by_cases h : (ws (ldF ses plan) plan.length).getD w 0 ≤ rN r
  ·rw [decide_eq_true h, decide_eq_false (show ¬ (ws (ldF ses plan) plan.length).getD w 0 > rN r by omega)]; rfl
  ·rw [decide_eq_false h, decide_eq_true (show (ws (ldF ses plan) plan.length).getD w 0 > rN r by omega)]; rfl
theorem full_all {g : Nat → Int} {n : Nat} {p : Int → Bool} : allP (fun j => !(decide (7 * (j : Int) + 7 ≤ n) && !p ((ws g n).getD j 0))) ((n + 6) / 7) = (fw g n).all p := by
 rw [← allP_list 0 p, fw_len, Bool.eq_iff_iff, allP_iff, allP_iff]
 refine ⟨fun h j hj => ?_, fun h j hj => ?_⟩
 ·have := h j (by omega)
  rw [decide_eq_true (show 7 * (j : Int) + 7 ≤ n by omega)] at this
  unfold ws at this
  rw [getD_l (by rw [fw_len]; exact hj)] at this
  simpa using this
 ·by_cases h7 : 7 * (j : Int) + 7 ≤ n
  ·have hj' : j < n / 7 := by omega
   have := h j hj'
   rw [decide_eq_true h7]
   unfold ws
   rw [getD_l (by rw [fw_len]; exact hj'), this]; rfl
  ·rw [decide_eq_false h7]; rfl
theorem kind4_eq (hg : Good first days before ses rules) (hN : maxLen < N) (hp : DoneOk ses plan) (hl : plan.length ≤ 14) (e : rKind r = 4) :
  G62x0x81 N plan ((ws (ldF ses plan) plan.length).map D.i) (((ws (ldF ses plan) plan.length).map D.i).length : Int) (rN r) 0 = bif allP (vP first days before ses r plan) plan.length then inrU else inlU := by
 have hv : ∀ i, i < plan.length → vP first days before ses r plan i = (!(i % 7 == 6) || decide (wk (ldF ses plan) i + ldF ses plan i ≥ rN r)) := fun i _ => by
  unfold vP V; rw [e, hWk_eq, hist_len, full_nat]; rfl
 rw [allP_congr hv, least_eq, ← full_all]
 refine (scan_ind (S := fun w kr => S62x0x81 N plan ((ws (ldF ses plan) plan.length).map D.i) (((ws (ldF ses plan) plan.length).map D.i).length : Int) (rN r) w kr (fun p => some (.inl p)) (fun p => some (.inr p))) (L := fun m w => L62x0x81 N plan ((ws (ldF ses plan) plan.length).map D.i) (((ws (ldF ses plan) plan.length).map D.i).length : Int) (rN r) m w _ _) (fun m w => rfl) _ inlU inrU (n := (plan.length + 6) / 7) (by omega) ?_ ?_ hN)
 ·intro kr; simp only [S62x0x81, ws_mapl]; simp
 ·intro w kr hw ew
  simp only [S62x0x81, ws_mapl, decide_eq_true (show (w : Int) < ((plan.length + 6) / 7 : Nat) by omega), _root_.cond_true, inB_of (show (0 : Int) ≤ w by omega) (show (w : Int) < ((plan.length + 6) / 7 : Nat) by omega), ew, Int.toNat_natCast, ws_map hw, bnd_eq, small (show -1000000000000 ≤ 7 * (w : Int) ∧ 7 * (w : Int) ≤ 1000000000000 by omega), small (show -1000000000000 ≤ 7 * (w : Int) + 7 ∧ 7 * (w : Int) + 7 ≤ 1000000000000 by omega)]
  cases decide (7 * (w : Int) + 7 ≤ plan.length) with
  | false => rfl
  | true =>
   by_cases h : (ws (ldF ses plan) plan.length).getD w 0 ≥ rN r
   ·rw [decide_eq_true h, decide_eq_false (show ¬ (ws (ldF ses plan) plan.length).getD w 0 < rN r by omega)]; rfl
   ·rw [decide_eq_false h, decide_eq_true (show (ws (ldF ses plan) plan.length).getD w 0 < rN r by omega)]; rfl
theorem kind5_eq (hg : Good first days before ses rules) (hN : maxLen < N) (hp : DoneOk ses plan) (hl : plan.length ≤ 14) (e : rKind r = 5) :
  G62x0x102 N plan plan.length ses (rN r) 0 = bif allP (vP first days before ses r plan) plan.length then inrU else inlU := by
 have hv : ∀ i, i < plan.length → vP first days before ses r plan i = allP (fun k => !(sHard ses (pN plan i) && sHard ses (pN plan k) && decide ((i : Int) - k < rN r))) i := fun i _ => by
  rw [← apart_eq (H := fun k => sHard ses (pN plan k))]
  unfold vP V; rw [e, hHard_eq, hist_len]; rfl
 refine (scan_ind (S := fun w kr => S62x0x102 N plan plan.length ses (rN r) w kr (fun p => some (.inl p)) (fun p => some (.inr p))) (L := fun m w => L62x0x102 N plan plan.length ses (rN r) m w _ _) (fun m w => rfl) _ inlU inrU (n := plan.length) (by omega) ?_ ?_ hN)
 ·intro kr; simp [S62x0x102]
 ·intro w kr hw ew
  rw [hv w hw]
  have hin : G62x0x111 N plan w w ses (rN r) 0 = bif allP (fun k => !(sHard ses (pN plan w) && sHard ses (pN plan k) && decide ((w : Int) - k < rN r))) w then inrU else inlU := by
   refine (scan_ind (S := fun k kr => S62x0x111 N plan w w ses (rN r) k kr (fun p => some (.inl p)) (fun p => some (.inr p))) (L := fun m k => L62x0x111 N plan w w ses (rN r) m k _ _) (fun m w => rfl) _ inlU inrU (n := w) (by omega) ?_ ?_ hN)
   ·intro kr; simp [S62x0x111]
   ·intro k kr hk ek
    have hkp : k < plan.length := by omega
    simp only [S62x0x111, decide_eq_true (show (k : Int) < w by omega), _root_.cond_true, G62x0x118, F62x0x118, inB_of (show (0 : Int) ≤ w by omega) (show (w : Int) < plan.length by omega), inB_of (show (0 : Int) ≤ k by omega) (show (k : Int) < plan.length by omega), Int.toNat_natCast, pN_at hw, pN_at hkp, G63x0_eq (pN_in hp w).2, G63x0_eq (pN_in hp k).2, bnd_eq, Option.isSome_some, getD_some, ek, small (show -1000000000000 ≤ (w : Int) - k ∧ (w : Int) - k ≤ 1000000000000 by omega)]
    cases sHard ses (pN plan w) <;> cases sHard ses (pN plan k) <;> cases decide ((w : Int) - k < rN r) <;> rfl
  simp only [S62x0x102, decide_eq_true (show (w : Int) < plan.length by omega), _root_.cond_true, hin, bnd_eq, ew]
  cases allP (fun k => !(sHard ses (pN plan w) && sHard ses (pN plan k) && decide ((w : Int) - k < rN r))) w <;> rfl
theorem sumF_front {g : Nat → Int} : ∀ {m a : Nat}, sumF g a (m + 1) = g a + sumF g (a + 1) m
 | 0, a => by unfold sumF sumF; simp
 | m + 1, a => by
  have ih := sumF_front (g := g) (m := m) (a := a)
  rw [show sumF g a (m + 1 + 1) = sumF g a (m + 1) + g (a + (m + 1)) from rfl, ih, show sumF g (a + 1) (m + 1) = sumF g (a + 1) m + g (a + 1 + m) from rfl, show a + 1 + m = a + (m + 1) by omega]
  omega
/-- The days of a session. -/
def cntF (c : Int) (plan : List D) (i : Nat) : Int := bif pN plan i == c then 1 else 0
theorem cntF_in {c : Int} (i : Nat) : 0 ≤ cntF c plan i ∧ cntF c plan i ≤ 1000 := by unfold cntF; cases pN plan i == c <;> simp
theorem min2_nat (a b : Nat) : min2 (a : Int) (b : Int) = ((min a b : Nat) : Int) := by
 unfold min2
 rw [Nat.min_def]
 split <;> split <;> omega
theorem count_eq (hN : maxLen < N) (hs : ses.length ≤ maxLen) (hl : plan.length ≤ 14) {name : List UInt8} (j : Nat) (hj : j ≤ 14) :
  G62x0x147 N plan j ses name 0 (IntKind.wrap .i64 (7 * (j : Int))) = some (sumF (cntF (sesAt ses name) plan) (7 * j) (min (7 * j + 7) plan.length - 7 * j)) := by
 have hM : maxLen = 9223372036854775807 := rfl
 have key := loop_indP (A := Int × Int) (S := fun a kr => S62x0x147 N plan j ses name a.1 a.2 (fun x y => kr (x, y)) (fun p => some p)) (L := fun k a => L62x0x147 N plan j ses name k a.1 a.2 (fun p => some p)) (fun k a => rfl)
  (fun a x => x = some (a.1 + sumF (cntF (sesAt ses name) plan) a.2.toNat (min (7 * j + 7) plan.length - a.2.toNat)))
  (fun a => (0 ≤ a.2 ∧ a.2 ≤ 1000) ∧ 0 ≤ a.1 ∧ a.1 ≤ a.2) (fun a => min (7 * j + 7) plan.length - a.2.toNat) (by
   rintro ⟨c, w⟩ kr ⟨⟨h0, h1⟩, h2, h3⟩ ih
   dsimp only at h0 h1 h2 h3 ih ⊢
   obtain ⟨i, rfl⟩ := Int.eq_ofNat_of_zero_le h0
   have e7 : IntKind.wrap .i64 (7 * (j : Int)) = ((7 * j : Nat) : Int) := small (by omega)
   have e77 : IntKind.wrap .i64 (((7 * j : Nat) : Int) + 7) = ((7 * j + 7 : Nat) : Int) := small (by omega)
   simp only [S62x0x147, e7, e77, min2_nat, bnd_eq, Int.toNat_natCast]
   by_cases hw : i < min (7 * j + 7) plan.length
   ·have hip : i < plan.length := by omega
    have ew : IntKind.wrap .i64 ((i : Int) + 1) = ((i + 1 : Nat) : Int) := small (by omega)
    simp only [decide_eq_true (show (i : Int) < ((min (7 * j + 7) plan.length : Nat) : Int) by omega), _root_.cond_true, inB_of (show (0 : Int) ≤ i by omega) (show (i : Int) < plan.length by omega), G55x0_eq hN hs, Option.isSome_some, getD_some, pN_at hip, ew, V62x0x158, F62x0x158, small (show -1000000000000 ≤ c + 1 ∧ c + 1 ≤ 1000000000000 by omega)]
    rw [show min (7 * j + 7) plan.length - i = (min (7 * j + 7) plan.length - (i + 1)) + 1 by omega, sumF_front]
    unfold cntF
    cases hb : pN plan i == sesAt ses name with
    | true =>
     have := ih (c + 1, ((i + 1 : Nat) : Int)) ⟨⟨by dsimp only; omega, by dsimp only; omega⟩, by dsimp only; omega, by dsimp only; omega⟩ (by dsimp only; omega)
     dsimp only at this
     rw [Int.toNat_natCast] at this
     simp only [_root_.cond_true]
     rw [this, Int.add_assoc]; rfl
    | false =>
     have := ih (c, ((i + 1 : Nat) : Int)) ⟨⟨by dsimp only; omega, by dsimp only; omega⟩, by dsimp only; omega, by dsimp only; omega⟩ (by dsimp only; omega)
     dsimp only at this
     rw [Int.toNat_natCast] at this
     simp only [_root_.cond_false, Int.zero_add]
     rw [this]; rfl
   ·simp only [decide_eq_false (show ¬ (i : Int) < ((min (7 * j + 7) plan.length : Nat) : Int) by omega), _root_.cond_false]
    rw [show min (7 * j + 7) plan.length - i = 0 by omega]
    unfold sumF
    simp)
  N (0, ((7 * j : Nat) : Int)) ⟨⟨by dsimp only; omega, by dsimp only; omega⟩, by simp, by dsimp only; omega⟩ (by dsimp only; omega)
 have e7 : IntKind.wrap .i64 (7 * (j : Int)) = ((7 * j : Nat) : Int) := small (by omega)
 rw [e7]
 unfold G62x0x147
 dsimp only at key
 rw [key, Int.toNat_natCast, Int.zero_add]
theorem kind6_eq (hg : Good first days before ses rules) (hN : maxLen < N) (hp : DoneOk ses plan) (hl : plan.length ≤ 14) (e : rKind r = 6) :
  G62x0x135 N plan (((ws (ldF ses plan) plan.length).map D.i).length : Int) ses (rLow r) (rHigh r) (rName r) 0 = bif allP (vP first days before ses r plan) plan.length then inrU else inlU := by
 have hM : maxLen = 9223372036854775807 := rfl
 have h4 := hg.nses
 have hv : ∀ i, i < plan.length → vP first days before ses r plan i = (decide (wk (cntF (sesAt ses (rName r)) plan) i + cntF (sesAt ses (rName r)) plan i ≤ rHigh r) && (!(i % 7 == 6) || decide (wk (cntF (sesAt ses (rName r)) plan) i + cntF (sesAt ses (rName r)) plan i ≥ rLow r))) := fun i _ => by
  unfold vP V; rw [e, hCnt_eq, hist_len, full_nat]; rfl
 rw [allP_congr hv, allP_and, most_eq (fun i => (cntF_in i).1), least_eq, ← allP_list 0 (fun y => decide (y ≤ rHigh r)), ws_len, ← full_all, ← allP_and]
 refine (scan_ind (S := fun w kr => S62x0x135 N plan (((ws (ldF ses plan) plan.length).map D.i).length : Int) ses (rLow r) (rHigh r) (rName r) w kr (fun p => some (.inl p)) (fun p => some (.inr p))) (L := fun m w => L62x0x135 N plan (((ws (ldF ses plan) plan.length).map D.i).length : Int) ses (rLow r) (rHigh r) (rName r) m w _ _) (fun m w => rfl) _ inlU inrU (n := (plan.length + 6) / 7) (by omega) ?_ ?_ hN)
 ·intro kr; simp only [S62x0x135, ws_mapl]; simp
 ·intro w kr hw ew
  have hc := count_eq hN (show ses.length ≤ maxLen by omega) hl (name := rName r) w (by omega)
  rw [← ws_at hw, small (show -1000000000000 ≤ 7 * (w : Int) ∧ 7 * (w : Int) ≤ 1000000000000 by omega)] at hc
  simp only [S62x0x135, ws_mapl, decide_eq_true (show (w : Int) < ((plan.length + 6) / 7 : Nat) by omega), _root_.cond_true, hc, ew, bnd_eq, Option.isSome_some, getD_some, small (show -1000000000000 ≤ 7 * (w : Int) ∧ 7 * (w : Int) ≤ 1000000000000 by omega), small (show -1000000000000 ≤ 7 * (w : Int) + 7 ∧ 7 * (w : Int) + 7 ≤ 1000000000000 by omega)]
  generalize (ws (cntF (sesAt ses (rName r)) plan) plan.length).getD w 0 = y
  have a : decide (y > rHigh r) = !decide (y ≤ rHigh r) := by
   by_cases h : y ≤ rHigh r
   ·rw [decide_eq_true h, decide_eq_false (by omega)]; rfl
   ·rw [decide_eq_false h, decide_eq_true (by omega)]; rfl
  have b : decide (y < rLow r) = !decide (y ≥ rLow r) := by
   by_cases h : y ≥ rLow r
   ·rw [decide_eq_true h, decide_eq_false (by omega)]; rfl
   ·rw [decide_eq_false h, decide_eq_true (by omega)]; rfl
  rw [a, b]
  cases decide (y ≤ rHigh r) <;> cases decide (7 * (w : Int) + 7 ≤ plan.length) <;> cases decide (y ≥ rLow r) <;> rfl
end
end Go.Proofs.Ytefmjfcdgadggaa

namespace Go.Proofs.Ytefmjfcdgadggaa
open Go Go.AM
set_option maxHeartbeats 4000000
set_option maxRecDepth 100000
variable {N : Nat}
section
variable {first days before : Int} {ses rules plan : List D} {r : D}
theorem kind7_eq (hg : Good first days before ses rules) (hN : maxLen < N) (hp : DoneOk ses plan) (hl : (plan.length : Int) = days) (hn : 0 ≤ rN r ∧ rN r ≤ 100000) (e : rKind r = 7) :
  G62x0x177 N ((ws (ldF ses plan) plan.length).map D.i) (((ws (ldF ses plan) plan.length).map D.i).length : Int) (rN r) before 0 = bif allP (vP first days before ses r plan) plan.length then inrU else inlU := by
 have hM : maxLen = 9223372036854775807 := rfl
 have hgd := hg.gdays
 have hgb := hg.gbefore
 have hv : ∀ i, i < plan.length → vP first days before ses r plan i = (!(i % 7 == 6 || (i : Int) == (plan.length : Int) - 1) || decide (100 * (wk (ldF ses plan) i + ldF ses plan i) ≤ rN r * lastD before (fw (ldF ses plan) i))) := fun i _ => by
  unfold vP V endsD; rw [e, hWk_eq, hBef_eq, hist_len, full_nat, hl]; rfl
 rw [allP_congr hv, grow_all (by omega)]
 have key := loop_indP (A := Int × Int) (S := fun a kr => S62x0x177 N ((ws (ldF ses plan) plan.length).map D.i) (((ws (ldF ses plan) plan.length).map D.i).length : Int) (rN r) a.1 a.2 (fun x y => kr (x, y)) (fun p => some (.inl p)) (fun p => some (.inr p))) (L := fun k a => L62x0x177 N ((ws (ldF ses plan) plan.length).map D.i) (((ws (ldF ses plan) plan.length).map D.i).length : Int) (rN r) k a.1 a.2 (fun p => some (.inl p)) (fun p => some (.inr p))) (fun k a => rfl)
  (fun a x => x = bif chain (rN r) a.1 ((ws (ldF ses plan) plan.length).drop a.2.toNat) then inrU else inlU)
  (fun a => (0 ≤ a.2 ∧ a.2 ≤ ((plan.length + 6) / 7 : Nat)) ∧ 0 ≤ a.1 ∧ a.1 ≤ 100000) (fun a => (plan.length + 6) / 7 - a.2.toNat) (by
   rintro ⟨b, w⟩ kr ⟨⟨h0, h1⟩, h2, h3⟩ ih
   dsimp only at h0 h1 h2 h3 ih ⊢
   obtain ⟨i, rfl⟩ := Int.eq_ofNat_of_zero_le h0
   rw [Int.toNat_natCast]
   have hwl := ws_len (g := ldF ses plan) (i := plan.length)
   by_cases hw : i < (plan.length + 6) / 7
   ·have ew : IntKind.wrap .i64 ((i : Int) + 1) = ((i + 1 : Nat) : Int) := small (by omega)
    have hd := drop_at (xs := ws (ldF ses plan) plan.length) (w := (i : Int)) 0 (by omega) (by omega)
    rw [show ((i : Int) + 1).toNat = i + 1 by omega, Int.toNat_natCast] at hd
    have hmem : (ws (ldF ses plan) plan.length).getD i 0 ∈ ws (ldF ses plan) plan.length := by
     have := getD_mem (xs := ws (ldF ses plan) plan.length) (w := (i : Int)) 0 (by omega) (by omega)
     simpa using this
    have hbd := ws_bd (ldF_in hg hp) hmem
    have hmu := mul_small hn ⟨h2, h3⟩
    simp only [S62x0x177, ws_mapl, decide_eq_true (show (i : Int) < ((plan.length + 6) / 7 : Nat) by omega), _root_.cond_true, inB_of (show (0 : Int) ≤ i by omega) (show (i : Int) < ((plan.length + 6) / 7 : Nat) by omega), ew, Int.toNat_natCast, ws_map hw, bnd_eq]
    rw [hd]
    generalize (ws (ldF ses plan) plan.length).getD i 0 = y at hbd
    rw [small (show -1000000000000 ≤ y * 100 ∧ y * 100 ≤ 1000000000000 by omega), small (show -1000000000000 ≤ rN r * b ∧ rN r * b ≤ 1000000000000 by omega)]
    have ih' := ih (y, ((i + 1 : Nat) : Int)) ⟨⟨by dsimp only; omega, by dsimp only; omega⟩, by dsimp only; omega, by dsimp only; omega⟩ (by dsimp only; omega)
    dsimp only at ih'
    rw [Int.toNat_natCast] at ih'
    rw [ih']
    show _ = bif decide (100 * y ≤ rN r * b) && chain (rN r) y ((ws (ldF ses plan) plan.length).drop (i + 1)) then inrU else inlU
    by_cases h : 100 * y ≤ rN r * b
    ·rw [decide_eq_true h, decide_eq_false (show ¬ y * 100 > rN r * b by omega)]; rfl
    ·rw [decide_eq_false h, decide_eq_true (show y * 100 > rN r * b by omega)]; rfl
   ·simp only [S62x0x177, ws_mapl, decide_eq_false (show ¬ (i : Int) < ((plan.length + 6) / 7 : Nat) by omega), _root_.cond_false]
    rw [List.drop_eq_nil_of_le (by omega)]
    rfl)
  N (before, 0) ⟨⟨by simp, by dsimp only; omega⟩, by dsimp only; omega, by dsimp only; omega⟩ (by dsimp only; omega)
 dsimp only at key
 simp only [Int.toNat_zero, List.drop_zero] at key
 exact key
theorem fixed_all {c : Int} {P : Nat → Int} {day : Int} {n : Nat} (h0 : 0 ≤ day) (h1 : day < n) : allP (fun i => (i : Int) != day || P i == c) n = (P day.toNat == c) := by
 rw [Bool.eq_iff_iff, allP_iff]
 refine ⟨fun h => ?_, fun h i hi => ?_⟩
 ·have := h day.toNat (by omega)
  rw [Int.toNat_of_nonneg h0] at this
  simpa using this
 ·by_cases hd : (i : Int) = day
  ·subst hd
   rw [Int.toNat_natCast] at h
   rw [h, Bool.or_true]
  ·rw [show ((i : Int) != day) = true by simpa using hd]; rfl
theorem sesAt_none {name : List UInt8} (h : ∀ x ∈ ses, (x.cell 0).toS ≠ name) : sesAt ses name = -1 := by
 unfold sesAt
 rw [List.findIdx?_eq_none_iff.2 fun x hx => by simpa using h x hx]
theorem sesAt_at {name : List UInt8} (h : 0 ≤ sesAt ses name) : ((ses.getD (sesAt ses name).toNat (.i 0)).cell 0).toS = name := by
 unfold sesAt at h ⊢
 cases hf : ses.findIdx? (fun x => (x.cell 0).toS == name) with
 | none => rw [hf] at h; simp at h
 | some j =>
  rw [List.findIdx?_eq_some_iff_getElem] at hf
  obtain ⟨h1, h2, _⟩ := hf
  dsimp only
  rw [Int.toNat_natCast, List.getD_eq_getElem?_getD, List.getElem?_eq_getElem h1]
  exact by simpa using h2
theorem name_eq (hg : Good first days before ses rules) {m : Int} (hm : -1 ≤ m ∧ m < ses.length) {name : List UInt8} (hn : name ≠ [] → 0 ≤ sesAt ses name) : (sName ses m == name) = (m == sesAt ses name) := by
 unfold sName
 by_cases h0 : m < 0
 ·have h1 : m = -1 := by omega
  subst h1
  rw [decide_eq_true h0]
  simp only [_root_.cond_true]
  by_cases he : name = []
  ·subst he
   rw [sesAt_none fun x hx => hg.named x hx]; rfl
  ·have := hn he
   rw [show ((-1 : Int) == sesAt ses name) = false by rw [beq_eq_false_iff_ne]; omega, beq_eq_false_iff_ne]
   exact fun h => he h.symm
 ·rw [decide_eq_false h0]
  simp only [_root_.cond_false]
  rw [Bool.eq_iff_iff, beq_iff_eq, beq_iff_eq]
  refine ⟨fun h => ?_, fun h => ?_⟩
  ·have := hg.nodup m.toNat (by omega)
   rw [h] at this
   omega
  ·have := sesAt_at (ses := ses) (name := name) (by omega)
   rw [← h] at this
   exact this
theorem kind8_eq (hg : Good first days before ses rules) (hp : DoneOk ses plan) (hd : 0 ≤ rDay r ∧ rDay r < plan.length) (hn : rName r ≠ [] → 0 ≤ sesAt ses (rName r)) (e : rKind r = 8) :
  (sName ses (pN plan (rDay r).toNat) == rName r) = allP (vP first days before ses r plan) plan.length := by
 have hv : ∀ i, i < plan.length → vP first days before ses r plan i = ((i : Int) != rDay r || pN plan i == sesAt ses (rName r)) := fun i _ => by
  unfold vP V; rw [e, hist_len]; rfl
 rw [allP_congr hv, fixed_all hd.1 hd.2]
 exact name_eq hg (pN_in hp _) hn
/-- What counts ahead of a day. -/
def tapF (ses : List D) (r : D) (plan : List D) (i : Nat) : Int := bif inWin r i then ldF ses plan i else 0
theorem tapF_in (hg : Good first days before ses rules) (hp : DoneOk ses plan) (i : Nat) : 0 ≤ tapF ses r plan i ∧ tapF ses r plan i ≤ 1000 := by
 have := ldF_in hg hp i
 unfold tapF
 cases inWin r i <;> simp only [_root_.cond_true, _root_.cond_false] <;> omega
theorem hTap_eq : ∀ i : Nat, ((i : Int) < rDay r → hTap ses r (hist (pN plan) i) = sumF (tapF ses r plan) 0 i) ∧ ((i : Int) ≥ rDay r → hTap ses r (hist (pN plan) i) = 0)
 | 0 => ⟨fun _ => rfl, fun _ => rfl⟩
 | i + 1 => by
  have ih := hTap_eq i
  unfold hist hTap
  rw [hist_len]
  refine ⟨fun h => ?_, fun h => ?_⟩
  ·rw [decide_eq_false (by omega), ih.1 (by omega)]
   show sumF (tapF ses r plan) 0 i + _ = sumF (tapF ses r plan) 0 i + tapF ses r plan (0 + i)
   rw [Nat.zero_add]; rfl
  ·rw [decide_eq_true (by omega)]; rfl
theorem sumF_zero {g : Nat → Int} : ∀ {m : Nat}, (∀ k, k < m → g k = 0) → sumF g 0 m = 0
 | 0, _ => rfl
 | m + 1, h => by
  show sumF g 0 m + g (0 + m) = 0
  rw [sumF_zero fun k hk => h k (by omega), Nat.zero_add, h m (by omega)]; rfl
theorem tap_sum (hg : Good first days before ses rules) (hN : maxLen < N) (hp : DoneOk ses plan) (hl : plan.length ≤ 14) (hd : 0 ≤ rDay r ∧ rDay r < plan.length) (hlow : -14 ≤ rLow r ∧ rLow r ≤ 14) :
  G62x0x15 N plan ses (rDay r) 0 (max2 0 (IntKind.wrap .i64 (rDay r - rLow r))) = some (sumF (tapF ses r plan) 0 (rDay r).toNat) := by
 have hM : maxLen = 9223372036854775807 := rfl
 obtain ⟨dd, hdd⟩ := Int.eq_ofNat_of_zero_le hd.1
 rw [hdd] at hd ⊢
 rw [Int.toNat_natCast]
 have bdS : ∀ m : Nat, 0 ≤ sumF (tapF ses r plan) 0 m ∧ sumF (tapF ses r plan) 0 m ≤ 1000 * m := fun m => by
  induction m with
  | zero => simp [sumF]
  | succ m ih =>
   have := tapF_in (r := r) hg hp m
   show 0 ≤ sumF (tapF ses r plan) 0 m + tapF ses r plan (0 + m) ∧ sumF (tapF ses r plan) 0 m + tapF ses r plan (0 + m) ≤ _
   rw [Nat.zero_add]
   omega
 have key := loop_indP (A := Int × Int) (S := fun a kr => S62x0x15 N plan ses (dd : Int) a.1 a.2 (fun x y => kr (x, y)) (fun p => some p)) (L := fun k a => L62x0x15 N plan ses (dd : Int) k a.1 a.2 (fun p => some p)) (fun k a => rfl)
  (fun a x => a.2 ≤ dd → a.1 = sumF (tapF ses r plan) 0 a.2.toNat → x = some (sumF (tapF ses r plan) 0 dd))
  (fun a => 0 ≤ a.2 ∧ (dd : Int) - rLow r ≤ a.2) (fun a => dd - a.2.toNat) (by
   rintro ⟨c, w⟩ kr ⟨h0, h1⟩ ih h2 h3
   dsimp only at h0 h1 h2 h3 ih ⊢
   obtain ⟨i, rfl⟩ := Int.eq_ofNat_of_zero_le h0
   rw [Int.toNat_natCast] at h3
   subst h3
   by_cases hw : i < dd
   ·have hip : i < plan.length := by omega
    have ew : IntKind.wrap .i64 ((i : Int) + 1) = ((i + 1 : Nat) : Int) := small (by omega)
    have hb := bdS i
    have hti := ldF_in hg hp i
    have hwin : tapF ses r plan i = ldF ses plan i := by
     unfold tapF inWin out
     rw [hdd, decide_eq_false (by omega)]; rfl
    have eld : sLoad ses (pN plan i) = ldF ses plan i := rfl
    simp only [S62x0x15, decide_eq_true (show (i : Int) < dd by omega), _root_.cond_true, inB_of (show (0 : Int) ≤ i by omega) (show (i : Int) < plan.length by omega), Int.toNat_natCast, pN_at hip, G63x0_eq (pN_in hp i).2, bnd_eq, Option.isSome_some, getD_some, ew, eld, small (show -1000000000000 ≤ sumF (tapF ses r plan) 0 i + ldF ses plan i ∧ sumF (tapF ses r plan) 0 i + ldF ses plan i ≤ 1000000000000 by omega)]
    refine ih (_, ((i + 1 : Nat) : Int)) ⟨by dsimp only; omega, by dsimp only; omega⟩ (by dsimp only; omega) (by dsimp only; omega) ?_
    dsimp only
    rw [Int.toNat_natCast]
    show _ = sumF (tapF ses r plan) 0 i + tapF ses r plan (0 + i)
    rw [Nat.zero_add, hwin]
   ·have : i = dd := by omega
    subst this
    simp only [S62x0x15, decide_eq_false (show ¬ (i : Int) < i by omega), _root_.cond_false])
  N (0, max2 0 (IntKind.wrap .i64 ((dd : Int) - rLow r))) (by
   rw [small (show -1000000000000 ≤ (dd : Int) - rLow r ∧ (dd : Int) - rLow r ≤ 1000000000000 by omega)]
   unfold max2
   dsimp only
   split <;> omega) (by dsimp only; omega)
 unfold G62x0x15
 dsimp only at key
 by_cases hle : max2 0 (IntKind.wrap .i64 ((dd : Int) - rLow r)) ≤ dd
 ·refine key hle ?_
  rw [sumF_zero]
  intro k hk
  rw [small (show -1000000000000 ≤ (dd : Int) - rLow r ∧ (dd : Int) - rLow r ≤ 1000000000000 by omega)] at hk
  unfold max2 at hk
  unfold tapF inWin out
  rw [hdd]
  split at hk
  ·rw [decide_eq_true (by omega)]; rfl
  ·simp at hk
 ·have hgt : (dd : Int) - rLow r > dd := by
   rw [small (show -1000000000000 ≤ (dd : Int) - rLow r ∧ (dd : Int) - rLow r ≤ 1000000000000 by omega)] at hle
   unfold max2 at hle
   split at hle <;> omega
  obtain ⟨n, rfl⟩ : ∃ n, N = n + 1 := ⟨N - 1, by omega⟩
  have e1 : L62x0x15 (n + 1) plan ses (dd : Int) (n + 1) 0 (max2 0 (IntKind.wrap .i64 ((dd : Int) - rLow r))) (fun p => some p) = S62x0x15 (n + 1) plan ses (dd : Int) 0 (max2 0 (IntKind.wrap .i64 ((dd : Int) - rLow r))) (fun x y => L62x0x15 (n + 1) plan ses (dd : Int) n x y (fun p => some p)) (fun p => some p) := rfl
  rw [e1]
  simp only [S62x0x15, decide_eq_false (show ¬ max2 0 (IntKind.wrap .i64 ((dd : Int) - rLow r)) < dd by omega), _root_.cond_false]
  rw [sumF_zero]
  intro k hk
  unfold tapF inWin out
  rw [hdd, decide_eq_true (by omega)]; rfl
theorem kind9_eq (hg : Good first days before ses rules) (hp : DoneOk ses plan) (hd : 0 ≤ rDay r ∧ rDay r < plan.length) (hn : 0 ≤ rN r) (e : rKind r = 9) :
  decide (sumF (tapF ses r plan) 0 (rDay r).toNat ≤ rN r) = allP (vP first days before ses r plan) plan.length := by
 have hv : ∀ i, vP first days before ses r plan i = decide (hTap ses r (hist (pN plan) i) + tapF ses r plan i ≤ rN r) := fun i => by
  unfold vP V; rw [e, hist_len]; rfl
 rw [allP_more (m := (rDay r).toNat) (by omega) (fun i h1 h2 => by
  rw [hv, (hTap_eq i).2 (by omega)]
  unfold tapF inWin out
  rw [decide_eq_true (show (i : Int) < rDay r - rLow r ∨ (i : Int) > rDay r - 1 by omega)]
  simpa using hn)]
 rw [← tap_all (fun i => (tapF_in hg hp i).1) hn]
 refine allP_congr fun i hi => ?_
 rw [hv, (hTap_eq i).1 (by omega)]
theorem V62x0x30002_eq (k : Int) : V62x0x30002 N k (k == 1) = (k == 1 || k == 2) := by
 unfold V62x0x30002 F62x0x30002
 cases k == 1 <;> rfl
/-- A rule is kept by a plan, if it is kept on each day. -/
theorem G62x0_eq (hg : Good first days before ses rules) (hN : maxLen < N) (hp : DoneOk ses plan) (hl : (plan.length : Int) = days) (hr : r ∈ rules) :
  G62x0 N first before ses (rKind r) (rDay r) (rN r) (rLow r) (rHigh r) (rName r) plan = some (allP (vP first days before ses r plan) plan.length) := by
 have hx := rule_ok hg.gdays.1 (hg.rule r hr)
 have hx : (1 ≤ rKind r ∧ rKind r ≤ 9) ∧ (rKind r = 6 → 0 ≤ sesAt ses (rName r)) ∧ (0 ≤ rN r ∧ rN r ≤ 100000) ∧ (-14 ≤ rLow r ∧ rLow r ≤ 14) ∧ (-14 ≤ rDay r ∧ rDay r ≤ days + 7) ∧ ((rKind r = 8 ∨ rKind r = 9) → 0 ≤ rDay r ∧ rDay r ≤ days - 1) ∧ (rKind r = 9 → 1 ≤ rLow r) ∧ (rKind r = 5 → 1 ≤ rN r ∧ rN r ≤ 14) ∧ (rKind r = 8 → rName r ≠ [] → 0 ≤ sesAt ses (rName r)) ∧ (rKind r = 6 → 0 ≤ rLow r ∧ rHigh r ≤ 7) := hx
 obtain ⟨hk, h6, hn, hlow, hday, h89, _, h5, h8, h6'⟩ := hx
 have hgd := hg.gdays
 have hl14 : plan.length ≤ 14 := by omega
 obtain ⟨b, hW⟩ := G71x0_eq hg hN hp hl14
 unfold G62x0 F62x0
 rw [hW, V62x0x30002_eq]
 simp only [bnd_eq, Option.isSome_some, getD_some, _root_.cond_true]
 have fin : ∀ q : Bool, (bif inlB (bif q then some (Sum.inr () : Sum Bool Unit) else some (.inl false)) then some (inlV (bif q then some (Sum.inr () : Sum Bool Unit) else some (.inl false))) else bif (inrQ (bif q then some (Sum.inr () : Sum Bool Unit) else some (.inl false))).isSome then some true else none) = some q := fun q => by cases q <;> rfl
 rcases kinds9 hk with e | e | e | e | e | e | e | e | e
 ·rw [e]
  simp only [G62x0x54035, F62x0x54035, kind1_eq hg hN hp hl14 e, bnd_eq, beq_self_eq_true, Bool.true_or, _root_.cond_true]
  cases allP (vP first days before ses r plan) plan.length <;> rfl
 ·rw [e]
  have := kind2_eq hg hN hp hl14 hn.1 e
  simp only [G62x0x54035, F62x0x54035, bnd_eq, this, beq_self_eq_true, Bool.or_true, _root_.cond_true]
  cases allP (vP first days before ses r plan) plan.length <;> rfl
 ·rw [e]
  have := kind3_eq hg hN hp hl14 e
  simp only [G62x0x54035, F62x0x54035, G62x0x75059, F62x0x75059, bnd_eq, this, show ((3 : Int) == 1) = false from rfl, show ((3 : Int) == 2) = false from rfl, Bool.or_false, beq_self_eq_true, _root_.cond_true, _root_.cond_false]
  cases allP (vP first days before ses r plan) plan.length <;> rfl
 ·rw [e]
  have := kind4_eq hg hN hp hl14 e
  simp only [G62x0x54035, F62x0x54035, G62x0x75059, F62x0x75059, G62x0x96080, F62x0x96080, bnd_eq, this, show ((4 : Int) == 1) = false from rfl, show ((4 : Int) == 2) = false from rfl, show ((4 : Int) == 3) = false from rfl, Bool.or_false, beq_self_eq_true, _root_.cond_true, _root_.cond_false]
  cases allP (vP first days before ses r plan) plan.length <;> rfl
 ·rw [e]
  have := kind5_eq hg hN hp hl14 e
  simp only [G62x0x54035, F62x0x54035, G62x0x75059, F62x0x75059, G62x0x96080, F62x0x96080, G62x0x129101, F62x0x129101, bnd_eq, this, show ((5 : Int) == 1) = false from rfl, show ((5 : Int) == 2) = false from rfl, show ((5 : Int) == 3) = false from rfl, show ((5 : Int) == 4) = false from rfl, Bool.or_false, beq_self_eq_true, _root_.cond_true, _root_.cond_false]
  cases allP (vP first days before ses r plan) plan.length <;> rfl
 ·rw [e]
  have := kind6_eq hg hN hp hl14 e
  simp only [G62x0x54035, F62x0x54035, G62x0x75059, F62x0x75059, G62x0x96080, F62x0x96080, G62x0x129101, F62x0x129101, G62x0x168134, F62x0x168134, bnd_eq, this, show ((6 : Int) == 1) = false from rfl, show ((6 : Int) == 2) = false from rfl, show ((6 : Int) == 3) = false from rfl, show ((6 : Int) == 4) = false from rfl, show ((6 : Int) == 5) = false from rfl, Bool.or_false, beq_self_eq_true, _root_.cond_true, _root_.cond_false]
  cases allP (vP first days before ses r plan) plan.length <;> rfl
 ·rw [e]
  have := kind7_eq hg hN hp hl hn e
  simp only [G62x0x54035, F62x0x54035, G62x0x75059, F62x0x75059, G62x0x96080, F62x0x96080, G62x0x129101, F62x0x129101, G62x0x168134, F62x0x168134, bnd_eq, this, show ((7 : Int) == 1) = false from rfl, show ((7 : Int) == 2) = false from rfl, show ((7 : Int) == 3) = false from rfl, show ((7 : Int) == 4) = false from rfl, show ((7 : Int) == 5) = false from rfl, show ((7 : Int) == 6) = false from rfl, Bool.or_false, beq_self_eq_true, _root_.cond_true, _root_.cond_false]
  cases allP (vP first days before ses r plan) plan.length <;> rfl
 ·have hd := h89 (.inl e)
  have hdp : (rDay r).toNat < plan.length := by omega
  rw [e]
  have := kind8_eq hg hp (r := r) (plan := plan) (by omega) (h8 e) e
  simp only [G62x0x54035, F62x0x54035, G62x0x75059, F62x0x75059, G62x0x96080, F62x0x96080, G62x0x129101, F62x0x129101, G62x0x168134, F62x0x168134, bnd_eq, show ((8 : Int) == 1) = false from rfl, show ((8 : Int) == 2) = false from rfl, show ((8 : Int) == 3) = false from rfl, show ((8 : Int) == 4) = false from rfl, show ((8 : Int) == 5) = false from rfl, show ((8 : Int) == 6) = false from rfl, show ((8 : Int) == 7) = false from rfl, Bool.or_false, beq_self_eq_true, _root_.cond_true, _root_.cond_false, inB_of hd.1 (show rDay r < plan.length by omega), pN_at hdp, G63x0_eq (pN_in hp _).2, Option.isSome_some, getD_some, inlB_inl, inlV_inl]
  rw [this]
 ·have hd := h89 (.inr e)
  rw [e]
  have := kind9_eq hg hp (r := r) (plan := plan) (by omega) hn.1 e
  simp only [G62x0x54035, F62x0x54035, G62x0x75059, F62x0x75059, G62x0x96080, F62x0x96080, G62x0x129101, F62x0x129101, G62x0x168134, F62x0x168134, bnd_eq, show ((9 : Int) == 1) = false from rfl, show ((9 : Int) == 2) = false from rfl, show ((9 : Int) == 3) = false from rfl, show ((9 : Int) == 4) = false from rfl, show ((9 : Int) == 5) = false from rfl, show ((9 : Int) == 6) = false from rfl, show ((9 : Int) == 7) = false from rfl, show ((9 : Int) == 8) = false from rfl, Bool.or_false, _root_.cond_true, _root_.cond_false, tap_sum hg hN hp hl14 (r := r) (by omega) hlow, Option.isSome_some, getD_some, inlB_inl, inlV_inl]
  rw [this]
end
end Go.Proofs.Ytefmjfcdgadggaa

namespace Go.Proofs.Ytefmjfcdgadggaa
open Go Go.AM
set_option maxHeartbeats 4000000
set_option maxRecDepth 100000
section
variable (acc : List Int → Int → Bool) (ses done : List D)
def wL (ses : List D) : List Int → Int
 | [] => 0
 | n :: l => wL ses l + sWorth ses n
end
section
variable {acc : List Int → Int → Bool} {ses done : List D}
def runL (P : Nat → Int) : Nat → Nat → List Int
 | _, 0 => []
 | i, m + 1 => P i :: runL P (i + 1) m
theorem wL_run {P : Nat → Int} : ∀ {m i : Nat}, wL ses (runL P i m) = sumF (fun k => sWorth ses (P k)) i m
 | 0, _ => rfl
 | m + 1, i => by
  rw [sumF_front, ← wL_run (m := m)]
  show wL ses _ + sWorth ses (P i) = _
  omega
end
theorem run_plan {plan : List D} : ∀ {m i : Nat}, i + m = plan.length → runL (pN plan) i m = (plan.drop i).map D.toI
 | 0, i, h => by rw [List.drop_eq_nil_of_le (by omega)]; rfl
 | m + 1, i, h => by
  have hd := drop_at (xs := plan) (w := (i : Int)) (.i 0) (by omega) (by omega)
  rw [show ((i : Int) + 1).toNat = i + 1 by omega, Int.toNat_natCast] at hd
  rw [hd, List.map_cons, ← run_plan (m := m) (i := i + 1) (by omega), pN_at (by omega)]
  rfl
theorem runs_plan (plan : List D) : runL (pN plan) 0 plan.length = plan.map D.toI := by
 rw [run_plan (by omega), List.drop_zero]
section
variable {first days before : Int} {ses rules done plan : List D}
/-- A rule's verdict on a whole plan. -/
def fits (first days before : Int) (ses plan : List D) (r : D) : Bool := allP (vP first days before ses r plan) plan.length
end
end Go.Proofs.Ytefmjfcdgadggaa

namespace Go.Proofs.Ytefmjfcdgadggaa
open Go Go.AM
set_option maxHeartbeats 4000000
set_option maxRecDepth 100000
variable {N : Nat}
/-! ### Lists, told equal and in order -/
def eqI : List D → List D → Bool
 | [], [] => true
 | x :: a, y :: b => (x.toI == y.toI) && eqI a b
 | _, _ => false
theorem eqI_iff : ∀ {a b : List D}, eqI a b = true ↔ a.map D.toI = b.map D.toI
 | [], [] => by simp [eqI]
 | x :: a, y :: b => by
  unfold eqI
  rw [Bool.and_eq_true, eqI_iff (a := a) (b := b), List.map_cons, List.map_cons, List.cons.injEq, beq_iff_eq]
 | [], _ :: _ => by simp [eqI]
 | _ :: _, [] => by simp [eqI]
def eqS : List D → List D → Option (Sum Unit Unit)
 | [], _ => some (.inr ())
 | x :: a, y :: b => bif x.toI != y.toI then some (.inl ()) else eqS a b
 | _ :: _, [] => none
theorem eqS_eq : ∀ {a b : List D}, a.length = b.length → eqS a b = bif eqI a b then some (.inr ()) else some (.inl ())
 | [], [], _ => rfl
 | x :: a, y :: b, h => by
  unfold eqS eqI
  rw [eqS_eq (a := a) (b := b) (by simpa using h)]
  cases hc : x.toI == y.toI with
  | true => rw [show (x.toI != y.toI) = false by rw [bne, hc]; rfl]; rfl
  | false => rw [show (x.toI != y.toI) = true by rw [bne, hc]; rfl]; rfl
 | [], _ :: _, h => by simp at h
 | _ :: _, [], h => by simp at h
theorem eqI_len {a b : List D} (h : eqI a b = true) : a.length = b.length := by
 have := congrArg List.length (eqI_iff.1 h)
 simpa using this
theorem G15x0_eq (hN : maxLen < N) {a b : List D} (ha : a.length ≤ maxLen) : G15x0 N a b = some (eqI a b) := by
 unfold G15x0 F15x0
 by_cases hl : a.length = b.length
 ·have e : G15x0x12 N a b a.length 0 = eqS a b := by
   unfold G15x0x12
   refine (for_ind (xs := a) (.i 0 : D) (S := fun w kr => S15x0x12 N a b a.length w kr _ _) (L := fun m w => L15x0x12 N a b a.length m w _ _) (fun m w => rfl) (fun w l => eqS l (b.drop w.toNat)) ha ?_ ?_ hN).trans ?_
   ·intro kr; simp [S15x0x12, eqS]
   ·intro w kr h0 h1 hw hi hk
    have hib : inB w b.length = true := inB_of h0 (by omega)
    simp only [S15x0x12, decide_eq_true h1, _root_.cond_true, hi, hib, bnd_eq, hw, hk]
    rw [drop_at (xs := b) (.i 0) h0 (by omega), show ∀ x a y b, eqS (x :: a) (y :: b) = bif x.toI != y.toI then some (.inl ()) else eqS a b from fun _ _ _ _ => rfl]
   ·simp
  rw [e, eqS_eq hl]
  have : ((a.length : Int) != (b.length : Int)) = false := by simp [hl]
  rw [this]
  cases eqI a b <;> rfl
 ·have : ((a.length : Int) != (b.length : Int)) = true := by simp; omega
  rw [this]
  cases h : eqI a b with
  | true => exact absurd (eqI_len h) hl
  | false => rfl
section
variable {first days before : Int} {ses rules done plan : List D}
theorem plan_ok (hn : NamesOk ses) (h : (planE first days before ses rules plan != 0) = false) : Good first days before ses rules ∧ DoneOk ses plan ∧ (plan.length : Int) = days := by
 unfold planE at h
 cases h1 : doneE first days before ses rules plan != 0 with
 | true => rw [h1] at h; simp only [_root_.cond_true] at h; rw [h1] at h; cases h
 | false =>
  rw [h1] at h
  obtain ⟨hg, hp⟩ := good_done hn h1
  refine ⟨hg, hp, ?_⟩
  simp only [_root_.cond_false] at h
  cases h2 : (plan.length : Int) != days with
  | true => rw [h2] at h; cases h
  | false => simpa using h2
/-- The rules that a plan breaks. -/
def brk (f : D → Bool) : Nat → List D → List Nat
 | _, [] => []
 | w, r :: l => bif f r then brk f (w + 1) l else w :: brk f (w + 1) l
theorem brk_len {f : D → Bool} : ∀ {l : List D} {w : Nat}, (brk f w l).length ≤ l.length
 | [], _ => Nat.le_refl _
 | r :: l, w => by
  have := brk_len (f := f) (l := l) (w := w + 1)
  unfold brk
  cases f r <;> simp only [_root_.cond_true, _root_.cond_false, List.length_cons] <;> omega
def brokenR (first days before : Int) (ses rules plan : List D) : List D × Int :=
 bif planE first days before ses rules plan != 0 then ([], planE first days before ses rules plan) else (nums (brk (fits first days before ses plan) 0 rules), 0)
theorem G28x0_eq (hN : maxLen < N) (hs : ses.length ≤ maxLen) (hr : rules.length ≤ maxLen) (hn : NamesOk ses) (hl : plan.length ≤ maxLen) : ∃ b, G28x0 N first days before ses rules plan = some (b, brokenR first days before ses rules plan) := by
 have hM : maxLen = 9223372036854775807 := rfl
 unfold G28x0 F28x0 brokenR
 rw [G58x0_eq hN hs hr hn hl]
 simp only [bnd_eq, Option.isSome_some, getD_some, _root_.cond_true]
 cases hpe : planE first days before ses rules plan != 0 with
 | true => exact ⟨_, rfl⟩
 | false =>
  obtain ⟨hg, hp, hlen⟩ := plan_ok hn hpe
  have h12 := hg.nrules
  have key := loop_indP (A := Int × Bool × List D) (S := fun a kr => S28x0x18 N plan rules rules.length first before ses a.1 a.2.1 a.2.2 (fun x y z => kr (x, y, z)) (fun p => some p)) (L := fun k a => L28x0x18 N plan rules rules.length first before ses k a.1 a.2.1 a.2.2 (fun p => some p)) (fun k a => rfl)
   (fun a x => ∃ b, x = some (b, a.2.2 ++ nums (brk (fits first days before ses plan) a.1.toNat (rules.drop a.1.toNat))))
   (fun a => 0 ≤ a.1 ∧ a.1 ≤ rules.length ∧ (a.2.2.length : Int) ≤ a.1) (fun a => ((rules.length : Int) - a.1).toNat) (by
    rintro ⟨w, b, ol⟩ kr ⟨h0, h1, h2⟩ ih
    dsimp only at h0 h1 h2 ih ⊢
    by_cases hw : w < rules.length
    ·have ew : IntKind.wrap .i64 (w + 1) = w + 1 := small (by omega)
     have hel : rules.getD w.toNat (.i 0) ∈ rules := getD_mem _ h0 hw
     have hk := G62x0_eq hg hN hp hlen hel
     unfold rKind rDay rN rLow rHigh rName at hk
     simp only [S28x0x18, decide_eq_true hw, _root_.cond_true, inB_of h0 hw, hk, bnd_eq, Option.isSome_some, getD_some, ew, G28x0x29, F28x0x29]
     rw [drop_at (.i 0) h0 hw, show ∀ f k x l, brk f k (x :: l) = bif f x then brk f (k + 1) l else k :: brk f (k + 1) l from fun _ _ _ _ => rfl, show w.toNat + 1 = (w + 1).toNat by omega]
     show ∃ b, _ = some (b, ol ++ nums (bif allP (vP first days before ses (rules.getD w.toNat (.i 0)) plan) plan.length then _ else _))
     cases allP (vP first days before ses (rules.getD w.toNat (.i 0)) plan) plan.length with
     | false =>
      simp only [Bool.not_false, _root_.cond_true, _root_.cond_false, roomOk (show ol.length ≤ 1000 by omega), inlB_inl, inlV_inl]
      obtain ⟨b', h⟩ := ih (w + 1, false, ol ++ [.i w]) ⟨by dsimp only; omega, by dsimp only; omega, by dsimp only; simp; omega⟩ (by dsimp only; omega)
      refine ⟨b', ?_⟩
      dsimp only at h
      rw [h]
      simp only [nums, List.map_cons, List.append_assoc, List.singleton_append, Int.toNat_of_nonneg h0]
     | true =>
      simp only [Bool.not_true, _root_.cond_false, inlB_inr, inrQ_inr, Option.isSome_some, _root_.cond_true]
      exact ih (w + 1, b, ol) ⟨by dsimp only; omega, by dsimp only; omega, by dsimp only; omega⟩ (by dsimp only; omega)
    ·refine ⟨b, ?_⟩
     simp only [S28x0x18, decide_eq_false hw, _root_.cond_false]
     rw [drop_end hw]
     simp [brk, nums])
   N (0, true, []) ⟨by simp, by simp, by simp⟩ (by dsimp only; omega)
  obtain ⟨b, key⟩ := key
  refine ⟨b, ?_⟩
  dsimp only at key
  simp only [List.nil_append, Int.toNat_zero, List.drop_zero] at key
  unfold G28x0x18
  rw [key]
  rfl
/-- What a plan is worth. -/
def worthR (first days before : Int) (ses rules plan : List D) : Int × Int :=
 bif planE first days before ses rules plan != 0 then (0, planE first days before ses rules plan) else (wL ses (plan.map D.toI), 0)
theorem wsum_bd (hg : Good first days before ses rules) (hp : DoneOk ses plan) : ∀ m : Nat, 0 ≤ sumF (fun i => sWorth ses (pN plan i)) 0 m ∧ sumF (fun i => sWorth ses (pN plan i)) 0 m ≤ 1000 * m
 | 0 => by simp [sumF]
 | m + 1 => by
  have ih := wsum_bd hg hp m
  have := sWorth_in hg (pN_in hp m).2
  show 0 ≤ sumF (fun i => sWorth ses (pN plan i)) 0 m + sWorth ses (pN plan (0 + m)) ∧ sumF (fun i => sWorth ses (pN plan i)) 0 m + sWorth ses (pN plan (0 + m)) ≤ _
  rw [Nat.zero_add]
  omega
theorem G30x0_eq (hN : maxLen < N) (hs : ses.length ≤ maxLen) (hr : rules.length ≤ maxLen) (hn : NamesOk ses) (hl : plan.length ≤ maxLen) : G30x0 N first days before ses rules plan = some (worthR first days before ses rules plan) := by
 have hM : maxLen = 9223372036854775807 := rfl
 unfold G30x0 F30x0 worthR
 rw [G58x0_eq hN hs hr hn hl]
 simp only [bnd_eq, Option.isSome_some, getD_some, _root_.cond_true]
 cases hpe : planE first days before ses rules plan != 0 with
 | true => rfl
 | false =>
  obtain ⟨hg, hp, hlen⟩ := plan_ok hn hpe
  have hgd := hg.gdays
  have key := loop_indP (A := Int × Int) (S := fun a kr => S30x0x18 N plan plan.length ses a.1 a.2 (fun x y => kr (x, y)) (fun p => some p)) (L := fun k a => L30x0x18 N plan plan.length ses k a.1 a.2 (fun p => some p)) (fun k a => rfl)
   (fun a x => a.1 = sumF (fun i => sWorth ses (pN plan i)) 0 a.2.toNat → x = some (sumF (fun i => sWorth ses (pN plan i)) 0 plan.length))
   (fun a => 0 ≤ a.2 ∧ a.2 ≤ plan.length) (fun a => plan.length - a.2.toNat) (by
    rintro ⟨c, w⟩ kr ⟨h0, h1⟩ ih h3
    dsimp only at h0 h1 h3 ih ⊢
    obtain ⟨i, rfl⟩ := Int.eq_ofNat_of_zero_le h0
    rw [Int.toNat_natCast] at h3
    subst h3
    by_cases hw : i < plan.length
    ·have ew : IntKind.wrap .i64 ((i : Int) + 1) = ((i + 1 : Nat) : Int) := small (by omega)
     have hb := wsum_bd hg hp i
     have hti := sWorth_in hg (pN_in hp i).2
     simp only [S30x0x18, decide_eq_true (show (i : Int) < plan.length by omega), _root_.cond_true, inB_of (show (0 : Int) ≤ i by omega) (show (i : Int) < plan.length by omega), Int.toNat_natCast, pN_at hw, G63x0_eq (pN_in hp i).2, bnd_eq, Option.isSome_some, getD_some, ew, small (show -1000000000000 ≤ sumF (fun i => sWorth ses (pN plan i)) 0 i + sWorth ses (pN plan i) ∧ sumF (fun i => sWorth ses (pN plan i)) 0 i + sWorth ses (pN plan i) ≤ 1000000000000 by omega)]
     refine ih (_, ((i + 1 : Nat) : Int)) ⟨by dsimp only; omega, by dsimp only; omega⟩ (by dsimp only; omega) ?_
     dsimp only
     rw [Int.toNat_natCast]
     show _ = sumF (fun i => sWorth ses (pN plan i)) 0 i + sWorth ses (pN plan (0 + i))
     rw [Nat.zero_add]
    ·have : i = plan.length := by omega
     subst this
     simp only [S30x0x18, decide_eq_false (show ¬ (plan.length : Int) < plan.length by omega), _root_.cond_false])
   N (0, 0) ⟨by simp, by simp⟩ (by dsimp only; omega) rfl
  dsimp only at key
  unfold G30x0x18
  rw [key, ← wL_run, runs_plan]
  rfl
end
end Go.Proofs.Ytefmjfcdgadggaa

namespace Go.Proofs.Ytefmjfcdgadggaa
open Go Go.AM
set_option maxHeartbeats 4000000
set_option maxRecDepth 100000
variable {N : Nat}
/-! ### One rule alone, as the program keeps it -/
/-- All rules off, but one. -/
def only (len : Nat) (r : Int) (k : Nat) : Bool := decide (k < len) && ((k : Int) != r)
theorem only_zero {len : Nat} {r : Int} (h : len ≤ 12) : Zero false 12 (only len r) := fun j hj => by unfold only; rw [decide_eq_false (by omega)]; rfl
theorem accF_only {v : D → Bool} {len : Nat} {r : Int} : ∀ {l : List D} {w : Nat}, w + l.length = len → accF (fun k x => only len r k || v x) w l = bif decide ((w : Int) ≤ r) && decide (r < len) then v (l.getD (r.toNat - w) (.i 0)) else true
 | [], w, h => by
  have : (decide ((w : Int) ≤ r) && decide (r < len)) = false := by
   simp only [List.length_nil] at h
   by_cases h1 : (w : Int) ≤ r
   ·rw [decide_eq_false (show ¬ r < (len : Int) by omega), Bool.and_false]
   ·rw [decide_eq_false h1]; rfl
  rw [this]; rfl
 | x :: l, w, h => by
  have h' : w + 1 + l.length = len := by simp only [List.length_cons] at h; omega
  have ih := accF_only (v := v) (r := r) (l := l) (w := w + 1) h'
  show ((only len r w || v x) && accF (fun k x => only len r k || v x) (w + 1) l) = _
  rw [ih]
  by_cases hw : (w : Int) = r
  ·subst hw
   have ho : only len w w = false := by unfold only; simp
   rw [ho, decide_eq_false (show ¬ ((w + 1 : Nat) : Int) ≤ w by omega), decide_eq_true (show (w : Int) ≤ w by omega), decide_eq_true (show (w : Int) < len by omega), Int.toNat_natCast, Nat.sub_self]
   simp
  ·have ho : only len r w = true := by
    unfold only
    rw [decide_eq_true (by omega)]
    simpa using hw
   rw [ho, Bool.true_or, Bool.true_and]
   by_cases h1 : (w : Int) ≤ r
   ·rw [decide_eq_true h1, decide_eq_true (show ((w + 1 : Nat) : Int) ≤ r by omega), show r.toNat - w = (r.toNat - (w + 1)) + 1 by omega, List.getD_cons_succ]
   ·rw [decide_eq_false h1, decide_eq_false (show ¬ ((w + 1 : Nat) : Int) ≤ r by omega)]; rfl
theorem G69x0x9_eq (hN : maxLen < N) {len : Nat} (hl : len ≤ 12) (r : Int) : G69x0x9 N r len 0 false false false false false false false false false false false false = some (only len r 0, only len r 1, only len r 2, only len r 3, only len r 4, only len r 5, only len r 6, only len r 7, only len r 8, only len r 9, only len r 10, only len r 11) := by
 have hM : maxLen = 9223372036854775807 := rfl
 have key := loop_indP (A := Int × (Nat → Bool)) (S := fun a kr => S69x0x9 N r len a.1 (a.2 0) (a.2 1) (a.2 2) (a.2 3) (a.2 4) (a.2 5) (a.2 6) (a.2 7) (a.2 8) (a.2 9) (a.2 10) (a.2 11) (fun x s0 s1 s2 s3 s4 s5 s6 s7 s8 s9 s10 s11 => kr (x, of12 false s0 s1 s2 s3 s4 s5 s6 s7 s8 s9 s10 s11)) (fun p => some p))
  (L := fun k a => L69x0x9 N r len k a.1 (a.2 0) (a.2 1) (a.2 2) (a.2 3) (a.2 4) (a.2 5) (a.2 6) (a.2 7) (a.2 8) (a.2 9) (a.2 10) (a.2 11) (fun p => some p)) (fun k a => rfl)
  (fun a x => a.2 = only a.1.toNat r → x = some (only len r 0, only len r 1, only len r 2, only len r 3, only len r 4, only len r 5, only len r 6, only len r 7, only len r 8, only len r 9, only len r 10, only len r 11))
  (fun a => 0 ≤ a.1 ∧ a.1 ≤ len) (fun a => ((len : Int) - a.1).toNat) (by
   rintro ⟨w, o⟩ kr ⟨h0, h1⟩ ih ho
   dsimp only at h0 h1 ih ho ⊢
   obtain ⟨i, rfl⟩ := Int.eq_ofNat_of_zero_le h0
   rw [Int.toNat_natCast] at ho
   by_cases hw : (i : Int) < len
   ·have ew : IntKind.wrap .i64 ((i : Int) + 1) = ((i + 1 : Nat) : Int) := small (by omega)
    have e1 : ∀ j, (bif Nat.beq i j then ((i : Int) != r) else o j) = upd o i ((i : Int) != r) j := fun _ => rfl
    have hu : upd o i ((i : Int) != r) = only (i + 1) r := by
     subst ho
     funext j
     by_cases hj : j = i
     ·subst hj; rw [upd_self]; unfold only; rw [decide_eq_true (by omega)]; rfl
     ·rw [upd_ne _ _ hj]
      unfold only
      rw [show decide (j < i) = decide (j < i + 1) by rw [decide_eq_decide]; omega]
    simp only [S69x0x9, decide_eq_true hw, _root_.cond_true, inB_of h0 (show (i : Int) < (12 : Nat) by omega), Int.toNat_natCast, e1, ew, hu]
    rw [of12_eq (only_zero (by omega))]
    exact ih (((i + 1 : Nat) : Int), only (i + 1) r) ⟨by dsimp only; omega, by dsimp only; omega⟩ (by dsimp only; omega) (by dsimp only; rw [Int.toNat_natCast])
   ·have : i = len := by omega
    subst this
    subst ho
    simp only [S69x0x9, decide_eq_false hw, _root_.cond_false])
  N (0, fun _ => false) ⟨by simp, by simp⟩ (by dsimp only; omega) (by
   funext j
   dsimp only
   unfold only
   simp)
 exact key
section
variable {first days before : Int} {ses rules plan : List D} {r : Int}
theorem G69x0_eq (hg : Good first days before ses rules) (hN : maxLen < N) (hp : DoneOk ses plan) (hl : (plan.length : Int) = days) (hr : 0 ≤ r ∧ r < rules.length) :
  G69x0 N first days before ses rules r plan = some (fits first days before ses plan (rules.getD r.toNat (.i 0))) := by
 have hM : maxLen = 9223372036854775807 := rfl
 have hgd := hg.gdays
 have hacc : ∀ h n, accP first days before ses rules (only rules.length r) h n = V first days before ses (rules.getD r.toNat (.i 0)) h n := fun h n => by
  unfold accP
  rw [accF_only (by omega), decide_eq_true (show ((0 : Nat) : Int) ≤ r by omega), decide_eq_true hr.2, Nat.sub_zero]; rfl
 have key := loop_indP (A := Int × PS) (S := fun a kr => S69x0x27 N plan plan.length first days ses rules (only rules.length r 0) (only rules.length r 1) (only rules.length r 2) (only rules.length r 3) (only rules.length r 4) (only rules.length r 5) (only rules.length r 6) (only rules.length r 7) (only rules.length r 8) (only rules.length r 9) (only rules.length r 10) (only rules.length r 11) a.1 a.2.day a.2.week a.2.before a.2.hard (a.2.cnt 0) (a.2.cnt 1) (a.2.cnt 2) (a.2.cnt 3) (a.2.tap 0) (a.2.tap 1) (a.2.tap 2) (a.2.tap 3) (a.2.tap 4) (a.2.tap 5) (a.2.tap 6) (a.2.tap 7) (a.2.tap 8) (a.2.tap 9) (a.2.tap 10) (a.2.tap 11) (fun x s0 s1 s2 s3 s4 s5 s6 s7 s8 s9 s10 s11 s12 s13 s14 s15 s16 s17 s18 s19 => kr (x, ⟨s0, s1, s2, s3, of4 0 s4 s5 s6 s7, of12 0 s8 s9 s10 s11 s12 s13 s14 s15 s16 s17 s18 s19⟩)) (fun p => some (.inl p)) (fun p => some (.inr p)))
  (L := fun k a => L69x0x27 N plan plan.length first days ses rules (only rules.length r 0) (only rules.length r 1) (only rules.length r 2) (only rules.length r 3) (only rules.length r 4) (only rules.length r 5) (only rules.length r 6) (only rules.length r 7) (only rules.length r 8) (only rules.length r 9) (only rules.length r 10) (only rules.length r 11) k a.1 a.2.day a.2.week a.2.before a.2.hard (a.2.cnt 0) (a.2.cnt 1) (a.2.cnt 2) (a.2.cnt 3) (a.2.tap 0) (a.2.tap 1) (a.2.tap 2) (a.2.tap 3) (a.2.tap 4) (a.2.tap 5) (a.2.tap 6) (a.2.tap 7) (a.2.tap 8) (a.2.tap 9) (a.2.tap 10) (a.2.tap 11) (fun p => some (.inl p)) (fun p => some (.inr p))) (fun k a => rfl)
  (fun a x => a.2.Ok → PRel before ses rules (only rules.length r) days a.2 (hist (pN plan) a.1.toNat) → x = bif allFrom (vP first days before ses (rules.getD r.toNat (.i 0)) plan) a.1.toNat (plan.length - a.1.toNat) then inrU else inlU)
  (fun a => 0 ≤ a.1 ∧ a.1 ≤ plan.length) (fun a => ((plan.length : Int) - a.1).toNat) (by
   rintro ⟨w, t⟩ kr ⟨h0, h1⟩ ih ht hrel
   dsimp only at h0 h1 ih ht hrel ⊢
   obtain ⟨i, rfl⟩ := Int.eq_ofNat_of_zero_le h0
   rw [Int.toNat_natCast] at hrel ⊢
   have hhl := hist_len (pN plan) i
   by_cases hw : (i : Int) < plan.length
   ·have ew : IntKind.wrap .i64 ((i : Int) + 1) = ((i + 1 : Nat) : Int) := small (by omega)
    have hday := hrel.day
    have hn := pN_in hp i
    have hG := G88x0_eq hN hg ht (show t.day < days by omega) hn (only rules.length r)
    have hpr := pdoes_rel hg hrel (by omega) hn
    rw [hacc] at hpr
    have hv : vP first days before ses (rules.getD r.toNat (.i 0)) plan i = V first days before ses (rules.getD r.toNat (.i 0)) (hist (pN plan) i) (pN plan i) := rfl
    rw [show plan.length - i = (plan.length - (i + 1)) + 1 by omega, show ∀ f w m, allFrom f w (m + 1) = (f w && allFrom f (w + 1) m) from fun _ _ _ => rfl, hv]
    simp only [S69x0x27, decide_eq_true hw, _root_.cond_true, inB_of h0 hw, Int.toNat_natCast, pN_at (show i < plan.length by omega), hG, bnd_eq, Option.isSome_some, getD_some, ew]
    cases hb : V first days before ses (rules.getD r.toNat (.i 0)) (hist (pN plan) i) (pN plan i) with
    | false =>
     rw [hpr.2 hb]
     rfl
    | true =>
     obtain ⟨t', e4, hr'⟩ := hpr.1 hb
     obtain ⟨ok', _⟩ := pdoes_ok hg ht (show t.day < days by omega) hn e4
     rw [e4]
     simp only [doesT, Bool.not_true, _root_.cond_false, Bool.true_and]
     rw [of4_eq ok'.zc, of12_eq ok'.zt]
     have := ih (((i + 1 : Nat) : Int), t') ⟨by dsimp only; omega, by dsimp only; omega⟩ (by dsimp only; omega) ok' (by dsimp only; rw [Int.toNat_natCast]; exact hr')
     dsimp only at this
     rw [Int.toNat_natCast] at this
     exact this
   ·have : i = plan.length := by omega
    subst this
    simp only [S69x0x27, decide_eq_false hw, _root_.cond_false, Nat.sub_self]
    rfl)
  N (0, begP before) ⟨by simp, by simp⟩ (by dsimp only; omega) (begP_ok hg) begP_rel
 dsimp only at key
 simp only [Int.toNat_zero, Nat.sub_zero, allFrom_all] at key
 unfold G69x0 F69x0
 rw [G69x0x9_eq hN hg.nrules]
 simp only [bnd_eq, Option.isSome_some, getD_some, _root_.cond_true]
 have key' : G69x0x27 N plan plan.length first days ses rules (only rules.length r 0) (only rules.length r 1) (only rules.length r 2) (only rules.length r 3) (only rules.length r 4) (only rules.length r 5) (only rules.length r 6) (only rules.length r 7) (only rules.length r 8) (only rules.length r 9) (only rules.length r 10) (only rules.length r 11) 0 0 0 before 0 0 0 0 0 0 0 0 0 0 0 0 0 0 0 0 0 = _ := key
 rw [key']
 show _ = some (allP (vP first days before ses (rules.getD r.toNat (.i 0)) plan) plan.length)
 cases allP (vP first days before ses (rules.getD r.toNat (.i 0)) plan) plan.length <;> rfl
/-! ### Keeps, Broken, Worth, Loads, Weeks -/
def keepsR (first days before : Int) (ses rules plan : List D) (r : Int) : Bool × Int :=
 bif planE first days before ses rules plan != 0 then (false, planE first days before ses rules plan) else
 bif out r 0 ((rules.length : Int) - 1) then (false, 4) else (fits first days before ses plan (rules.getD r.toNat (.i 0)), 0)
theorem G35x0_eq (hN : maxLen < N) (hs : ses.length ≤ maxLen) (hr : rules.length ≤ maxLen) (hn : NamesOk ses) (hl : plan.length ≤ maxLen) (r : Int) : G35x0 N first days before ses rules r plan = some (keepsR first days before ses rules plan r) := by
 unfold G35x0 F35x0 keepsR
 rw [G57x0_eq hN hs hr hn hl]
 simp only [bnd_eq, Option.isSome_some, getD_some, _root_.cond_true]
 cases hpe : planE first days before ses rules plan != 0 with
 | true => rfl
 | false =>
  obtain ⟨hg, hp, hlen⟩ := plan_ok hn hpe
  have h12 := hg.nrules
  rw [small (show -1000000000000 ≤ (rules.length : Int) - 1 ∧ (rules.length : Int) - 1 ≤ 1000000000000 by omega), V48x0_eq]
  cases ho : out r 0 ((rules.length : Int) - 1) with
  | true => rfl
  | false =>
   simp only [out, decide_eq_false_iff_not] at ho
   rw [G69x0_eq hg hN hp hlen (by omega)]
   rfl
theorem G36x0_eq (hN : maxLen < N) (hs : ses.length ≤ maxLen) (hr : rules.length ≤ maxLen) (hn : NamesOk ses) (hl : plan.length ≤ maxLen) (r : Int) : G36x0 N first days before ses rules r plan = some (keepsR first days before ses rules plan r) := by
 unfold G36x0 F36x0 keepsR
 rw [G58x0_eq hN hs hr hn hl]
 simp only [bnd_eq, Option.isSome_some, getD_some, _root_.cond_true]
 cases hpe : planE first days before ses rules plan != 0 with
 | true => rfl
 | false =>
  obtain ⟨hg, hp, hlen⟩ := plan_ok hn hpe
  have h12 := hg.nrules
  rw [small (show -1000000000000 ≤ (rules.length : Int) - 1 ∧ (rules.length : Int) - 1 ≤ 1000000000000 by omega), V50x0_eq]
  cases ho : out r 0 ((rules.length : Int) - 1) with
  | true => rfl
  | false =>
   simp only [out, decide_eq_false_iff_not] at ho
   have hr0 : 0 ≤ r := by omega
   have hr1 : r < rules.length := by omega
   have hk := G62x0_eq hg hN hp hlen (getD_mem (xs := rules) (.i 0) hr0 hr1)
   unfold rKind rDay rN rLow rHigh rName at hk
   simp only [_root_.cond_false, inB_of hr0 hr1, _root_.cond_true, hk, Option.isSome_some, getD_some]
   rfl
theorem G37x0_eq (hN : maxLen < N) (hs : ses.length ≤ maxLen) (hr : rules.length ≤ maxLen) (hn : NamesOk ses) (hl : plan.length ≤ maxLen) : ∃ b, G37x0 N first days before ses rules plan = some (b, brokenR first days before ses rules plan) := by
 have hM : maxLen = 9223372036854775807 := rfl
 unfold G37x0 F37x0 brokenR
 rw [G57x0_eq hN hs hr hn hl]
 simp only [bnd_eq, Option.isSome_some, getD_some, _root_.cond_true]
 cases hpe : planE first days before ses rules plan != 0 with
 | true => exact ⟨_, rfl⟩
 | false =>
  obtain ⟨hg, hp, hlen⟩ := plan_ok hn hpe
  have h12 := hg.nrules
  have key := loop_indP (A := Int × Bool × List D) (S := fun a kr => S37x0x18 N plan rules.length first days before ses rules a.1 a.2.1 a.2.2 (fun x y z => kr (x, y, z)) (fun p => some p)) (L := fun k a => L37x0x18 N plan rules.length first days before ses rules k a.1 a.2.1 a.2.2 (fun p => some p)) (fun k a => rfl)
   (fun a x => ∃ b, x = some (b, a.2.2 ++ nums (brk (fits first days before ses plan) a.1.toNat (rules.drop a.1.toNat))))
   (fun a => 0 ≤ a.1 ∧ a.1 ≤ rules.length ∧ (a.2.2.length : Int) ≤ a.1) (fun a => ((rules.length : Int) - a.1).toNat) (by
    rintro ⟨w, b, ol⟩ kr ⟨h0, h1, h2⟩ ih
    dsimp only at h0 h1 h2 ih ⊢
    by_cases hw : w < rules.length
    ·have ew : IntKind.wrap .i64 (w + 1) = w + 1 := small (by omega)
     have hk := G69x0_eq hg hN hp hlen ⟨h0, hw⟩
     simp only [S37x0x18, decide_eq_true hw, _root_.cond_true, hk, bnd_eq, Option.isSome_some, getD_some, ew, G37x0x29, F37x0x29]
     rw [drop_at (.i 0) h0 hw, show ∀ f k x l, brk f k (x :: l) = bif f x then brk f (k + 1) l else k :: brk f (k + 1) l from fun _ _ _ _ => rfl, show w.toNat + 1 = (w + 1).toNat by omega]
     cases fits first days before ses plan (rules.getD w.toNat (.i 0)) with
     | false =>
      simp only [Bool.not_false, _root_.cond_true, _root_.cond_false, roomOk (show ol.length ≤ 1000 by omega), inlB_inl, inlV_inl]
      obtain ⟨b', h⟩ := ih (w + 1, false, ol ++ [.i w]) ⟨by dsimp only; omega, by dsimp only; omega, by dsimp only; simp; omega⟩ (by dsimp only; omega)
      refine ⟨b', ?_⟩
      dsimp only at h
      rw [h]
      simp only [nums, List.map_cons, List.append_assoc, List.singleton_append, Int.toNat_of_nonneg h0]
     | true =>
      simp only [Bool.not_true, _root_.cond_false, inlB_inr, inrQ_inr, Option.isSome_some, _root_.cond_true]
      exact ih (w + 1, b, ol) ⟨by dsimp only; omega, by dsimp only; omega, by dsimp only; omega⟩ (by dsimp only; omega)
    ·refine ⟨b, ?_⟩
     simp only [S37x0x18, decide_eq_false hw, _root_.cond_false]
     rw [drop_end hw]
     simp [brk, nums])
   N (0, true, []) ⟨by simp, by simp, by simp⟩ (by dsimp only; omega)
  obtain ⟨b, key⟩ := key
  refine ⟨b, ?_⟩
  dsimp only at key
  simp only [List.nil_append, Int.toNat_zero, List.drop_zero] at key
  unfold G37x0x18
  rw [key]
  rfl
theorem G38x0_eq (hN : maxLen < N) (hs : ses.length ≤ maxLen) (hr : rules.length ≤ maxLen) (hn : NamesOk ses) (hl : plan.length ≤ maxLen) : G38x0 N first days before ses rules plan = some (worthR first days before ses rules plan) := by
 have h1 := G30x0_eq (first := first) (days := days) (before := before) hN hs hr hn hl
 rw [← h1]
 unfold G38x0 F38x0 G30x0 F30x0
 rw [G57x0_eq hN hs hr hn hl, G58x0_eq hN hs hr hn hl]
 simp only [bnd_eq, Option.isSome_some, getD_some, _root_.cond_true]
 cases hpe : planE first days before ses rules plan != 0 with
 | true => rfl
 | false =>
  obtain ⟨hg, hp, hlen⟩ := plan_ok hn hpe
  have e : G38x0x18 N plan plan.length ses 0 0 = G30x0x18 N plan plan.length ses 0 0 := by
   unfold G38x0x18 G30x0x18
   have key : ∀ (m : Nat) (c w : Int), 0 ≤ w → L38x0x18 N plan plan.length ses m c w (fun p => some p) = L30x0x18 N plan plan.length ses m c w (fun p => some p) := by
    intro m
    induction m with
    | zero => intros; rfl
    | succ m ih =>
     intro c w h0
     show S38x0x18 N plan plan.length ses c w (fun c w => L38x0x18 N plan plan.length ses m c w (fun p => some p)) (fun p => some p) = S30x0x18 N plan plan.length ses c w (fun c w => L30x0x18 N plan plan.length ses m c w (fun p => some p)) (fun p => some p)
     unfold S38x0x18 S30x0x18
     by_cases hw : w < plan.length
     ·have hin := hp _ (getD_mem (xs := plan) (.i 0) h0 hw)
      have := hg.gdays
      rw [G70x0_eq hin.2, G63x0_eq hin.2, small (show -1000000000000 ≤ w + 1 ∧ w + 1 ≤ 1000000000000 by omega)]
      simp only [bnd_eq, Option.isSome_some, getD_some, _root_.cond_true, ih _ _ (show 0 ≤ w + 1 by omega)]
     ·rw [decide_eq_false hw]; rfl
   exact key N 0 0 (Int.le_refl _)
  rw [e]
/-- The loads of a plan. -/
def loadsR (first days before : Int) (ses rules plan : List D) : List D × Int :=
 bif planE first days before ses rules plan != 0 then ([], planE first days before ses rules plan) else ((runL (ldF ses plan) 0 plan.length).map D.i, 0)
theorem G39x0_eq (hN : maxLen < N) (hs : ses.length ≤ maxLen) (hr : rules.length ≤ maxLen) (hn : NamesOk ses) (hl : plan.length ≤ maxLen) : ∃ b, G39x0 N first days before ses rules plan = some (b, loadsR first days before ses rules plan) := by
 have hM : maxLen = 9223372036854775807 := rfl
 unfold G39x0 F39x0 loadsR
 rw [G57x0_eq hN hs hr hn hl]
 simp only [bnd_eq, Option.isSome_some, getD_some, _root_.cond_true]
 cases hpe : planE first days before ses rules plan != 0 with
 | true => exact ⟨_, rfl⟩
 | false =>
  obtain ⟨hg, hp, hlen⟩ := plan_ok hn hpe
  have hgd := hg.gdays
  have key := loop_indP (A := Int × Bool × List D) (S := fun a kr => S39x0x18 N plan plan.length ses a.1 a.2.1 a.2.2 (fun x y z => kr (x, y, z)) (fun p => some p)) (L := fun k a => L39x0x18 N plan plan.length ses k a.1 a.2.1 a.2.2 (fun p => some p)) (fun k a => rfl)
   (fun a x => ∃ b, x = some (b, a.2.2 ++ (runL (ldF ses plan) a.1.toNat (plan.length - a.1.toNat)).map D.i))
   (fun a => 0 ≤ a.1 ∧ a.1 ≤ plan.length ∧ (a.2.2.length : Int) ≤ a.1) (fun a => ((plan.length : Int) - a.1).toNat) (by
    rintro ⟨w, b, ol⟩ kr ⟨h0, h1, h2⟩ ih
    dsimp only at h0 h1 h2 ih ⊢
    obtain ⟨i, rfl⟩ := Int.eq_ofNat_of_zero_le h0
    rw [Int.toNat_natCast]
    by_cases hw : (i : Int) < plan.length
    ·have ew : IntKind.wrap .i64 ((i : Int) + 1) = ((i + 1 : Nat) : Int) := small (by omega)
     have eld : sLoad ses (pN plan i) = ldF ses plan i := rfl
     simp only [S39x0x18, decide_eq_true hw, _root_.cond_true, inB_of h0 hw, Int.toNat_natCast, pN_at (show i < plan.length by omega), G70x0_eq (pN_in hp i).2, bnd_eq, Option.isSome_some, getD_some, ew, roomOk (show ol.length ≤ 1000 by omega), eld]
     obtain ⟨b', h⟩ := ih (((i + 1 : Nat) : Int), false, ol ++ [.i (ldF ses plan i)]) ⟨by dsimp only; omega, by dsimp only; omega, by dsimp only; simp; omega⟩ (by dsimp only; omega)
     refine ⟨b', ?_⟩
     dsimp only at h
     rw [h, Int.toNat_natCast, show plan.length - i = (plan.length - (i + 1)) + 1 by omega]
     simp [runL]
    ·refine ⟨b, ?_⟩
     simp only [S39x0x18, decide_eq_false hw, _root_.cond_false]
     rw [show plan.length - i = 0 by omega]
     simp [runL])
   N (0, true, []) ⟨by simp, by simp, by simp⟩ (by dsimp only; omega)
  obtain ⟨b, key⟩ := key
  refine ⟨b, ?_⟩
  dsimp only at key
  simp only [List.nil_append, Int.toNat_zero, Nat.sub_zero] at key
  unfold G39x0x18
  rw [key]
  rfl
theorem G40x0_eq (hN : maxLen < N) (hs : ses.length ≤ maxLen) (hr : rules.length ≤ maxLen) (hn : NamesOk ses) (hl : plan.length ≤ maxLen) : ∃ b, G40x0 N first days before ses rules plan = some (b, loadsR first days before ses rules plan) := by
 obtain ⟨b, h1⟩ := G39x0_eq (first := first) (days := days) (before := before) hN hs hr hn hl
 refine ⟨b, ?_⟩
 rw [← h1]
 unfold G39x0 F39x0 G40x0 F40x0
 rw [G57x0_eq hN hs hr hn hl, G58x0_eq hN hs hr hn hl]
 simp only [bnd_eq, Option.isSome_some, getD_some, _root_.cond_true]
 cases hpe : planE first days before ses rules plan != 0 with
 | true => rfl
 | false =>
  obtain ⟨hg, hp, hlen⟩ := plan_ok hn hpe
  have e : G40x0x18 N plan plan.length ses 0 true [] = G39x0x18 N plan plan.length ses 0 true [] := by
   unfold G39x0x18 G40x0x18
   have key : ∀ (m : Nat) (w : Int) (b : Bool) (l : List D), 0 ≤ w → L40x0x18 N plan plan.length ses m w b l (fun p => some p) = L39x0x18 N plan plan.length ses m w b l (fun p => some p) := by
    intro m
    induction m with
    | zero => intros; rfl
    | succ m ih =>
     intro w b l h0
     show S40x0x18 N plan plan.length ses w b l (fun w b l => L40x0x18 N plan plan.length ses m w b l (fun p => some p)) (fun p => some p) = S39x0x18 N plan plan.length ses w b l (fun w b l => L39x0x18 N plan plan.length ses m w b l (fun p => some p)) (fun p => some p)
     unfold S39x0x18 S40x0x18
     by_cases hw : w < plan.length
     ·have hin := hp _ (getD_mem (xs := plan) (.i 0) h0 hw)
      have := hg.gdays
      rw [G70x0_eq hin.2, G63x0_eq hin.2, small (show -1000000000000 ≤ w + 1 ∧ w + 1 ≤ 1000000000000 by omega)]
      simp only [bnd_eq, Option.isSome_some, getD_some, _root_.cond_true, ih _ _ _ (show 0 ≤ w + 1 by omega)]
     ·rw [decide_eq_false hw]; rfl
   exact key N 0 true [] (Int.le_refl _)
  rw [e]
def weeksR (first days before : Int) (ses rules plan : List D) : List D × Int :=
 bif planE first days before ses rules plan != 0 then ([], planE first days before ses rules plan) else ((ws (ldF ses plan) plan.length).map D.i, 0)
theorem G42x0_eq (hN : maxLen < N) (hs : ses.length ≤ maxLen) (hr : rules.length ≤ maxLen) (hn : NamesOk ses) (hl : plan.length ≤ maxLen) : ∃ b, G42x0 N first days before ses rules plan = some (b, weeksR first days before ses rules plan) := by
 unfold G42x0 F42x0 weeksR
 rw [G58x0_eq hN hs hr hn hl]
 simp only [bnd_eq, Option.isSome_some, getD_some, _root_.cond_true]
 cases hpe : planE first days before ses rules plan != 0 with
 | true => exact ⟨_, rfl⟩
 | false =>
  obtain ⟨hg, hp, hlen⟩ := plan_ok hn hpe
  have := hg.gdays
  obtain ⟨b, h⟩ := G71x0_eq hg hN hp (by omega)
  rw [h]
  exact ⟨b, rfl⟩
theorem runL_len {P : Nat → Int} : ∀ {m i : Nat}, (runL P i m).length = m
 | 0, _ => rfl
 | m + 1, i => by unfold runL; rw [List.length_cons, runL_len]
theorem runL_at {P : Nat → Int} : ∀ {m i j : Nat}, j < m → (((runL P i m).map D.i).getD j (.i 0)).toI = P (i + j)
 | 0, _, _, h => by omega
 | m + 1, i, 0, _ => rfl
 | m + 1, i, j + 1, h => by
  unfold runL
  rw [List.map_cons, List.getD_cons_succ, runL_at (by omega), show i + 1 + j = i + (j + 1) by omega]
theorem weeks_loop (hN : maxLen < N) {g : Nat → Int} (hgb : ∀ i, 0 ≤ g i ∧ g i ≤ 1000) {n : Nat} (hl : n ≤ 14) : ∃ b, G41x0x18 N ((runL g 0 n).map D.i) (((runL g 0 n).map D.i).length : Int) 0 true [] = some (b, (ws g n).map D.i) := by
 have hM : maxLen = 9223372036854775807 := rfl
 have hln : ((runL g 0 n).map D.i).length = n := by rw [List.length_map, runL_len]
 have key := loop_indP (A := Int × Bool × List D) (S := fun a kr => S41x0x18 N ((runL g 0 n).map D.i) (((runL g 0 n).map D.i).length : Int) a.1 a.2.1 a.2.2 (fun x y z => kr (x, y, z)) (fun p => some p)) (L := fun k a => L41x0x18 N ((runL g 0 n).map D.i) (((runL g 0 n).map D.i).length : Int) k a.1 a.2.1 a.2.2 (fun p => some p)) (fun k a => rfl)
  (fun a x => a.2.2 = (ws g a.1.toNat).map D.i → ∃ b, x = some (b, (ws g n).map D.i))
  (fun a => 0 ≤ a.1 ∧ a.1 ≤ n) (fun a => ((n : Int) - a.1).toNat) (by
   rintro ⟨w, b, ol⟩ kr ⟨h0, h1⟩ ih hol
   dsimp only at h0 h1 ih hol ⊢
   obtain ⟨i, rfl⟩ := Int.eq_ofNat_of_zero_le h0
   rw [Int.toNat_natCast] at hol
   subst hol
   by_cases hw : i < n
   ·have ew : IntKind.wrap .i64 ((i : Int) + 1) = ((i + 1 : Nat) : Int) := small (by omega)
    have hgi := hgb i
    have hwk := wk_bd hgb i
    have hfl : ((fw g i).map D.i).length = i / 7 := by rw [List.length_map, fw_len]
    have hat := runL_at (P := g) (i := 0) hw
    rw [Nat.zero_add] at hat
    have e7 : IntKind.wrap .i64 (((i / 7 + 1 : Nat) : Int) - 1) = ((i / 7 : Nat) : Int) := by rw [small (by omega)]; omega
    have next : ∀ b', ∃ b, kr (((i + 1 : Nat) : Int), b', (fw g i).map D.i ++ [.i (wk g i + g i)]) = some (b, (ws g n).map D.i) := fun b' => ih (((i + 1 : Nat) : Int), b', _) ⟨by dsimp only; omega, by dsimp only; omega⟩ (by dsimp only; omega) (by dsimp only; rw [Int.toNat_natCast, ws_succ, List.map_append]; rfl)
    simp only [S41x0x18, hln, decide_eq_true (show (i : Int) < n by omega), _root_.cond_true, inB_of h0 (show (i : Int) < n by omega), tmod_nat, ew, bnd_eq, Int.toNat_natCast, hat]
    by_cases h7 : i % 7 = 0
    ·have hws : (ws g i).map D.i = (fw g i).map D.i := by
      unfold ws
      rw [show (i % 7 == 0) = true by rw [beq_iff_eq]; exact h7]; simp
     have hz := wk_zero (g := g) h7
     rw [hz] at next
     rw [hws, show ((((i % 7 : Nat) : Int)) == 0) = true by rw [beq_iff_eq]; omega]
     have hll : ((fw g i).map D.i ++ [D.i 0]).length = i / 7 + 1 := by rw [List.length_append, hfl]; rfl
     simp only [G41x0x29, F41x0x29, _root_.cond_true, roomOk (show ((fw g i).map D.i).length ≤ 1000 by omega), inlB_inl, inlV_inl, hll, e7, Int.toNat_natCast, inB_of (show (0 : Int) ≤ ((i / 7 : Nat) : Int) by omega) (show ((i / 7 : Nat) : Int) < ((i / 7 + 1 : Nat) : Int) by omega), decide_eq_true (show i / 7 < i / 7 + 1 by omega), getD_last (show i / 7 = ((fw g i).map D.i).length from hfl.symm), set_last (show i / 7 = ((fw g i).map D.i).length from hfl.symm), D.toI, small (show -1000000000000 ≤ 0 + g i ∧ 0 + g i ≤ 1000000000000 by omega)]
     exact next false
    ·have hws : (ws g i).map D.i = (fw g i).map D.i ++ [.i (wk g i)] := by
      unfold ws
      rw [show (i % 7 == 0) = false by rw [beq_eq_false_iff_ne]; exact h7, List.map_append]; rfl
     rw [hws, show ((((i % 7 : Nat) : Int)) == 0) = false by rw [beq_eq_false_iff_ne]; omega]
     have hll : ((fw g i).map D.i ++ [D.i (wk g i)]).length = i / 7 + 1 := by rw [List.length_append, hfl]; rfl
     simp only [G41x0x29, F41x0x29, _root_.cond_false, _root_.cond_true, inlB_inr, inrQ_inr, Option.isSome_some, hll, e7, Int.toNat_natCast, inB_of (show (0 : Int) ≤ ((i / 7 : Nat) : Int) by omega) (show ((i / 7 : Nat) : Int) < ((i / 7 + 1 : Nat) : Int) by omega), decide_eq_true (show i / 7 < i / 7 + 1 by omega), getD_last (show i / 7 = ((fw g i).map D.i).length from hfl.symm), set_last (show i / 7 = ((fw g i).map D.i).length from hfl.symm), D.toI, small (show -1000000000000 ≤ wk g i + g i ∧ wk g i + g i ≤ 1000000000000 by omega)]
     exact next b
   ·have : i = n := by omega
    subst this
    refine ⟨b, ?_⟩
    simp only [S41x0x18, hln, decide_eq_false (show ¬ (i : Int) < i by omega), _root_.cond_false])
  N (0, true, []) ⟨by simp, by dsimp only; omega⟩ (by dsimp only; omega) rfl
 obtain ⟨b, key⟩ := key
 exact ⟨b, key⟩
theorem G41x0_eq (hN : maxLen < N) (hs : ses.length ≤ maxLen) (hr : rules.length ≤ maxLen) (hn : NamesOk ses) (hl : plan.length ≤ maxLen) : ∃ b, G41x0 N first days before ses rules plan = some (b, weeksR first days before ses rules plan) := by
 obtain ⟨b, h1⟩ := G39x0_eq (first := first) (days := days) (before := before) hN hs hr hn hl
 unfold G41x0 F41x0 weeksR
 rw [h1]
 unfold loadsR
 simp only [bnd_eq, Option.isSome_some, getD_some, _root_.cond_true]
 cases hpe : planE first days before ses rules plan != 0 with
 | true => simp only [_root_.cond_true, hpe]; exact ⟨_, rfl⟩
 | false =>
  obtain ⟨hg, hp, hlen⟩ := plan_ok hn hpe
  have := hg.gdays
  obtain ⟨b, h⟩ := weeks_loop hN (ldF_in hg hp) (n := plan.length) (by omega)
  simp only [_root_.cond_false, bne_self_eq_false]
  rw [h]
  exact ⟨b, rfl⟩
end
end Go.Proofs.Ytefmjfcdgadggaa

namespace Go.Proofs.Ytefmjfcdgadggaa
open Go Go.AM
set_option maxRecDepth 100000
set_option maxHeartbeats 4000000
theorem eqI_refl (l : List D) : eqI l l = true := eqI_iff.2 rfl
section
variable {first days before : Int} {ses rules plan : List D}
theorem brokenR_len (hr : rules.length ≤ maxLen) : (brokenR first days before ses rules plan).1.length ≤ maxLen := by
 unfold brokenR
 cases planE first days before ses rules plan != 0 with
 | true => exact Nat.zero_le _
 | false => simp only [_root_.cond_false]; rw [nums_len]; exact Nat.le_trans brk_len hr
theorem loadsR_len (hl : plan.length ≤ maxLen) : (loadsR first days before ses rules plan).1.length ≤ maxLen := by
 unfold loadsR
 cases planE first days before ses rules plan != 0 with
 | true => exact Nat.zero_le _
 | false => simp only [_root_.cond_false]; rw [List.length_map, runL_len]; exact hl
theorem weeksR_len (hl : plan.length ≤ maxLen) : (weeksR first days before ses rules plan).1.length ≤ maxLen := by
 have hM : maxLen = 9223372036854775807 := rfl
 unfold weeksR
 cases planE first days before ses rules plan != 0 with
 | true => exact Nat.zero_le _
 | false => simp only [_root_.cond_false]; rw [ws_mapl]; omega
theorem law10 (r : Int) (hs : ses.length ≤ maxLen) (hr : rules.length ≤ maxLen) (hn : NamesOk ses) (hl : plan.length ≤ maxLen) : G10x0 18446744073709551616 first days before ses rules r plan = some true := by
 have hN : maxLen < 18446744073709551616 := by decide
 obtain ⟨b2, h2⟩ := G37x0_eq (first := first) (days := days) (before := before) hN hs hr hn hl
 obtain ⟨b3, h3⟩ := G28x0_eq (first := first) (days := days) (before := before) hN hs hr hn hl
 obtain ⟨b7, h7⟩ := G39x0_eq (first := first) (days := days) (before := before) hN hs hr hn hl
 obtain ⟨b8, h8⟩ := G40x0_eq (first := first) (days := days) (before := before) hN hs hr hn hl
 obtain ⟨b9, h9⟩ := G41x0_eq (first := first) (days := days) (before := before) hN hs hr hn hl
 obtain ⟨b10, h10⟩ := G42x0_eq (first := first) (days := days) (before := before) hN hs hr hn hl
 unfold G10x0 F10x0
 rw [G35x0_eq hN hs hr hn hl, G36x0_eq hN hs hr hn hl, h2, h3, G38x0_eq hN hs hr hn hl, G30x0_eq hN hs hr hn hl, h7, h8, h9, h10]
 have q1 := G15x0_eq hN (b := (brokenR first days before ses rules plan).1) (brokenR_len (first := first) (days := days) (before := before) (ses := ses) (plan := plan) hr)
 have q2 := G15x0_eq hN (b := (loadsR first days before ses rules plan).1) (loadsR_len (first := first) (days := days) (before := before) (ses := ses) (rules := rules) hl)
 have q3 := G15x0_eq hN (b := (weeksR first days before ses rules plan).1) (weeksR_len (first := first) (days := days) (before := before) (ses := ses) (rules := rules) hl)
 rw [eqI_refl] at q1 q2 q3
 simp only [bnd_eq, Option.isSome_some, getD_some, _root_.cond_true, _root_.cond_false, G10x0x16, F10x0x16, G10x0x40, F10x0x40, q1, q2, q3, told_ok, beq_self_eq_true, bne_self_eq_false, Bool.not_true]
end
theorem call10 (dss : List (List D)) (h : All2 (ArgOk Try.prog 6) Try.f10.params.toList dss) : CallOk Try.prog 10 (argVs Try.prog Try.f10.params.toList dss) [] ([.c (.b true)], []) := by
 have hp : Try.f10.params.toList = [25, 3, 26] := by kernel_rfl
 rw [hp] at h ⊢
 match dss, h with
 | [d0, d1, d2], ⟨h0, h1, h2, _⟩ =>
  obtain ⟨first, days, before, n, ses, n', rules, rfl, hs⟩ := arg25 h0
  obtain ⟨i, rfl, _⟩ := arg3 h1
  obtain ⟨f', plan, rfl, _, hpl, _⟩ := arg26 h2
  refine ok10x0 18446744073709551616 _ _ (A10x0 18446744073709551616 [.i first, .i days, .i before, .b n, .l ses, .b n', .l rules, .i i, .b f', .l plan]) (by kernel_rfl) _ ?_
  have e : A10x0 18446744073709551616 [.i first, .i days, .i before, .b n, .l ses, .b n', .l rules, .i i, .b f', .l plan] = bnd (G10x0 18446744073709551616 first days before ses rules i plan) fun q => [(q.isSome, ([.c (.b (q.getD default))], []))] := by kernel_rfl
  rw [e, law10 i hs.ls hs.lr hs.names hpl]
  rfl
theorem keeps_lifted (os : Os) (started : os.Started) (H : Type) (enc : TypeId × Value → H) :
  ReturnsInHanded {} Try.checked os 10 .any (Rows.seasonKeepsMatchSpecSpec.pre6 enc Try.prog Try.f10 Rows.seasonKeepsMatchSpecRow.domain false) (Rows.seasonKeepsMatchSpecSpec.post enc Try.prog Try.f10 false true false false) := by
 refine returnsInHanded_of_change (C := Try.checked) Try.own started (by kernel_rfl) Try.func10
  (ChangeSpec.witness6 (enc := enc) (C := Try.checked) false ⟨#[], #[.agg #[.int .i64 0, .int .i64 0, .int .i64 0, .slice none 0 0, .slice none 0 0], .int .i64 0, .slice none 0 0], []⟩ 8 (by kernel_rfl) (by kernel_rfl) (by kernel_rfl) (by kernel_rfl)) ?_
 intro W base args ds gs before hval hW _ _
 exact law_call (m := 6) (tb := 4) Try.laidOut rfl (by kernel_rfl) (by kernel_rfl) (by kernel_rfl) (fun l hl => by
  rw [show Try.f10.params.size = 3 by kernel_rfl] at hl
  match l, hl with
  | [_, _, _], _ => rfl) call10 hval hW
theorem keeps_holds : Rows.SeasonKeepsMatchSpecSaid :=
 OpenClaim.holds_of_wide 10 Try.f10 rfl rfl rfl rfl rfl rfl rfl ⟨rfl, rfl, rfl, rfl, rfl⟩ rfl rfl rfl rfl rfl (by kernel_rfl) Try.func10 (by kernel_rfl)
  (of_decide_eq_true (by kernel_rfl)) (by unfold Func.isWrapper; first | (rw [if_pos (by decide +kernel)]; kernel_rfl) | (rw [if_neg (by decide +kernel)]; exact ⟨rfl, rfl⟩))
  (fun os started H enc _ => keeps_lifted os started H enc)
end Go.Proofs.Ytefmjfcdgadggaa

