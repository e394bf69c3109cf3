/- A part of a proof of a law: lemmas on what the functions of the program compute. Conditions: those of each lemma. -/
import Derived.Test.YtefmjfcdgadggaaG4p2
import Derived.Test.YtefmjfcdgadggaaAm39
set_option linter.all false
namespace Go.Proofs.Ytefmjfcdgadggaa
open Go Go.AM

/-! ### What Check says -/
def ltr (n : Int) : Bool := decide (97 ≤ n ∧ n ≤ 122 ∨ 65 ≤ n ∧ n ≤ 90 ∨ 48 ≤ n ∧ n ≤ 57 ∨ n = 45 ∨ n = 95 ∨ n = 46)
def nameB (s : List UInt8) : Bool := s.all (fun c => ltr (c.toNat : Int)) && decide (1 ≤ s.length ∧ s.length ≤ 60)
def sesAt (xs : List D) (name : List UInt8) : Int := match xs.findIdx? (fun x => (x.cell 0).toS == name) with
  | some j => j
  | none => -1
variable {N : Nat}

theorem G54x0x6_eq (hN : maxLen < N) {s : List UInt8} (hs : s.length ≤ maxLen) : G54x0x6 N s 0 = some (bif s.all (fun c => ltr (c.toNat : Int)) then .inr () else .inl ()) := by
  unfold G54x0x6
  refine (for_ind (0 : UInt8) (S := fun w kr => S54x0x6 N s w kr _ _) (L := fun m w => L54x0x6 N s m w _ _) (fun m w => rfl) (fun _ l => some (bif l.all (fun c => ltr (c.toNat : Int)) then .inr () else .inl ())) hs ?_ ?_ hN).trans rfl
  · intro kr; simp [S54x0x6]
  · intro w kr h0 h1 hw hi hk
    simp only [S54x0x6, decide_eq_true h1, _root_.cond_true, hi, bnd_eq, hw, hk, List.all_cons]
    generalize ((s.getD w.toNat 0).toNat : Int) = n
    refine (cond_congr (c' := !ltr n) ?_).trans ?_
    · rw [Bool.eq_iff_iff]; simp [ltr]; omega
    · cases ltr n <;> rfl
theorem G54x0_eq (hN : maxLen < N) {s : List UInt8} (hs : s.length ≤ maxLen) : G54x0 N s = some (nameB s) := by
  unfold G54x0 F54x0
  rw [G54x0x6_eq hN hs]
  unfold nameB
  cases s.all (fun c => ltr (c.toNat : Int)) with
  | false => rfl
  | true =>
    simp only [bnd_eq, inlB_inr, inrQ_inr, _root_.cond_true, _root_.cond_false, Option.isSome_some, Bool.true_and]
    congr 1
    rw [Bool.eq_iff_iff]; simp; omega
theorem G51x0x6_eq (hN : maxLen < N) {s : List UInt8} (hs : s.length ≤ maxLen) : G51x0x6 N s s.length 0 = some (bif s.all (fun c => ltr (c.toNat : Int)) then .inr () else .inl ()) := by
  unfold G51x0x6
  refine (for_ind (0 : UInt8) (S := fun w kr => S51x0x6 N s s.length w kr _ _) (L := fun m w => L51x0x6 N s s.length m w _ _) (fun m w => rfl) (fun _ l => some (bif l.all (fun c => ltr (c.toNat : Int)) then .inr () else .inl ())) hs ?_ ?_ hN).trans rfl
  · intro kr; simp [S51x0x6]
  · intro w kr h0 h1 hw hi hk
    simp only [S51x0x6, decide_eq_true h1, _root_.cond_true, hi, bnd_eq, hw, hk, List.all_cons, V51x0x19, F51x0x19, V80x0, F80x0]
    generalize ((s.getD w.toNat 0).toNat : Int) = n
    refine (cond_congr (c' := !ltr n) ?_).trans ?_
    · rw [Bool.eq_iff_iff]; simp [ltr]; omega
    · cases ltr n <;> rfl
theorem G51x0_eq (hN : maxLen < N) {s : List UInt8} (hs : s.length ≤ maxLen) : G51x0 N s = some (nameB s) := by
  unfold G51x0 F51x0
  rw [G51x0x6_eq hN hs]
  unfold nameB
  cases s.all (fun c => ltr (c.toNat : Int)) with
  | false => rfl
  | true =>
    simp only [bnd_eq, inlB_inr, inrQ_inr, _root_.cond_true, _root_.cond_false, Option.isSome_some, Bool.true_and]
    congr 1
    rw [Bool.eq_iff_iff]; simp; omega
/-- The number of the first session with a name, from a place on. -/
def fstAt (name : List UInt8) (w : Int) (l : List D) : Option (Sum Int Unit) := match l.findIdx? (fun x => (x.cell 0).toS == name) with
  | some j => some (.inl (w + j))
  | none => some (.inr ())
theorem fstAt_cons (name : List UInt8) (w : Int) (x : D) (l : List D) : fstAt name w (x :: l) = bif (x.cell 0).toS == name then some (.inl w) else fstAt name (w + 1) l := by
  unfold fstAt
  rw [List.findIdx?_cons]
  cases (x.cell 0).toS == name with
  | true => simp
  | false =>
    simp only [Bool.false_eq_true, if_false, _root_.cond_false]
    cases l.findIdx? (fun x => (x.cell 0).toS == name) with
    | none => rfl
    | some j => simp; omega
theorem G55x0x6_eq (hN : maxLen < N) {xs : List D} {s : List UInt8} (hs : xs.length ≤ maxLen) : G55x0x6 N s xs xs.length 0 = fstAt s 0 xs := by
  unfold G55x0x6
  refine (for_ind (.i 0 : D) (S := fun w kr => S55x0x6 N s xs xs.length w kr _ _) (L := fun m w => L55x0x6 N s xs xs.length m w _ _) (fun m w => rfl) (fstAt s) hs ?_ ?_ hN).trans rfl
  · intro kr; simp [S55x0x6, fstAt]
  · intro w kr h0 h1 hw hi hk
    simp only [S55x0x6, decide_eq_true h1, _root_.cond_true, hi, bnd_eq, hw, hk, fstAt_cons]
theorem G81x0x6_eq (hN : maxLen < N) {xs : List D} {s : List UInt8} (hs : xs.length ≤ maxLen) : G81x0x6 N xs xs.length s 0 = fstAt s 0 xs := by
  unfold G81x0x6
  refine (for_ind (.i 0 : D) (S := fun w kr => S81x0x6 N xs xs.length s w kr _ _) (L := fun m w => L81x0x6 N xs xs.length s m w _ _) (fun m w => rfl) (fstAt s) hs ?_ ?_ hN).trans rfl
  · intro kr; simp [S81x0x6, fstAt]
  · intro w kr h0 h1 hw hi hk
    simp only [S81x0x6, V82x0, F82x0, decide_eq_true h1, _root_.cond_true, hi, bnd_eq, hw, hk, fstAt_cons]
theorem G55x0_eq (hN : maxLen < N) {xs : List D} {s : List UInt8} (hs : xs.length ≤ maxLen) : G55x0 N xs s = some (sesAt xs s) := by
  unfold G55x0 F55x0
  rw [G55x0x6_eq hN hs]
  unfold fstAt sesAt
  cases xs.findIdx? (fun x => (x.cell 0).toS == s) with
  | none => rfl
  | some j => simp [bnd_eq, inlB_inl, inlV_inl]
theorem G52x0_eq (hN : maxLen < N) {xs : List D} {s : List UInt8} (hs : xs.length ≤ maxLen) : G52x0 N xs s = some (sesAt xs s) := by
  unfold G52x0 F52x0 G81x0 F81x0
  rw [G81x0x6_eq hN hs]
  unfold fstAt sesAt
  cases xs.findIdx? (fun x => (x.cell 0).toS == s) with
  | none => rfl
  | some j => simp [bnd_eq, inlB_inl, inlV_inl]
end Go.Proofs.Ytefmjfcdgadggaa
