/- Proved: for every veil, level and activity, what veil.Hidden hides for one level stays hidden for the next, an error is that of the reference, and every piece that veil.See lets see passes record.Check (VeilLevelsShrink returns true and leaves its arguments as they were). Conditions: none beyond those of the given statement. -/
import Derived.Test.YtngnemeafkmaoaaVPp2
import Derived.KernelRfl
import Derived.Test.YtngnemeafkmaoaaRows
set_option linter.all false
set_option maxRecDepth 100000
/-! Plain laws: record.Check, record.Same and their references (the numbers are those of the seat of chapter 2). -/
namespace Go.Proofs.Ytngnemeafkmaoaa
open Go Go.AM
set_option maxRecDepth 100000
set_option maxHeartbeats 4000000
variable {N : Nat}
/-! ### Names, ranges -/
def ltr (n : Int) : Bool := decide (97 ≤ n ∧ n ≤ 122 ∨ 65 ≤ n ∧ n ≤ 90 ∨ 48 ≤ n ∧ n ≤ 57 ∨ n = 45 ∨ n = 95 ∨ n = 46)
def nameB (s : List UInt8) : Bool := s.all (fun c => ltr (c.toNat : Int)) && decide (1 ≤ s.length ∧ s.length ≤ 60)
def titleB (s : List UInt8) : Bool := s.all (fun c => decide (32 ≤ (c.toNat : Int) ∧ (c.toNat : Int) ≤ 126)) && decide (s.length ≤ 60)
def inI (n a b : Int) : Bool := decide (a ≤ n ∧ n ≤ b)
theorem G46x0x6_eq (hN : maxLen < N) {s : List UInt8} (hs : s.length ≤ maxLen) : G46x0x6 N s 0 = some (bif s.all (fun c => ltr (c.toNat : Int)) then .inr () else .inl ()) := by
 unfold G46x0x6
 refine (for_ind (0 : UInt8) (S := fun w kr => S46x0x6 N s w kr _ _) (L := fun m w => L46x0x6 N s m w _ _) (fun m w => rfl) (fun _ l => some (bif l.all (fun c => ltr (c.toNat : Int)) then .inr () else .inl ())) hs ?_ ?_ hN).trans rfl
 ·intro kr; simp [S46x0x6]
 ·intro w kr h0 h1 hw hi hk
  simp only [S46x0x6, decide_eq_true h1, _root_.cond_true, hi, bnd_eq, hw, hk, List.all_cons]
  generalize ((s.getD w.toNat 0).toNat : Int) = n
  refine (cond_congr (c' := !ltr n) ?_).trans ?_
  ·rw [Bool.eq_iff_iff]; simp [ltr]; omega
  ·cases ltr n <;> rfl
theorem G46x0_eq (hN : maxLen < N) {s : List UInt8} (hs : s.length ≤ maxLen) : G46x0 N s = some (nameB s) := by
 unfold G46x0 F46x0
 rw [G46x0x6_eq hN hs]
 unfold nameB
 cases s.all (fun c => ltr (c.toNat : Int)) with
 | false => rfl
 | true =>
  simp only [bnd_eq, inlB_inr, inrQ_inr, _root_.cond_true, _root_.cond_false, Option.isSome_some, Bool.true_and]
  congr 1
  rw [Bool.eq_iff_iff]; simp; omega
theorem G82x0x6_eq (hN : maxLen < N) {s : List UInt8} (hs : s.length ≤ maxLen) : G82x0x6 N s s.length 0 = some (bif s.all (fun c => ltr (c.toNat : Int)) then .inr () else .inl ()) := by
 unfold G82x0x6
 refine (for_ind (0 : UInt8) (S := fun w kr => S82x0x6 N s s.length w kr _ _) (L := fun m w => L82x0x6 N s s.length m w _ _) (fun m w => rfl) (fun _ l => some (bif l.all (fun c => ltr (c.toNat : Int)) then .inr () else .inl ())) hs ?_ ?_ hN).trans rfl
 ·intro kr; simp [S82x0x6]
 ·intro w kr h0 h1 hw hi hk
  simp only [S82x0x6, decide_eq_true h1, _root_.cond_true, hi, bnd_eq, hw, hk, List.all_cons, V82x0x19, F82x0x19, V96x0, F96x0]
  generalize ((s.getD w.toNat 0).toNat : Int) = n
  refine (cond_congr (c' := !ltr n) ?_).trans ?_
  ·rw [Bool.eq_iff_iff]; simp [ltr]; omega
  ·cases ltr n <;> rfl
theorem G82x0_eq (hN : maxLen < N) {s : List UInt8} (hs : s.length ≤ maxLen) : G82x0 N s = some (nameB s) := by
 unfold G82x0 F82x0
 rw [G82x0x6_eq hN hs]
 unfold nameB
 cases s.all (fun c => ltr (c.toNat : Int)) with
 | false => rfl
 | true =>
  simp only [bnd_eq, inlB_inr, inrQ_inr, _root_.cond_true, _root_.cond_false, Option.isSome_some, Bool.true_and]
  congr 1
  rw [Bool.eq_iff_iff]; simp; omega
theorem V85x0_eq (n a b : Int) : V85x0 N n a b = inI n a b := by
 unfold V85x0 F85x0 inI
 rw [Bool.eq_iff_iff]; simp
theorem V47x0_eq (n a b : Int) : V47x0 N n a b = !inI n a b := by
 unfold V47x0 F47x0 inI
 rw [Bool.eq_iff_iff]; simp <;> omega
theorem wrapByte (c : UInt8) : IntKind.wrap .i64 (c.toNat : Int) = c.toNat := wrapI (by omega) (by have := c.toNat_lt; omega)
theorem G88x0_eq (hN : maxLen < N) {s : List UInt8} (hs : s.length ≤ maxLen) : G88x0 N s = some (titleB s) := by
 have h : G88x0x6 N s s.length 0 = some (bif s.all (fun c => decide (32 ≤ (c.toNat : Int) ∧ (c.toNat : Int) ≤ 126)) then .inr () else .inl ()) := by
  unfold G88x0x6
  refine (for_ind (0 : UInt8) (S := fun w kr => S88x0x6 N s s.length w kr _ _) (L := fun m w => L88x0x6 N s s.length m w _ _) (fun m w => rfl) (fun _ l => some (bif l.all (fun c => decide (32 ≤ (c.toNat : Int) ∧ (c.toNat : Int) ≤ 126)) then .inr () else .inl ())) hs ?_ ?_ hN).trans rfl
  ·intro kr; simp [S88x0x6]
  ·intro w kr h0 h1 hw hi hk
   simp only [S88x0x6, decide_eq_true h1, _root_.cond_true, hi, bnd_eq, hw, hk, List.all_cons, wrapByte, V85x0_eq, inI]
   cases decide (32 ≤ ((s.getD w.toNat 0).toNat : Int) ∧ ((s.getD w.toNat 0).toNat : Int) ≤ 126) <;> rfl
 unfold G88x0 F88x0
 rw [h]
 unfold titleB
 cases s.all (fun c => decide (32 ≤ (c.toNat : Int) ∧ (c.toNat : Int) ≤ 126)) with
 | false => rfl
 | true =>
  simp only [bnd_eq, inlB_inr, inrQ_inr, _root_.cond_true, _root_.cond_false, Option.isSome_some, Bool.true_and]
  congr 1
  rw [Bool.eq_iff_iff]; simp; omega
theorem G49x0x21_eq (hN : maxLen < N) {s : List UInt8} (hs : s.length ≤ maxLen) : G49x0x21 N s 0 = some (bif s.all (fun c => decide (32 ≤ (c.toNat : Int) ∧ (c.toNat : Int) ≤ 126)) then .inr () else .inl ()) := by
 unfold G49x0x21
 refine (for_ind (0 : UInt8) (S := fun w kr => S49x0x21 N s w kr _ _) (L := fun m w => L49x0x21 N s m w _ _) (fun m w => rfl) (fun _ l => some (bif l.all (fun c => decide (32 ≤ (c.toNat : Int) ∧ (c.toNat : Int) ≤ 126)) then .inr () else .inl ())) hs ?_ ?_ hN).trans rfl
 ·intro kr; simp [S49x0x21]
 ·intro w kr h0 h1 hw hi hk
  simp only [S49x0x21, decide_eq_true h1, _root_.cond_true, hi, bnd_eq, hw, hk, List.all_cons, wrapByte, V47x0_eq, inI]
  cases decide (32 ≤ ((s.getD w.toNat 0).toNat : Int) ∧ ((s.getD w.toNat 0).toNat : Int) ≤ 126) <;> rfl
/-! ### The first fault -/
def firstE (e : Int → Int) : Int → List D → Int
 | _, [] => 0
 | w, _ :: r => bif e w != 0 then e w else firstE e (w + 1) r
def wayE (n : Int) : Sum Int Unit := bif n != 0 then .inl n else .inr ()
theorem wayE_cons {e : Int → Int} {w : Int} {x : D} {l : List D} : wayE (firstE e w (x :: l)) = bif e w != 0 then .inl (e w) else wayE (firstE e (w + 1) l) := by
 simp only [firstE]
 cases h : e w != 0 with
 | true => simp only [_root_.cond_true, wayE, h]
 | false => rfl
/-- Is the moment of sample w not behind that of the one before? -/
def ordE (xs : List D) (w : Int) : Bool := bif w == 0 then ((xs.getD w.toNat (.i 0)).cell 0).toI != 0 else decide (((xs.getD w.toNat (.i 0)).cell 0).toI ≤ ((xs.getD (w - 1).toNat (.i 0)).cell 0).toI)
def rngB (s : D) : Bool := inI (s.cell 1).toI (-100000000) 100000000 && inI (s.cell 2).toI (-100000000) 100000000 && inI (s.cell 3).toI (-100000) 100000 && inI (s.cell 4).toI (-1) 300 && inI (s.cell 5).toI (-1) 3000 && inI (s.cell 6).toI (-1) 300
def farB (start : Int) (s : D) : Bool := decide ((s.cell 0).toI > 1000000) || decide (IntKind.wrap .i64 (start + (s.cell 0).toI) > 86399999999)
def smpE (start : Int) (xs : List D) (w : Int) : Int := bif ordE xs w then 10 else bif farB start (xs.getD w.toNat (.i 0)) || !rngB (xs.getD w.toNat (.i 0)) then 9 else 0
section
variable {xs : List D} {w : Int}
theorem prev_of (h0 : 0 ≤ w) (h1 : w < xs.length) (hl : xs.length ≤ maxLen) (hp : w ≠ 0) : IntKind.wrap .i64 (w - 1) = w - 1 ∧ inB (w - 1) xs.length = true := by
 have hm : maxLen = 9223372036854775807 := rfl
 exact ⟨wrapI (by omega) (by omega), inB_of (by omega) (by omega)⟩
theorem ord65 (h0 : 0 ≤ w) (h1 : w < xs.length) (hl : xs.length ≤ maxLen) : G65x0x39002 N w (bif (w == 0) then (((xs.getD w.toNat (.i 0)).cell 0).toI != 0) else false) xs ((xs.getD w.toNat (.i 0)).cell 0).toI = some (ordE xs w) := by
 unfold G65x0x39002 F65x0x39002 G65x0x40 F65x0x40 ordE
 by_cases hw : w = 0
 ·subst hw
  rw [decide_eq_false (by omega : ¬ ((0 : Int) > 0))]
  simp only [beq_self_eq_true, _root_.cond_true]
  cases (((xs.getD (0 : Int).toNat (.i 0)).cell 0).toI != 0) <;> rfl
 ·obtain ⟨e1, e2⟩ := prev_of h0 h1 hl hw
  have : (w == 0) = false := by simpa using hw
  rw [this, decide_eq_true (by omega : w > 0), e1, e2]
  rfl
theorem ord48 (h0 : 0 ≤ w) (h1 : w < xs.length) (hl : xs.length ≤ maxLen) : G48x0x7 N w xs ((xs.getD w.toNat (.i 0)).cell 0).toI = some (ordE xs w) := by
 unfold G48x0x7 F48x0x7 ordE
 by_cases hw : w = 0
 ·subst hw
  rw [decide_eq_false (by omega : ¬ ((0 : Int) > 0))]
  simp only [beq_self_eq_true, _root_.cond_true]
  cases (((xs.getD (0 : Int).toNat (.i 0)).cell 0).toI != 0) <;> rfl
 ·obtain ⟨e1, e2⟩ := prev_of h0 h1 hl hw
  have : (w == 0) = false := by simpa using hw
  rw [this, decide_eq_true (by omega : w > 0), e1, e2]
  rfl
theorem far65 (start : Int) (s : D) : V65x0x46 N start (s.cell 0).toI (s.cell 1).toI (s.cell 2).toI (s.cell 3).toI (s.cell 4).toI (s.cell 5).toI (s.cell 6).toI = (farB start s || !rngB s) := by
 unfold V65x0x46 F65x0x46 V86x0 F86x0 V86x0x4 F86x0x4 V86x0x7 F86x0x7 farB rngB
 simp only [bnd_eq, V85x0_eq]
 cases decide ((s.cell 0).toI > 1000000) <;> cases decide (IntKind.wrap .i64 (start + (s.cell 0).toI) > 86399999999) <;> cases inI (s.cell 1).toI (-100000000) 100000000 <;> cases inI (s.cell 2).toI (-100000000) 100000000 <;> cases inI (s.cell 3).toI (-100000) 100000 <;> cases inI (s.cell 4).toI (-1) 300 <;> cases inI (s.cell 5).toI (-1) 3000 <;> cases inI (s.cell 6).toI (-1) 300 <;> rfl
theorem G65x0x30_eq (hN : maxLen < N) (start : Int) (hl : xs.length ≤ maxLen) : G65x0x30 N xs xs.length start xs 0 = some (wayE (firstE (smpE start xs) 0 xs)) := by
 unfold G65x0x30
 refine (for_ind (.i 0 : D) (S := fun w kr => S65x0x30 N xs xs.length start xs w kr _ _) (L := fun m w => L65x0x30 N xs xs.length start xs m w _ _) (fun m w => rfl) (fun w l => some (wayE (firstE (smpE start xs) w l))) hl ?_ ?_ hN).trans rfl
 ·intro kr; simp [S65x0x30, firstE, wayE]
 ·intro w kr h0 h1 hw hi hk
  simp only [S65x0x30, decide_eq_true h1, _root_.cond_true, hi, bnd_eq, hw, hk, ord65 h0 h1 hl, Option.isSome_some, getD_some, far65, wayE_cons]
  unfold smpE
  cases ordE xs w with
  | true => rfl
  | false => cases (farB start (xs.getD w.toNat (.i 0)) || !rngB (xs.getD w.toNat (.i 0))) <;> rfl
theorem G48x0_eq (start : Int) (h0 : 0 ≤ w) (h1 : w < xs.length) (hl : xs.length ≤ maxLen) : G48x0 N start xs w = some (smpE start xs w) := by
 unfold G48x0 F48x0
 rw [inB_of h0 h1, ord48 h0 h1 hl]
 unfold smpE V48x0x19 F48x0x19 V48x0x25 F48x0x25 farB rngB
 simp only [bnd_eq, _root_.cond_true, Option.isSome_some, getD_some, V47x0_eq]
 generalize xs.getD w.toNat (.i 0) = s
 cases ordE xs w <;> cases decide ((s.cell 0).toI > 1000000) <;> cases decide (IntKind.wrap .i64 (start + (s.cell 0).toI) > 86399999999) <;> cases inI (s.cell 1).toI (-100000000) 100000000 <;> cases inI (s.cell 2).toI (-100000000) 100000000 <;> cases inI (s.cell 3).toI (-100000) 100000 <;> cases inI (s.cell 4).toI (-1) 300 <;> cases inI (s.cell 5).toI (-1) 3000 <;> cases inI (s.cell 6).toI (-1) 300 <;> rfl
theorem G16x0x30_eq (hN : maxLen < N) (start : Int) (hl : xs.length ≤ maxLen) : G16x0x30 N xs.length start xs 0 = some (wayE (firstE (smpE start xs) 0 xs)) := by
 unfold G16x0x30
 refine (for_ind (.i 0 : D) (S := fun w kr => S16x0x30 N xs.length start xs w kr _ _) (L := fun m w => L16x0x30 N xs.length start xs m w _ _) (fun m w => rfl) (fun w l => some (wayE (firstE (smpE start xs) w l))) hl ?_ ?_ hN).trans rfl
 ·intro kr; simp [S16x0x30, firstE, wayE]
 ·intro w kr h0 h1 hw hi hk
  simp only [S16x0x30, decide_eq_true h1, _root_.cond_true, bnd_eq, hw, hk, G48x0_eq start h0 h1 hl, Option.isSome_some, getD_some, wayE_cons]
  cases smpE start xs w != 0 <;> rfl
/-! ### Laps -/
def spanD (xs : List D) : Int := bif decide ((xs.length : Int) > 0) then ((xs.getD ((xs.length : Int) - 1).toNat (.i 0)).cell 0).toI else 0
theorem G87x0_eq (hl : xs.length ≤ maxLen) : G87x0 N xs = some (spanD xs) := by
 have hm : maxLen = 9223372036854775807 := rfl
 unfold G87x0 F87x0 spanD
 by_cases h : (xs.length : Int) > 0
 ·rw [decide_eq_true h, wrapI (by omega) (by omega), inB_of (by omega) (by omega)]; rfl
 ·rw [decide_eq_false h]; rfl
theorem G77x0_eq (hl : xs.length ≤ maxLen) : G77x0 N xs = some (spanD xs) := by
 have hm : maxLen = 9223372036854775807 := rfl
 unfold G77x0 F77x0 spanD
 by_cases h : (xs.length : Int) > 0
 ·have : ((xs.length : Int) == 0) = false := by simp; intro h'; subst h'; simp at h
  rw [decide_eq_true h, this, wrapI (by omega) (by omega), inB_of (by omega) (by omega)]; rfl
 ·have : ((xs.length : Int) == 0) = true := by simp; exact List.eq_nil_of_length_eq_zero (by omega)
  rw [decide_eq_false h, this]; rfl
def lapO (xs : List D) (w : Int) : Bool := bif decide (w > 0) then decide (((xs.getD w.toNat (.i 0)).cell 0).toI < ((xs.getD (w - 1).toNat (.i 0)).cell 1).toI) else false
def lapR (span : Int) (s : D) : Bool := decide ((s.cell 0).toI < 0) || decide ((s.cell 0).toI ≥ (s.cell 1).toI) || decide ((s.cell 1).toI > span)
def lapE (span : Int) (xs : List D) (w : Int) : Int := bif lapR span (xs.getD w.toNat (.i 0)) then 9 else bif lapO xs w then 10 else bif titleB ((xs.getD w.toNat (.i 0)).cell 2).toS then 0 else 8
theorem lap65 (h0 : 0 ≤ w) (h1 : w < xs.length) (hl : xs.length ≤ maxLen) : G65x0x73 N w xs ((xs.getD w.toNat (.i 0)).cell 0).toI = some (lapO xs w) := by
 unfold G65x0x73 F65x0x73 lapO
 by_cases hw : w = 0
 ·subst hw; rfl
 ·obtain ⟨e1, e2⟩ := prev_of h0 h1 hl hw
  rw [decide_eq_true (by omega : w > 0), e1, e2]; rfl
theorem lap49 (h0 : 0 ≤ w) (h1 : w < xs.length) (hl : xs.length ≤ maxLen) : G49x0x13 N w xs ((xs.getD w.toNat (.i 0)).cell 0).toI = some (lapO xs w) := lap65 (N := N) h0 h1 hl
theorem G65x0x60_eq (hN : maxLen < N) (span : Int) (hl : xs.length ≤ maxLen) (hn : ∀ x ∈ xs, (x.cell 2).toS.length ≤ maxLen) : G65x0x60 N span xs xs.length xs 0 = some (wayE (firstE (lapE span xs) 0 xs)) := by
 unfold G65x0x60
 refine (for_ind (.i 0 : D) (S := fun w kr => S65x0x60 N span xs xs.length xs w kr _ _) (L := fun m w => L65x0x60 N span xs xs.length xs m w _ _) (fun m w => rfl) (fun w l => some (wayE (firstE (lapE span xs) w l))) hl ?_ ?_ hN).trans rfl
 ·intro kr; simp [S65x0x60, firstE, wayE]
 ·intro w kr h0 h1 hw hi hk
  have hmem : xs.getD w.toNat (.i 0) ∈ xs := by rw [List.getD_eq_getElem?_getD, List.getElem?_eq_getElem (by omega)]; exact List.getElem_mem _
  simp only [S65x0x60, decide_eq_true h1, _root_.cond_true, hi, bnd_eq, hw, hk, lap65 h0 h1 hl, G88x0_eq hN (hn _ hmem), Option.isSome_some, getD_some, wayE_cons]
  unfold lapE lapR
  generalize xs.getD w.toNat (.i 0) = s
  cases decide ((s.cell 0).toI < 0) <;> cases decide ((s.cell 0).toI ≥ (s.cell 1).toI) <;> cases decide ((s.cell 1).toI > span) <;> cases lapO xs w <;> cases titleB (s.cell 2).toS <;> rfl
theorem G49x0_eq (hN : maxLen < N) {smps : List D} (h0 : 0 ≤ w) (h1 : w < xs.length) (hl : xs.length ≤ maxLen) (hs : smps.length ≤ maxLen) (hn : ∀ x ∈ xs, (x.cell 2).toS.length ≤ maxLen) : G49x0 N smps xs w = some (lapE (spanD smps) xs w) := by
 have hmem : xs.getD w.toNat (.i 0) ∈ xs := by rw [List.getD_eq_getElem?_getD, List.getElem?_eq_getElem (by omega)]; exact List.getElem_mem _
 unfold G49x0 F49x0 G49x0x7 F49x0x7
 simp only [inB_of h0 h1, _root_.cond_true, bnd_eq, G77x0_eq hs, Option.isSome_some, getD_some, lap49 h0 h1 hl, G49x0x21_eq hN (hn _ hmem)]
 unfold lapE lapR titleB
 generalize xs.getD w.toNat (.i 0) = s
 have e3 : decide (((s.cell 2).toS.length : Int) > 60) = !decide ((s.cell 2).toS.length ≤ 60) := by rw [Bool.eq_iff_iff]; simp; omega
 rw [e3]
 cases decide ((s.cell 0).toI < 0) <;> cases decide ((s.cell 0).toI ≥ (s.cell 1).toI) <;> cases decide ((s.cell 1).toI > spanD smps) <;> cases lapO xs w <;> cases (s.cell 2).toS.all (fun c => decide (32 ≤ (c.toNat : Int) ∧ (c.toNat : Int) ≤ 126)) <;> cases decide ((s.cell 2).toS.length ≤ 60) <;> rfl
theorem G16x0x51_eq (hN : maxLen < N) {smps : List D} (hl : xs.length ≤ maxLen) (hs : smps.length ≤ maxLen) (hn : ∀ x ∈ xs, (x.cell 2).toS.length ≤ maxLen) : G16x0x51 N xs.length smps xs 0 = some (wayE (firstE (lapE (spanD smps) xs) 0 xs)) := by
 unfold G16x0x51
 refine (for_ind (.i 0 : D) (S := fun w kr => S16x0x51 N xs.length smps xs w kr _ _) (L := fun m w => L16x0x51 N xs.length smps xs m w _ _) (fun m w => rfl) (fun w l => some (wayE (firstE (lapE (spanD smps) xs) w l))) hl ?_ ?_ hN).trans rfl
 ·intro kr; simp [S16x0x51, firstE, wayE]
 ·intro w kr h0 h1 hw hi hk
  simp only [S16x0x51, decide_eq_true h1, _root_.cond_true, bnd_eq, hw, hk, G49x0_eq hN h0 h1 hl hs hn, Option.isSome_some, getD_some, wayE_cons]
  cases lapE (spanD smps) xs w != 0 <;> rfl
/-! ### Tags -/
def leS (a b : List UInt8) : Bool := Op.bytesLess a b || a == b
def tagO (xs : List D) (w : Int) : Bool := bif decide (w > 0) then leS (xs.getD w.toNat (.i 0)).toS (xs.getD (w - 1).toNat (.i 0)).toS else false
def tagE (xs : List D) (w : Int) : Int := bif nameB (xs.getD w.toNat (.i 0)).toS then (bif tagO xs w then 10 else 0) else 8
theorem tag_in (h0 : 0 ≤ w) (h1 : w < xs.length) (hl : xs.length ≤ maxLen) : (bif (inB (IntKind.wrap .i64 (w - 1)) xs.length) then true else (!((decide (w > 0)) == true))) = true ∧ (bif (decide (w > 0)) then ((Op.bytesLess (xs.getD w.toNat (.i 0)).toS (xs.getD (IntKind.wrap .i64 (w - 1)).toNat (.i 0)).toS) || ((xs.getD w.toNat (.i 0)).toS == (xs.getD (IntKind.wrap .i64 (w - 1)).toNat (.i 0)).toS)) else false) = tagO xs w := by
 unfold tagO leS
 by_cases hw : w = 0
 ·subst hw
  rw [decide_eq_false (by omega : ¬ ((0 : Int) > 0))]
  refine ⟨?_, rfl⟩
  cases inB (IntKind.wrap .i64 (0 - 1)) xs.length <;> rfl
 ·obtain ⟨e1, e2⟩ := prev_of h0 h1 hl hw
  rw [decide_eq_true (by omega : w > 0), e1, e2]
  exact ⟨rfl, rfl⟩
theorem G65x0x90_eq (hN : maxLen < N) (hl : xs.length ≤ maxLen) (hn : ∀ x ∈ xs, x.toS.length ≤ maxLen) : G65x0x90 N xs xs.length xs 0 = some (wayE (firstE (tagE xs) 0 xs)) := by
 unfold G65x0x90
 refine (for_ind (.i 0 : D) (S := fun w kr => S65x0x90 N xs xs.length xs w kr _ _) (L := fun m w => L65x0x90 N xs xs.length xs m w _ _) (fun m w => rfl) (fun w l => some (wayE (firstE (tagE xs) w l))) hl ?_ ?_ hN).trans rfl
 ·intro kr; simp [S65x0x90, firstE, wayE]
 ·intro w kr h0 h1 hw hi hk
  have hmem : xs.getD w.toNat (.i 0) ∈ xs := by rw [List.getD_eq_getElem?_getD, List.getElem?_eq_getElem (by omega)]; exact List.getElem_mem _
  obtain ⟨t1, t2⟩ := tag_in h0 h1 hl
  simp only [S65x0x90, decide_eq_true h1, _root_.cond_true, hi, bnd_eq, hw, hk, G82x0_eq hN (hn _ hmem), Option.isSome_some, getD_some, wayE_cons, t2]
  unfold tagE
  rw [t1]
  cases nameB (xs.getD w.toNat (.i 0)).toS <;> cases tagO xs w <;> rfl
theorem G16x0x72_eq (hN : maxLen < N) (hl : xs.length ≤ maxLen) (hn : ∀ x ∈ xs, x.toS.length ≤ maxLen) : G16x0x72 N xs xs.length xs 0 = some (wayE (firstE (tagE xs) 0 xs)) := by
 unfold G16x0x72
 refine (for_ind (.i 0 : D) (S := fun w kr => S16x0x72 N xs xs.length xs w kr _ _) (L := fun m w => L16x0x72 N xs xs.length xs m w _ _) (fun m w => rfl) (fun w l => some (wayE (firstE (tagE xs) w l))) hl ?_ ?_ hN).trans rfl
 ·intro kr; simp [S16x0x72, firstE, wayE]
 ·intro w kr h0 h1 hw hi hk
  have hmem : xs.getD w.toNat (.i 0) ∈ xs := by rw [List.getD_eq_getElem?_getD, List.getElem?_eq_getElem (by omega)]; exact List.getElem_mem _
  obtain ⟨t1, t2⟩ := tag_in h0 h1 hl
  simp only [S16x0x72, decide_eq_true h1, _root_.cond_true, hi, bnd_eq, hw, hk, G46x0_eq hN (hn _ hmem), Option.isSome_some, getD_some, wayE_cons, t2]
  unfold tagE
  rw [t1]
  cases nameB (xs.getD w.toNat (.i 0)).toS <;> cases tagO xs w <;> rfl
end
/-! ### Check -/
/-- What Check says of an activity. -/
def chkA (name : List UInt8) (sport start : Int) (smps laps tags : List D) : Int :=
 bif !nameB name then 8 else bif !inI sport 1 5 then 7 else bif !inI start 0 86399999999 then 9 else
 bif decide ((smps.length : Int) > 20000) || decide ((laps.length : Int) > 200) || decide ((tags.length : Int) > 20) then 3 else
 bif firstE (smpE start smps) 0 smps != 0 then firstE (smpE start smps) 0 smps else
 bif firstE (lapE (spanD smps) laps) 0 laps != 0 then firstE (lapE (spanD smps) laps) 0 laps else firstE (tagE tags) 0 tags
/-- An activity's lengths are possible. -/
structure ActOk (name : List UInt8) (smps laps tags : List D) : Prop where
 n : name.length ≤ maxLen
 s : smps.length ≤ maxLen
 l : laps.length ≤ maxLen
 t : tags.length ≤ maxLen
 ln : ∀ x ∈ laps, (x.cell 2).toS.length ≤ maxLen
 tn : ∀ x ∈ tags, x.toS.length ≤ maxLen
theorem way_do {α : Type} (n : Int) (k0 : Int → α) (k1 : α) (z : α) : (bif inlB (some (wayE n)) then k0 (inlV (some (wayE n))) else bif (inrQ (some (wayE n))).isSome then k1 else z) = bif n != 0 then k0 n else k1 := by
 unfold wayE
 cases n != 0 <;> rfl
section
variable {name : List UInt8} {sport start : Int} {smps laps tags : List D}
theorem G65x0_eq (hN : maxLen < N) (h : ActOk name smps laps tags) : G65x0 N name sport start smps laps tags = some (chkA name sport start smps laps tags) := by
 unfold G65x0 F65x0
 simp only [bnd_eq, G82x0_eq hN h.n, Option.isSome_some, _root_.cond_true, getD_some, V85x0_eq, G65x0x30_eq hN start h.s, G87x0_eq h.s, G65x0x60_eq hN _ h.l h.ln, G65x0x90_eq hN h.t h.tn, way_do]
 unfold chkA
 cases nameB name <;> cases inI sport 1 5 <;> cases inI start 0 86399999999 <;> cases decide ((smps.length : Int) > 20000) <;> cases decide ((laps.length : Int) > 200) <;> cases decide ((tags.length : Int) > 20) <;> try rfl
 cases firstE (smpE start smps) 0 smps != 0 <;> cases firstE (lapE (spanD smps) laps) 0 laps != 0 <;> cases h3 : firstE (tagE tags) 0 tags != 0 <;> first | rfl | (simp only [bne_eq_false_iff_eq] at h3; simp [h3])
theorem G16x0_eq (hN : maxLen < N) (h : ActOk name smps laps tags) : G16x0 N name sport start smps laps tags = some (chkA name sport start smps laps tags) := by
 unfold G16x0 F16x0
 simp only [bnd_eq, G46x0_eq hN h.n, Option.isSome_some, _root_.cond_true, getD_some, V47x0_eq, G16x0x30_eq hN start h.s, G16x0x51_eq hN h.l h.s h.ln, G16x0x72_eq hN h.t h.tn, way_do]
 unfold chkA
 cases nameB name <;> cases inI sport 1 5 <;> cases inI start 0 86399999999 <;> cases decide ((smps.length : Int) > 20000) <;> cases decide ((laps.length : Int) > 200) <;> cases decide ((tags.length : Int) > 20) <;> try rfl
 cases firstE (smpE start smps) 0 smps != 0 <;> cases firstE (lapE (spanD smps) laps) 0 laps != 0 <;> cases h3 : firstE (tagE tags) 0 tags != 0 <;> first | rfl | (simp only [bne_eq_false_iff_eq] at h3; simp [h3])
end
end Go.Proofs.Ytngnemeafkmaoaa

/-! Plain laws: record.Same and its reference. -/
namespace Go.Proofs.Ytngnemeafkmaoaa
open Go Go.AM
set_option maxRecDepth 100000
set_option maxHeartbeats 4000000
variable {N : Nat}
section
variable {xs ys : List D}
end
section
variable {n n' : List UInt8} {sp st sp' st' : Int} {s l t s' l' t' : List D}
end
end Go.Proofs.Ytngnemeafkmaoaa

/-! Plain laws of chapter 10: rules, veils. -/
namespace Go.Proofs.Ytngnemeafkmaoaa
open Go Go.AM
set_option maxRecDepth 100000
set_option maxHeartbeats 4000000
variable {N : Nat}
theorem V64x0_eq (n a b : Int) : V64x0 N n a b = inI n a b := by
 unfold V64x0 F64x0 inI
 rw [Bool.eq_iff_iff]; simp
theorem V73x0_eq (n a b : Int) : V73x0 N n a b = !inI n a b := by
 unfold V73x0 F73x0 inI
 rw [Bool.eq_iff_iff]; simp <;> omega
/-- What is asked of the fields that a kind does not use. -/
def zeroB (kd x y r hf ht n : Int) (s : List UInt8) : Bool :=
 (kd == 1 || (x == 0 && y == 0 && r == 0)) && (kd == 2 || (hf == 0 && ht == 0)) && (kd == 3 || kd == 5 || kd == 8 || n == 0) && (kd == 4 || s == [])
/-- The fault of what a kind uses. -/
def kindE (kd x y r hf ht n : Int) (s : List UInt8) : Int :=
 bif kd == 1 then (bif inI x (-100000000) 100000000 && inI y (-100000000) 100000000 && inI r 0 1000000 then 0 else 9)
 else bif kd == 2 then (bif decide (hf < 0) || decide (hf > ht) || decide (ht ≥ 86400) then 9 else 0)
 else bif kd == 3 then (bif inI n 1 4 then 0 else 9)
 else bif kd == 8 then (bif inI n 1 1000000 then 0 else 9)
 else bif kd == 5 then (bif inI n 1 5 then 0 else 7)
 else bif kd == 4 then (bif nameB s then 0 else 8) else 0
def ruleE (fr kd x y r hf ht n : Int) (s : List UInt8) : Int :=
 bif !inI kd 1 8 then 7 else bif !inI fr 1 3 then 9 else bif kindE kd x y r hf ht n s != 0 then kindE kd x y r hf ht n s else bif zeroB kd x y r hf ht n s then 0 else 2
theorem kd_cases {kd : Int} (h : inI kd 1 8 = true) : kd = 1 ∨ kd = 2 ∨ kd = 3 ∨ kd = 4 ∨ kd = 5 ∨ kd = 6 ∨ kd = 7 ∨ kd = 8 := by
 have := of_decide_eq_true h
 omega
section
variable {fr kd x y r hf ht n : Int} {s : List UInt8}
theorem G58x0_eq (hN : maxLen < N) (hs : s.length ≤ maxLen) : G58x0 N fr kd x y r hf ht n s = some (ruleE fr kd x y r hf ht n s) := by
 unfold G58x0 F58x0
 simp only [bnd_eq, V64x0_eq]
 unfold ruleE
 cases hk : inI kd 1 8 with
 | false => rfl
 | true =>
 cases hfr : inI fr 1 3 with
 | false => rfl
 | true =>
 unfold kindE zeroB
 rcases kd_cases hk with rfl | rfl | rfl | rfl | rfl | rfl | rfl | rfl
 ·unfold G58x0x36029 F58x0x36029 V58x0x28 F58x0x28
  simp only [bnd_eq, V64x0_eq, beq_self_eq_true, Int.reduceBEq, _root_.cond_true, _root_.cond_false]
  cases inI x (-100000000) 100000000 <;> cases inI y (-100000000) 100000000 <;> cases inI r 0 1000000 <;> (try rfl) <;> simp only [inlB_inl, inlB_inr, inlV_inl, inrQ_inr, Option.isSome_some, getD_some, _root_.cond_true, _root_.cond_false, Bool.not_true, Bool.not_false] <;> cases hf == 0 <;> cases ht == 0 <;> cases n == 0 <;> cases s == [] <;> rfl
 ·unfold G58x0x36029 F58x0x36029 G58x0x48041 F58x0x48041
  simp only [bnd_eq, beq_self_eq_true, Int.reduceBEq, _root_.cond_true, _root_.cond_false]
  cases decide (hf < 0) <;> cases decide (hf > ht) <;> cases decide (ht ≥ 86400) <;> (try rfl) <;> simp only [inlB_inl, inlB_inr, inlV_inl, inrQ_inr, Option.isSome_some, getD_some, _root_.cond_true, _root_.cond_false, Bool.not_true, Bool.not_false] <;> cases x == 0 <;> cases y == 0 <;> cases r == 0 <;> cases n == 0 <;> cases s == [] <;> rfl
 ·unfold G58x0x36029 F58x0x36029 G58x0x48041 F58x0x48041 G58x0x60053 F58x0x60053
  simp only [bnd_eq, V64x0_eq, beq_self_eq_true, Int.reduceBEq, _root_.cond_true, _root_.cond_false]
  cases inI n 1 4 <;> (try rfl) <;> simp only [inlB_inl, inlB_inr, inlV_inl, inrQ_inr, Option.isSome_some, getD_some, _root_.cond_true, _root_.cond_false, Bool.not_true, Bool.not_false] <;> cases hf == 0 <;> cases ht == 0 <;> cases x == 0 <;> cases y == 0 <;> cases r == 0 <;> cases s == [] <;> rfl
 ·unfold G58x0x36029 F58x0x36029 G58x0x48041 F58x0x48041 G58x0x60053 F58x0x60053 G58x0x72065 F58x0x72065 G58x0x84077 F58x0x84077 G58x0x89 F58x0x89
  simp only [bnd_eq, V64x0_eq, G82x0_eq hN hs, beq_self_eq_true, Int.reduceBEq, _root_.cond_true, _root_.cond_false]
  cases nameB s <;> (try rfl) <;> simp only [inlB_inl, inlB_inr, inlV_inl, inrQ_inr, Option.isSome_some, getD_some, _root_.cond_true, _root_.cond_false, Bool.not_true, Bool.not_false] <;> cases hf == 0 <;> cases ht == 0 <;> cases x == 0 <;> cases y == 0 <;> cases r == 0 <;> cases n == 0 <;> rfl
 ·unfold G58x0x36029 F58x0x36029 G58x0x48041 F58x0x48041 G58x0x60053 F58x0x60053 G58x0x72065 F58x0x72065 G58x0x84077 F58x0x84077
  simp only [bnd_eq, V64x0_eq, beq_self_eq_true, Int.reduceBEq, _root_.cond_true, _root_.cond_false]
  cases inI n 1 5 <;> (try rfl) <;> simp only [inlB_inl, inlB_inr, inlV_inl, inrQ_inr, Option.isSome_some, getD_some, _root_.cond_true, _root_.cond_false, Bool.not_true, Bool.not_false] <;> cases hf == 0 <;> cases ht == 0 <;> cases x == 0 <;> cases y == 0 <;> cases r == 0 <;> cases s == [] <;> rfl
 ·unfold G58x0x36029 F58x0x36029 G58x0x48041 F58x0x48041 G58x0x60053 F58x0x60053 G58x0x72065 F58x0x72065 G58x0x84077 F58x0x84077 G58x0x89 F58x0x89
  simp only [bnd_eq, V64x0_eq, beq_self_eq_true, Int.reduceBEq, _root_.cond_true, _root_.cond_false]
  simp only [inlB_inl, inlB_inr, inlV_inl, inrQ_inr, Option.isSome_some, getD_some, _root_.cond_true, _root_.cond_false, Bool.not_true, Bool.not_false]
  cases hf == 0 <;> cases ht == 0 <;> cases x == 0 <;> cases y == 0 <;> cases r == 0 <;> cases n == 0 <;> cases s == [] <;> rfl
 ·unfold G58x0x36029 F58x0x36029 G58x0x48041 F58x0x48041 G58x0x60053 F58x0x60053 G58x0x72065 F58x0x72065 G58x0x84077 F58x0x84077 G58x0x89 F58x0x89
  simp only [bnd_eq, V64x0_eq, beq_self_eq_true, Int.reduceBEq, _root_.cond_true, _root_.cond_false]
  simp only [inlB_inl, inlB_inr, inlV_inl, inrQ_inr, Option.isSome_some, getD_some, _root_.cond_true, _root_.cond_false, Bool.not_true, Bool.not_false]
  cases hf == 0 <;> cases ht == 0 <;> cases x == 0 <;> cases y == 0 <;> cases r == 0 <;> cases n == 0 <;> cases s == [] <;> rfl
 ·unfold G58x0x36029 F58x0x36029 G58x0x48041 F58x0x48041 G58x0x60053 F58x0x60053 G58x0x72065 F58x0x72065
  simp only [bnd_eq, V64x0_eq, beq_self_eq_true, Int.reduceBEq, _root_.cond_true, _root_.cond_false]
  cases inI n 1 1000000 <;> (try rfl) <;> simp only [inlB_inl, inlB_inr, inlV_inl, inrQ_inr, Option.isSome_some, getD_some, _root_.cond_true, _root_.cond_false, Bool.not_true, Bool.not_false] <;> cases hf == 0 <;> cases ht == 0 <;> cases x == 0 <;> cases y == 0 <;> cases r == 0 <;> cases s == [] <;> rfl
theorem beq_c (a b : Int) : (a == b) = (b == a) := by rw [Bool.eq_iff_iff]; simp; exact eq_comm
theorem beq_cs (a b : List UInt8) : (a == b) = (b == a) := by rw [Bool.eq_iff_iff]; simp; exact eq_comm
theorem G59x0_eq (hN : maxLen < N) (hs : s.length ≤ maxLen) : G59x0 N fr kd x y r hf ht n s = some (ruleE fr kd x y r hf ht n s) := by
 unfold G59x0 F59x0
 simp only [bnd_eq, V73x0_eq]
 unfold ruleE
 cases hk : inI kd 1 8 with
 | false => rfl
 | true =>
 cases hfr : inI fr 1 3 with
 | false => rfl
 | true =>
 unfold kindE zeroB V59x0x27026 F59x0x27026 V83x0 F83x0 V83x0x15014 F83x0x15014 V59x0x52 F59x0x52 G59x0x58 F59x0x58
 rcases kd_cases hk with rfl | rfl | rfl | rfl | rfl | rfl | rfl | rfl
 ·unfold V59x0x25 F59x0x25
  simp only [bnd_eq, V73x0_eq, beq_self_eq_true, Int.reduceBEq, _root_.cond_true, _root_.cond_false, beq_c 0, beq_cs []]
  cases inI x (-100000000) 100000000 <;> cases inI y (-100000000) 100000000 <;> cases inI r 0 1000000 <;> (try rfl) <;> simp only [inlB_inl, inlB_inr, inlV_inl, inrQ_inr, Option.isSome_some, getD_some, _root_.cond_true, _root_.cond_false, Bool.not_true, Bool.not_false] <;> cases hf == 0 <;> cases ht == 0 <;> cases n == 0 <;> cases s == [] <;> rfl
 ·unfold V59x0x33032 F59x0x33032 V83x0x21020 F83x0x21020
  simp only [bnd_eq, beq_self_eq_true, Int.reduceBEq, _root_.cond_true, _root_.cond_false, beq_c 0, beq_cs []]
  cases decide (hf < 0) <;> cases decide (hf > ht) <;> cases decide (ht ≥ 86400) <;> (try rfl) <;> simp only [inlB_inl, inlB_inr, inlV_inl, inrQ_inr, Option.isSome_some, getD_some, _root_.cond_true, _root_.cond_false, Bool.not_true, Bool.not_false] <;> cases x == 0 <;> cases y == 0 <;> cases r == 0 <;> cases n == 0 <;> cases s == [] <;> rfl
 ·unfold V59x0x33032 F59x0x33032 V59x0x39038 F59x0x39038 V83x0x21020 F83x0x21020 V83x0x24002 F83x0x24002 V83x0x33032 F83x0x33032
  simp only [bnd_eq, V73x0_eq, beq_self_eq_true, Int.reduceBEq, _root_.cond_true, _root_.cond_false, beq_c 0, beq_cs []]
  cases inI n 1 4 <;> (try rfl) <;> simp only [inlB_inl, inlB_inr, inlV_inl, inrQ_inr, Option.isSome_some, getD_some, _root_.cond_true, _root_.cond_false, Bool.not_true, Bool.not_false] <;> cases hf == 0 <;> cases ht == 0 <;> cases x == 0 <;> cases y == 0 <;> cases r == 0 <;> cases s == [] <;> rfl
 ·unfold V59x0x33032 F59x0x33032 V59x0x39038 F59x0x39038 V59x0x44 F59x0x44 V83x0x21020 F83x0x21020 V83x0x24002 F83x0x24002 V83x0x33032 F83x0x33032 V83x0x27002 F83x0x27002 V83x0x38 F83x0x38
  simp only [bnd_eq, V73x0_eq, beq_self_eq_true, Int.reduceBEq, _root_.cond_true, _root_.cond_false, beq_c 0, beq_cs [], G46x0_eq hN hs]
  cases nameB s <;> (try rfl) <;> simp only [inlB_inl, inlB_inr, inlV_inl, inrQ_inr, Option.isSome_some, getD_some, _root_.cond_true, _root_.cond_false, Bool.not_true, Bool.not_false] <;> cases hf == 0 <;> cases ht == 0 <;> cases x == 0 <;> cases y == 0 <;> cases r == 0 <;> cases n == 0 <;> rfl
 ·unfold V59x0x33032 F59x0x33032 V59x0x39038 F59x0x39038 V59x0x44 F59x0x44 V83x0x21020 F83x0x21020 V83x0x24002 F83x0x24002 V83x0x33032 F83x0x33032 V83x0x27002 F83x0x27002
  simp only [bnd_eq, V73x0_eq, beq_self_eq_true, Int.reduceBEq, _root_.cond_true, _root_.cond_false, beq_c 0, beq_cs []]
  cases inI n 1 5 <;> (try rfl) <;> simp only [inlB_inl, inlB_inr, inlV_inl, inrQ_inr, Option.isSome_some, getD_some, _root_.cond_true, _root_.cond_false, Bool.not_true, Bool.not_false] <;> cases hf == 0 <;> cases ht == 0 <;> cases x == 0 <;> cases y == 0 <;> cases r == 0 <;> cases s == [] <;> rfl
 ·unfold V59x0x33032 F59x0x33032 V59x0x39038 F59x0x39038 V59x0x44 F59x0x44 V83x0x21020 F83x0x21020 V83x0x24002 F83x0x24002 V83x0x33032 F83x0x33032 V83x0x27002 F83x0x27002 V83x0x38 F83x0x38
  simp only [bnd_eq, beq_self_eq_true, Int.reduceBEq, _root_.cond_true, _root_.cond_false, beq_c 0, beq_cs []]
  simp only [inlB_inl, inlB_inr, inlV_inl, inrQ_inr, Option.isSome_some, getD_some, _root_.cond_true, _root_.cond_false, Bool.not_true, Bool.not_false]
  cases hf == 0 <;> cases ht == 0 <;> cases x == 0 <;> cases y == 0 <;> cases r == 0 <;> cases n == 0 <;> cases s == [] <;> rfl
 ·unfold V59x0x33032 F59x0x33032 V59x0x39038 F59x0x39038 V59x0x44 F59x0x44 V83x0x21020 F83x0x21020 V83x0x24002 F83x0x24002 V83x0x33032 F83x0x33032 V83x0x27002 F83x0x27002 V83x0x38 F83x0x38
  simp only [bnd_eq, beq_self_eq_true, Int.reduceBEq, _root_.cond_true, _root_.cond_false, beq_c 0, beq_cs []]
  simp only [inlB_inl, inlB_inr, inlV_inl, inrQ_inr, Option.isSome_some, getD_some, _root_.cond_true, _root_.cond_false, Bool.not_true, Bool.not_false]
  cases hf == 0 <;> cases ht == 0 <;> cases x == 0 <;> cases y == 0 <;> cases r == 0 <;> cases n == 0 <;> cases s == [] <;> rfl
 ·unfold V59x0x33032 F59x0x33032 V59x0x39038 F59x0x39038 V59x0x44 F59x0x44 V83x0x21020 F83x0x21020 V83x0x24002 F83x0x24002 V83x0x33032 F83x0x33032 V83x0x27002 F83x0x27002
  simp only [bnd_eq, V73x0_eq, beq_self_eq_true, Int.reduceBEq, _root_.cond_true, _root_.cond_false, beq_c 0, beq_cs []]
  cases inI n 1 1000000 <;> (try rfl) <;> simp only [inlB_inl, inlB_inr, inlV_inl, inrQ_inr, Option.isSome_some, getD_some, _root_.cond_true, _root_.cond_false, Bool.not_true, Bool.not_false] <;> cases hf == 0 <;> cases ht == 0 <;> cases x == 0 <;> cases y == 0 <;> cases r == 0 <;> cases s == [] <;> rfl
end
theorem told_ok : G12x0 18446744073709551616 = some true := by kernel_rfl
end Go.Proofs.Ytngnemeafkmaoaa

/-! Plain laws of chapter 10: Check, covers, Idle, Tidy. -/
namespace Go.Proofs.Ytngnemeafkmaoaa
open Go Go.AM
set_option maxRecDepth 100000
set_option maxHeartbeats 4000000
variable {N : Nat}
/-- A loop over a list's places that carries something along. -/
theorem fold_ind {α A X : Type} {xs : List α} (d : α) {S : Int → A → (Int → A → X) → X} {L : Nat → Int → A → X} (hL : ∀ m w a, L (m + 1) w a = S w a (L m)) (spec : Int → List α → A → X) (Inv : Int → A → Prop) (hlen : xs.length ≤ maxLen)
  (hend : ∀ a kr, Inv xs.length a → S xs.length a kr = spec xs.length [] a)
  (hstep : ∀ (w : Int) (a : A) (kr : Int → A → X), 0 ≤ w → w < xs.length → IntKind.wrap .i64 (w + 1) = w + 1 → inB w xs.length = true → Inv w a → (∀ a', Inv (w + 1) a' → kr (w + 1) a' = spec (w + 1) (xs.drop (w + 1).toNat) a') → S w a kr = spec w (xs.getD w.toNat d :: xs.drop (w + 1).toNat) a)
  (hN : maxLen < N) {a : A} (h0 : Inv 0 a) : L N 0 a = spec 0 xs a := by
 have hm : maxLen = 9223372036854775807 := rfl
 have := loop_ind (A := Int × A) (X := X) (S := fun p kr => S p.1 p.2 (fun w a => kr (w, a))) (L := fun m p => L m p.1 p.2) (fun m p => hL m p.1 p.2) (fun p => spec p.1 (xs.drop p.1.toNat) p.2) (fun p => 0 ≤ p.1 ∧ p.1 ≤ xs.length ∧ Inv p.1 p.2) (fun p => (xs.length - p.1).toNat) (fun ⟨w, a⟩ kr ⟨h0, h1, hi⟩ ih => by
  simp only at h0 h1 hi ih ⊢
  by_cases hw : w < xs.length
  ·rw [drop_at d h0 hw]
   exact hstep w a _ h0 hw (wrapI (by omega) (by omega)) (inB_of h0 hw) hi fun a' ha' => ih (w + 1, a') ⟨by simp only; omega, by simp only; omega, ha'⟩ (by simp only; omega)
  ·have : w = xs.length := by omega
   subst this
   rw [drop_end (by omega)]
   exact hend a _ hi) N (0, a) ⟨Int.le_refl _, by simp only; omega, h0⟩ (by simp only; omega)
 simpa using this
/-! ### Rules -/
abbrev rFrom (x : D) : Int := (x.cell 0).toI
abbrev rKind (x : D) : Int := (x.cell 1).toI
abbrev rX (x : D) : Int := (x.cell 2).toI
abbrev rY (x : D) : Int := (x.cell 3).toI
abbrev rR (x : D) : Int := (x.cell 4).toI
abbrev rHf (x : D) : Int := (x.cell 5).toI
abbrev rHt (x : D) : Int := (x.cell 6).toI
abbrev rN (x : D) : Int := (x.cell 7).toI
abbrev rT (x : D) : List UInt8 := (x.cell 8).toS
def ruleD (x : D) : Int := ruleE (rFrom x) (rKind x) (rX x) (rY x) (rR x) (rHf x) (rHt x) (rN x) (rT x)
def chkV (xs : List D) : Int := bif decide ((xs.length : Int) > 50) then 3 else firstE (fun w => ruleD (xs.getD w.toNat (.i 0))) 0 xs
structure VeilOk (xs : List D) : Prop where
 l : xs.length ≤ maxLen
 t : ∀ x ∈ xs, (rT x).length ≤ maxLen
theorem getD_mem {xs : List D} {w : Int} (h0 : 0 ≤ w) (h1 : w < xs.length) : xs.getD w.toNat (.i 0) ∈ xs := by
 rw [List.getD_eq_getElem?_getD, List.getElem?_eq_getElem (by omega)]; exact List.getElem_mem _
section
variable {xs : List D}
theorem G32x0x12_eq (hN : maxLen < N) (h : VeilOk xs) : G32x0x12 N xs xs.length 0 = some (wayE (firstE (fun w => ruleD (xs.getD w.toNat (.i 0))) 0 xs)) := by
 unfold G32x0x12
 refine (for_ind (.i 0 : D) (S := fun w kr => S32x0x12 N xs xs.length w kr _ _) (L := fun m w => L32x0x12 N xs xs.length m w _ _) (fun m w => rfl) (fun w l => some (wayE (firstE (fun w => ruleD (xs.getD w.toNat (.i 0))) w l))) h.l ?_ ?_ hN).trans rfl
 ·intro kr; simp [S32x0x12, firstE, wayE]
 ·intro w kr h0 h1 hw hi hk
  simp only [S32x0x12, decide_eq_true h1, _root_.cond_true, hi, bnd_eq, hw, hk, G58x0_eq hN (h.t _ (getD_mem h0 h1)), Option.isSome_some, getD_some, wayE_cons]
  unfold ruleD
  generalize ruleE _ _ _ _ _ _ _ _ _ = e
  cases e != 0 <;> rfl
theorem G33x0x12_eq (hN : maxLen < N) (h : VeilOk xs) : G33x0x12 N xs xs.length 0 = some (wayE (firstE (fun w => ruleD (xs.getD w.toNat (.i 0))) 0 xs)) := by
 unfold G33x0x12
 refine (for_ind (.i 0 : D) (S := fun w kr => S33x0x12 N xs xs.length w kr _ _) (L := fun m w => L33x0x12 N xs xs.length m w _ _) (fun m w => rfl) (fun w l => some (wayE (firstE (fun w => ruleD (xs.getD w.toNat (.i 0))) w l))) h.l ?_ ?_ hN).trans rfl
 ·intro kr; simp [S33x0x12, firstE, wayE]
 ·intro w kr h0 h1 hw hi hk
  simp only [S33x0x12, decide_eq_true h1, _root_.cond_true, hi, bnd_eq, hw, hk, G59x0_eq hN (h.t _ (getD_mem h0 h1)), Option.isSome_some, getD_some, wayE_cons]
  unfold ruleD
  generalize ruleE _ _ _ _ _ _ _ _ _ = e
  cases e != 0 <;> rfl
theorem way_chk (b : Bool) (e : Int) : (bif b then some (3 : Int) else bif inlB (some (wayE e)) then some (inlV (some (wayE e))) else bif (inrQ (some (wayE e))).isSome then some 0 else none) = some (bif b then 3 else e) := by
 unfold wayE
 cases b with
 | true => rfl
 | false =>
  cases h : e != 0 with
  | true => rfl
  | false => simp only [bne_eq_false_iff_eq] at h; subst h; rfl
theorem G32x0_eq (hN : maxLen < N) (h : VeilOk xs) : G32x0 N xs = some (chkV xs) := by
 unfold G32x0 F32x0 chkV
 simp only [bnd_eq, G32x0x12_eq hN h]
 exact way_chk _ _
theorem G33x0_eq (hN : maxLen < N) (h : VeilOk xs) : G33x0 N xs = some (chkV xs) := by
 unfold G33x0 F33x0 chkV
 simp only [bnd_eq, G33x0x12_eq hN h]
 exact way_chk _ _
theorem firstE_zero {e : Int → Int} : ∀ {l : List D} {w : Int}, firstE e w l = 0 → ∀ i : Nat, i < l.length → e (w + i) = 0
 | [], _, _, i, hi => by simp at hi
 | _ :: r, w, h, i, hi => by
  simp only [firstE] at h
  cases he : e w != 0 with
  | true => rw [he] at h; simp only [_root_.cond_true] at h; rw [h] at he; cases he
  | false =>
   rw [he] at h
   simp only [_root_.cond_false] at h
   simp only [bne_eq_false_iff_eq] at he
   cases i with
   | zero => simpa using he
   | succ i =>
    have := firstE_zero h i (by simpa using hi)
    rw [show w + ((i + 1 : Nat) : Int) = w + 1 + (i : Int) by omega]
    exact this
/-- A right veil. -/
structure VeilRight (xs : List D) : Prop where
 l : xs.length ≤ 50
 r : ∀ w : Int, 0 ≤ w → w < xs.length → ruleD (xs.getD w.toNat (.i 0)) = 0
theorem right_of (h : chkV xs = 0) : VeilRight xs := by
 unfold chkV at h
 by_cases hl : (xs.length : Int) > 50
 ·rw [decide_eq_true hl] at h; cases h
 ·rw [decide_eq_false hl] at h
  simp only [_root_.cond_false] at h
  refine ⟨by omega, fun w h0 h1 => ?_⟩
  have := firstE_zero h w.toNat (by omega)
  rw [show (0 : Int) + (w.toNat : Int) = w by omega] at this
  exact this
theorem VeilRight.mem (h : VeilRight xs) {x : D} (hx : x ∈ xs) : ruleD x = 0 := by
 obtain ⟨i, hi, rfl⟩ := List.getElem_of_mem hx
 have := h.r i (by omega) (by omega)
 rw [List.getD_eq_getElem?_getD] at this
 simpa [List.getElem?_eq_getElem hi] using this
end
/-- What holds of a right rule. -/
theorem rule_facts {fr kd x y r hf ht n : Int} {s : List UInt8} (h : ruleE fr kd x y r hf ht n s = 0) : inI kd 1 8 = true ∧ inI fr 1 3 = true ∧ kindE kd x y r hf ht n s = 0 ∧ zeroB kd x y r hf ht n s = true := by
 unfold ruleE at h
 cases h1 : inI kd 1 8 with
 | false => rw [h1] at h; cases h
 | true =>
 cases h2 : inI fr 1 3 with
 | false => rw [h1, h2] at h; cases h
 | true =>
 rw [h1, h2] at h
 cases h3 : kindE kd x y r hf ht n s != 0 with
 | true => rw [h3] at h; simp only [Bool.not_true, _root_.cond_false, _root_.cond_true] at h; rw [h] at h3; cases h3
 | false =>
  rw [h3] at h
  cases h4 : zeroB kd x y r hf ht n s with
  | false => rw [h4] at h; cases h
  | true => exact ⟨rfl, rfl, by simpa using h3, rfl⟩
def wayU (b : Bool) : Sum Unit Unit := bif b then .inl () else .inr ()
section
variable {xs : List D} {k : Int}
theorem room50 {n sz : Nat} (hn : n ≤ 50) (hs : sz ≤ 1000) : (decide ((n + 1) * sz ≤ room) && decide ((n + 1) ≤ strMax)) = true := by
 have h1 : (n + 1) * sz ≤ 51 * 1000 := Nat.mul_le_mul (by omega) hs
 have h2 : room = 140737488355328 := rfl
 have h3 : strMax = 9223372036854775807 := rfl
 rw [decide_eq_true (by omega), decide_eq_true (by omega)]; rfl
/-! ### Tidy -/
/-- A rule, its cells laid anew. -/
def reR (x : D) : D := .a [.i (rFrom x), .i (rKind x), .i (rX x), .i (rY x), .i (rR x), .i (rHf x), .i (rHt x), .i (rN x), .s (rT x)]
end
section
variable {xs ys : List D}
end
end Go.Proofs.Ytngnemeafkmaoaa

/-! A law's arguments in chapter 10. -/
namespace Go.Proofs.Ytngnemeafkmaoaa
open Go Go.AM
set_option maxRecDepth 100000
set_option maxHeartbeats 4000000
def RuleT (x : D) : Prop := ∃ a b c d e f g h s, x = .a [.i a, .i b, .i c, .i d, .i e, .i f, .i g, .i h, .s s] ∧ s.length ≤ maxLen
def SmpT (x : D) : Prop := ∃ a b c d e f g, x = .a [.i a, .i b, .i c, .i d, .i e, .i f, .i g]
def LapT (x : D) : Prop := ∃ a b s, x = .a [.i a, .i b, .s s] ∧ s.length ≤ maxLen
def TagT (x : D) : Prop := ∃ s, x = .s s ∧ s.length ≤ maxLen
theorem kinds24 : kinds Try.prog 24 = [.sl 70] := by kernel_rfl
theorem kinds70 : kinds Try.prog 70 = [.int .i64, .int .i64, .int .i64, .int .i64, .int .i64, .int .i64, .int .i64, .int .i64, .str] := by kernel_rfl
theorem kinds29 : kinds Try.prog 29 = [.str, .int .i64, .int .i64, .sl 48, .sl 111, .sl 9] := by kernel_rfl
theorem kinds48 : kinds Try.prog 48 = [.int .i64, .int .i64, .int .i64, .int .i64, .int .i64, .int .i64, .int .i64] := by kernel_rfl
theorem kinds111 : kinds Try.prog 111 = [.int .i64, .int .i64, .str] := by kernel_rfl
theorem kinds9 : kinds Try.prog 9 = [.str] := by kernel_rfl
theorem kinds3 : kinds Try.prog 3 = [.int .i64] := by kernel_rfl
theorem rule_ok {m : Nat} {x : D} (h : TyEl Try.prog (TyK Try.prog (m + 1)) 70 x) : RuleT x := by
 unfold TyEl at h
 rw [if_pos (show isAggB Try.prog 70 = true by kernel_rfl), kinds70] at h
 obtain ⟨cs, rfl, hc⟩ := h
 obtain ⟨_, _, rfl, h0, hc⟩ := all2_cons hc
 obtain ⟨_, _, rfl, h1, hc⟩ := all2_cons hc
 obtain ⟨_, _, rfl, h2, hc⟩ := all2_cons hc
 obtain ⟨_, _, rfl, h3, hc⟩ := all2_cons hc
 obtain ⟨_, _, rfl, h4, hc⟩ := all2_cons hc
 obtain ⟨_, _, rfl, h5, hc⟩ := all2_cons hc
 obtain ⟨_, _, rfl, h6, hc⟩ := all2_cons hc
 obtain ⟨_, _, rfl, h7, hc⟩ := all2_cons hc
 obtain ⟨_, _, rfl, h8, hc⟩ := all2_cons hc
 obtain rfl := all2_nil hc
 obtain ⟨_, rfl, _⟩ := ty_int h0
 obtain ⟨_, rfl, _⟩ := ty_int h1
 obtain ⟨_, rfl, _⟩ := ty_int h2
 obtain ⟨_, rfl, _⟩ := ty_int h3
 obtain ⟨_, rfl, _⟩ := ty_int h4
 obtain ⟨_, rfl, _⟩ := ty_int h5
 obtain ⟨_, rfl, _⟩ := ty_int h6
 obtain ⟨_, rfl, _⟩ := ty_int h7
 obtain ⟨_, rfl, hl⟩ := ty_str h8
 exact ⟨_, _, _, _, _, _, _, _, _, rfl, hl⟩
theorem smp_ok {m : Nat} {x : D} (h : TyEl Try.prog (TyK Try.prog (m + 1)) 48 x) : SmpT x := by
 unfold TyEl at h
 rw [if_pos (show isAggB Try.prog 48 = true by kernel_rfl), kinds48] at h
 obtain ⟨cs, rfl, hc⟩ := h
 obtain ⟨_, _, rfl, h0, hc⟩ := all2_cons hc
 obtain ⟨_, _, rfl, h1, hc⟩ := all2_cons hc
 obtain ⟨_, _, rfl, h2, hc⟩ := all2_cons hc
 obtain ⟨_, _, rfl, h3, hc⟩ := all2_cons hc
 obtain ⟨_, _, rfl, h4, hc⟩ := all2_cons hc
 obtain ⟨_, _, rfl, h5, hc⟩ := all2_cons hc
 obtain ⟨_, _, rfl, h6, hc⟩ := all2_cons hc
 obtain rfl := all2_nil hc
 obtain ⟨_, rfl, _⟩ := ty_int h0
 obtain ⟨_, rfl, _⟩ := ty_int h1
 obtain ⟨_, rfl, _⟩ := ty_int h2
 obtain ⟨_, rfl, _⟩ := ty_int h3
 obtain ⟨_, rfl, _⟩ := ty_int h4
 obtain ⟨_, rfl, _⟩ := ty_int h5
 obtain ⟨_, rfl, _⟩ := ty_int h6
 exact ⟨_, _, _, _, _, _, _, rfl⟩
theorem lap_ok {m : Nat} {x : D} (h : TyEl Try.prog (TyK Try.prog (m + 1)) 111 x) : LapT x := by
 unfold TyEl at h
 rw [if_pos (show isAggB Try.prog 111 = true by kernel_rfl), kinds111] at h
 obtain ⟨cs, rfl, hc⟩ := h
 obtain ⟨_, _, rfl, h0, hc⟩ := all2_cons hc
 obtain ⟨_, _, rfl, h1, hc⟩ := all2_cons hc
 obtain ⟨_, _, rfl, h2, hc⟩ := all2_cons hc
 obtain rfl := all2_nil hc
 obtain ⟨_, rfl, _⟩ := ty_int h0
 obtain ⟨_, rfl, _⟩ := ty_int h1
 obtain ⟨_, rfl, hl⟩ := ty_str h2
 exact ⟨_, _, _, rfl, hl⟩
theorem tag_ok {m : Nat} {x : D} (h : TyEl Try.prog (TyK Try.prog (m + 1)) 9 x) : TagT x := by
 unfold TyEl at h
 have : isAggB Try.prog 9 = false := by kernel_rfl
 rw [if_neg (by rw [this]; simp), kinds9] at h
 obtain ⟨k, hk, h⟩ := h
 simp only [List.cons.injEq, and_true] at hk
 subst hk
 exact h
/-- A law's veil. -/
structure VeilT (xs : List D) : Prop where
 l : xs.length ≤ maxLen
 t : ∀ x ∈ xs, RuleT x
theorem VeilT.ok {xs : List D} (h : VeilT xs) : VeilOk xs := ⟨h.l, fun x hx => by obtain ⟨_, _, _, _, _, _, _, _, _, rfl, hl⟩ := h.t x hx; exact hl⟩
theorem arg24 {ds : List D} (h : ArgOk Try.prog 6 24 ds) : ∃ nl xs, ds = [.l nl xs] ∧ VeilT xs := by
 unfold ArgOk at h
 rw [kinds24] at h
 obtain ⟨_, _, rfl, h0, h⟩ := all2_cons h
 obtain rfl := all2_nil h
 obtain ⟨nl, xs, rfl, _, l1, e1⟩ := ty_sl (m := 5) h0
 exact ⟨nl, xs, rfl, l1, fun x hx => rule_ok (e1 x hx)⟩
theorem arg3 {ds : List D} (h : ArgOk Try.prog 6 3 ds) : ∃ n, ds = [.i n] ∧ (Lit.int .i64 n).wf = true := by
 unfold ArgOk at h
 rw [kinds3] at h
 obtain ⟨_, _, rfl, h0, h⟩ := all2_cons h
 obtain rfl := all2_nil h
 obtain ⟨n, rfl, hw⟩ := ty_int (m := 5) h0
 exact ⟨n, rfl, hw⟩
/-- A law's activity. -/
structure ActT (name : List UInt8) (sport start : Int) (smps laps tags : List D) : Prop where
 n : name.length ≤ maxLen
 s : smps.length ≤ maxLen
 l : laps.length ≤ maxLen
 t : tags.length ≤ maxLen
 st : ∀ x ∈ smps, SmpT x
 lt : ∀ x ∈ laps, LapT x
 tt : ∀ x ∈ tags, TagT x
theorem ActT.ok {n : List UInt8} {sp st : Int} {s l t : List D} (h : ActT n sp st s l t) : ActOk n s l t :=
 ⟨h.n, h.s, h.l, h.t, fun x hx => by obtain ⟨_, _, _, rfl, hl⟩ := h.lt x hx; exact hl, fun x hx => by obtain ⟨_, rfl, hl⟩ := h.tt x hx; exact hl⟩
theorem arg29 {ds : List D} (h : ArgOk Try.prog 6 29 ds) : ∃ name sport start a smps b laps c tags, ds = [.s name, .i sport, .i start, .l a smps, .l b laps, .l c tags] ∧ ActT name sport start smps laps tags ∧ (c = true → tags = []) := by
 unfold ArgOk at h
 rw [kinds29] at h
 obtain ⟨_, _, rfl, h0, h⟩ := all2_cons h
 obtain ⟨_, _, rfl, h1, h⟩ := all2_cons h
 obtain ⟨_, _, rfl, h2, h⟩ := all2_cons h
 obtain ⟨_, _, rfl, h3, h⟩ := all2_cons h
 obtain ⟨_, _, rfl, h4, h⟩ := all2_cons h
 obtain ⟨_, _, rfl, h5, h⟩ := all2_cons h
 obtain rfl := all2_nil h
 obtain ⟨name, rfl, hn⟩ := ty_str (m := 5) h0
 obtain ⟨sport, rfl, _⟩ := ty_int (m := 5) h1
 obtain ⟨start, rfl, _⟩ := ty_int (m := 5) h2
 obtain ⟨a, smps, rfl, _, l1, e1⟩ := ty_sl (m := 5) h3
 obtain ⟨b, laps, rfl, _, l2, e2⟩ := ty_sl (m := 5) h4
 obtain ⟨c, tags, rfl, hc, l3, e3⟩ := ty_sl (m := 5) h5
 exact ⟨name, sport, start, a, smps, b, laps, c, tags, rfl, ⟨hn, l1, l2, l3, fun x hx => smp_ok (e1 x hx), fun x hx => lap_ok (e2 x hx), fun x hx => tag_ok (e3 x hx)⟩, hc⟩
end Go.Proofs.Ytngnemeafkmaoaa

/-! Plain laws of chapter 10: Covers, Both. -/
namespace Go.Proofs.Ytngnemeafkmaoaa
open Go Go.AM
set_option maxRecDepth 100000
set_option maxHeartbeats 4000000
variable {N : Nat}
section
variable {xs : List D}
end
section
variable {a b : Bool} {v u : List D}
end
end Go.Proofs.Ytngnemeafkmaoaa

/-! Plain laws of chapter 10: what is hidden. -/
namespace Go.Proofs.Ytngnemeafkmaoaa
open Go Go.AM
set_option maxRecDepth 100000
set_option maxHeartbeats 4000000
variable {N : Nat}
/-! ### Rules that apply -/
def filtF (p : D → Bool) (f : D → D) : List D → Bool × List D → Bool × List D
 | [], a => a
 | x :: r, a => filtF p f r (bif p x then (false, a.2 ++ [f x]) else a)
theorem filtF_snd (p : D → Bool) (f : D → D) : ∀ (l : List D) (a : Bool × List D), (filtF p f l a).2 = a.2 ++ (l.filter p).map f
 | [], a => by simp [filtF]
 | x :: r, a => by
  simp only [filtF]
  rw [filtF_snd p f r]
  cases h : p x <;> simp [List.filter_cons, h]
def appP (lv : Int) (r : D) : Bool := decide (rFrom r ≤ lv)
def kndP (lv k : Int) (r : D) : Bool := bif decide (rFrom r ≤ lv) then rKind r == k else false
noncomputable def appl (xs : List D) (lv : Int) : List D := (xs.filter (appP lv)).map reR
noncomputable def forK (xs : List D) (lv k : Int) : List D := (xs.filter (kndP lv k)).map reR
theorem pair_of {a : Bool × List D} {l : List D} (h : a.2 = l) : a = (a.1, l) := by rw [← h]
section
variable {xs : List D} {lv : Int}
theorem lt50 (h : xs.length ≤ 50) : xs.length ≤ maxLen := by have hm : maxLen = 9223372036854775807 := rfl; omega
theorem G41x0_eq (hN : maxLen < N) (h : xs.length ≤ 50) : ∃ b, G41x0 N xs lv = some (b, appl xs lv) := by
 have e : G41x0x9 N lv xs xs.length 0 true [] = some (filtF (appP lv) reR xs (true, [])) := by
  unfold G41x0x9
  refine fold_ind (.i 0 : D) (A := Bool × List D) (S := fun w a kr => S41x0x9 N lv xs xs.length w a.1 a.2 (fun w b l => kr w (b, l)) _) (L := fun m w a => L41x0x9 N lv xs xs.length m w a.1 a.2 _) (fun m w a => rfl) (fun w l a => some (filtF (appP lv) reR l a)) (fun w a => (a.2.length : Int) ≤ w) (lt50 h) ?_ ?_ hN (a := (true, [])) (by simp)
  ·intro a kr _; simp [S41x0x9, filtF]
  ·intro w a kr h0 h1 hw hi ha hk
   simp only [S41x0x9, decide_eq_true h1, _root_.cond_true, hi, bnd_eq, hw, G41x0x20, F41x0x20, filtF]
   show _ = some (filtF _ _ _ (bif decide (rFrom (xs.getD w.toNat (.i 0)) ≤ lv) then _ else _))
   cases hb : decide (rFrom (xs.getD w.toNat (.i 0)) ≤ lv) with
   | true =>
    rw [room50 (by omega) (by omega)]
    exact hk (false, a.2 ++ [reR (xs.getD w.toNat (.i 0))]) (by simp; omega)
   | false => exact hk a (by omega)
 refine ⟨(filtF (appP lv) reR xs (true, [])).1, ?_⟩
 unfold G41x0 F41x0
 rw [e]
 have := filtF_snd (appP lv) reR xs (true, [])
 rw [List.nil_append] at this
 exact congrArg some (pair_of this)
theorem G91x0_eq (hN : maxLen < N) (h : xs.length ≤ 50) (k : Int) : ∃ b, G91x0 N xs lv k = some (b, forK xs lv k) := by
 have e : G91x0x9 N lv k xs xs.length 0 true [] = some (filtF (kndP lv k) reR xs (true, [])) := by
  unfold G91x0x9
  refine fold_ind (.i 0 : D) (A := Bool × List D) (S := fun w a kr => S91x0x9 N lv k xs xs.length w a.1 a.2 (fun w b l => kr w (b, l)) _) (L := fun m w a => L91x0x9 N lv k xs xs.length m w a.1 a.2 _) (fun m w a => rfl) (fun w l a => some (filtF (kndP lv k) reR l a)) (fun w a => (a.2.length : Int) ≤ w) (lt50 h) ?_ ?_ hN (a := (true, [])) (by simp)
  ·intro a kr _; simp [S91x0x9, filtF]
  ·intro w a kr h0 h1 hw hi ha hk
   simp only [S91x0x9, decide_eq_true h1, _root_.cond_true, hi, bnd_eq, hw, G91x0x20, F91x0x20, filtF]
   show _ = some (filtF _ _ _ (bif (bif decide (rFrom (xs.getD w.toNat (.i 0)) ≤ lv) then rKind (xs.getD w.toNat (.i 0)) == k else false) then _ else _))
   cases hb : (bif decide (rFrom (xs.getD w.toNat (.i 0)) ≤ lv) then rKind (xs.getD w.toNat (.i 0)) == k else false) with
   | true =>
    rw [room50 (by omega) (by omega)]
    exact hk (false, a.2 ++ [reR (xs.getD w.toNat (.i 0))]) (by simp; omega)
   | false => exact hk a (by omega)
 refine ⟨(filtF (kndP lv k) reR xs (true, [])).1, ?_⟩
 unfold G91x0 F91x0
 rw [e]
 have := filtF_snd (kndP lv k) reR xs (true, [])
 rw [List.nil_append] at this
 exact congrArg some (pair_of this)
theorem appl_len : (appl xs lv).length ≤ xs.length := by unfold appl; rw [List.length_map]; exact List.length_filter_le _ _
theorem forK_len {k : Int} : (forK xs lv k).length ≤ xs.length := by unfold forK; rw [List.length_map]; exact List.length_filter_le _ _
end
/-! ### Is there one? -/
def findI (P : D → Bool) : Int → List D → Int
 | _, [] => -1
 | w, x :: r => bif P x then w else findI P (w + 1) r
theorem findI_any (P : D → Bool) : ∀ (l : List D) (w : Int), 0 ≤ w → decide (findI P w l ≥ 0) = l.any P
 | [], w, _ => by simp [findI]
 | x :: r, w, h => by
  by_cases hp : P x = true
  ·simp [findI, hp, h]
  ·have hp := eq_false_of_ne_true hp
   have := findI_any P r (w + 1) (by omega)
   simp only [findI, List.any_cons, hp, _root_.cond_false, Bool.false_or]
   exact this
def wayI (P : D → Bool) (w : Int) (l : List D) : Sum Int Unit := bif l.any P then .inl (findI P w l) else .inr ()
theorem wayI_cons {P : D → Bool} {w : Int} {x : D} {l : List D} : wayI P w (x :: l) = bif P x then .inl w else wayI P (w + 1) l := by
 simp only [wayI, List.any_cons, findI]
 cases P x <;> rfl
theorem way_find (P : D → Bool) (l : List D) : (bif inlB (some (wayI P 0 l)) then some (inlV (some (wayI P 0 l))) else bif (inrQ (some (wayI P 0 l))).isSome then some (-1 : Int) else none) = some (findI P 0 l) := by
 unfold wayI
 have := findI_any P l 0 (by omega)
 cases h : l.any P with
 | true => rfl
 | false =>
  rw [h] at this
  have hn : findI P 0 l = -1 := by
   clear this
   have : ∀ (l : List D) (w : Int), l.any P = false → findI P w l = -1 := by
    intro l
    induction l with
    | nil => intro w _; rfl
    | cons x r ih =>
     intro w hx
     simp only [List.any_cons, Bool.or_eq_false_iff] at hx
     simp only [findI, hx.1, _root_.cond_false]
     exact ih _ hx.2
   exact this l 0 h
  rw [hn]; rfl
def wayA (P : D → Bool) (l : List D) : Sum Unit Unit := wayU (l.any P)
theorem wayA_cons {P : D → Bool} {x : D} {l : List D} : wayA P (x :: l) = bif P x then .inl () else wayA P l := by
 simp only [wayA, wayU, List.any_cons]
 cases P x <;> rfl
section
variable {xs : List D}
theorem G97x0_eq (hN : maxLen < N) (hl : xs.length ≤ maxLen) (s : List UInt8) : G97x0 N xs s = some (findI (fun t => s == t.toS) 0 xs) := by
 have e : G97x0x6 N xs s xs.length 0 = some (wayI (fun t => s == t.toS) 0 xs) := by
  unfold G97x0x6
  refine (for_ind (.i 0 : D) (S := fun w kr => S97x0x6 N xs s xs.length w kr _ _) (L := fun m w => L97x0x6 N xs s xs.length m w _ _) (fun m w => rfl) (fun w l => some (wayI (fun t => s == t.toS) w l)) hl ?_ ?_ hN).trans rfl
  ·intro kr; simp [S97x0x6, wayI]
  ·intro w kr h0 h1 hw hi hk
   simp only [S97x0x6, decide_eq_true h1, _root_.cond_true, hi, hw, hk, wayI_cons]
   cases s == (xs.getD w.toNat (.i 0)).toS <;> rfl
 unfold G97x0 F97x0
 rw [e]
 exact way_find _ _
theorem G89x0_eq (hN : maxLen < N) (hl : xs.length ≤ maxLen) (s : List UInt8) : G89x0 N xs s = some (xs.any fun t => s == t.toS) := by
 unfold G89x0 F89x0
 rw [G97x0_eq hN hl]
 simp only [bnd_eq, Option.isSome_some, getD_some, _root_.cond_true, findI_any _ _ 0 (by omega)]
/-! ### Hidden -/
/-- Does a rule hide an activity? -/
def wholeB (sport : Int) (tags : List D) (r : D) : Bool := bif rKind r == 5 then sport == rN r else bif rKind r == 4 then tags.any (fun t => rT r == t.toS) else false
theorem G71x0_eq (hN : maxLen < N) {tags : List D} (ht : tags.length ≤ maxLen) (sport : Int) (r : D) : G71x0 N (rKind r) (rN r) (rT r) sport tags = some (wholeB sport tags r) := by
 unfold G71x0 F71x0 G71x0x4 F71x0x4 wholeB G67x0 F67x0
 simp only [bnd_eq, G89x0_eq hN ht]
 cases rKind r == 5 with
 | true => rfl
 | false => cases rKind r == 4 <;> rfl
theorem G70x0_eq (hN : maxLen < N) (hl : xs.length ≤ maxLen) {tags : List D} (ht : tags.length ≤ maxLen) (sport : Int) : G70x0 N xs sport tags = some (xs.any (wholeB sport tags)) := by
 have e : G90x0x6 N xs xs.length sport tags 0 = some (wayI (wholeB sport tags) 0 xs) := by
  unfold G90x0x6
  refine (for_ind (.i 0 : D) (S := fun w kr => S90x0x6 N xs xs.length sport tags w kr _ _) (L := fun m w => L90x0x6 N xs xs.length sport tags m w _ _) (fun m w => rfl) (fun w l => some (wayI (wholeB sport tags) w l)) hl ?_ ?_ hN).trans rfl
  ·intro kr; simp [S90x0x6, wayI]
  ·intro w kr h0 h1 hw hi hk
   simp only [S90x0x6, decide_eq_true h1, _root_.cond_true, hi, hw, hk, bnd_eq, G71x0_eq hN ht, Option.isSome_some, getD_some, wayI_cons]
   cases wholeB sport tags (xs.getD w.toNat (.i 0)) <;> rfl
 unfold G70x0 F70x0 G90x0 F90x0
 rw [e]
 simp only [bnd_eq]
 rw [way_find]
 simp only [Option.isSome_some, getD_some, _root_.cond_true, findI_any _ _ 0 (by omega)]
def wr (n : Int) : Int := IntKind.wrap .i64 n
def placeB (r : D) (x y : Int) : Bool := decide (wr (wr (wr (x - rX r) * wr (x - rX r)) + wr (wr (y - rY r) * wr (y - rY r))) ≤ wr (rR r * rR r))
def hoursB (r : D) (sec : Int) : Bool := bif decide (rHf r ≤ sec) then decide (sec ≤ rHt r) else false
/-- Does a rule hide a sample? -/
def partB (sec x y : Int) (r : D) : Bool := bif rKind r == 1 then placeB r x y else bif rKind r == 2 then hoursB r sec else false
theorem G72x0_eq (r : D) (start t x y : Int) : G72x0 N (rKind r) (rX r) (rY r) (rR r) (rHf r) (rHt r) start t x y = some (partB ((wr (start + t)).tmod 86400) x y r) := by
 unfold G72x0 F72x0 G72x0x4 F72x0x4 partB
 cases rKind r == 1 with
 | true => rfl
 | false => cases rKind r == 2 <;> rfl
theorem G70x1_eq (hN : maxLen < N) (hl : xs.length ≤ maxLen) (start t x y : Int) : G70x1 N xs start t x y = some (xs.any (partB ((wr (start + t)).tmod 86400) x y)) := by
 have e : G90x1x6 N xs xs.length start t x y 0 = some (wayI (partB ((wr (start + t)).tmod 86400) x y) 0 xs) := by
  unfold G90x1x6
  refine (for_ind (.i 0 : D) (S := fun w kr => S90x1x6 N xs xs.length start t x y w kr _ _) (L := fun m w => L90x1x6 N xs xs.length start t x y m w _ _) (fun m w => rfl) (fun w l => some (wayI (partB ((wr (start + t)).tmod 86400) x y) w l)) hl ?_ ?_ hN).trans rfl
  ·intro kr; simp [S90x1x6, wayI]
  ·intro w kr h0 h1 hw hi hk
   simp only [S90x1x6, decide_eq_true h1, _root_.cond_true, hi, hw, hk, bnd_eq, G72x0_eq, Option.isSome_some, getD_some, wayI_cons]
   cases partB ((wr (start + t)).tmod 86400) x y (xs.getD w.toNat (.i 0)) <;> rfl
 unfold G70x1 F70x1 G90x1 F90x1
 rw [e]
 simp only [bnd_eq]
 rw [way_find]
 simp only [Option.isSome_some, getD_some, _root_.cond_true, findI_any _ _ 0 (by omega)]
end
/-- Is a sample hidden? -/
def hidS (rs : List D) (all : Bool) (start : Int) (s : D) : Bool := all || rs.any (partB ((wr (start + (s.cell 0).toI)).tmod 86400) (s.cell 1).toI (s.cell 2).toI)
def hidL (rs : List D) (all : Bool) (start : Int) (l : List D) : List D := l.map fun s => .b (hidS rs all start s)
section
variable {rs smps tags : List D} {sport start : Int}
theorem G40x0x18_eq (hN : maxLen < N) (hr : rs.length ≤ maxLen) (hs : smps.length ≤ maxLen) (all : Bool) : G40x0x18 N rs all smps smps.length start 0 (List.replicate smps.length (.b false)) = some (hidL rs all start smps) := by
 unfold G40x0x18
 refine (fold_ind (.i 0 : D) (A := List D) (S := fun w a kr => S40x0x18 N rs all smps smps.length start w a kr _) (L := fun m w a => L40x0x18 N rs all smps smps.length start m w a _) (fun m w a => rfl) (fun w l a => some (a.take w.toNat ++ hidL rs all start l))
  (fun w a => a.length = smps.length ∧ a.drop w.toNat = List.replicate (smps.length - w.toNat) (.b false)) hs ?_ ?_ hN (a := List.replicate smps.length (.b false)) (by simp)).trans (by simp)
 ·intro a kr h
  have : a.take smps.length = a := by rw [← h.1, List.take_length]
  simp [S40x0x18, hidL, this]
 ·intro w a kr h0 h1 hw hi ⟨ha, hd⟩ hk
  have hlt : w.toNat < a.length := by omega
  have hib : inB w a.length = true := inB_of h0 (by omega)
  have hset : ∀ y : D, (a.set w.toNat y).length = smps.length ∧ (a.set w.toNat y).drop (w + 1).toNat = List.replicate (smps.length - (w + 1).toNat) (.b false) ∧ (a.set w.toNat y).take (w + 1).toNat = a.take w.toNat ++ [y] := by
   intro y
   have e1 : (w + 1).toNat = w.toNat + 1 := by omega
   refine ⟨by simpa using ha, ?_, ?_⟩
   ·rw [e1, List.drop_set_of_lt (by omega)]
    have : a.drop (w.toNat + 1) = (a.drop w.toNat).drop 1 := by rw [List.drop_drop]
    rw [this, hd, List.drop_replicate]
    congr 1
   ·rw [e1, List.take_succ_eq_append_getElem (by simpa using hlt), List.take_set_of_le (Nat.le_refl _)]
    simp
  simp only [S40x0x18, decide_eq_true h1, _root_.cond_true, hi, hw, bnd_eq, G40x0x25, F40x0x25, hib, decide_eq_true hlt, G70x1_eq hN hr]
  have go : ∀ b : Bool, kr (w + 1) (a.set w.toNat (.b b)) = some ((a.take w.toNat ++ [.b b]) ++ hidL rs all start (smps.drop (w + 1).toNat)) := fun b => by
   obtain ⟨q1, q2, q3⟩ := hset (.b b)
   rw [hk _ ⟨q1, q2⟩, q3]
  cases all with
  | true =>
   refine (go true).trans ?_
   simp [hidL, hidS]
  | false =>
   refine (go _).trans ?_
   simp [hidL, hidS]
theorem G40x0_eq (hN : maxLen < N) (hr : rs.length ≤ maxLen) (hs : smps.length ≤ 20000) (ht : tags.length ≤ maxLen) : G40x0 N rs sport start smps tags = some (hidL rs (rs.any (wholeB sport tags)) start smps, rs.any (wholeB sport tags)) := by
 have hm : maxLen = 9223372036854775807 := rfl
 have h2 : room = 140737488355328 := rfl
 have h3 : strMax = 9223372036854775807 := rfl
 unfold G40x0 F40x0
 simp only [bnd_eq, G70x0_eq hN hr ht, Option.isSome_some, getD_some, _root_.cond_true, Int.toNat_natCast, G40x0x18_eq hN hr (show smps.length ≤ maxLen by omega)]
 rw [decide_eq_true (show (0 : Int) ≤ (smps.length : Int) by omega), decide_eq_true (show (smps.length : Int) ≤ (smps.length : Int) by omega), decide_eq_true (show smps.length * 1 ≤ room by omega), decide_eq_true (show smps.length ≤ strMax by omega)]
 rfl
end
/-! ### The reference's -/
section
variable {xs tags : List D} {lv sport : Int}
theorem any_app (P : D → Bool) (hP : ∀ r, P (reR r) = P r) : (appl xs lv).any P = xs.any fun r => appP lv r && P r := by
 unfold appl
 rw [List.any_map, List.any_filter]
 congr 1
 funext r
 show (appP lv r && P (reR r)) = _
 rw [hP]
theorem any_forK (P : D → Bool) (hP : ∀ r, P (reR r) = P r) (k : Int) : (forK xs lv k).any P = xs.any fun r => kndP lv k r && P r := by
 unfold forK
 rw [List.any_map, List.any_filter]
 congr 1
 funext r
 show (kndP lv k r && P (reR r)) = _
 rw [hP]
theorem any_or (P Q : D → Bool) (l : List D) : (l.any fun r => P r || Q r) = (l.any P || l.any Q) := by
 induction l with
 | nil => rfl
 | cons x r ih => simp only [List.any_cons, ih]; cases P x <;> cases Q x <;> simp
theorem whole_split : (appl xs lv).any (wholeB sport tags) = ((forK xs lv 5).any (fun r => rN r == sport) || (forK xs lv 4).any fun r => tags.any fun t => t.toS == rT r) := by
 rw [any_app _ (fun _ => rfl), any_forK _ (fun _ => rfl), any_forK _ (fun _ => rfl), ← any_or]
 congr 1
 funext r
 unfold appP wholeB kndP
 cases decide (rFrom r ≤ lv) with
 | false => rfl
 | true =>
  by_cases h5 : rKind r = 5
  ·rw [h5]; simp; exact beq_c _ _
  ·have : (rKind r == 5) = false := by simpa using h5
   rw [this]
   by_cases h4 : rKind r = 4
   ·rw [h4]; simp
    congr 1
    funext t
    exact beq_cs _ _
   ·have : (rKind r == 4) = false := by simpa using h4
    rw [this]; rfl
theorem part_split (sec x y : Int) : (appl xs lv).any (partB sec x y) = ((forK xs lv 1).any (fun r => placeB r x y) || (forK xs lv 2).any fun r => hoursB r sec) := by
 rw [any_app _ (fun _ => rfl), any_forK _ (fun _ => rfl), any_forK _ (fun _ => rfl), ← any_or]
 congr 1
 funext r
 unfold appP partB kndP
 cases decide (rFrom r ≤ lv) with
 | false => rfl
 | true =>
  by_cases h5 : rKind r = 1
  ·rw [h5]; simp
  ·have : (rKind r == 1) = false := by simpa using h5
   rw [this]
   by_cases h4 : rKind r = 2
   ·rw [h4]; simp
   ·have : (rKind r == 2) = false := by simpa using h4
    rw [this]; rfl
theorem way_any (b : Bool) {R : Type} (x y z : R) : (bif inlB (some (wayU b)) then x else bif (inrQ (some (wayU b))).isSome then y else z) = bif b then x else y := by cases b <;> rfl
theorem G74x0_eq (hN : maxLen < N) (h : xs.length ≤ 50) (ht : tags.length ≤ maxLen) : G74x0 N xs lv sport tags = some ((appl xs lv).any (wholeB sport tags)) := by
 obtain ⟨b5, e5⟩ := G91x0_eq (lv := lv) hN h 5
 obtain ⟨b4, e4⟩ := G91x0_eq (lv := lv) hN h 4
 have l5 := forK_len (xs := xs) (lv := lv) (k := 5)
 have l4 := forK_len (xs := xs) (lv := lv) (k := 4)
 have f5 : G74x0x6 N (forK xs lv 5) (forK xs lv 5).length sport 0 = some (wayU ((forK xs lv 5).any fun r => rN r == sport)) := by
  unfold G74x0x6
  refine (for_ind (.i 0 : D) (S := fun w kr => S74x0x6 N (forK xs lv 5) (forK xs lv 5).length sport w kr _ _) (L := fun m w => L74x0x6 N (forK xs lv 5) (forK xs lv 5).length sport m w _ _) (fun m w => rfl) (fun w l => some (wayA (fun r => rN r == sport) l)) (lt50 (by omega)) ?_ ?_ hN).trans rfl
  ·intro kr; simp [S74x0x6, wayA, wayU]
  ·intro w kr h0 h1 hw hi hk
   simp only [S74x0x6, decide_eq_true h1, _root_.cond_true, hi, hw, hk, wayA_cons]
   cases rN ((forK xs lv 5).getD w.toNat (.i 0)) == sport <;> rfl
 have ft : ∀ s : List UInt8, G74x0x33 N tags tags.length s 0 = some (wayU (tags.any fun t => t.toS == s)) := by
  intro s
  unfold G74x0x33
  refine (for_ind (.i 0 : D) (S := fun w kr => S74x0x33 N tags tags.length s w kr _ _) (L := fun m w => L74x0x33 N tags tags.length s m w _ _) (fun m w => rfl) (fun w l => some (wayA (fun t => t.toS == s) l)) ht ?_ ?_ hN).trans rfl
  ·intro kr; simp [S74x0x33, wayA, wayU]
  ·intro w kr h0 h1 hw hi hk
   simp only [S74x0x33, decide_eq_true h1, _root_.cond_true, hi, hw, hk, wayA_cons]
   cases (tags.getD w.toNat (.i 0)).toS == s <;> rfl
 have f4 : G74x0x24 N (forK xs lv 4) (forK xs lv 4).length tags 0 = some (wayU ((forK xs lv 4).any fun r => tags.any fun t => t.toS == rT r)) := by
  unfold G74x0x24
  refine (for_ind (.i 0 : D) (S := fun w kr => S74x0x24 N (forK xs lv 4) (forK xs lv 4).length tags w kr _ _) (L := fun m w => L74x0x24 N (forK xs lv 4) (forK xs lv 4).length tags m w _ _) (fun m w => rfl) (fun w l => some (wayA (fun r => tags.any fun t => t.toS == rT r) l)) (lt50 (by omega)) ?_ ?_ hN).trans rfl
  ·intro kr; simp [S74x0x24, wayA, wayU]
  ·intro w kr h0 h1 hw hi hk
   simp only [S74x0x24, decide_eq_true h1, _root_.cond_true, hi, hw, hk, wayA_cons, bnd_eq, ft, way_any]
   cases tags.any fun t => t.toS == rT ((forK xs lv 4).getD w.toNat (.i 0)) <;> rfl
 unfold G74x0 F74x0
 simp only [bnd_eq, e5, e4, Option.isSome_some, getD_some, _root_.cond_true, f5, f4, way_any, whole_split]
 cases (forK xs lv 5).any fun r => rN r == sport with
 | true => rfl
 | false => cases (forK xs lv 4).any fun r => tags.any fun t => t.toS == rT r <;> rfl
theorem G75x0_eq (hN : maxLen < N) (h : xs.length ≤ 50) (start t x y : Int) : G75x0 N xs lv start t x y = some ((appl xs lv).any (partB ((wr (start + t)).tmod 86400) x y)) := by
 obtain ⟨b1, e1⟩ := G91x0_eq (lv := lv) hN h 1
 obtain ⟨b2, e2⟩ := G91x0_eq (lv := lv) hN h 2
 have l1 := forK_len (xs := xs) (lv := lv) (k := 1)
 have l2 := forK_len (xs := xs) (lv := lv) (k := 2)
 have f1 : G75x0x6 N (forK xs lv 1) (forK xs lv 1).length x y 0 = some (wayU ((forK xs lv 1).any fun r => placeB r x y)) := by
  unfold G75x0x6
  refine (for_ind (.i 0 : D) (S := fun w kr => S75x0x6 N (forK xs lv 1) (forK xs lv 1).length x y w kr _ _) (L := fun m w => L75x0x6 N (forK xs lv 1) (forK xs lv 1).length x y m w _ _) (fun m w => rfl) (fun w l => some (wayA (fun r => placeB r x y) l)) (lt50 (by omega)) ?_ ?_ hN).trans rfl
  ·intro kr; simp [S75x0x6, wayA, wayU]
  ·intro w kr h0 h1 hw hi hk
   simp only [S75x0x6, decide_eq_true h1, _root_.cond_true, hi, hw, hk, wayA_cons, bnd_eq]
   show (bif placeB ((forK xs lv 1).getD w.toNat (.i 0)) x y then _ else _) = _
   cases placeB ((forK xs lv 1).getD w.toNat (.i 0)) x y <;> rfl
 have f2 : ∀ sec : Int, G75x0x27 N sec (forK xs lv 2) (forK xs lv 2).length 0 = some (wayU ((forK xs lv 2).any fun r => hoursB r sec)) := by
  intro sec
  unfold G75x0x27
  refine (for_ind (.i 0 : D) (S := fun w kr => S75x0x27 N sec (forK xs lv 2) (forK xs lv 2).length w kr _ _) (L := fun m w => L75x0x27 N sec (forK xs lv 2) (forK xs lv 2).length m w _ _) (fun m w => rfl) (fun w l => some (wayA (fun r => hoursB r sec) l)) (lt50 (by omega)) ?_ ?_ hN).trans rfl
  ·intro kr; simp [S75x0x27, wayA, wayU]
  ·intro w kr h0 h1 hw hi hk
   simp only [S75x0x27, decide_eq_true h1, _root_.cond_true, hi, hw, hk, wayA_cons, bnd_eq]
   show (bif hoursB ((forK xs lv 2).getD w.toNat (.i 0)) sec then _ else _) = _
   cases hoursB ((forK xs lv 2).getD w.toNat (.i 0)) sec <;> rfl
 unfold G75x0 F75x0
 simp only [bnd_eq, e1, e2, Option.isSome_some, getD_some, _root_.cond_true, f1, f2, way_any, part_split]
 show (bif _ then some true else bif (List.any _ fun r => hoursB r ((wr (start + t)).tmod 86400)) then _ else _) = _
 cases (forK xs lv 1).any fun r => placeB r x y with
 | true => rfl
 | false => cases (forK xs lv 2).any fun r => hoursB r ((wr (start + t)).tmod 86400) <;> rfl
variable {smps : List D} {start : Int}
theorem G43x0x12_eq (hN : maxLen < N) (h : xs.length ≤ 50) (hs : smps.length ≤ 20000) (all : Bool) : ∃ b, G43x0x12 N lv all smps smps.length xs start 0 true [] = some (b, hidL (appl xs lv) all start smps) := by
 have hm : maxLen = 9223372036854775807 := rfl
 have h2 : room = 140737488355328 := rfl
 have h3 : strMax = 9223372036854775807 := rfl
 have e : G43x0x12 N lv all smps smps.length xs start 0 true [] = some (filtF (fun _ => true) (fun s => .b (hidS (appl xs lv) all start s)) smps (true, [])) := by
  unfold G43x0x12
  refine fold_ind (.i 0 : D) (A := Bool × List D) (S := fun w a kr => S43x0x12 N lv all smps smps.length xs start w a.1 a.2 (fun w b l => kr w (b, l)) _) (L := fun m w a => L43x0x12 N lv all smps smps.length xs start m w a.1 a.2 _) (fun m w a => rfl) (fun w l a => some (filtF (fun _ => true) (fun s => .b (hidS (appl xs lv) all start s)) l a)) (fun w a => (a.2.length : Int) ≤ w) (by omega) ?_ ?_ hN (a := (true, [])) (by simp)
  ·intro a kr _; simp [S43x0x12, filtF]
  ·intro w a kr h0 h1 hw hi ha hk
   simp only [S43x0x12, decide_eq_true h1, _root_.cond_true, hi, bnd_eq, hw, G43x0x19, F43x0x19, filtF, G75x0_eq hN h, Option.isSome_some, getD_some]
   rw [decide_eq_true (show (a.2.length + 1) * 1 ≤ room by omega), decide_eq_true (show a.2.length + 1 ≤ strMax by omega)]
   cases all with
   | true => exact hk (false, a.2 ++ [.b true]) (by simp; omega)
   | false => exact hk (false, a.2 ++ [.b _]) (by simp; omega)
 refine ⟨(filtF (fun _ => true) (fun s => .b (hidS (appl xs lv) all start s)) smps (true, [])).1, ?_⟩
 rw [e]
 have := filtF_snd (fun _ => true) (fun s => D.b (hidS (appl xs lv) all start s)) smps (true, [])
 rw [List.nil_append, List.filter_eq_self.2 (fun _ _ => rfl)] at this
 exact congrArg some (pair_of this)
theorem G43x0_eq (hN : maxLen < N) (h : xs.length ≤ 50) (hs : smps.length ≤ 20000) (ht : tags.length ≤ maxLen) : ∃ b, G43x0 N xs lv sport start smps tags = some (b, hidL (appl xs lv) ((appl xs lv).any (wholeB sport tags)) start smps, (appl xs lv).any (wholeB sport tags)) := by
 obtain ⟨b, e⟩ := G43x0x12_eq (lv := lv) (start := start) hN h hs ((appl xs lv).any (wholeB sport tags))
 refine ⟨b, ?_⟩
 unfold G43x0 F43x0
 simp only [bnd_eq, G74x0_eq hN h ht, Option.isSome_some, getD_some, _root_.cond_true, e]
end
end Go.Proofs.Ytngnemeafkmaoaa

/-! Plain laws of chapter 10: how things are seen: samples. -/
namespace Go.Proofs.Ytngnemeafkmaoaa
open Go Go.AM
set_option maxRecDepth 100000
set_option maxHeartbeats 4000000
variable {N : Nat}
/-! ### What the rules say of the look -/
def fldB (rs : List D) (i : Int) : Bool := rs.any fun r => rKind r == 3 && rN r == i
def grdL (rs : List D) : List D := (rs.filter fun r => rKind r == 8).map fun r => .i (rN r)
def kdB (rs : List D) (k : Int) : Bool := rs.any fun r => rKind r == k
def lookS (r : D) (a : Ty1) : Ty1 :=
 bif rKind r == 3 then ((bif Nat.beq (rN r).toNat 0 then true else a.1), (bif Nat.beq (rN r).toNat 1 then true else a.2.1), (bif Nat.beq (rN r).toNat 2 then true else a.2.2.1), (bif Nat.beq (rN r).toNat 3 then true else a.2.2.2.1), (bif Nat.beq (rN r).toNat 4 then true else a.2.2.2.2.1), a.2.2.2.2.2.1, a.2.2.2.2.2.2.1, a.2.2.2.2.2.2.2.1, a.2.2.2.2.2.2.2.2)
 else bif rKind r == 8 then (a.1, a.2.1, a.2.2.1, a.2.2.2.1, a.2.2.2.2.1, a.2.2.2.2.2.1, a.2.2.2.2.2.2.1, false, a.2.2.2.2.2.2.2.2 ++ [.i (rN r)])
 else bif rKind r == 6 then (a.1, a.2.1, a.2.2.1, a.2.2.2.1, a.2.2.2.2.1, true, a.2.2.2.2.2.2.1, a.2.2.2.2.2.2.2.1, a.2.2.2.2.2.2.2.2)
 else bif rKind r == 7 then (a.1, a.2.1, a.2.2.1, a.2.2.2.1, a.2.2.2.2.1, a.2.2.2.2.2.1, true, a.2.2.2.2.2.2.2.1, a.2.2.2.2.2.2.2.2) else a
def lookF : List D → Ty1 → Ty1
 | [], a => a
 | r :: l, a => lookF l (lookS r a)
/-- What is asked of a rule. -/
def RuleG (r : D) : Prop := (rKind r = 3 → 1 ≤ rN r ∧ rN r ≤ 4) ∧ (rKind r = 8 → 1 ≤ rN r ∧ rN r ≤ 1000000)
theorem ruleG_of {r : D} (h : ruleD r = 0) : RuleG r := by
 obtain ⟨_, _, h3, _⟩ := rule_facts h
 unfold kindE at h3
 refine ⟨fun hk => ?_, fun hk => ?_⟩
 ·rw [hk] at h3
  cases hb : inI (rN r) 1 4 with
  | true => exact of_decide_eq_true hb
  | false => rw [hb] at h3; cases h3
 ·rw [hk] at h3
  cases hb : inI (rN r) 1 1000000 with
  | true => exact of_decide_eq_true hb
  | false => rw [hb] at h3; cases h3
theorem beqN_eq {n j : Int} {i : Nat} (h0 : 0 ≤ n) (hj : (i : Int) = j) : Nat.beq n.toNat i = (n == j) := by
 rw [beq_eq', Bool.eq_iff_iff]
 simp
 omega
theorem lookF_eq : ∀ (l : List D) (a : Ty1), (∀ r ∈ l, RuleG r) → ∃ x y, lookF l a = (x, a.2.1 || fldB l 1, a.2.2.1 || fldB l 2, a.2.2.2.1 || fldB l 3, a.2.2.2.2.1 || fldB l 4, a.2.2.2.2.2.1 || kdB l 6, a.2.2.2.2.2.2.1 || kdB l 7, y, a.2.2.2.2.2.2.2.2 ++ grdL l)
 | [], a, _ => ⟨a.1, a.2.2.2.2.2.2.2.1, by simp [lookF, fldB, kdB, grdL]⟩
 | r :: l, a, h => by
  obtain ⟨x, y, e⟩ := lookF_eq l (lookS r a) fun r' hr' => h r' (by simp [hr'])
  have hr := h r (by simp)
  refine ⟨x, y, ?_⟩
  rw [lookF, e]
  by_cases h3 : rKind r = 3
  ·have hn := hr.1 h3
   simp only [lookS, fldB, kdB, grdL, List.any_cons, List.filter_cons, h3, beq_self_eq_true, Int.reduceBEq, _root_.cond_true, Bool.true_and, Bool.false_or, beqN_eq (i := 1) (j := 1) (show 0 ≤ rN r by omega) rfl, beqN_eq (i := 2) (j := 2) (show 0 ≤ rN r by omega) rfl, beqN_eq (i := 3) (j := 3) (show 0 ≤ rN r by omega) rfl, beqN_eq (i := 4) (j := 4) (show 0 ≤ rN r by omega) rfl, Bool.false_eq_true, if_false]
   have hc : ∀ (c x y : Bool), ((bif c then true else x) || y) = (x || (c || y)) := by intro c x y; cases c <;> cases x <;> cases y <;> rfl
   simp only [hc]
  ·have e3 : (rKind r == 3) = false := by simpa using h3
   by_cases h8 : rKind r = 8
   ·simp [lookS, fldB, kdB, grdL, List.filter_cons, h8]
   ·have e8 : (rKind r == 8) = false := by simpa using h8
    by_cases h6 : rKind r = 6
    ·simp [lookS, fldB, kdB, grdL, List.filter_cons, h6]
    ·have e6 : (rKind r == 6) = false := by simpa using h6
     by_cases h7 : rKind r = 7
     ·simp [lookS, fldB, kdB, grdL, List.filter_cons, h7]
     ·have e7 : (rKind r == 7) = false := by simpa using h7
      simp [lookS, fldB, kdB, grdL, List.filter_cons, e3, e8, e6, e7, h3, h8, h6, h7]
section
variable {rs : List D}
theorem G93x0x24023_eq {r : D} (hr : RuleG r) {a : Ty1} (hl : a.2.2.2.2.2.2.2.2.length ≤ 50) :
  (∃ p, G93x0x24023 N (rKind r) (rKind r == 3) a.1 a.2.1 a.2.2.1 a.2.2.2.1 a.2.2.2.2.1 a.2.2.2.2.2.1 a.2.2.2.2.2.2.1 (rN r) a.2.2.2.2.2.2.2.2 = some (.inl p) ∧ lookS r a = (p.1, p.2.1, p.2.2.1, p.2.2.2.1, p.2.2.2.2.1, p.2.2.2.2.2.1, p.2.2.2.2.2.2, a.2.2.2.2.2.2.2.1, a.2.2.2.2.2.2.2.2)) ∨
  (∃ g, G93x0x24023 N (rKind r) (rKind r == 3) a.1 a.2.1 a.2.2.1 a.2.2.2.1 a.2.2.2.2.1 a.2.2.2.2.2.1 a.2.2.2.2.2.2.1 (rN r) a.2.2.2.2.2.2.2.2 = some (.inr g) ∧ lookS r a = (a.1, a.2.1, a.2.2.1, a.2.2.2.1, a.2.2.2.2.1, a.2.2.2.2.2.1, a.2.2.2.2.2.2.1, false, g) ∧ g.length = a.2.2.2.2.2.2.2.2.length + 1) := by
 unfold G93x0x24023 F93x0x24023 G93x0x30029 F93x0x30029 V93x0x36035 F93x0x36035 V93x0x41 F93x0x41 lookS
 by_cases h3 : rKind r = 3
 ·have hn := hr.1 h3
  have e3 : (rKind r == 3) = true := by simpa using h3
  rw [e3, inB_of (show 0 ≤ rN r by omega) (show rN r < (5 : Nat) by omega)]
  exact .inl ⟨_, rfl, rfl⟩
 ·have e3 : (rKind r == 3) = false := by simpa using h3
  rw [e3]
  by_cases h8 : rKind r = 8
  ·have e8 : (rKind r == 8) = true := by simpa using h8
   rw [e8, room50 hl (by omega)]
   exact .inr ⟨a.2.2.2.2.2.2.2.2 ++ [.i (rN r)], rfl, rfl, by simp⟩
  ·have e8 : (rKind r == 8) = false := by simpa using h8
   rw [e8]
   by_cases h6 : rKind r = 6
   ·have e6 : (rKind r == 6) = true := by simpa using h6
    rw [e6]
    exact .inl ⟨_, rfl, rfl⟩
   ·have e6 : (rKind r == 6) = false := by simpa using h6
    rw [e6]
    cases rKind r == 7 with
    | true => exact .inl ⟨_, rfl, rfl⟩
    | false => exact .inl ⟨_, rfl, rfl⟩
theorem G93x0x9_eq (hN : maxLen < N) (hl : rs.length ≤ 50) (hr : ∀ r ∈ rs, RuleG r) : G93x0x9 N rs rs.length 0 false false false false false false false true [] = some (lookF rs (false, false, false, false, false, false, false, true, [])) := by
 unfold G93x0x9
 refine fold_ind (.i 0 : D) (A := Ty1) (S := fun w a kr => S93x0x9 N rs rs.length w a.1 a.2.1 a.2.2.1 a.2.2.2.1 a.2.2.2.2.1 a.2.2.2.2.2.1 a.2.2.2.2.2.2.1 a.2.2.2.2.2.2.2.1 a.2.2.2.2.2.2.2.2 (fun w a b c d e f g h i => kr w (a, b, c, d, e, f, g, h, i)) _)
  (L := fun m w a => L93x0x9 N rs rs.length m w a.1 a.2.1 a.2.2.1 a.2.2.2.1 a.2.2.2.2.1 a.2.2.2.2.2.1 a.2.2.2.2.2.2.1 a.2.2.2.2.2.2.2.1 a.2.2.2.2.2.2.2.2 _) (fun m w a => rfl) (fun w l a => some (lookF l a)) (fun w a => (a.2.2.2.2.2.2.2.2.length : Int) ≤ w) (lt50 hl) ?_ ?_ hN (a := (false, false, false, false, false, false, false, true, [])) (by simp)
 ·intro a kr _; simp [S93x0x9, lookF]
 ·intro w a kr h0 h1 hw hi ha hk
  have hrg := hr _ (getD_mem h0 h1)
  simp only [S93x0x9, decide_eq_true h1, _root_.cond_true, hi, bnd_eq, hw, lookF]
  rcases G93x0x24023_eq (N := N) hrg (a := a) (by omega) with ⟨p, e, q⟩ | ⟨g, e, q, ql⟩
  ·rw [e, q]
   exact hk (p.1, p.2.1, p.2.2.1, p.2.2.2.1, p.2.2.2.2.1, p.2.2.2.2.2.1, p.2.2.2.2.2.2, a.2.2.2.2.2.2.2.1, a.2.2.2.2.2.2.2.2) (by simp only; omega)
  ·rw [e, q]
   exact hk (a.1, a.2.1, a.2.2.1, a.2.2.2.1, a.2.2.2.2.1, a.2.2.2.2.2.1, a.2.2.2.2.2.2.1, false, g) (by simp only [ql]; omega)
theorem G93x0_eq (hN : maxLen < N) (hl : rs.length ≤ 50) (hr : ∀ r ∈ rs, RuleG r) : ∃ x y, G93x0 N rs = some (x, fldB rs 1, fldB rs 2, fldB rs 3, fldB rs 4, y, grdL rs, kdB rs 6, kdB rs 7) := by
 obtain ⟨x, y, e⟩ := lookF_eq rs (false, false, false, false, false, false, false, true, []) hr
 refine ⟨x, y, ?_⟩
 unfold G93x0 F93x0
 rw [G93x0x9_eq hN hl hr, e]
 simp [bnd_eq]
end
/-! ### Samples -/
def lowI (x n : Int) : Int := wr (x - (bif decide (x.tmod n < 0) then wr (x.tmod n + n) else x.tmod n))
theorem G99x0_eq {n : Int} (hn : 1 ≤ n) (x : Int) : G99x0 N x n = some (lowI x n) := by
 unfold G99x0 F99x0 V99x0x11 F99x0x11 lowI
 have : (n == 0) = false := by simp; omega
 rw [this]
 cases decide (x.tmod n < 0) <;> rfl
def gridF : List D → Int × Int → Int × Int
 | [], a => a
 | g :: r, a => gridF r (max2 (lowI a.1 g.toI) (-100000000), max2 (lowI a.2 g.toI) (-100000000))
section
variable {gs : List D}
theorem G100x0x27_eq (hN : maxLen < N) (hl : gs.length ≤ maxLen) (hg : ∀ g ∈ gs, 1 ≤ g.toI) (x y : Int) : G100x0x27 N gs gs.length 0 x y = some (gridF gs (x, y)) := by
 unfold G100x0x27
 refine fold_ind (.i 0 : D) (A := Int × Int) (S := fun w a kr => S100x0x27 N gs gs.length w a.1 a.2 (fun w a b => kr w (a, b)) _) (L := fun m w a => L100x0x27 N gs gs.length m w a.1 a.2 _) (fun m w a => rfl) (fun w l a => some (gridF l a)) (fun w a => True) hl ?_ ?_ hN (a := (x, y)) trivial
 ·intro a kr _; simp [S100x0x27, gridF]
 ·intro w a kr h0 h1 hw hi _ hk
  have := hg _ (getD_mem h0 h1)
  simp only [S100x0x27, decide_eq_true h1, _root_.cond_true, hi, bnd_eq, hw, gridF, G99x0_eq this, Option.isSome_some, getD_some]
  exact hk (_, _) trivial
end
def smpX (rs : List D) (x y z p w s : Int) : Int × Int × Int × Int × Int × Int := ((gridF (grdL rs) (x, y)).1, (gridF (grdL rs) (x, y)).2, (bif fldB rs 4 then 0 else z), (bif fldB rs 1 then -1 else p), (bif fldB rs 2 then -1 else w), (bif fldB rs 3 then -1 else s))
section
variable {rs : List D}
theorem grdL_len (hl : rs.length ≤ 50) : (grdL rs).length ≤ 50 := by
 unfold grdL; rw [List.length_map]; exact Nat.le_trans (List.length_filter_le _ _) hl
theorem grdL_pos (hr : ∀ r ∈ rs, RuleG r) : ∀ g ∈ grdL rs, 1 ≤ g.toI := by
 intro g hg
 unfold grdL at hg
 obtain ⟨r, h1, rfl⟩ := List.mem_map.1 hg
 obtain ⟨h2, h3⟩ := List.mem_filter.1 h1
 exact ((hr r h2).2 (by simpa using h3)).1
theorem G100x0_eq (hN : maxLen < N) (hl : rs.length ≤ 50) (hr : ∀ r ∈ rs, RuleG r) (x y z p w s : Int) : G100x0 N (fldB rs 1) (fldB rs 2) (fldB rs 3) (fldB rs 4) (grdL rs) x y z p w s = some (smpX rs x y z p w s) := by
 unfold G100x0 F100x0 V100x0x23 F100x0x23
 simp only [bnd_eq, G100x0x27_eq hN (lt50 (grdL_len hl)) (grdL_pos hr), Option.isSome_some, getD_some, _root_.cond_true]
 unfold smpX
 cases fldB rs 4 <;> rfl
end
/-! ### The reference's sample -/
section
variable {xs : List D} {lv : Int}
theorem appl_good (hx : ∀ r ∈ xs, RuleG r) : ∀ r ∈ appl xs lv, RuleG r := by
 intro r h
 unfold appl at h
 obtain ⟨r0, h1, rfl⟩ := List.mem_map.1 h
 exact hx r0 (List.mem_filter.1 h1).1
end
end Go.Proofs.Ytngnemeafkmaoaa

/-! Plain laws of chapter 10: pieces. -/
namespace Go.Proofs.Ytngnemeafkmaoaa
open Go Go.AM
set_option maxRecDepth 100000
set_option maxHeartbeats 4000000
variable {N : Nat}
def actName : List UInt8 := [97, 99, 116, 105, 118, 105, 116, 121]
/-- A sample as it is seen. -/
def smpD (rs : List D) (from_ : Int) (s : D) : D :=
 .a [.i (wr ((s.cell 0).toI - from_)), .i (smpX rs (s.cell 1).toI (s.cell 2).toI (s.cell 3).toI (s.cell 4).toI (s.cell 5).toI (s.cell 6).toI).1, .i (smpX rs (s.cell 1).toI (s.cell 2).toI (s.cell 3).toI (s.cell 4).toI (s.cell 5).toI (s.cell 6).toI).2.1, .i (smpX rs (s.cell 1).toI (s.cell 2).toI (s.cell 3).toI (s.cell 4).toI (s.cell 5).toI (s.cell 6).toI).2.2.1,
  .i (smpX rs (s.cell 1).toI (s.cell 2).toI (s.cell 3).toI (s.cell 4).toI (s.cell 5).toI (s.cell 6).toI).2.2.2.1, .i (smpX rs (s.cell 1).toI (s.cell 2).toI (s.cell 3).toI (s.cell 4).toI (s.cell 5).toI (s.cell 6).toI).2.2.2.2.1, .i (smpX rs (s.cell 1).toI (s.cell 2).toI (s.cell 3).toI (s.cell 4).toI (s.cell 5).toI (s.cell 6).toI).2.2.2.2.2]
noncomputable def putS (m : List (D × D)) (s : D) : List (D × D) := putB Try.prog 3 (.i (s.cell 0).toI) (.b true) m
noncomputable def runF (rs : List D) (from_ : Int) : List D → Ty6 → Ty6
 | [], a => a
 | s :: l, a => runF rs from_ l (putS a.1 s, false, a.2.2 ++ [smpD rs from_ s])
noncomputable def secL : List D → List (D × D) → List (D × D)
 | [], m => m
 | s :: l, m => secL l (putS m s)
theorem runF_eq (rs : List D) (from_ : Int) : ∀ (l : List D) (a : Ty6), runF rs from_ l a = (secL l a.1, (bif l.isEmpty then a.2.1 else false), a.2.2 ++ l.map (smpD rs from_))
 | [], a => by simp [runF, secL]
 | s :: l, a => by
  rw [runF, runF_eq rs from_ l]
  cases l <;> simp [secL]
noncomputable def inM (m : List (D × D)) (t : Int) : Bool := ((findB Try.prog 3 (.i t) m).getD (.b false)).toB
noncomputable def lapP (m : List (D × D)) (x : D) : Bool := !(bif !inM m (x.cell 0).toI then true else !inM m (x.cell 1).toI)
def lapD (un : Bool) (from_ : Int) (x : D) : D := .a [.i (wr ((x.cell 0).toI - from_)), .i (wr ((x.cell 1).toI - from_)), .s (bif un then [] else (x.cell 2).toS)]
theorem roomL {n sz b : Nat} (hn : n ≤ b) (h : (b + 1) * sz ≤ 140737488355328) (hs : 1 ≤ sz) : (decide ((n + 1) * sz ≤ room) && decide ((n + 1) ≤ strMax)) = true := by
 have h1 : (n + 1) * sz ≤ (b + 1) * sz := Nat.mul_le_mul_right _ (by omega)
 have h4 : n + 1 ≤ (n + 1) * sz := Nat.le_mul_of_pos_right _ hs
 have h2 : room = 140737488355328 := rfl
 have h3 : strMax = 9223372036854775807 := rfl
 rw [decide_eq_true (by omega), decide_eq_true (by omega)]; rfl
section
variable {rs l laps : List D} {from_ : Int}
theorem G94x0x27_eq (hN : maxLen < N) (hl : rs.length ≤ 50) (hr : ∀ r ∈ rs, RuleG r) (hn : l.length ≤ 20000) : G94x0x27 N from_ l l.length (fldB rs 1) (fldB rs 2) (fldB rs 3) (fldB rs 4) (grdL rs) 0 [] true [] = some (runF rs from_ l ([], true, [])) := by
 have hm : maxLen = 9223372036854775807 := rfl
 unfold G94x0x27
 refine fold_ind (.i 0 : D) (A := Ty6) (S := fun w a kr => S94x0x27 N from_ l l.length (fldB rs 1) (fldB rs 2) (fldB rs 3) (fldB rs 4) (grdL rs) w a.1 a.2.1 a.2.2 (fun w a b c => kr w (a, b, c)) _) (L := fun m w a => L94x0x27 N from_ l l.length (fldB rs 1) (fldB rs 2) (fldB rs 3) (fldB rs 4) (grdL rs) m w a.1 a.2.1 a.2.2 _) (fun m w a => rfl) (fun w l a => some (runF rs from_ l a)) (fun w a => (a.2.2.length : Int) ≤ w) (by omega) ?_ ?_ hN (a := ([], true, [])) (by simp)
 ·intro a kr _; simp [S94x0x27, runF]
 ·intro w a kr h0 h1 hw hi ha hk
  simp only [S94x0x27, decide_eq_true h1, _root_.cond_true, hi, bnd_eq, hw, runF, G100x0_eq hN hl hr, Option.isSome_some, getD_some, roomL (n := a.2.2.length) (sz := 56) (b := 20000) (by omega) (by omega) (by omega)]
  exact hk (_, false, _) (by simp; omega)
theorem G94x0x27b_eq (hN : maxLen < N) (hl : rs.length ≤ 50) (hr : ∀ r ∈ rs, RuleG r) (hn : l.length ≤ 20000) : G94x0x27b N from_ l l.length (fldB rs 1) (fldB rs 2) (fldB rs 3) (fldB rs 4) (grdL rs) 0 [] true [] = some (runF rs from_ l ([], true, [])) := by
 have hm : maxLen = 9223372036854775807 := rfl
 unfold G94x0x27b
 refine fold_ind (.i 0 : D) (A := Ty6) (S := fun w a kr => S94x0x27b N from_ l l.length (fldB rs 1) (fldB rs 2) (fldB rs 3) (fldB rs 4) (grdL rs) w a.1 a.2.1 a.2.2 (fun w a b c => kr w (a, b, c)) _) (L := fun m w a => L94x0x27b N from_ l l.length (fldB rs 1) (fldB rs 2) (fldB rs 3) (fldB rs 4) (grdL rs) m w a.1 a.2.1 a.2.2 _) (fun m w a => rfl) (fun w l a => some (runF rs from_ l a)) (fun w a => (a.2.2.length : Int) ≤ w) (by omega) ?_ ?_ hN (a := ([], true, [])) (by simp)
 ·intro a kr _; simp [S94x0x27b, runF]
 ·intro w a kr h0 h1 hw hi ha hk
  simp only [S94x0x27b, decide_eq_true h1, _root_.cond_true, hi, bnd_eq, hw, runF, G100x0_eq hN hl hr, Option.isSome_some, getD_some, roomL (n := a.2.2.length) (sz := 56) (b := 20000) (by omega) (by omega) (by omega)]
  exact hk (_, false, _) (by simp; omega)
theorem G94x0x51_eq (hN : maxLen < N) (hn : laps.length ≤ 200) (un : Bool) (m : List (D × D)) : G94x0x51 N from_ laps laps.length un m 0 true [] = some (filtF (lapP m) (lapD un from_) laps (true, [])) := by
 unfold G94x0x51
 have hm : maxLen = 9223372036854775807 := rfl
 refine fold_ind (.i 0 : D) (A := Bool × List D) (S := fun w a kr => S94x0x51 N from_ laps laps.length un m w a.1 a.2 (fun w b l => kr w (b, l)) _) (L := fun k w a => L94x0x51 N from_ laps laps.length un m k w a.1 a.2 _) (fun m w a => rfl) (fun w l a => some (filtF (lapP m) (lapD un from_) l a)) (fun w a => (a.2.length : Int) ≤ w) (by omega) ?_ ?_ hN (a := (true, [])) (by simp)
 ·intro a kr _; simp [S94x0x51, filtF]
 ·intro w a kr h0 h1 hw hi ha hk
  simp only [S94x0x51, decide_eq_true h1, _root_.cond_true, hi, bnd_eq, hw, filtF, roomL (n := a.2.length) (sz := 32) (b := 200) (by omega) (by omega) (by omega), V94x0x68, F94x0x68]
  show (bif (bif !inM m ((laps.getD w.toNat (.i 0)).cell 0).toI then true else !inM m ((laps.getD w.toNat (.i 0)).cell 1).toI) then _ else _) = some (filtF _ _ _ (bif lapP m (laps.getD w.toNat (.i 0)) then _ else _))
  unfold lapP
  cases (bif !inM m ((laps.getD w.toNat (.i 0)).cell 0).toI then true else !inM m ((laps.getD w.toNat (.i 0)).cell 1).toI) with
  | true => exact hk a (by omega)
  | false =>
   have := hk (false, a.2 ++ [lapD un from_ (laps.getD w.toNat (.i 0))]) (by simp; omega)
   unfold lapD at this ⊢
   cases un <;> exact this
theorem G94x0x51b_eq (hN : maxLen < N) (hn : laps.length ≤ 200) (un : Bool) (m : List (D × D)) : G94x0x51b N from_ laps laps.length un m 0 true [] = some (filtF (lapP m) (lapD un from_) laps (true, [])) := by
 unfold G94x0x51b
 have hm : maxLen = 9223372036854775807 := rfl
 refine fold_ind (.i 0 : D) (A := Bool × List D) (S := fun w a kr => S94x0x51b N from_ laps laps.length un m w a.1 a.2 (fun w b l => kr w (b, l)) _) (L := fun k w a => L94x0x51b N from_ laps laps.length un m k w a.1 a.2 _) (fun m w a => rfl) (fun w l a => some (filtF (lapP m) (lapD un from_) l a)) (fun w a => (a.2.length : Int) ≤ w) (by omega) ?_ ?_ hN (a := (true, [])) (by simp)
 ·intro a kr _; simp [S94x0x51b, filtF]
 ·intro w a kr h0 h1 hw hi ha hk
  simp only [S94x0x51b, decide_eq_true h1, _root_.cond_true, hi, bnd_eq, hw, filtF, roomL (n := a.2.length) (sz := 32) (b := 200) (by omega) (by omega) (by omega), V94x0x68b, F94x0x68b]
  show (bif (bif !inM m ((laps.getD w.toNat (.i 0)).cell 0).toI then true else !inM m ((laps.getD w.toNat (.i 0)).cell 1).toI) then _ else _) = some (filtF _ _ _ (bif lapP m (laps.getD w.toNat (.i 0)) then _ else _))
  unfold lapP
  cases (bif !inM m ((laps.getD w.toNat (.i 0)).cell 0).toI then true else !inM m ((laps.getD w.toNat (.i 0)).cell 1).toI) with
  | true => exact hk a (by omega)
  | false =>
   have := hk (false, a.2 ++ [lapD un from_ (laps.getD w.toNat (.i 0))]) (by simp; omega)
   unfold lapD at this ⊢
   cases un <;> exact this
end
/-- A piece, in parts. -/
noncomputable def pieceT (rs : List D) (name : List UInt8) (start : Int) (laps : List D) (tn : Bool) (tags l : List D) : Ty0 :=
 let from_ := ((l.getD 0 (.i 0)).cell 0).toI
 let un := kdB rs 7
 let st := wr (start + from_)
 let lp := filtF (lapP (secL l [])) (lapD un from_) laps (true, [])
 ((bif un then actName else name), (bif kdB rs 6 then wr (st - st.tmod 86400) else st), (bif l.isEmpty then true else false), l.map (smpD rs from_), lp.1, lp.2, (bif un then true else tn), (bif un then [] else tags))
section
variable {rs l laps tags : List D} {name : List UInt8} {start : Int} {tn : Bool}
theorem lowI_nonneg {n : Int} (h : 0 ≤ n) : lowI n 86400 = wr (n - n.tmod 86400) := by
 have : 0 ≤ n.tmod 86400 := Int.tmod_nonneg _ h
 unfold lowI
 rw [decide_eq_false (by omega)]; rfl
theorem G94x0_eq (hN : maxLen < N) (hl : rs.length ≤ 50) (hr : ∀ r ∈ rs, RuleG r) (hn : l.length ≤ 20000) (h0 : 0 < l.length) (hlp : laps.length ≤ 200) (htg : tags.length ≤ 20) (hnil : tn = true → tags = [])
  (hst : 0 ≤ wr (start + ((l.getD 0 (.i 0)).cell 0).toI)) : G94x0 N (fldB rs 1) (fldB rs 2) (fldB rs 3) (fldB rs 4) (grdL rs) (kdB rs 6) (kdB rs 7) name start laps tn tags l = some (pieceT rs name start laps tn tags l) := by
 have h2 : room = 140737488355328 := rfl
 have h3 : strMax = 9223372036854775807 := rfl
 have hin : inB 0 l.length = true := inB_of (by omega) (by omega)
 have hday : ∀ b : Bool, F94x0x20 N b (wr (start + ((l.getD 0 (.i 0)).cell 0).toI)) (fun p => some p) = some (bif b then wr (wr (start + ((l.getD 0 (.i 0)).cell 0).toI) - (wr (start + ((l.getD 0 (.i 0)).cell 0).toI)).tmod 86400) else wr (start + ((l.getD 0 (.i 0)).cell 0).toI)) := by
  intro b
  unfold F94x0x20
  rw [G99x0_eq (by omega), lowI_nonneg hst]
  cases b <;> rfl
 have hday2 : ∀ b : Bool, F94x0x20b N b (wr (start + ((l.getD 0 (.i 0)).cell 0).toI)) (fun p => some p) = some (bif b then wr (wr (start + ((l.getD 0 (.i 0)).cell 0).toI) - (wr (start + ((l.getD 0 (.i 0)).cell 0).toI)).tmod 86400) else wr (start + ((l.getD 0 (.i 0)).cell 0).toI)) := hday
 have hday3 : ∀ b : Bool, F94x0x20bb N b (wr (start + ((l.getD 0 (.i 0)).cell 0).toI)) (fun p => some p) = some (bif b then wr (wr (start + ((l.getD 0 (.i 0)).cell 0).toI) - (wr (start + ((l.getD 0 (.i 0)).cell 0).toI)).tmod 86400) else wr (start + ((l.getD 0 (.i 0)).cell 0).toI)) := hday
 have hrun : ∀ l : List D, (runF rs ((l.getD 0 (.i 0)).cell 0).toI l ([], true, [])) = (secL l [], (bif l.isEmpty then true else false), l.map (smpD rs ((l.getD 0 (.i 0)).cell 0).toI)) := fun l => by rw [runF_eq]; simp
 unfold G94x0 F94x0 pieceT
 rw [hin]
 cases tn with
 | true =>
  have := hnil rfl
  subst this
  have e7 : G94x0x7 N ((l.getD 0 (.i 0)).cell 0).toI start true [] = some (.inl (wr (start + ((l.getD 0 (.i 0)).cell 0).toI))) := rfl
  simp only [bnd_eq, _root_.cond_true, e7, inlB_inl, inlV_inl, G94x0x20, hday, Option.isSome_some, getD_some, G94x0x27_eq hN hl hr hn, G94x0x51_eq hN hlp, hrun, V94x0x14, F94x0x14]
  cases kdB rs 7 <;> rfl
 | false =>
  have e7 : G94x0x7 N ((l.getD 0 (.i 0)).cell 0).toI start false tags = some (.inr (wr (start + ((l.getD 0 (.i 0)).cell 0).toI), false)) := by
   unfold G94x0x7 F94x0x7 G98x0 F98x0
   rw [decide_eq_true (show (0 + tags.length) * 16 ≤ room by omega), decide_eq_true (show 0 + tags.length ≤ strMax by omega)]
   cases tags.isEmpty <;> rfl
  simp only [bnd_eq, _root_.cond_true, _root_.cond_false, e7, inlB_inr, inrQ_inr, G94x0x20b, hday2, G94x0x20bb, hday3, Option.isSome_some, getD_some, G94x0x27_eq hN hl hr hn, G94x0x51_eq hN hlp, G94x0x27b_eq hN hl hr hn, G94x0x51b_eq hN hlp, hrun, G94x0x14b, F94x0x14b]
  cases kdB rs 7 <;> rfl
end
/-! ### The reference's piece -/
section
variable {xs l laps tags : List D} {lv from_ start : Int} {name : List UInt8}
end
end Go.Proofs.Ytngnemeafkmaoaa

/-! Plain laws of chapter 10: See, Hidden. -/
namespace Go.Proofs.Ytngnemeafkmaoaa
open Go Go.AM
set_option maxRecDepth 100000
set_option maxHeartbeats 4000000
variable {N : Nat}
/-! ### Right activities -/
def aName (a : D) : List UInt8 := (a.cell 0).toS
def aSport (a : D) : Int := (a.cell 1).toI
def aStart (a : D) : Int := (a.cell 2).toI
def aSmps (a : D) : List D := (a.cell 3).items
def aLaps (a : D) : List D := (a.cell 4).items
def aTn (a : D) : Bool := (a.cell 5).isNil
def aTags (a : D) : List D := (a.cell 5).items
def TimeG (start : Int) (s : D) : Prop := 0 ≤ start + (s.cell 0).toI ∧ start + (s.cell 0).toI ≤ 86399999999
structure ActR (start : Int) (smps laps tags : List D) : Prop where
 s : smps.length ≤ 20000
 l : laps.length ≤ 200
 t : tags.length ≤ 20
 g : ∀ x ∈ smps, TimeG start x
theorem way0 {b : Bool} {n z : Int} (h : (bif b then n else z) = 0) (hn : n ≠ 0) : b = false ∧ z = 0 := by
 cases b with
 | true => exact absurd h hn
 | false => exact ⟨rfl, h⟩
theorem wayne {n z : Int} (h : (bif n != 0 then n else z) = 0) : n = 0 ∧ z = 0 := by
 cases hb : n != 0 with
 | true => rw [hb] at h; simp only [_root_.cond_true] at h; rw [h] at hb; cases hb
 | false => rw [hb] at h; exact ⟨by simpa using hb, h⟩
theorem act_right {name : List UInt8} {sport start : Int} {smps laps tags : List D} (h : chkA name sport start smps laps tags = 0) : ActR start smps laps tags := by
 unfold chkA at h
 obtain ⟨_, h⟩ := way0 h (by decide)
 obtain ⟨_, h⟩ := way0 h (by decide)
 obtain ⟨h3, h⟩ := way0 h (by decide)
 obtain ⟨h4, h⟩ := way0 h (by decide)
 obtain ⟨h5, h⟩ := wayne h
 simp only [Bool.or_eq_false_iff, decide_eq_false_iff_not] at h4
 have hst := of_decide_eq_true (show inI start 0 86399999999 = true by simpa using h3)
 have hz := firstE_zero h5
 have hw : ∀ i : Nat, i < smps.length → ordE smps i = false ∧ farB start (smps.getD i (.i 0)) = false := by
  intro i hi
  have := hz i hi
  rw [Int.zero_add] at this
  unfold smpE at this
  obtain ⟨q1, q2⟩ := way0 this (by decide)
  obtain ⟨q3, _⟩ := way0 q2 (by decide)
  simp only [Bool.or_eq_false_iff] at q3
  exact ⟨q1, by simpa using q3.1⟩
 have hpos : ∀ i : Nat, i < smps.length → 0 ≤ ((smps.getD i (.i 0)).cell 0).toI := by
  intro i
  induction i with
  | zero =>
   intro hi
   have := (hw 0 hi).1
   unfold ordE at this
   simp at this
   simp [this]
  | succ i ih =>
   intro hi
   have := (hw (i + 1) hi).1
   unfold ordE at this
   have e0 : (((i + 1 : Nat) : Int) == 0) = false := by simp; omega
   rw [e0] at this
   simp only [_root_.cond_false, decide_eq_false_iff_not] at this
   have e1 : (((i + 1 : Nat) : Int) - 1).toNat = i := by omega
   rw [e1, Int.toNat_natCast] at this
   have := ih (by omega)
   omega
 refine ⟨by omega, by omega, by omega, fun x hx => ?_⟩
 obtain ⟨i, hi, rfl⟩ := List.getElem_of_mem hx
 have h1 := hpos i hi
 have h2 := (hw i hi).2
 have e : smps.getD i (.i 0) = smps[i] := by rw [List.getD_eq_getElem?_getD, List.getElem?_eq_getElem hi]; rfl
 rw [e] at h1 h2
 unfold farB at h2
 simp only [Bool.or_eq_false_iff, decide_eq_false_iff_not] at h2
 obtain ⟨h2, h3⟩ := h2
 rw [wrapI (by omega) (by omega)] at h3
 exact ⟨by omega, by omega⟩
/-! ### The samples' runs -/
def reS (s : D) : D := .a [.i (s.cell 0).toI, .i (s.cell 1).toI, .i (s.cell 2).toI, .i (s.cell 3).toI, .i (s.cell 4).toI, .i (s.cell 5).toI, .i (s.cell 6).toI]
def gapB (now : List D) (s : D) : Bool := bif decide ((now.length : Int) > 0) then decide (wr ((s.cell 0).toI - ((now.getD (now.length - 1) (.i 0)).cell 0).toI) > 60) else false
section
variable {now : List D} {s : D}
theorem G92x0x25_eq (hl : now.length ≤ maxLen) : G92x0x25 N now.length now (s.cell 0).toI = some (gapB now s) := by
 have hm : maxLen = 9223372036854775807 := rfl
 unfold G92x0x25 F92x0x25 gapB
 cases hd : decide ((now.length : Int) > 0) with
 | false => rfl
 | true =>
  have := of_decide_eq_true hd
  rw [wrapI (by omega) (by omega), inB_of (by omega) (by omega)]
  have e : ((now.length : Int) - 1).toNat = now.length - 1 := by omega
  rw [e, decide_eq_true (show now.length - 1 < now.length by omega)]
  rfl
end
def runsF (hid : D → Bool) : List D → List D × List (List D) → List D × List (List D)
 | [], a => a
 | s :: r, a => runsF hid r (bif hid s then a else bif gapB a.1 s then ([reS s], a.2 ++ [a.1]) else (a.1 ++ [reS s], a.2))
def lastR (a : List D × List (List D)) : List (List D) := bif decide ((a.1.length : Int) > 0) then a.2 ++ [a.1] else a.2
/-- The runs of samples that are seen. -/
def seenRuns (hid : D → Bool) (l : List D) : List (List D) := lastR (runsF hid l ([], []))
/-- The program's walk: whether nothing is at hand, what is at hand; whether nothing is out, what is out. -/
def seeF (pc : List D → D) (hid : D → Bool) : List D → Ty5 → Ty5
 | [], a => a
 | s :: r, a => seeF pc hid r (bif hid s then a else bif gapB a.2.1 s then (false, [reS s], false, a.2.2.2 ++ [pc a.2.1]) else (false, a.2.1 ++ [reS s], a.2.2.1, a.2.2.2))
def seeE (pc : List D → D) (a : Ty5) : Bool × List D := bif decide ((a.2.1.length : Int) > 0) then (false, a.2.2.2 ++ [pc a.2.1]) else (a.2.2.1, a.2.2.2)
theorem seeF_runs (pc : List D → D) (hid : D → Bool) : ∀ (l : List D) (a : Ty5) (b : List D × List (List D)) (out : List D), a.2.1 = b.1 → a.2.2.2 = out ++ b.2.map pc → (seeF pc hid l a).2.1 = (runsF hid l b).1 ∧ (seeF pc hid l a).2.2.2 = out ++ (runsF hid l b).2.map pc
 | [], a, b, out, h1, h2 => ⟨h1, h2⟩
 | s :: r, a, b, out, h1, h2 => by
  rw [seeF, runsF]
  refine seeF_runs pc hid r _ _ out ?_ ?_
  ·rw [h1]; cases hid s <;> cases gapB b.1 s <;> simp [h1]
  ·rw [h1]; cases hid s <;> cases gapB b.1 s <;> simp [h2]
theorem seeE_runs (pc : List D → D) (hid : D → Bool) (l : List D) (f : Bool) (out : List D) : (seeE pc (seeF pc hid l (true, [], f, out))).2 = out ++ (seenRuns hid l).map pc := by
 obtain ⟨h1, h2⟩ := seeF_runs pc hid l (true, [], f, out) ([], []) out rfl (by simp)
 unfold seeE seenRuns lastR
 rw [h1]
 cases decide (((runsF hid l ([], [])).1.length : Int) > 0) with
 | true => simp only [_root_.cond_true, h2]; simp
 | false => simp only [_root_.cond_false, h2]
/-! ### One activity -/
def actD (sport : Int) (t : Ty0) : D := .a [.s t.1, .i sport, .i t.2.1, .l t.2.2.1 t.2.2.2.1, .l t.2.2.2.2.1 t.2.2.2.2.2.1, .l t.2.2.2.2.2.2.1 t.2.2.2.2.2.2.2]
noncomputable def pieceD (rs : List D) (name : List UInt8) (sport start : Int) (laps : List D) (tn : Bool) (tags l : List D) : D := actD sport (pieceT rs name start laps tn tags l)
theorem hidL_get {rs l : List D} {all : Bool} {start w : Int} (h0 : 0 ≤ w) (h1 : w < l.length) : ((hidL rs all start l).getD w.toNat (.i 0)).toB = hidS rs all start (l.getD w.toNat (.i 0)) := by
 unfold hidL
 rw [List.getD_eq_getElem?_getD, List.getElem?_map, List.getD_eq_getElem?_getD, List.getElem?_eq_getElem (by omega)]
 rfl
theorem hidL_len {rs l : List D} {all : Bool} {start : Int} : (hidL rs all start l).length = l.length := by unfold hidL; simp
theorem timeG_re {start : Int} {s : D} (h : TimeG start s) : TimeG start (reS s) := h
section
variable {rs smps laps tags out : List D} {name : List UInt8} {sport start : Int} {tn f : Bool}
/-- What holds of the samples at hand. -/
def NowOk (start : Int) (now : List D) (w : Int) : Prop := (now.length : Int) ≤ w ∧ ∀ s ∈ now, TimeG start s
theorem now_first {now : List D} {w : Int} (h : NowOk start now w) (h0 : 0 < now.length) : 0 ≤ wr (start + ((now.getD 0 (.i 0)).cell 0).toI) := by
 have hm : now.getD 0 (.i 0) ∈ now := getD_mem (w := 0) (by omega) (by omega)
 obtain ⟨q1, q2⟩ := h.2 _ hm
 unfold wr
 rw [wrapI (by omega) (by omega)]
 exact q1
theorem gap_pos {now : List D} {s : D} (h : gapB now s = true) : 0 < now.length := by
 unfold gapB at h
 cases hd : decide ((now.length : Int) > 0) with
 | false => rw [hd] at h; cases h
 | true => have := of_decide_eq_true hd; omega
theorem G92x0x12_eq (hN : maxLen < N) (hl : rs.length ≤ 50) (hr : ∀ r ∈ rs, RuleG r) (ha : ActR start smps laps tags) (hnil : tn = true → tags = []) (hout : out.length ≤ 40000000) (all : Bool) :
  G92x0x12 N (hidL rs all start smps) smps smps.length name sport start laps tn tags (fldB rs 1) (fldB rs 2) (fldB rs 3) (fldB rs 4) (grdL rs) (kdB rs 6) (kdB rs 7) 0 true [] f out = some (seeF (pieceD rs name sport start laps tn tags) (hidS rs all start) smps (true, [], f, out)) ∧
  NowOk start (seeF (pieceD rs name sport start laps tn tags) (hidS rs all start) smps (true, [], f, out)).2.1 smps.length ∧ (seeF (pieceD rs name sport start laps tn tags) (hidS rs all start) smps (true, [], f, out)).2.2.2.length ≤ out.length + smps.length := by
 have hm : maxLen = 9223372036854775807 := rfl
 have hs := ha.s
 constructor
 ·unfold G92x0x12
  refine fold_ind (.i 0 : D) (A := Ty5) (S := fun w a kr => S92x0x12 N (hidL rs all start smps) smps smps.length name sport start laps tn tags (fldB rs 1) (fldB rs 2) (fldB rs 3) (fldB rs 4) (grdL rs) (kdB rs 6) (kdB rs 7) w a.1 a.2.1 a.2.2.1 a.2.2.2 (fun w a b c d => kr w (a, b, c, d)) _)
   (L := fun m w a => L92x0x12 N (hidL rs all start smps) smps smps.length name sport start laps tn tags (fldB rs 1) (fldB rs 2) (fldB rs 3) (fldB rs 4) (grdL rs) (kdB rs 6) (kdB rs 7) m w a.1 a.2.1 a.2.2.1 a.2.2.2 _) (fun m w a => rfl) (fun w l a => some (seeF (pieceD rs name sport start laps tn tags) (hidS rs all start) l a))
   (fun w a => NowOk start a.2.1 w ∧ (a.2.2.2.length : Int) ≤ out.length + w) (by omega) ?_ ?_ hN (a := (true, [], f, out)) ⟨⟨by simp, fun s hs => by simp at hs⟩, by simp⟩
  ·intro a kr _; simp [S92x0x12, seeF]
  ·intro w a kr h0 h1 hw hi ⟨hno, hol⟩ hk
   have hi2 : inB w (hidL rs all start smps).length = true := by rw [hidL_len]; exact hi
   have hno1 := hno.1
   have htg := ha.g _ (getD_mem h0 h1)
   simp only [S92x0x12, decide_eq_true h1, _root_.cond_true, hi, hi2, bnd_eq, hw, seeF, hidL_get h0 h1, G92x0x25_eq (show a.2.1.length ≤ maxLen by omega), Option.isSome_some, getD_some]
   cases hidS rs all start (smps.getD w.toNat (.i 0)) with
   | true => exact hk a ⟨⟨by omega, hno.2⟩, by omega⟩
   | false =>
    cases hg : gapB a.2.1 (smps.getD w.toNat (.i 0)) with
    | true =>
     have hp := gap_pos hg
     simp only [G92x0x29, F92x0x29, G92x0x28, F92x0x28, _root_.cond_true, _root_.cond_false, bnd_eq, G94x0_eq hN hl hr (show a.2.1.length ≤ 20000 by omega) hp ha.l ha.t hnil (now_first hno hp), Option.isSome_some, getD_some, inlB_inl, inlV_inl, roomL (n := a.2.2.2.length) (sz := 104) (b := 40020000) (by omega) (by omega) (by omega)]
     exact hk (false, [reS (smps.getD w.toNat (.i 0))], false, a.2.2.2 ++ [pieceD rs name sport start laps tn tags a.2.1]) ⟨⟨by simp; omega, fun s hs => by rw [List.mem_singleton] at hs; rw [hs]; exact timeG_re htg⟩, by simp; omega⟩
    | false =>
     simp only [G92x0x29, F92x0x29, _root_.cond_false, inlB_inr, inrQ_inr, Option.isSome_some, _root_.cond_true, roomL (n := a.2.1.length) (sz := 56) (b := 20000) (by omega) (by omega) (by omega), bnd_eq]
     exact hk (false, a.2.1 ++ [reS (smps.getD w.toNat (.i 0))], a.2.2.1, a.2.2.2) ⟨⟨by simp; omega, fun s hs => by
      rcases List.mem_append.1 hs with hs | hs
      ·exact hno.2 s hs
      ·rw [List.mem_singleton] at hs; rw [hs]; exact timeG_re htg⟩, by simp only; omega⟩
 ·have : ∀ (l : List D) (a : Ty5) (w : Int), (∀ s ∈ l, TimeG start s) → NowOk start a.2.1 w → NowOk start (seeF (pieceD rs name sport start laps tn tags) (hidS rs all start) l a).2.1 (w + l.length) ∧ (seeF (pieceD rs name sport start laps tn tags) (hidS rs all start) l a).2.2.2.length ≤ a.2.2.2.length + l.length := by
   intro l
   induction l with
   | nil => intro a w _ h; exact ⟨by simpa [seeF] using h, by simp [seeF]⟩
   | cons s r ih =>
    intro a w hg hn
    have hgs := hg s (by simp)
    have hgr : ∀ s ∈ r, TimeG start s := fun x hx => hg x (by simp [hx])
    rw [seeF]
    have hn1 := hn.1
    cases hidS rs all start s with
    | true =>
     obtain ⟨q1, q2⟩ := ih a (w + 1) hgr ⟨by omega, hn.2⟩
     refine ⟨?_, ?_⟩
     ·rw [List.length_cons, show w + ((r.length + 1 : Nat) : Int) = w + 1 + r.length by omega]; exact q1
     ·simp only [_root_.cond_true, List.length_cons] at q2 ⊢; omega
    | false =>
     cases hgp : gapB a.2.1 s with
     | true =>
      obtain ⟨q1, q2⟩ := ih (false, [reS s], false, a.2.2.2 ++ [pieceD rs name sport start laps tn tags a.2.1]) (w + 1) hgr ⟨by have := gap_pos hgp; simp; omega, fun x hx => by rw [List.mem_singleton] at hx; rw [hx]; exact timeG_re hgs⟩
      refine ⟨?_, ?_⟩
      ·rw [List.length_cons, show w + ((r.length + 1 : Nat) : Int) = w + 1 + r.length by omega]; exact q1
      ·simp only [_root_.cond_true, _root_.cond_false, List.length_cons, List.length_append] at q2 ⊢; simp at q2; omega
     | false =>
      obtain ⟨q1, q2⟩ := ih (false, a.2.1 ++ [reS s], a.2.2.1, a.2.2.2) (w + 1) hgr ⟨by simp; omega, fun x hx => by
       rcases List.mem_append.1 hx with hx | hx
       ·exact hn.2 x hx
       ·rw [List.mem_singleton] at hx; rw [hx]; exact timeG_re hgs⟩
      refine ⟨?_, ?_⟩
      ·rw [List.length_cons, show w + ((r.length + 1 : Nat) : Int) = w + 1 + r.length by omega]; exact q1
      ·simp only [_root_.cond_false, List.length_cons] at q2 ⊢; omega
  obtain ⟨q1, q2⟩ := this smps (true, [], f, out) 0 ha.g ⟨by simp, fun s hs => by simp at hs⟩
  exact ⟨by simpa using q1, q2⟩
/-- What the program sees of an activity, behind what is out. -/
noncomputable def seeR (rs : List D) (name : List UInt8) (sport start : Int) (smps laps : List D) (tn : Bool) (tags : List D) (f : Bool) (out : List D) : Bool × List D :=
 seeE (pieceD rs name sport start laps tn tags) (seeF (pieceD rs name sport start laps tn tags) (hidS rs (rs.any (wholeB sport tags)) start) smps (true, [], f, out))
theorem G92x0_eq (hN : maxLen < N) (hl : rs.length ≤ 50) (hr : ∀ r ∈ rs, RuleG r) (ha : ActR start smps laps tags) (hnil : tn = true → tags = []) (hout : out.length ≤ 40000000) :
  ∃ x, G92x0 N rs name sport start smps laps tn tags f out = some x ∧ ((x = .inl (seeR rs name sport start smps laps tn tags f out).2 ∧ (seeR rs name sport start smps laps tn tags f out).1 = false) ∨ x = .inr (seeR rs name sport start smps laps tn tags f out)) := by
 have hm : maxLen = 9223372036854775807 := rfl
 obtain ⟨y0, y1, e93⟩ := G93x0_eq hN hl hr
 obtain ⟨e12, hno, hol⟩ := G92x0x12_eq (name := name) (sport := sport) (tn := tn) (f := f) (out := out) hN hl hr ha hnil hout (rs.any (wholeB sport tags))
 have hs := ha.s
 have ht := ha.t
 unfold G92x0 F92x0 seeR
 simp only [bnd_eq, G40x0_eq hN (lt50 hl) ha.s (show tags.length ≤ maxLen by omega), Option.isSome_some, getD_some, _root_.cond_true, e93, e12]
 generalize seeF (pieceD rs name sport start laps tn tags) (hidS rs (rs.any (wholeB sport tags)) start) smps (true, [], f, out) = a at hno hol
 unfold seeE G92x0x44 F92x0x44
 cases hd : decide ((a.2.1.length : Int) > 0) with
 | false => exact ⟨_, rfl, .inr rfl⟩
 | true =>
  have hp := of_decide_eq_true hd
  have hno1 := hno.1
  simp only [G92x0x43, F92x0x43, bnd_eq, G94x0_eq hN hl hr (show a.2.1.length ≤ 20000 by omega) (by omega) ha.l ha.t hnil (now_first hno (by omega)), Option.isSome_some, getD_some, _root_.cond_true, roomL (n := a.2.2.2.length) (sz := 104) (b := 40020000) (by omega) (by omega) (by omega)]
  exact ⟨_, rfl, .inl ⟨rfl, trivial⟩⟩
theorem seeR_snd : (seeR rs name sport start smps laps tn tags f out).2 = out ++ (seenRuns (hidS rs (rs.any (wholeB sport tags)) start) smps).map (pieceD rs name sport start laps tn tags) := seeE_runs _ _ _ _ _
end
theorem runsF_len (hid : D → Bool) : ∀ (l : List D) (a : List D × List (List D)), (runsF hid l a).2.length + (bif decide (((runsF hid l a).1.length : Int) > 0) then 1 else 0) ≤ a.2.length + (bif decide ((a.1.length : Int) > 0) then 1 else 0) + l.length
 | [], a => by simp [runsF]
 | s :: r, a => by
  rw [runsF]
  refine Nat.le_trans (runsF_len hid r _) ?_
  rw [List.length_cons]
  cases hid s with
  | true => simp only [_root_.cond_true]; omega
  | false =>
   cases hg : gapB a.1 s with
   | true =>
    have hp := gap_pos hg
    have e : decide ((a.1.length : Int) > 0) = true := decide_eq_true (by omega)
    rw [e]; simp; omega
   | false =>
    simp
    cases decide (0 < a.1.length) <;> simp <;> omega
theorem seenRuns_len (hid : D → Bool) (l : List D) : (seenRuns hid l).length ≤ l.length := by
 have := runsF_len hid l ([], [])
 unfold seenRuns lastR
 cases hd : decide (((runsF hid l ([], [])).1.length : Int) > 0) with
 | true => rw [hd] at this; simp at this ⊢; omega
 | false => rw [hd] at this; simp at this ⊢; omega
/-! ### Many activities -/
structure ActG (a : D) : Prop where
 r : ActR (aStart a) (aSmps a) (aLaps a) (aTags a)
 n : aTn a = true → aTags a = []
noncomputable def seeX (rs : List D) (a : D) (f : Bool) (out : List D) : Bool × List D := seeR rs (aName a) (aSport a) (aStart a) (aSmps a) (aLaps a) (aTn a) (aTags a) f out
noncomputable def allF (rs : List D) : List D → Bool × List D → Bool × List D
 | [], a => a
 | x :: l, a => allF rs l (seeX rs x a.1 a.2)
/-- What is seen of an activity. -/
noncomputable def seenA (rs : List D) (tn : Bool) (a : D) : List D := (seenRuns (hidS rs (rs.any (wholeB (aSport a) (aTags a))) (aStart a)) (aSmps a)).map (pieceD rs (aName a) (aSport a) (aStart a) (aLaps a) tn (aTags a))
theorem seenA_len {rs : List D} {tn : Bool} {a : D} (h : ActG a) : (seenA rs tn a).length ≤ 20000 := by
 unfold seenA
 rw [List.length_map]
 exact Nat.le_trans (seenRuns_len _ _) h.r.s
theorem seeX_snd {rs : List D} {a : D} {f : Bool} {out : List D} : (seeX rs a f out).2 = out ++ seenA rs (aTn a) a := seeR_snd
theorem allF_snd (rs : List D) : ∀ (l : List D) (a : Bool × List D), (allF rs l a).2 = a.2 ++ l.flatMap fun x => seenA rs (aTn x) x
 | [], a => by simp [allF]
 | x :: l, a => by rw [allF, allF_snd rs l, seeX_snd]; simp
section
variable {rs xs l : List D} {lv : Int}
theorem G44x0x12_eq (hN : maxLen < N) (hl : rs.length ≤ 50) (hr : ∀ r ∈ rs, RuleG r) (hn : l.length ≤ 2000) (ha : ∀ a ∈ l, ActG a) : G44x0x12 N rs l l.length 0 true [] = some (allF rs l (true, [])) := by
 have hm : maxLen = 9223372036854775807 := rfl
 unfold G44x0x12
 refine fold_ind (.i 0 : D) (A := Bool × List D) (S := fun w a kr => S44x0x12 N rs l l.length w a.1 a.2 (fun w b l => kr w (b, l)) _) (L := fun m w a => L44x0x12 N rs l l.length m w a.1 a.2 _) (fun m w a => rfl) (fun w l a => some (allF rs l a)) (fun w a => (a.2.length : Int) ≤ 20000 * w) (by omega) ?_ ?_ hN (a := (true, [])) (by simp)
 ·intro a kr _; simp [S44x0x12, allF]
 ·intro w a kr h0 h1 hw hi hol hk
  have hg := ha _ (getD_mem h0 h1)
  have hlen := seenA_len (rs := rs) (tn := aTn (l.getD w.toNat (.i 0))) hg
  obtain ⟨x, e, hx⟩ := G92x0_eq (name := aName (l.getD w.toNat (.i 0))) (sport := aSport (l.getD w.toNat (.i 0))) (f := a.1) (out := a.2) hN hl hr hg.r hg.n (by omega)
  have e : G92x0 N rs ((l.getD w.toNat (.i 0)).cell 0).toS ((l.getD w.toNat (.i 0)).cell 1).toI ((l.getD w.toNat (.i 0)).cell 2).toI ((l.getD w.toNat (.i 0)).cell 3).items ((l.getD w.toNat (.i 0)).cell 4).items ((l.getD w.toNat (.i 0)).cell 5).isNil ((l.getD w.toNat (.i 0)).cell 5).items a.1 a.2 = some x := e
  have hsn : (seeX rs (l.getD w.toNat (.i 0)) a.1 a.2).2.length ≤ a.2.length + 20000 := by rw [seeX_snd, List.length_append]; omega
  have hk2 := hk (seeX rs (l.getD w.toNat (.i 0)) a.1 a.2) (by omega)
  simp only [S44x0x12, decide_eq_true h1, _root_.cond_true, hi, bnd_eq, hw, allF, G44x0x600000022, F44x0x600000022, e, Option.isSome_some, getD_some]
  rcases hx with ⟨rfl, hf⟩ | rfl
  ·simp only [inlB_inl, inlV_inl, _root_.cond_true]
   rw [← hk2]
   show kr (w + 1) (false, _) = _
   congr 1
   exact Prod.ext hf.symm rfl
  ·exact hk2
theorem G44x0_eq (hN : maxLen < N) (hv : VeilRight xs) (hn : l.length ≤ 2000) (ha : ∀ a ∈ l, ActG a) : ∃ b, G44x0 N xs lv l = some (b, l.flatMap fun x => seenA (appl xs lv) (aTn x) x) := by
 have hm : maxLen = 9223372036854775807 := rfl
 obtain ⟨b, e⟩ := G41x0_eq (lv := lv) hN hv.l
 have h50 : (appl xs lv).length ≤ 50 := Nat.le_trans appl_len hv.l
 have hg : ∀ r ∈ appl xs lv, RuleG r := appl_good fun r hr => ruleG_of (hv.mem hr)
 refine ⟨(allF (appl xs lv) l (true, [])).1, ?_⟩
 unfold G44x0 F44x0
 simp only [bnd_eq, e, Option.isSome_some, getD_some, _root_.cond_true, G44x0x12_eq hN h50 hg hn ha]
 have := allF_snd (appl xs lv) l (true, [])
 rw [List.nil_append] at this
 exact congrArg some (pair_of this)
end
/-! ### The reference's see -/
section
variable {xs smps laps tags : List D} {lv sport start : Int} {name : List UInt8}
end
/-! ### What is checked ahead -/
section
variable {xs l : List D} {lv : Int}
noncomputable def chkD (a : D) : Int := chkA (aName a) (aSport a) (aStart a) (aSmps a) (aLaps a) (aTags a)
/-- A law's activity as a datum. -/
def ActOkD (a : D) : Prop := ActOk (aName a) (aSmps a) (aLaps a) (aTags a)
noncomputable def faultV (xs : List D) (lv : Int) (l : List D) : Int := bif chkV xs != 0 then chkV xs else bif !inI lv 0 3 then 9 else firstE (fun w => chkD (l.getD w.toNat (.i 0))) 0 l
theorem way_flt (e : Int) : (bif inlB (some (wayE e)) then some (inlV (some (wayE e))) else bif (inrQ (some (wayE e))).isSome then some 0 else none) = some e := by
 have := way_chk false e
 simpa using this
theorem G39x0_eq (hN : maxLen < N) (hv : VeilOk xs) (hn : l.length ≤ maxLen) (ha : ∀ a ∈ l, ActOkD a) : G39x0 N xs lv l = some (faultV xs lv l) := by
 have e : G39x0x21 N l l.length 0 = some (wayE (firstE (fun w => chkD (l.getD w.toNat (.i 0))) 0 l)) := by
  unfold G39x0x21
  refine (for_ind (.i 0 : D) (S := fun w kr => S39x0x21 N l l.length w kr _ _) (L := fun m w => L39x0x21 N l l.length m w _ _) (fun m w => rfl) (fun w l' => some (wayE (firstE (fun w => chkD (l.getD w.toNat (.i 0))) w l'))) hn ?_ ?_ hN).trans rfl
  ·intro kr; simp [S39x0x21, firstE, wayE]
  ·intro w kr h0 h1 hw hi hk
   have hx : G65x0 N ((l.getD w.toNat (.i 0)).cell 0).toS ((l.getD w.toNat (.i 0)).cell 1).toI ((l.getD w.toNat (.i 0)).cell 2).toI ((l.getD w.toNat (.i 0)).cell 3).items ((l.getD w.toNat (.i 0)).cell 4).items ((l.getD w.toNat (.i 0)).cell 5).items = some (chkD (l.getD w.toNat (.i 0))) := G65x0_eq hN (ha _ (getD_mem h0 h1))
   simp only [S39x0x21, decide_eq_true h1, _root_.cond_true, hi, bnd_eq, hw, hk, hx, Option.isSome_some, getD_some, wayE_cons]
   cases chkD (l.getD w.toNat (.i 0)) != 0 <;> rfl
 unfold G39x0 F39x0 faultV
 simp only [bnd_eq, G32x0_eq hN hv, Option.isSome_some, getD_some, _root_.cond_true, V64x0_eq, e, way_flt]
 cases chkV xs != 0 <;> cases inI lv 0 3 <;> rfl
theorem G42x0_eq (hN : maxLen < N) (hv : VeilOk xs) (hn : l.length ≤ 2000) (ha : ∀ a ∈ l, ActOkD a) (log : Bool) : G42x0 N xs lv log l = some (faultV xs lv l) := by
 have hm : maxLen = 9223372036854775807 := rfl
 have e : G42x0x27 N l l.length 0 = some (wayE (firstE (fun w => chkD (l.getD w.toNat (.i 0))) 0 l)) := by
  unfold G42x0x27
  refine (for_ind (.i 0 : D) (S := fun w kr => S42x0x27 N l l.length w kr _ _) (L := fun m w => L42x0x27 N l l.length m w _ _) (fun m w => rfl) (fun w l' => some (wayE (firstE (fun w => chkD (l.getD w.toNat (.i 0))) w l'))) (by omega) ?_ ?_ hN).trans rfl
  ·intro kr; simp [S42x0x27, firstE, wayE]
  ·intro w kr h0 h1 hw hi hk
   have hx : G16x0 N ((l.getD w.toNat (.i 0)).cell 0).toS ((l.getD w.toNat (.i 0)).cell 1).toI ((l.getD w.toNat (.i 0)).cell 2).toI ((l.getD w.toNat (.i 0)).cell 3).items ((l.getD w.toNat (.i 0)).cell 4).items ((l.getD w.toNat (.i 0)).cell 5).items = some (chkD (l.getD w.toNat (.i 0))) := G16x0_eq hN (ha _ (getD_mem h0 h1))
   simp only [S42x0x27, decide_eq_true h1, _root_.cond_true, hi, bnd_eq, hw, hk, hx, Option.isSome_some, getD_some, wayE_cons]
   cases chkD (l.getD w.toNat (.i 0)) != 0 <;> rfl
 unfold G42x0 F42x0 faultV
 rw [decide_eq_false (show ¬ ((l.length : Int) > 2000) by omega)]
 simp only [bnd_eq, G33x0_eq hN hv, Option.isSome_some, getD_some, _root_.cond_true, V73x0_eq, e, way_flt]
 cases chkV xs != 0 <;> cases inI lv 0 3 <;> cases log <;> rfl
/-- What is right, where nothing is at fault. -/
theorem fault_right (h : faultV xs lv l = 0) : VeilRight xs ∧ inI lv 0 3 = true ∧ ∀ a ∈ l, chkD a = 0 := by
 unfold faultV at h
 obtain ⟨h1, h⟩ := wayne h
 obtain ⟨h2, h⟩ := way0 h (by decide)
 refine ⟨right_of h1, by simpa using h2, fun a ha => ?_⟩
 obtain ⟨i, hi, rfl⟩ := List.getElem_of_mem ha
 have := firstE_zero h i hi
 rw [Int.zero_add, Int.toNat_natCast, List.getD_eq_getElem?_getD, List.getElem?_eq_getElem hi] at this
 exact this
end
end Go.Proofs.Ytngnemeafkmaoaa

/-! Plain laws of chapter 10: lists of activities; See, Hidden, Tells, Audience of both. -/
namespace Go.Proofs.Ytngnemeafkmaoaa
open Go Go.AM
set_option maxRecDepth 100000
set_option maxHeartbeats 4000000
variable {N : Nat}
section
variable {xs ys : List D}
end
section
variable {rs : List D} {tn : Bool} {a : D}
theorem runsF_in (hid : D → Bool) : ∀ (l : List D) (b : List D × List (List D)) (n : Nat), b.1.length ≤ n → (∀ r ∈ b.2, r.length ≤ n) → (runsF hid l b).1.length ≤ n + l.length ∧ ∀ r ∈ (runsF hid l b).2, r.length ≤ n + l.length
 | [], b, n, h1, h2 => ⟨h1, h2⟩
 | s :: l, b, n, h1, h2 => by
  rw [runsF, List.length_cons, show n + (l.length + 1) = (n + 1) + l.length by omega]
  cases hid s with
  | true => exact runsF_in hid l b (n + 1) (by omega) fun r hr => Nat.le_succ_of_le (h2 r hr)
  | false =>
   cases gapB b.1 s with
   | true =>
    refine runsF_in hid l _ (n + 1) (by simp) fun r hr => ?_
    simp only [_root_.cond_true, _root_.cond_false, List.mem_append, List.mem_singleton] at hr
    rcases hr with hr | rfl
    ·exact Nat.le_succ_of_le (h2 r hr)
    ·omega
   | false => exact runsF_in hid l _ (n + 1) (by simp; omega) fun r hr => Nat.le_succ_of_le (h2 r hr)
theorem seenRuns_in (hid : D → Bool) (l : List D) : ∀ r ∈ seenRuns hid l, r.length ≤ l.length := by
 obtain ⟨h1, h2⟩ := runsF_in hid l ([], []) 0 (by simp) (fun r hr => by simp at hr)
 intro r hr
 unfold seenRuns lastR at hr
 rw [Nat.zero_add] at h1 h2
 cases hd : decide (((runsF hid l ([], [])).1.length : Int) > 0) with
 | true =>
  rw [hd] at hr
  simp only [_root_.cond_true, List.mem_append, List.mem_singleton] at hr
  rcases hr with hr | rfl
  ·exact h2 r hr
  ·exact h1
 | false => rw [hd] at hr; exact h2 r hr
theorem seenA_max (h : ActG a) : (seenA rs tn a).length ≤ maxLen := by
 have hm : maxLen = 9223372036854775807 := rfl
 have := seenA_len (rs := rs) (tn := tn) h
 omega
end
/-! ### The functions -/
section
variable {xs : List D} {lv sp st : Int} {nm : List UInt8} {sn ln tn : Bool} {s l t : List D}
def mkA (nm : List UInt8) (sp st : Int) (sn : Bool) (s : List D) (ln : Bool) (l : List D) (tn : Bool) (t : List D) : D := .a [.s nm, .i sp, .i st, .l sn s, .l ln l, .l tn t]
theorem mkA_good (hc : chkD (mkA nm sp st sn s ln l tn t) = 0) (hn : tn = true → t = []) : ActG (mkA nm sp st sn s ln l tn t) := ⟨act_right hc, hn⟩
theorem one_ok {P : D → Prop} {x : D} (h : P x) : ∀ a ∈ [x], P a := fun a ha => by rw [List.mem_singleton] at ha; rw [ha]; exact h
theorem G13x0_eq (hN : maxLen < N) (hv : VeilOk xs) (ha : ActOk nm s l t) (hn : tn = true → t = []) :
  ∃ b, G13x0 N xs lv nm sp st sn s ln l tn t = some (b, (bif faultV xs lv [mkA nm sp st sn s ln l tn t] != 0 then [] else seenA (appl xs lv) tn (mkA nm sp st sn s ln l tn t)), faultV xs lv [mkA nm sp st sn s ln l tn t]) := by
 have hm : maxLen = 9223372036854775807 := rfl
 unfold G13x0 F13x0
 rw [show (D.a [.s nm, .i sp, .i st, .l sn s, .l ln l, .l tn t]) = mkA nm sp st sn s ln l tn t from rfl]
 simp only [bnd_eq, G39x0_eq (l := [mkA nm sp st sn s ln l tn t]) (lv := lv) hN hv (by simp; omega) (one_ok ha), Option.isSome_some, getD_some, _root_.cond_true]
 cases hf : faultV xs lv [mkA nm sp st sn s ln l tn t] != 0 with
 | true => exact ⟨true, rfl⟩
 | false =>
  simp only [bne_eq_false_iff_eq] at hf
  obtain ⟨r1, r2, r3⟩ := fault_right hf
  obtain ⟨b, e⟩ := G44x0_eq (l := [mkA nm sp st sn s ln l tn t]) (lv := lv) hN r1 (by simp) (one_ok (mkA_good (r3 (mkA nm sp st sn s ln l tn t) (by simp)) hn))
  rw [e, hf]
  refine ⟨b, ?_⟩
  simp only [_root_.cond_false, Option.isSome_some, getD_some, _root_.cond_true, List.flatMap_cons, List.flatMap_nil, List.append_nil]
  rfl
noncomputable def hidA (xs : List D) (lv : Int) (a : D) : List D := hidL (appl xs lv) ((appl xs lv).any (wholeB (aSport a) (aTags a))) (aStart a) (aSmps a)
noncomputable def allA (xs : List D) (lv : Int) (a : D) : Bool := (appl xs lv).any (wholeB (aSport a) (aTags a))
theorem G10x0_eq (hN : maxLen < N) (hv : VeilOk xs) (ha : ActOk nm s l t) :
  ∃ b, G10x0 N xs lv nm sp st sn s ln l tn t = some (b, (bif faultV xs lv [mkA nm sp st sn s ln l tn t] != 0 then [] else hidA xs lv (mkA nm sp st sn s ln l tn t)), (bif faultV xs lv [mkA nm sp st sn s ln l tn t] != 0 then false else allA xs lv (mkA nm sp st sn s ln l tn t)), faultV xs lv [mkA nm sp st sn s ln l tn t]) := by
 have hm : maxLen = 9223372036854775807 := rfl
 unfold G10x0 F10x0
 rw [show (D.a [.s nm, .i sp, .i st, .l sn s, .l ln l, .l tn t]) = mkA nm sp st sn s ln l tn t from rfl]
 simp only [bnd_eq, G39x0_eq (l := [mkA nm sp st sn s ln l tn t]) (lv := lv) hN hv (by simp; omega) (one_ok ha), Option.isSome_some, getD_some, _root_.cond_true]
 cases hf : faultV xs lv [mkA nm sp st sn s ln l tn t] != 0 with
 | true => exact ⟨true, rfl⟩
 | false =>
  simp only [bne_eq_false_iff_eq] at hf
  obtain ⟨r1, r2, r3⟩ := fault_right hf
  have hr := act_right (r3 (mkA nm sp st sn s ln l tn t) (by simp))
  have h1 : s.length ≤ 20000 := hr.s
  have h2 : t.length ≤ 20 := hr.t
  obtain ⟨b, e⟩ := G41x0_eq (lv := lv) hN r1.l
  rw [e, hf]
  simp only [_root_.cond_false, Option.isSome_some, getD_some, _root_.cond_true, G40x0_eq (sport := sp) (start := st) hN (lt50 (Nat.le_trans (appl_len (xs := xs) (lv := lv)) r1.l)) h1 (show t.length ≤ maxLen by omega)]
  exact ⟨_, rfl⟩
theorem G11x0_eq (hN : maxLen < N) (hv : VeilOk xs) (ha : ActOk nm s l t) :
  ∃ b, G11x0 N xs lv nm sp st sn s ln l tn t = some (b, (bif faultV xs lv [mkA nm sp st sn s ln l tn t] != 0 then [] else hidA xs lv (mkA nm sp st sn s ln l tn t)), (bif faultV xs lv [mkA nm sp st sn s ln l tn t] != 0 then false else allA xs lv (mkA nm sp st sn s ln l tn t)), faultV xs lv [mkA nm sp st sn s ln l tn t]) := by
 have hm : maxLen = 9223372036854775807 := rfl
 unfold G11x0 F11x0
 rw [show (D.a [.s nm, .i sp, .i st, .l sn s, .l ln l, .l tn t]) = mkA nm sp st sn s ln l tn t from rfl]
 simp only [bnd_eq, G42x0_eq (l := [mkA nm sp st sn s ln l tn t]) (lv := lv) hN hv (by simp) (one_ok ha), Option.isSome_some, getD_some, _root_.cond_true]
 cases hf : faultV xs lv [mkA nm sp st sn s ln l tn t] != 0 with
 | true => exact ⟨true, rfl⟩
 | false =>
  simp only [bne_eq_false_iff_eq] at hf
  obtain ⟨r1, r2, r3⟩ := fault_right hf
  have hr := act_right (r3 (mkA nm sp st sn s ln l tn t) (by simp))
  have h1 : s.length ≤ 20000 := hr.s
  have h2 : t.length ≤ 20 := hr.t
  obtain ⟨b, e⟩ := G43x0_eq (lv := lv) (sport := sp) (start := st) hN r1.l h1 (show t.length ≤ maxLen by omega)
  rw [e, hf]
  exact ⟨_, rfl⟩
end
end Go.Proofs.Ytngnemeafkmaoaa

/-! Plain laws of chapter 10: Tells and Audience of both. -/
namespace Go.Proofs.Ytngnemeafkmaoaa
open Go Go.AM
set_option maxRecDepth 100000
set_option maxHeartbeats 4000000
variable {N : Nat}
section
variable {xs : List D} {lv sp st sp' st' : Int} {nm nm' : List UInt8} {sn ln tn sn' ln' tn' : Bool} {s l t s' l' t' : List D}
end
end Go.Proofs.Ytngnemeafkmaoaa

/-! Plain laws of chapter 10: what is seen of a right activity is a right activity. -/
namespace Go.Proofs.Ytngnemeafkmaoaa
open Go Go.AM
set_option maxRecDepth 100000
set_option maxHeartbeats 4000000
variable {N : Nat}
abbrev sec (s : D) : Int := (s.cell 0).toI
/-- What Check asks of a sample. -/
structure SmpC (start : Int) (s : D) : Prop where
 lo : 0 ≤ sec s
 hi : sec s ≤ 1000000
 far : start + sec s ≤ 86399999999
 rng : rngB s = true
def Asc (l : List D) : Prop := l.Pairwise fun a b => sec a < sec b
/-- A lap ends before the next begins. -/
def LapB (a b : D) : Prop := (a.cell 0).toI < (a.cell 1).toI ∧ (a.cell 1).toI ≤ (b.cell 0).toI ∧ (b.cell 0).toI < (b.cell 1).toI
theorem getD_at {l : List D} {i : Nat} (h : i < l.length) : l.getD i (.i 0) = l[i] := by
 rw [List.getD_eq_getElem?_getD, List.getElem?_eq_getElem h]; rfl
theorem pairwise_of {R : D → D → Prop} (tr : ∀ a b c, R a b → R b c → R a c) {l : List D} (h : ∀ i, i + 1 < l.length → R (l.getD i (.i 0)) (l.getD (i + 1) (.i 0))) : l.Pairwise R := by
 rw [List.pairwise_iff_getElem]
 have hk : ∀ k i, i + 1 + k < l.length → R (l.getD i (.i 0)) (l.getD (i + 1 + k) (.i 0)) := by
  intro k
  induction k with
  | zero => intro i hi; exact h i hi
  | succ k ih =>
   intro i hi
   exact tr _ _ _ (ih i (by omega)) (h (i + 1 + k) (by omega))
 intro i j hi hj hij
 obtain ⟨k, rfl⟩ : ∃ k, j = i + 1 + k := ⟨j - i - 1, by omega⟩
 have := hk k i hj
 rwa [getD_at hi, getD_at hj] at this
theorem pairwise_get {R : D → D → Prop} {l : List D} (h : l.Pairwise R) {i j : Nat} (hij : i < j) (hj : j < l.length) : R (l.getD i (.i 0)) (l.getD j (.i 0)) := by
 rw [getD_at hj, getD_at (by omega : i < l.length)]
 exact List.pairwise_iff_getElem.1 h i j _ hj hij
theorem firstE_of {e : Int → Int} : ∀ {l : List D} {w : Int}, (∀ i : Nat, i < l.length → e (w + i) = 0) → firstE e w l = 0
 | [], _, _ => rfl
 | _ :: r, w, h => by
  have h0 := h 0 (by simp)
  simp only [Int.natCast_zero, Int.add_zero] at h0
  simp only [firstE, h0]
  refine firstE_of (l := r) fun i hi => ?_
  have := h (i + 1) (by simp; omega)
  rwa [show w + ((i + 1 : Nat) : Int) = w + 1 + i by omega] at this
theorem wr_of {n : Int} (h0 : -9000000000000000000 ≤ n) (h1 : n ≤ 9000000000000000000) : wr n = n := wrapI (by omega) (by omega)
theorem wrap_of {n : Int} (h0 : -9000000000000000000 ≤ n) (h1 : n ≤ 9000000000000000000) : IntKind.wrap .i64 n = n := wrapI (by omega) (by omega)
section
variable {name : List UInt8} {sport start : Int} {smps laps tags l : List D}
structure ActC (name : List UInt8) (sport start : Int) (smps laps tags : List D) : Prop where
 n : nameB name = true
 sp : inI sport 1 5 = true
 st0 : 0 ≤ start
 st1 : start ≤ 86399999999
 s : smps.length ≤ 20000
 l : laps.length ≤ 200
 t : tags.length ≤ 20
 asc : Asc smps
 ok : ∀ s ∈ smps, SmpC start s
 lo : ∀ x ∈ laps, (x.cell 0).toI < (x.cell 1).toI ∧ titleB (x.cell 2).toS = true
 lp : laps.Pairwise LapB
 tg : firstE (tagE tags) 0 tags = 0
theorem smps_of (h0 : 0 ≤ start) (h : firstE (smpE start smps) 0 smps = 0) (hst : start ≤ 86399999999) : Asc smps ∧ ∀ s ∈ smps, SmpC start s := by
 have hz := firstE_zero h
 have hw : ∀ i : Nat, i < smps.length → ordE smps i = false ∧ farB start (smps.getD i (.i 0)) = false ∧ rngB (smps.getD i (.i 0)) = true := by
  intro i hi
  have := hz i hi
  rw [Int.zero_add] at this
  unfold smpE at this
  obtain ⟨q1, q2⟩ := way0 this (by decide)
  obtain ⟨q3, _⟩ := way0 q2 (by decide)
  simp only [Bool.or_eq_false_iff] at q3
  exact ⟨q1, by simpa using q3⟩
 have hord : ∀ i : Nat, i + 1 < smps.length → sec (smps.getD i (.i 0)) < sec (smps.getD (i + 1) (.i 0)) := by
  intro i hi
  have := (hw (i + 1) hi).1
  unfold ordE at this
  have e0 : (((i + 1 : Nat) : Int) == 0) = false := by simp; omega
  rw [e0] at this
  simp only [_root_.cond_false, decide_eq_false_iff_not] at this
  have e1 : (((i + 1 : Nat) : Int) - 1).toNat = i := by omega
  rw [e1, Int.toNat_natCast] at this
  unfold sec
  omega
 have hasc : Asc smps := pairwise_of (fun a b c h1 h2 => by omega) hord
 refine ⟨hasc, fun x hx => ?_⟩
 obtain ⟨i, hi, rfl⟩ := List.getElem_of_mem hx
 have hlo : 0 ≤ sec (smps.getD i (.i 0)) := by
  have hf : sec (smps.getD 0 (.i 0)) = 0 := by
   have := (hw 0 (by omega)).1
   unfold ordE at this
   simp at this
   simp [sec, this]
  rcases Nat.eq_zero_or_pos i with rfl | hp
  ·omega
  ·have := pairwise_get hasc hp hi
   omega
 obtain ⟨_, h2, h3⟩ := hw i hi
 rw [← getD_at hi]
 unfold farB at h2
 simp only [Bool.or_eq_false_iff, decide_eq_false_iff_not] at h2
 obtain ⟨h2, h4⟩ := h2
 have hlo2 : 0 ≤ ((smps.getD i (.i 0)).cell 0).toI := hlo
 rw [wrap_of (by omega) (by omega)] at h4
 exact ⟨hlo, by unfold sec; omega, by unfold sec; omega, h3⟩
theorem smps_to (h0 : 0 ≤ start) (hst : start ≤ 86399999999) (ha : Asc l) (hf : l ≠ [] → sec (l.getD 0 (.i 0)) = 0) (h : ∀ s ∈ l, SmpC start s) : firstE (smpE start l) 0 l = 0 := by
 refine firstE_of fun i hi => ?_
 rw [Int.zero_add]
 have hm : l.getD i (.i 0) ∈ l := by rw [getD_at hi]; exact List.getElem_mem _
 have hx := h _ hm
 have q1 := hx.lo
 have q2 := hx.hi
 have q3 := hx.far
 have e1 : ordE l i = false := by
  unfold ordE
  rcases Nat.eq_zero_or_pos i with rfl | hp
  ·have := hf (fun e => by rw [e] at hi; simp at hi)
   unfold sec at this
   simp only [Int.natCast_zero, Int.toNat_zero, beq_self_eq_true, _root_.cond_true, this]
   rfl
  ·have e0 : ((i : Int) == 0) = false := by simp; omega
   have := pairwise_get ha (show i - 1 < i by omega) hi
   have e1 : ((i : Int) - 1).toNat = i - 1 := by omega
   rw [e0, e1, Int.toNat_natCast]
   unfold sec at this
   simp only [_root_.cond_false, decide_eq_false_iff_not]
   omega
 have e2 : farB start (l.getD i (.i 0)) = false := by
  unfold farB
  unfold sec at q1 q2 q3
  rw [wrap_of (by omega) (by omega)]
  simp only [Bool.or_eq_false_iff, decide_eq_false_iff_not]
  omega
 unfold smpE
 rw [e1, Int.toNat_natCast, e2, hx.rng]
 rfl
theorem laps_of {span : Int} (h : firstE (lapE span laps) 0 laps = 0) : (∀ x ∈ laps, (x.cell 0).toI < (x.cell 1).toI ∧ titleB (x.cell 2).toS = true) ∧ laps.Pairwise LapB := by
 have hz := firstE_zero h
 have hw : ∀ i : Nat, i < laps.length → lapR span (laps.getD i (.i 0)) = false ∧ lapO laps i = false ∧ titleB ((laps.getD i (.i 0)).cell 2).toS = true := by
  intro i hi
  have := hz i hi
  rw [Int.zero_add] at this
  unfold lapE at this
  obtain ⟨q1, q2⟩ := way0 this (by decide)
  obtain ⟨q3, q4⟩ := way0 q2 (by decide)
  rw [Int.toNat_natCast] at q1 q4
  refine ⟨q1, q3, ?_⟩
  cases hb : titleB ((laps.getD i (.i 0)).cell 2).toS with
  | true => rfl
  | false => rw [hb] at q4; cases q4
 have hlt : ∀ i : Nat, i < laps.length → ((laps.getD i (.i 0)).cell 0).toI < ((laps.getD i (.i 0)).cell 1).toI := by
  intro i hi
  have := (hw i hi).1
  unfold lapR at this
  simp only [Bool.or_eq_false_iff, decide_eq_false_iff_not] at this
  omega
 refine ⟨fun x hx => ?_, pairwise_of (fun a b c h1 h2 => ?_) fun i hi => ?_⟩
 ·obtain ⟨i, hi, rfl⟩ := List.getElem_of_mem hx
  rw [← getD_at hi]
  exact ⟨hlt i hi, (hw i hi).2.2⟩
 ·unfold LapB at h1 h2 ⊢; omega
 ·have := (hw (i + 1) hi).2.1
  unfold lapO at this
  rw [decide_eq_true (by omega : ((i + 1 : Nat) : Int) > 0)] at this
  have e1 : (((i + 1 : Nat) : Int) - 1).toNat = i := by omega
  rw [e1, Int.toNat_natCast] at this
  simp only [_root_.cond_true, decide_eq_false_iff_not] at this
  have h1 := hlt i (by omega)
  have h2 := hlt (i + 1) hi
  unfold LapB; omega
theorem laps_to {span : Int} (ho : ∀ x ∈ l, 0 ≤ (x.cell 0).toI ∧ (x.cell 1).toI ≤ span ∧ (x.cell 0).toI < (x.cell 1).toI ∧ titleB (x.cell 2).toS = true) (hp : l.Pairwise LapB) : firstE (lapE span l) 0 l = 0 := by
 refine firstE_of fun i hi => ?_
 rw [Int.zero_add]
 have hm : l.getD i (.i 0) ∈ l := by rw [getD_at hi]; exact List.getElem_mem _
 obtain ⟨h1, h2, h3, h4⟩ := ho _ hm
 have e1 : lapR span (l.getD i (.i 0)) = false := by
  unfold lapR
  simp only [Bool.or_eq_false_iff, decide_eq_false_iff_not]
  omega
 have e2 : lapO l i = false := by
  unfold lapO
  rcases Nat.eq_zero_or_pos i with rfl | hp0
  ·rfl
  ·have := pairwise_get hp (show i - 1 < i by omega) hi
   have e1 : ((i : Int) - 1).toNat = i - 1 := by omega
   rw [e1, Int.toNat_natCast, decide_eq_true (by omega : (i : Int) > 0)]
   unfold LapB at this
   simp only [_root_.cond_true, decide_eq_false_iff_not]
   omega
 unfold lapE
 rw [Int.toNat_natCast, e1, e2, h4]
 rfl
theorem act_of (h : chkA name sport start smps laps tags = 0) : ActC name sport start smps laps tags := by
 unfold chkA at h
 obtain ⟨h1, h⟩ := way0 h (by decide)
 obtain ⟨h2, h⟩ := way0 h (by decide)
 obtain ⟨h3, h⟩ := way0 h (by decide)
 obtain ⟨h4, h⟩ := way0 h (by decide)
 obtain ⟨h5, h⟩ := wayne h
 obtain ⟨h6, h7⟩ := wayne h
 simp only [Bool.or_eq_false_iff, decide_eq_false_iff_not] at h4
 have hst := of_decide_eq_true (show inI start 0 86399999999 = true by simpa using h3)
 obtain ⟨a1, a2⟩ := smps_of hst.1 h5 hst.2
 obtain ⟨b1, b2⟩ := laps_of h6
 exact ⟨by simpa using h1, by simpa using h2, hst.1, hst.2, by omega, by omega, by omega, a1, a2, b1, b2, h7⟩
theorem act_to (hn : nameB name = true) (hsp : inI sport 1 5 = true) (h0 : 0 ≤ start) (h1 : start ≤ 86399999999) (hs : smps.length ≤ 20000) (hl : laps.length ≤ 200) (ht : tags.length ≤ 20)
  (h5 : firstE (smpE start smps) 0 smps = 0) (h6 : firstE (lapE (spanD smps) laps) 0 laps = 0) (h7 : firstE (tagE tags) 0 tags = 0) : chkA name sport start smps laps tags = 0 := by
 unfold chkA
 have e3 : inI start 0 86399999999 = true := decide_eq_true ⟨h0, h1⟩
 rw [hn, hsp, e3, decide_eq_false (by omega : ¬ (smps.length : Int) > 20000), decide_eq_false (by omega : ¬ (laps.length : Int) > 200), decide_eq_false (by omega : ¬ (tags.length : Int) > 20), h5, h6, h7]
 rfl
end
/-! ### Runs -/
theorem runsF_sub (hid : D → Bool) : ∀ (l p : List D) (b : List D × List (List D)), b.1.Sublist p → (∀ r ∈ b.2, r.Sublist p ∧ r ≠ []) → (runsF hid l b).1.Sublist (p ++ l.map reS) ∧ ∀ r ∈ (runsF hid l b).2, r.Sublist (p ++ l.map reS) ∧ r ≠ []
 | [], p, b, h1, h2 => by simpa [runsF] using ⟨h1, h2⟩
 | s :: l, p, b, h1, h2 => by
  rw [runsF, List.map_cons, show p ++ reS s :: l.map reS = (p ++ [reS s]) ++ l.map reS by simp]
  have up : ∀ {r : List D}, r.Sublist p → r.Sublist (p ++ [reS s]) := fun h => h.trans (List.sublist_append_left _ _)
  cases hid s with
  | true => exact runsF_sub hid l _ b (up h1) fun r hr => ⟨up (h2 r hr).1, (h2 r hr).2⟩
  | false =>
   cases hg : gapB b.1 s with
   | true =>
    refine runsF_sub hid l _ _ (List.sublist_append_right _ _) fun r hr => ?_
    simp only [_root_.cond_true, _root_.cond_false, List.mem_append, List.mem_singleton] at hr
    rcases hr with hr | rfl
    ·exact ⟨up (h2 r hr).1, (h2 r hr).2⟩
    ·exact ⟨up h1, fun e => by have := gap_pos hg; rw [e] at this; simp at this⟩
   | false => exact runsF_sub hid l _ _ (List.Sublist.append h1 (List.Sublist.refl _)) fun r hr => ⟨up (h2 r hr).1, (h2 r hr).2⟩
theorem runs_sub (hid : D → Bool) (l : List D) : ∀ r ∈ seenRuns hid l, r.Sublist (l.map reS) ∧ r ≠ [] := by
 obtain ⟨h1, h2⟩ := runsF_sub hid l [] ([], []) (List.Sublist.refl _) (fun r hr => by simp at hr)
 rw [List.nil_append] at h1 h2
 intro r hr
 unfold seenRuns lastR at hr
 cases hd : decide (((runsF hid l ([], [])).1.length : Int) > 0) with
 | true =>
  rw [hd] at hr
  simp only [_root_.cond_true, List.mem_append, List.mem_singleton] at hr
  rcases hr with hr | rfl
  ·exact h2 r hr
  ·exact ⟨h1, fun e => by rw [e] at hd; simp at hd⟩
 | false => rw [hd] at hr; exact h2 r hr
/-! ### Seconds of a run -/
theorem eqB3 (a b : Int) : eqB Try.prog 3 (.i a) (.i b) = (a == b) := by kernel_rfl
theorem findB_key {t : Int} : ∀ {m : List (D × D)} {k v : D}, (findB Try.prog 3 (.i t) (putB Try.prog 3 k v m)).isSome = true → eqB Try.prog 3 (.i t) k = true ∨ (findB Try.prog 3 (.i t) m).isSome = true
 | [], k, v, h => by
  simp only [putB, findB] at h
  cases he : eqB Try.prog 3 (.i t) k with
  | true => exact .inl rfl
  | false => rw [he] at h; simp at h
 | (k', v') :: r, k, v, h => by
  simp only [putB] at h
  cases hk : eqB Try.prog 3 k k' with
  | true =>
   rw [hk] at h
   simp only [_root_.cond_true, findB] at h
   cases he : eqB Try.prog 3 (.i t) k with
   | true => exact .inl rfl
   | false =>
    rw [he] at h
    simp only [_root_.cond_false] at h
    refine .inr ?_
    simp only [findB]
    cases eqB Try.prog 3 (.i t) k' with
    | true => rfl
    | false => exact h
  | false =>
   rw [hk] at h
   simp only [_root_.cond_false, findB] at h
   simp only [findB]
   cases he : eqB Try.prog 3 (.i t) k' with
   | true => exact .inr rfl
   | false =>
    rw [he] at h
    exact findB_key h
theorem secL_has {t : Int} : ∀ {l : List D} {m : List (D × D)}, (findB Try.prog 3 (.i t) (secL l m)).isSome = true → (findB Try.prog 3 (.i t) m).isSome = true ∨ ∃ s ∈ l, sec s = t
 | [], m, h => .inl h
 | s :: l, m, h => by
  rw [secL] at h
  rcases secL_has h with h | ⟨s', h1, h2⟩
  ·unfold putS at h
   rcases findB_key h with h | h
   ·rw [eqB3] at h
    exact .inr ⟨s, by simp, by simpa using Eq.symm (by simpa using h)⟩
   ·exact .inl h
  ·exact .inr ⟨s', by simp [h1], h2⟩
theorem inM_has {t : Int} {l : List D} (h : inM (secL l []) t = true) : ∃ s ∈ l, sec s = t := by
 have : (findB Try.prog 3 (.i t) (secL l [])).isSome = true := by
  unfold inM at h
  cases hf : findB Try.prog 3 (.i t) (secL l []) with
  | none => rw [hf] at h; cases h
  | some v => rfl
 rcases secL_has this with h | h
 ·cases h
 ·exact h
end Go.Proofs.Ytngnemeafkmaoaa

/-! Plain laws of chapter 10: pieces are right; the law of VeilLevelsShrink. -/
namespace Go.Proofs.Ytngnemeafkmaoaa
open Go Go.AM
set_option maxRecDepth 100000
set_option maxHeartbeats 4000000
variable {N : Nat}
theorem low_in {x n : Int} (h1 : 1 ≤ n) (h2 : n ≤ 1000000) (h3 : -100000000 ≤ x) (h4 : x ≤ 100000000) : -100000000 ≤ max2 (lowI x n) (-100000000) ∧ max2 (lowI x n) (-100000000) ≤ 100000000 := by
 have a1 : x.tmod n < n := Int.tmod_lt_of_pos _ (by omega)
 have a2 : -n < x.tmod n := Int.lt_tmod_of_pos _ (by omega)
 have hl : lowI x n ≤ x := by
  unfold lowI
  cases hd : decide (x.tmod n < 0) with
  | true =>
   have := of_decide_eq_true hd
   simp only [_root_.cond_true]
   rw [wr_of (n := x.tmod n + n) (by omega) (by omega), wr_of (by omega) (by omega)]
   omega
  | false =>
   have := of_decide_eq_false hd
   simp only [_root_.cond_false]
   rw [wr_of (by omega) (by omega)]
   omega
 unfold max2
 split <;> omega
theorem grid_in : ∀ (gs : List D) (a : Int × Int), (∀ g ∈ gs, 1 ≤ g.toI ∧ g.toI ≤ 1000000) → (-100000000 ≤ a.1 ∧ a.1 ≤ 100000000) → (-100000000 ≤ a.2 ∧ a.2 ≤ 100000000) →
  (-100000000 ≤ (gridF gs a).1 ∧ (gridF gs a).1 ≤ 100000000) ∧ (-100000000 ≤ (gridF gs a).2 ∧ (gridF gs a).2 ≤ 100000000)
 | [], a, _, h1, h2 => ⟨h1, h2⟩
 | g :: r, a, hg, h1, h2 => by
  obtain ⟨g1, g2⟩ := hg g (by simp)
  exact grid_in r _ (fun g' h' => hg g' (by simp [h'])) (low_in g1 g2 h1.1 h1.2) (low_in g1 g2 h2.1 h2.2)
theorem grdL_rng {rs : List D} (hr : ∀ r ∈ rs, RuleG r) : ∀ g ∈ grdL rs, 1 ≤ g.toI ∧ g.toI ≤ 1000000 := by
 intro g hg
 unfold grdL at hg
 obtain ⟨r, h1, rfl⟩ := List.mem_map.1 hg
 obtain ⟨h2, h3⟩ := List.mem_filter.1 h1
 exact (hr r h2).2 (by simpa using h3)
theorem rng_smpD {rs : List D} (hr : ∀ r ∈ rs, RuleG r) {f : Int} {s : D} (h : rngB s = true) : rngB (smpD rs f s) = true := by
 unfold rngB at h
 simp only [Bool.and_eq_true] at h
 obtain ⟨⟨⟨⟨⟨h1, h2⟩, h3⟩, h4⟩, h5⟩, h6⟩ := h
 have q1 := of_decide_eq_true h1
 have q2 := of_decide_eq_true h2
 obtain ⟨g1, g2⟩ := grid_in (grdL rs) ((s.cell 1).toI, (s.cell 2).toI) (grdL_rng hr) q1 q2
 show (inI (gridF (grdL rs) ((s.cell 1).toI, (s.cell 2).toI)).1 (-100000000) 100000000 && inI (gridF (grdL rs) ((s.cell 1).toI, (s.cell 2).toI)).2 (-100000000) 100000000 && inI (bif fldB rs 4 then 0 else (s.cell 3).toI) (-100000) 100000 && inI (bif fldB rs 1 then -1 else (s.cell 4).toI) (-1) 300 && inI (bif fldB rs 2 then -1 else (s.cell 5).toI) (-1) 3000 && inI (bif fldB rs 3 then -1 else (s.cell 6).toI) (-1) 300) = true
 rw [show inI (gridF (grdL rs) ((s.cell 1).toI, (s.cell 2).toI)).1 (-100000000) 100000000 = true from decide_eq_true g1, show inI (gridF (grdL rs) ((s.cell 1).toI, (s.cell 2).toI)).2 (-100000000) 100000000 = true from decide_eq_true g2]
 cases fldB rs 4 <;> cases fldB rs 1 <;> cases fldB rs 2 <;> cases fldB rs 3 <;> simp only [_root_.cond_true, _root_.cond_false, h3, h4, h5, h6] <;> rfl
section
variable {rs smps laps tags r : List D} {name : List UInt8} {sport start : Int} {tn : Bool}
theorem piece_right (hr : ∀ r ∈ rs, RuleG r) (hc : ActC name sport start smps laps tags) (hs : r.Sublist (smps.map reS)) (hne : r ≠ []) : chkD (pieceD rs name sport start laps tn tags r) = 0 := by
 have hst0 := hc.st0
 have hst1 := hc.st1
 have hasc : Asc r := List.Pairwise.sublist hs (by rw [List.pairwise_map]; exact hc.asc)
 have hok : ∀ s ∈ r, SmpC start s := fun s h => by
  obtain ⟨s', h1, rfl⟩ := List.mem_map.1 (hs.subset h)
  exact ⟨(hc.ok s' h1).lo, (hc.ok s' h1).hi, (hc.ok s' h1).far, (hc.ok s' h1).rng⟩
 have hlen : 0 < r.length := by cases r with
  | nil => exact absurd rfl hne
  | cons x t => simp
 have hm0 : r.getD 0 (.i 0) ∈ r := by rw [getD_at hlen]; exact List.getElem_mem _
 have h0 := hok _ hm0
 have h0l := h0.lo
 have h0h := h0.hi
 have h0f := h0.far
 have hf : ∀ s ∈ r, sec (r.getD 0 (.i 0)) ≤ sec s := fun s h => by
  obtain ⟨i, hi, rfl⟩ := List.getElem_of_mem h
  rcases Nat.eq_zero_or_pos i with rfl | hp
  ·rw [getD_at hi]; exact Int.le_refl _
  ·have := pairwise_get hasc hp hi
   rw [getD_at hi] at this
   omega
 have hla : ∀ s ∈ r, sec s ≤ sec (r.getD (r.length - 1) (.i 0)) := fun s h => by
  obtain ⟨i, hi, rfl⟩ := List.getElem_of_mem h
  rcases Nat.lt_or_ge i (r.length - 1) with hp | hp
  ·have := pairwise_get hasc hp (by omega)
   rw [getD_at hi] at this
   omega
  ·have e : i = r.length - 1 := by omega
   subst e
   rw [getD_at hi]; exact Int.le_refl _
 have hml : r.getD (r.length - 1) (.i 0) ∈ r := by rw [getD_at (by omega)]; exact List.getElem_mem _
 generalize hF : sec (r.getD 0 (.i 0)) = f at *
 have e1 : wr (start + f) = start + f := wr_of (by omega) (by omega)
 show chkA (bif kdB rs 7 then actName else name) sport (bif kdB rs 6 then wr (wr (start + sec (r.getD 0 (.i 0))) - (wr (start + sec (r.getD 0 (.i 0)))).tmod 86400) else wr (start + sec (r.getD 0 (.i 0)))) (r.map (smpD rs (sec (r.getD 0 (.i 0))))) (filtF (lapP (secL r [])) (lapD (kdB rs 7) (sec (r.getD 0 (.i 0)))) laps (true, [])).2 (bif kdB rs 7 then [] else tags) = 0
 rw [hF, e1, filtF_snd, List.nil_append]
 have hst : ∃ st, (bif kdB rs 6 then wr (start + f - (start + f).tmod 86400) else start + f) = st ∧ 0 ≤ st ∧ st ≤ start + f := by
  cases kdB rs 6 with
  | false => exact ⟨start + f, rfl, by omega, Int.le_refl _⟩
  | true =>
   have b1 : 0 ≤ (start + f).tmod 86400 := Int.tmod_nonneg _ (by omega)
   have b2 : (start + f).tmod 86400 ≤ start + f := by rw [Int.tmod_eq_emod_of_nonneg (by omega)]; omega
   have b3 := Int.tmod_lt_of_pos (start + f) (show (0 : Int) < 86400 by omega)
   exact ⟨_, rfl, by simp only [_root_.cond_true]; rw [wr_of (by omega) (by omega)]; omega, by simp only [_root_.cond_true]; rw [wr_of (by omega) (by omega)]; omega⟩
 obtain ⟨st, he, st0, st1⟩ := hst
 rw [he]
 have hsec : ∀ s ∈ r, sec (smpD rs f s) = sec s - f := fun s h => by
  show wr (sec s - f) = sec s - f
  have q1 := (hok s h).lo
  have q2 := (hok s h).hi
  exact wr_of (by omega) (by omega)
 have hle : r.length ≤ 20000 := by
  have := hs.length_le
  rw [List.length_map] at this
  exact Nat.le_trans this hc.s
 have hspan : spanD (r.map (smpD rs f)) = sec (r.getD (r.length - 1) (.i 0)) - f := by
  unfold spanD
  rw [List.length_map, decide_eq_true (by omega : (r.length : Int) > 0), show ((r.length : Int) - 1).toNat = r.length - 1 by omega]
  simp only [_root_.cond_true]
  rw [getD_at (by rw [List.length_map]; omega), List.getElem_map, ← getD_at (by omega)]
  exact hsec _ hml
 have hin : ∀ x ∈ laps.filter (lapP (secL r [])), (∃ s ∈ r, sec s = (x.cell 0).toI) ∧ ∃ s ∈ r, sec s = (x.cell 1).toI := fun x hx => by
  obtain ⟨_, h2⟩ := List.mem_filter.1 hx
  unfold lapP at h2
  cases i1 : inM (secL r []) (x.cell 0).toI with
  | false => rw [i1] at h2; cases h2
  | true =>
   cases i2 : inM (secL r []) (x.cell 1).toI with
   | false => rw [i1, i2] at h2; cases h2
   | true => exact ⟨inM_has i1, inM_has i2⟩
 have hcell : ∀ x ∈ laps.filter (lapP (secL r [])), ((lapD (kdB rs 7) f x).cell 0).toI = (x.cell 0).toI - f ∧ ((lapD (kdB rs 7) f x).cell 1).toI = (x.cell 1).toI - f ∧ f ≤ (x.cell 0).toI ∧ (x.cell 1).toI ≤ sec (r.getD (r.length - 1) (.i 0)) := fun x hx => by
  obtain ⟨⟨s, m1, q1⟩, ⟨s', m2, q2⟩⟩ := hin x hx
  have a1 := (hok s m1).lo
  have a2 := (hok s m1).hi
  have a3 := (hok s' m2).lo
  have a4 := (hok s' m2).hi
  have a5 := hf s m1
  have a6 := hla s' m2
  exact ⟨show wr ((x.cell 0).toI - f) = _ from wr_of (by omega) (by omega), show wr ((x.cell 1).toI - f) = _ from wr_of (by omega) (by omega), by omega, by omega⟩
 refine act_to ?_ hc.sp st0 (by omega) (by rw [List.length_map]; exact hle) ?_ ?_ ?_ ?_ ?_
 ·cases kdB rs 7 with
  | true => show nameB actName = true; decide
  | false => exact hc.n
 ·rw [List.length_map]
  exact Nat.le_trans (List.length_filter_le _ _) hc.l
 ·cases kdB rs 7 with
  | true => simp
  | false => exact hc.t
 ·refine smps_to st0 (by omega) ?_ (fun _ => ?_) fun s h => ?_
  ·unfold Asc
   rw [List.pairwise_map]
   refine List.Pairwise.imp_of_mem ?_ hasc
   intro a b ha hb hab
   rw [hsec a ha, hsec b hb]; omega
  ·rw [getD_at (by rw [List.length_map]; exact hlen), List.getElem_map, ← getD_at hlen, hsec _ hm0, hF]
   omega
  ·obtain ⟨s', h1, rfl⟩ := List.mem_map.1 h
   have q := hok s' h1
   have q1 := q.lo
   have q2 := q.hi
   have q3 := q.far
   have q4 := hf s' h1
   exact ⟨by rw [hsec s' h1]; omega, by rw [hsec s' h1]; omega, by rw [hsec s' h1]; omega, rng_smpD hr q.rng⟩
 ·rw [hspan]
  refine laps_to (fun x hx => ?_) ?_
  ·obtain ⟨x', h1, rfl⟩ := List.mem_map.1 hx
   obtain ⟨c1, c2, c3, c4⟩ := hcell x' h1
   obtain ⟨l1, l2⟩ := hc.lo x' (List.mem_filter.1 h1).1
   refine ⟨by omega, by omega, by omega, ?_⟩
   show titleB (bif kdB rs 7 then [] else (x'.cell 2).toS) = true
   cases kdB rs 7 with
   | true => show titleB [] = true; decide
   | false => exact l2
  ·rw [List.pairwise_map]
   refine List.Pairwise.imp_of_mem ?_ (List.Pairwise.filter _ hc.lp)
   intro a b ha hb hab
   obtain ⟨c1, c2, _, _⟩ := hcell a ha
   obtain ⟨d1, d2, _, _⟩ := hcell b hb
   unfold LapB at hab ⊢
   omega
 ·cases kdB rs 7 with
  | true => rfl
  | false => exact hc.tg
end
end Go.Proofs.Ytngnemeafkmaoaa

/-! Plain laws of chapter 10: the law of VeilLevelsShrink. -/
namespace Go.Proofs.Ytngnemeafkmaoaa
open Go Go.AM
set_option maxRecDepth 100000
set_option maxHeartbeats 4000000
variable {N : Nat}
section
variable {xs rs smps laps tags r ys : List D} {name : List UInt8} {sport start lv lv' : Int} {tn : Bool}
theorem piece_ok (h : ActOk name smps laps tags) (hl : r.length ≤ maxLen) : ActOkD (pieceD rs name sport start laps tn tags r) := by
 have e : (filtF (lapP (secL r [])) (lapD (kdB rs 7) (sec (r.getD 0 (.i 0)))) laps (true, [])).2 = (laps.filter (lapP (secL r []))).map (lapD (kdB rs 7) (sec (r.getD 0 (.i 0)))) := by rw [filtF_snd, List.nil_append]
 show ActOk (bif kdB rs 7 then actName else name) (r.map (smpD rs (sec (r.getD 0 (.i 0))))) (filtF (lapP (secL r [])) (lapD (kdB rs 7) (sec (r.getD 0 (.i 0)))) laps (true, [])).2 (bif kdB rs 7 then [] else tags)
 rw [e]
 have hm : maxLen = 9223372036854775807 := rfl
 refine ⟨?_, by rw [List.length_map]; exact hl, ?_, ?_, fun x hx => ?_, ?_⟩
 ·cases kdB rs 7 with
  | true => show actName.length ≤ maxLen; decide
  | false => exact h.n
 ·rw [List.length_map]; exact Nat.le_trans (List.length_filter_le _ _) h.l
 ·cases kdB rs 7 with
  | true => exact Nat.zero_le _
  | false => exact h.t
 ·obtain ⟨x', h1, rfl⟩ := List.mem_map.1 hx
  show (bif kdB rs 7 then [] else (x'.cell 2).toS).length ≤ maxLen
  cases kdB rs 7 with
  | true => exact Nat.zero_le _
  | false => exact h.ln x' (List.mem_filter.1 h1).1
 ·cases kdB rs 7 with
  | true => intro x hx; simp at hx
  | false => exact h.tn
theorem G14x0_eq (hN : maxLen < N) (hl : ys.length ≤ maxLen) (ho : ∀ y ∈ ys, ActOkD y) : G14x0 N ys = some (ys.any fun y => chkD y != 0) := by
 have e : G45x0x6 N ys ys.length 0 = some (wayI (fun y => chkD y != 0) 0 ys) := by
  unfold G45x0x6
  refine (for_ind (.i 0 : D) (S := fun w kr => S45x0x6 N ys ys.length w kr _ _) (L := fun m w => L45x0x6 N ys ys.length m w _ _) (fun m w => rfl) (fun w l => some (wayI (fun y => chkD y != 0) w l)) hl ?_ ?_ hN).trans rfl
  ·intro kr; simp [S45x0x6, wayI]
  ·intro w kr h0 h1 hw hi hk
   have hx : G16x0 N ((ys.getD w.toNat (.i 0)).cell 0).toS ((ys.getD w.toNat (.i 0)).cell 1).toI ((ys.getD w.toNat (.i 0)).cell 2).toI ((ys.getD w.toNat (.i 0)).cell 3).items ((ys.getD w.toNat (.i 0)).cell 4).items ((ys.getD w.toNat (.i 0)).cell 5).items = some (chkD (ys.getD w.toNat (.i 0))) := G16x0_eq hN (ho _ (getD_mem h0 h1))
   simp only [S45x0x6, G15x0, F15x0, decide_eq_true h1, _root_.cond_true, hi, hx, bnd_eq, Option.isSome_some, getD_some, hw, hk, wayI_cons]
   cases chkD (ys.getD w.toNat (.i 0)) != 0 <;> rfl
 have e45 : G45x0 N ys = some (findI (fun y => chkD y != 0) 0 ys) := by
  unfold G45x0 F45x0
  rw [e]
  exact way_find _ _
 unfold G14x0 F14x0
 rw [e45]
 simp only [bnd_eq, Option.isSome_some, getD_some, _root_.cond_true, findI_any _ _ 0 (by omega)]
theorem appl_sub (h : lv ≤ lv') : ∀ r ∈ appl xs lv, r ∈ appl xs lv' := by
 intro r hr
 unfold appl at hr ⊢
 obtain ⟨r', h1, rfl⟩ := List.mem_map.1 hr
 obtain ⟨h2, h3⟩ := List.mem_filter.1 h1
 have h4 := of_decide_eq_true h3
 exact List.mem_map.2 ⟨r', List.mem_filter.2 ⟨h2, decide_eq_true (by omega)⟩, rfl⟩
theorem any_sub {a b : List D} {P : D → Bool} (h : ∀ r ∈ a, r ∈ b) (ha : a.any P = true) : b.any P = true := by
 rw [List.any_eq_true] at ha ⊢
 obtain ⟨x, h1, h2⟩ := ha
 exact ⟨x, h x h1, h2⟩
theorem hidS_sub {a b : List D} {all all' : Bool} {st : Int} {s : D} (h : ∀ r ∈ a, r ∈ b) (h' : all = true → all' = true) (hs : hidS a all st s = true) : hidS b all' st s = true := by
 unfold hidS at hs ⊢
 rw [Bool.or_eq_true] at hs ⊢
 rcases hs with hs | hs
 ·exact .inl (h' hs)
 ·exact .inr (any_sub h hs)
theorem G3x0x27_eq (hN : maxLen < N) {a b : List D} {all all' : Bool} {st : Int} (hl : smps.length ≤ maxLen) (h : ∀ r ∈ a, r ∈ b) (h' : all = true → all' = true) :
  G3x0x27 N (hidL a all st smps) (hidL b all' st smps) smps.length 0 = some (.inr ()) := by
 unfold G3x0x27
 refine (for_ind (.i 0 : D) (S := fun w kr => S3x0x27 N (hidL a all st smps) (hidL b all' st smps) smps.length w kr _ _) (L := fun m w => L3x0x27 N (hidL a all st smps) (hidL b all' st smps) smps.length m w _ _) (fun m w => rfl) (fun w l => some (.inr ())) hl ?_ ?_ hN).trans rfl
 ·intro kr; simp [S3x0x27]
 ·intro w kr h0 h1 hw hi hk
  simp only [S3x0x27, decide_eq_true h1, _root_.cond_true, hidL_len, hi, bnd_eq, hw, hk, hidL_get h0 h1]
  cases e : hidS a all st (smps.getD w.toNat (.i 0)) with
  | false => rfl
  | true => rw [hidS_sub h h' e]; rfl
end
section
variable {xs : List D} {lv sp st : Int} {nm : List UInt8} {sn ln tn : Bool} {s l t : List D}
theorem seenA_right (hv : VeilRight xs) (hc : chkD (mkA nm sp st sn s ln l tn t) = 0) : ((seenA (appl xs lv) tn (mkA nm sp st sn s ln l tn t)).any fun y => chkD y != 0) = false := by
 have hg : ∀ r ∈ appl xs lv, RuleG r := appl_good fun r hr => ruleG_of (hv.mem hr)
 rw [List.any_eq_false]
 intro y hy
 unfold seenA at hy
 obtain ⟨r, h1, rfl⟩ := List.mem_map.1 hy
 obtain ⟨h2, h3⟩ := runs_sub _ _ r h1
 rw [piece_right hg (act_of hc) h2 h3]
 simp
theorem seenA_okD (ha : ActOk nm s l t) : ∀ y ∈ seenA (appl xs lv) tn (mkA nm sp st sn s ln l tn t), ActOkD y := by
 intro y hy
 unfold seenA at hy
 obtain ⟨r, h1, rfl⟩ := List.mem_map.1 hy
 exact piece_ok ha (Nat.le_trans (seenRuns_in _ _ r h1) ha.s)
/-- The law of VeilLevelsShrink. -/
theorem law3 (hv : VeilOk xs) (ha : ActOk nm s l t) (hn : tn = true → t = []) : G3x0 18446744073709551616 xs lv nm sp st sn s ln l tn t = some true := by
 have hN : maxLen < 18446744073709551616 := by decide
 obtain ⟨b1, e1⟩ := G10x0_eq (lv := lv) (sp := sp) (st := st) (sn := sn) (ln := ln) (tn := tn) hN hv ha
 obtain ⟨b2, e2⟩ := G11x0_eq (lv := lv) (sp := sp) (st := st) (sn := sn) (ln := ln) (tn := tn) hN hv ha
 obtain ⟨b3, e3⟩ := G13x0_eq (lv := lv) (sp := sp) (st := st) (sn := sn) (ln := ln) (tn := tn) hN hv ha hn
 obtain ⟨b4, e4⟩ := G10x0_eq (lv := IntKind.wrap .i64 (lv + 1)) (sp := sp) (st := st) (sn := sn) (ln := ln) (tn := tn) hN hv ha
 unfold G3x0 F3x0 G3x0x16 F3x0x16 G3x0x46 F3x0x46
 simp only [bnd_eq, e1, e2, e3, e4, Option.isSome_some, getD_some, _root_.cond_true, beq_self_eq_true, told_ok]
 cases hf : faultV xs lv [mkA nm sp st sn s ln l tn t] != 0 with
 | true => rfl
 | false =>
  cases hf' : faultV xs (IntKind.wrap .i64 (lv + 1)) [mkA nm sp st sn s ln l tn t] != 0 with
  | true => rfl
  | false =>
   simp only [bne_eq_false_iff_eq] at hf hf'
   obtain ⟨r1, r2, r3⟩ := fault_right hf
   have hc := r3 (mkA nm sp st sn s ln l tn t) (by simp)
   have hg := mkA_good hc hn
   have hlv := of_decide_eq_true r2
   have ew : IntKind.wrap .i64 (lv + 1) = lv + 1 := wrap_of (by omega) (by omega)
   have hsub : ∀ r ∈ appl xs lv, r ∈ appl xs (lv + 1) := appl_sub (by omega)
   have hall : allA xs lv (mkA nm sp st sn s ln l tn t) = true → allA xs (lv + 1) (mkA nm sp st sn s ln l tn t) = true := any_sub hsub
   have e5 : (bif allA xs lv (mkA nm sp st sn s ln l tn t) then !allA xs (lv + 1) (mkA nm sp st sn s ln l tn t) else false) = false := by
    cases e : allA xs lv (mkA nm sp st sn s ln l tn t) with
    | false => rfl
    | true => rw [hall e]; rfl
   have e6 : G3x0x27 18446744073709551616 (hidA xs lv (mkA nm sp st sn s ln l tn t)) (hidA xs (lv + 1) (mkA nm sp st sn s ln l tn t)) s.length 0 = some (.inr ()) := G3x0x27_eq hN ha.s hsub hall
   have n1 : ∀ v, (hidA xs v (mkA nm sp st sn s ln l tn t)).length = s.length := fun v => hidL_len
   have e7 := G14x0_eq hN (seenA_max (rs := appl xs lv) (tn := tn) hg) (seenA_okD (xs := xs) (lv := lv) ha)
   rw [seenA_right r1 hc] at e7
   rw [ew, hf]
   simp only [_root_.cond_false, _root_.cond_true, n1, bne_self_eq_false, e5, e6, inlB_inr, inrQ_inr, Option.isSome_some, beq_self_eq_true, e7, getD_some, Bool.not_false]
end
end Go.Proofs.Ytngnemeafkmaoaa

namespace Go.Proofs.Ytngnemeafkmaoaa
open Go Go.AM
set_option maxRecDepth 100000
set_option maxHeartbeats 4000000
set_option linter.unusedVariables false

theorem Try.own : ownKnob Try.prog.godebug = none := by kernel_rfl
theorem Try.laidOut : laidOutB Try.prog = true := by kernel_rfl
theorem callLaw (dss : List (List D)) (h : All2 (ArgOk Try.prog 6) Try.f3.params.toList dss) : CallOk Try.prog 3 (argVs Try.prog Try.f3.params.toList dss) [] ([.c (.b true)], []) := by
 have hp : Try.f3.params.toList = [24, 3, 29] := by kernel_rfl
 rw [hp] at h ⊢
 match dss, h with
 | [d0, d1, d2], ⟨h0, h1, h2, _⟩ =>
  obtain ⟨nl, xs, rfl, hv⟩ := arg24 h0
  obtain ⟨lv, rfl, _⟩ := arg3 h1
  obtain ⟨nm, sp, st, sn, s, ln, l, tn, t, rfl, ha, hn⟩ := arg29 h2
  refine ok3x0 18446744073709551616 _ _ (A3x0 18446744073709551616 [.b nl, .l xs, .i lv, .s nm, .i sp, .i st, .b sn, .l s, .b ln, .l l, .b tn, .l t]) (by kernel_rfl) _ ?_
  have e : A3x0 18446744073709551616 [.b nl, .l xs, .i lv, .s nm, .i sp, .i st, .b sn, .l s, .b ln, .l l, .b tn, .l t] = bnd (G3x0 18446744073709551616 xs lv nm sp st sn s ln l tn t) fun q => [(q.isSome, ([.c (.b (q.getD default))], []))] := by kernel_rfl
  rw [e, law3 hv.ok ha.ok hn]
  rfl
theorem lawLifted (os : Os) (started : os.Started) (H : Type) (enc : TypeId × Value → H) :
  ReturnsInHanded {} Try.checked os 3 .any (Rows.veilLevelsShrinkSpec.pre6 enc Try.prog Try.f3 Rows.veilLevelsShrinkRow.domain false) (Rows.veilLevelsShrinkSpec.post enc Try.prog Try.f3 false true false false) := by
 refine returnsInHanded_of_change (C := Try.checked) Try.own started (by kernel_rfl) Try.func3
  (ChangeSpec.witness6 (enc := enc) (C := Try.checked) false ⟨#[], #[.agg #[.slice none 0 0], .int .i64 0, .agg #[.string ⟨#[]⟩, .int .i64 0, .int .i64 0, .slice none 0 0, .slice none 0 0, .slice none 0 0]], []⟩ 8 (by kernel_rfl) (by kernel_rfl) (by kernel_rfl) (by kernel_rfl)) ?_
 intro W base args ds gs before hval hW _ _
 exact law_call (m := 6) (tb := 4) Try.laidOut rfl (by kernel_rfl) (by kernel_rfl) (by kernel_rfl) (fun l hl => by
  rw [show Try.f3.params.size = 3 by kernel_rfl] at hl
  match l, hl with
  | [_, _, _], _ => rfl) callLaw hval hW
theorem shrink_holds : Rows.VeilLevelsShrinkSaid :=
 OpenClaim.holds_of_wide 3 Try.f3 rfl rfl rfl rfl rfl rfl rfl ⟨rfl, rfl, rfl, rfl, rfl⟩ rfl rfl rfl rfl rfl (by kernel_rfl) Try.func3 (by kernel_rfl)
  (of_decide_eq_true (by kernel_rfl)) (by unfold Func.isWrapper; first | (rw [if_pos (by decide +kernel)]; kernel_rfl) | (rw [if_neg (by decide +kernel)]; exact ⟨rfl, rfl⟩))
  (fun os started H enc _ => lawLifted os started H enc)
end Go.Proofs.Ytngnemeafkmaoaa

