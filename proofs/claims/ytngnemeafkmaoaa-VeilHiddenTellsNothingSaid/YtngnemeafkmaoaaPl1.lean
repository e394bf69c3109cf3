/- Proved: for every veil, level and activity, every list of moves and every list of places to leave out: hidden samples may lie anywhere or be left out, and as long as they stay hidden veil.See lets see the same and veil.Tells tells no difference (VeilHiddenTellsNothing returns true and leaves its arguments as they were). Conditions: none beyond those of the given statement. -/
import Derived.Test.YtngnemeafkmaoaaVPp2
import Derived.KernelRfl
import Derived.Test.YtngnemeafkmaoaaRows
set_option linter.all false
set_option maxRecDepth 100000
/-! Plain laws: record.Check, record.Same and their references (the numbers are those of the seat of chapter 2). -/
namespace Go.Proofs.Ytngnemeafkmaoaa
open Go Go.AM
set_option maxRecDepth 100000
set_option maxHeartbeats 4000000
variable {N : Nat}
/-! ### Names, ranges -/
def ltr (n : Int) : Bool := decide (97 ≤ n ∧ n ≤ 122 ∨ 65 ≤ n ∧ n ≤ 90 ∨ 48 ≤ n ∧ n ≤ 57 ∨ n = 45 ∨ n = 95 ∨ n = 46)
def nameB (s : List UInt8) : Bool := s.all (fun c => ltr (c.toNat : Int)) && decide (1 ≤ s.length ∧ s.length ≤ 60)
def titleB (s : List UInt8) : Bool := s.all (fun c => decide (32 ≤ (c.toNat : Int) ∧ (c.toNat : Int) ≤ 126)) && decide (s.length ≤ 60)
def inI (n a b : Int) : Bool := decide (a ≤ n ∧ n ≤ b)
theorem G46x0x6_eq (hN : maxLen < N) {s : List UInt8} (hs : s.length ≤ maxLen) : G46x0x6 N s 0 = some (bif s.all (fun c => ltr (c.toNat : Int)) then .inr () else .inl ()) := by
 unfold G46x0x6
 refine (for_ind (0 : UInt8) (S := fun w kr => S46x0x6 N s w kr _ _) (L := fun m w => L46x0x6 N s m w _ _) (fun m w => rfl) (fun _ l => some (bif l.all (fun c => ltr (c.toNat : Int)) then .inr () else .inl ())) hs ?_ ?_ hN).trans rfl
 ·intro kr; simp [S46x0x6]
 ·intro w kr h0 h1 hw hi hk
  simp only [S46x0x6, decide_eq_true h1, _root_.cond_true, hi, bnd_eq, hw, hk, List.all_cons]
  generalize ((s.getD w.toNat 0).toNat : Int) = n
  refine (cond_congr (c' := !ltr n) ?_).trans ?_
  ·rw [Bool.eq_iff_iff]; simp [ltr]; omega
  ·cases ltr n <;> rfl
theorem G46x0_eq (hN : maxLen < N) {s : List UInt8} (hs : s.length ≤ maxLen) : G46x0 N s = some (nameB s) := by
 unfold G46x0 F46x0
 rw [G46x0x6_eq hN hs]
 unfold nameB
 cases s.all (fun c => ltr (c.toNat : Int)) with
 | false => rfl
 | true =>
  simp only [bnd_eq, inlB_inr, inrQ_inr, _root_.cond_true, _root_.cond_false, Option.isSome_some, Bool.true_and]
  congr 1
  rw [Bool.eq_iff_iff]; simp; omega
theorem G82x0x6_eq (hN : maxLen < N) {s : List UInt8} (hs : s.length ≤ maxLen) : G82x0x6 N s s.length 0 = some (bif s.all (fun c => ltr (c.toNat : Int)) then .inr () else .inl ()) := by
 unfold G82x0x6
 refine (for_ind (0 : UInt8) (S := fun w kr => S82x0x6 N s s.length w kr _ _) (L := fun m w => L82x0x6 N s s.length m w _ _) (fun m w => rfl) (fun _ l => some (bif l.all (fun c => ltr (c.toNat : Int)) then .inr () else .inl ())) hs ?_ ?_ hN).trans rfl
 ·intro kr; simp [S82x0x6]
 ·intro w kr h0 h1 hw hi hk
  simp only [S82x0x6, decide_eq_true h1, _root_.cond_true, hi, bnd_eq, hw, hk, List.all_cons, V82x0x19, F82x0x19, V96x0, F96x0]
  generalize ((s.getD w.toNat 0).toNat : Int) = n
  refine (cond_congr (c' := !ltr n) ?_).trans ?_
  ·rw [Bool.eq_iff_iff]; simp [ltr]; omega
  ·cases ltr n <;> rfl
theorem G82x0_eq (hN : maxLen < N) {s : List UInt8} (hs : s.length ≤ maxLen) : G82x0 N s = some (nameB s) := by
 unfold G82x0 F82x0
 rw [G82x0x6_eq hN hs]
 unfold nameB
 cases s.all (fun c => ltr (c.toNat : Int)) with
 | false => rfl
 | true =>
  simp only [bnd_eq, inlB_inr, inrQ_inr, _root_.cond_true, _root_.cond_false, Option.isSome_some, Bool.true_and]
  congr 1
  rw [Bool.eq_iff_iff]; simp; omega
theorem V85x0_eq (n a b : Int) : V85x0 N n a b = inI n a b := by
 unfold V85x0 F85x0 inI
 rw [Bool.eq_iff_iff]; simp
theorem V47x0_eq (n a b : Int) : V47x0 N n a b = !inI n a b := by
 unfold V47x0 F47x0 inI
 rw [Bool.eq_iff_iff]; simp <;> omega
theorem wrapByte (c : UInt8) : IntKind.wrap .i64 (c.toNat : Int) = c.toNat := wrapI (by omega) (by have := c.toNat_lt; omega)
theorem G88x0_eq (hN : maxLen < N) {s : List UInt8} (hs : s.length ≤ maxLen) : G88x0 N s = some (titleB s) := by
 have h : G88x0x6 N s s.length 0 = some (bif s.all (fun c => decide (32 ≤ (c.toNat : Int) ∧ (c.toNat : Int) ≤ 126)) then .inr () else .inl ()) := by
  unfold G88x0x6
  refine (for_ind (0 : UInt8) (S := fun w kr => S88x0x6 N s s.length w kr _ _) (L := fun m w => L88x0x6 N s s.length m w _ _) (fun m w => rfl) (fun _ l => some (bif l.all (fun c => decide (32 ≤ (c.toNat : Int) ∧ (c.toNat : Int) ≤ 126)) then .inr () else .inl ())) hs ?_ ?_ hN).trans rfl
  ·intro kr; simp [S88x0x6]
  ·intro w kr h0 h1 hw hi hk
   simp only [S88x0x6, decide_eq_true h1, _root_.cond_true, hi, bnd_eq, hw, hk, List.all_cons, wrapByte, V85x0_eq, inI]
   cases decide (32 ≤ ((s.getD w.toNat 0).toNat : Int) ∧ ((s.getD w.toNat 0).toNat : Int) ≤ 126) <;> rfl
 unfold G88x0 F88x0
 rw [h]
 unfold titleB
 cases s.all (fun c => decide (32 ≤ (c.toNat : Int) ∧ (c.toNat : Int) ≤ 126)) with
 | false => rfl
 | true =>
  simp only [bnd_eq, inlB_inr, inrQ_inr, _root_.cond_true, _root_.cond_false, Option.isSome_some, Bool.true_and]
  congr 1
  rw [Bool.eq_iff_iff]; simp; omega
theorem G49x0x21_eq (hN : maxLen < N) {s : List UInt8} (hs : s.length ≤ maxLen) : G49x0x21 N s 0 = some (bif s.all (fun c => decide (32 ≤ (c.toNat : Int) ∧ (c.toNat : Int) ≤ 126)) then .inr () else .inl ()) := by
 unfold G49x0x21
 refine (for_ind (0 : UInt8) (S := fun w kr => S49x0x21 N s w kr _ _) (L := fun m w => L49x0x21 N s m w _ _) (fun m w => rfl) (fun _ l => some (bif l.all (fun c => decide (32 ≤ (c.toNat : Int) ∧ (c.toNat : Int) ≤ 126)) then .inr () else .inl ())) hs ?_ ?_ hN).trans rfl
 ·intro kr; simp [S49x0x21]
 ·intro w kr h0 h1 hw hi hk
  simp only [S49x0x21, decide_eq_true h1, _root_.cond_true, hi, bnd_eq, hw, hk, List.all_cons, wrapByte, V47x0_eq, inI]
  cases decide (32 ≤ ((s.getD w.toNat 0).toNat : Int) ∧ ((s.getD w.toNat 0).toNat : Int) ≤ 126) <;> rfl
/-! ### The first fault -/
def firstE (e : Int → Int) : Int → List D → Int
 | _, [] => 0
 | w, _ :: r => bif e w != 0 then e w else firstE e (w + 1) r
def wayE (n : Int) : Sum Int Unit := bif n != 0 then .inl n else .inr ()
theorem wayE_cons {e : Int → Int} {w : Int} {x : D} {l : List D} : wayE (firstE e w (x :: l)) = bif e w != 0 then .inl (e w) else wayE (firstE e (w + 1) l) := by
 simp only [firstE]
 cases h : e w != 0 with
 | true => simp only [_root_.cond_true, wayE, h]
 | false => rfl
/-- Is the moment of sample w not behind that of the one before? -/
def ordE (xs : List D) (w : Int) : Bool := bif w == 0 then ((xs.getD w.toNat (.i 0)).cell 0).toI != 0 else decide (((xs.getD w.toNat (.i 0)).cell 0).toI ≤ ((xs.getD (w - 1).toNat (.i 0)).cell 0).toI)
def rngB (s : D) : Bool := inI (s.cell 1).toI (-100000000) 100000000 && inI (s.cell 2).toI (-100000000) 100000000 && inI (s.cell 3).toI (-100000) 100000 && inI (s.cell 4).toI (-1) 300 && inI (s.cell 5).toI (-1) 3000 && inI (s.cell 6).toI (-1) 300
def farB (start : Int) (s : D) : Bool := decide ((s.cell 0).toI > 1000000) || decide (IntKind.wrap .i64 (start + (s.cell 0).toI) > 86399999999)
def smpE (start : Int) (xs : List D) (w : Int) : Int := bif ordE xs w then 10 else bif farB start (xs.getD w.toNat (.i 0)) || !rngB (xs.getD w.toNat (.i 0)) then 9 else 0
section
variable {xs : List D} {w : Int}
theorem prev_of (h0 : 0 ≤ w) (h1 : w < xs.length) (hl : xs.length ≤ maxLen) (hp : w ≠ 0) : IntKind.wrap .i64 (w - 1) = w - 1 ∧ inB (w - 1) xs.length = true := by
 have hm : maxLen = 9223372036854775807 := rfl
 exact ⟨wrapI (by omega) (by omega), inB_of (by omega) (by omega)⟩
theorem ord65 (h0 : 0 ≤ w) (h1 : w < xs.length) (hl : xs.length ≤ maxLen) : G65x0x39002 N w (bif (w == 0) then (((xs.getD w.toNat (.i 0)).cell 0).toI != 0) else false) xs ((xs.getD w.toNat (.i 0)).cell 0).toI = some (ordE xs w) := by
 unfold G65x0x39002 F65x0x39002 G65x0x40 F65x0x40 ordE
 by_cases hw : w = 0
 ·subst hw
  rw [decide_eq_false (by omega : ¬ ((0 : Int) > 0))]
  simp only [beq_self_eq_true, _root_.cond_true]
  cases (((xs.getD (0 : Int).toNat (.i 0)).cell 0).toI != 0) <;> rfl
 ·obtain ⟨e1, e2⟩ := prev_of h0 h1 hl hw
  have : (w == 0) = false := by simpa using hw
  rw [this, decide_eq_true (by omega : w > 0), e1, e2]
  rfl
theorem ord48 (h0 : 0 ≤ w) (h1 : w < xs.length) (hl : xs.length ≤ maxLen) : G48x0x7 N w xs ((xs.getD w.toNat (.i 0)).cell 0).toI = some (ordE xs w) := by
 unfold G48x0x7 F48x0x7 ordE
 by_cases hw : w = 0
 ·subst hw
  rw [decide_eq_false (by omega : ¬ ((0 : Int) > 0))]
  simp only [beq_self_eq_true, _root_.cond_true]
  cases (((xs.getD (0 : Int).toNat (.i 0)).cell 0).toI != 0) <;> rfl
 ·obtain ⟨e1, e2⟩ := prev_of h0 h1 hl hw
  have : (w == 0) = false := by simpa using hw
  rw [this, decide_eq_true (by omega : w > 0), e1, e2]
  rfl
theorem far65 (start : Int) (s : D) : V65x0x46 N start (s.cell 0).toI (s.cell 1).toI (s.cell 2).toI (s.cell 3).toI (s.cell 4).toI (s.cell 5).toI (s.cell 6).toI = (farB start s || !rngB s) := by
 unfold V65x0x46 F65x0x46 V86x0 F86x0 V86x0x4 F86x0x4 V86x0x7 F86x0x7 farB rngB
 simp only [bnd_eq, V85x0_eq]
 cases decide ((s.cell 0).toI > 1000000) <;> cases decide (IntKind.wrap .i64 (start + (s.cell 0).toI) > 86399999999) <;> cases inI (s.cell 1).toI (-100000000) 100000000 <;> cases inI (s.cell 2).toI (-100000000) 100000000 <;> cases inI (s.cell 3).toI (-100000) 100000 <;> cases inI (s.cell 4).toI (-1) 300 <;> cases inI (s.cell 5).toI (-1) 3000 <;> cases inI (s.cell 6).toI (-1) 300 <;> rfl
theorem G65x0x30_eq (hN : maxLen < N) (start : Int) (hl : xs.length ≤ maxLen) : G65x0x30 N xs xs.length start xs 0 = some (wayE (firstE (smpE start xs) 0 xs)) := by
 unfold G65x0x30
 refine (for_ind (.i 0 : D) (S := fun w kr => S65x0x30 N xs xs.length start xs w kr _ _) (L := fun m w => L65x0x30 N xs xs.length start xs m w _ _) (fun m w => rfl) (fun w l => some (wayE (firstE (smpE start xs) w l))) hl ?_ ?_ hN).trans rfl
 ·intro kr; simp [S65x0x30, firstE, wayE]
 ·intro w kr h0 h1 hw hi hk
  simp only [S65x0x30, decide_eq_true h1, _root_.cond_true, hi, bnd_eq, hw, hk, ord65 h0 h1 hl, Option.isSome_some, getD_some, far65, wayE_cons]
  unfold smpE
  cases ordE xs w with
  | true => rfl
  | false => cases (farB start (xs.getD w.toNat (.i 0)) || !rngB (xs.getD w.toNat (.i 0))) <;> rfl
theorem G48x0_eq (start : Int) (h0 : 0 ≤ w) (h1 : w < xs.length) (hl : xs.length ≤ maxLen) : G48x0 N start xs w = some (smpE start xs w) := by
 unfold G48x0 F48x0
 rw [inB_of h0 h1, ord48 h0 h1 hl]
 unfold smpE V48x0x19 F48x0x19 V48x0x25 F48x0x25 farB rngB
 simp only [bnd_eq, _root_.cond_true, Option.isSome_some, getD_some, V47x0_eq]
 generalize xs.getD w.toNat (.i 0) = s
 cases ordE xs w <;> cases decide ((s.cell 0).toI > 1000000) <;> cases decide (IntKind.wrap .i64 (start + (s.cell 0).toI) > 86399999999) <;> cases inI (s.cell 1).toI (-100000000) 100000000 <;> cases inI (s.cell 2).toI (-100000000) 100000000 <;> cases inI (s.cell 3).toI (-100000) 100000 <;> cases inI (s.cell 4).toI (-1) 300 <;> cases inI (s.cell 5).toI (-1) 3000 <;> cases inI (s.cell 6).toI (-1) 300 <;> rfl
theorem G16x0x30_eq (hN : maxLen < N) (start : Int) (hl : xs.length ≤ maxLen) : G16x0x30 N xs.length start xs 0 = some (wayE (firstE (smpE start xs) 0 xs)) := by
 unfold G16x0x30
 refine (for_ind (.i 0 : D) (S := fun w kr => S16x0x30 N xs.length start xs w kr _ _) (L := fun m w => L16x0x30 N xs.length start xs m w _ _) (fun m w => rfl) (fun w l => some (wayE (firstE (smpE start xs) w l))) hl ?_ ?_ hN).trans rfl
 ·intro kr; simp [S16x0x30, firstE, wayE]
 ·intro w kr h0 h1 hw hi hk
  simp only [S16x0x30, decide_eq_true h1, _root_.cond_true, bnd_eq, hw, hk, G48x0_eq start h0 h1 hl, Option.isSome_some, getD_some, wayE_cons]
  cases smpE start xs w != 0 <;> rfl
/-! ### Laps -/
def spanD (xs : List D) : Int := bif decide ((xs.length : Int) > 0) then ((xs.getD ((xs.length : Int) - 1).toNat (.i 0)).cell 0).toI else 0
theorem G87x0_eq (hl : xs.length ≤ maxLen) : G87x0 N xs = some (spanD xs) := by
 have hm : maxLen = 9223372036854775807 := rfl
 unfold G87x0 F87x0 spanD
 by_cases h : (xs.length : Int) > 0
 ·rw [decide_eq_true h, wrapI (by omega) (by omega), inB_of (by omega) (by omega)]; rfl
 ·rw [decide_eq_false h]; rfl
theorem G77x0_eq (hl : xs.length ≤ maxLen) : G77x0 N xs = some (spanD xs) := by
 have hm : maxLen = 9223372036854775807 := rfl
 unfold G77x0 F77x0 spanD
 by_cases h : (xs.length : Int) > 0
 ·have : ((xs.length : Int) == 0) = false := by simp; intro h'; subst h'; simp at h
  rw [decide_eq_true h, this, wrapI (by omega) (by omega), inB_of (by omega) (by omega)]; rfl
 ·have : ((xs.length : Int) == 0) = true := by simp; exact List.eq_nil_of_length_eq_zero (by omega)
  rw [decide_eq_false h, this]; rfl
def lapO (xs : List D) (w : Int) : Bool := bif decide (w > 0) then decide (((xs.getD w.toNat (.i 0)).cell 0).toI < ((xs.getD (w - 1).toNat (.i 0)).cell 1).toI) else false
def lapR (span : Int) (s : D) : Bool := decide ((s.cell 0).toI < 0) || decide ((s.cell 0).toI ≥ (s.cell 1).toI) || decide ((s.cell 1).toI > span)
def lapE (span : Int) (xs : List D) (w : Int) : Int := bif lapR span (xs.getD w.toNat (.i 0)) then 9 else bif lapO xs w then 10 else bif titleB ((xs.getD w.toNat (.i 0)).cell 2).toS then 0 else 8
theorem lap65 (h0 : 0 ≤ w) (h1 : w < xs.length) (hl : xs.length ≤ maxLen) : G65x0x73 N w xs ((xs.getD w.toNat (.i 0)).cell 0).toI = some (lapO xs w) := by
 unfold G65x0x73 F65x0x73 lapO
 by_cases hw : w = 0
 ·subst hw; rfl
 ·obtain ⟨e1, e2⟩ := prev_of h0 h1 hl hw
  rw [decide_eq_true (by omega : w > 0), e1, e2]; rfl
theorem lap49 (h0 : 0 ≤ w) (h1 : w < xs.length) (hl : xs.length ≤ maxLen) : G49x0x13 N w xs ((xs.getD w.toNat (.i 0)).cell 0).toI = some (lapO xs w) := lap65 (N := N) h0 h1 hl
theorem G65x0x60_eq (hN : maxLen < N) (span : Int) (hl : xs.length ≤ maxLen) (hn : ∀ x ∈ xs, (x.cell 2).toS.length ≤ maxLen) : G65x0x60 N span xs xs.length xs 0 = some (wayE (firstE (lapE span xs) 0 xs)) := by
 unfold G65x0x60
 refine (for_ind (.i 0 : D) (S := fun w kr => S65x0x60 N span xs xs.length xs w kr _ _) (L := fun m w => L65x0x60 N span xs xs.length xs m w _ _) (fun m w => rfl) (fun w l => some (wayE (firstE (lapE span xs) w l))) hl ?_ ?_ hN).trans rfl
 ·intro kr; simp [S65x0x60, firstE, wayE]
 ·intro w kr h0 h1 hw hi hk
  have hmem : xs.getD w.toNat (.i 0) ∈ xs := by rw [List.getD_eq_getElem?_getD, List.getElem?_eq_getElem (by omega)]; exact List.getElem_mem _
  simp only [S65x0x60, decide_eq_true h1, _root_.cond_true, hi, bnd_eq, hw, hk, lap65 h0 h1 hl, G88x0_eq hN (hn _ hmem), Option.isSome_some, getD_some, wayE_cons]
  unfold lapE lapR
  generalize xs.getD w.toNat (.i 0) = s
  cases decide ((s.cell 0).toI < 0) <;> cases decide ((s.cell 0).toI ≥ (s.cell 1).toI) <;> cases decide ((s.cell 1).toI > span) <;> cases lapO xs w <;> cases titleB (s.cell 2).toS <;> rfl
theorem G49x0_eq (hN : maxLen < N) {smps : List D} (h0 : 0 ≤ w) (h1 : w < xs.length) (hl : xs.length ≤ maxLen) (hs : smps.length ≤ maxLen) (hn : ∀ x ∈ xs, (x.cell 2).toS.length ≤ maxLen) : G49x0 N smps xs w = some (lapE (spanD smps) xs w) := by
 have hmem : xs.getD w.toNat (.i 0) ∈ xs := by rw [List.getD_eq_getElem?_getD, List.getElem?_eq_getElem (by omega)]; exact List.getElem_mem _
 unfold G49x0 F49x0 G49x0x7 F49x0x7
 simp only [inB_of h0 h1, _root_.cond_true, bnd_eq, G77x0_eq hs, Option.isSome_some, getD_some, lap49 h0 h1 hl, G49x0x21_eq hN (hn _ hmem)]
 unfold lapE lapR titleB
 generalize xs.getD w.toNat (.i 0) = s
 have e3 : decide (((s.cell 2).toS.length : Int) > 60) = !decide ((s.cell 2).toS.length ≤ 60) := by rw [Bool.eq_iff_iff]; simp; omega
 rw [e3]
 cases decide ((s.cell 0).toI < 0) <;> cases decide ((s.cell 0).toI ≥ (s.cell 1).toI) <;> cases decide ((s.cell 1).toI > spanD smps) <;> cases lapO xs w <;> cases (s.cell 2).toS.all (fun c => decide (32 ≤ (c.toNat : Int) ∧ (c.toNat : Int) ≤ 126)) <;> cases decide ((s.cell 2).toS.length ≤ 60) <;> rfl
theorem G16x0x51_eq (hN : maxLen < N) {smps : List D} (hl : xs.length ≤ maxLen) (hs : smps.length ≤ maxLen) (hn : ∀ x ∈ xs, (x.cell 2).toS.length ≤ maxLen) : G16x0x51 N xs.length smps xs 0 = some (wayE (firstE (lapE (spanD smps) xs) 0 xs)) := by
 unfold G16x0x51
 refine (for_ind (.i 0 : D) (S := fun w kr => S16x0x51 N xs.length smps xs w kr _ _) (L := fun m w => L16x0x51 N xs.length smps xs m w _ _) (fun m w => rfl) (fun w l => some (wayE (firstE (lapE (spanD smps) xs) w l))) hl ?_ ?_ hN).trans rfl
 ·intro kr; simp [S16x0x51, firstE, wayE]
 ·intro w kr h0 h1 hw hi hk
  simp only [S16x0x51, decide_eq_true h1, _root_.cond_true, bnd_eq, hw, hk, G49x0_eq hN h0 h1 hl hs hn, Option.isSome_some, getD_some, wayE_cons]
  cases lapE (spanD smps) xs w != 0 <;> rfl
/-! ### Tags -/
def leS (a b : List UInt8) : Bool := Op.bytesLess a b || a == b
def tagO (xs : List D) (w : Int) : Bool := bif decide (w > 0) then leS (xs.getD w.toNat (.i 0)).toS (xs.getD (w - 1).toNat (.i 0)).toS else false
def tagE (xs : List D) (w : Int) : Int := bif nameB (xs.getD w.toNat (.i 0)).toS then (bif tagO xs w then 10 else 0) else 8
theorem tag_in (h0 : 0 ≤ w) (h1 : w < xs.length) (hl : xs.length ≤ maxLen) : (bif (inB (IntKind.wrap .i64 (w - 1)) xs.length) then true else (!((decide (w > 0)) == true))) = true ∧ (bif (decide (w > 0)) then ((Op.bytesLess (xs.getD w.toNat (.i 0)).toS (xs.getD (IntKind.wrap .i64 (w - 1)).toNat (.i 0)).toS) || ((xs.getD w.toNat (.i 0)).toS == (xs.getD (IntKind.wrap .i64 (w - 1)).toNat (.i 0)).toS)) else false) = tagO xs w := by
 unfold tagO leS
 by_cases hw : w = 0
 ·subst hw
  rw [decide_eq_false (by omega : ¬ ((0 : Int) > 0))]
  refine ⟨?_, rfl⟩
  cases inB (IntKind.wrap .i64 (0 - 1)) xs.length <;> rfl
 ·obtain ⟨e1, e2⟩ := prev_of h0 h1 hl hw
  rw [decide_eq_true (by omega : w > 0), e1, e2]
  exact ⟨rfl, rfl⟩
theorem G65x0x90_eq (hN : maxLen < N) (hl : xs.length ≤ maxLen) (hn : ∀ x ∈ xs, x.toS.length ≤ maxLen) : G65x0x90 N xs xs.length xs 0 = some (wayE (firstE (tagE xs) 0 xs)) := by
 unfold G65x0x90
 refine (for_ind (.i 0 : D) (S := fun w kr => S65x0x90 N xs xs.length xs w kr _ _) (L := fun m w => L65x0x90 N xs xs.length xs m w _ _) (fun m w => rfl) (fun w l => some (wayE (firstE (tagE xs) w l))) hl ?_ ?_ hN).trans rfl
 ·intro kr; simp [S65x0x90, firstE, wayE]
 ·intro w kr h0 h1 hw hi hk
  have hmem : xs.getD w.toNat (.i 0) ∈ xs := by rw [List.getD_eq_getElem?_getD, List.getElem?_eq_getElem (by omega)]; exact List.getElem_mem _
  obtain ⟨t1, t2⟩ := tag_in h0 h1 hl
  simp only [S65x0x90, decide_eq_true h1, _root_.cond_true, hi, bnd_eq, hw, hk, G82x0_eq hN (hn _ hmem), Option.isSome_some, getD_some, wayE_cons, t2]
  unfold tagE
  rw [t1]
  cases nameB (xs.getD w.toNat (.i 0)).toS <;> cases tagO xs w <;> rfl
theorem G16x0x72_eq (hN : maxLen < N) (hl : xs.length ≤ maxLen) (hn : ∀ x ∈ xs, x.toS.length ≤ maxLen) : G16x0x72 N xs xs.length xs 0 = some (wayE (firstE (tagE xs) 0 xs)) := by
 unfold G16x0x72
 refine (for_ind (.i 0 : D) (S := fun w kr => S16x0x72 N xs xs.length xs w kr _ _) (L := fun m w => L16x0x72 N xs xs.length xs m w _ _) (fun m w => rfl) (fun w l => some (wayE (firstE (tagE xs) w l))) hl ?_ ?_ hN).trans rfl
 ·intro kr; simp [S16x0x72, firstE, wayE]
 ·intro w kr h0 h1 hw hi hk
  have hmem : xs.getD w.toNat (.i 0) ∈ xs := by rw [List.getD_eq_getElem?_getD, List.getElem?_eq_getElem (by omega)]; exact List.getElem_mem _
  obtain ⟨t1, t2⟩ := tag_in h0 h1 hl
  simp only [S16x0x72, decide_eq_true h1, _root_.cond_true, hi, bnd_eq, hw, hk, G46x0_eq hN (hn _ hmem), Option.isSome_some, getD_some, wayE_cons, t2]
  unfold tagE
  rw [t1]
  cases nameB (xs.getD w.toNat (.i 0)).toS <;> cases tagO xs w <;> rfl
end
/-! ### Check -/
/-- What Check says of an activity. -/
def chkA (name : List UInt8) (sport start : Int) (smps laps tags : List D) : Int :=
 bif !nameB name then 8 else bif !inI sport 1 5 then 7 else bif !inI start 0 86399999999 then 9 else
 bif decide ((smps.length : Int) > 20000) || decide ((laps.length : Int) > 200) || decide ((tags.length : Int) > 20) then 3 else
 bif firstE (smpE start smps) 0 smps != 0 then firstE (smpE start smps) 0 smps else
 bif firstE (lapE (spanD smps) laps) 0 laps != 0 then firstE (lapE (spanD smps) laps) 0 laps else firstE (tagE tags) 0 tags
/-- An activity's lengths are possible. -/
structure ActOk (name : List UInt8) (smps laps tags : List D) : Prop where
 n : name.length ≤ maxLen
 s : smps.length ≤ maxLen
 l : laps.length ≤ maxLen
 t : tags.length ≤ maxLen
 ln : ∀ x ∈ laps, (x.cell 2).toS.length ≤ maxLen
 tn : ∀ x ∈ tags, x.toS.length ≤ maxLen
theorem way_do {α : Type} (n : Int) (k0 : Int → α) (k1 : α) (z : α) : (bif inlB (some (wayE n)) then k0 (inlV (some (wayE n))) else bif (inrQ (some (wayE n))).isSome then k1 else z) = bif n != 0 then k0 n else k1 := by
 unfold wayE
 cases n != 0 <;> rfl
section
variable {name : List UInt8} {sport start : Int} {smps laps tags : List D}
theorem G65x0_eq (hN : maxLen < N) (h : ActOk name smps laps tags) : G65x0 N name sport start smps laps tags = some (chkA name sport start smps laps tags) := by
 unfold G65x0 F65x0
 simp only [bnd_eq, G82x0_eq hN h.n, Option.isSome_some, _root_.cond_true, getD_some, V85x0_eq, G65x0x30_eq hN start h.s, G87x0_eq h.s, G65x0x60_eq hN _ h.l h.ln, G65x0x90_eq hN h.t h.tn, way_do]
 unfold chkA
 cases nameB name <;> cases inI sport 1 5 <;> cases inI start 0 86399999999 <;> cases decide ((smps.length : Int) > 20000) <;> cases decide ((laps.length : Int) > 200) <;> cases decide ((tags.length : Int) > 20) <;> try rfl
 cases firstE (smpE start smps) 0 smps != 0 <;> cases firstE (lapE (spanD smps) laps) 0 laps != 0 <;> cases h3 : firstE (tagE tags) 0 tags != 0 <;> first | rfl | (simp only [bne_eq_false_iff_eq] at h3; simp [h3])
theorem G16x0_eq (hN : maxLen < N) (h : ActOk name smps laps tags) : G16x0 N name sport start smps laps tags = some (chkA name sport start smps laps tags) := by
 unfold G16x0 F16x0
 simp only [bnd_eq, G46x0_eq hN h.n, Option.isSome_some, _root_.cond_true, getD_some, V47x0_eq, G16x0x30_eq hN start h.s, G16x0x51_eq hN h.l h.s h.ln, G16x0x72_eq hN h.t h.tn, way_do]
 unfold chkA
 cases nameB name <;> cases inI sport 1 5 <;> cases inI start 0 86399999999 <;> cases decide ((smps.length : Int) > 20000) <;> cases decide ((laps.length : Int) > 200) <;> cases decide ((tags.length : Int) > 20) <;> try rfl
 cases firstE (smpE start smps) 0 smps != 0 <;> cases firstE (lapE (spanD smps) laps) 0 laps != 0 <;> cases h3 : firstE (tagE tags) 0 tags != 0 <;> first | rfl | (simp only [bne_eq_false_iff_eq] at h3; simp [h3])
end
end Go.Proofs.Ytngnemeafkmaoaa

/-! Plain laws: record.Same and its reference. -/
namespace Go.Proofs.Ytngnemeafkmaoaa
open Go Go.AM
set_option maxRecDepth 100000
set_option maxHeartbeats 4000000
variable {N : Nat}
def zipAll (f : D → D → Bool) : List D → List D → Bool
 | x :: r, y :: s => f x y && zipAll f r s
 | _, _ => true
def eqL (f : D → D → Bool) (xs ys : List D) : Bool := (xs.length == ys.length) && zipAll f xs ys
theorem zip_ind {xs ys : List D} (f : D → D → Bool) {S : Int → (Int → Option (Sum Unit Unit)) → Option (Sum Unit Unit)} {L : Nat → Int → Option (Sum Unit Unit)} (hL : ∀ m a, L (m + 1) a = S a (L m)) (hlen : xs.length ≤ maxLen) (hxy : xs.length = ys.length)
  (hend : ∀ kr, S xs.length kr = some (.inr ()))
  (hstep : ∀ (w : Int) (kr : Int → Option (Sum Unit Unit)), decide (w < xs.length) = true → inB w xs.length = true → inB w ys.length = true → S w kr = bif f (xs.getD w.toNat (.i 0)) (ys.getD w.toNat (.i 0)) then kr (IntKind.wrap .i64 (w + 1)) else some (.inl ()))
  (hN : maxLen < N) : L N 0 = some (bif zipAll f xs ys then .inr () else .inl ()) := by
 refine (for_ind (.i 0 : D) hL (fun w l => some (bif zipAll f l (ys.drop w.toNat) then .inr () else .inl ())) hlen ?_ ?_ hN).trans (by simp)
 ·intro kr; rw [hend]; simp [zipAll]
 ·intro w kr h0 h1 hw hi hk
  have h2 : w < ys.length := by omega
  rw [hstep w kr (decide_eq_true h1) hi (inB_of h0 (by omega)), hw, hk, drop_at (.i 0) (xs := ys) h0 h2]
  simp only [zipAll]
  cases f (xs.getD w.toNat (.i 0)) (ys.getD w.toNat (.i 0)) <;> rfl
def eqSm (x y : D) : Bool := ((x.cell 0).toI == (y.cell 0).toI) && (((x.cell 1).toI == (y.cell 1).toI) && (((x.cell 2).toI == (y.cell 2).toI) && (((x.cell 3).toI == (y.cell 3).toI) && (((x.cell 4).toI == (y.cell 4).toI) && (((x.cell 5).toI == (y.cell 5).toI) && (((x.cell 6).toI == (y.cell 6).toI) && true))))))
def eqLp (x y : D) : Bool := ((x.cell 0).toI == (y.cell 0).toI) && (((x.cell 1).toI == (y.cell 1).toI) && (((x.cell 2).toS == (y.cell 2).toS) && true))
def eqSt (x y : D) : Bool := x.toS == y.toS
section
variable {xs ys : List D}
theorem G79x0x12_eq (hN : maxLen < N) (hl : xs.length ≤ maxLen) (h : xs.length = ys.length) : G79x0x12 N xs ys xs.length 0 = some (bif zipAll eqSm xs ys then .inr () else .inl ()) := by
 unfold G79x0x12
 refine zip_ind eqSm (S := fun w kr => S79x0x12 N xs ys xs.length w kr _ _) (L := fun m w => L79x0x12 N xs ys xs.length m w _ _) (fun m w => rfl) hl h (fun kr => by simp [S79x0x12]) (fun w kr h1 h2 h3 => ?_) hN
 unfold S79x0x12
 rw [h1, h2, h3]
 show (bif !(eqSm _ _) then _ else _) = _
 cases eqSm (xs.getD w.toNat (.i 0)) (ys.getD w.toNat (.i 0)) <;> rfl
theorem G80x0x12_eq (hN : maxLen < N) (hl : xs.length ≤ maxLen) (h : xs.length = ys.length) : G80x0x12 N xs ys xs.length 0 = some (bif zipAll eqLp xs ys then .inr () else .inl ()) := by
 unfold G80x0x12
 refine zip_ind eqLp (S := fun w kr => S80x0x12 N xs ys xs.length w kr _ _) (L := fun m w => L80x0x12 N xs ys xs.length m w _ _) (fun m w => rfl) hl h (fun kr => by simp [S80x0x12]) (fun w kr h1 h2 h3 => ?_) hN
 unfold S80x0x12
 rw [h1, h2, h3]
 show (bif !(eqLp _ _) then _ else _) = _
 cases eqLp (xs.getD w.toNat (.i 0)) (ys.getD w.toNat (.i 0)) <;> rfl
theorem G81x0x12_eq (hN : maxLen < N) (hl : xs.length ≤ maxLen) (h : xs.length = ys.length) : G81x0x12 N xs ys xs.length 0 = some (bif zipAll eqSt xs ys then .inr () else .inl ()) := by
 unfold G81x0x12
 refine zip_ind eqSt (S := fun w kr => S81x0x12 N xs ys xs.length w kr _ _) (L := fun m w => L81x0x12 N xs ys xs.length m w _ _) (fun m w => rfl) hl h (fun kr => by simp [S81x0x12]) (fun w kr h1 h2 h3 => ?_) hN
 unfold S81x0x12
 rw [h1, h2, h3]
 show (bif !(eqSt _ _) then _ else _) = _
 cases eqSt (xs.getD w.toNat (.i 0)) (ys.getD w.toNat (.i 0)) <;> rfl
theorem len_bne : ((xs.length : Int) != (ys.length : Int)) = !(xs.length == ys.length) := by
 rw [Bool.eq_iff_iff]; simp; omega
theorem G79x0_eq (hN : maxLen < N) (hl : xs.length ≤ maxLen) : G79x0 N xs ys = some (eqL eqSm xs ys) := by
 unfold G79x0 F79x0 eqL
 rw [len_bne]
 cases h : (xs.length == ys.length) with
 | false => rfl
 | true =>
  rw [G79x0x12_eq hN hl (by simpa using h)]
  cases zipAll eqSm xs ys <;> rfl
theorem G80x0_eq (hN : maxLen < N) (hl : xs.length ≤ maxLen) : G80x0 N xs ys = some (eqL eqLp xs ys) := by
 unfold G80x0 F80x0 eqL
 rw [len_bne]
 cases h : (xs.length == ys.length) with
 | false => rfl
 | true =>
  rw [G80x0x12_eq hN hl (by simpa using h)]
  cases zipAll eqLp xs ys <;> rfl
theorem G81x0_eq (hN : maxLen < N) (hl : xs.length ≤ maxLen) : G81x0 N xs ys = some (eqL eqSt xs ys) := by
 unfold G81x0 F81x0 eqL
 rw [len_bne]
 cases h : (xs.length == ys.length) with
 | false => rfl
 | true =>
  rw [G81x0x12_eq hN hl (by simpa using h)]
  cases zipAll eqSt xs ys <;> rfl
theorem G51x0x12_eq (hN : maxLen < N) (hl : xs.length ≤ maxLen) (h : xs.length = ys.length) : G51x0x12 N xs.length xs ys 0 = some (bif zipAll eqSm xs ys then .inr () else .inl ()) := by
 unfold G51x0x12
 refine zip_ind eqSm (S := fun w kr => S51x0x12 N xs.length xs ys w kr _ _) (L := fun m w => L51x0x12 N xs.length xs ys m w _ _) (fun m w => rfl) hl h (fun kr => by simp [S51x0x12]) (fun w kr h1 h2 h3 => ?_) hN
 unfold S51x0x12
 rw [h1, h2, h3]
 show (bif !(eqSm _ _) then _ else _) = _
 cases eqSm (xs.getD w.toNat (.i 0)) (ys.getD w.toNat (.i 0)) <;> rfl
theorem G51x0x30_eq (hN : maxLen < N) (hl : xs.length ≤ maxLen) (h : xs.length = ys.length) : G51x0x30 N xs.length xs ys 0 = some (bif zipAll eqLp xs ys then .inr () else .inl ()) := by
 unfold G51x0x30
 refine zip_ind eqLp (S := fun w kr => S51x0x30 N xs.length xs ys w kr _ _) (L := fun m w => L51x0x30 N xs.length xs ys m w _ _) (fun m w => rfl) hl h (fun kr => by simp [S51x0x30]) (fun w kr h1 h2 h3 => ?_) hN
 unfold S51x0x30
 rw [h1, h2, h3]
 show (bif !(eqLp _ _) then _ else _) = _
 cases eqLp (xs.getD w.toNat (.i 0)) (ys.getD w.toNat (.i 0)) <;> rfl
theorem G51x0x48_eq (hN : maxLen < N) (hl : xs.length ≤ maxLen) (h : xs.length = ys.length) : G51x0x48 N xs.length xs ys 0 = some (bif zipAll eqSt xs ys then .inr () else .inl ()) := by
 unfold G51x0x48
 refine zip_ind eqSt (S := fun w kr => S51x0x48 N xs.length xs ys w kr _ _) (L := fun m w => L51x0x48 N xs.length xs ys m w _ _) (fun m w => rfl) hl h (fun kr => by simp [S51x0x48]) (fun w kr h1 h2 h3 => ?_) hN
 unfold S51x0x48
 rw [h1, h2, h3]
 show (bif !(eqSt _ _) then _ else _) = _
 cases eqSt (xs.getD w.toNat (.i 0)) (ys.getD w.toNat (.i 0)) <;> rfl
end
/-- Two activities are the same. -/
def sameA (n : List UInt8) (sp st : Int) (s l t : List D) (n' : List UInt8) (sp' st' : Int) (s' l' t' : List D) : Bool :=
 (n == n') && (sp == sp') && (st == st') && eqL eqSm s s' && eqL eqLp l l' && eqL eqSt t t'
section
variable {n n' : List UInt8} {sp st sp' st' : Int} {s l t s' l' t' : List D}
theorem G54x0_eq (hN : maxLen < N) (hs : s.length ≤ maxLen) (hl : l.length ≤ maxLen) (ht : t.length ≤ maxLen) : G54x0 N n sp st s l t n' sp' st' s' l' t' = some (sameA n sp st s l t n' sp' st' s' l' t') := by
 unfold G54x0 F54x0 G54x0x4 F54x0x4
 simp only [bnd_eq, G79x0_eq hN hs, G80x0_eq hN hl, G81x0_eq hN ht, Option.isSome_some, _root_.cond_true, getD_some]
 unfold sameA
 cases n == n' <;> cases sp == sp' <;> cases st == st' <;> cases eqL eqSm s s' <;> cases eqL eqLp l l' <;> cases eqL eqSt t t' <;> rfl
theorem G51x0_eq (hN : maxLen < N) (hs : s.length ≤ maxLen) (hl : l.length ≤ maxLen) (ht : t.length ≤ maxLen) : G51x0 N n sp st s l t n' sp' st' s' l' t' = some (sameA n sp st s l t n' sp' st' s' l' t') := by
 unfold G51x0 F51x0
 have e1 : (sp != sp') = !(sp == sp') := rfl
 have e2 : (st != st') = !(st == st') := rfl
 simp only [bnd_eq, len_bne, e1, e2]
 unfold sameA eqL
 cases h1 : (s.length == s'.length) with
 | false => cases n == n' <;> cases sp == sp' <;> cases st == st' <;> rfl
 | true =>
 cases h2 : (l.length == l'.length) with
 | false => cases n == n' <;> cases sp == sp' <;> cases st == st' <;> cases zipAll eqSm s s' <;> rfl
 | true =>
 cases h3 : (t.length == t'.length) with
 | false => cases n == n' <;> cases sp == sp' <;> cases st == st' <;> cases zipAll eqSm s s' <;> cases zipAll eqLp l l' <;> rfl
 | true =>
 rw [G51x0x12_eq hN hs (by simpa using h1), G51x0x30_eq hN hl (by simpa using h2), G51x0x48_eq hN ht (by simpa using h3)]
 cases n == n' <;> cases sp == sp' <;> cases st == st' <;> cases zipAll eqSm s s' <;> cases zipAll eqLp l l' <;> cases zipAll eqSt t t' <;> rfl
theorem zipAll_refl {f : D → D → Bool} (hf : ∀ x, f x x = true) : ∀ l, zipAll f l l = true
 | [] => rfl
 | x :: r => by simp only [zipAll, hf, zipAll_refl hf r, Bool.and_self]
theorem eqL_refl {f : D → D → Bool} (hf : ∀ x, f x x = true) (l : List D) : eqL f l l = true := by
 unfold eqL; rw [zipAll_refl hf]; simp
theorem sameA_refl : sameA n sp st s l t n sp st s l t = true := by
 unfold sameA
 rw [eqL_refl (fun x => by simp [eqSm]), eqL_refl (fun x => by simp [eqLp]), eqL_refl (fun x => by simp [eqSt])]
 simp
end
end Go.Proofs.Ytngnemeafkmaoaa

/-! Plain laws of chapter 10: rules, veils. -/
namespace Go.Proofs.Ytngnemeafkmaoaa
open Go Go.AM
set_option maxRecDepth 100000
set_option maxHeartbeats 4000000
variable {N : Nat}
theorem V64x0_eq (n a b : Int) : V64x0 N n a b = inI n a b := by
 unfold V64x0 F64x0 inI
 rw [Bool.eq_iff_iff]; simp
theorem V73x0_eq (n a b : Int) : V73x0 N n a b = !inI n a b := by
 unfold V73x0 F73x0 inI
 rw [Bool.eq_iff_iff]; simp <;> omega
/-- What is asked of the fields that a kind does not use. -/
def zeroB (kd x y r hf ht n : Int) (s : List UInt8) : Bool :=
 (kd == 1 || (x == 0 && y == 0 && r == 0)) && (kd == 2 || (hf == 0 && ht == 0)) && (kd == 3 || kd == 5 || kd == 8 || n == 0) && (kd == 4 || s == [])
/-- The fault of what a kind uses. -/
def kindE (kd x y r hf ht n : Int) (s : List UInt8) : Int :=
 bif kd == 1 then (bif inI x (-100000000) 100000000 && inI y (-100000000) 100000000 && inI r 0 1000000 then 0 else 9)
 else bif kd == 2 then (bif decide (hf < 0) || decide (hf > ht) || decide (ht ≥ 86400) then 9 else 0)
 else bif kd == 3 then (bif inI n 1 4 then 0 else 9)
 else bif kd == 8 then (bif inI n 1 1000000 then 0 else 9)
 else bif kd == 5 then (bif inI n 1 5 then 0 else 7)
 else bif kd == 4 then (bif nameB s then 0 else 8) else 0
def ruleE (fr kd x y r hf ht n : Int) (s : List UInt8) : Int :=
 bif !inI kd 1 8 then 7 else bif !inI fr 1 3 then 9 else bif kindE kd x y r hf ht n s != 0 then kindE kd x y r hf ht n s else bif zeroB kd x y r hf ht n s then 0 else 2
theorem kd_cases {kd : Int} (h : inI kd 1 8 = true) : kd = 1 ∨ kd = 2 ∨ kd = 3 ∨ kd = 4 ∨ kd = 5 ∨ kd = 6 ∨ kd = 7 ∨ kd = 8 := by
 have := of_decide_eq_true h
 omega
section
variable {fr kd x y r hf ht n : Int} {s : List UInt8}
theorem G58x0_eq (hN : maxLen < N) (hs : s.length ≤ maxLen) : G58x0 N fr kd x y r hf ht n s = some (ruleE fr kd x y r hf ht n s) := by
 unfold G58x0 F58x0
 simp only [bnd_eq, V64x0_eq]
 unfold ruleE
 cases hk : inI kd 1 8 with
 | false => rfl
 | true =>
 cases hfr : inI fr 1 3 with
 | false => rfl
 | true =>
 unfold kindE zeroB
 rcases kd_cases hk with rfl | rfl | rfl | rfl | rfl | rfl | rfl | rfl
 ·unfold G58x0x36029 F58x0x36029 V58x0x28 F58x0x28
  simp only [bnd_eq, V64x0_eq, beq_self_eq_true, Int.reduceBEq, _root_.cond_true, _root_.cond_false]
  cases inI x (-100000000) 100000000 <;> cases inI y (-100000000) 100000000 <;> cases inI r 0 1000000 <;> (try rfl) <;> simp only [inlB_inl, inlB_inr, inlV_inl, inrQ_inr, Option.isSome_some, getD_some, _root_.cond_true, _root_.cond_false, Bool.not_true, Bool.not_false] <;> cases hf == 0 <;> cases ht == 0 <;> cases n == 0 <;> cases s == [] <;> rfl
 ·unfold G58x0x36029 F58x0x36029 G58x0x48041 F58x0x48041
  simp only [bnd_eq, beq_self_eq_true, Int.reduceBEq, _root_.cond_true, _root_.cond_false]
  cases decide (hf < 0) <;> cases decide (hf > ht) <;> cases decide (ht ≥ 86400) <;> (try rfl) <;> simp only [inlB_inl, inlB_inr, inlV_inl, inrQ_inr, Option.isSome_some, getD_some, _root_.cond_true, _root_.cond_false, Bool.not_true, Bool.not_false] <;> cases x == 0 <;> cases y == 0 <;> cases r == 0 <;> cases n == 0 <;> cases s == [] <;> rfl
 ·unfold G58x0x36029 F58x0x36029 G58x0x48041 F58x0x48041 G58x0x60053 F58x0x60053
  simp only [bnd_eq, V64x0_eq, beq_self_eq_true, Int.reduceBEq, _root_.cond_true, _root_.cond_false]
  cases inI n 1 4 <;> (try rfl) <;> simp only [inlB_inl, inlB_inr, inlV_inl, inrQ_inr, Option.isSome_some, getD_some, _root_.cond_true, _root_.cond_false, Bool.not_true, Bool.not_false] <;> cases hf == 0 <;> cases ht == 0 <;> cases x == 0 <;> cases y == 0 <;> cases r == 0 <;> cases s == [] <;> rfl
 ·unfold G58x0x36029 F58x0x36029 G58x0x48041 F58x0x48041 G58x0x60053 F58x0x60053 G58x0x72065 F58x0x72065 G58x0x84077 F58x0x84077 G58x0x89 F58x0x89
  simp only [bnd_eq, V64x0_eq, G82x0_eq hN hs, beq_self_eq_true, Int.reduceBEq, _root_.cond_true, _root_.cond_false]
  cases nameB s <;> (try rfl) <;> simp only [inlB_inl, inlB_inr, inlV_inl, inrQ_inr, Option.isSome_some, getD_some, _root_.cond_true, _root_.cond_false, Bool.not_true, Bool.not_false] <;> cases hf == 0 <;> cases ht == 0 <;> cases x == 0 <;> cases y == 0 <;> cases r == 0 <;> cases n == 0 <;> rfl
 ·unfold G58x0x36029 F58x0x36029 G58x0x48041 F58x0x48041 G58x0x60053 F58x0x60053 G58x0x72065 F58x0x72065 G58x0x84077 F58x0x84077
  simp only [bnd_eq, V64x0_eq, beq_self_eq_true, Int.reduceBEq, _root_.cond_true, _root_.cond_false]
  cases inI n 1 5 <;> (try rfl) <;> simp only [inlB_inl, inlB_inr, inlV_inl, inrQ_inr, Option.isSome_some, getD_some, _root_.cond_true, _root_.cond_false, Bool.not_true, Bool.not_false] <;> cases hf == 0 <;> cases ht == 0 <;> cases x == 0 <;> cases y == 0 <;> cases r == 0 <;> cases s == [] <;> rfl
 ·unfold G58x0x36029 F58x0x36029 G58x0x48041 F58x0x48041 G58x0x60053 F58x0x60053 G58x0x72065 F58x0x72065 G58x0x84077 F58x0x84077 G58x0x89 F58x0x89
  simp only [bnd_eq, V64x0_eq, beq_self_eq_true, Int.reduceBEq, _root_.cond_true, _root_.cond_false]
  simp only [inlB_inl, inlB_inr, inlV_inl, inrQ_inr, Option.isSome_some, getD_some, _root_.cond_true, _root_.cond_false, Bool.not_true, Bool.not_false]
  cases hf == 0 <;> cases ht == 0 <;> cases x == 0 <;> cases y == 0 <;> cases r == 0 <;> cases n == 0 <;> cases s == [] <;> rfl
 ·unfold G58x0x36029 F58x0x36029 G58x0x48041 F58x0x48041 G58x0x60053 F58x0x60053 G58x0x72065 F58x0x72065 G58x0x84077 F58x0x84077 G58x0x89 F58x0x89
  simp only [bnd_eq, V64x0_eq, beq_self_eq_true, Int.reduceBEq, _root_.cond_true, _root_.cond_false]
  simp only [inlB_inl, inlB_inr, inlV_inl, inrQ_inr, Option.isSome_some, getD_some, _root_.cond_true, _root_.cond_false, Bool.not_true, Bool.not_false]
  cases hf == 0 <;> cases ht == 0 <;> cases x == 0 <;> cases y == 0 <;> cases r == 0 <;> cases n == 0 <;> cases s == [] <;> rfl
 ·unfold G58x0x36029 F58x0x36029 G58x0x48041 F58x0x48041 G58x0x60053 F58x0x60053 G58x0x72065 F58x0x72065
  simp only [bnd_eq, V64x0_eq, beq_self_eq_true, Int.reduceBEq, _root_.cond_true, _root_.cond_false]
  cases inI n 1 1000000 <;> (try rfl) <;> simp only [inlB_inl, inlB_inr, inlV_inl, inrQ_inr, Option.isSome_some, getD_some, _root_.cond_true, _root_.cond_false, Bool.not_true, Bool.not_false] <;> cases hf == 0 <;> cases ht == 0 <;> cases x == 0 <;> cases y == 0 <;> cases r == 0 <;> cases s == [] <;> rfl
theorem beq_c (a b : Int) : (a == b) = (b == a) := by rw [Bool.eq_iff_iff]; simp; exact eq_comm
theorem beq_cs (a b : List UInt8) : (a == b) = (b == a) := by rw [Bool.eq_iff_iff]; simp; exact eq_comm
theorem G59x0_eq (hN : maxLen < N) (hs : s.length ≤ maxLen) : G59x0 N fr kd x y r hf ht n s = some (ruleE fr kd x y r hf ht n s) := by
 unfold G59x0 F59x0
 simp only [bnd_eq, V73x0_eq]
 unfold ruleE
 cases hk : inI kd 1 8 with
 | false => rfl
 | true =>
 cases hfr : inI fr 1 3 with
 | false => rfl
 | true =>
 unfold kindE zeroB V59x0x27026 F59x0x27026 V83x0 F83x0 V83x0x15014 F83x0x15014 V59x0x52 F59x0x52 G59x0x58 F59x0x58
 rcases kd_cases hk with rfl | rfl | rfl | rfl | rfl | rfl | rfl | rfl
 ·unfold V59x0x25 F59x0x25
  simp only [bnd_eq, V73x0_eq, beq_self_eq_true, Int.reduceBEq, _root_.cond_true, _root_.cond_false, beq_c 0, beq_cs []]
  cases inI x (-100000000) 100000000 <;> cases inI y (-100000000) 100000000 <;> cases inI r 0 1000000 <;> (try rfl) <;> simp only [inlB_inl, inlB_inr, inlV_inl, inrQ_inr, Option.isSome_some, getD_some, _root_.cond_true, _root_.cond_false, Bool.not_true, Bool.not_false] <;> cases hf == 0 <;> cases ht == 0 <;> cases n == 0 <;> cases s == [] <;> rfl
 ·unfold V59x0x33032 F59x0x33032 V83x0x21020 F83x0x21020
  simp only [bnd_eq, beq_self_eq_true, Int.reduceBEq, _root_.cond_true, _root_.cond_false, beq_c 0, beq_cs []]
  cases decide (hf < 0) <;> cases decide (hf > ht) <;> cases decide (ht ≥ 86400) <;> (try rfl) <;> simp only [inlB_inl, inlB_inr, inlV_inl, inrQ_inr, Option.isSome_some, getD_some, _root_.cond_true, _root_.cond_false, Bool.not_true, Bool.not_false] <;> cases x == 0 <;> cases y == 0 <;> cases r == 0 <;> cases n == 0 <;> cases s == [] <;> rfl
 ·unfold V59x0x33032 F59x0x33032 V59x0x39038 F59x0x39038 V83x0x21020 F83x0x21020 V83x0x24002 F83x0x24002 V83x0x33032 F83x0x33032
  simp only [bnd_eq, V73x0_eq, beq_self_eq_true, Int.reduceBEq, _root_.cond_true, _root_.cond_false, beq_c 0, beq_cs []]
  cases inI n 1 4 <;> (try rfl) <;> simp only [inlB_inl, inlB_inr, inlV_inl, inrQ_inr, Option.isSome_some, getD_some, _root_.cond_true, _root_.cond_false, Bool.not_true, Bool.not_false] <;> cases hf == 0 <;> cases ht == 0 <;> cases x == 0 <;> cases y == 0 <;> cases r == 0 <;> cases s == [] <;> rfl
 ·unfold V59x0x33032 F59x0x33032 V59x0x39038 F59x0x39038 V59x0x44 F59x0x44 V83x0x21020 F83x0x21020 V83x0x24002 F83x0x24002 V83x0x33032 F83x0x33032 V83x0x27002 F83x0x27002 V83x0x38 F83x0x38
  simp only [bnd_eq, V73x0_eq, beq_self_eq_true, Int.reduceBEq, _root_.cond_true, _root_.cond_false, beq_c 0, beq_cs [], G46x0_eq hN hs]
  cases nameB s <;> (try rfl) <;> simp only [inlB_inl, inlB_inr, inlV_inl, inrQ_inr, Option.isSome_some, getD_some, _root_.cond_true, _root_.cond_false, Bool.not_true, Bool.not_false] <;> cases hf == 0 <;> cases ht == 0 <;> cases x == 0 <;> cases y == 0 <;> cases r == 0 <;> cases n == 0 <;> rfl
 ·unfold V59x0x33032 F59x0x33032 V59x0x39038 F59x0x39038 V59x0x44 F59x0x44 V83x0x21020 F83x0x21020 V83x0x24002 F83x0x24002 V83x0x33032 F83x0x33032 V83x0x27002 F83x0x27002
  simp only [bnd_eq, V73x0_eq, beq_self_eq_true, Int.reduceBEq, _root_.cond_true, _root_.cond_false, beq_c 0, beq_cs []]
  cases inI n 1 5 <;> (try rfl) <;> simp only [inlB_inl, inlB_inr, inlV_inl, inrQ_inr, Option.isSome_some, getD_some, _root_.cond_true, _root_.cond_false, Bool.not_true, Bool.not_false] <;> cases hf == 0 <;> cases ht == 0 <;> cases x == 0 <;> cases y == 0 <;> cases r == 0 <;> cases s == [] <;> rfl
 ·unfold V59x0x33032 F59x0x33032 V59x0x39038 F59x0x39038 V59x0x44 F59x0x44 V83x0x21020 F83x0x21020 V83x0x24002 F83x0x24002 V83x0x33032 F83x0x33032 V83x0x27002 F83x0x27002 V83x0x38 F83x0x38
  simp only [bnd_eq, beq_self_eq_true, Int.reduceBEq, _root_.cond_true, _root_.cond_false, beq_c 0, beq_cs []]
  simp only [inlB_inl, inlB_inr, inlV_inl, inrQ_inr, Option.isSome_some, getD_some, _root_.cond_true, _root_.cond_false, Bool.not_true, Bool.not_false]
  cases hf == 0 <;> cases ht == 0 <;> cases x == 0 <;> cases y == 0 <;> cases r == 0 <;> cases n == 0 <;> cases s == [] <;> rfl
 ·unfold V59x0x33032 F59x0x33032 V59x0x39038 F59x0x39038 V59x0x44 F59x0x44 V83x0x21020 F83x0x21020 V83x0x24002 F83x0x24002 V83x0x33032 F83x0x33032 V83x0x27002 F83x0x27002 V83x0x38 F83x0x38
  simp only [bnd_eq, beq_self_eq_true, Int.reduceBEq, _root_.cond_true, _root_.cond_false, beq_c 0, beq_cs []]
  simp only [inlB_inl, inlB_inr, inlV_inl, inrQ_inr, Option.isSome_some, getD_some, _root_.cond_true, _root_.cond_false, Bool.not_true, Bool.not_false]
  cases hf == 0 <;> cases ht == 0 <;> cases x == 0 <;> cases y == 0 <;> cases r == 0 <;> cases n == 0 <;> cases s == [] <;> rfl
 ·unfold V59x0x33032 F59x0x33032 V59x0x39038 F59x0x39038 V59x0x44 F59x0x44 V83x0x21020 F83x0x21020 V83x0x24002 F83x0x24002 V83x0x33032 F83x0x33032 V83x0x27002 F83x0x27002
  simp only [bnd_eq, V73x0_eq, beq_self_eq_true, Int.reduceBEq, _root_.cond_true, _root_.cond_false, beq_c 0, beq_cs []]
  cases inI n 1 1000000 <;> (try rfl) <;> simp only [inlB_inl, inlB_inr, inlV_inl, inrQ_inr, Option.isSome_some, getD_some, _root_.cond_true, _root_.cond_false, Bool.not_true, Bool.not_false] <;> cases hf == 0 <;> cases ht == 0 <;> cases x == 0 <;> cases y == 0 <;> cases r == 0 <;> cases s == [] <;> rfl
end
theorem told_ok : G12x0 18446744073709551616 = some true := by kernel_rfl
end Go.Proofs.Ytngnemeafkmaoaa

/-! Plain laws of chapter 10: Check, covers, Idle, Tidy. -/
namespace Go.Proofs.Ytngnemeafkmaoaa
open Go Go.AM
set_option maxRecDepth 100000
set_option maxHeartbeats 4000000
variable {N : Nat}
/-- A loop over a list's places that carries something along. -/
theorem fold_ind {α A X : Type} {xs : List α} (d : α) {S : Int → A → (Int → A → X) → X} {L : Nat → Int → A → X} (hL : ∀ m w a, L (m + 1) w a = S w a (L m)) (spec : Int → List α → A → X) (Inv : Int → A → Prop) (hlen : xs.length ≤ maxLen)
  (hend : ∀ a kr, Inv xs.length a → S xs.length a kr = spec xs.length [] a)
  (hstep : ∀ (w : Int) (a : A) (kr : Int → A → X), 0 ≤ w → w < xs.length → IntKind.wrap .i64 (w + 1) = w + 1 → inB w xs.length = true → Inv w a → (∀ a', Inv (w + 1) a' → kr (w + 1) a' = spec (w + 1) (xs.drop (w + 1).toNat) a') → S w a kr = spec w (xs.getD w.toNat d :: xs.drop (w + 1).toNat) a)
  (hN : maxLen < N) {a : A} (h0 : Inv 0 a) : L N 0 a = spec 0 xs a := by
 have hm : maxLen = 9223372036854775807 := rfl
 have := loop_ind (A := Int × A) (X := X) (S := fun p kr => S p.1 p.2 (fun w a => kr (w, a))) (L := fun m p => L m p.1 p.2) (fun m p => hL m p.1 p.2) (fun p => spec p.1 (xs.drop p.1.toNat) p.2) (fun p => 0 ≤ p.1 ∧ p.1 ≤ xs.length ∧ Inv p.1 p.2) (fun p => (xs.length - p.1).toNat) (fun ⟨w, a⟩ kr ⟨h0, h1, hi⟩ ih => by
  simp only at h0 h1 hi ih ⊢
  by_cases hw : w < xs.length
  ·rw [drop_at d h0 hw]
   exact hstep w a _ h0 hw (wrapI (by omega) (by omega)) (inB_of h0 hw) hi fun a' ha' => ih (w + 1, a') ⟨by simp only; omega, by simp only; omega, ha'⟩ (by simp only; omega)
  ·have : w = xs.length := by omega
   subst this
   rw [drop_end (by omega)]
   exact hend a _ hi) N (0, a) ⟨Int.le_refl _, by simp only; omega, h0⟩ (by simp only; omega)
 simpa using this
/-! ### Rules -/
abbrev rFrom (x : D) : Int := (x.cell 0).toI
abbrev rKind (x : D) : Int := (x.cell 1).toI
abbrev rX (x : D) : Int := (x.cell 2).toI
abbrev rY (x : D) : Int := (x.cell 3).toI
abbrev rR (x : D) : Int := (x.cell 4).toI
abbrev rHf (x : D) : Int := (x.cell 5).toI
abbrev rHt (x : D) : Int := (x.cell 6).toI
abbrev rN (x : D) : Int := (x.cell 7).toI
abbrev rT (x : D) : List UInt8 := (x.cell 8).toS
def ruleD (x : D) : Int := ruleE (rFrom x) (rKind x) (rX x) (rY x) (rR x) (rHf x) (rHt x) (rN x) (rT x)
def chkV (xs : List D) : Int := bif decide ((xs.length : Int) > 50) then 3 else firstE (fun w => ruleD (xs.getD w.toNat (.i 0))) 0 xs
structure VeilOk (xs : List D) : Prop where
 l : xs.length ≤ maxLen
 t : ∀ x ∈ xs, (rT x).length ≤ maxLen
theorem getD_mem {xs : List D} {w : Int} (h0 : 0 ≤ w) (h1 : w < xs.length) : xs.getD w.toNat (.i 0) ∈ xs := by
 rw [List.getD_eq_getElem?_getD, List.getElem?_eq_getElem (by omega)]; exact List.getElem_mem _
section
variable {xs : List D}
theorem G32x0x12_eq (hN : maxLen < N) (h : VeilOk xs) : G32x0x12 N xs xs.length 0 = some (wayE (firstE (fun w => ruleD (xs.getD w.toNat (.i 0))) 0 xs)) := by
 unfold G32x0x12
 refine (for_ind (.i 0 : D) (S := fun w kr => S32x0x12 N xs xs.length w kr _ _) (L := fun m w => L32x0x12 N xs xs.length m w _ _) (fun m w => rfl) (fun w l => some (wayE (firstE (fun w => ruleD (xs.getD w.toNat (.i 0))) w l))) h.l ?_ ?_ hN).trans rfl
 ·intro kr; simp [S32x0x12, firstE, wayE]
 ·intro w kr h0 h1 hw hi hk
  simp only [S32x0x12, decide_eq_true h1, _root_.cond_true, hi, bnd_eq, hw, hk, G58x0_eq hN (h.t _ (getD_mem h0 h1)), Option.isSome_some, getD_some, wayE_cons]
  unfold ruleD
  generalize ruleE _ _ _ _ _ _ _ _ _ = e
  cases e != 0 <;> rfl
theorem G33x0x12_eq (hN : maxLen < N) (h : VeilOk xs) : G33x0x12 N xs xs.length 0 = some (wayE (firstE (fun w => ruleD (xs.getD w.toNat (.i 0))) 0 xs)) := by
 unfold G33x0x12
 refine (for_ind (.i 0 : D) (S := fun w kr => S33x0x12 N xs xs.length w kr _ _) (L := fun m w => L33x0x12 N xs xs.length m w _ _) (fun m w => rfl) (fun w l => some (wayE (firstE (fun w => ruleD (xs.getD w.toNat (.i 0))) w l))) h.l ?_ ?_ hN).trans rfl
 ·intro kr; simp [S33x0x12, firstE, wayE]
 ·intro w kr h0 h1 hw hi hk
  simp only [S33x0x12, decide_eq_true h1, _root_.cond_true, hi, bnd_eq, hw, hk, G59x0_eq hN (h.t _ (getD_mem h0 h1)), Option.isSome_some, getD_some, wayE_cons]
  unfold ruleD
  generalize ruleE _ _ _ _ _ _ _ _ _ = e
  cases e != 0 <;> rfl
theorem way_chk (b : Bool) (e : Int) : (bif b then some (3 : Int) else bif inlB (some (wayE e)) then some (inlV (some (wayE e))) else bif (inrQ (some (wayE e))).isSome then some 0 else none) = some (bif b then 3 else e) := by
 unfold wayE
 cases b with
 | true => rfl
 | false =>
  cases h : e != 0 with
  | true => rfl
  | false => simp only [bne_eq_false_iff_eq] at h; subst h; rfl
theorem G32x0_eq (hN : maxLen < N) (h : VeilOk xs) : G32x0 N xs = some (chkV xs) := by
 unfold G32x0 F32x0 chkV
 simp only [bnd_eq, G32x0x12_eq hN h]
 exact way_chk _ _
theorem G33x0_eq (hN : maxLen < N) (h : VeilOk xs) : G33x0 N xs = some (chkV xs) := by
 unfold G33x0 F33x0 chkV
 simp only [bnd_eq, G33x0x12_eq hN h]
 exact way_chk _ _
theorem firstE_zero {e : Int → Int} : ∀ {l : List D} {w : Int}, firstE e w l = 0 → ∀ i : Nat, i < l.length → e (w + i) = 0
 | [], _, _, i, hi => by simp at hi
 | _ :: r, w, h, i, hi => by
  simp only [firstE] at h
  cases he : e w != 0 with
  | true => rw [he] at h; simp only [_root_.cond_true] at h; rw [h] at he; cases he
  | false =>
   rw [he] at h
   simp only [_root_.cond_false] at h
   simp only [bne_eq_false_iff_eq] at he
   cases i with
   | zero => simpa using he
   | succ i =>
    have := firstE_zero h i (by simpa using hi)
    rw [show w + ((i + 1 : Nat) : Int) = w + 1 + (i : Int) by omega]
    exact this
/-- A right veil. -/
structure VeilRight (xs : List D) : Prop where
 l : xs.length ≤ 50
 r : ∀ w : Int, 0 ≤ w → w < xs.length → ruleD (xs.getD w.toNat (.i 0)) = 0
theorem right_of (h : chkV xs = 0) : VeilRight xs := by
 unfold chkV at h
 by_cases hl : (xs.length : Int) > 50
 ·rw [decide_eq_true hl] at h; cases h
 ·rw [decide_eq_false hl] at h
  simp only [_root_.cond_false] at h
  refine ⟨by omega, fun w h0 h1 => ?_⟩
  have := firstE_zero h w.toNat (by omega)
  rw [show (0 : Int) + (w.toNat : Int) = w by omega] at this
  exact this
theorem VeilRight.mem (h : VeilRight xs) {x : D} (hx : x ∈ xs) : ruleD x = 0 := by
 obtain ⟨i, hi, rfl⟩ := List.getElem_of_mem hx
 have := h.r i (by omega) (by omega)
 rw [List.getD_eq_getElem?_getD] at this
 simpa [List.getElem?_eq_getElem hi] using this
end
/-- What holds of a right rule. -/
theorem rule_facts {fr kd x y r hf ht n : Int} {s : List UInt8} (h : ruleE fr kd x y r hf ht n s = 0) : inI kd 1 8 = true ∧ inI fr 1 3 = true ∧ kindE kd x y r hf ht n s = 0 ∧ zeroB kd x y r hf ht n s = true := by
 unfold ruleE at h
 cases h1 : inI kd 1 8 with
 | false => rw [h1] at h; cases h
 | true =>
 cases h2 : inI fr 1 3 with
 | false => rw [h1, h2] at h; cases h
 | true =>
 rw [h1, h2] at h
 cases h3 : kindE kd x y r hf ht n s != 0 with
 | true => rw [h3] at h; simp only [Bool.not_true, _root_.cond_false, _root_.cond_true] at h; rw [h] at h3; cases h3
 | false =>
  rw [h3] at h
  cases h4 : zeroB kd x y r hf ht n s with
  | false => rw [h4] at h; cases h
  | true => exact ⟨rfl, rfl, by simpa using h3, rfl⟩
def wayU (b : Bool) : Sum Unit Unit := bif b then .inl () else .inr ()
section
variable {xs : List D} {k : Int}
theorem room50 {n sz : Nat} (hn : n ≤ 50) (hs : sz ≤ 1000) : (decide ((n + 1) * sz ≤ room) && decide ((n + 1) ≤ strMax)) = true := by
 have h1 : (n + 1) * sz ≤ 51 * 1000 := Nat.mul_le_mul (by omega) hs
 have h2 : room = 140737488355328 := rfl
 have h3 : strMax = 9223372036854775807 := rfl
 rw [decide_eq_true (by omega), decide_eq_true (by omega)]; rfl
/-! ### Tidy -/
/-- A rule, its cells laid anew. -/
def reR (x : D) : D := .a [.i (rFrom x), .i (rKind x), .i (rX x), .i (rY x), .i (rR x), .i (rHf x), .i (rHt x), .i (rN x), .s (rT x)]
end
section
variable {xs ys : List D}
end
end Go.Proofs.Ytngnemeafkmaoaa

/-! A law's arguments in chapter 10. -/
namespace Go.Proofs.Ytngnemeafkmaoaa
open Go Go.AM
set_option maxRecDepth 100000
set_option maxHeartbeats 4000000
def RuleT (x : D) : Prop := ∃ a b c d e f g h s, x = .a [.i a, .i b, .i c, .i d, .i e, .i f, .i g, .i h, .s s] ∧ s.length ≤ maxLen
def SmpT (x : D) : Prop := ∃ a b c d e f g, x = .a [.i a, .i b, .i c, .i d, .i e, .i f, .i g]
def LapT (x : D) : Prop := ∃ a b s, x = .a [.i a, .i b, .s s] ∧ s.length ≤ maxLen
def TagT (x : D) : Prop := ∃ s, x = .s s ∧ s.length ≤ maxLen
theorem kinds24 : kinds Try.prog 24 = [.sl 70] := by kernel_rfl
theorem kinds70 : kinds Try.prog 70 = [.int .i64, .int .i64, .int .i64, .int .i64, .int .i64, .int .i64, .int .i64, .int .i64, .str] := by kernel_rfl
theorem kinds29 : kinds Try.prog 29 = [.str, .int .i64, .int .i64, .sl 48, .sl 111, .sl 9] := by kernel_rfl
theorem kinds48 : kinds Try.prog 48 = [.int .i64, .int .i64, .int .i64, .int .i64, .int .i64, .int .i64, .int .i64] := by kernel_rfl
theorem kinds111 : kinds Try.prog 111 = [.int .i64, .int .i64, .str] := by kernel_rfl
theorem kinds9 : kinds Try.prog 9 = [.str] := by kernel_rfl
theorem kinds3 : kinds Try.prog 3 = [.int .i64] := by kernel_rfl
theorem rule_ok {m : Nat} {x : D} (h : TyEl Try.prog (TyK Try.prog (m + 1)) 70 x) : RuleT x := by
 unfold TyEl at h
 rw [if_pos (show isAggB Try.prog 70 = true by kernel_rfl), kinds70] at h
 obtain ⟨cs, rfl, hc⟩ := h
 obtain ⟨_, _, rfl, h0, hc⟩ := all2_cons hc
 obtain ⟨_, _, rfl, h1, hc⟩ := all2_cons hc
 obtain ⟨_, _, rfl, h2, hc⟩ := all2_cons hc
 obtain ⟨_, _, rfl, h3, hc⟩ := all2_cons hc
 obtain ⟨_, _, rfl, h4, hc⟩ := all2_cons hc
 obtain ⟨_, _, rfl, h5, hc⟩ := all2_cons hc
 obtain ⟨_, _, rfl, h6, hc⟩ := all2_cons hc
 obtain ⟨_, _, rfl, h7, hc⟩ := all2_cons hc
 obtain ⟨_, _, rfl, h8, hc⟩ := all2_cons hc
 obtain rfl := all2_nil hc
 obtain ⟨_, rfl, _⟩ := ty_int h0
 obtain ⟨_, rfl, _⟩ := ty_int h1
 obtain ⟨_, rfl, _⟩ := ty_int h2
 obtain ⟨_, rfl, _⟩ := ty_int h3
 obtain ⟨_, rfl, _⟩ := ty_int h4
 obtain ⟨_, rfl, _⟩ := ty_int h5
 obtain ⟨_, rfl, _⟩ := ty_int h6
 obtain ⟨_, rfl, _⟩ := ty_int h7
 obtain ⟨_, rfl, hl⟩ := ty_str h8
 exact ⟨_, _, _, _, _, _, _, _, _, rfl, hl⟩
theorem smp_ok {m : Nat} {x : D} (h : TyEl Try.prog (TyK Try.prog (m + 1)) 48 x) : SmpT x := by
 unfold TyEl at h
 rw [if_pos (show isAggB Try.prog 48 = true by kernel_rfl), kinds48] at h
 obtain ⟨cs, rfl, hc⟩ := h
 obtain ⟨_, _, rfl, h0, hc⟩ := all2_cons hc
 obtain ⟨_, _, rfl, h1, hc⟩ := all2_cons hc
 obtain ⟨_, _, rfl, h2, hc⟩ := all2_cons hc
 obtain ⟨_, _, rfl, h3, hc⟩ := all2_cons hc
 obtain ⟨_, _, rfl, h4, hc⟩ := all2_cons hc
 obtain ⟨_, _, rfl, h5, hc⟩ := all2_cons hc
 obtain ⟨_, _, rfl, h6, hc⟩ := all2_cons hc
 obtain rfl := all2_nil hc
 obtain ⟨_, rfl, _⟩ := ty_int h0
 obtain ⟨_, rfl, _⟩ := ty_int h1
 obtain ⟨_, rfl, _⟩ := ty_int h2
 obtain ⟨_, rfl, _⟩ := ty_int h3
 obtain ⟨_, rfl, _⟩ := ty_int h4
 obtain ⟨_, rfl, _⟩ := ty_int h5
 obtain ⟨_, rfl, _⟩ := ty_int h6
 exact ⟨_, _, _, _, _, _, _, rfl⟩
theorem lap_ok {m : Nat} {x : D} (h : TyEl Try.prog (TyK Try.prog (m + 1)) 111 x) : LapT x := by
 unfold TyEl at h
 rw [if_pos (show isAggB Try.prog 111 = true by kernel_rfl), kinds111] at h
 obtain ⟨cs, rfl, hc⟩ := h
 obtain ⟨_, _, rfl, h0, hc⟩ := all2_cons hc
 obtain ⟨_, _, rfl, h1, hc⟩ := all2_cons hc
 obtain ⟨_, _, rfl, h2, hc⟩ := all2_cons hc
 obtain rfl := all2_nil hc
 obtain ⟨_, rfl, _⟩ := ty_int h0
 obtain ⟨_, rfl, _⟩ := ty_int h1
 obtain ⟨_, rfl, hl⟩ := ty_str h2
 exact ⟨_, _, _, rfl, hl⟩
theorem tag_ok {m : Nat} {x : D} (h : TyEl Try.prog (TyK Try.prog (m + 1)) 9 x) : TagT x := by
 unfold TyEl at h
 have : isAggB Try.prog 9 = false := by kernel_rfl
 rw [if_neg (by rw [this]; simp), kinds9] at h
 obtain ⟨k, hk, h⟩ := h
 simp only [List.cons.injEq, and_true] at hk
 subst hk
 exact h
/-- A law's veil. -/
structure VeilT (xs : List D) : Prop where
 l : xs.length ≤ maxLen
 t : ∀ x ∈ xs, RuleT x
theorem VeilT.ok {xs : List D} (h : VeilT xs) : VeilOk xs := ⟨h.l, fun x hx => by obtain ⟨_, _, _, _, _, _, _, _, _, rfl, hl⟩ := h.t x hx; exact hl⟩
theorem arg24 {ds : List D} (h : ArgOk Try.prog 6 24 ds) : ∃ nl xs, ds = [.l nl xs] ∧ VeilT xs := by
 unfold ArgOk at h
 rw [kinds24] at h
 obtain ⟨_, _, rfl, h0, h⟩ := all2_cons h
 obtain rfl := all2_nil h
 obtain ⟨nl, xs, rfl, _, l1, e1⟩ := ty_sl (m := 5) h0
 exact ⟨nl, xs, rfl, l1, fun x hx => rule_ok (e1 x hx)⟩
theorem arg3 {ds : List D} (h : ArgOk Try.prog 6 3 ds) : ∃ n, ds = [.i n] ∧ (Lit.int .i64 n).wf = true := by
 unfold ArgOk at h
 rw [kinds3] at h
 obtain ⟨_, _, rfl, h0, h⟩ := all2_cons h
 obtain rfl := all2_nil h
 obtain ⟨n, rfl, hw⟩ := ty_int (m := 5) h0
 exact ⟨n, rfl, hw⟩
/-- A law's activity. -/
structure ActT (name : List UInt8) (sport start : Int) (smps laps tags : List D) : Prop where
 n : name.length ≤ maxLen
 s : smps.length ≤ maxLen
 l : laps.length ≤ maxLen
 t : tags.length ≤ maxLen
 st : ∀ x ∈ smps, SmpT x
 lt : ∀ x ∈ laps, LapT x
 tt : ∀ x ∈ tags, TagT x
theorem ActT.ok {n : List UInt8} {sp st : Int} {s l t : List D} (h : ActT n sp st s l t) : ActOk n s l t :=
 ⟨h.n, h.s, h.l, h.t, fun x hx => by obtain ⟨_, _, _, rfl, hl⟩ := h.lt x hx; exact hl, fun x hx => by obtain ⟨_, rfl, hl⟩ := h.tt x hx; exact hl⟩
theorem arg29 {ds : List D} (h : ArgOk Try.prog 6 29 ds) : ∃ name sport start a smps b laps c tags, ds = [.s name, .i sport, .i start, .l a smps, .l b laps, .l c tags] ∧ ActT name sport start smps laps tags ∧ (c = true → tags = []) := by
 unfold ArgOk at h
 rw [kinds29] at h
 obtain ⟨_, _, rfl, h0, h⟩ := all2_cons h
 obtain ⟨_, _, rfl, h1, h⟩ := all2_cons h
 obtain ⟨_, _, rfl, h2, h⟩ := all2_cons h
 obtain ⟨_, _, rfl, h3, h⟩ := all2_cons h
 obtain ⟨_, _, rfl, h4, h⟩ := all2_cons h
 obtain ⟨_, _, rfl, h5, h⟩ := all2_cons h
 obtain rfl := all2_nil h
 obtain ⟨name, rfl, hn⟩ := ty_str (m := 5) h0
 obtain ⟨sport, rfl, _⟩ := ty_int (m := 5) h1
 obtain ⟨start, rfl, _⟩ := ty_int (m := 5) h2
 obtain ⟨a, smps, rfl, _, l1, e1⟩ := ty_sl (m := 5) h3
 obtain ⟨b, laps, rfl, _, l2, e2⟩ := ty_sl (m := 5) h4
 obtain ⟨c, tags, rfl, hc, l3, e3⟩ := ty_sl (m := 5) h5
 exact ⟨name, sport, start, a, smps, b, laps, c, tags, rfl, ⟨hn, l1, l2, l3, fun x hx => smp_ok (e1 x hx), fun x hx => lap_ok (e2 x hx), fun x hx => tag_ok (e3 x hx)⟩, hc⟩
end Go.Proofs.Ytngnemeafkmaoaa

/-! Plain laws of chapter 10: Covers, Both. -/
namespace Go.Proofs.Ytngnemeafkmaoaa
open Go Go.AM
set_option maxRecDepth 100000
set_option maxHeartbeats 4000000
variable {N : Nat}
section
variable {xs : List D}
end
theorem firstE2 (e : Int → Int) (x y : D) : firstE e 0 [x, y] = bif e 0 != 0 then e 0 else e 1 := by
 simp only [firstE]
 cases e 0 != 0 with
 | true => rfl
 | false =>
  cases h : e (0 + 1) != 0 with
  | true => rfl
  | false => simp only [bne_eq_false_iff_eq] at h; show (0 : Int) = e (0 + 1); exact h.symm
section
variable {a b : Bool} {v u : List D}
end
end Go.Proofs.Ytngnemeafkmaoaa

/-! Plain laws of chapter 10: what is hidden. -/
namespace Go.Proofs.Ytngnemeafkmaoaa
open Go Go.AM
set_option maxRecDepth 100000
set_option maxHeartbeats 4000000
variable {N : Nat}
/-! ### Rules that apply -/
def filtF (p : D → Bool) (f : D → D) : List D → Bool × List D → Bool × List D
 | [], a => a
 | x :: r, a => filtF p f r (bif p x then (false, a.2 ++ [f x]) else a)
theorem filtF_snd (p : D → Bool) (f : D → D) : ∀ (l : List D) (a : Bool × List D), (filtF p f l a).2 = a.2 ++ (l.filter p).map f
 | [], a => by simp [filtF]
 | x :: r, a => by
  simp only [filtF]
  rw [filtF_snd p f r]
  cases h : p x <;> simp [List.filter_cons, h]
def appP (lv : Int) (r : D) : Bool := decide (rFrom r ≤ lv)
def kndP (lv k : Int) (r : D) : Bool := bif decide (rFrom r ≤ lv) then rKind r == k else false
noncomputable def appl (xs : List D) (lv : Int) : List D := (xs.filter (appP lv)).map reR
noncomputable def forK (xs : List D) (lv k : Int) : List D := (xs.filter (kndP lv k)).map reR
theorem pair_of {a : Bool × List D} {l : List D} (h : a.2 = l) : a = (a.1, l) := by rw [← h]
section
variable {xs : List D} {lv : Int}
theorem lt50 (h : xs.length ≤ 50) : xs.length ≤ maxLen := by have hm : maxLen = 9223372036854775807 := rfl; omega
theorem G41x0_eq (hN : maxLen < N) (h : xs.length ≤ 50) : ∃ b, G41x0 N xs lv = some (b, appl xs lv) := by
 have e : G41x0x9 N lv xs xs.length 0 true [] = some (filtF (appP lv) reR xs (true, [])) := by
  unfold G41x0x9
  refine fold_ind (.i 0 : D) (A := Bool × List D) (S := fun w a kr => S41x0x9 N lv xs xs.length w a.1 a.2 (fun w b l => kr w (b, l)) _) (L := fun m w a => L41x0x9 N lv xs xs.length m w a.1 a.2 _) (fun m w a => rfl) (fun w l a => some (filtF (appP lv) reR l a)) (fun w a => (a.2.length : Int) ≤ w) (lt50 h) ?_ ?_ hN (a := (true, [])) (by simp)
  ·intro a kr _; simp [S41x0x9, filtF]
  ·intro w a kr h0 h1 hw hi ha hk
   simp only [S41x0x9, decide_eq_true h1, _root_.cond_true, hi, bnd_eq, hw, G41x0x20, F41x0x20, filtF]
   show _ = some (filtF _ _ _ (bif decide (rFrom (xs.getD w.toNat (.i 0)) ≤ lv) then _ else _))
   cases hb : decide (rFrom (xs.getD w.toNat (.i 0)) ≤ lv) with
   | true =>
    rw [room50 (by omega) (by omega)]
    exact hk (false, a.2 ++ [reR (xs.getD w.toNat (.i 0))]) (by simp; omega)
   | false => exact hk a (by omega)
 refine ⟨(filtF (appP lv) reR xs (true, [])).1, ?_⟩
 unfold G41x0 F41x0
 rw [e]
 have := filtF_snd (appP lv) reR xs (true, [])
 rw [List.nil_append] at this
 exact congrArg some (pair_of this)
theorem G91x0_eq (hN : maxLen < N) (h : xs.length ≤ 50) (k : Int) : ∃ b, G91x0 N xs lv k = some (b, forK xs lv k) := by
 have e : G91x0x9 N lv k xs xs.length 0 true [] = some (filtF (kndP lv k) reR xs (true, [])) := by
  unfold G91x0x9
  refine fold_ind (.i 0 : D) (A := Bool × List D) (S := fun w a kr => S91x0x9 N lv k xs xs.length w a.1 a.2 (fun w b l => kr w (b, l)) _) (L := fun m w a => L91x0x9 N lv k xs xs.length m w a.1 a.2 _) (fun m w a => rfl) (fun w l a => some (filtF (kndP lv k) reR l a)) (fun w a => (a.2.length : Int) ≤ w) (lt50 h) ?_ ?_ hN (a := (true, [])) (by simp)
  ·intro a kr _; simp [S91x0x9, filtF]
  ·intro w a kr h0 h1 hw hi ha hk
   simp only [S91x0x9, decide_eq_true h1, _root_.cond_true, hi, bnd_eq, hw, G91x0x20, F91x0x20, filtF]
   show _ = some (filtF _ _ _ (bif (bif decide (rFrom (xs.getD w.toNat (.i 0)) ≤ lv) then rKind (xs.getD w.toNat (.i 0)) == k else false) then _ else _))
   cases hb : (bif decide (rFrom (xs.getD w.toNat (.i 0)) ≤ lv) then rKind (xs.getD w.toNat (.i 0)) == k else false) with
   | true =>
    rw [room50 (by omega) (by omega)]
    exact hk (false, a.2 ++ [reR (xs.getD w.toNat (.i 0))]) (by simp; omega)
   | false => exact hk a (by omega)
 refine ⟨(filtF (kndP lv k) reR xs (true, [])).1, ?_⟩
 unfold G91x0 F91x0
 rw [e]
 have := filtF_snd (kndP lv k) reR xs (true, [])
 rw [List.nil_append] at this
 exact congrArg some (pair_of this)
theorem appl_len : (appl xs lv).length ≤ xs.length := by unfold appl; rw [List.length_map]; exact List.length_filter_le _ _
theorem forK_len {k : Int} : (forK xs lv k).length ≤ xs.length := by unfold forK; rw [List.length_map]; exact List.length_filter_le _ _
end
/-! ### Is there one? -/
def findI (P : D → Bool) : Int → List D → Int
 | _, [] => -1
 | w, x :: r => bif P x then w else findI P (w + 1) r
theorem findI_any (P : D → Bool) : ∀ (l : List D) (w : Int), 0 ≤ w → decide (findI P w l ≥ 0) = l.any P
 | [], w, _ => by simp [findI]
 | x :: r, w, h => by
  by_cases hp : P x = true
  ·simp [findI, hp, h]
  ·have hp := eq_false_of_ne_true hp
   have := findI_any P r (w + 1) (by omega)
   simp only [findI, List.any_cons, hp, _root_.cond_false, Bool.false_or]
   exact this
def wayI (P : D → Bool) (w : Int) (l : List D) : Sum Int Unit := bif l.any P then .inl (findI P w l) else .inr ()
theorem wayI_cons {P : D → Bool} {w : Int} {x : D} {l : List D} : wayI P w (x :: l) = bif P x then .inl w else wayI P (w + 1) l := by
 simp only [wayI, List.any_cons, findI]
 cases P x <;> rfl
theorem way_find (P : D → Bool) (l : List D) : (bif inlB (some (wayI P 0 l)) then some (inlV (some (wayI P 0 l))) else bif (inrQ (some (wayI P 0 l))).isSome then some (-1 : Int) else none) = some (findI P 0 l) := by
 unfold wayI
 have := findI_any P l 0 (by omega)
 cases h : l.any P with
 | true => rfl
 | false =>
  rw [h] at this
  have hn : findI P 0 l = -1 := by
   clear this
   have : ∀ (l : List D) (w : Int), l.any P = false → findI P w l = -1 := by
    intro l
    induction l with
    | nil => intro w _; rfl
    | cons x r ih =>
     intro w hx
     simp only [List.any_cons, Bool.or_eq_false_iff] at hx
     simp only [findI, hx.1, _root_.cond_false]
     exact ih _ hx.2
   exact this l 0 h
  rw [hn]; rfl
def wayA (P : D → Bool) (l : List D) : Sum Unit Unit := wayU (l.any P)
theorem wayA_cons {P : D → Bool} {x : D} {l : List D} : wayA P (x :: l) = bif P x then .inl () else wayA P l := by
 simp only [wayA, wayU, List.any_cons]
 cases P x <;> rfl
section
variable {xs : List D}
theorem G97x0_eq (hN : maxLen < N) (hl : xs.length ≤ maxLen) (s : List UInt8) : G97x0 N xs s = some (findI (fun t => s == t.toS) 0 xs) := by
 have e : G97x0x6 N xs s xs.length 0 = some (wayI (fun t => s == t.toS) 0 xs) := by
  unfold G97x0x6
  refine (for_ind (.i 0 : D) (S := fun w kr => S97x0x6 N xs s xs.length w kr _ _) (L := fun m w => L97x0x6 N xs s xs.length m w _ _) (fun m w => rfl) (fun w l => some (wayI (fun t => s == t.toS) w l)) hl ?_ ?_ hN).trans rfl
  ·intro kr; simp [S97x0x6, wayI]
  ·intro w kr h0 h1 hw hi hk
   simp only [S97x0x6, decide_eq_true h1, _root_.cond_true, hi, hw, hk, wayI_cons]
   cases s == (xs.getD w.toNat (.i 0)).toS <;> rfl
 unfold G97x0 F97x0
 rw [e]
 exact way_find _ _
theorem G89x0_eq (hN : maxLen < N) (hl : xs.length ≤ maxLen) (s : List UInt8) : G89x0 N xs s = some (xs.any fun t => s == t.toS) := by
 unfold G89x0 F89x0
 rw [G97x0_eq hN hl]
 simp only [bnd_eq, Option.isSome_some, getD_some, _root_.cond_true, findI_any _ _ 0 (by omega)]
/-! ### Hidden -/
/-- Does a rule hide an activity? -/
def wholeB (sport : Int) (tags : List D) (r : D) : Bool := bif rKind r == 5 then sport == rN r else bif rKind r == 4 then tags.any (fun t => rT r == t.toS) else false
theorem G71x0_eq (hN : maxLen < N) {tags : List D} (ht : tags.length ≤ maxLen) (sport : Int) (r : D) : G71x0 N (rKind r) (rN r) (rT r) sport tags = some (wholeB sport tags r) := by
 unfold G71x0 F71x0 G71x0x4 F71x0x4 wholeB G67x0 F67x0
 simp only [bnd_eq, G89x0_eq hN ht]
 cases rKind r == 5 with
 | true => rfl
 | false => cases rKind r == 4 <;> rfl
theorem G70x0_eq (hN : maxLen < N) (hl : xs.length ≤ maxLen) {tags : List D} (ht : tags.length ≤ maxLen) (sport : Int) : G70x0 N xs sport tags = some (xs.any (wholeB sport tags)) := by
 have e : G90x0x6 N xs xs.length sport tags 0 = some (wayI (wholeB sport tags) 0 xs) := by
  unfold G90x0x6
  refine (for_ind (.i 0 : D) (S := fun w kr => S90x0x6 N xs xs.length sport tags w kr _ _) (L := fun m w => L90x0x6 N xs xs.length sport tags m w _ _) (fun m w => rfl) (fun w l => some (wayI (wholeB sport tags) w l)) hl ?_ ?_ hN).trans rfl
  ·intro kr; simp [S90x0x6, wayI]
  ·intro w kr h0 h1 hw hi hk
   simp only [S90x0x6, decide_eq_true h1, _root_.cond_true, hi, hw, hk, bnd_eq, G71x0_eq hN ht, Option.isSome_some, getD_some, wayI_cons]
   cases wholeB sport tags (xs.getD w.toNat (.i 0)) <;> rfl
 unfold G70x0 F70x0 G90x0 F90x0
 rw [e]
 simp only [bnd_eq]
 rw [way_find]
 simp only [Option.isSome_some, getD_some, _root_.cond_true, findI_any _ _ 0 (by omega)]
def wr (n : Int) : Int := IntKind.wrap .i64 n
def placeB (r : D) (x y : Int) : Bool := decide (wr (wr (wr (x - rX r) * wr (x - rX r)) + wr (wr (y - rY r) * wr (y - rY r))) ≤ wr (rR r * rR r))
def hoursB (r : D) (sec : Int) : Bool := bif decide (rHf r ≤ sec) then decide (sec ≤ rHt r) else false
/-- Does a rule hide a sample? -/
def partB (sec x y : Int) (r : D) : Bool := bif rKind r == 1 then placeB r x y else bif rKind r == 2 then hoursB r sec else false
theorem G72x0_eq (r : D) (start t x y : Int) : G72x0 N (rKind r) (rX r) (rY r) (rR r) (rHf r) (rHt r) start t x y = some (partB ((wr (start + t)).tmod 86400) x y r) := by
 unfold G72x0 F72x0 G72x0x4 F72x0x4 partB
 cases rKind r == 1 with
 | true => rfl
 | false => cases rKind r == 2 <;> rfl
theorem G70x1_eq (hN : maxLen < N) (hl : xs.length ≤ maxLen) (start t x y : Int) : G70x1 N xs start t x y = some (xs.any (partB ((wr (start + t)).tmod 86400) x y)) := by
 have e : G90x1x6 N xs xs.length start t x y 0 = some (wayI (partB ((wr (start + t)).tmod 86400) x y) 0 xs) := by
  unfold G90x1x6
  refine (for_ind (.i 0 : D) (S := fun w kr => S90x1x6 N xs xs.length start t x y w kr _ _) (L := fun m w => L90x1x6 N xs xs.length start t x y m w _ _) (fun m w => rfl) (fun w l => some (wayI (partB ((wr (start + t)).tmod 86400) x y) w l)) hl ?_ ?_ hN).trans rfl
  ·intro kr; simp [S90x1x6, wayI]
  ·intro w kr h0 h1 hw hi hk
   simp only [S90x1x6, decide_eq_true h1, _root_.cond_true, hi, hw, hk, bnd_eq, G72x0_eq, Option.isSome_some, getD_some, wayI_cons]
   cases partB ((wr (start + t)).tmod 86400) x y (xs.getD w.toNat (.i 0)) <;> rfl
 unfold G70x1 F70x1 G90x1 F90x1
 rw [e]
 simp only [bnd_eq]
 rw [way_find]
 simp only [Option.isSome_some, getD_some, _root_.cond_true, findI_any _ _ 0 (by omega)]
end
/-- Is a sample hidden? -/
def hidS (rs : List D) (all : Bool) (start : Int) (s : D) : Bool := all || rs.any (partB ((wr (start + (s.cell 0).toI)).tmod 86400) (s.cell 1).toI (s.cell 2).toI)
def hidL (rs : List D) (all : Bool) (start : Int) (l : List D) : List D := l.map fun s => .b (hidS rs all start s)
section
variable {rs smps tags : List D} {sport start : Int}
theorem G40x0x18_eq (hN : maxLen < N) (hr : rs.length ≤ maxLen) (hs : smps.length ≤ maxLen) (all : Bool) : G40x0x18 N rs all smps smps.length start 0 (List.replicate smps.length (.b false)) = some (hidL rs all start smps) := by
 unfold G40x0x18
 refine (fold_ind (.i 0 : D) (A := List D) (S := fun w a kr => S40x0x18 N rs all smps smps.length start w a kr _) (L := fun m w a => L40x0x18 N rs all smps smps.length start m w a _) (fun m w a => rfl) (fun w l a => some (a.take w.toNat ++ hidL rs all start l))
  (fun w a => a.length = smps.length ∧ a.drop w.toNat = List.replicate (smps.length - w.toNat) (.b false)) hs ?_ ?_ hN (a := List.replicate smps.length (.b false)) (by simp)).trans (by simp)
 ·intro a kr h
  have : a.take smps.length = a := by rw [← h.1, List.take_length]
  simp [S40x0x18, hidL, this]
 ·intro w a kr h0 h1 hw hi ⟨ha, hd⟩ hk
  have hlt : w.toNat < a.length := by omega
  have hib : inB w a.length = true := inB_of h0 (by omega)
  have hset : ∀ y : D, (a.set w.toNat y).length = smps.length ∧ (a.set w.toNat y).drop (w + 1).toNat = List.replicate (smps.length - (w + 1).toNat) (.b false) ∧ (a.set w.toNat y).take (w + 1).toNat = a.take w.toNat ++ [y] := by
   intro y
   have e1 : (w + 1).toNat = w.toNat + 1 := by omega
   refine ⟨by simpa using ha, ?_, ?_⟩
   ·rw [e1, List.drop_set_of_lt (by omega)]
    have : a.drop (w.toNat + 1) = (a.drop w.toNat).drop 1 := by rw [List.drop_drop]
    rw [this, hd, List.drop_replicate]
    congr 1
   ·rw [e1, List.take_succ_eq_append_getElem (by simpa using hlt), List.take_set_of_le (Nat.le_refl _)]
    simp
  simp only [S40x0x18, decide_eq_true h1, _root_.cond_true, hi, hw, bnd_eq, G40x0x25, F40x0x25, hib, decide_eq_true hlt, G70x1_eq hN hr]
  have go : ∀ b : Bool, kr (w + 1) (a.set w.toNat (.b b)) = some ((a.take w.toNat ++ [.b b]) ++ hidL rs all start (smps.drop (w + 1).toNat)) := fun b => by
   obtain ⟨q1, q2, q3⟩ := hset (.b b)
   rw [hk _ ⟨q1, q2⟩, q3]
  cases all with
  | true =>
   refine (go true).trans ?_
   simp [hidL, hidS]
  | false =>
   refine (go _).trans ?_
   simp [hidL, hidS]
theorem G40x0_eq (hN : maxLen < N) (hr : rs.length ≤ maxLen) (hs : smps.length ≤ 20000) (ht : tags.length ≤ maxLen) : G40x0 N rs sport start smps tags = some (hidL rs (rs.any (wholeB sport tags)) start smps, rs.any (wholeB sport tags)) := by
 have hm : maxLen = 9223372036854775807 := rfl
 have h2 : room = 140737488355328 := rfl
 have h3 : strMax = 9223372036854775807 := rfl
 unfold G40x0 F40x0
 simp only [bnd_eq, G70x0_eq hN hr ht, Option.isSome_some, getD_some, _root_.cond_true, Int.toNat_natCast, G40x0x18_eq hN hr (show smps.length ≤ maxLen by omega)]
 rw [decide_eq_true (show (0 : Int) ≤ (smps.length : Int) by omega), decide_eq_true (show (smps.length : Int) ≤ (smps.length : Int) by omega), decide_eq_true (show smps.length * 1 ≤ room by omega), decide_eq_true (show smps.length ≤ strMax by omega)]
 rfl
end
/-! ### The reference's -/
section
variable {xs tags : List D} {lv sport : Int}
theorem any_app (P : D → Bool) (hP : ∀ r, P (reR r) = P r) : (appl xs lv).any P = xs.any fun r => appP lv r && P r := by
 unfold appl
 rw [List.any_map, List.any_filter]
 congr 1
 funext r
 show (appP lv r && P (reR r)) = _
 rw [hP]
theorem any_forK (P : D → Bool) (hP : ∀ r, P (reR r) = P r) (k : Int) : (forK xs lv k).any P = xs.any fun r => kndP lv k r && P r := by
 unfold forK
 rw [List.any_map, List.any_filter]
 congr 1
 funext r
 show (kndP lv k r && P (reR r)) = _
 rw [hP]
theorem any_or (P Q : D → Bool) (l : List D) : (l.any fun r => P r || Q r) = (l.any P || l.any Q) := by
 induction l with
 | nil => rfl
 | cons x r ih => simp only [List.any_cons, ih]; cases P x <;> cases Q x <;> simp
theorem whole_split : (appl xs lv).any (wholeB sport tags) = ((forK xs lv 5).any (fun r => rN r == sport) || (forK xs lv 4).any fun r => tags.any fun t => t.toS == rT r) := by
 rw [any_app _ (fun _ => rfl), any_forK _ (fun _ => rfl), any_forK _ (fun _ => rfl), ← any_or]
 congr 1
 funext r
 unfold appP wholeB kndP
 cases decide (rFrom r ≤ lv) with
 | false => rfl
 | true =>
  by_cases h5 : rKind r = 5
  ·rw [h5]; simp; exact beq_c _ _
  ·have : (rKind r == 5) = false := by simpa using h5
   rw [this]
   by_cases h4 : rKind r = 4
   ·rw [h4]; simp
    congr 1
    funext t
    exact beq_cs _ _
   ·have : (rKind r == 4) = false := by simpa using h4
    rw [this]; rfl
theorem part_split (sec x y : Int) : (appl xs lv).any (partB sec x y) = ((forK xs lv 1).any (fun r => placeB r x y) || (forK xs lv 2).any fun r => hoursB r sec) := by
 rw [any_app _ (fun _ => rfl), any_forK _ (fun _ => rfl), any_forK _ (fun _ => rfl), ← any_or]
 congr 1
 funext r
 unfold appP partB kndP
 cases decide (rFrom r ≤ lv) with
 | false => rfl
 | true =>
  by_cases h5 : rKind r = 1
  ·rw [h5]; simp
  ·have : (rKind r == 1) = false := by simpa using h5
   rw [this]
   by_cases h4 : rKind r = 2
   ·rw [h4]; simp
   ·have : (rKind r == 2) = false := by simpa using h4
    rw [this]; rfl
theorem way_any (b : Bool) {R : Type} (x y z : R) : (bif inlB (some (wayU b)) then x else bif (inrQ (some (wayU b))).isSome then y else z) = bif b then x else y := by cases b <;> rfl
theorem G74x0_eq (hN : maxLen < N) (h : xs.length ≤ 50) (ht : tags.length ≤ maxLen) : G74x0 N xs lv sport tags = some ((appl xs lv).any (wholeB sport tags)) := by
 obtain ⟨b5, e5⟩ := G91x0_eq (lv := lv) hN h 5
 obtain ⟨b4, e4⟩ := G91x0_eq (lv := lv) hN h 4
 have l5 := forK_len (xs := xs) (lv := lv) (k := 5)
 have l4 := forK_len (xs := xs) (lv := lv) (k := 4)
 have f5 : G74x0x6 N (forK xs lv 5) (forK xs lv 5).length sport 0 = some (wayU ((forK xs lv 5).any fun r => rN r == sport)) := by
  unfold G74x0x6
  refine (for_ind (.i 0 : D) (S := fun w kr => S74x0x6 N (forK xs lv 5) (forK xs lv 5).length sport w kr _ _) (L := fun m w => L74x0x6 N (forK xs lv 5) (forK xs lv 5).length sport m w _ _) (fun m w => rfl) (fun w l => some (wayA (fun r => rN r == sport) l)) (lt50 (by omega)) ?_ ?_ hN).trans rfl
  ·intro kr; simp [S74x0x6, wayA, wayU]
  ·intro w kr h0 h1 hw hi hk
   simp only [S74x0x6, decide_eq_true h1, _root_.cond_true, hi, hw, hk, wayA_cons]
   cases rN ((forK xs lv 5).getD w.toNat (.i 0)) == sport <;> rfl
 have ft : ∀ s : List UInt8, G74x0x33 N tags tags.length s 0 = some (wayU (tags.any fun t => t.toS == s)) := by
  intro s
  unfold G74x0x33
  refine (for_ind (.i 0 : D) (S := fun w kr => S74x0x33 N tags tags.length s w kr _ _) (L := fun m w => L74x0x33 N tags tags.length s m w _ _) (fun m w => rfl) (fun w l => some (wayA (fun t => t.toS == s) l)) ht ?_ ?_ hN).trans rfl
  ·intro kr; simp [S74x0x33, wayA, wayU]
  ·intro w kr h0 h1 hw hi hk
   simp only [S74x0x33, decide_eq_true h1, _root_.cond_true, hi, hw, hk, wayA_cons]
   cases (tags.getD w.toNat (.i 0)).toS == s <;> rfl
 have f4 : G74x0x24 N (forK xs lv 4) (forK xs lv 4).length tags 0 = some (wayU ((forK xs lv 4).any fun r => tags.any fun t => t.toS == rT r)) := by
  unfold G74x0x24
  refine (for_ind (.i 0 : D) (S := fun w kr => S74x0x24 N (forK xs lv 4) (forK xs lv 4).length tags w kr _ _) (L := fun m w => L74x0x24 N (forK xs lv 4) (forK xs lv 4).length tags m w _ _) (fun m w => rfl) (fun w l => some (wayA (fun r => tags.any fun t => t.toS == rT r) l)) (lt50 (by omega)) ?_ ?_ hN).trans rfl
  ·intro kr; simp [S74x0x24, wayA, wayU]
  ·intro w kr h0 h1 hw hi hk
   simp only [S74x0x24, decide_eq_true h1, _root_.cond_true, hi, hw, hk, wayA_cons, bnd_eq, ft, way_any]
   cases tags.any fun t => t.toS == rT ((forK xs lv 4).getD w.toNat (.i 0)) <;> rfl
 unfold G74x0 F74x0
 simp only [bnd_eq, e5, e4, Option.isSome_some, getD_some, _root_.cond_true, f5, f4, way_any, whole_split]
 cases (forK xs lv 5).any fun r => rN r == sport with
 | true => rfl
 | false => cases (forK xs lv 4).any fun r => tags.any fun t => t.toS == rT r <;> rfl
theorem G75x0_eq (hN : maxLen < N) (h : xs.length ≤ 50) (start t x y : Int) : G75x0 N xs lv start t x y = some ((appl xs lv).any (partB ((wr (start + t)).tmod 86400) x y)) := by
 obtain ⟨b1, e1⟩ := G91x0_eq (lv := lv) hN h 1
 obtain ⟨b2, e2⟩ := G91x0_eq (lv := lv) hN h 2
 have l1 := forK_len (xs := xs) (lv := lv) (k := 1)
 have l2 := forK_len (xs := xs) (lv := lv) (k := 2)
 have f1 : G75x0x6 N (forK xs lv 1) (forK xs lv 1).length x y 0 = some (wayU ((forK xs lv 1).any fun r => placeB r x y)) := by
  unfold G75x0x6
  refine (for_ind (.i 0 : D) (S := fun w kr => S75x0x6 N (forK xs lv 1) (forK xs lv 1).length x y w kr _ _) (L := fun m w => L75x0x6 N (forK xs lv 1) (forK xs lv 1).length x y m w _ _) (fun m w => rfl) (fun w l => some (wayA (fun r => placeB r x y) l)) (lt50 (by omega)) ?_ ?_ hN).trans rfl
  ·intro kr; simp [S75x0x6, wayA, wayU]
  ·intro w kr h0 h1 hw hi hk
   simp only [S75x0x6, decide_eq_true h1, _root_.cond_true, hi, hw, hk, wayA_cons, bnd_eq]
   show (bif placeB ((forK xs lv 1).getD w.toNat (.i 0)) x y then _ else _) = _
   cases placeB ((forK xs lv 1).getD w.toNat (.i 0)) x y <;> rfl
 have f2 : ∀ sec : Int, G75x0x27 N sec (forK xs lv 2) (forK xs lv 2).length 0 = some (wayU ((forK xs lv 2).any fun r => hoursB r sec)) := by
  intro sec
  unfold G75x0x27
  refine (for_ind (.i 0 : D) (S := fun w kr => S75x0x27 N sec (forK xs lv 2) (forK xs lv 2).length w kr _ _) (L := fun m w => L75x0x27 N sec (forK xs lv 2) (forK xs lv 2).length m w _ _) (fun m w => rfl) (fun w l => some (wayA (fun r => hoursB r sec) l)) (lt50 (by omega)) ?_ ?_ hN).trans rfl
  ·intro kr; simp [S75x0x27, wayA, wayU]
  ·intro w kr h0 h1 hw hi hk
   simp only [S75x0x27, decide_eq_true h1, _root_.cond_true, hi, hw, hk, wayA_cons, bnd_eq]
   show (bif hoursB ((forK xs lv 2).getD w.toNat (.i 0)) sec then _ else _) = _
   cases hoursB ((forK xs lv 2).getD w.toNat (.i 0)) sec <;> rfl
 unfold G75x0 F75x0
 simp only [bnd_eq, e1, e2, Option.isSome_some, getD_some, _root_.cond_true, f1, f2, way_any, part_split]
 show (bif _ then some true else bif (List.any _ fun r => hoursB r ((wr (start + t)).tmod 86400)) then _ else _) = _
 cases (forK xs lv 1).any fun r => placeB r x y with
 | true => rfl
 | false => cases (forK xs lv 2).any fun r => hoursB r ((wr (start + t)).tmod 86400) <;> rfl
variable {smps : List D} {start : Int}
theorem G43x0x12_eq (hN : maxLen < N) (h : xs.length ≤ 50) (hs : smps.length ≤ 20000) (all : Bool) : ∃ b, G43x0x12 N lv all smps smps.length xs start 0 true [] = some (b, hidL (appl xs lv) all start smps) := by
 have hm : maxLen = 9223372036854775807 := rfl
 have h2 : room = 140737488355328 := rfl
 have h3 : strMax = 9223372036854775807 := rfl
 have e : G43x0x12 N lv all smps smps.length xs start 0 true [] = some (filtF (fun _ => true) (fun s => .b (hidS (appl xs lv) all start s)) smps (true, [])) := by
  unfold G43x0x12
  refine fold_ind (.i 0 : D) (A := Bool × List D) (S := fun w a kr => S43x0x12 N lv all smps smps.length xs start w a.1 a.2 (fun w b l => kr w (b, l)) _) (L := fun m w a => L43x0x12 N lv all smps smps.length xs start m w a.1 a.2 _) (fun m w a => rfl) (fun w l a => some (filtF (fun _ => true) (fun s => .b (hidS (appl xs lv) all start s)) l a)) (fun w a => (a.2.length : Int) ≤ w) (by omega) ?_ ?_ hN (a := (true, [])) (by simp)
  ·intro a kr _; simp [S43x0x12, filtF]
  ·intro w a kr h0 h1 hw hi ha hk
   simp only [S43x0x12, decide_eq_true h1, _root_.cond_true, hi, bnd_eq, hw, G43x0x19, F43x0x19, filtF, G75x0_eq hN h, Option.isSome_some, getD_some]
   rw [decide_eq_true (show (a.2.length + 1) * 1 ≤ room by omega), decide_eq_true (show a.2.length + 1 ≤ strMax by omega)]
   cases all with
   | true => exact hk (false, a.2 ++ [.b true]) (by simp; omega)
   | false => exact hk (false, a.2 ++ [.b _]) (by simp; omega)
 refine ⟨(filtF (fun _ => true) (fun s => .b (hidS (appl xs lv) all start s)) smps (true, [])).1, ?_⟩
 rw [e]
 have := filtF_snd (fun _ => true) (fun s => D.b (hidS (appl xs lv) all start s)) smps (true, [])
 rw [List.nil_append, List.filter_eq_self.2 (fun _ _ => rfl)] at this
 exact congrArg some (pair_of this)
theorem G43x0_eq (hN : maxLen < N) (h : xs.length ≤ 50) (hs : smps.length ≤ 20000) (ht : tags.length ≤ maxLen) : ∃ b, G43x0 N xs lv sport start smps tags = some (b, hidL (appl xs lv) ((appl xs lv).any (wholeB sport tags)) start smps, (appl xs lv).any (wholeB sport tags)) := by
 obtain ⟨b, e⟩ := G43x0x12_eq (lv := lv) (start := start) hN h hs ((appl xs lv).any (wholeB sport tags))
 refine ⟨b, ?_⟩
 unfold G43x0 F43x0
 simp only [bnd_eq, G74x0_eq hN h ht, Option.isSome_some, getD_some, _root_.cond_true, e]
end
end Go.Proofs.Ytngnemeafkmaoaa

/-! Plain laws of chapter 10: how things are seen: samples. -/
namespace Go.Proofs.Ytngnemeafkmaoaa
open Go Go.AM
set_option maxRecDepth 100000
set_option maxHeartbeats 4000000
variable {N : Nat}
/-! ### What the rules say of the look -/
def fldB (rs : List D) (i : Int) : Bool := rs.any fun r => rKind r == 3 && rN r == i
def grdL (rs : List D) : List D := (rs.filter fun r => rKind r == 8).map fun r => .i (rN r)
def kdB (rs : List D) (k : Int) : Bool := rs.any fun r => rKind r == k
def lookS (r : D) (a : Ty1) : Ty1 :=
 bif rKind r == 3 then ((bif Nat.beq (rN r).toNat 0 then true else a.1), (bif Nat.beq (rN r).toNat 1 then true else a.2.1), (bif Nat.beq (rN r).toNat 2 then true else a.2.2.1), (bif Nat.beq (rN r).toNat 3 then true else a.2.2.2.1), (bif Nat.beq (rN r).toNat 4 then true else a.2.2.2.2.1), a.2.2.2.2.2.1, a.2.2.2.2.2.2.1, a.2.2.2.2.2.2.2.1, a.2.2.2.2.2.2.2.2)
 else bif rKind r == 8 then (a.1, a.2.1, a.2.2.1, a.2.2.2.1, a.2.2.2.2.1, a.2.2.2.2.2.1, a.2.2.2.2.2.2.1, false, a.2.2.2.2.2.2.2.2 ++ [.i (rN r)])
 else bif rKind r == 6 then (a.1, a.2.1, a.2.2.1, a.2.2.2.1, a.2.2.2.2.1, true, a.2.2.2.2.2.2.1, a.2.2.2.2.2.2.2.1, a.2.2.2.2.2.2.2.2)
 else bif rKind r == 7 then (a.1, a.2.1, a.2.2.1, a.2.2.2.1, a.2.2.2.2.1, a.2.2.2.2.2.1, true, a.2.2.2.2.2.2.2.1, a.2.2.2.2.2.2.2.2) else a
def lookF : List D → Ty1 → Ty1
 | [], a => a
 | r :: l, a => lookF l (lookS r a)
/-- What is asked of a rule. -/
def RuleG (r : D) : Prop := (rKind r = 3 → 1 ≤ rN r ∧ rN r ≤ 4) ∧ (rKind r = 8 → 1 ≤ rN r ∧ rN r ≤ 1000000)
theorem ruleG_of {r : D} (h : ruleD r = 0) : RuleG r := by
 obtain ⟨_, _, h3, _⟩ := rule_facts h
 unfold kindE at h3
 refine ⟨fun hk => ?_, fun hk => ?_⟩
 ·rw [hk] at h3
  cases hb : inI (rN r) 1 4 with
  | true => exact of_decide_eq_true hb
  | false => rw [hb] at h3; cases h3
 ·rw [hk] at h3
  cases hb : inI (rN r) 1 1000000 with
  | true => exact of_decide_eq_true hb
  | false => rw [hb] at h3; cases h3
theorem beqN_eq {n j : Int} {i : Nat} (h0 : 0 ≤ n) (hj : (i : Int) = j) : Nat.beq n.toNat i = (n == j) := by
 rw [beq_eq', Bool.eq_iff_iff]
 simp
 omega
theorem lookF_eq : ∀ (l : List D) (a : Ty1), (∀ r ∈ l, RuleG r) → ∃ x y, lookF l a = (x, a.2.1 || fldB l 1, a.2.2.1 || fldB l 2, a.2.2.2.1 || fldB l 3, a.2.2.2.2.1 || fldB l 4, a.2.2.2.2.2.1 || kdB l 6, a.2.2.2.2.2.2.1 || kdB l 7, y, a.2.2.2.2.2.2.2.2 ++ grdL l)
 | [], a, _ => ⟨a.1, a.2.2.2.2.2.2.2.1, by simp [lookF, fldB, kdB, grdL]⟩
 | r :: l, a, h => by
  obtain ⟨x, y, e⟩ := lookF_eq l (lookS r a) fun r' hr' => h r' (by simp [hr'])
  have hr := h r (by simp)
  refine ⟨x, y, ?_⟩
  rw [lookF, e]
  by_cases h3 : rKind r = 3
  ·have hn := hr.1 h3
   simp only [lookS, fldB, kdB, grdL, List.any_cons, List.filter_cons, h3, beq_self_eq_true, Int.reduceBEq, _root_.cond_true, Bool.true_and, Bool.false_or, beqN_eq (i := 1) (j := 1) (show 0 ≤ rN r by omega) rfl, beqN_eq (i := 2) (j := 2) (show 0 ≤ rN r by omega) rfl, beqN_eq (i := 3) (j := 3) (show 0 ≤ rN r by omega) rfl, beqN_eq (i := 4) (j := 4) (show 0 ≤ rN r by omega) rfl, Bool.false_eq_true, if_false]
   have hc : ∀ (c x y : Bool), ((bif c then true else x) || y) = (x || (c || y)) := by intro c x y; cases c <;> cases x <;> cases y <;> rfl
   simp only [hc]
  ·have e3 : (rKind r == 3) = false := by simpa using h3
   by_cases h8 : rKind r = 8
   ·simp [lookS, fldB, kdB, grdL, List.filter_cons, h8]
   ·have e8 : (rKind r == 8) = false := by simpa using h8
    by_cases h6 : rKind r = 6
    ·simp [lookS, fldB, kdB, grdL, List.filter_cons, h6]
    ·have e6 : (rKind r == 6) = false := by simpa using h6
     by_cases h7 : rKind r = 7
     ·simp [lookS, fldB, kdB, grdL, List.filter_cons, h7]
     ·have e7 : (rKind r == 7) = false := by simpa using h7
      simp [lookS, fldB, kdB, grdL, List.filter_cons, e3, e8, e6, e7, h3, h8, h6, h7]
section
variable {rs : List D}
theorem G93x0x24023_eq {r : D} (hr : RuleG r) {a : Ty1} (hl : a.2.2.2.2.2.2.2.2.length ≤ 50) :
  (∃ p, G93x0x24023 N (rKind r) (rKind r == 3) a.1 a.2.1 a.2.2.1 a.2.2.2.1 a.2.2.2.2.1 a.2.2.2.2.2.1 a.2.2.2.2.2.2.1 (rN r) a.2.2.2.2.2.2.2.2 = some (.inl p) ∧ lookS r a = (p.1, p.2.1, p.2.2.1, p.2.2.2.1, p.2.2.2.2.1, p.2.2.2.2.2.1, p.2.2.2.2.2.2, a.2.2.2.2.2.2.2.1, a.2.2.2.2.2.2.2.2)) ∨
  (∃ g, G93x0x24023 N (rKind r) (rKind r == 3) a.1 a.2.1 a.2.2.1 a.2.2.2.1 a.2.2.2.2.1 a.2.2.2.2.2.1 a.2.2.2.2.2.2.1 (rN r) a.2.2.2.2.2.2.2.2 = some (.inr g) ∧ lookS r a = (a.1, a.2.1, a.2.2.1, a.2.2.2.1, a.2.2.2.2.1, a.2.2.2.2.2.1, a.2.2.2.2.2.2.1, false, g) ∧ g.length = a.2.2.2.2.2.2.2.2.length + 1) := by
 unfold G93x0x24023 F93x0x24023 G93x0x30029 F93x0x30029 V93x0x36035 F93x0x36035 V93x0x41 F93x0x41 lookS
 by_cases h3 : rKind r = 3
 ·have hn := hr.1 h3
  have e3 : (rKind r == 3) = true := by simpa using h3
  rw [e3, inB_of (show 0 ≤ rN r by omega) (show rN r < (5 : Nat) by omega)]
  exact .inl ⟨_, rfl, rfl⟩
 ·have e3 : (rKind r == 3) = false := by simpa using h3
  rw [e3]
  by_cases h8 : rKind r = 8
  ·have e8 : (rKind r == 8) = true := by simpa using h8
   rw [e8, room50 hl (by omega)]
   exact .inr ⟨a.2.2.2.2.2.2.2.2 ++ [.i (rN r)], rfl, rfl, by simp⟩
  ·have e8 : (rKind r == 8) = false := by simpa using h8
   rw [e8]
   by_cases h6 : rKind r = 6
   ·have e6 : (rKind r == 6) = true := by simpa using h6
    rw [e6]
    exact .inl ⟨_, rfl, rfl⟩
   ·have e6 : (rKind r == 6) = false := by simpa using h6
    rw [e6]
    cases rKind r == 7 with
    | true => exact .inl ⟨_, rfl, rfl⟩
    | false => exact .inl ⟨_, rfl, rfl⟩
theorem G93x0x9_eq (hN : maxLen < N) (hl : rs.length ≤ 50) (hr : ∀ r ∈ rs, RuleG r) : G93x0x9 N rs rs.length 0 false false false false false false false true [] = some (lookF rs (false, false, false, false, false, false, false, true, [])) := by
 unfold G93x0x9
 refine fold_ind (.i 0 : D) (A := Ty1) (S := fun w a kr => S93x0x9 N rs rs.length w a.1 a.2.1 a.2.2.1 a.2.2.2.1 a.2.2.2.2.1 a.2.2.2.2.2.1 a.2.2.2.2.2.2.1 a.2.2.2.2.2.2.2.1 a.2.2.2.2.2.2.2.2 (fun w a b c d e f g h i => kr w (a, b, c, d, e, f, g, h, i)) _)
  (L := fun m w a => L93x0x9 N rs rs.length m w a.1 a.2.1 a.2.2.1 a.2.2.2.1 a.2.2.2.2.1 a.2.2.2.2.2.1 a.2.2.2.2.2.2.1 a.2.2.2.2.2.2.2.1 a.2.2.2.2.2.2.2.2 _) (fun m w a => rfl) (fun w l a => some (lookF l a)) (fun w a => (a.2.2.2.2.2.2.2.2.length : Int) ≤ w) (lt50 hl) ?_ ?_ hN (a := (false, false, false, false, false, false, false, true, [])) (by simp)
 ·intro a kr _; simp [S93x0x9, lookF]
 ·intro w a kr h0 h1 hw hi ha hk
  have hrg := hr _ (getD_mem h0 h1)
  simp only [S93x0x9, decide_eq_true h1, _root_.cond_true, hi, bnd_eq, hw, lookF]
  rcases G93x0x24023_eq (N := N) hrg (a := a) (by omega) with ⟨p, e, q⟩ | ⟨g, e, q, ql⟩
  ·rw [e, q]
   exact hk (p.1, p.2.1, p.2.2.1, p.2.2.2.1, p.2.2.2.2.1, p.2.2.2.2.2.1, p.2.2.2.2.2.2, a.2.2.2.2.2.2.2.1, a.2.2.2.2.2.2.2.2) (by simp only; omega)
  ·rw [e, q]
   exact hk (a.1, a.2.1, a.2.2.1, a.2.2.2.1, a.2.2.2.2.1, a.2.2.2.2.2.1, a.2.2.2.2.2.2.1, false, g) (by simp only [ql]; omega)
theorem G93x0_eq (hN : maxLen < N) (hl : rs.length ≤ 50) (hr : ∀ r ∈ rs, RuleG r) : ∃ x y, G93x0 N rs = some (x, fldB rs 1, fldB rs 2, fldB rs 3, fldB rs 4, y, grdL rs, kdB rs 6, kdB rs 7) := by
 obtain ⟨x, y, e⟩ := lookF_eq rs (false, false, false, false, false, false, false, true, []) hr
 refine ⟨x, y, ?_⟩
 unfold G93x0 F93x0
 rw [G93x0x9_eq hN hl hr, e]
 simp [bnd_eq]
end
/-! ### Samples -/
def lowI (x n : Int) : Int := wr (x - (bif decide (x.tmod n < 0) then wr (x.tmod n + n) else x.tmod n))
theorem G99x0_eq {n : Int} (hn : 1 ≤ n) (x : Int) : G99x0 N x n = some (lowI x n) := by
 unfold G99x0 F99x0 V99x0x11 F99x0x11 lowI
 have : (n == 0) = false := by simp; omega
 rw [this]
 cases decide (x.tmod n < 0) <;> rfl
def gridF : List D → Int × Int → Int × Int
 | [], a => a
 | g :: r, a => gridF r (max2 (lowI a.1 g.toI) (-100000000), max2 (lowI a.2 g.toI) (-100000000))
section
variable {gs : List D}
theorem G100x0x27_eq (hN : maxLen < N) (hl : gs.length ≤ maxLen) (hg : ∀ g ∈ gs, 1 ≤ g.toI) (x y : Int) : G100x0x27 N gs gs.length 0 x y = some (gridF gs (x, y)) := by
 unfold G100x0x27
 refine fold_ind (.i 0 : D) (A := Int × Int) (S := fun w a kr => S100x0x27 N gs gs.length w a.1 a.2 (fun w a b => kr w (a, b)) _) (L := fun m w a => L100x0x27 N gs gs.length m w a.1 a.2 _) (fun m w a => rfl) (fun w l a => some (gridF l a)) (fun w a => True) hl ?_ ?_ hN (a := (x, y)) trivial
 ·intro a kr _; simp [S100x0x27, gridF]
 ·intro w a kr h0 h1 hw hi _ hk
  have := hg _ (getD_mem h0 h1)
  simp only [S100x0x27, decide_eq_true h1, _root_.cond_true, hi, bnd_eq, hw, gridF, G99x0_eq this, Option.isSome_some, getD_some]
  exact hk (_, _) trivial
end
def smpX (rs : List D) (x y z p w s : Int) : Int × Int × Int × Int × Int × Int := ((gridF (grdL rs) (x, y)).1, (gridF (grdL rs) (x, y)).2, (bif fldB rs 4 then 0 else z), (bif fldB rs 1 then -1 else p), (bif fldB rs 2 then -1 else w), (bif fldB rs 3 then -1 else s))
section
variable {rs : List D}
theorem grdL_len (hl : rs.length ≤ 50) : (grdL rs).length ≤ 50 := by
 unfold grdL; rw [List.length_map]; exact Nat.le_trans (List.length_filter_le _ _) hl
theorem grdL_pos (hr : ∀ r ∈ rs, RuleG r) : ∀ g ∈ grdL rs, 1 ≤ g.toI := by
 intro g hg
 unfold grdL at hg
 obtain ⟨r, h1, rfl⟩ := List.mem_map.1 hg
 obtain ⟨h2, h3⟩ := List.mem_filter.1 h1
 exact ((hr r h2).2 (by simpa using h3)).1
theorem G100x0_eq (hN : maxLen < N) (hl : rs.length ≤ 50) (hr : ∀ r ∈ rs, RuleG r) (x y z p w s : Int) : G100x0 N (fldB rs 1) (fldB rs 2) (fldB rs 3) (fldB rs 4) (grdL rs) x y z p w s = some (smpX rs x y z p w s) := by
 unfold G100x0 F100x0 V100x0x23 F100x0x23
 simp only [bnd_eq, G100x0x27_eq hN (lt50 (grdL_len hl)) (grdL_pos hr), Option.isSome_some, getD_some, _root_.cond_true]
 unfold smpX
 cases fldB rs 4 <;> rfl
end
/-! ### The reference's sample -/
section
variable {xs : List D} {lv : Int}
theorem appl_good (hx : ∀ r ∈ xs, RuleG r) : ∀ r ∈ appl xs lv, RuleG r := by
 intro r h
 unfold appl at h
 obtain ⟨r0, h1, rfl⟩ := List.mem_map.1 h
 exact hx r0 (List.mem_filter.1 h1).1
end
end Go.Proofs.Ytngnemeafkmaoaa

/-! Plain laws of chapter 10: pieces. -/
namespace Go.Proofs.Ytngnemeafkmaoaa
open Go Go.AM
set_option maxRecDepth 100000
set_option maxHeartbeats 4000000
variable {N : Nat}
def actName : List UInt8 := [97, 99, 116, 105, 118, 105, 116, 121]
/-- A sample as it is seen. -/
def smpD (rs : List D) (from_ : Int) (s : D) : D :=
 .a [.i (wr ((s.cell 0).toI - from_)), .i (smpX rs (s.cell 1).toI (s.cell 2).toI (s.cell 3).toI (s.cell 4).toI (s.cell 5).toI (s.cell 6).toI).1, .i (smpX rs (s.cell 1).toI (s.cell 2).toI (s.cell 3).toI (s.cell 4).toI (s.cell 5).toI (s.cell 6).toI).2.1, .i (smpX rs (s.cell 1).toI (s.cell 2).toI (s.cell 3).toI (s.cell 4).toI (s.cell 5).toI (s.cell 6).toI).2.2.1,
  .i (smpX rs (s.cell 1).toI (s.cell 2).toI (s.cell 3).toI (s.cell 4).toI (s.cell 5).toI (s.cell 6).toI).2.2.2.1, .i (smpX rs (s.cell 1).toI (s.cell 2).toI (s.cell 3).toI (s.cell 4).toI (s.cell 5).toI (s.cell 6).toI).2.2.2.2.1, .i (smpX rs (s.cell 1).toI (s.cell 2).toI (s.cell 3).toI (s.cell 4).toI (s.cell 5).toI (s.cell 6).toI).2.2.2.2.2]
noncomputable def putS (m : List (D × D)) (s : D) : List (D × D) := putB Try.prog 3 (.i (s.cell 0).toI) (.b true) m
noncomputable def runF (rs : List D) (from_ : Int) : List D → Ty6 → Ty6
 | [], a => a
 | s :: l, a => runF rs from_ l (putS a.1 s, false, a.2.2 ++ [smpD rs from_ s])
noncomputable def secL : List D → List (D × D) → List (D × D)
 | [], m => m
 | s :: l, m => secL l (putS m s)
theorem runF_eq (rs : List D) (from_ : Int) : ∀ (l : List D) (a : Ty6), runF rs from_ l a = (secL l a.1, (bif l.isEmpty then a.2.1 else false), a.2.2 ++ l.map (smpD rs from_))
 | [], a => by simp [runF, secL]
 | s :: l, a => by
  rw [runF, runF_eq rs from_ l]
  cases l <;> simp [secL]
noncomputable def inM (m : List (D × D)) (t : Int) : Bool := ((findB Try.prog 3 (.i t) m).getD (.b false)).toB
noncomputable def lapP (m : List (D × D)) (x : D) : Bool := !(bif !inM m (x.cell 0).toI then true else !inM m (x.cell 1).toI)
def lapD (un : Bool) (from_ : Int) (x : D) : D := .a [.i (wr ((x.cell 0).toI - from_)), .i (wr ((x.cell 1).toI - from_)), .s (bif un then [] else (x.cell 2).toS)]
theorem roomL {n sz b : Nat} (hn : n ≤ b) (h : (b + 1) * sz ≤ 140737488355328) (hs : 1 ≤ sz) : (decide ((n + 1) * sz ≤ room) && decide ((n + 1) ≤ strMax)) = true := by
 have h1 : (n + 1) * sz ≤ (b + 1) * sz := Nat.mul_le_mul_right _ (by omega)
 have h4 : n + 1 ≤ (n + 1) * sz := Nat.le_mul_of_pos_right _ hs
 have h2 : room = 140737488355328 := rfl
 have h3 : strMax = 9223372036854775807 := rfl
 rw [decide_eq_true (by omega), decide_eq_true (by omega)]; rfl
section
variable {rs l laps : List D} {from_ : Int}
theorem G94x0x27_eq (hN : maxLen < N) (hl : rs.length ≤ 50) (hr : ∀ r ∈ rs, RuleG r) (hn : l.length ≤ 20000) : G94x0x27 N from_ l l.length (fldB rs 1) (fldB rs 2) (fldB rs 3) (fldB rs 4) (grdL rs) 0 [] true [] = some (runF rs from_ l ([], true, [])) := by
 have hm : maxLen = 9223372036854775807 := rfl
 unfold G94x0x27
 refine fold_ind (.i 0 : D) (A := Ty6) (S := fun w a kr => S94x0x27 N from_ l l.length (fldB rs 1) (fldB rs 2) (fldB rs 3) (fldB rs 4) (grdL rs) w a.1 a.2.1 a.2.2 (fun w a b c => kr w (a, b, c)) _) (L := fun m w a => L94x0x27 N from_ l l.length (fldB rs 1) (fldB rs 2) (fldB rs 3) (fldB rs 4) (grdL rs) m w a.1 a.2.1 a.2.2 _) (fun m w a => rfl) (fun w l a => some (runF rs from_ l a)) (fun w a => (a.2.2.length : Int) ≤ w) (by omega) ?_ ?_ hN (a := ([], true, [])) (by simp)
 ·intro a kr _; simp [S94x0x27, runF]
 ·intro w a kr h0 h1 hw hi ha hk
  simp only [S94x0x27, decide_eq_true h1, _root_.cond_true, hi, bnd_eq, hw, runF, G100x0_eq hN hl hr, Option.isSome_some, getD_some, roomL (n := a.2.2.length) (sz := 56) (b := 20000) (by omega) (by omega) (by omega)]
  exact hk (_, false, _) (by simp; omega)
theorem G94x0x27b_eq (hN : maxLen < N) (hl : rs.length ≤ 50) (hr : ∀ r ∈ rs, RuleG r) (hn : l.length ≤ 20000) : G94x0x27b N from_ l l.length (fldB rs 1) (fldB rs 2) (fldB rs 3) (fldB rs 4) (grdL rs) 0 [] true [] = some (runF rs from_ l ([], true, [])) := by
 have hm : maxLen = 9223372036854775807 := rfl
 unfold G94x0x27b
 refine fold_ind (.i 0 : D) (A := Ty6) (S := fun w a kr => S94x0x27b N from_ l l.length (fldB rs 1) (fldB rs 2) (fldB rs 3) (fldB rs 4) (grdL rs) w a.1 a.2.1 a.2.2 (fun w a b c => kr w (a, b, c)) _) (L := fun m w a => L94x0x27b N from_ l l.length (fldB rs 1) (fldB rs 2) (fldB rs 3) (fldB rs 4) (grdL rs) m w a.1 a.2.1 a.2.2 _) (fun m w a => rfl) (fun w l a => some (runF rs from_ l a)) (fun w a => (a.2.2.length : Int) ≤ w) (by omega) ?_ ?_ hN (a := ([], true, [])) (by simp)
 ·intro a kr _; simp [S94x0x27b, runF]
 ·intro w a kr h0 h1 hw hi ha hk
  simp only [S94x0x27b, decide_eq_true h1, _root_.cond_true, hi, bnd_eq, hw, runF, G100x0_eq hN hl hr, Option.isSome_some, getD_some, roomL (n := a.2.2.length) (sz := 56) (b := 20000) (by omega) (by omega) (by omega)]
  exact hk (_, false, _) (by simp; omega)
theorem G94x0x51_eq (hN : maxLen < N) (hn : laps.length ≤ 200) (un : Bool) (m : List (D × D)) : G94x0x51 N from_ laps laps.length un m 0 true [] = some (filtF (lapP m) (lapD un from_) laps (true, [])) := by
 unfold G94x0x51
 have hm : maxLen = 9223372036854775807 := rfl
 refine fold_ind (.i 0 : D) (A := Bool × List D) (S := fun w a kr => S94x0x51 N from_ laps laps.length un m w a.1 a.2 (fun w b l => kr w (b, l)) _) (L := fun k w a => L94x0x51 N from_ laps laps.length un m k w a.1 a.2 _) (fun m w a => rfl) (fun w l a => some (filtF (lapP m) (lapD un from_) l a)) (fun w a => (a.2.length : Int) ≤ w) (by omega) ?_ ?_ hN (a := (true, [])) (by simp)
 ·intro a kr _; simp [S94x0x51, filtF]
 ·intro w a kr h0 h1 hw hi ha hk
  simp only [S94x0x51, decide_eq_true h1, _root_.cond_true, hi, bnd_eq, hw, filtF, roomL (n := a.2.length) (sz := 32) (b := 200) (by omega) (by omega) (by omega), V94x0x68, F94x0x68]
  show (bif (bif !inM m ((laps.getD w.toNat (.i 0)).cell 0).toI then true else !inM m ((laps.getD w.toNat (.i 0)).cell 1).toI) then _ else _) = some (filtF _ _ _ (bif lapP m (laps.getD w.toNat (.i 0)) then _ else _))
  unfold lapP
  cases (bif !inM m ((laps.getD w.toNat (.i 0)).cell 0).toI then true else !inM m ((laps.getD w.toNat (.i 0)).cell 1).toI) with
  | true => exact hk a (by omega)
  | false =>
   have := hk (false, a.2 ++ [lapD un from_ (laps.getD w.toNat (.i 0))]) (by simp; omega)
   unfold lapD at this ⊢
   cases un <;> exact this
theorem G94x0x51b_eq (hN : maxLen < N) (hn : laps.length ≤ 200) (un : Bool) (m : List (D × D)) : G94x0x51b N from_ laps laps.length un m 0 true [] = some (filtF (lapP m) (lapD un from_) laps (true, [])) := by
 unfold G94x0x51b
 have hm : maxLen = 9223372036854775807 := rfl
 refine fold_ind (.i 0 : D) (A := Bool × List D) (S := fun w a kr => S94x0x51b N from_ laps laps.length un m w a.1 a.2 (fun w b l => kr w (b, l)) _) (L := fun k w a => L94x0x51b N from_ laps laps.length un m k w a.1 a.2 _) (fun m w a => rfl) (fun w l a => some (filtF (lapP m) (lapD un from_) l a)) (fun w a => (a.2.length : Int) ≤ w) (by omega) ?_ ?_ hN (a := (true, [])) (by simp)
 ·intro a kr _; simp [S94x0x51b, filtF]
 ·intro w a kr h0 h1 hw hi ha hk
  simp only [S94x0x51b, decide_eq_true h1, _root_.cond_true, hi, bnd_eq, hw, filtF, roomL (n := a.2.length) (sz := 32) (b := 200) (by omega) (by omega) (by omega), V94x0x68b, F94x0x68b]
  show (bif (bif !inM m ((laps.getD w.toNat (.i 0)).cell 0).toI then true else !inM m ((laps.getD w.toNat (.i 0)).cell 1).toI) then _ else _) = some (filtF _ _ _ (bif lapP m (laps.getD w.toNat (.i 0)) then _ else _))
  unfold lapP
  cases (bif !inM m ((laps.getD w.toNat (.i 0)).cell 0).toI then true else !inM m ((laps.getD w.toNat (.i 0)).cell 1).toI) with
  | true => exact hk a (by omega)
  | false =>
   have := hk (false, a.2 ++ [lapD un from_ (laps.getD w.toNat (.i 0))]) (by simp; omega)
   unfold lapD at this ⊢
   cases un <;> exact this
end
/-- A piece, in parts. -/
noncomputable def pieceT (rs : List D) (name : List UInt8) (start : Int) (laps : List D) (tn : Bool) (tags l : List D) : Ty0 :=
 let from_ := ((l.getD 0 (.i 0)).cell 0).toI
 let un := kdB rs 7
 let st := wr (start + from_)
 let lp := filtF (lapP (secL l [])) (lapD un from_) laps (true, [])
 ((bif un then actName else name), (bif kdB rs 6 then wr (st - st.tmod 86400) else st), (bif l.isEmpty then true else false), l.map (smpD rs from_), lp.1, lp.2, (bif un then true else tn), (bif un then [] else tags))
section
variable {rs l laps tags : List D} {name : List UInt8} {start : Int} {tn : Bool}
theorem lowI_nonneg {n : Int} (h : 0 ≤ n) : lowI n 86400 = wr (n - n.tmod 86400) := by
 have : 0 ≤ n.tmod 86400 := Int.tmod_nonneg _ h
 unfold lowI
 rw [decide_eq_false (by omega)]; rfl
theorem G94x0_eq (hN : maxLen < N) (hl : rs.length ≤ 50) (hr : ∀ r ∈ rs, RuleG r) (hn : l.length ≤ 20000) (h0 : 0 < l.length) (hlp : laps.length ≤ 200) (htg : tags.length ≤ 20) (hnil : tn = true → tags = [])
  (hst : 0 ≤ wr (start + ((l.getD 0 (.i 0)).cell 0).toI)) : G94x0 N (fldB rs 1) (fldB rs 2) (fldB rs 3) (fldB rs 4) (grdL rs) (kdB rs 6) (kdB rs 7) name start laps tn tags l = some (pieceT rs name start laps tn tags l) := by
 have h2 : room = 140737488355328 := rfl
 have h3 : strMax = 9223372036854775807 := rfl
 have hin : inB 0 l.length = true := inB_of (by omega) (by omega)
 have hday : ∀ b : Bool, F94x0x20 N b (wr (start + ((l.getD 0 (.i 0)).cell 0).toI)) (fun p => some p) = some (bif b then wr (wr (start + ((l.getD 0 (.i 0)).cell 0).toI) - (wr (start + ((l.getD 0 (.i 0)).cell 0).toI)).tmod 86400) else wr (start + ((l.getD 0 (.i 0)).cell 0).toI)) := by
  intro b
  unfold F94x0x20
  rw [G99x0_eq (by omega), lowI_nonneg hst]
  cases b <;> rfl
 have hday2 : ∀ b : Bool, F94x0x20b N b (wr (start + ((l.getD 0 (.i 0)).cell 0).toI)) (fun p => some p) = some (bif b then wr (wr (start + ((l.getD 0 (.i 0)).cell 0).toI) - (wr (start + ((l.getD 0 (.i 0)).cell 0).toI)).tmod 86400) else wr (start + ((l.getD 0 (.i 0)).cell 0).toI)) := hday
 have hday3 : ∀ b : Bool, F94x0x20bb N b (wr (start + ((l.getD 0 (.i 0)).cell 0).toI)) (fun p => some p) = some (bif b then wr (wr (start + ((l.getD 0 (.i 0)).cell 0).toI) - (wr (start + ((l.getD 0 (.i 0)).cell 0).toI)).tmod 86400) else wr (start + ((l.getD 0 (.i 0)).cell 0).toI)) := hday
 have hrun : ∀ l : List D, (runF rs ((l.getD 0 (.i 0)).cell 0).toI l ([], true, [])) = (secL l [], (bif l.isEmpty then true else false), l.map (smpD rs ((l.getD 0 (.i 0)).cell 0).toI)) := fun l => by rw [runF_eq]; simp
 unfold G94x0 F94x0 pieceT
 rw [hin]
 cases tn with
 | true =>
  have := hnil rfl
  subst this
  have e7 : G94x0x7 N ((l.getD 0 (.i 0)).cell 0).toI start true [] = some (.inl (wr (start + ((l.getD 0 (.i 0)).cell 0).toI))) := rfl
  simp only [bnd_eq, _root_.cond_true, e7, inlB_inl, inlV_inl, G94x0x20, hday, Option.isSome_some, getD_some, G94x0x27_eq hN hl hr hn, G94x0x51_eq hN hlp, hrun, V94x0x14, F94x0x14]
  cases kdB rs 7 <;> rfl
 | false =>
  have e7 : G94x0x7 N ((l.getD 0 (.i 0)).cell 0).toI start false tags = some (.inr (wr (start + ((l.getD 0 (.i 0)).cell 0).toI), false)) := by
   unfold G94x0x7 F94x0x7 G98x0 F98x0
   rw [decide_eq_true (show (0 + tags.length) * 16 ≤ room by omega), decide_eq_true (show 0 + tags.length ≤ strMax by omega)]
   cases tags.isEmpty <;> rfl
  simp only [bnd_eq, _root_.cond_true, _root_.cond_false, e7, inlB_inr, inrQ_inr, G94x0x20b, hday2, G94x0x20bb, hday3, Option.isSome_some, getD_some, G94x0x27_eq hN hl hr hn, G94x0x51_eq hN hlp, G94x0x27b_eq hN hl hr hn, G94x0x51b_eq hN hlp, hrun, G94x0x14b, F94x0x14b]
  cases kdB rs 7 <;> rfl
end
/-! ### The reference's piece -/
section
variable {xs l laps tags : List D} {lv from_ start : Int} {name : List UInt8}
end
end Go.Proofs.Ytngnemeafkmaoaa

/-! Plain laws of chapter 10: See, Hidden. -/
namespace Go.Proofs.Ytngnemeafkmaoaa
open Go Go.AM
set_option maxRecDepth 100000
set_option maxHeartbeats 4000000
variable {N : Nat}
/-! ### Right activities -/
def aName (a : D) : List UInt8 := (a.cell 0).toS
def aSport (a : D) : Int := (a.cell 1).toI
def aStart (a : D) : Int := (a.cell 2).toI
def aSmps (a : D) : List D := (a.cell 3).items
def aLaps (a : D) : List D := (a.cell 4).items
def aTn (a : D) : Bool := (a.cell 5).isNil
def aTags (a : D) : List D := (a.cell 5).items
def TimeG (start : Int) (s : D) : Prop := 0 ≤ start + (s.cell 0).toI ∧ start + (s.cell 0).toI ≤ 86399999999
structure ActR (start : Int) (smps laps tags : List D) : Prop where
 s : smps.length ≤ 20000
 l : laps.length ≤ 200
 t : tags.length ≤ 20
 g : ∀ x ∈ smps, TimeG start x
theorem way0 {b : Bool} {n z : Int} (h : (bif b then n else z) = 0) (hn : n ≠ 0) : b = false ∧ z = 0 := by
 cases b with
 | true => exact absurd h hn
 | false => exact ⟨rfl, h⟩
theorem wayne {n z : Int} (h : (bif n != 0 then n else z) = 0) : n = 0 ∧ z = 0 := by
 cases hb : n != 0 with
 | true => rw [hb] at h; simp only [_root_.cond_true] at h; rw [h] at hb; cases hb
 | false => rw [hb] at h; exact ⟨by simpa using hb, h⟩
theorem act_right {name : List UInt8} {sport start : Int} {smps laps tags : List D} (h : chkA name sport start smps laps tags = 0) : ActR start smps laps tags := by
 unfold chkA at h
 obtain ⟨_, h⟩ := way0 h (by decide)
 obtain ⟨_, h⟩ := way0 h (by decide)
 obtain ⟨h3, h⟩ := way0 h (by decide)
 obtain ⟨h4, h⟩ := way0 h (by decide)
 obtain ⟨h5, h⟩ := wayne h
 simp only [Bool.or_eq_false_iff, decide_eq_false_iff_not] at h4
 have hst := of_decide_eq_true (show inI start 0 86399999999 = true by simpa using h3)
 have hz := firstE_zero h5
 have hw : ∀ i : Nat, i < smps.length → ordE smps i = false ∧ farB start (smps.getD i (.i 0)) = false := by
  intro i hi
  have := hz i hi
  rw [Int.zero_add] at this
  unfold smpE at this
  obtain ⟨q1, q2⟩ := way0 this (by decide)
  obtain ⟨q3, _⟩ := way0 q2 (by decide)
  simp only [Bool.or_eq_false_iff] at q3
  exact ⟨q1, by simpa using q3.1⟩
 have hpos : ∀ i : Nat, i < smps.length → 0 ≤ ((smps.getD i (.i 0)).cell 0).toI := by
  intro i
  induction i with
  | zero =>
   intro hi
   have := (hw 0 hi).1
   unfold ordE at this
   simp at this
   simp [this]
  | succ i ih =>
   intro hi
   have := (hw (i + 1) hi).1
   unfold ordE at this
   have e0 : (((i + 1 : Nat) : Int) == 0) = false := by simp; omega
   rw [e0] at this
   simp only [_root_.cond_false, decide_eq_false_iff_not] at this
   have e1 : (((i + 1 : Nat) : Int) - 1).toNat = i := by omega
   rw [e1, Int.toNat_natCast] at this
   have := ih (by omega)
   omega
 refine ⟨by omega, by omega, by omega, fun x hx => ?_⟩
 obtain ⟨i, hi, rfl⟩ := List.getElem_of_mem hx
 have h1 := hpos i hi
 have h2 := (hw i hi).2
 have e : smps.getD i (.i 0) = smps[i] := by rw [List.getD_eq_getElem?_getD, List.getElem?_eq_getElem hi]; rfl
 rw [e] at h1 h2
 unfold farB at h2
 simp only [Bool.or_eq_false_iff, decide_eq_false_iff_not] at h2
 obtain ⟨h2, h3⟩ := h2
 rw [wrapI (by omega) (by omega)] at h3
 exact ⟨by omega, by omega⟩
/-! ### The samples' runs -/
def reS (s : D) : D := .a [.i (s.cell 0).toI, .i (s.cell 1).toI, .i (s.cell 2).toI, .i (s.cell 3).toI, .i (s.cell 4).toI, .i (s.cell 5).toI, .i (s.cell 6).toI]
def gapB (now : List D) (s : D) : Bool := bif decide ((now.length : Int) > 0) then decide (wr ((s.cell 0).toI - ((now.getD (now.length - 1) (.i 0)).cell 0).toI) > 60) else false
section
variable {now : List D} {s : D}
theorem G92x0x25_eq (hl : now.length ≤ maxLen) : G92x0x25 N now.length now (s.cell 0).toI = some (gapB now s) := by
 have hm : maxLen = 9223372036854775807 := rfl
 unfold G92x0x25 F92x0x25 gapB
 cases hd : decide ((now.length : Int) > 0) with
 | false => rfl
 | true =>
  have := of_decide_eq_true hd
  rw [wrapI (by omega) (by omega), inB_of (by omega) (by omega)]
  have e : ((now.length : Int) - 1).toNat = now.length - 1 := by omega
  rw [e, decide_eq_true (show now.length - 1 < now.length by omega)]
  rfl
end
def runsF (hid : D → Bool) : List D → List D × List (List D) → List D × List (List D)
 | [], a => a
 | s :: r, a => runsF hid r (bif hid s then a else bif gapB a.1 s then ([reS s], a.2 ++ [a.1]) else (a.1 ++ [reS s], a.2))
def lastR (a : List D × List (List D)) : List (List D) := bif decide ((a.1.length : Int) > 0) then a.2 ++ [a.1] else a.2
/-- The runs of samples that are seen. -/
def seenRuns (hid : D → Bool) (l : List D) : List (List D) := lastR (runsF hid l ([], []))
/-- The program's walk: whether nothing is at hand, what is at hand; whether nothing is out, what is out. -/
def seeF (pc : List D → D) (hid : D → Bool) : List D → Ty5 → Ty5
 | [], a => a
 | s :: r, a => seeF pc hid r (bif hid s then a else bif gapB a.2.1 s then (false, [reS s], false, a.2.2.2 ++ [pc a.2.1]) else (false, a.2.1 ++ [reS s], a.2.2.1, a.2.2.2))
def seeE (pc : List D → D) (a : Ty5) : Bool × List D := bif decide ((a.2.1.length : Int) > 0) then (false, a.2.2.2 ++ [pc a.2.1]) else (a.2.2.1, a.2.2.2)
theorem seeF_runs (pc : List D → D) (hid : D → Bool) : ∀ (l : List D) (a : Ty5) (b : List D × List (List D)) (out : List D), a.2.1 = b.1 → a.2.2.2 = out ++ b.2.map pc → (seeF pc hid l a).2.1 = (runsF hid l b).1 ∧ (seeF pc hid l a).2.2.2 = out ++ (runsF hid l b).2.map pc
 | [], a, b, out, h1, h2 => ⟨h1, h2⟩
 | s :: r, a, b, out, h1, h2 => by
  rw [seeF, runsF]
  refine seeF_runs pc hid r _ _ out ?_ ?_
  ·rw [h1]; cases hid s <;> cases gapB b.1 s <;> simp [h1]
  ·rw [h1]; cases hid s <;> cases gapB b.1 s <;> simp [h2]
theorem seeE_runs (pc : List D → D) (hid : D → Bool) (l : List D) (f : Bool) (out : List D) : (seeE pc (seeF pc hid l (true, [], f, out))).2 = out ++ (seenRuns hid l).map pc := by
 obtain ⟨h1, h2⟩ := seeF_runs pc hid l (true, [], f, out) ([], []) out rfl (by simp)
 unfold seeE seenRuns lastR
 rw [h1]
 cases decide (((runsF hid l ([], [])).1.length : Int) > 0) with
 | true => simp only [_root_.cond_true, h2]; simp
 | false => simp only [_root_.cond_false, h2]
/-! ### One activity -/
def actD (sport : Int) (t : Ty0) : D := .a [.s t.1, .i sport, .i t.2.1, .l t.2.2.1 t.2.2.2.1, .l t.2.2.2.2.1 t.2.2.2.2.2.1, .l t.2.2.2.2.2.2.1 t.2.2.2.2.2.2.2]
noncomputable def pieceD (rs : List D) (name : List UInt8) (sport start : Int) (laps : List D) (tn : Bool) (tags l : List D) : D := actD sport (pieceT rs name start laps tn tags l)
theorem hidL_get {rs l : List D} {all : Bool} {start w : Int} (h0 : 0 ≤ w) (h1 : w < l.length) : ((hidL rs all start l).getD w.toNat (.i 0)).toB = hidS rs all start (l.getD w.toNat (.i 0)) := by
 unfold hidL
 rw [List.getD_eq_getElem?_getD, List.getElem?_map, List.getD_eq_getElem?_getD, List.getElem?_eq_getElem (by omega)]
 rfl
theorem hidL_len {rs l : List D} {all : Bool} {start : Int} : (hidL rs all start l).length = l.length := by unfold hidL; simp
theorem timeG_re {start : Int} {s : D} (h : TimeG start s) : TimeG start (reS s) := h
section
variable {rs smps laps tags out : List D} {name : List UInt8} {sport start : Int} {tn f : Bool}
/-- What holds of the samples at hand. -/
def NowOk (start : Int) (now : List D) (w : Int) : Prop := (now.length : Int) ≤ w ∧ ∀ s ∈ now, TimeG start s
theorem now_first {now : List D} {w : Int} (h : NowOk start now w) (h0 : 0 < now.length) : 0 ≤ wr (start + ((now.getD 0 (.i 0)).cell 0).toI) := by
 have hm : now.getD 0 (.i 0) ∈ now := getD_mem (w := 0) (by omega) (by omega)
 obtain ⟨q1, q2⟩ := h.2 _ hm
 unfold wr
 rw [wrapI (by omega) (by omega)]
 exact q1
theorem gap_pos {now : List D} {s : D} (h : gapB now s = true) : 0 < now.length := by
 unfold gapB at h
 cases hd : decide ((now.length : Int) > 0) with
 | false => rw [hd] at h; cases h
 | true => have := of_decide_eq_true hd; omega
theorem G92x0x12_eq (hN : maxLen < N) (hl : rs.length ≤ 50) (hr : ∀ r ∈ rs, RuleG r) (ha : ActR start smps laps tags) (hnil : tn = true → tags = []) (hout : out.length ≤ 40000000) (all : Bool) :
  G92x0x12 N (hidL rs all start smps) smps smps.length name sport start laps tn tags (fldB rs 1) (fldB rs 2) (fldB rs 3) (fldB rs 4) (grdL rs) (kdB rs 6) (kdB rs 7) 0 true [] f out = some (seeF (pieceD rs name sport start laps tn tags) (hidS rs all start) smps (true, [], f, out)) ∧
  NowOk start (seeF (pieceD rs name sport start laps tn tags) (hidS rs all start) smps (true, [], f, out)).2.1 smps.length ∧ (seeF (pieceD rs name sport start laps tn tags) (hidS rs all start) smps (true, [], f, out)).2.2.2.length ≤ out.length + smps.length := by
 have hm : maxLen = 9223372036854775807 := rfl
 have hs := ha.s
 constructor
 ·unfold G92x0x12
  refine fold_ind (.i 0 : D) (A := Ty5) (S := fun w a kr => S92x0x12 N (hidL rs all start smps) smps smps.length name sport start laps tn tags (fldB rs 1) (fldB rs 2) (fldB rs 3) (fldB rs 4) (grdL rs) (kdB rs 6) (kdB rs 7) w a.1 a.2.1 a.2.2.1 a.2.2.2 (fun w a b c d => kr w (a, b, c, d)) _)
   (L := fun m w a => L92x0x12 N (hidL rs all start smps) smps smps.length name sport start laps tn tags (fldB rs 1) (fldB rs 2) (fldB rs 3) (fldB rs 4) (grdL rs) (kdB rs 6) (kdB rs 7) m w a.1 a.2.1 a.2.2.1 a.2.2.2 _) (fun m w a => rfl) (fun w l a => some (seeF (pieceD rs name sport start laps tn tags) (hidS rs all start) l a))
   (fun w a => NowOk start a.2.1 w ∧ (a.2.2.2.length : Int) ≤ out.length + w) (by omega) ?_ ?_ hN (a := (true, [], f, out)) ⟨⟨by simp, fun s hs => by simp at hs⟩, by simp⟩
  ·intro a kr _; simp [S92x0x12, seeF]
  ·intro w a kr h0 h1 hw hi ⟨hno, hol⟩ hk
   have hi2 : inB w (hidL rs all start smps).length = true := by rw [hidL_len]; exact hi
   have hno1 := hno.1
   have htg := ha.g _ (getD_mem h0 h1)
   simp only [S92x0x12, decide_eq_true h1, _root_.cond_true, hi, hi2, bnd_eq, hw, seeF, hidL_get h0 h1, G92x0x25_eq (show a.2.1.length ≤ maxLen by omega), Option.isSome_some, getD_some]
   cases hidS rs all start (smps.getD w.toNat (.i 0)) with
   | true => exact hk a ⟨⟨by omega, hno.2⟩, by omega⟩
   | false =>
    cases hg : gapB a.2.1 (smps.getD w.toNat (.i 0)) with
    | true =>
     have hp := gap_pos hg
     simp only [G92x0x29, F92x0x29, G92x0x28, F92x0x28, _root_.cond_true, _root_.cond_false, bnd_eq, G94x0_eq hN hl hr (show a.2.1.length ≤ 20000 by omega) hp ha.l ha.t hnil (now_first hno hp), Option.isSome_some, getD_some, inlB_inl, inlV_inl, roomL (n := a.2.2.2.length) (sz := 104) (b := 40020000) (by omega) (by omega) (by omega)]
     exact hk (false, [reS (smps.getD w.toNat (.i 0))], false, a.2.2.2 ++ [pieceD rs name sport start laps tn tags a.2.1]) ⟨⟨by simp; omega, fun s hs => by rw [List.mem_singleton] at hs; rw [hs]; exact timeG_re htg⟩, by simp; omega⟩
    | false =>
     simp only [G92x0x29, F92x0x29, _root_.cond_false, inlB_inr, inrQ_inr, Option.isSome_some, _root_.cond_true, roomL (n := a.2.1.length) (sz := 56) (b := 20000) (by omega) (by omega) (by omega), bnd_eq]
     exact hk (false, a.2.1 ++ [reS (smps.getD w.toNat (.i 0))], a.2.2.1, a.2.2.2) ⟨⟨by simp; omega, fun s hs => by
      rcases List.mem_append.1 hs with hs | hs
      ·exact hno.2 s hs
      ·rw [List.mem_singleton] at hs; rw [hs]; exact timeG_re htg⟩, by simp only; omega⟩
 ·have : ∀ (l : List D) (a : Ty5) (w : Int), (∀ s ∈ l, TimeG start s) → NowOk start a.2.1 w → NowOk start (seeF (pieceD rs name sport start laps tn tags) (hidS rs all start) l a).2.1 (w + l.length) ∧ (seeF (pieceD rs name sport start laps tn tags) (hidS rs all start) l a).2.2.2.length ≤ a.2.2.2.length + l.length := by
   intro l
   induction l with
   | nil => intro a w _ h; exact ⟨by simpa [seeF] using h, by simp [seeF]⟩
   | cons s r ih =>
    intro a w hg hn
    have hgs := hg s (by simp)
    have hgr : ∀ s ∈ r, TimeG start s := fun x hx => hg x (by simp [hx])
    rw [seeF]
    have hn1 := hn.1
    cases hidS rs all start s with
    | true =>
     obtain ⟨q1, q2⟩ := ih a (w + 1) hgr ⟨by omega, hn.2⟩
     refine ⟨?_, ?_⟩
     ·rw [List.length_cons, show w + ((r.length + 1 : Nat) : Int) = w + 1 + r.length by omega]; exact q1
     ·simp only [_root_.cond_true, List.length_cons] at q2 ⊢; omega
    | false =>
     cases hgp : gapB a.2.1 s with
     | true =>
      obtain ⟨q1, q2⟩ := ih (false, [reS s], false, a.2.2.2 ++ [pieceD rs name sport start laps tn tags a.2.1]) (w + 1) hgr ⟨by have := gap_pos hgp; simp; omega, fun x hx => by rw [List.mem_singleton] at hx; rw [hx]; exact timeG_re hgs⟩
      refine ⟨?_, ?_⟩
      ·rw [List.length_cons, show w + ((r.length + 1 : Nat) : Int) = w + 1 + r.length by omega]; exact q1
      ·simp only [_root_.cond_true, _root_.cond_false, List.length_cons, List.length_append] at q2 ⊢; simp at q2; omega
     | false =>
      obtain ⟨q1, q2⟩ := ih (false, a.2.1 ++ [reS s], a.2.2.1, a.2.2.2) (w + 1) hgr ⟨by simp; omega, fun x hx => by
       rcases List.mem_append.1 hx with hx | hx
       ·exact hn.2 x hx
       ·rw [List.mem_singleton] at hx; rw [hx]; exact timeG_re hgs⟩
      refine ⟨?_, ?_⟩
      ·rw [List.length_cons, show w + ((r.length + 1 : Nat) : Int) = w + 1 + r.length by omega]; exact q1
      ·simp only [_root_.cond_false, List.length_cons] at q2 ⊢; omega
  obtain ⟨q1, q2⟩ := this smps (true, [], f, out) 0 ha.g ⟨by simp, fun s hs => by simp at hs⟩
  exact ⟨by simpa using q1, q2⟩
/-- What the program sees of an activity, behind what is out. -/
noncomputable def seeR (rs : List D) (name : List UInt8) (sport start : Int) (smps laps : List D) (tn : Bool) (tags : List D) (f : Bool) (out : List D) : Bool × List D :=
 seeE (pieceD rs name sport start laps tn tags) (seeF (pieceD rs name sport start laps tn tags) (hidS rs (rs.any (wholeB sport tags)) start) smps (true, [], f, out))
theorem G92x0_eq (hN : maxLen < N) (hl : rs.length ≤ 50) (hr : ∀ r ∈ rs, RuleG r) (ha : ActR start smps laps tags) (hnil : tn = true → tags = []) (hout : out.length ≤ 40000000) :
  ∃ x, G92x0 N rs name sport start smps laps tn tags f out = some x ∧ ((x = .inl (seeR rs name sport start smps laps tn tags f out).2 ∧ (seeR rs name sport start smps laps tn tags f out).1 = false) ∨ x = .inr (seeR rs name sport start smps laps tn tags f out)) := by
 have hm : maxLen = 9223372036854775807 := rfl
 obtain ⟨y0, y1, e93⟩ := G93x0_eq hN hl hr
 obtain ⟨e12, hno, hol⟩ := G92x0x12_eq (name := name) (sport := sport) (tn := tn) (f := f) (out := out) hN hl hr ha hnil hout (rs.any (wholeB sport tags))
 have hs := ha.s
 have ht := ha.t
 unfold G92x0 F92x0 seeR
 simp only [bnd_eq, G40x0_eq hN (lt50 hl) ha.s (show tags.length ≤ maxLen by omega), Option.isSome_some, getD_some, _root_.cond_true, e93, e12]
 generalize seeF (pieceD rs name sport start laps tn tags) (hidS rs (rs.any (wholeB sport tags)) start) smps (true, [], f, out) = a at hno hol
 unfold seeE G92x0x44 F92x0x44
 cases hd : decide ((a.2.1.length : Int) > 0) with
 | false => exact ⟨_, rfl, .inr rfl⟩
 | true =>
  have hp := of_decide_eq_true hd
  have hno1 := hno.1
  simp only [G92x0x43, F92x0x43, bnd_eq, G94x0_eq hN hl hr (show a.2.1.length ≤ 20000 by omega) (by omega) ha.l ha.t hnil (now_first hno (by omega)), Option.isSome_some, getD_some, _root_.cond_true, roomL (n := a.2.2.2.length) (sz := 104) (b := 40020000) (by omega) (by omega) (by omega)]
  exact ⟨_, rfl, .inl ⟨rfl, trivial⟩⟩
theorem seeR_snd : (seeR rs name sport start smps laps tn tags f out).2 = out ++ (seenRuns (hidS rs (rs.any (wholeB sport tags)) start) smps).map (pieceD rs name sport start laps tn tags) := seeE_runs _ _ _ _ _
end
theorem runsF_len (hid : D → Bool) : ∀ (l : List D) (a : List D × List (List D)), (runsF hid l a).2.length + (bif decide (((runsF hid l a).1.length : Int) > 0) then 1 else 0) ≤ a.2.length + (bif decide ((a.1.length : Int) > 0) then 1 else 0) + l.length
 | [], a => by simp [runsF]
 | s :: r, a => by
  rw [runsF]
  refine Nat.le_trans (runsF_len hid r _) ?_
  rw [List.length_cons]
  cases hid s with
  | true => simp only [_root_.cond_true]; omega
  | false =>
   cases hg : gapB a.1 s with
   | true =>
    have hp := gap_pos hg
    have e : decide ((a.1.length : Int) > 0) = true := decide_eq_true (by omega)
    rw [e]; simp; omega
   | false =>
    simp
    cases decide (0 < a.1.length) <;> simp <;> omega
theorem seenRuns_len (hid : D → Bool) (l : List D) : (seenRuns hid l).length ≤ l.length := by
 have := runsF_len hid l ([], [])
 unfold seenRuns lastR
 cases hd : decide (((runsF hid l ([], [])).1.length : Int) > 0) with
 | true => rw [hd] at this; simp at this ⊢; omega
 | false => rw [hd] at this; simp at this ⊢; omega
/-! ### Many activities -/
structure ActG (a : D) : Prop where
 r : ActR (aStart a) (aSmps a) (aLaps a) (aTags a)
 n : aTn a = true → aTags a = []
noncomputable def seeX (rs : List D) (a : D) (f : Bool) (out : List D) : Bool × List D := seeR rs (aName a) (aSport a) (aStart a) (aSmps a) (aLaps a) (aTn a) (aTags a) f out
noncomputable def allF (rs : List D) : List D → Bool × List D → Bool × List D
 | [], a => a
 | x :: l, a => allF rs l (seeX rs x a.1 a.2)
/-- What is seen of an activity. -/
noncomputable def seenA (rs : List D) (tn : Bool) (a : D) : List D := (seenRuns (hidS rs (rs.any (wholeB (aSport a) (aTags a))) (aStart a)) (aSmps a)).map (pieceD rs (aName a) (aSport a) (aStart a) (aLaps a) tn (aTags a))
theorem seenA_len {rs : List D} {tn : Bool} {a : D} (h : ActG a) : (seenA rs tn a).length ≤ 20000 := by
 unfold seenA
 rw [List.length_map]
 exact Nat.le_trans (seenRuns_len _ _) h.r.s
theorem seeX_snd {rs : List D} {a : D} {f : Bool} {out : List D} : (seeX rs a f out).2 = out ++ seenA rs (aTn a) a := seeR_snd
theorem allF_snd (rs : List D) : ∀ (l : List D) (a : Bool × List D), (allF rs l a).2 = a.2 ++ l.flatMap fun x => seenA rs (aTn x) x
 | [], a => by simp [allF]
 | x :: l, a => by rw [allF, allF_snd rs l, seeX_snd]; simp
section
variable {rs xs l : List D} {lv : Int}
theorem G44x0x12_eq (hN : maxLen < N) (hl : rs.length ≤ 50) (hr : ∀ r ∈ rs, RuleG r) (hn : l.length ≤ 2000) (ha : ∀ a ∈ l, ActG a) : G44x0x12 N rs l l.length 0 true [] = some (allF rs l (true, [])) := by
 have hm : maxLen = 9223372036854775807 := rfl
 unfold G44x0x12
 refine fold_ind (.i 0 : D) (A := Bool × List D) (S := fun w a kr => S44x0x12 N rs l l.length w a.1 a.2 (fun w b l => kr w (b, l)) _) (L := fun m w a => L44x0x12 N rs l l.length m w a.1 a.2 _) (fun m w a => rfl) (fun w l a => some (allF rs l a)) (fun w a => (a.2.length : Int) ≤ 20000 * w) (by omega) ?_ ?_ hN (a := (true, [])) (by simp)
 ·intro a kr _; simp [S44x0x12, allF]
 ·intro w a kr h0 h1 hw hi hol hk
  have hg := ha _ (getD_mem h0 h1)
  have hlen := seenA_len (rs := rs) (tn := aTn (l.getD w.toNat (.i 0))) hg
  obtain ⟨x, e, hx⟩ := G92x0_eq (name := aName (l.getD w.toNat (.i 0))) (sport := aSport (l.getD w.toNat (.i 0))) (f := a.1) (out := a.2) hN hl hr hg.r hg.n (by omega)
  have e : G92x0 N rs ((l.getD w.toNat (.i 0)).cell 0).toS ((l.getD w.toNat (.i 0)).cell 1).toI ((l.getD w.toNat (.i 0)).cell 2).toI ((l.getD w.toNat (.i 0)).cell 3).items ((l.getD w.toNat (.i 0)).cell 4).items ((l.getD w.toNat (.i 0)).cell 5).isNil ((l.getD w.toNat (.i 0)).cell 5).items a.1 a.2 = some x := e
  have hsn : (seeX rs (l.getD w.toNat (.i 0)) a.1 a.2).2.length ≤ a.2.length + 20000 := by rw [seeX_snd, List.length_append]; omega
  have hk2 := hk (seeX rs (l.getD w.toNat (.i 0)) a.1 a.2) (by omega)
  simp only [S44x0x12, decide_eq_true h1, _root_.cond_true, hi, bnd_eq, hw, allF, G44x0x600000022, F44x0x600000022, e, Option.isSome_some, getD_some]
  rcases hx with ⟨rfl, hf⟩ | rfl
  ·simp only [inlB_inl, inlV_inl, _root_.cond_true]
   rw [← hk2]
   show kr (w + 1) (false, _) = _
   congr 1
   exact Prod.ext hf.symm rfl
  ·exact hk2
theorem G44x0_eq (hN : maxLen < N) (hv : VeilRight xs) (hn : l.length ≤ 2000) (ha : ∀ a ∈ l, ActG a) : ∃ b, G44x0 N xs lv l = some (b, l.flatMap fun x => seenA (appl xs lv) (aTn x) x) := by
 have hm : maxLen = 9223372036854775807 := rfl
 obtain ⟨b, e⟩ := G41x0_eq (lv := lv) hN hv.l
 have h50 : (appl xs lv).length ≤ 50 := Nat.le_trans appl_len hv.l
 have hg : ∀ r ∈ appl xs lv, RuleG r := appl_good fun r hr => ruleG_of (hv.mem hr)
 refine ⟨(allF (appl xs lv) l (true, [])).1, ?_⟩
 unfold G44x0 F44x0
 simp only [bnd_eq, e, Option.isSome_some, getD_some, _root_.cond_true, G44x0x12_eq hN h50 hg hn ha]
 have := allF_snd (appl xs lv) l (true, [])
 rw [List.nil_append] at this
 exact congrArg some (pair_of this)
end
/-! ### The reference's see -/
section
variable {xs smps laps tags : List D} {lv sport start : Int} {name : List UInt8}
end
/-! ### What is checked ahead -/
section
variable {xs l : List D} {lv : Int}
noncomputable def chkD (a : D) : Int := chkA (aName a) (aSport a) (aStart a) (aSmps a) (aLaps a) (aTags a)
/-- A law's activity as a datum. -/
def ActOkD (a : D) : Prop := ActOk (aName a) (aSmps a) (aLaps a) (aTags a)
noncomputable def faultV (xs : List D) (lv : Int) (l : List D) : Int := bif chkV xs != 0 then chkV xs else bif !inI lv 0 3 then 9 else firstE (fun w => chkD (l.getD w.toNat (.i 0))) 0 l
theorem way_flt (e : Int) : (bif inlB (some (wayE e)) then some (inlV (some (wayE e))) else bif (inrQ (some (wayE e))).isSome then some 0 else none) = some e := by
 have := way_chk false e
 simpa using this
theorem G39x0_eq (hN : maxLen < N) (hv : VeilOk xs) (hn : l.length ≤ maxLen) (ha : ∀ a ∈ l, ActOkD a) : G39x0 N xs lv l = some (faultV xs lv l) := by
 have e : G39x0x21 N l l.length 0 = some (wayE (firstE (fun w => chkD (l.getD w.toNat (.i 0))) 0 l)) := by
  unfold G39x0x21
  refine (for_ind (.i 0 : D) (S := fun w kr => S39x0x21 N l l.length w kr _ _) (L := fun m w => L39x0x21 N l l.length m w _ _) (fun m w => rfl) (fun w l' => some (wayE (firstE (fun w => chkD (l.getD w.toNat (.i 0))) w l'))) hn ?_ ?_ hN).trans rfl
  ·intro kr; simp [S39x0x21, firstE, wayE]
  ·intro w kr h0 h1 hw hi hk
   have hx : G65x0 N ((l.getD w.toNat (.i 0)).cell 0).toS ((l.getD w.toNat (.i 0)).cell 1).toI ((l.getD w.toNat (.i 0)).cell 2).toI ((l.getD w.toNat (.i 0)).cell 3).items ((l.getD w.toNat (.i 0)).cell 4).items ((l.getD w.toNat (.i 0)).cell 5).items = some (chkD (l.getD w.toNat (.i 0))) := G65x0_eq hN (ha _ (getD_mem h0 h1))
   simp only [S39x0x21, decide_eq_true h1, _root_.cond_true, hi, bnd_eq, hw, hk, hx, Option.isSome_some, getD_some, wayE_cons]
   cases chkD (l.getD w.toNat (.i 0)) != 0 <;> rfl
 unfold G39x0 F39x0 faultV
 simp only [bnd_eq, G32x0_eq hN hv, Option.isSome_some, getD_some, _root_.cond_true, V64x0_eq, e, way_flt]
 cases chkV xs != 0 <;> cases inI lv 0 3 <;> rfl
theorem G42x0_eq (hN : maxLen < N) (hv : VeilOk xs) (hn : l.length ≤ 2000) (ha : ∀ a ∈ l, ActOkD a) (log : Bool) : G42x0 N xs lv log l = some (faultV xs lv l) := by
 have hm : maxLen = 9223372036854775807 := rfl
 have e : G42x0x27 N l l.length 0 = some (wayE (firstE (fun w => chkD (l.getD w.toNat (.i 0))) 0 l)) := by
  unfold G42x0x27
  refine (for_ind (.i 0 : D) (S := fun w kr => S42x0x27 N l l.length w kr _ _) (L := fun m w => L42x0x27 N l l.length m w _ _) (fun m w => rfl) (fun w l' => some (wayE (firstE (fun w => chkD (l.getD w.toNat (.i 0))) w l'))) (by omega) ?_ ?_ hN).trans rfl
  ·intro kr; simp [S42x0x27, firstE, wayE]
  ·intro w kr h0 h1 hw hi hk
   have hx : G16x0 N ((l.getD w.toNat (.i 0)).cell 0).toS ((l.getD w.toNat (.i 0)).cell 1).toI ((l.getD w.toNat (.i 0)).cell 2).toI ((l.getD w.toNat (.i 0)).cell 3).items ((l.getD w.toNat (.i 0)).cell 4).items ((l.getD w.toNat (.i 0)).cell 5).items = some (chkD (l.getD w.toNat (.i 0))) := G16x0_eq hN (ha _ (getD_mem h0 h1))
   simp only [S42x0x27, decide_eq_true h1, _root_.cond_true, hi, bnd_eq, hw, hk, hx, Option.isSome_some, getD_some, wayE_cons]
   cases chkD (l.getD w.toNat (.i 0)) != 0 <;> rfl
 unfold G42x0 F42x0 faultV
 rw [decide_eq_false (show ¬ ((l.length : Int) > 2000) by omega)]
 simp only [bnd_eq, G33x0_eq hN hv, Option.isSome_some, getD_some, _root_.cond_true, V73x0_eq, e, way_flt]
 cases chkV xs != 0 <;> cases inI lv 0 3 <;> cases log <;> rfl
/-- What is right, where nothing is at fault. -/
theorem fault_right (h : faultV xs lv l = 0) : VeilRight xs ∧ inI lv 0 3 = true ∧ ∀ a ∈ l, chkD a = 0 := by
 unfold faultV at h
 obtain ⟨h1, h⟩ := wayne h
 obtain ⟨h2, h⟩ := way0 h (by decide)
 refine ⟨right_of h1, by simpa using h2, fun a ha => ?_⟩
 obtain ⟨i, hi, rfl⟩ := List.getElem_of_mem ha
 have := firstE_zero h i hi
 rw [Int.zero_add, Int.toNat_natCast, List.getD_eq_getElem?_getD, List.getElem?_eq_getElem hi] at this
 exact this
end
end Go.Proofs.Ytngnemeafkmaoaa

/-! Plain laws of chapter 10: lists of activities; See, Hidden, Tells, Audience of both. -/
namespace Go.Proofs.Ytngnemeafkmaoaa
open Go Go.AM
set_option maxRecDepth 100000
set_option maxHeartbeats 4000000
variable {N : Nat}
def sameD (x y : D) : Bool := sameA (aName x) (aSport x) (aStart x) (aSmps x) (aLaps x) (aTags x) (aName y) (aSport y) (aStart y) (aSmps y) (aLaps y) (aTags y)
theorem sameD_refl (x : D) : sameD x x = true := sameA_refl
structure LenOk (x : D) : Prop where
 s : (aSmps x).length ≤ maxLen
 l : (aLaps x).length ≤ maxLen
 t : (aTags x).length ≤ maxLen
theorem inB_to {w : Int} {n : Nat} (h : inB w n = true) : 0 ≤ w ∧ w < n := by
 unfold inB at h
 simpa using h
section
variable {xs ys : List D}
theorem G19x0_eq (hN : maxLen < N) (hl : xs.length ≤ maxLen) (ho : ∀ x ∈ xs, LenOk x) : G19x0 N xs ys = some (eqL sameD xs ys) := by
 unfold G19x0 F19x0 eqL
 rw [len_bne]
 cases h : (xs.length == ys.length) with
 | false => rfl
 | true =>
  have e : G19x0x12 N xs ys xs.length 0 = some (bif zipAll sameD xs ys then .inr () else .inl ()) := by
   unfold G19x0x12
   refine zip_ind sameD (S := fun w kr => S19x0x12 N xs ys xs.length w kr _ _) (L := fun m w => L19x0x12 N xs ys xs.length m w _ _) (fun m w => rfl) hl (by simpa using h) (fun kr => by simp [S19x0x12]) (fun w kr h1 h2 h3 => ?_) hN
   obtain ⟨q1, q2⟩ := inB_to h2
   have ho' := ho _ (getD_mem q1 q2)
   have hx : ∀ y : D, G51x0 N ((xs.getD w.toNat (.i 0)).cell 0).toS ((xs.getD w.toNat (.i 0)).cell 1).toI ((xs.getD w.toNat (.i 0)).cell 2).toI ((xs.getD w.toNat (.i 0)).cell 3).items ((xs.getD w.toNat (.i 0)).cell 4).items ((xs.getD w.toNat (.i 0)).cell 5).items (y.cell 0).toS (y.cell 1).toI (y.cell 2).toI (y.cell 3).items (y.cell 4).items (y.cell 5).items = some (sameD (xs.getD w.toNat (.i 0)) y) := fun y => G51x0_eq hN ho'.s ho'.l ho'.t
   unfold S19x0x12
   rw [h1, h2, h3]
   simp only [_root_.cond_true, bnd_eq, hx, Option.isSome_some, getD_some]
   cases sameD (xs.getD w.toNat (.i 0)) (ys.getD w.toNat (.i 0)) <;> rfl
  rw [e]
  cases zipAll sameD xs ys <;> rfl
theorem G53x0_eq (hN : maxLen < N) (hl : xs.length ≤ maxLen) (ho : ∀ x ∈ xs, LenOk x) : G53x0 N xs ys = some (eqL sameD xs ys) := by
 unfold G53x0 F53x0 eqL
 rw [len_bne]
 cases h : (xs.length == ys.length) with
 | false => rfl
 | true =>
  have e : G53x0x12 N ys xs xs.length 0 = some (bif zipAll sameD xs ys then .inr () else .inl ()) := by
   unfold G53x0x12
   refine zip_ind sameD (S := fun w kr => S53x0x12 N ys xs xs.length w kr _ _) (L := fun m w => L53x0x12 N ys xs xs.length m w _ _) (fun m w => rfl) hl (by simpa using h) (fun kr => by simp [S53x0x12]) (fun w kr h1 h2 h3 => ?_) hN
   obtain ⟨q1, q2⟩ := inB_to h2
   have ho' := ho _ (getD_mem q1 q2)
   have hx : ∀ y : D, G54x0 N ((xs.getD w.toNat (.i 0)).cell 0).toS ((xs.getD w.toNat (.i 0)).cell 1).toI ((xs.getD w.toNat (.i 0)).cell 2).toI ((xs.getD w.toNat (.i 0)).cell 3).items ((xs.getD w.toNat (.i 0)).cell 4).items ((xs.getD w.toNat (.i 0)).cell 5).items (y.cell 0).toS (y.cell 1).toI (y.cell 2).toI (y.cell 3).items (y.cell 4).items (y.cell 5).items = some (sameD (xs.getD w.toNat (.i 0)) y) := fun y => G54x0_eq hN ho'.s ho'.l ho'.t
   unfold S53x0x12
   rw [h1, h2, h3]
   simp only [_root_.cond_true, bnd_eq, hx, Option.isSome_some, getD_some]
   cases sameD (xs.getD w.toNat (.i 0)) (ys.getD w.toNat (.i 0)) <;> rfl
  rw [e]
  cases zipAll sameD xs ys <;> rfl
end
theorem zipAll_map {f : D → D → Bool} {α : Type} {g g' : α → D} (h : ∀ r y, f (g r) y = f (g' r) y) : ∀ (R : List α) (ys : List D), zipAll f (R.map g) ys = zipAll f (R.map g') ys
 | [], ys => by cases ys <;> rfl
 | r :: R, [] => rfl
 | r :: R, y :: ys => by simp only [List.map_cons, zipAll, h, zipAll_map h R ys]
theorem zipAll_map2 {f : D → D → Bool} {α : Type} {g g' : α → D} (h : ∀ r y, f y (g r) = f y (g' r)) : ∀ (ys : List D) (R : List α), zipAll f ys (R.map g) = zipAll f ys (R.map g')
 | [], R => by cases R <;> rfl
 | y :: ys, [] => rfl
 | y :: ys, r :: R => by simp only [List.map_cons, zipAll, h, zipAll_map2 h ys R]
theorem eqL_map {f : D → D → Bool} {α : Type} {g g' : α → D} (h : ∀ r y, f (g r) y = f (g' r) y) (R : List α) (ys : List D) : eqL f (R.map g) ys = eqL f (R.map g') ys := by unfold eqL; rw [zipAll_map h]; simp
theorem eqL_map2 {f : D → D → Bool} {α : Type} {g g' : α → D} (h : ∀ r y, f y (g r) = f y (g' r)) (ys : List D) (R : List α) : eqL f ys (R.map g) = eqL f ys (R.map g') := by unfold eqL; rw [zipAll_map2 h]; simp
section
variable {rs : List D} {tn : Bool} {a : D}
theorem seen_eq1 (ys : List D) : eqL sameD (seenA rs tn a) ys = eqL sameD (seenA rs false a) ys := by
 unfold seenA
 exact eqL_map (g := pieceD rs (aName a) (aSport a) (aStart a) (aLaps a) tn (aTags a)) (g' := pieceD rs (aName a) (aSport a) (aStart a) (aLaps a) false (aTags a)) (fun r y => rfl) _ _
theorem seen_eq2 (ys : List D) : eqL sameD ys (seenA rs tn a) = eqL sameD ys (seenA rs false a) := by
 unfold seenA
 exact eqL_map2 (g := pieceD rs (aName a) (aSport a) (aStart a) (aLaps a) tn (aTags a)) (g' := pieceD rs (aName a) (aSport a) (aStart a) (aLaps a) false (aTags a)) (fun r y => rfl) _ _
theorem runsF_in (hid : D → Bool) : ∀ (l : List D) (b : List D × List (List D)) (n : Nat), b.1.length ≤ n → (∀ r ∈ b.2, r.length ≤ n) → (runsF hid l b).1.length ≤ n + l.length ∧ ∀ r ∈ (runsF hid l b).2, r.length ≤ n + l.length
 | [], b, n, h1, h2 => ⟨h1, h2⟩
 | s :: l, b, n, h1, h2 => by
  rw [runsF, List.length_cons, show n + (l.length + 1) = (n + 1) + l.length by omega]
  cases hid s with
  | true => exact runsF_in hid l b (n + 1) (by omega) fun r hr => Nat.le_succ_of_le (h2 r hr)
  | false =>
   cases gapB b.1 s with
   | true =>
    refine runsF_in hid l _ (n + 1) (by simp) fun r hr => ?_
    simp only [_root_.cond_true, _root_.cond_false, List.mem_append, List.mem_singleton] at hr
    rcases hr with hr | rfl
    ·exact Nat.le_succ_of_le (h2 r hr)
    ·omega
   | false => exact runsF_in hid l _ (n + 1) (by simp; omega) fun r hr => Nat.le_succ_of_le (h2 r hr)
theorem seenRuns_in (hid : D → Bool) (l : List D) : ∀ r ∈ seenRuns hid l, r.length ≤ l.length := by
 obtain ⟨h1, h2⟩ := runsF_in hid l ([], []) 0 (by simp) (fun r hr => by simp at hr)
 intro r hr
 unfold seenRuns lastR at hr
 rw [Nat.zero_add] at h1 h2
 cases hd : decide (((runsF hid l ([], [])).1.length : Int) > 0) with
 | true =>
  rw [hd] at hr
  simp only [_root_.cond_true, List.mem_append, List.mem_singleton] at hr
  rcases hr with hr | rfl
  ·exact h2 r hr
  ·exact h1
 | false => rw [hd] at hr; exact h2 r hr
theorem filtF_len (p : D → Bool) (f : D → D) (l : List D) (a : Bool × List D) : (filtF p f l a).2.length ≤ a.2.length + l.length := by
 rw [filtF_snd, List.length_append, List.length_map]
 have := List.length_filter_le p l
 omega
theorem seenA_ok (h : ActG a) : ∀ x ∈ seenA rs tn a, LenOk x := by
 have hm : maxLen = 9223372036854775807 := rfl
 intro x hx
 unfold seenA at hx
 obtain ⟨r, h1, rfl⟩ := List.mem_map.1 hx
 have hr := seenRuns_in _ _ r h1
 have h3 := h.r.s
 have h4 := h.r.l
 have h5 := h.r.t
 refine ⟨?_, ?_, ?_⟩
 ·show (List.map _ r).length ≤ _
  rw [List.length_map]; omega
 ·show (filtF _ _ (aLaps a) (true, [])).2.length ≤ _
  refine Nat.le_trans (filtF_len _ _ _ _) ?_
  simp; omega
 ·show (bif kdB rs 7 then [] else aTags a).length ≤ _
  cases kdB rs 7 <;> simp; omega
theorem seenA_max (h : ActG a) : (seenA rs tn a).length ≤ maxLen := by
 have hm : maxLen = 9223372036854775807 := rfl
 have := seenA_len (rs := rs) (tn := tn) h
 omega
end
/-! ### The functions -/
section
variable {xs : List D} {lv sp st : Int} {nm : List UInt8} {sn ln tn : Bool} {s l t : List D}
def mkA (nm : List UInt8) (sp st : Int) (sn : Bool) (s : List D) (ln : Bool) (l : List D) (tn : Bool) (t : List D) : D := .a [.s nm, .i sp, .i st, .l sn s, .l ln l, .l tn t]
theorem mkA_good (hc : chkD (mkA nm sp st sn s ln l tn t) = 0) (hn : tn = true → t = []) : ActG (mkA nm sp st sn s ln l tn t) := ⟨act_right hc, hn⟩
theorem one_ok {P : D → Prop} {x : D} (h : P x) : ∀ a ∈ [x], P a := fun a ha => by rw [List.mem_singleton] at ha; rw [ha]; exact h
theorem two_ok {P : D → Prop} {x y : D} (h : P x) (h' : P y) : ∀ a ∈ [x, y], P a := fun a ha => by
 simp only [List.mem_cons, List.not_mem_nil, or_false] at ha
 rcases ha with rfl | rfl
 ·exact h
 ·exact h'
theorem G13x0_eq (hN : maxLen < N) (hv : VeilOk xs) (ha : ActOk nm s l t) (hn : tn = true → t = []) :
  ∃ b, G13x0 N xs lv nm sp st sn s ln l tn t = some (b, (bif faultV xs lv [mkA nm sp st sn s ln l tn t] != 0 then [] else seenA (appl xs lv) tn (mkA nm sp st sn s ln l tn t)), faultV xs lv [mkA nm sp st sn s ln l tn t]) := by
 have hm : maxLen = 9223372036854775807 := rfl
 unfold G13x0 F13x0
 rw [show (D.a [.s nm, .i sp, .i st, .l sn s, .l ln l, .l tn t]) = mkA nm sp st sn s ln l tn t from rfl]
 simp only [bnd_eq, G39x0_eq (l := [mkA nm sp st sn s ln l tn t]) (lv := lv) hN hv (by simp; omega) (one_ok ha), Option.isSome_some, getD_some, _root_.cond_true]
 cases hf : faultV xs lv [mkA nm sp st sn s ln l tn t] != 0 with
 | true => exact ⟨true, rfl⟩
 | false =>
  simp only [bne_eq_false_iff_eq] at hf
  obtain ⟨r1, r2, r3⟩ := fault_right hf
  obtain ⟨b, e⟩ := G44x0_eq (l := [mkA nm sp st sn s ln l tn t]) (lv := lv) hN r1 (by simp) (one_ok (mkA_good (r3 (mkA nm sp st sn s ln l tn t) (by simp)) hn))
  rw [e, hf]
  refine ⟨b, ?_⟩
  simp only [_root_.cond_false, Option.isSome_some, getD_some, _root_.cond_true, List.flatMap_cons, List.flatMap_nil, List.append_nil]
  rfl
noncomputable def hidA (xs : List D) (lv : Int) (a : D) : List D := hidL (appl xs lv) ((appl xs lv).any (wholeB (aSport a) (aTags a))) (aStart a) (aSmps a)
noncomputable def allA (xs : List D) (lv : Int) (a : D) : Bool := (appl xs lv).any (wholeB (aSport a) (aTags a))
theorem G10x0_eq (hN : maxLen < N) (hv : VeilOk xs) (ha : ActOk nm s l t) :
  ∃ b, G10x0 N xs lv nm sp st sn s ln l tn t = some (b, (bif faultV xs lv [mkA nm sp st sn s ln l tn t] != 0 then [] else hidA xs lv (mkA nm sp st sn s ln l tn t)), (bif faultV xs lv [mkA nm sp st sn s ln l tn t] != 0 then false else allA xs lv (mkA nm sp st sn s ln l tn t)), faultV xs lv [mkA nm sp st sn s ln l tn t]) := by
 have hm : maxLen = 9223372036854775807 := rfl
 unfold G10x0 F10x0
 rw [show (D.a [.s nm, .i sp, .i st, .l sn s, .l ln l, .l tn t]) = mkA nm sp st sn s ln l tn t from rfl]
 simp only [bnd_eq, G39x0_eq (l := [mkA nm sp st sn s ln l tn t]) (lv := lv) hN hv (by simp; omega) (one_ok ha), Option.isSome_some, getD_some, _root_.cond_true]
 cases hf : faultV xs lv [mkA nm sp st sn s ln l tn t] != 0 with
 | true => exact ⟨true, rfl⟩
 | false =>
  simp only [bne_eq_false_iff_eq] at hf
  obtain ⟨r1, r2, r3⟩ := fault_right hf
  have hr := act_right (r3 (mkA nm sp st sn s ln l tn t) (by simp))
  have h1 : s.length ≤ 20000 := hr.s
  have h2 : t.length ≤ 20 := hr.t
  obtain ⟨b, e⟩ := G41x0_eq (lv := lv) hN r1.l
  rw [e, hf]
  simp only [_root_.cond_false, Option.isSome_some, getD_some, _root_.cond_true, G40x0_eq (sport := sp) (start := st) hN (lt50 (Nat.le_trans (appl_len (xs := xs) (lv := lv)) r1.l)) h1 (show t.length ≤ maxLen by omega)]
  exact ⟨_, rfl⟩
theorem G11x0_eq (hN : maxLen < N) (hv : VeilOk xs) (ha : ActOk nm s l t) :
  ∃ b, G11x0 N xs lv nm sp st sn s ln l tn t = some (b, (bif faultV xs lv [mkA nm sp st sn s ln l tn t] != 0 then [] else hidA xs lv (mkA nm sp st sn s ln l tn t)), (bif faultV xs lv [mkA nm sp st sn s ln l tn t] != 0 then false else allA xs lv (mkA nm sp st sn s ln l tn t)), faultV xs lv [mkA nm sp st sn s ln l tn t]) := by
 have hm : maxLen = 9223372036854775807 := rfl
 unfold G11x0 F11x0
 rw [show (D.a [.s nm, .i sp, .i st, .l sn s, .l ln l, .l tn t]) = mkA nm sp st sn s ln l tn t from rfl]
 simp only [bnd_eq, G42x0_eq (l := [mkA nm sp st sn s ln l tn t]) (lv := lv) hN hv (by simp) (one_ok ha), Option.isSome_some, getD_some, _root_.cond_true]
 cases hf : faultV xs lv [mkA nm sp st sn s ln l tn t] != 0 with
 | true => exact ⟨true, rfl⟩
 | false =>
  simp only [bne_eq_false_iff_eq] at hf
  obtain ⟨r1, r2, r3⟩ := fault_right hf
  have hr := act_right (r3 (mkA nm sp st sn s ln l tn t) (by simp))
  have h1 : s.length ≤ 20000 := hr.s
  have h2 : t.length ≤ 20 := hr.t
  obtain ⟨b, e⟩ := G43x0_eq (lv := lv) (sport := sp) (start := st) hN r1.l h1 (show t.length ≤ maxLen by omega)
  rw [e, hf]
  exact ⟨_, rfl⟩
theorem same_refl (l : List D) : eqL sameD l l = true := eqL_refl sameD_refl l
end
end Go.Proofs.Ytngnemeafkmaoaa

/-! Plain laws of chapter 10: Tells and Audience of both. -/
namespace Go.Proofs.Ytngnemeafkmaoaa
open Go Go.AM
set_option maxRecDepth 100000
set_option maxHeartbeats 4000000
variable {N : Nat}
/-- What a veil lets see of an activity, with its last flag left out. -/
noncomputable def seenF (xs : List D) (lv : Int) (a : D) : List D := seenA (appl xs lv) false a
section
variable {xs : List D} {lv sp st sp' st' : Int} {nm nm' : List UInt8} {sn ln tn sn' ln' tn' : Bool} {s l t s' l' t' : List D}
theorem G44x0_one (hN : maxLen < N) (hv : VeilRight xs) (ha : ActG (mkA nm sp st sn s ln l tn t)) : ∃ b, G44x0 N xs lv [mkA nm sp st sn s ln l tn t] = some (b, seenA (appl xs lv) tn (mkA nm sp st sn s ln l tn t)) := by
 obtain ⟨b, e⟩ := G44x0_eq (l := [mkA nm sp st sn s ln l tn t]) (lv := lv) hN hv (by simp) (one_ok ha)
 refine ⟨b, ?_⟩
 rw [e]
 simp only [List.flatMap_cons, List.flatMap_nil, List.append_nil]
 rfl
noncomputable def tellsR (xs : List D) (lv : Int) (a b : D) : Bool × Int :=
 bif faultV xs lv [a, b] != 0 then (false, faultV xs lv [a, b]) else (!(eqL sameD (seenF xs lv a) (seenF xs lv b)), 0)
theorem seen_two {rs : List D} {tn tn' : Bool} {a b : D} : eqL sameD (seenA rs tn a) (seenA rs tn' b) = eqL sameD (seenA rs false a) (seenA rs false b) := by
 rw [seen_eq1, seen_eq2]
theorem G23x0_eq (hN : maxLen < N) (hv : VeilOk xs) (ha : ActOk nm s l t) (hn : tn = true → t = []) (ha' : ActOk nm' s' l' t') (hn' : tn' = true → t' = []) :
  G23x0 N xs lv nm sp st sn s ln l tn t nm' sp' st' sn' s' ln' l' tn' t' = some (tellsR xs lv (mkA nm sp st sn s ln l tn t) (mkA nm' sp' st' sn' s' ln' l' tn' t')) := by
 have hm : maxLen = 9223372036854775807 := rfl
 unfold G23x0 F23x0 tellsR
 rw [show (D.a [.s nm, .i sp, .i st, .l sn s, .l ln l, .l tn t]) = mkA nm sp st sn s ln l tn t from rfl, show (D.a [.s nm', .i sp', .i st', .l sn' s', .l ln' l', .l tn' t']) = mkA nm' sp' st' sn' s' ln' l' tn' t' from rfl]
 simp only [bnd_eq, G39x0_eq (l := [mkA nm sp st sn s ln l tn t, mkA nm' sp' st' sn' s' ln' l' tn' t']) (lv := lv) hN hv (by simp; omega) (two_ok ha ha'), Option.isSome_some, getD_some, _root_.cond_true]
 cases hf : faultV xs lv [mkA nm sp st sn s ln l tn t, mkA nm' sp' st' sn' s' ln' l' tn' t'] != 0 with
 | true => rfl
 | false =>
  simp only [bne_eq_false_iff_eq] at hf
  obtain ⟨r1, r2, r3⟩ := fault_right hf
  have g1 := mkA_good (r3 (mkA nm sp st sn s ln l tn t) (by simp)) hn
  have g2 := mkA_good (r3 (mkA nm' sp' st' sn' s' ln' l' tn' t') (by simp)) hn'
  obtain ⟨b1, e1⟩ := G44x0_one (lv := lv) hN r1 g1
  obtain ⟨b2, e2⟩ := G44x0_one (lv := lv) hN r1 g2
  rw [e1, e2, hf]
  simp only [_root_.cond_false, Option.isSome_some, getD_some, _root_.cond_true, G53x0_eq hN (seenA_max g1) (seenA_ok g1), seen_two]
  rfl
end
end Go.Proofs.Ytngnemeafkmaoaa

/-! Plain laws of chapter 10: what is seen of a right activity is a right activity. -/
namespace Go.Proofs.Ytngnemeafkmaoaa
open Go Go.AM
set_option maxRecDepth 100000
set_option maxHeartbeats 4000000
variable {N : Nat}
abbrev sec (s : D) : Int := (s.cell 0).toI
section
variable {name : List UInt8} {sport start : Int} {smps laps tags l : List D}
end
end Go.Proofs.Ytngnemeafkmaoaa

/-! Plain laws of chapter 10: pieces are right; the law of VeilLevelsShrink. -/
namespace Go.Proofs.Ytngnemeafkmaoaa
open Go Go.AM
set_option maxRecDepth 100000
set_option maxHeartbeats 4000000
variable {N : Nat}
section
variable {rs smps laps tags r : List D} {name : List UInt8} {sport start : Int} {tn : Bool}
end
end Go.Proofs.Ytngnemeafkmaoaa

/-! Plain laws of chapter 10: the law of VeilLevelsShrink. -/
namespace Go.Proofs.Ytngnemeafkmaoaa
open Go Go.AM
set_option maxRecDepth 100000
set_option maxHeartbeats 4000000
variable {N : Nat}
section
variable {xs rs smps laps tags r ys : List D} {name : List UInt8} {sport start lv lv' : Int} {tn : Bool}
end
section
variable {xs : List D} {lv sp st : Int} {nm : List UInt8} {sn ln tn : Bool} {s l t : List D}
end
end Go.Proofs.Ytngnemeafkmaoaa

/-! Plain laws of chapter 10: what a rule that covers another hides; idle rules have a covering rule that is not idle. -/
namespace Go.Proofs.Ytngnemeafkmaoaa
open Go Go.AM
set_option maxRecDepth 100000
set_option maxHeartbeats 4000000
variable {N : Nat}
section
variable {a b : D}
/-- How much a rule hides, as a number. -/
def size (r : D) : Int := bif rKind r == 1 then rR r else bif rKind r == 2 then rHt r - rHf r else 0
end
end Go.Proofs.Ytngnemeafkmaoaa

/-! Plain laws of chapter 10: a tidied veil is right, is tidy, and lets see the same. -/
namespace Go.Proofs.Ytngnemeafkmaoaa
open Go Go.AM
set_option maxRecDepth 100000
set_option maxHeartbeats 4000000
variable {N : Nat}
abbrev at_ (xs : List D) (i : Nat) : D := xs.getD i (.i 0)
section
variable {xs : List D}
end
section
variable {xs : List D}
variable {lv sp st : Int} {nm : List UInt8} {sn ln tn : Bool} {s l t : List D}
end
end Go.Proofs.Ytngnemeafkmaoaa

/-! Plain laws of chapter 10: what is hidden tells nothing. -/
namespace Go.Proofs.Ytngnemeafkmaoaa
open Go Go.AM
set_option maxRecDepth 100000
set_option maxHeartbeats 4000000
variable {N : Nat}
/-! ### Contains, count -/
theorem G21x0_eq (hN : maxLen < N) {xs : List D} (hl : xs.length ≤ maxLen) (n : Int) : G21x0 N xs n = some (xs.any fun t => n == t.toI) := by
 have e : G52x0x6 N xs n xs.length 0 = some (wayI (fun t => n == t.toI) 0 xs) := by
  unfold G52x0x6
  refine (for_ind (.i 0 : D) (S := fun w kr => S52x0x6 N xs n xs.length w kr _ _) (L := fun m w => L52x0x6 N xs n xs.length m w _ _) (fun m w => rfl) (fun w l => some (wayI (fun t => n == t.toI) w l)) hl ?_ ?_ hN).trans rfl
  ·intro kr; simp [S52x0x6, wayI]
  ·intro w kr h0 h1 hw hi hk
   simp only [S52x0x6, decide_eq_true h1, _root_.cond_true, hi, hw, hk, wayI_cons]
   cases n == (xs.getD w.toNat (.i 0)).toI <;> rfl
 have e52 : G52x0 N xs n = some (findI (fun t => n == t.toI) 0 xs) := by
  unfold G52x0 F52x0
  rw [e]
  exact way_find _ _
 unfold G21x0 F21x0
 rw [e52]
 simp only [bnd_eq, Option.isSome_some, getD_some, _root_.cond_true, findI_any _ _ 0 (by omega)]
/-- How many are not set. -/
def cntF : List D → Int → Int
 | [], n => n
 | x :: r, n => cntF r (bif !x.toB then n + 1 else n)
theorem cntF_eq : ∀ (l : List D) (n : Int), cntF l n = n + (l.filter fun x => !x.toB).length
 | [], n => by simp [cntF]
 | x :: r, n => by
  rw [cntF, cntF_eq r, List.filter_cons]
  cases x.toB with
  | true => simp
  | false => simp; omega
theorem G22x0_eq (hN : maxLen < N) {xs : List D} (hl : xs.length ≤ maxLen) : G22x0 N xs = some (cntF xs 0) := by
 have hm : maxLen = 9223372036854775807 := rfl
 have e : G22x0x9 N xs xs.length 0 0 = some (cntF xs 0) := by
  unfold G22x0x9
  refine fold_ind (.i 0 : D) (A := Int) (S := fun w a kr => S22x0x9 N xs xs.length a w (fun a w => kr w a) _) (L := fun m w a => L22x0x9 N xs xs.length m a w _) (fun m w a => rfl) (fun w l a => some (cntF l a)) (fun w a => 0 ≤ a ∧ a ≤ w) hl ?_ ?_ hN (a := 0) ⟨by omega, by omega⟩
  ·intro a kr _; simp [S22x0x9, cntF]
  ·intro w a kr h0 h1 hw hi ha hk
   simp only [S22x0x9, decide_eq_true h1, _root_.cond_true, hi, bnd_eq, hw, V22x0x20, F22x0x20, cntF]
   rw [wrapI (x := a + 1) (by omega) (by omega)]
   exact hk _ (by cases (xs.getD w.toNat (.i 0)).toB <;> simp <;> omega)
 unfold G22x0 F22x0
 rw [e]
 rfl
/-! ### Moves -/
def mvB (H : List D) (m : D) : Bool := bif (bif decide ((m.cell 0).toI ≥ 0) then decide ((m.cell 0).toI < (H.length : Int)) else false) then (H.getD (m.cell 0).toI.toNat (.i 0)).toB else false
def mvS (H cur : List D) (m : D) : List D :=
 bif mvB H m then cur.set (m.cell 0).toI.toNat (.a [.i ((cur.getD (m.cell 0).toI.toNat (.i 0)).cell 0).toI, .i (m.cell 1).toI, .i (m.cell 2).toI, .i (m.cell 3).toI, .i (m.cell 4).toI, .i (m.cell 5).toI, .i (m.cell 6).toI]) else cur
def mvF (H : List D) : List D → List D → List D
 | [], cur => cur
 | m :: r, cur => mvF H r (mvS H cur m)
theorem mvB_in {H : List D} {m : D} (h : mvB H m = true) : 0 ≤ (m.cell 0).toI ∧ (m.cell 0).toI < H.length ∧ (H.getD (m.cell 0).toI.toNat (.i 0)).toB = true := by
 unfold mvB at h
 cases h1 : decide ((m.cell 0).toI ≥ 0) with
 | false => rw [h1] at h; cases h
 | true =>
  cases h2 : decide ((m.cell 0).toI < (H.length : Int)) with
  | false => rw [h1, h2] at h; cases h
  | true =>
   rw [h1, h2] at h
   exact ⟨of_decide_eq_true h1, of_decide_eq_true h2, h⟩
theorem mvS_len {H cur : List D} {m : D} : (mvS H cur m).length = cur.length := by
 unfold mvS
 cases mvB H m with
 | true => simp only [_root_.cond_true, List.length_set]
 | false => rfl
theorem G5x0x30_eq (hN : maxLen < N) {H mv cur : List D} (hl : mv.length ≤ maxLen) (hc : cur.length = H.length) : G5x0x30 N H mv mv.length 0 cur = some (mvF H mv cur) := by
 unfold G5x0x30
 refine fold_ind (.i 0 : D) (A := List D) (S := fun w a kr => S5x0x30 N H mv mv.length w a kr _) (L := fun m w a => L5x0x30 N H mv mv.length m w a _) (fun m w a => rfl) (fun w l a => some (mvF H l a)) (fun w a => a.length = H.length) hl ?_ ?_ hN (a := cur) hc
 ·intro a kr _; simp [S5x0x30, mvF]
 ·intro w a kr h0 h1 hw hi ha hk
  have hB : (bif (bif decide (((mv.getD w.toNat (.i 0)).cell 0).toI ≥ 0) then decide (((mv.getD w.toNat (.i 0)).cell 0).toI < (H.length : Int)) else false) then (H.getD ((mv.getD w.toNat (.i 0)).cell 0).toI.toNat (.i 0)).toB else false) = mvB H (mv.getD w.toNat (.i 0)) := rfl
  have hI : (bif (inB ((mv.getD w.toNat (.i 0)).cell 0).toI H.length) then true else (!((bif decide (((mv.getD w.toNat (.i 0)).cell 0).toI ≥ 0) then decide (((mv.getD w.toNat (.i 0)).cell 0).toI < (H.length : Int)) else false) == true))) = true := by
   by_cases q1 : ((mv.getD w.toNat (.i 0)).cell 0).toI ≥ 0
   ·by_cases q2 : ((mv.getD w.toNat (.i 0)).cell 0).toI < (H.length : Int)
    ·rw [inB_of q1 q2]; rfl
    ·rw [decide_eq_false q2]; cases inB ((mv.getD w.toNat (.i 0)).cell 0).toI H.length <;> cases decide (((mv.getD w.toNat (.i 0)).cell 0).toI ≥ 0) <;> rfl
   ·rw [decide_eq_false q1]; cases inB ((mv.getD w.toNat (.i 0)).cell 0).toI H.length <;> rfl
  simp only [S5x0x30, decide_eq_true h1, _root_.cond_true, hi, bnd_eq, hw, hI, hB, G5x0x41, F5x0x41, mvF]
  cases hb : mvB H (mv.getD w.toNat (.i 0)) with
  | false =>
   have e : mvS H a (mv.getD w.toNat (.i 0)) = a := by unfold mvS; rw [hb]; rfl
   rw [e]
   exact hk a ha
  | true =>
   obtain ⟨q1, q2, _⟩ := mvB_in hb
   have e : mvS H a (mv.getD w.toNat (.i 0)) = a.set ((mv.getD w.toNat (.i 0)).cell 0).toI.toNat (.a [.i ((a.getD ((mv.getD w.toNat (.i 0)).cell 0).toI.toNat (.i 0)).cell 0).toI, .i ((mv.getD w.toNat (.i 0)).cell 1).toI, .i ((mv.getD w.toNat (.i 0)).cell 2).toI, .i ((mv.getD w.toNat (.i 0)).cell 3).toI, .i ((mv.getD w.toNat (.i 0)).cell 4).toI, .i ((mv.getD w.toNat (.i 0)).cell 5).toI, .i ((mv.getD w.toNat (.i 0)).cell 6).toI]) := by unfold mvS; rw [hb]; rfl
   rw [inB_of q1 (by omega), decide_eq_true (show ((mv.getD w.toNat (.i 0)).cell 0).toI.toNat < a.length by omega)]
   simp only [_root_.cond_true, Option.isSome_some, getD_some]
   rw [← e]
   exact hk _ (by rw [mvS_len]; exact ha)
/-! ### What is left -/
def dropB (gone H : List D) (w : Int) : Bool :=
 bif (bif (bif (gone.any fun t => w == t.toI) then (H.getD w.toNat (.i 0)).toB else false) then decide (w > 0) else false) then decide (w < IntKind.wrap .i64 ((H.length : Int) - 1)) else false
def leftF (p : Int → Bool) : Int → List D → Bool × List D → Bool × List D
 | _, [], a => a
 | w, c :: r, a => leftF p (w + 1) r (bif !p w then (false, a.2 ++ [reS c]) else a)
def leftL (p : Int → Bool) : Int → List D → List D
 | _, [] => []
 | w, c :: r => (bif p w then [] else [reS c]) ++ leftL p (w + 1) r
theorem leftF_eq (p : Int → Bool) : ∀ (l : List D) (w : Int) (a : Bool × List D), (leftF p w l a).2 = a.2 ++ leftL p w l
 | [], w, a => by simp [leftF, leftL]
 | c :: r, w, a => by
  rw [leftF, leftF_eq p r, leftL]
  cases p w <;> simp
theorem leftL_len (p : Int → Bool) : ∀ (l : List D) (w : Int), (leftL p w l).length ≤ l.length
 | [], w => by simp [leftL]
 | c :: r, w => by
  have := leftL_len p r (w + 1)
  rw [leftL]
  cases p w <;> simp <;> omega
theorem G5x0x51_eq (hN : maxLen < N) {gone H cur : List D} (hg : gone.length ≤ maxLen) (hc : cur.length = H.length) (hl : cur.length ≤ 20000) : G5x0x51 N gone H cur.length cur 0 true [] = some (leftF (dropB gone H) 0 cur (true, [])) := by
 have hm : maxLen = 9223372036854775807 := rfl
 have h2 : room = 140737488355328 := rfl
 have h3 : strMax = 9223372036854775807 := rfl
 unfold G5x0x51
 refine fold_ind (.i 0 : D) (A := Bool × List D) (S := fun w a kr => S5x0x51 N gone H cur.length cur w a.1 a.2 (fun w b l => kr w (b, l)) _) (L := fun m w a => L5x0x51 N gone H cur.length cur m w a.1 a.2 _) (fun m w a => rfl) (fun w l a => some (leftF (dropB gone H) w l a)) (fun w a => (a.2.length : Int) ≤ w) (by omega) ?_ ?_ hN (a := (true, [])) (by simp)
 ·intro a kr _; simp [S5x0x51, leftF]
 ·intro w a kr h0 h1 hw hi ha hk
  have hI : ∀ b : Bool, (bif (inB w H.length) then true else (!(b == true))) = true := fun b => by rw [inB_of h0 (by omega)]; rfl
  have hB : (bif (bif (bif (gone.any fun t => w == t.toI) then (H.getD w.toNat (.i 0)).toB else false) then decide (w > 0) else false) then decide (w < IntKind.wrap .i64 ((H.length : Int) - 1)) else false) = dropB gone H w := rfl
  have hlt : decide (w.toNat < cur.length) = true := decide_eq_true (by omega)
  simp only [S5x0x51, decide_eq_true h1, _root_.cond_true, hi, hlt, bnd_eq, hw, G21x0_eq hN hg, Option.isSome_some, getD_some, hI, hB, G5x0x62, F5x0x62, leftF]
  cases hb : dropB gone H w with
  | true => exact hk a (by omega)
  | false =>
   rw [decide_eq_true (show (a.2.length + 1) * 56 ≤ room by omega), decide_eq_true (show a.2.length + 1 ≤ strMax by omega)]
   exact hk (false, a.2 ++ [reS (cur.getD w.toNat (.i 0))]) (by simp; omega)
/-! ### What is seen stays -/
section
variable {hid : D → Bool}
def visL (hid : D → Bool) (l : List D) : List D := (l.filter fun x => !hid x).map reS
/-- Runs of what is seen. -/
def runsG : List D → List D × List (List D) → List D × List (List D)
 | [], a => a
 | s :: r, a => runsG r (bif gapB a.1 s then ([s], a.2 ++ [a.1]) else (a.1 ++ [s], a.2))
theorem runsF_vis : ∀ (l : List D) (b : List D × List (List D)), runsF hid l b = runsG (visL hid l) b
 | [], b => rfl
 | s :: l, b => by
  rw [runsF, runsF_vis l]
  unfold visL
  rw [List.filter_cons]
  cases hid s with
  | true => rfl
  | false => rfl
theorem visL_sub (hre : ∀ s, hid (reS s) = hid s) (p : Int → Bool) : ∀ (s cur : List D) (w : Int), cur.length = s.length → (∀ i : Nat, i < s.length → hid (at_ s i) = false → at_ cur i = at_ s i ∧ p (w + i) = false) → (visL hid s).Sublist (visL hid (leftL p w cur))
 | [], [], w, _, _ => List.Sublist.refl _
 | [], _ :: _, w, h, _ => by simp at h
 | _ :: _, [], w, h, _ => by simp at h
 | x :: s, c :: cur, w, h, hr => by
  have ih := visL_sub hre p s cur (w + 1) (by simpa using h) fun i hi hh => by
   have := hr (i + 1) (by simpa using hi) hh
   rwa [show w + ((i + 1 : Nat) : Int) = w + 1 + i by omega] at this
  have e2 : visL hid (leftL p w (c :: cur)) = visL hid (bif p w then [] else [reS c]) ++ visL hid (leftL p (w + 1) cur) := by
   rw [leftL]; unfold visL; rw [List.filter_append, List.map_append]
  rw [e2]
  cases hx : hid x with
  | true =>
   have e1 : visL hid (x :: s) = visL hid s := by unfold visL; rw [List.filter_cons, hx]; rfl
   rw [e1]
   exact ih.trans (List.sublist_append_right _ _)
  | false =>
   obtain ⟨q1, q2⟩ := hr 0 (by simp) hx
   have q1 : c = x := q1
   have q2 : p w = false := by simpa using q2
   have e1 : visL hid (x :: s) = [reS x] ++ visL hid s := by unfold visL; rw [List.filter_cons, hx]; rfl
   have e3 : visL hid [reS c] = [reS x] := by
    unfold visL
    rw [q1, List.filter_cons, hre, hx]
    rfl
   rw [e1, q2]
   simp only [_root_.cond_false]
   rw [e3]
   exact List.Sublist.append (List.Sublist.refl _) ih
theorem mvF_keep {H s : List D} (hH : ∀ i : Nat, i < s.length → (at_ H i).toB = hid (at_ s i)) (hl : H.length = s.length) : ∀ (mv cur : List D), cur.length = s.length → (∀ i : Nat, i < s.length → hid (at_ s i) = false → at_ cur i = at_ s i) → (mvF H mv cur).length = s.length ∧ ∀ i : Nat, i < s.length → hid (at_ s i) = false → at_ (mvF H mv cur) i = at_ s i
 | [], cur, h1, h2 => ⟨h1, h2⟩
 | m :: r, cur, h1, h2 => by
  rw [mvF]
  refine mvF_keep hH hl r _ (by rw [mvS_len]; exact h1) fun i hi hh => ?_
  rw [← h2 i hi hh]
  unfold mvS
  cases hb : mvB H m with
  | false => rfl
  | true =>
   obtain ⟨q1, q2, q3⟩ := mvB_in hb
   have hne : (m.cell 0).toI.toNat ≠ i := fun e => by
    rw [e] at q3
    rw [show H.getD i (.i 0) = at_ H i from rfl, hH i hi, hh] at q3
    cases q3
   simp only [_root_.cond_true]
   unfold at_
   simp only [List.getD_eq_getElem?_getD, List.getElem?_set_ne hne]
end
theorem cnt_vis {rs l : List D} {all : Bool} {start : Int} : cntF (hidL rs all start l) 0 = ((visL (hidS rs all start) l).length : Int) := by
 rw [cntF_eq, Int.zero_add]
 unfold visL hidL
 rw [List.length_map, List.filter_map, List.length_map]
 rfl
theorem seen_vis {rs : List D} {tn : Bool} {nm : List UInt8} {sp st : Int} {sn sn2 ln : Bool} {s s2 l t : List D} (h : visL (hidS rs (rs.any (wholeB sp t)) st) s = visL (hidS rs (rs.any (wholeB sp t)) st) s2) :
  seenA rs tn (mkA nm sp st sn s ln l tn t) = seenA rs tn (mkA nm sp st sn2 s2 ln l tn t) := by
 show (seenRuns (hidS rs (rs.any (wholeB sp t)) st) s).map (pieceD rs nm sp st l tn t) = (seenRuns (hidS rs (rs.any (wholeB sp t)) st) s2).map (pieceD rs nm sp st l tn t)
 unfold seenRuns
 rw [runsF_vis, runsF_vis, h]
section
variable {xs : List D} {lv sp st : Int} {nm : List UInt8} {sn ln tn : Bool} {s l t mv gone : List D}
theorem fault_two {lv : Int} {a b : D} (h1 : faultV xs lv [a] = 0) (h2 : faultV xs lv [b] = 0) : faultV xs lv [a, b] = 0 := by
 obtain ⟨_, _, r1⟩ := fault_right h1
 obtain ⟨_, _, r2⟩ := fault_right h2
 unfold faultV at h1 ⊢
 obtain ⟨q1, q2⟩ := wayne h1
 obtain ⟨q3, _⟩ := way0 q2 (by decide)
 rw [q1, q3]
 simp only [bne_self_eq_false, _root_.cond_false]
 rw [firstE2]
 show (bif chkD a != 0 then chkD a else chkD b) = 0
 rw [r1 a (by simp), r2 b (by simp)]
 rfl
theorem G20x0_eq (h : s.length ≤ 20000) : G20x0 N sn s = some (bif sn then .inl () else .inr (s.isEmpty && false)) := by
 have h2 : room = 140737488355328 := rfl
 have h3 : strMax = 9223372036854775807 := rfl
 unfold G20x0 F20x0
 rw [decide_eq_true (show (0 + s.length) * 56 ≤ room by omega), decide_eq_true (show 0 + s.length ≤ strMax by omega)]
 cases sn <;> rfl
/-- The law of VeilHiddenTellsNothing. -/
theorem law5 (hv : VeilOk xs) (ha : ActOk nm s l t) (hs : sn = true → s = []) (hn : tn = true → t = []) (hmv : mv.length ≤ maxLen) (hgo : gone.length ≤ maxLen) :
  G5x0 18446744073709551616 xs lv nm sp st sn s ln l tn t mv gone = some true := by
 have hN : maxLen < 18446744073709551616 := by decide
 have hm : maxLen = 9223372036854775807 := rfl
 obtain ⟨b1, e1⟩ := G10x0_eq (lv := lv) (sp := sp) (st := st) (sn := sn) (ln := ln) (tn := tn) hN hv ha
 obtain ⟨b2, e2⟩ := G11x0_eq (lv := lv) (sp := sp) (st := st) (sn := sn) (ln := ln) (tn := tn) hN hv ha
 unfold G5x0 F5x0 G5x0x13 F5x0x13 G5x0x25 F5x0x25 G5x0x97 F5x0x97
 simp only [bnd_eq, e1, e2, Option.isSome_some, getD_some, _root_.cond_true, beq_self_eq_true, told_ok]
 cases hf : faultV xs lv [mkA nm sp st sn s ln l tn t] != 0 with
 | true => rfl
 | false =>
  simp only [bne_eq_false_iff_eq] at hf
  obtain ⟨r1, r2, r3⟩ := fault_right hf
  have hcd := r3 (mkA nm sp st sn s ln l tn t) (by simp)
  have hg := mkA_good hcd hn
  have h20 : s.length ≤ 20000 := hg.r.s
  have hH : (hidA xs lv (mkA nm sp st sn s ln l tn t)).length = s.length := hidL_len
  obtain ⟨k1, k2⟩ := mvF_keep (hid := hidS (appl xs lv) ((appl xs lv).any (wholeB sp t)) st) (H := hidA xs lv (mkA nm sp st sn s ln l tn t)) (s := s) (fun i hi => by
   have := hidL_get (rs := appl xs lv) (l := s) (all := (appl xs lv).any (wholeB sp t)) (start := st) (w := (i : Int)) (by omega) (by omega)
   rwa [Int.toNat_natCast] at this) hH mv s rfl fun _ _ _ => rfl
  have e30 := G5x0x30_eq (H := hidA xs lv (mkA nm sp st sn s ln l tn t)) hN hmv hH.symm
  have e51 := G5x0x51_eq (H := hidA xs lv (mkA nm sp st sn s ln l tn t)) (cur := mvF (hidA xs lv (mkA nm sp st sn s ln l tn t)) mv s) hN hgo (by rw [k1, hH]) (by rw [k1]; exact h20)
  generalize hq : leftF (dropB gone (hidA xs lv (mkA nm sp st sn s ln l tn t))) 0 (mvF (hidA xs lv (mkA nm sp st sn s ln l tn t)) mv s) (true, []) = q at e51
  obtain ⟨sn2, s2⟩ := q
  have hs2 : s2 = leftL (dropB gone (hidA xs lv (mkA nm sp st sn s ln l tn t))) 0 (mvF (hidA xs lv (mkA nm sp st sn s ln l tn t)) mv s) := by
   have := leftF_eq (dropB gone (hidA xs lv (mkA nm sp st sn s ln l tn t))) (mvF (hidA xs lv (mkA nm sp st sn s ln l tn t)) mv s) 0 (true, [])
   rw [hq] at this
   simpa using this
  have l2 : s2.length ≤ 20000 := by
   rw [hs2]
   have := leftL_len (dropB gone (hidA xs lv (mkA nm sp st sn s ln l tn t))) (mvF (hidA xs lv (mkA nm sp st sn s ln l tn t)) mv s) 0
   omega
  have ha2 : ActOk nm s2 l t := ⟨ha.n, by omega, ha.l, ha.t, ha.ln, ha.tn⟩
  have hsub : (visL (hidS (appl xs lv) ((appl xs lv).any (wholeB sp t)) st) s).Sublist (visL (hidS (appl xs lv) ((appl xs lv).any (wholeB sp t)) st) s2) := by
   rw [hs2]
   refine visL_sub (fun _ => rfl) _ s _ 0 k1 fun i hi hh => ⟨k2 i hi hh, ?_⟩
   rw [Int.zero_add]
   unfold dropB
   have := hidL_get (rs := appl xs lv) (l := s) (all := (appl xs lv).any (wholeB sp t)) (start := st) (w := (i : Int)) (by omega) (by omega)
   rw [Int.toNat_natCast] at this
   have this : ((hidA xs lv (mkA nm sp st sn s ln l tn t)).getD (i : Int).toNat (.i 0)).toB = false := by rw [Int.toNat_natCast]; exact this.trans hh
   rw [this]
   cases gone.any fun t => (i : Int) == t.toI <;> rfl
  obtain ⟨b3, e3⟩ := G11x0_eq (lv := lv) (sp := sp) (st := st) (sn := sn2) (ln := ln) (tn := tn) hN hv ha2
  obtain ⟨b4, e4⟩ := G13x0_eq (lv := lv) (sp := sp) (st := st) (sn := sn) (ln := ln) (tn := tn) hN hv ha hn
  obtain ⟨b5, e5⟩ := G13x0_eq (lv := lv) (sp := sp) (st := st) (sn := sn2) (ln := ln) (tn := tn) hN hv ha2 hn
  have e6 := G23x0_eq (lv := lv) (sp := sp) (st := st) (sn := sn) (ln := ln) (tn := tn) (sp' := sp) (st' := st) (sn' := sn2) (ln' := ln) (tn' := tn) hN hv ha hn ha2 hn
  have e7 := G22x0_eq (xs := hidA xs lv (mkA nm sp st sn s ln l tn t)) hN (by rw [hH]; omega)
  rw [show cntF (hidA xs lv (mkA nm sp st sn s ln l tn t)) 0 = _ from cnt_vis] at e7
  have hbody : (bif (faultV xs lv [mkA nm sp st sn2 s2 ln l tn t] != 0) then True else True) := by cases (faultV xs lv [mkA nm sp st sn2 s2 ln l tn t] != 0) <;> trivial
  simp only [_root_.cond_false, hH, bne_self_eq_false, G20x0_eq h20]
  have hgo2 : ∀ z : Bool × List D × Bool × Int, (bif (z.2.2.2 != 0) then some true else some true) = some true := fun z => by cases (z.2.2.2 != 0) <;> rfl
  have fin : ∀ (y0 : Option (Bool × List D)), y0 = some (sn2, s2) → _ := fun y0 hy => hy
  cases hf2 : faultV xs lv [mkA nm sp st sn2 s2 ln l tn t] != 0 with
  | true =>
   cases hsn : sn with
   | true =>
    obtain rfl := hs hsn
    subst hsn
    simp only [_root_.cond_true, inlB_inl, Option.isSome_some, getD_some, e30, e51, e3, hf2, told_ok]
   | false =>
    subst hsn
    simp only [_root_.cond_true, _root_.cond_false, inlB_inr, inrQ_inr, Option.isSome_some, getD_some, e30, e51, e3, hf2, told_ok]
  | false =>
   have hf2' := hf2
   simp only [bne_eq_false_iff_eq] at hf2'
   have hcd2 := (fault_right hf2').2.2 (mkA nm sp st sn2 s2 ln l tn t) (by simp)
   have e8 := G22x0_eq (xs := hidA xs lv (mkA nm sp st sn2 s2 ln l tn t)) hN (by
    have : (hidA xs lv (mkA nm sp st sn2 s2 ln l tn t)).length = s2.length := hidL_len
    omega)
   rw [show cntF (hidA xs lv (mkA nm sp st sn2 s2 ln l tn t)) 0 = _ from cnt_vis] at e8
   have e8 : G22x0 18446744073709551616 (hidA xs lv (mkA nm sp st sn2 s2 ln l tn t)) = some ((visL (hidS (appl xs lv) ((appl xs lv).any (wholeB sp t)) st) s2).length : Int) := e8
   have e7 : G22x0 18446744073709551616 (hidA xs lv (mkA nm sp st sn s ln l tn t)) = some ((visL (hidS (appl xs lv) ((appl xs lv).any (wholeB sp t)) st) s).length : Int) := e7
   have e3' : G11x0 18446744073709551616 xs lv nm sp st sn2 s2 ln l tn t = some (b3, hidA xs lv (mkA nm sp st sn2 s2 ln l tn t), allA xs lv (mkA nm sp st sn2 s2 ln l tn t), 0) := by rw [e3, hf2, hf2']; rfl
   cases hc : (((visL (hidS (appl xs lv) ((appl xs lv).any (wholeB sp t)) st) s2).length : Int) != ((visL (hidS (appl xs lv) ((appl xs lv).any (wholeB sp t)) st) s).length : Int)) with
   | true =>
    cases hsn : sn with
    | true =>
     obtain rfl := hs hsn
     subst hsn
     simp only [_root_.cond_true, _root_.cond_false, inlB_inl, Option.isSome_some, getD_some, e30, e51, e3', bne_self_eq_false, e7, e8, hc, told_ok]
    | false =>
     subst hsn
     simp only [_root_.cond_true, _root_.cond_false, inlB_inr, inrQ_inr, Option.isSome_some, getD_some, e30, e51, e3', bne_self_eq_false, e7, e8, hc, told_ok]
   | false =>
    have hc2 : (visL (hidS (appl xs lv) ((appl xs lv).any (wholeB sp t)) st) s).length = (visL (hidS (appl xs lv) ((appl xs lv).any (wholeB sp t)) st) s2).length := by
     simp only [bne_eq_false_iff_eq] at hc
     omega
    have hvis := hsub.eq_of_length hc2
    have hseen := seen_vis (tn := tn) (nm := nm) (sn := sn) (sn2 := sn2) (ln := ln) (l := l) hvis
    have e4' : G13x0 18446744073709551616 xs lv nm sp st sn s ln l tn t = some (b4, seenA (appl xs lv) tn (mkA nm sp st sn s ln l tn t), 0) := by rw [e4, hf]; rfl
    have e5' : G13x0 18446744073709551616 xs lv nm sp st sn2 s2 ln l tn t = some (b5, seenA (appl xs lv) tn (mkA nm sp st sn s ln l tn t), 0) := by rw [e5, hf2, hf2', hseen]; rfl
    have e6' : G23x0 18446744073709551616 xs lv nm sp st sn s ln l tn t nm sp st sn2 s2 ln l tn t = some (false, 0) := by
     rw [e6]
     unfold tellsR seenF
     rw [fault_two hf hf2', ← seen_two (tn := tn) (tn' := tn), hseen, same_refl]
     rfl
    have e19 := G19x0_eq hN (ys := seenA (appl xs lv) tn (mkA nm sp st sn s ln l tn t)) (seenA_max (rs := appl xs lv) (tn := tn) hg) (seenA_ok hg)
    rw [same_refl] at e19
    cases hsn : sn with
    | true =>
     obtain rfl := hs hsn
     subst hsn
     simp only [_root_.cond_true, _root_.cond_false, inlB_inl, Option.isSome_some, getD_some, e30, e51, e3', bne_self_eq_false, e7, e8, hc, e4', e5', e6', beq_self_eq_true, Bool.not_false, e19, told_ok]
    | false =>
     subst hsn
     simp only [_root_.cond_true, _root_.cond_false, inlB_inr, inrQ_inr, Option.isSome_some, getD_some, e30, e51, e3', bne_self_eq_false, e7, e8, hc, e4', e5', e6', beq_self_eq_true, Bool.not_false, e19, told_ok]
end
end Go.Proofs.Ytngnemeafkmaoaa

/-! Arguments of VeilHiddenTellsNothing. -/
namespace Go.Proofs.Ytngnemeafkmaoaa
open Go Go.AM
set_option maxRecDepth 100000
set_option maxHeartbeats 4000000
theorem kinds44 : kinds Try.prog 44 = [.sl 50] := by kernel_rfl
theorem kinds45 : kinds Try.prog 45 = [.sl 3] := by kernel_rfl
theorem arg44 {ds : List D} (h : ArgOk Try.prog 6 44 ds) : ∃ nl xs, ds = [.l nl xs] ∧ xs.length ≤ maxLen := by
 unfold ArgOk at h
 rw [kinds44] at h
 obtain ⟨_, _, rfl, h0, h⟩ := all2_cons h
 obtain rfl := all2_nil h
 obtain ⟨nl, xs, rfl, _, l1, _⟩ := ty_sl (m := 5) h0
 exact ⟨nl, xs, rfl, l1⟩
theorem arg45 {ds : List D} (h : ArgOk Try.prog 6 45 ds) : ∃ nl xs, ds = [.l nl xs] ∧ xs.length ≤ maxLen := by
 unfold ArgOk at h
 rw [kinds45] at h
 obtain ⟨_, _, rfl, h0, h⟩ := all2_cons h
 obtain rfl := all2_nil h
 obtain ⟨nl, xs, rfl, _, l1, _⟩ := ty_sl (m := 5) h0
 exact ⟨nl, xs, rfl, l1⟩
theorem arg29n {ds : List D} (h : ArgOk Try.prog 6 29 ds) : ∃ name sport start a smps b laps c tags, ds = [.s name, .i sport, .i start, .l a smps, .l b laps, .l c tags] ∧ ActOk name smps laps tags ∧ (a = true → smps = []) ∧ (c = true → tags = []) := by
 obtain ⟨name, sport, start, a, smps, b, laps, c, tags, e, h1, h2⟩ := arg29 h
 subst e
 unfold ArgOk at h
 rw [kinds29] at h
 obtain ⟨_, _, e0, _, h⟩ := all2_cons h
 obtain ⟨_, _, e1, _, h⟩ := all2_cons h
 obtain ⟨_, _, e2, _, h⟩ := all2_cons h
 obtain ⟨_, _, e3, h3, h⟩ := all2_cons h
 obtain ⟨a', smps', e4, hn, _, _⟩ := ty_sl (m := 5) h3
 subst e4
 cases e0
 refine ⟨name, sport, start, a, smps, b, laps, c, tags, rfl, h1.ok, ?_, h2⟩
 simp only [List.cons.injEq] at e1 e2 e3
 obtain ⟨-, rfl⟩ := e1
 simp only [List.cons.injEq] at e2
 obtain ⟨-, rfl⟩ := e2
 simp only [List.cons.injEq] at e3
 obtain ⟨e3, -⟩ := e3
 cases e3
 exact hn
end Go.Proofs.Ytngnemeafkmaoaa

namespace Go.Proofs.Ytngnemeafkmaoaa
open Go Go.AM
set_option maxRecDepth 100000
set_option maxHeartbeats 4000000
set_option linter.unusedVariables false

theorem Try.own : ownKnob Try.prog.godebug = none := by kernel_rfl
theorem Try.laidOut : laidOutB Try.prog = true := by kernel_rfl
theorem callLaw (dss : List (List D)) (h : All2 (ArgOk Try.prog 6) Try.f5.params.toList dss) : CallOk Try.prog 5 (argVs Try.prog Try.f5.params.toList dss) [] ([.c (.b true)], []) := by
 have hp : Try.f5.params.toList = [24, 3, 29, 44, 45] := by kernel_rfl
 rw [hp] at h ⊢
 match dss, h with
 | [d0, d1, d2, d3, d4], ⟨h0, h1, h2, h3, h4, _⟩ =>
  obtain ⟨nl, xs, rfl, hv⟩ := arg24 h0
  obtain ⟨lv, rfl, _⟩ := arg3 h1
  obtain ⟨nm, sp, st, sn, s, ln, l, tn, t, rfl, ha, hs, hn⟩ := arg29n h2
  obtain ⟨mn, mv, rfl, hmv⟩ := arg44 h3
  obtain ⟨gn, gone, rfl, hgo⟩ := arg45 h4
  refine ok5x0 18446744073709551616 _ _ (A5x0 18446744073709551616 [.b nl, .l xs, .i lv, .s nm, .i sp, .i st, .b sn, .l s, .b ln, .l l, .b tn, .l t, .b mn, .l mv, .b gn, .l gone]) (by kernel_rfl) _ ?_
  have e : A5x0 18446744073709551616 [.b nl, .l xs, .i lv, .s nm, .i sp, .i st, .b sn, .l s, .b ln, .l l, .b tn, .l t, .b mn, .l mv, .b gn, .l gone] = bnd (G5x0 18446744073709551616 xs lv nm sp st sn s ln l tn t mv gone) fun q => [(q.isSome, ([.c (.b (q.getD default))], []))] := by kernel_rfl
  rw [e, law5 hv.ok ha hs hn hmv hgo]
  rfl
theorem lawLifted (os : Os) (started : os.Started) (H : Type) (enc : TypeId × Value → H) :
  ReturnsInHanded {} Try.checked os 5 .any (Rows.veilHiddenTellsNothingSpec.pre6 enc Try.prog Try.f5 Rows.veilHiddenTellsNothingRow.domain false) (Rows.veilHiddenTellsNothingSpec.post enc Try.prog Try.f5 false true false false) := by
 refine returnsInHanded_of_change (C := Try.checked) Try.own started (by kernel_rfl) Try.func5
  (ChangeSpec.witness6 (enc := enc) (C := Try.checked) false ⟨#[], #[.agg #[.slice none 0 0], .int .i64 0, .agg #[.string ⟨#[]⟩, .int .i64 0, .int .i64 0, .slice none 0 0, .slice none 0 0, .slice none 0 0], .slice none 0 0, .slice none 0 0], []⟩ 8 (by kernel_rfl) (by kernel_rfl) (by kernel_rfl) (by kernel_rfl)) ?_
 intro W base args ds gs before hval hW _ _
 exact law_call (m := 6) (tb := 4) Try.laidOut rfl (by kernel_rfl) (by kernel_rfl) (by kernel_rfl) (fun l hl => by
  rw [show Try.f5.params.size = 5 by kernel_rfl] at hl
  match l, hl with
  | [_, _, _, _, _], _ => rfl) callLaw hval hW
theorem nothing_holds : Rows.VeilHiddenTellsNothingSaid :=
 OpenClaim.holds_of_wide 5 Try.f5 rfl rfl rfl rfl rfl rfl rfl ⟨rfl, rfl, rfl, rfl, rfl⟩ rfl rfl rfl rfl rfl (by kernel_rfl) Try.func5 (by kernel_rfl)
  (of_decide_eq_true (by kernel_rfl)) (by unfold Func.isWrapper; first | (rw [if_pos (by decide +kernel)]; kernel_rfl) | (rw [if_neg (by decide +kernel)]; exact ⟨rfl, rfl⟩))
  (fun os started H enc _ => lawLifted os started H enc)
end Go.Proofs.Ytngnemeafkmaoaa

