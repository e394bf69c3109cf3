/- Proved: for every row of bytes, veil.Import answers what the reference package answers (VeilImportMatchesSpec returns true and leaves its argument as it was). Conditions: none beyond those of the given statement. -/
import Derived.Test.YtngnemeafkmaoaaGreatIPp2
import Derived.KernelRfl
import Derived.Test.YtngnemeafkmaoaaGreatRows
set_option linter.all false
set_option maxRecDepth 100000
namespace Go.Proofs.YtngnemeafkmaoaaGreat
open Go Go.AM
set_option maxRecDepth 100000
set_option maxHeartbeats 4000000
variable {N : Nat}
def ltr (n : Int) : Bool := decide (97 ≤ n ∧ n ≤ 122 ∨ 65 ≤ n ∧ n ≤ 90 ∨ 48 ≤ n ∧ n ≤ 57 ∨ n = 45 ∨ n = 95 ∨ n = 46)
def nameB (s : List UInt8) : Bool := s.all (fun c => ltr (c.toNat : Int)) && decide (1 ≤ s.length ∧ s.length ≤ 60)
def titleB (s : List UInt8) : Bool := s.all (fun c => decide (32 ≤ (c.toNat : Int) ∧ (c.toNat : Int) ≤ 126)) && decide (s.length ≤ 60)
def inI (n a b : Int) : Bool := decide (a ≤ n ∧ n ≤ b)
theorem G131x0x6_eq (hN : maxLen < N) {s : List UInt8} (hs : s.length ≤ maxLen) : G131x0x6 N s 0 = some (bif s.all (fun c => ltr (c.toNat : Int)) then .inr () else .inl ()) := by
 unfold G131x0x6
 refine (for_ind (0 : UInt8) (S := fun w kr => S131x0x6 N s w kr _ _) (L := fun m w => L131x0x6 N s m w _ _) (fun m w => rfl) (fun _ l => some (bif l.all (fun c => ltr (c.toNat : Int)) then .inr () else .inl ())) hs ?_ ?_ hN).trans rfl
 ·intro kr; simp [S131x0x6]
 ·intro w kr h0 h1 hw hi hk
  simp only [S131x0x6, decide_eq_true h1, _root_.cond_true, hi, bnd_eq, hw, hk, List.all_cons]
  generalize ((s.getD w.toNat 0).toNat : Int) = n
  refine (cond_congr (c' := !ltr n) ?_).trans ?_
  ·rw [Bool.eq_iff_iff]; simp [ltr]; omega
  ·cases ltr n <;> rfl
theorem G131x0_eq (hN : maxLen < N) {s : List UInt8} (hs : s.length ≤ maxLen) : G131x0 N s = some (nameB s) := by
 unfold G131x0 F131x0
 rw [G131x0x6_eq hN hs]
 unfold nameB
 cases s.all (fun c => ltr (c.toNat : Int)) with
 | false => rfl
 | true =>
  simp only [bnd_eq, inlB_inr, inrQ_inr, _root_.cond_true, _root_.cond_false, Option.isSome_some, Bool.true_and]
  congr 1
  rw [Bool.eq_iff_iff]; simp; omega
theorem G122x0x6_eq (hN : maxLen < N) {s : List UInt8} (hs : s.length ≤ maxLen) : G122x0x6 N s s.length 0 = some (bif s.all (fun c => ltr (c.toNat : Int)) then .inr () else .inl ()) := by
 unfold G122x0x6
 refine (for_ind (0 : UInt8) (S := fun w kr => S122x0x6 N s s.length w kr _ _) (L := fun m w => L122x0x6 N s s.length m w _ _) (fun m w => rfl) (fun _ l => some (bif l.all (fun c => ltr (c.toNat : Int)) then .inr () else .inl ())) hs ?_ ?_ hN).trans rfl
 ·intro kr; simp [S122x0x6]
 ·intro w kr h0 h1 hw hi hk
  simp only [S122x0x6, decide_eq_true h1, _root_.cond_true, hi, bnd_eq, hw, hk, List.all_cons, V122x0x19, F122x0x19, V166x0, F166x0]
  generalize ((s.getD w.toNat 0).toNat : Int) = n
  refine (cond_congr (c' := !ltr n) ?_).trans ?_
  ·rw [Bool.eq_iff_iff]; simp [ltr]; omega
  ·cases ltr n <;> rfl
theorem G122x0_eq (hN : maxLen < N) {s : List UInt8} (hs : s.length ≤ maxLen) : G122x0 N s = some (nameB s) := by
 unfold G122x0 F122x0
 rw [G122x0x6_eq hN hs]
 unfold nameB
 cases s.all (fun c => ltr (c.toNat : Int)) with
 | false => rfl
 | true =>
  simp only [bnd_eq, inlB_inr, inrQ_inr, _root_.cond_true, _root_.cond_false, Option.isSome_some, Bool.true_and]
  congr 1
  rw [Bool.eq_iff_iff]; simp; omega
theorem V115x0_eq (n a b : Int) : V115x0 N n a b = inI n a b := by
 unfold V115x0 F115x0 inI
 rw [Bool.eq_iff_iff]; simp
theorem V132x0_eq (n a b : Int) : V132x0 N n a b = !inI n a b := by
 unfold V132x0 F132x0 inI
 rw [Bool.eq_iff_iff]; simp <;> omega
theorem wrapByte (c : UInt8) : IntKind.wrap .i64 (c.toNat : Int) = c.toNat := wrapI (by omega) (by have := c.toNat_lt; omega)
theorem G124x0_eq (hN : maxLen < N) {s : List UInt8} (hs : s.length ≤ maxLen) : G124x0 N s = some (titleB s) := by
 have h : G124x0x6 N s s.length 0 = some (bif s.all (fun c => decide (32 ≤ (c.toNat : Int) ∧ (c.toNat : Int) ≤ 126)) then .inr () else .inl ()) := by
  unfold G124x0x6
  refine (for_ind (0 : UInt8) (S := fun w kr => S124x0x6 N s s.length w kr _ _) (L := fun m w => L124x0x6 N s s.length m w _ _) (fun m w => rfl) (fun _ l => some (bif l.all (fun c => decide (32 ≤ (c.toNat : Int) ∧ (c.toNat : Int) ≤ 126)) then .inr () else .inl ())) hs ?_ ?_ hN).trans rfl
  ·intro kr; simp [S124x0x6]
  ·intro w kr h0 h1 hw hi hk
   simp only [S124x0x6, decide_eq_true h1, _root_.cond_true, hi, bnd_eq, hw, hk, List.all_cons, wrapByte, V115x0_eq, inI]
   cases decide (32 ≤ ((s.getD w.toNat 0).toNat : Int) ∧ ((s.getD w.toNat 0).toNat : Int) ≤ 126) <;> rfl
 unfold G124x0 F124x0
 rw [h]
 unfold titleB
 cases s.all (fun c => decide (32 ≤ (c.toNat : Int) ∧ (c.toNat : Int) ≤ 126)) with
 | false => rfl
 | true =>
  simp only [bnd_eq, inlB_inr, inrQ_inr, _root_.cond_true, _root_.cond_false, Option.isSome_some, Bool.true_and]
  congr 1
  rw [Bool.eq_iff_iff]; simp; omega
theorem G134x0x21_eq (hN : maxLen < N) {s : List UInt8} (hs : s.length ≤ maxLen) : G134x0x21 N s 0 = some (bif s.all (fun c => decide (32 ≤ (c.toNat : Int) ∧ (c.toNat : Int) ≤ 126)) then .inr () else .inl ()) := by
 unfold G134x0x21
 refine (for_ind (0 : UInt8) (S := fun w kr => S134x0x21 N s w kr _ _) (L := fun m w => L134x0x21 N s m w _ _) (fun m w => rfl) (fun _ l => some (bif l.all (fun c => decide (32 ≤ (c.toNat : Int) ∧ (c.toNat : Int) ≤ 126)) then .inr () else .inl ())) hs ?_ ?_ hN).trans rfl
 ·intro kr; simp [S134x0x21]
 ·intro w kr h0 h1 hw hi hk
  simp only [S134x0x21, decide_eq_true h1, _root_.cond_true, hi, bnd_eq, hw, hk, List.all_cons, wrapByte, V132x0_eq, inI]
  cases decide (32 ≤ ((s.getD w.toNat 0).toNat : Int) ∧ ((s.getD w.toNat 0).toNat : Int) ≤ 126) <;> rfl
def firstE (e : Int → Int) : Int → List D → Int
 | _, [] => 0
 | w, _ :: r => bif e w != 0 then e w else firstE e (w + 1) r
def wayE (n : Int) : Sum Int Unit := bif n != 0 then .inl n else .inr ()
theorem wayE_cons {e : Int → Int} {w : Int} {x : D} {l : List D} : wayE (firstE e w (x :: l)) = bif e w != 0 then .inl (e w) else wayE (firstE e (w + 1) l) := by
 simp only [firstE]
 cases h : e w != 0 with
 | true => simp only [_root_.cond_true, wayE, h]
 | false => rfl
def ordE (xs : List D) (w : Int) : Bool := bif w == 0 then ((xs.getD w.toNat (.i 0)).cell 0).toI != 0 else decide (((xs.getD w.toNat (.i 0)).cell 0).toI ≤ ((xs.getD (w - 1).toNat (.i 0)).cell 0).toI)
def rngB (s : D) : Bool := inI (s.cell 1).toI (-100000000) 100000000 && inI (s.cell 2).toI (-100000000) 100000000 && inI (s.cell 3).toI (-100000) 100000 && inI (s.cell 4).toI (-1) 300 && inI (s.cell 5).toI (-1) 3000 && inI (s.cell 6).toI (-1) 300
def farB (start : Int) (s : D) : Bool := decide ((s.cell 0).toI > 1000000) || decide (IntKind.wrap .i64 (start + (s.cell 0).toI) > 86399999999)
def smpE (start : Int) (xs : List D) (w : Int) : Int := bif ordE xs w then 10 else bif farB start (xs.getD w.toNat (.i 0)) || !rngB (xs.getD w.toNat (.i 0)) then 9 else 0
section
variable {xs : List D} {w : Int}
theorem prev_of (h0 : 0 ≤ w) (h1 : w < xs.length) (hl : xs.length ≤ maxLen) (hp : w ≠ 0) : IntKind.wrap .i64 (w - 1) = w - 1 ∧ inB (w - 1) xs.length = true := by
 have hm : maxLen = 9223372036854775807 := rfl
 exact ⟨wrapI (by omega) (by omega), inB_of (by omega) (by omega)⟩
theorem ord13 (h0 : 0 ≤ w) (h1 : w < xs.length) (hl : xs.length ≤ maxLen) : G58x0x39002 N w (bif (w == 0) then (((xs.getD w.toNat (.i 0)).cell 0).toI != 0) else false) xs ((xs.getD w.toNat (.i 0)).cell 0).toI = some (ordE xs w) := by
 unfold G58x0x39002 F58x0x39002 G58x0x40 F58x0x40 ordE
 by_cases hw : w = 0
 ·subst hw
  rw [decide_eq_false (by omega : ¬ ((0 : Int) > 0))]
  simp only [beq_self_eq_true, _root_.cond_true]
  cases (((xs.getD (0 : Int).toNat (.i 0)).cell 0).toI != 0) <;> rfl
 ·obtain ⟨e1, e2⟩ := prev_of h0 h1 hl hw
  have : (w == 0) = false := by simpa using hw
  rw [this, decide_eq_true (by omega : w > 0), e1, e2]
  rfl
theorem ord58 (h0 : 0 ≤ w) (h1 : w < xs.length) (hl : xs.length ≤ maxLen) : G133x0x7 N w xs ((xs.getD w.toNat (.i 0)).cell 0).toI = some (ordE xs w) := by
 unfold G133x0x7 F133x0x7 ordE
 by_cases hw : w = 0
 ·subst hw
  rw [decide_eq_false (by omega : ¬ ((0 : Int) > 0))]
  simp only [beq_self_eq_true, _root_.cond_true]
  cases (((xs.getD (0 : Int).toNat (.i 0)).cell 0).toI != 0) <;> rfl
 ·obtain ⟨e1, e2⟩ := prev_of h0 h1 hl hw
  have : (w == 0) = false := by simpa using hw
  rw [this, decide_eq_true (by omega : w > 0), e1, e2]
  rfl
theorem far13 (start : Int) (s : D) : V58x0x46 N start (s.cell 0).toI (s.cell 1).toI (s.cell 2).toI (s.cell 3).toI (s.cell 4).toI (s.cell 5).toI (s.cell 6).toI = (farB start s || !rngB s) := by
 unfold V58x0x46 F58x0x46 V123x0 F123x0 V123x0x4 F123x0x4 V123x0x7 F123x0x7 farB rngB
 simp only [bnd_eq, V115x0_eq]
 cases decide ((s.cell 0).toI > 1000000) <;> cases decide (IntKind.wrap .i64 (start + (s.cell 0).toI) > 86399999999) <;> cases inI (s.cell 1).toI (-100000000) 100000000 <;> cases inI (s.cell 2).toI (-100000000) 100000000 <;> cases inI (s.cell 3).toI (-100000) 100000 <;> cases inI (s.cell 4).toI (-1) 300 <;> cases inI (s.cell 5).toI (-1) 3000 <;> cases inI (s.cell 6).toI (-1) 300 <;> rfl
theorem G58x0x30_eq (hN : maxLen < N) (start : Int) (hl : xs.length ≤ maxLen) : G58x0x30 N xs xs.length start xs 0 = some (wayE (firstE (smpE start xs) 0 xs)) := by
 unfold G58x0x30
 refine (for_ind (.i 0 : D) (S := fun w kr => S58x0x30 N xs xs.length start xs w kr _ _) (L := fun m w => L58x0x30 N xs xs.length start xs m w _ _) (fun m w => rfl) (fun w l => some (wayE (firstE (smpE start xs) w l))) hl ?_ ?_ hN).trans rfl
 ·intro kr; simp [S58x0x30, firstE, wayE]
 ·intro w kr h0 h1 hw hi hk
  simp only [S58x0x30, decide_eq_true h1, _root_.cond_true, hi, bnd_eq, hw, hk, ord13 h0 h1 hl, Option.isSome_some, getD_some, far13, wayE_cons]
  unfold smpE
  cases ordE xs w with
  | true => rfl
  | false => cases (farB start (xs.getD w.toNat (.i 0)) || !rngB (xs.getD w.toNat (.i 0))) <;> rfl
theorem G133x0_eq (start : Int) (h0 : 0 ≤ w) (h1 : w < xs.length) (hl : xs.length ≤ maxLen) : G133x0 N start xs w = some (smpE start xs w) := by
 unfold G133x0 F133x0
 rw [inB_of h0 h1, ord58 h0 h1 hl]
 unfold smpE V133x0x19 F133x0x19 V133x0x25 F133x0x25 farB rngB
 simp only [bnd_eq, _root_.cond_true, Option.isSome_some, getD_some, V132x0_eq]
 generalize xs.getD w.toNat (.i 0) = s
 cases ordE xs w <;> cases decide ((s.cell 0).toI > 1000000) <;> cases decide (IntKind.wrap .i64 (start + (s.cell 0).toI) > 86399999999) <;> cases inI (s.cell 1).toI (-100000000) 100000000 <;> cases inI (s.cell 2).toI (-100000000) 100000000 <;> cases inI (s.cell 3).toI (-100000) 100000 <;> cases inI (s.cell 4).toI (-1) 300 <;> cases inI (s.cell 5).toI (-1) 3000 <;> cases inI (s.cell 6).toI (-1) 300 <;> rfl
theorem G69x0x30_eq (hN : maxLen < N) (start : Int) (hl : xs.length ≤ maxLen) : G69x0x30 N xs.length start xs 0 = some (wayE (firstE (smpE start xs) 0 xs)) := by
 unfold G69x0x30
 refine (for_ind (.i 0 : D) (S := fun w kr => S69x0x30 N xs.length start xs w kr _ _) (L := fun m w => L69x0x30 N xs.length start xs m w _ _) (fun m w => rfl) (fun w l => some (wayE (firstE (smpE start xs) w l))) hl ?_ ?_ hN).trans rfl
 ·intro kr; simp [S69x0x30, firstE, wayE]
 ·intro w kr h0 h1 hw hi hk
  simp only [S69x0x30, decide_eq_true h1, _root_.cond_true, bnd_eq, hw, hk, G133x0_eq start h0 h1 hl, Option.isSome_some, getD_some, wayE_cons]
  cases smpE start xs w != 0 <;> rfl
def spanD (xs : List D) : Int := bif decide ((xs.length : Int) > 0) then ((xs.getD ((xs.length : Int) - 1).toNat (.i 0)).cell 0).toI else 0
theorem G37x0_eq (hl : xs.length ≤ maxLen) : G37x0 N xs = some (spanD xs) := by
 have hm : maxLen = 9223372036854775807 := rfl
 unfold G37x0 F37x0 spanD
 by_cases h : (xs.length : Int) > 0
 ·rw [decide_eq_true h, wrapI (by omega) (by omega), inB_of (by omega) (by omega)]; rfl
 ·rw [decide_eq_false h]; rfl
theorem G39x0_eq (hl : xs.length ≤ maxLen) : G39x0 N xs = some (spanD xs) := by
 have hm : maxLen = 9223372036854775807 := rfl
 unfold G39x0 F39x0 spanD
 by_cases h : (xs.length : Int) > 0
 ·have : ((xs.length : Int) == 0) = false := by simp; intro h'; subst h'; simp at h
  rw [decide_eq_true h, this, wrapI (by omega) (by omega), inB_of (by omega) (by omega)]; rfl
 ·have : ((xs.length : Int) == 0) = true := by simp; exact List.eq_nil_of_length_eq_zero (by omega)
  rw [decide_eq_false h, this]; rfl
def lapO (xs : List D) (w : Int) : Bool := bif decide (w > 0) then decide (((xs.getD w.toNat (.i 0)).cell 0).toI < ((xs.getD (w - 1).toNat (.i 0)).cell 1).toI) else false
def lapR (span : Int) (s : D) : Bool := decide ((s.cell 0).toI < 0) || decide ((s.cell 0).toI ≥ (s.cell 1).toI) || decide ((s.cell 1).toI > span)
def lapE (span : Int) (xs : List D) (w : Int) : Int := bif lapR span (xs.getD w.toNat (.i 0)) then 9 else bif lapO xs w then 10 else bif titleB ((xs.getD w.toNat (.i 0)).cell 2).toS then 0 else 8
theorem lap13 (h0 : 0 ≤ w) (h1 : w < xs.length) (hl : xs.length ≤ maxLen) : G58x0x73 N w xs ((xs.getD w.toNat (.i 0)).cell 0).toI = some (lapO xs w) := by
 unfold G58x0x73 F58x0x73 lapO
 by_cases hw : w = 0
 ·subst hw; rfl
 ·obtain ⟨e1, e2⟩ := prev_of h0 h1 hl hw
  rw [decide_eq_true (by omega : w > 0), e1, e2]; rfl
theorem lap59 (h0 : 0 ≤ w) (h1 : w < xs.length) (hl : xs.length ≤ maxLen) : G134x0x13 N w xs ((xs.getD w.toNat (.i 0)).cell 0).toI = some (lapO xs w) := lap13 (N := N) h0 h1 hl
theorem G58x0x60_eq (hN : maxLen < N) (span : Int) (hl : xs.length ≤ maxLen) (hn : ∀ x ∈ xs, (x.cell 2).toS.length ≤ maxLen) : G58x0x60 N span xs xs.length xs 0 = some (wayE (firstE (lapE span xs) 0 xs)) := by
 unfold G58x0x60
 refine (for_ind (.i 0 : D) (S := fun w kr => S58x0x60 N span xs xs.length xs w kr _ _) (L := fun m w => L58x0x60 N span xs xs.length xs m w _ _) (fun m w => rfl) (fun w l => some (wayE (firstE (lapE span xs) w l))) hl ?_ ?_ hN).trans rfl
 ·intro kr; simp [S58x0x60, firstE, wayE]
 ·intro w kr h0 h1 hw hi hk
  have hmem : xs.getD w.toNat (.i 0) ∈ xs := by rw [List.getD_eq_getElem?_getD, List.getElem?_eq_getElem (by omega)]; exact List.getElem_mem _
  simp only [S58x0x60, decide_eq_true h1, _root_.cond_true, hi, bnd_eq, hw, hk, lap13 h0 h1 hl, G124x0_eq hN (hn _ hmem), Option.isSome_some, getD_some, wayE_cons]
  unfold lapE lapR
  generalize xs.getD w.toNat (.i 0) = s
  cases decide ((s.cell 0).toI < 0) <;> cases decide ((s.cell 0).toI ≥ (s.cell 1).toI) <;> cases decide ((s.cell 1).toI > span) <;> cases lapO xs w <;> cases titleB (s.cell 2).toS <;> rfl
theorem G134x0_eq (hN : maxLen < N) {smps : List D} (h0 : 0 ≤ w) (h1 : w < xs.length) (hl : xs.length ≤ maxLen) (hs : smps.length ≤ maxLen) (hn : ∀ x ∈ xs, (x.cell 2).toS.length ≤ maxLen) : G134x0 N smps xs w = some (lapE (spanD smps) xs w) := by
 have hmem : xs.getD w.toNat (.i 0) ∈ xs := by rw [List.getD_eq_getElem?_getD, List.getElem?_eq_getElem (by omega)]; exact List.getElem_mem _
 unfold G134x0 F134x0 G134x0x7 F134x0x7
 simp only [inB_of h0 h1, _root_.cond_true, bnd_eq, G39x0_eq hs, Option.isSome_some, getD_some, lap59 h0 h1 hl, G134x0x21_eq hN (hn _ hmem)]
 unfold lapE lapR titleB
 generalize xs.getD w.toNat (.i 0) = s
 have e3 : decide (((s.cell 2).toS.length : Int) > 60) = !decide ((s.cell 2).toS.length ≤ 60) := by rw [Bool.eq_iff_iff]; simp; omega
 rw [e3]
 cases decide ((s.cell 0).toI < 0) <;> cases decide ((s.cell 0).toI ≥ (s.cell 1).toI) <;> cases decide ((s.cell 1).toI > spanD smps) <;> cases lapO xs w <;> cases (s.cell 2).toS.all (fun c => decide (32 ≤ (c.toNat : Int) ∧ (c.toNat : Int) ≤ 126)) <;> cases decide ((s.cell 2).toS.length ≤ 60) <;> rfl
theorem G69x0x51_eq (hN : maxLen < N) {smps : List D} (hl : xs.length ≤ maxLen) (hs : smps.length ≤ maxLen) (hn : ∀ x ∈ xs, (x.cell 2).toS.length ≤ maxLen) : G69x0x51 N xs.length smps xs 0 = some (wayE (firstE (lapE (spanD smps) xs) 0 xs)) := by
 unfold G69x0x51
 refine (for_ind (.i 0 : D) (S := fun w kr => S69x0x51 N xs.length smps xs w kr _ _) (L := fun m w => L69x0x51 N xs.length smps xs m w _ _) (fun m w => rfl) (fun w l => some (wayE (firstE (lapE (spanD smps) xs) w l))) hl ?_ ?_ hN).trans rfl
 ·intro kr; simp [S69x0x51, firstE, wayE]
 ·intro w kr h0 h1 hw hi hk
  simp only [S69x0x51, decide_eq_true h1, _root_.cond_true, bnd_eq, hw, hk, G134x0_eq hN h0 h1 hl hs hn, Option.isSome_some, getD_some, wayE_cons]
  cases lapE (spanD smps) xs w != 0 <;> rfl
def leS (a b : List UInt8) : Bool := Op.bytesLess a b || a == b
def tagO (xs : List D) (w : Int) : Bool := bif decide (w > 0) then leS (xs.getD w.toNat (.i 0)).toS (xs.getD (w - 1).toNat (.i 0)).toS else false
def tagE (xs : List D) (w : Int) : Int := bif nameB (xs.getD w.toNat (.i 0)).toS then (bif tagO xs w then 10 else 0) else 8
theorem tag_in (h0 : 0 ≤ w) (h1 : w < xs.length) (hl : xs.length ≤ maxLen) : (bif (inB (IntKind.wrap .i64 (w - 1)) xs.length) then true else (!((decide (w > 0)) == true))) = true ∧ (bif (decide (w > 0)) then ((Op.bytesLess (xs.getD w.toNat (.i 0)).toS (xs.getD (IntKind.wrap .i64 (w - 1)).toNat (.i 0)).toS) || ((xs.getD w.toNat (.i 0)).toS == (xs.getD (IntKind.wrap .i64 (w - 1)).toNat (.i 0)).toS)) else false) = tagO xs w := by
 unfold tagO leS
 by_cases hw : w = 0
 ·subst hw
  rw [decide_eq_false (by omega : ¬ ((0 : Int) > 0))]
  refine ⟨?_, rfl⟩
  cases inB (IntKind.wrap .i64 (0 - 1)) xs.length <;> rfl
 ·obtain ⟨e1, e2⟩ := prev_of h0 h1 hl hw
  rw [decide_eq_true (by omega : w > 0), e1, e2]
  exact ⟨rfl, rfl⟩
theorem G58x0x90_eq (hN : maxLen < N) (hl : xs.length ≤ maxLen) (hn : ∀ x ∈ xs, x.toS.length ≤ maxLen) : G58x0x90 N xs xs.length xs 0 = some (wayE (firstE (tagE xs) 0 xs)) := by
 unfold G58x0x90
 refine (for_ind (.i 0 : D) (S := fun w kr => S58x0x90 N xs xs.length xs w kr _ _) (L := fun m w => L58x0x90 N xs xs.length xs m w _ _) (fun m w => rfl) (fun w l => some (wayE (firstE (tagE xs) w l))) hl ?_ ?_ hN).trans rfl
 ·intro kr; simp [S58x0x90, firstE, wayE]
 ·intro w kr h0 h1 hw hi hk
  have hmem : xs.getD w.toNat (.i 0) ∈ xs := by rw [List.getD_eq_getElem?_getD, List.getElem?_eq_getElem (by omega)]; exact List.getElem_mem _
  obtain ⟨t1, t2⟩ := tag_in h0 h1 hl
  simp only [S58x0x90, decide_eq_true h1, _root_.cond_true, hi, bnd_eq, hw, hk, G122x0_eq hN (hn _ hmem), Option.isSome_some, getD_some, wayE_cons, t2]
  unfold tagE
  rw [t1]
  cases nameB (xs.getD w.toNat (.i 0)).toS <;> cases tagO xs w <;> rfl
theorem G69x0x72_eq (hN : maxLen < N) (hl : xs.length ≤ maxLen) (hn : ∀ x ∈ xs, x.toS.length ≤ maxLen) : G69x0x72 N xs xs.length xs 0 = some (wayE (firstE (tagE xs) 0 xs)) := by
 unfold G69x0x72
 refine (for_ind (.i 0 : D) (S := fun w kr => S69x0x72 N xs xs.length xs w kr _ _) (L := fun m w => L69x0x72 N xs xs.length xs m w _ _) (fun m w => rfl) (fun w l => some (wayE (firstE (tagE xs) w l))) hl ?_ ?_ hN).trans rfl
 ·intro kr; simp [S69x0x72, firstE, wayE]
 ·intro w kr h0 h1 hw hi hk
  have hmem : xs.getD w.toNat (.i 0) ∈ xs := by rw [List.getD_eq_getElem?_getD, List.getElem?_eq_getElem (by omega)]; exact List.getElem_mem _
  obtain ⟨t1, t2⟩ := tag_in h0 h1 hl
  simp only [S69x0x72, decide_eq_true h1, _root_.cond_true, hi, bnd_eq, hw, hk, G131x0_eq hN (hn _ hmem), Option.isSome_some, getD_some, wayE_cons, t2]
  unfold tagE
  rw [t1]
  cases nameB (xs.getD w.toNat (.i 0)).toS <;> cases tagO xs w <;> rfl
end
def chkA (name : List UInt8) (sport start : Int) (smps laps tags : List D) : Int :=
 bif !nameB name then 8 else bif !inI sport 1 5 then 7 else bif !inI start 0 86399999999 then 9 else
 bif decide ((smps.length : Int) > 20000) || decide ((laps.length : Int) > 200) || decide ((tags.length : Int) > 20) then 3 else
 bif firstE (smpE start smps) 0 smps != 0 then firstE (smpE start smps) 0 smps else
 bif firstE (lapE (spanD smps) laps) 0 laps != 0 then firstE (lapE (spanD smps) laps) 0 laps else firstE (tagE tags) 0 tags
structure ActOk (name : List UInt8) (smps laps tags : List D) : Prop where
 n : name.length ≤ maxLen
 s : smps.length ≤ maxLen
 l : laps.length ≤ maxLen
 t : tags.length ≤ maxLen
 ln : ∀ x ∈ laps, (x.cell 2).toS.length ≤ maxLen
 tn : ∀ x ∈ tags, x.toS.length ≤ maxLen
theorem way_do {α : Type} (n : Int) (k0 : Int → α) (k1 : α) (z : α) : (bif inlB (some (wayE n)) then k0 (inlV (some (wayE n))) else bif (inrQ (some (wayE n))).isSome then k1 else z) = bif n != 0 then k0 n else k1 := by
 unfold wayE
 cases n != 0 <;> rfl
section
variable {name : List UInt8} {sport start : Int} {smps laps tags : List D}
theorem G58x0_eq (hN : maxLen < N) (h : ActOk name smps laps tags) : G58x0 N name sport start smps laps tags = some (chkA name sport start smps laps tags) := by
 unfold G58x0 F58x0
 simp only [bnd_eq, G122x0_eq hN h.n, Option.isSome_some, _root_.cond_true, getD_some, V115x0_eq, G58x0x30_eq hN start h.s, G37x0_eq h.s, G58x0x60_eq hN _ h.l h.ln, G58x0x90_eq hN h.t h.tn, way_do]
 unfold chkA
 cases nameB name <;> cases inI sport 1 5 <;> cases inI start 0 86399999999 <;> cases decide ((smps.length : Int) > 20000) <;> cases decide ((laps.length : Int) > 200) <;> cases decide ((tags.length : Int) > 20) <;> try rfl
 cases firstE (smpE start smps) 0 smps != 0 <;> cases firstE (lapE (spanD smps) laps) 0 laps != 0 <;> cases h3 : firstE (tagE tags) 0 tags != 0 <;> first | rfl | (simp only [bne_eq_false_iff_eq] at h3; simp [h3])
theorem G69x0_eq (hN : maxLen < N) (h : ActOk name smps laps tags) : G69x0 N name sport start smps laps tags = some (chkA name sport start smps laps tags) := by
 unfold G69x0 F69x0
 simp only [bnd_eq, G131x0_eq hN h.n, Option.isSome_some, _root_.cond_true, getD_some, V132x0_eq, G69x0x30_eq hN start h.s, G69x0x51_eq hN h.l h.s h.ln, G69x0x72_eq hN h.t h.tn, way_do]
 unfold chkA
 cases nameB name <;> cases inI sport 1 5 <;> cases inI start 0 86399999999 <;> cases decide ((smps.length : Int) > 20000) <;> cases decide ((laps.length : Int) > 200) <;> cases decide ((tags.length : Int) > 20) <;> try rfl
 cases firstE (smpE start smps) 0 smps != 0 <;> cases firstE (lapE (spanD smps) laps) 0 laps != 0 <;> cases h3 : firstE (tagE tags) 0 tags != 0 <;> first | rfl | (simp only [bne_eq_false_iff_eq] at h3; simp [h3])
end
end Go.Proofs.YtngnemeafkmaoaaGreat

namespace Go.Proofs.YtngnemeafkmaoaaGreat
open Go Go.AM
set_option maxRecDepth 100000
set_option maxHeartbeats 4000000
variable {N : Nat}
def zipAll (f : D → D → Bool) : List D → List D → Bool
 | x :: r, y :: s => f x y && zipAll f r s
 | _, _ => true
def eqL (f : D → D → Bool) (xs ys : List D) : Bool := (xs.length == ys.length) && zipAll f xs ys
theorem zip_ind {xs ys : List D} (f : D → D → Bool) {S : Int → (Int → Option (Sum Unit Unit)) → Option (Sum Unit Unit)} {L : Nat → Int → Option (Sum Unit Unit)} (hL : ∀ m a, L (m + 1) a = S a (L m)) (hlen : xs.length ≤ maxLen) (hxy : xs.length = ys.length)
  (hend : ∀ kr, S xs.length kr = some (.inr ()))
  (hstep : ∀ (w : Int) (kr : Int → Option (Sum Unit Unit)), decide (w < xs.length) = true → inB w xs.length = true → inB w ys.length = true → S w kr = bif f (xs.getD w.toNat (.i 0)) (ys.getD w.toNat (.i 0)) then kr (IntKind.wrap .i64 (w + 1)) else some (.inl ()))
  (hN : maxLen < N) : L N 0 = some (bif zipAll f xs ys then .inr () else .inl ()) := by
 refine (for_ind (.i 0 : D) hL (fun w l => some (bif zipAll f l (ys.drop w.toNat) then .inr () else .inl ())) hlen ?_ ?_ hN).trans (by simp)
 ·intro kr; rw [hend]; simp [zipAll]
 ·intro w kr h0 h1 hw hi hk
  have h2 : w < ys.length := by omega
  rw [hstep w kr (decide_eq_true h1) hi (inB_of h0 (by omega)), hw, hk, drop_at (.i 0) (xs := ys) h0 h2]
  simp only [zipAll]
  cases f (xs.getD w.toNat (.i 0)) (ys.getD w.toNat (.i 0)) <;> rfl
def eqSm (x y : D) : Bool := ((x.cell 0).toI == (y.cell 0).toI) && (((x.cell 1).toI == (y.cell 1).toI) && (((x.cell 2).toI == (y.cell 2).toI) && (((x.cell 3).toI == (y.cell 3).toI) && (((x.cell 4).toI == (y.cell 4).toI) && (((x.cell 5).toI == (y.cell 5).toI) && (((x.cell 6).toI == (y.cell 6).toI) && true))))))
def eqLp (x y : D) : Bool := ((x.cell 0).toI == (y.cell 0).toI) && (((x.cell 1).toI == (y.cell 1).toI) && (((x.cell 2).toS == (y.cell 2).toS) && true))
def eqSt (x y : D) : Bool := x.toS == y.toS
section
variable {xs ys : List D}
theorem len_bne : ((xs.length : Int) != (ys.length : Int)) = !(xs.length == ys.length) := by
 rw [Bool.eq_iff_iff]; simp; omega
theorem G24x0x12_eq (hN : maxLen < N) (hl : xs.length ≤ maxLen) (h : xs.length = ys.length) : G24x0x12 N xs.length xs ys 0 = some (bif zipAll eqSm xs ys then .inr () else .inl ()) := by
 unfold G24x0x12
 refine zip_ind eqSm (S := fun w kr => S24x0x12 N xs.length xs ys w kr _ _) (L := fun m w => L24x0x12 N xs.length xs ys m w _ _) (fun m w => rfl) hl h (fun kr => by simp [S24x0x12]) (fun w kr h1 h2 h3 => ?_) hN
 unfold S24x0x12
 rw [h1, h2, h3]
 show (bif !(eqSm _ _) then _ else _) = _
 cases eqSm (xs.getD w.toNat (.i 0)) (ys.getD w.toNat (.i 0)) <;> rfl
theorem G24x0x30_eq (hN : maxLen < N) (hl : xs.length ≤ maxLen) (h : xs.length = ys.length) : G24x0x30 N xs.length xs ys 0 = some (bif zipAll eqLp xs ys then .inr () else .inl ()) := by
 unfold G24x0x30
 refine zip_ind eqLp (S := fun w kr => S24x0x30 N xs.length xs ys w kr _ _) (L := fun m w => L24x0x30 N xs.length xs ys m w _ _) (fun m w => rfl) hl h (fun kr => by simp [S24x0x30]) (fun w kr h1 h2 h3 => ?_) hN
 unfold S24x0x30
 rw [h1, h2, h3]
 show (bif !(eqLp _ _) then _ else _) = _
 cases eqLp (xs.getD w.toNat (.i 0)) (ys.getD w.toNat (.i 0)) <;> rfl
theorem G24x0x48_eq (hN : maxLen < N) (hl : xs.length ≤ maxLen) (h : xs.length = ys.length) : G24x0x48 N xs.length xs ys 0 = some (bif zipAll eqSt xs ys then .inr () else .inl ()) := by
 unfold G24x0x48
 refine zip_ind eqSt (S := fun w kr => S24x0x48 N xs.length xs ys w kr _ _) (L := fun m w => L24x0x48 N xs.length xs ys m w _ _) (fun m w => rfl) hl h (fun kr => by simp [S24x0x48]) (fun w kr h1 h2 h3 => ?_) hN
 unfold S24x0x48
 rw [h1, h2, h3]
 show (bif !(eqSt _ _) then _ else _) = _
 cases eqSt (xs.getD w.toNat (.i 0)) (ys.getD w.toNat (.i 0)) <;> rfl
end
def sameA (n : List UInt8) (sp st : Int) (s l t : List D) (n' : List UInt8) (sp' st' : Int) (s' l' t' : List D) : Bool :=
 (n == n') && (sp == sp') && (st == st') && eqL eqSm s s' && eqL eqLp l l' && eqL eqSt t t'
section
variable {n n' : List UInt8} {sp st sp' st' : Int} {s l t s' l' t' : List D}
theorem G24x0_eq (hN : maxLen < N) (hs : s.length ≤ maxLen) (hl : l.length ≤ maxLen) (ht : t.length ≤ maxLen) : G24x0 N n sp st s l t n' sp' st' s' l' t' = some (sameA n sp st s l t n' sp' st' s' l' t') := by
 unfold G24x0 F24x0
 have e1 : (sp != sp') = !(sp == sp') := rfl
 have e2 : (st != st') = !(st == st') := rfl
 simp only [bnd_eq, len_bne, e1, e2]
 unfold sameA eqL
 cases h1 : (s.length == s'.length) with
 | false => cases n == n' <;> cases sp == sp' <;> cases st == st' <;> rfl
 | true =>
 cases h2 : (l.length == l'.length) with
 | false => cases n == n' <;> cases sp == sp' <;> cases st == st' <;> cases zipAll eqSm s s' <;> rfl
 | true =>
 cases h3 : (t.length == t'.length) with
 | false => cases n == n' <;> cases sp == sp' <;> cases st == st' <;> cases zipAll eqSm s s' <;> cases zipAll eqLp l l' <;> rfl
 | true =>
 rw [G24x0x12_eq hN hs (by simpa using h1), G24x0x30_eq hN hl (by simpa using h2), G24x0x48_eq hN ht (by simpa using h3)]
 cases n == n' <;> cases sp == sp' <;> cases st == st' <;> cases zipAll eqSm s s' <;> cases zipAll eqLp l l' <;> cases zipAll eqSt t t' <;> rfl
theorem zipAll_refl {f : D → D → Bool} (hf : ∀ x, f x x = true) : ∀ l, zipAll f l l = true
 | [] => rfl
 | x :: r => by simp only [zipAll, hf, zipAll_refl hf r, Bool.and_self]
theorem eqL_refl {f : D → D → Bool} (hf : ∀ x, f x x = true) (l : List D) : eqL f l l = true := by
 unfold eqL; rw [zipAll_refl hf]; simp
theorem sameA_refl : sameA n sp st s l t n sp st s l t = true := by
 unfold sameA
 rw [eqL_refl (fun x => by simp [eqSm]), eqL_refl (fun x => by simp [eqLp]), eqL_refl (fun x => by simp [eqSt])]
 simp
end
end Go.Proofs.YtngnemeafkmaoaaGreat

namespace Go.Proofs.YtngnemeafkmaoaaGreat
open Go Go.AM
set_option maxRecDepth 100000
set_option maxHeartbeats 4000000
variable {N : Nat}
theorem loop_indE {A X : Type} {S : A → (A → X) → X} {L : Nat → A → X} (hL : ∀ m a, L (m + 1) a = S a (L m)) (P : A → X → Prop) (Inv : A → Prop) (μ : A → Nat)
  (h : ∀ a kr, Inv a → (∀ a', Inv a' → μ a' < μ a → P a' (kr a')) → P a (S a kr)) : ∀ (m : Nat) (a : A), Inv a → μ a < m → P a (L m a) := by
 intro m
 induction m with
 | zero => intro a _ h; omega
 | succ m ih => intro a ha hm; rw [hL]; exact h a (L m) ha fun a' h1 h2 => ih a' h1 (by omega)
def fN (f : D) : Int := (f.cell 0).toI
def fS (f : D) : Int := (f.cell 1).toI
def fT (f : D) : Int := (f.cell 2).toI
def isT (f : D) : Bool := (fN f == 253) && (fT f == 0) && (fS f == 4)
def hasN (n : Int) (l : List D) : Bool := l.any fun f => fN f == n
def fldE (fs : List D) (w : Int) : Int :=
 bif !(inI (fN (fs.getD w.toNat (.i 0))) 0 255) || !(inI (fS (fs.getD w.toNat (.i 0))) 1 255) then 9 else bif !inI (fT (fs.getD w.toNat (.i 0))) 0 3 then 7 else
 bif decide (fT (fs.getD w.toNat (.i 0)) ≤ 1) && (fS (fs.getD w.toNat (.i 0)) != 1) && (fS (fs.getD w.toNat (.i 0)) != 2) && (fS (fs.getD w.toNat (.i 0)) != 4) then 2 else
 bif hasN (fN (fs.getD w.toNat (.i 0))) (fs.take w.toNat) then 5 else 0
def defE (g : Int) (fs : List D) : Int := bif !inI g 0 65535 then 9 else bif decide ((fs.length : Int) > 30) then 3 else firstE (fldE fs) 0 fs
theorem G211x0_eq (hN : maxLen < N) {xs : List D} {n : Int} (hs : xs.length ≤ maxLen) : ∃ i : Int, G211x0 N xs n = some i ∧ decide (i ≥ 0) = hasN n xs := by
 have h : G211x0x6 N xs xs.length n 0 = some (match xs.findIdx? fun d => fN d == n with | some j => .inl (j : Int) | none => .inr ()) := by
  unfold G211x0x6
  refine (for_ind (.i 0 : D) (S := fun w kr => S211x0x6 N xs xs.length n w kr _ _) (L := fun m w => L211x0x6 N xs xs.length n m w _ _) (fun m w => rfl) (fun w l => some (match l.findIdx? fun d => fN d == n with | some j => .inl (w + (j : Int)) | none => .inr ())) hs ?_ ?_ hN).trans (by simp)
  ·intro kr; simp [S211x0x6]
  ·intro w kr h0 h1 hw hi hk
   simp only [S211x0x6, V194x0, F194x0, decide_eq_true h1, _root_.cond_true, hi, bnd_eq, hw, hk, List.findIdx?_cons]
   show (bif (fN (xs.getD w.toNat (.i 0)) == n) then _ else _) = _
   cases fN (xs.getD w.toNat (.i 0)) == n with
   | true => simp
   | false =>
    simp only [_root_.cond_false, Bool.false_eq_true, if_false]
    cases (xs.drop (w + 1).toNat).findIdx? fun d => fN d == n with
    | none => rfl
    | some j => simp; omega
 unfold G211x0 F211x0
 rw [h]
 have hl : hasN n xs = (xs.findIdx? fun d => fN d == n).isSome := by
  rw [List.findIdx?_isSome]; rfl
 rw [hl]
 cases xs.findIdx? fun d => fN d == n with
 | none => exact ⟨-1, rfl, rfl⟩
 | some j => exact ⟨j, rfl, by simp⟩
theorem G193x0_eq (hN : maxLen < N) {xs : List D} {n : Int} (hs : xs.length ≤ maxLen) : G193x0 N xs n = some (hasN n xs) := by
 obtain ⟨i, h1, h2⟩ := G211x0_eq hN (n := n) hs
 unfold G193x0 F193x0
 rw [h1]
 simp only [bnd_eq, Option.isSome_some, _root_.cond_true, getD_some, h2]
theorem G168x0x45_eq (hN : maxLen < N) {xs : List D} {n : Int} (hs : xs.length ≤ maxLen) : G168x0x45 N xs xs.length n 0 = some (bif hasN n xs then .inl () else .inr ()) := by
 unfold G168x0x45
 refine (for_ind (.i 0 : D) (S := fun w kr => S168x0x45 N xs xs.length n w kr _ _) (L := fun m w => L168x0x45 N xs xs.length n m w _ _) (fun m w => rfl) (fun _ l => some (bif hasN n l then .inl () else .inr ())) hs ?_ ?_ hN).trans rfl
 ·intro kr; simp [S168x0x45, hasN]
 ·intro w kr h0 h1 hw hi hk
  simp only [S168x0x45, decide_eq_true h1, _root_.cond_true, hi, hw, hk, hasN, List.any_cons]
  show (bif (fN (xs.getD w.toNat (.i 0)) == n) then _ else _) = _
  cases fN (xs.getD w.toNat (.i 0)) == n <;> rfl
section
variable {fs : List D} {w : Int}
theorem take_ok (h0 : 0 ≤ w) (h1 : w < fs.length) : (decide (0 ≤ w) && decide (w ≤ (fs.length : Int))) = true := by
 rw [decide_eq_true h0, decide_eq_true (by omega)]; rfl
theorem G163x0x18_eq (hN : maxLen < N) (hl : fs.length ≤ maxLen) : G163x0x18 N fs fs.length fs 0 = some (wayE (firstE (fldE fs) 0 fs)) := by
 unfold G163x0x18
 refine (for_ind (.i 0 : D) (S := fun w kr => S163x0x18 N fs fs.length fs w kr _ _) (L := fun m w => L163x0x18 N fs fs.length fs m w _ _) (fun m w => rfl) (fun w l => some (wayE (firstE (fldE fs) w l))) hl ?_ ?_ hN).trans rfl
 ·intro kr; simp [S163x0x18, firstE, wayE]
 ·intro w kr h0 h1 hw hi hk
  have hm := G193x0_eq hN (xs := fs.take w.toNat) (n := fN (fs.getD w.toNat (.i 0))) (by simp; omega)
  simp only [S163x0x18, decide_eq_true h1, _root_.cond_true, hi, bnd_eq, hw, hk, take_ok h0 h1, List.drop_zero, V163x0x28, F163x0x28, V115x0_eq, wayE_cons]
  rw [show (((fs.getD w.toNat (.i 0)).cell 0).toI) = fN (fs.getD w.toNat (.i 0)) from rfl, hm]
  unfold fldE
  generalize hasN (fN (fs.getD w.toNat (.i 0))) (fs.take w.toNat) = hh
  generalize fs.getD w.toNat (.i 0) = f
  rw [show ((f.cell 1).toI) = fS f from rfl, show ((f.cell 2).toI) = fT f from rfl]
  simp only [Option.isSome_some, getD_some, _root_.cond_true]
  cases inI (fN f) 0 255 <;> try rfl
  cases inI (fS f) 1 255 <;> try rfl
  cases h3 : inI (fT f) 0 3 <;> try rfl
  have e : (bif fT f == 0 then true else fT f == 1) = decide (fT f ≤ 1) := by
   unfold inI at h3
   rw [Bool.eq_iff_iff]; simp at h3 ⊢
   by_cases h : fT f = 0 <;> simp [h] <;> omega
  rw [e]
  cases decide (fT f ≤ 1) <;> cases (fS f != 1) <;> cases (fS f != 2) <;> cases (fS f != 4) <;> cases hh <;> rfl
theorem G168x0x18_eq (hN : maxLen < N) (hl : fs.length ≤ maxLen) : G168x0x18 N fs fs.length fs 0 = some (wayE (firstE (fldE fs) 0 fs)) := by
 unfold G168x0x18
 refine (for_ind (.i 0 : D) (S := fun w kr => S168x0x18 N fs fs.length fs w kr _ _) (L := fun m w => L168x0x18 N fs fs.length fs m w _ _) (fun m w => rfl) (fun w l => some (wayE (firstE (fldE fs) w l))) hl ?_ ?_ hN).trans rfl
 ·intro kr; simp [S168x0x18, firstE, wayE]
 ·intro w kr h0 h1 hw hi hk
  have hm := G168x0x45_eq hN (xs := fs.take w.toNat) (n := fN (fs.getD w.toNat (.i 0))) (by simp; omega)
  simp only [S168x0x18, decide_eq_true h1, _root_.cond_true, hi, bnd_eq, hw, hk, take_ok h0 h1, List.drop_zero, V168x0x25, F168x0x25, V132x0_eq, wayE_cons]
  rw [show (((fs.getD w.toNat (.i 0)).cell 0).toI) = fN (fs.getD w.toNat (.i 0)) from rfl, hm]
  unfold fldE
  generalize hasN (fN (fs.getD w.toNat (.i 0))) (fs.take w.toNat) = hh
  generalize fs.getD w.toNat (.i 0) = f
  rw [show ((f.cell 1).toI) = fS f from rfl, show ((f.cell 2).toI) = fT f from rfl]
  cases inI (fN f) 0 255 <;> cases inI (fS f) 1 255 <;> cases inI (fT f) 0 3 <;> try rfl
  cases decide (fT f ≤ 1) <;> cases (fS f != 1) <;> cases (fS f != 2) <;> cases (fS f != 4) <;> cases hh <;> rfl
theorem G163x0_eq (hN : maxLen < N) (g : Int) (hl : fs.length ≤ maxLen) : G163x0 N g fs = some (defE g fs) := by
 unfold G163x0 F163x0 defE
 simp only [bnd_eq, V115x0_eq, G163x0x18_eq hN hl, way_do]
 cases inI g 0 65535 <;> cases decide ((fs.length : Int) > 30) <;> try rfl
 cases h : firstE (fldE fs) 0 fs != 0 <;> first | rfl | (simp only [bne_eq_false_iff_eq] at h; simp [h])
theorem G168x0_eq (hN : maxLen < N) (g : Int) (hl : fs.length ≤ maxLen) : G168x0 N g fs = some (defE g fs) := by
 unfold G168x0 F168x0 defE
 simp only [bnd_eq, V132x0_eq, G168x0x18_eq hN hl, way_do]
 cases inI g 0 65535 <;> cases decide ((fs.length : Int) > 30) <;> try rfl
 cases h : firstE (fldE fs) 0 fs != 0 <;> first | rfl | (simp only [bne_eq_false_iff_eq] at h; simp [h])
end
structure FldsOk (fs : List D) : Prop where
 len : fs.length ≤ 255
 size : ∀ f ∈ fs, 0 ≤ fS f ∧ fS f ≤ 255
theorem firstE_zero {e : Int → Int} : ∀ {l : List D} {w : Int}, firstE e w l = 0 → ∀ i : Nat, i < l.length → e (w + i) = 0
 | [], w, _, i, hi => by simp at hi
 | x :: r, w, h, i, hi => by
  simp only [firstE] at h
  cases he : e w != 0 with
  | true =>
   rw [he] at h
   simp only [_root_.cond_true] at h
   rw [h] at he
   simp at he
  | false =>
   rw [he] at h
   cases i with
   | zero => simpa using he
   | succ i =>
    have := firstE_zero (l := r) (w := w + 1) h i (by simpa using hi)
    rw [show w + ((i + 1 : Nat) : Int) = w + 1 + (i : Int) by omega]
    exact this
theorem defE_ok {g : Int} {fs : List D} (h : defE g fs = 0) : FldsOk fs := by
 unfold defE at h
 cases h1 : inI g 0 65535 with
 | false => rw [h1] at h; exact absurd (show (9 : Int) = 0 from h) (by decide)
 | true =>
  rw [h1] at h
  cases h2 : decide ((fs.length : Int) > 30) with
  | true => rw [h2] at h; exact absurd (show (3 : Int) = 0 from h) (by decide)
  | false =>
   rw [h2] at h
   simp only [Bool.not_true, _root_.cond_false] at h
   refine ⟨by simp at h2; omega, fun f hf => ?_⟩
   obtain ⟨i, hi, rfl⟩ := List.getElem_of_mem hf
   have := firstE_zero h i hi
   rw [Int.zero_add] at this
   unfold fldE at this
   have hg : fs.getD ((i : Int)).toNat (.i 0) = fs[i] := by
    rw [List.getD_eq_getElem?_getD, Int.toNat_natCast, List.getElem?_eq_getElem hi]; rfl
   rw [hg] at this
   cases h3 : inI (fS fs[i]) 1 255 with
   | false =>
    rw [h3] at this
    cases inI (fN fs[i]) 0 255 <;> exact absurd (show (9 : Int) = 0 from by simpa using this) (by decide)
   | true => unfold inI at h3; simp at h3; omega
def szL : List D → Int
 | [] => 0
 | f :: r => fS f + szL r
def tmL : Int → List D → Int
 | _, [] => -1
 | a, f :: r => bif isT f then a else tmL (a + fS f) r
def flds : Bool → List D → List D
 | _, [] => []
 | t, f :: r => bif t && isT f then flds false r else .a [.i (fN f), .i (fS f), .i (fT f)] :: flds t r
theorem szL_bound : ∀ {fs : List D}, (∀ f ∈ fs, 0 ≤ fS f ∧ fS f ≤ 255) → 0 ≤ szL fs ∧ szL fs ≤ 255 * fs.length
 | [], _ => by simp [szL]
 | f :: r, h => by
  have h1 := h f (by simp)
  have h2 := szL_bound (fs := r) fun x hx => h x (by simp [hx])
  simp only [szL, List.length_cons]
  omega
theorem tmL_bound : ∀ {fs : List D} {a : Int}, 0 ≤ a → (∀ f ∈ fs, 0 ≤ fS f ∧ fS f ≤ 255) → (tmL a fs = -1 ∨ a ≤ tmL a fs ∧ tmL a fs + 4 ≤ a + szL fs)
 | [], _, _, _ => .inl rfl
 | f :: r, a, ha, h => by
  have h1 := h f (by simp)
  simp only [tmL, szL]
  cases ht : isT f with
  | true =>
   have h2 := szL_bound (fs := r) fun x hx => h x (by simp [hx])
   have h3 : fS f = 4 := by unfold isT at ht; simp at ht; exact ht.2
   right; simp only [_root_.cond_true]; omega
  | false =>
   simp only [_root_.cond_false]
   rcases tmL_bound (fs := r) (a := a + fS f) (by omega) (fun x hx => h x (by simp [hx])) with h2 | h2
   ·exact .inl h2
   ·right; omega
theorem szL_flds_false : ∀ fs : List D, szL (flds false fs) = szL fs
 | [] => rfl
 | f :: r => by simp only [flds, Bool.false_and, _root_.cond_false, szL, szL_flds_false r]; rfl
theorem szL_flds : ∀ {fs : List D} {a : Int}, 0 ≤ a → (∀ f ∈ fs, 0 ≤ fS f ∧ fS f ≤ 255) → (tmL a fs < 0 → szL (flds true fs) = szL fs) ∧ (0 ≤ tmL a fs → szL (flds true fs) = szL fs - 4)
 | [], _, _, _ => ⟨fun _ => rfl, fun h => absurd (show (0 : Int) ≤ -1 from h) (by decide)⟩
 | f :: r, a, ha, h => by
  have h1 := h f (by simp)
  have e : fS (.a [.i (fN f), .i (fS f), .i (fT f)]) = fS f := rfl
  cases ht : isT f with
  | true =>
   have h3 : fS f = 4 := by unfold isT at ht; simp at ht; exact ht.2
   simp only [flds, tmL, szL, ht, Bool.and_self, _root_.cond_true, szL_flds_false]
   constructor <;> intro h4 <;> omega
  | false =>
   have h5 := szL_flds (fs := r) (a := a + fS f) (by omega) fun x hx => h x (by simp [hx])
   simp only [flds, tmL, szL, ht, Bool.and_false, _root_.cond_false, e]
   exact ⟨fun h4 => by rw [h5.1 h4], fun h4 => by rw [h5.2 h4]; omega⟩
section
variable {fs : List D}
theorem getD_mem {w : Int} (h0 : 0 ≤ w) (h1 : w < fs.length) : fs.getD w.toNat (.i 0) ∈ fs := by
 rw [List.getD_eq_getElem?_getD, List.getElem?_eq_getElem (by omega)]; exact List.getElem_mem _
theorem isT_eq (f : D) : (bif (bif ((f.cell 0).toI == 253) then ((f.cell 2).toI == 0) else false) then ((f.cell 1).toI == 4) else false) = isT f := by
 unfold isT fN fT fS
 cases (f.cell 0).toI == 253 <;> cases (f.cell 2).toI == 0 <;> rfl
theorem V167x0_eq (f : D) : V167x0 N (f.cell 0).toI (f.cell 1).toI (f.cell 2).toI = isT f := isT_eq f
theorem G116x0_eq (hN : maxLen < N) (h : FldsOk fs) : G116x0 N fs = some (szL fs, tmL 0 fs) := by
 have hm : maxLen = 9223372036854775807 := rfl
 have hl := h.len
 have key := loop_ind (A := Int × Int × Int) (X := Option (Int × Int)) (S := fun x kr => S116x0x9 N fs fs.length x.1 x.2.1 x.2.2 (fun a b c => kr (a, b, c)) (fun p => some p)) (L := fun m x => L116x0x9 N fs fs.length m x.1 x.2.1 x.2.2 (fun p => some p)) (fun m x => rfl)
  (fun x => some (x.2.1 + szL (fs.drop x.1.toNat), bif decide (x.2.2 < 0) then tmL x.2.1 (fs.drop x.1.toNat) else x.2.2)) (fun x => 0 ≤ x.1 ∧ x.1 ≤ fs.length ∧ 0 ≤ x.2.1 ∧ x.2.1 ≤ 255 * x.1 ∧ -1 ≤ x.2.2) (fun x => (fs.length - x.1).toNat) ?_ N (0, 0, -1) ⟨by decide, by show (0 : Int) ≤ _; omega, by decide, by decide, by decide⟩ (by simp; omega)
 ·have k2 : G116x0x9 N fs fs.length 0 0 (-1) = some (szL fs, tmL 0 fs) := by
   refine Eq.trans key ?_
   simp
  unfold G116x0 F116x0
  rw [k2]; rfl
 ·rintro ⟨w, sz, t⟩ kr ⟨h0, h1, h2, h3, h4⟩ ih
  simp only at h0 h1 h2 h3 h4 ih ⊢
  unfold S116x0x9
  by_cases hw : w < fs.length
  ·have hf := h.size _ (getD_mem h0 hw)
   rw [decide_eq_true hw, inB_of h0 hw, drop_at (.i 0) h0 hw]
   simp only [_root_.cond_true, bnd_eq, V116x0x20, F116x0x20]
   rw [isT_eq]
   have e1 : ((fs.getD w.toNat (.i 0)).cell 1).toI = fS (fs.getD w.toNat (.i 0)) := rfl
   rw [e1, wrapI (x := sz + _) (by omega) (by omega), wrapI (x := w + 1) (by omega) (by omega)]
   rw [ih (w + 1, _, _) ⟨by omega, by omega, by simp only; omega, by simp only; omega, by simp only; cases isT (fs.getD w.toNat (.i 0)) <;> cases decide (t < 0) <;> simp <;> omega⟩ (by simp only; omega)]
   simp only [szL, tmL]
   cases ht : isT (fs.getD w.toNat (.i 0)) with
   | true =>
    by_cases hneg : t < 0
    ·simp only [decide_eq_true hneg, _root_.cond_true, decide_eq_false (show ¬ sz < 0 by omega), _root_.cond_false, Option.some.injEq, Prod.mk.injEq, and_true]; omega
    ·simp only [decide_eq_false hneg, _root_.cond_true, _root_.cond_false, Option.some.injEq, Prod.mk.injEq, and_true]; omega
   | false =>
    simp only [_root_.cond_false, Option.some.injEq, Prod.mk.injEq]
    refine ⟨by omega, ?_⟩
    by_cases hneg : t < 0 <;> simp [hneg]
  ·have : w = fs.length := by omega
   subst this
   rw [decide_eq_false hw, drop_end (by omega)]
   simp only [_root_.cond_false, szL, tmL, Int.add_zero, Option.some.injEq, Prod.mk.injEq, true_and]
   by_cases ht : t < 0
   ·rw [decide_eq_true ht]; simp only [_root_.cond_true]; omega
   ·rw [decide_eq_false ht]; rfl
def tmW (n : Int) : Sum Int Unit := bif decide (n < 0) then .inr () else .inl n
theorem G126x0_eq (hN : maxLen < N) (h : FldsOk fs) : G126x0 N fs = some (bif decide (tmL 0 fs < 0) then (0, false) else (tmL 0 fs, true)) := by
 have hm : maxLen = 9223372036854775807 := rfl
 have hl := h.len
 have key := loop_ind (A := Int × Int) (X := Option (Sum Int Unit)) (S := fun x kr => S126x0x9 N fs fs.length x.1 x.2 (fun a b => kr (a, b)) (fun p => some (.inl p)) (fun p => some (.inr p))) (L := fun m x => L126x0x9 N fs fs.length m x.1 x.2 (fun p => some (.inl p)) (fun p => some (.inr p))) (fun m x => rfl)
  (fun x => some (tmW (tmL x.1 (fs.drop x.2.toNat)))) (fun x => 0 ≤ x.2 ∧ x.2 ≤ fs.length ∧ 0 ≤ x.1 ∧ x.1 ≤ 255 * x.2) (fun x => (fs.length - x.2).toNat) ?_ N (0, 0) ⟨by decide, by show (0 : Int) ≤ _; omega, by decide, by decide⟩ (by simp; omega)
 ·have k2 : G126x0x9 N fs fs.length 0 0 = some (tmW (tmL 0 fs)) := by
   refine Eq.trans key ?_
   simp
  unfold G126x0 F126x0
  rw [k2]
  unfold tmW
  cases decide (tmL 0 fs < 0) <;> rfl
 ·rintro ⟨sz, w⟩ kr ⟨h0, h1, h2, h3⟩ ih
  simp only at h0 h1 h2 h3 ih ⊢
  unfold S126x0x9
  by_cases hw : w < fs.length
  ·have hf := h.size _ (getD_mem h0 hw)
   rw [decide_eq_true hw, inB_of h0 hw, drop_at (.i 0) h0 hw]
   simp only [_root_.cond_true, bnd_eq, V167x0_eq]
   have e1 : ((fs.getD w.toNat (.i 0)).cell 1).toI = fS (fs.getD w.toNat (.i 0)) := rfl
   rw [e1, wrapI (x := sz + _) (by omega) (by omega), wrapI (x := w + 1) (by omega) (by omega)]
   simp only [tmL]
   cases ht : isT (fs.getD w.toNat (.i 0)) with
   | true => simp only [_root_.cond_true]; unfold tmW; rw [decide_eq_false (by omega)]; rfl
   | false =>
    simp only [_root_.cond_false]
    exact ih (sz + fS (fs.getD w.toNat (.i 0)), w + 1) ⟨by omega, by omega, by simp only; omega, by simp only; omega⟩ (by simp only; omega)
  ·have : w = fs.length := by omega
   subst this
   rw [decide_eq_false hw, drop_end (by omega)]
   rfl
theorem G127x0_eq (hN : maxLen < N) (h : FldsOk fs) : G127x0 N fs = some (szL fs) := by
 have hm : maxLen = 9223372036854775807 := rfl
 have hl := h.len
 have key := loop_ind (A := Int × Int) (X := Option Int) (S := fun x kr => S127x0x9 N fs fs.length x.1 x.2 (fun a b => kr (a, b)) (fun p => some p)) (L := fun m x => L127x0x9 N fs fs.length m x.1 x.2 (fun p => some p)) (fun m x => rfl)
  (fun x => some (x.1 + szL (fs.drop x.2.toNat))) (fun x => 0 ≤ x.2 ∧ x.2 ≤ fs.length ∧ 0 ≤ x.1 ∧ x.1 ≤ 255 * x.2) (fun x => (fs.length - x.2).toNat) ?_ N (0, 0) ⟨by decide, by show (0 : Int) ≤ _; omega, by decide, by decide⟩ (by simp; omega)
 ·have k2 : G127x0x9 N fs fs.length 0 0 = some (szL fs) := by
   refine Eq.trans key ?_
   simp
  unfold G127x0 F127x0
  rw [k2]; rfl
 ·rintro ⟨sz, w⟩ kr ⟨h0, h1, h2, h3⟩ ih
  simp only at h0 h1 h2 h3 ih ⊢
  unfold S127x0x9
  by_cases hw : w < fs.length
  ·have hf := h.size _ (getD_mem h0 hw)
   rw [decide_eq_true hw, inB_of h0 hw, drop_at (.i 0) h0 hw]
   simp only [_root_.cond_true, bnd_eq]
   have e1 : ((fs.getD w.toNat (.i 0)).cell 1).toI = fS (fs.getD w.toNat (.i 0)) := rfl
   rw [e1, wrapI (x := sz + _) (by omega) (by omega), wrapI (x := w + 1) (by omega) (by omega)]
   rw [ih (sz + fS (fs.getD w.toNat (.i 0)), w + 1) ⟨by omega, by omega, by simp only; omega, by simp only; omega⟩ (by simp only; omega)]
   simp only [szL, Option.some.injEq]; omega
  ·have : w = fs.length := by omega
   subst this
   rw [decide_eq_false hw, drop_end (by omega)]
   simp only [_root_.cond_false, szL, Int.add_zero]
theorem flds_ok : ∀ {fs : List D} {t : Bool}, (∀ f ∈ fs, 0 ≤ fS f ∧ fS f ≤ 255) → (flds t fs).length ≤ fs.length ∧ ∀ f ∈ flds t fs, 0 ≤ fS f ∧ fS f ≤ 255
 | [], _, _ => by simp [flds]
 | f :: r, t, h => by
  have h1 := h f (by simp)
  have h2 : ∀ t, _ := fun t => flds_ok (fs := r) (t := t) fun x hx => h x (by simp [hx])
  simp only [flds]
  cases t && isT f with
  | true => simp only [_root_.cond_true, List.length_cons]; exact ⟨by have := (h2 false).1; omega, (h2 false).2⟩
  | false =>
   simp only [_root_.cond_false, List.length_cons]
   refine ⟨by have := (h2 t).1; omega, fun x hx => ?_⟩
   rcases List.mem_cons.1 hx with rfl | hx
   ·exact h1
   ·exact (h2 t).2 x hx
theorem FldsOk.flds (h : FldsOk fs) (t : Bool) : FldsOk (flds t fs) := ⟨Nat.le_trans (flds_ok h.size).1 h.len, (flds_ok h.size).2⟩
theorem G128x0_eq (hN : maxLen < N) (h : FldsOk fs) (t : Bool) : ∃ nl, G128x0 N fs t = some (nl, flds t fs) := by
 have hm : maxLen = 9223372036854775807 := rfl
 have hl := h.len
 have key := loop_indE (A := Bool × Int × Bool × LD) (X := Option (Bool × LD)) (S := fun x kr => S128x0x12 N fs fs.length x.1 x.2.1 x.2.2.1 x.2.2.2 (fun a b c d => kr (a, b, c, d)) (fun p => some p)) (L := fun m x => L128x0x12 N fs fs.length m x.1 x.2.1 x.2.2.1 x.2.2.2 (fun p => some p)) (fun m x => rfl)
  (fun x r => ∃ nl, r = some (nl, x.2.2.2 ++ Proofs.YtngnemeafkmaoaaGreat.flds x.1 (fs.drop x.2.1.toNat))) (fun x => 0 ≤ x.2.1 ∧ x.2.1 ≤ fs.length ∧ (x.2.2.2.length : Int) ≤ x.2.1) (fun x => (fs.length - x.2.1).toNat) ?_ N (t, 0, true, []) ⟨by show (0 : Int) ≤ 0; omega, by show (0 : Int) ≤ _; omega, by simp⟩ (by simp; omega)
 ·obtain ⟨nl, k2⟩ := key
  have k3 : G128x0x12 N fs fs.length t 0 true [] = some (nl, Proofs.YtngnemeafkmaoaaGreat.flds t fs) := by
   refine Eq.trans k2 ?_
   simp
  refine ⟨nl, ?_⟩
  unfold G128x0 F128x0
  rw [k3]; rfl
 ·rintro ⟨t, w, b, l⟩ kr ⟨h0, h1, h2⟩ ih
  simp only at h0 h1 h2 ih ⊢
  unfold S128x0x12
  by_cases hw : w < fs.length
  ·rw [decide_eq_true hw, inB_of h0 hw, drop_at (.i 0) h0 hw]
   have r1 : decide ((l.length + 1) * 24 ≤ room) = true := decide_eq_true (by unfold room; omega)
   have r2 : decide (l.length + 1 ≤ strMax) = true := decide_eq_true (by unfold strMax; omega)
   have hv : V128x0x19 N t ((fs.getD w.toNat (.i 0)).cell 0).toI ((fs.getD w.toNat (.i 0)).cell 1).toI ((fs.getD w.toNat (.i 0)).cell 2).toI = (t && isT (fs.getD w.toNat (.i 0))) := by
    unfold V128x0x19 F128x0x19
    simp only [bnd_eq, V167x0_eq]
    cases t <;> rfl
   simp only [_root_.cond_true, bnd_eq, hv, r1, r2, Bool.and_self, wrapI (x := w + 1) (by omega) (by omega), Proofs.YtngnemeafkmaoaaGreat.flds]
   cases t && isT (fs.getD w.toNat (.i 0)) with
   | true =>
    simp only [_root_.cond_true]
    exact ih (false, w + 1, b, l) ⟨by simp only; omega, by simp only; omega, by simp only; omega⟩ (by simp only; omega)
   | false =>
    simp only [_root_.cond_false]
    obtain ⟨nl, e⟩ := ih (t, w + 1, false, l ++ [.a [.i (fN (fs.getD w.toNat (.i 0))), .i (fS (fs.getD w.toNat (.i 0))), .i (fT (fs.getD w.toNat (.i 0)))]]) ⟨by simp only; omega, by simp only; omega, by simp; omega⟩ (by simp only; omega)
    exact ⟨nl, by rw [← List.append_cons] at e; exact e⟩
  ·have : w = fs.length := by omega
   subst this
   rw [decide_eq_false hw, drop_end (by omega)]
   exact ⟨b, by simp [Proofs.YtngnemeafkmaoaaGreat.flds]⟩
end
end Go.Proofs.YtngnemeafkmaoaaGreat

namespace Go.Proofs.YtngnemeafkmaoaaGreat
open Go Go.AM
set_option maxRecDepth 100000
set_option maxHeartbeats 4000000
variable {N : Nat}
theorem or_byte {n b : Nat} (hn : n < 1099511627776) (hb : b < 256) : (bitsV .or .i64 (IntKind.wrap .i64 ((n : Int) * 2 ^ 8)) (IntKind.wrap .i64 (b : Int))).getD 0 = 256 * (n : Int) + b := by
 have e1 : IntKind.wrap .i64 ((n : Int) * 2 ^ 8) = ((n * 256 : Nat) : Int) := by rw [wrapI (by omega) (by omega)]; omega
 have e2 : IntKind.wrap .i64 (b : Int) = (b : Int) := wrapI (by omega) (by omega)
 rw [e1, e2]
 have h64 : IntKind.bits .i64 = 64 := rfl
 have o : (BitVec.ofInt 64 ((n * 256 : Nat) : Int) ||| BitVec.ofInt 64 (b : Int)).toNat = n * 256 + b := by
  rw [BitVec.toNat_or, BitVec.ofInt_natCast, BitVec.ofInt_natCast, BitVec.toNat_ofNat, BitVec.toNat_ofNat, Nat.mod_eq_of_lt (by omega), Nat.mod_eq_of_lt (by omega)]
  have := Nat.shiftLeft_add_eq_or_of_lt (b := b) (i := 8) (by omega) n
  rw [Nat.shiftLeft_eq] at this
  exact this.symm
 show IntKind.wrap .i64 (((BitVec.ofInt 64 ((n * 256 : Nat) : Int) ||| BitVec.ofInt 64 (b : Int)).toNat : Nat) : Int) = _
 rw [o, wrapI (by omega) (by omega)]
 omega
def BytesOk (xs : List D) : Prop := ∀ x ∈ xs, 0 ≤ x.toI ∧ x.toI ≤ 255
def pkB (len : Int) (big : Bool) (i : Int) : Int := bif big then i else len - 1 - i
def numR (xs : List D) (big : Bool) : Nat → Int → Int → Int
 | 0, _, n => n
 | k + 1, i, n => numR xs big k (i + 1) (256 * n + (xs.getD (pkB xs.length big i).toNat (.i 0)).toI)
def numB (xs : List D) (big : Bool) : Int := numR xs big xs.length 0 0
theorem pow_step {n b i : Int} (h0 : 0 ≤ i) (h1 : 0 ≤ n) (h2 : n < 256 ^ i.toNat) (h3 : 0 ≤ b) (h4 : b ≤ 255) : 0 ≤ 256 * n + b ∧ 256 * n + b < 256 ^ (i + 1).toNat := by
 have e : (i + 1).toNat = i.toNat + 1 := by omega
 rw [e, Int.pow_succ]
 omega
theorem pow_le {n i : Int} (h0 : 0 ≤ i) (h1 : i ≤ 4) (h2 : n < 256 ^ i.toNat) : n < 4294967296 := by
 have : i = 0 ∨ i = 1 ∨ i = 2 ∨ i = 3 ∨ i = 4 := by omega
 rcases this with rfl | rfl | rfl | rfl | rfl <;> simp at h2 <;> omega
theorem getB {xs : List D} (h : BytesOk xs) {i : Int} (h0 : 0 ≤ i) (h1 : i < xs.length) : 0 ≤ (xs.getD i.toNat (.i 0)).toI ∧ (xs.getD i.toNat (.i 0)).toI ≤ 255 := h _ (getD_mem h0 h1)
section
variable {xs : List D}
theorem pkB_in {big : Bool} {i : Int} (h0 : 0 ≤ i) (h1 : i < xs.length) : 0 ≤ pkB xs.length big i ∧ pkB xs.length big i < xs.length := by
 unfold pkB; cases big <;> simp <;> omega
theorem numR_bound (hb : BytesOk xs) (big : Bool) : ∀ (k : Nat) (i n : Int), 0 ≤ i → i + k = xs.length → 0 ≤ n → n < 256 ^ i.toNat → 0 ≤ numR xs big k i n ∧ numR xs big k i n < 256 ^ xs.length
 | 0, i, n, h0, h1, h2, h3 => by
  have : i.toNat = xs.length := by omega
  rw [this] at h3
  exact ⟨h2, h3⟩
 | k + 1, i, n, h0, h1, h2, h3 => by
  obtain ⟨p0, p1⟩ := pkB_in (xs := xs) (big := big) h0 (by omega)
  obtain ⟨b0, b1⟩ := getB hb p0 p1
  obtain ⟨q0, q1⟩ := pow_step h0 h2 h3 b0 b1
  exact numR_bound hb big k (i + 1) _ (by omega) (by omega) q0 q1
theorem numB_bound (hb : BytesOk xs) (big : Bool) (hl : xs.length ≤ 4) : 0 ≤ numB xs big ∧ numB xs big < 4294967296 := by
 obtain ⟨h1, h2⟩ := numR_bound hb big xs.length 0 0 (by omega) (by omega) (by omega) (by simp)
 refine ⟨h1, ?_⟩
 have := pow_le (i := (xs.length : Int)) (by omega) (by omega) (n := numB xs big) (by unfold numB; simpa using h2)
 exact this
theorem G49x0_eq (hN : maxLen < N) (hb : BytesOk xs) (big : Bool) (hl : xs.length ≤ 4) : G49x0 N xs big = some (numB xs big) := by
 have hm : maxLen = 9223372036854775807 := rfl
 have key := loop_ind (A := Int × Int) (X := Option Int) (S := fun x kr => S49x0x9 N xs big xs.length x.1 x.2 (fun a b => kr (a, b)) (fun p => some p)) (L := fun m x => L49x0x9 N xs big xs.length m x.1 x.2 (fun p => some p)) (fun m x => rfl)
  (fun x => some (numR xs big (xs.length - x.2).toNat x.2 x.1)) (fun x => 0 ≤ x.2 ∧ x.2 ≤ xs.length ∧ 0 ≤ x.1 ∧ x.1 < 256 ^ x.2.toNat) (fun x => (xs.length - x.2).toNat) ?_ N (0, 0) ⟨by decide, by show (0 : Int) ≤ _; omega, by decide, by decide⟩ (by simp; omega)
 ·have k2 : G49x0x9 N xs big xs.length 0 0 = some (numB xs big) := by
   refine Eq.trans key ?_
   simp [numB]
  unfold G49x0 F49x0
  rw [k2]; rfl
 ·rintro ⟨n, i⟩ kr ⟨h0, h1, h2, h3⟩ ih
  simp only at h0 h1 h2 h3 ih ⊢
  unfold S49x0x9
  by_cases hw : i < xs.length
  ·obtain ⟨p0, p1⟩ := pkB_in (xs := xs) (big := big) h0 hw
   obtain ⟨b0, b1⟩ := getB hb p0 p1
   obtain ⟨q0, q1⟩ := pow_step h0 h2 h3 b0 b1
   have hn := pow_le h0 (by omega) h3
   have hv : V49x0x23 N i (IntKind.wrap .i64 ((IntKind.wrap .i64 ((xs.length : Int) - 1)) - i)) big = pkB xs.length big i := by
    rw [wrapI (x := (xs.length : Int) - 1) (by omega) (by omega), wrapI (x := (xs.length : Int) - 1 - i) (by omega) (by omega)]
    unfold V49x0x23 F49x0x23 pkB
    cases big <;> rfl
   have ho := or_byte (n := n.toNat) (b := (xs.getD (pkB xs.length big i).toNat (.i 0)).toI.toNat) (by omega) (by omega)
   rw [Int.toNat_of_nonneg h2, Int.toNat_of_nonneg b0] at ho
   rw [decide_eq_true hw]
   simp only [_root_.cond_true, bnd_eq, hv, inB_of p0 p1, ho, wrapI (x := i + 1) (by omega) (by omega)]
   rw [ih (_, i + 1) ⟨by simp only; omega, by simp only; omega, q0, q1⟩ (by simp only; omega)]
   have e : (xs.length - i).toNat = (xs.length - (i + 1)).toNat + 1 := by omega
   rw [e]
   rfl
  ·have : i = xs.length := by omega
   subst this
   rw [decide_eq_false hw]
   simp [numR]
theorem G59x0_eq (hN : maxLen < N) (hb : BytesOk xs) (big : Bool) (hl : xs.length ≤ 4) : G59x0 N xs big = some (numB xs big) := by
 have hm : maxLen = 9223372036854775807 := rfl
 have key := loop_ind (A := Int × Int) (X := Option Int) (S := fun x kr => S59x0x9 N xs big xs.length x.1 x.2 (fun a b => kr (a, b)) (fun p => some p)) (L := fun m x => L59x0x9 N xs big xs.length m x.1 x.2 (fun p => some p)) (fun m x => rfl)
  (fun x => some (numR xs big (xs.length - x.2).toNat x.2 x.1)) (fun x => 0 ≤ x.2 ∧ x.2 ≤ xs.length ∧ 0 ≤ x.1 ∧ x.1 < 256 ^ x.2.toNat) (fun x => (xs.length - x.2).toNat) ?_ N (0, 0) ⟨by decide, by show (0 : Int) ≤ _; omega, by decide, by decide⟩ (by simp; omega)
 ·have k2 : G59x0x9 N xs big xs.length 0 0 = some (numB xs big) := by
   refine Eq.trans key ?_
   simp [numB]
  unfold G59x0 F59x0
  rw [k2]; rfl
 ·rintro ⟨n, i⟩ kr ⟨h0, h1, h2, h3⟩ ih
  simp only at h0 h1 h2 h3 ih ⊢
  unfold S59x0x9
  by_cases hw : i < xs.length
  ·obtain ⟨p0, p1⟩ := pkB_in (xs := xs) (big := big) h0 hw
   obtain ⟨b0, b1⟩ := getB hb p0 p1
   obtain ⟨q0, q1⟩ := pow_step h0 h2 h3 b0 b1
   have hn := pow_le h0 (by omega) h3
   have hv : V59x0x23 N xs i i (!big) = pkB xs.length big i := by
    unfold V59x0x23 F59x0x23 pkB
    rw [wrapI (x := (xs.length : Int) - 1) (by omega) (by omega), wrapI (x := (xs.length : Int) - 1 - i) (by omega) (by omega)]
    cases big <;> rfl
   have ho : IntKind.wrap .i64 ((IntKind.wrap .i64 (256 * n)) + (IntKind.wrap .i64 (xs.getD (pkB xs.length big i).toNat (.i 0)).toI)) = 256 * n + (xs.getD (pkB xs.length big i).toNat (.i 0)).toI := by
    rw [wrapI (x := 256 * n) (by omega) (by omega), wrapI (x := (xs.getD (pkB xs.length big i).toNat (.i 0)).toI) (by omega) (by omega), wrapI (by omega) (by omega)]
   rw [decide_eq_true hw]
   simp only [_root_.cond_true, bnd_eq, hv, inB_of p0 p1, ho, wrapI (x := i + 1) (by omega) (by omega)]
   rw [ih (_, i + 1) ⟨by simp only; omega, by simp only; omega, q0, q1⟩ (by simp only; omega)]
   have e : (xs.length - i).toNat = (xs.length - (i + 1)).toNat + 1 := by omega
   rw [e]
   rfl
  ·have : i = xs.length := by omega
   subst this
   rw [decide_eq_false hw]
   simp [numR]
end
theorem missing4 : G136x0 N 4 false = some 4294967295 := by
 unfold G136x0 F136x0
 have e1 : IntKind.wrap .i64 (8 * 4) = 32 := by decide
 rw [e1]
 have e2 : IntKind.wrap .i64 (1 * 2 ^ (min (32 : Int).toNat 64)) = 4294967296 := by decide
 have e3 : IntKind.wrap .i64 ((4294967296 : Int) - 1) = 4294967295 := by decide
 simp only [_root_.cond_false, bnd_eq, e2, e3]
 rfl
structure Slots (p s : D) : Prop where
 known : ∀ j : Nat, j < 16 → (p.cell (0 + j * 6)).toB = (s.cell (0 + j * 1)).toB
 defs : ∀ j : Nat, j < 16 → (p.cell (0 + j * 6)).toB = true → FldsOk (p.cell (3 + j * 6)).items ∧ (p.cell (1 + j * 6)).toB = (s.cell (16 + j * 3)).toB ∧ (p.cell (2 + j * 6)).toI = (s.cell (17 + j * 3)).toI ∧
  (p.cell (3 + j * 6)).items = (s.cell (18 + j * 3)).items ∧ (p.cell (4 + j * 6)).toI = szL (p.cell (3 + j * 6)).items ∧ (p.cell (5 + j * 6)).toI = tmL 0 (p.cell (3 + j * 6)).items
structure Sim (p s : D) (k : Int) : Prop extends Slots p s where
 last : (p.cell 96).toI = (s.cell 64).toI
 lo : -1 ≤ (p.cell 96).toI
 hi : (p.cell 96).toI ≤ 4294967295 + 32 * k
structure EntL (ds data : List D) : Prop where
 d : ds.length ≤ maxLen
 b : data.length ≤ maxLen
 f : ∀ x ∈ ds, (x.cell 2).items.length ≤ maxLen
 y : BytesOk data
def entE (kind slot off : Int) (ds data : List D) (known : Bool) (size time last : Int) : Int :=
 bif !inI kind 1 3 then 7 else bif !inI slot 0 (bif kind == 3 then 3 else 15) || !inI off 0 (bif kind == 3 then 31 else 0) then 9 else
 bif kind == 1 then (bif ((ds.length : Int) != 1) || decide ((data.length : Int) > 0) then 2 else defE ((ds.getD 0 (.i 0)).cell 1).toI ((ds.getD 0 (.i 0)).cell 2).items) else
 bif (ds.length : Int) != 0 then 2 else bif !known || ((kind == 3) && (decide (time < 0) || decide (last < 0))) then 11 else bif (data.length : Int) != (bif kind == 3 then size - 4 else size) then 2 else 0
section
variable {kind slot off : Int} {ds data : List D} {p s : D} {k : Int}
theorem slot_in (h : inI slot 0 (bif kind == 3 then 3 else 15) = true) : inB slot 16 = true ∧ slot.toNat < 16 := by
 unfold inI at h
 cases hk : kind == 3 <;> rw [hk] at h <;> simp at h <;> exact ⟨inB_of (by omega) (by omega), by omega⟩
theorem G119x0_eq (hN : maxLen < N) (hs : Sim p s k) (he : EntL ds data) : G119x0 N kind slot off ds data p = some (entE kind slot off ds data (p.cell (0 + slot.toNat * 6)).toB (p.cell (4 + slot.toNat * 6)).toI (p.cell (5 + slot.toNat * 6)).toI (p.cell 96).toI) := by
 have hm : maxLen = 9223372036854775807 := rfl
 unfold G119x0 F119x0 entE V119x0x14 F119x0x14 V119x0x20 F119x0x20 V119x0x28 F119x0x28 V119x0x62 F119x0x62
 simp only [bnd_eq, V115x0_eq]
 cases h1 : inI kind 1 3 with
 | false => rfl
 | true =>
 have e14 : (bif kind == 3 then ((3 : Int), (31 : Int)) else (15, 0)) = ((bif kind == 3 then 3 else 15), (bif kind == 3 then 31 else 0)) := by cases kind == 3 <;> rfl
 rw [e14]
 simp only [Bool.not_true, _root_.cond_false]
 cases h2 : inI slot 0 (bif kind == 3 then 3 else 15) with
 | false => rfl
 | true =>
 obtain ⟨i1, i2⟩ := slot_in h2
 cases h3 : inI off 0 (bif kind == 3 then 31 else 0) with
 | false => rfl
 | true =>
 simp only [Bool.not_true, _root_.cond_false, Bool.or_self]
 by_cases hk : kind = 1
 ·subst hk
  simp only [beq_self_eq_true, _root_.cond_true]
  cases h4 : ((ds.length : Int) != 1) with
  | true => rfl
  | false =>
   have hl : ds.length = 1 := by simp at h4; omega
   cases decide ((data.length : Int) > 0) with
   | true => rfl
   | false =>
    have hmem : ds.getD 0 (.i 0) ∈ ds := getD_mem (w := 0) (by omega) (by omega)
    simp only [_root_.cond_false, Bool.or_self]
    rw [inB_of (by omega) (by omega), G163x0_eq hN _ (he.f _ hmem)]
    rfl
 ·have hk1 : (kind == 1) = false := by simpa using hk
  rw [hk1]
  simp only [_root_.cond_false]
  cases h4 : ((ds.length : Int) != 0) with
  | true => rfl
  | false =>
   simp only [_root_.cond_false, i1, _root_.cond_true]
   cases hkn : (p.cell (0 + slot.toNat * 6)).toB with
   | false => rfl
   | true =>
    obtain ⟨d1, _, _, _, d5, d6⟩ := hs.defs _ i2 hkn
    have hb := szL_bound d1.size
    have hl := d1.len
    cases hk3 : kind == 3 with
    | false =>
     simp only [Bool.not_true, _root_.cond_false, Bool.false_and, Bool.or_self]
     cases ((data.length : Int) != (p.cell (4 + slot.toNat * 6)).toI) <;> rfl
    | true =>
     simp only [Bool.not_true, _root_.cond_false, _root_.cond_true, Bool.true_and, Bool.false_or]
     cases decide ((p.cell (5 + slot.toNat * 6)).toI < 0) with
     | true => rfl
     | false =>
      cases decide ((p.cell 96).toI < 0) with
      | true => rfl
      | false =>
       simp only [_root_.cond_false, Bool.or_self]
       rw [wrapI (by omega) (by omega)]
       cases ((data.length : Int) != (p.cell (4 + slot.toNat * 6)).toI - 4) <;> rfl
theorem G129x0_eq (hN : maxLen < N) (hs : Sim p s k) (he : EntL ds data) : G129x0 N kind slot off ds data s = some (entE kind slot off ds data (p.cell (0 + slot.toNat * 6)).toB (p.cell (4 + slot.toNat * 6)).toI (p.cell (5 + slot.toNat * 6)).toI (p.cell 96).toI) := by
 have hm : maxLen = 9223372036854775807 := rfl
 unfold G129x0 F129x0 entE V129x0x17 F129x0x17 V129x0x19 F129x0x19
 simp only [bnd_eq, V132x0_eq]
 cases h1 : inI kind 1 3 with
 | false => rfl
 | true =>
 have e14 : (bif kind == 3 then ((3 : Int), (31 : Int)) else (15, 0)) = ((bif kind == 3 then 3 else 15), (bif kind == 3 then 31 else 0)) := by cases kind == 3 <;> rfl
 rw [e14]
 simp only [Bool.not_true, _root_.cond_false]
 cases h2 : inI slot 0 (bif kind == 3 then 3 else 15) with
 | false => rfl
 | true =>
 obtain ⟨i1, i2⟩ := slot_in h2
 cases h3 : inI off 0 (bif kind == 3 then 31 else 0) with
 | false => rfl
 | true =>
 simp only [Bool.not_true, _root_.cond_false, Bool.or_self]
 by_cases hk : kind = 1
 ·subst hk
  simp only [beq_self_eq_true, _root_.cond_true]
  cases h4 : ((ds.length : Int) != 1) with
  | true => rfl
  | false =>
   have hl : ds.length = 1 := by simp at h4; omega
   cases decide ((data.length : Int) > 0) with
   | true => rfl
   | false =>
    have hmem : ds.getD 0 (.i 0) ∈ ds := getD_mem (w := 0) (by omega) (by omega)
    simp only [_root_.cond_false, Bool.or_self]
    rw [inB_of (by omega) (by omega), G168x0_eq hN _ (he.f _ hmem)]
    rfl
 ·have hk1 : (kind == 1) = false := by simpa using hk
  have e0 : decide ((ds.length : Int) > 0) = ((ds.length : Int) != 0) := by rw [Bool.eq_iff_iff]; simp only [decide_eq_true_eq, bne_iff_ne]; omega
  rw [hk1, e0]
  simp only [_root_.cond_false]
  cases h4 : ((ds.length : Int) != 0) with
  | true => rfl
  | false =>
   simp only [_root_.cond_false, i1, _root_.cond_true, ← hs.known _ i2]
   cases hkn : (p.cell (0 + slot.toNat * 6)).toB with
   | false => rfl
   | true =>
    obtain ⟨d1, _, _, d4, d5, d6⟩ := hs.defs _ i2 hkn
    rw [← d4, ← hs.last, d5, d6, G126x0_eq hN d1]
    obtain ⟨nl, hf⟩ := G128x0_eq hN d1 (kind == 3)
    rw [hf]
    simp only [Option.isSome_some, getD_some, _root_.cond_true, G127x0_eq hN (d1.flds _)]
    have z := szL_flds (a := 0) (by omega) d1.size
    cases hk3 : kind == 3 with
    | false =>
     simp only [Bool.not_true, _root_.cond_false, Bool.false_and, Bool.or_self, szL_flds_false]
     cases ((data.length : Int) != szL (p.cell (3 + slot.toNat * 6)).items) <;> rfl
    | true =>
     by_cases ht : tmL 0 (p.cell (3 + slot.toNat * 6)).items < 0
     ·simp only [decide_eq_true ht, _root_.cond_true]; rfl
     ·simp only [decide_eq_false ht, _root_.cond_false, _root_.cond_true, Bool.not_true, Bool.true_and, Bool.false_or, z.2 (by omega)]
      cases decide ((p.cell 96).toI < 0) with
      | true => rfl
      | false =>
       simp only [_root_.cond_false]
       cases ((data.length : Int) != szL (p.cell (3 + slot.toNat * 6)).items - 4) <;> rfl
end
end Go.Proofs.YtngnemeafkmaoaaGreat

namespace Go.Proofs.YtngnemeafkmaoaaGreat
open Go Go.AM
set_option maxRecDepth 100000
set_option maxHeartbeats 4000000
variable {N : Nat}
structure EntOk (kind slot off : Int) (ds data : List D) (known : Bool) (size time last : Int) : Prop where
 k : 1 ≤ kind ∧ kind ≤ 3
 s : inB slot 16 = true ∧ slot.toNat < 16
 d : kind = 1 → ds.length = 1 ∧ defE ((ds.getD 0 (.i 0)).cell 1).toI ((ds.getD 0 (.i 0)).cell 2).items = 0
 n : kind ≠ 1 → known = true ∧ ds.length = 0
 h : kind = 3 → 0 ≤ time ∧ 0 ≤ last ∧ 0 ≤ off ∧ off ≤ 31 ∧ (data.length : Int) = size - 4
 t : kind = 2 → (data.length : Int) = size
section
variable {kind slot off : Int} {ds data : List D} {p s : D} {k : Int}
theorem entE_ok {known : Bool} {size time last : Int} (h : entE kind slot off ds data known size time last = 0) : EntOk kind slot off ds data known size time last := by
 unfold entE at h
 cases h1 : inI kind 1 3 with
 | false => rw [h1] at h; exact absurd (show (7 : Int) = 0 from h) (by decide)
 | true =>
 cases h2 : inI slot 0 (bif kind == 3 then 3 else 15) with
 | false => rw [h1, h2] at h; exact absurd (show (9 : Int) = 0 from h) (by decide)
 | true =>
 cases h3 : inI off 0 (bif kind == 3 then 31 else 0) with
 | false => rw [h1, h2, h3] at h; exact absurd (show (9 : Int) = 0 from h) (by decide)
 | true =>
 rw [h1, h2, h3] at h
 simp only [Bool.not_true, _root_.cond_false, Bool.or_self] at h
 have hkr : 1 ≤ kind ∧ kind ≤ 3 := by unfold inI at h1; simpa using h1
 by_cases hk : kind = 1
 ·subst hk
  simp only [beq_self_eq_true, _root_.cond_true] at h
  cases h4 : ((ds.length : Int) != 1) || decide ((data.length : Int) > 0) with
  | true => rw [h4] at h; exact absurd (show (2 : Int) = 0 from h) (by decide)
  | false =>
   rw [h4] at h
   simp only [Bool.or_eq_false_iff, bne_eq_false_iff_eq] at h4
   exact ⟨hkr, slot_in h2, fun _ => ⟨by omega, h⟩, fun hn => absurd rfl hn, fun h => by omega, fun h => by omega⟩
 ·have hk1 : (kind == 1) = false := by simpa using hk
  rw [hk1] at h
  simp only [_root_.cond_false] at h
  cases h4 : ((ds.length : Int) != 0) with
  | true => rw [h4] at h; exact absurd (show (2 : Int) = 0 from h) (by decide)
  | false =>
  rw [h4] at h
  simp only [_root_.cond_false] at h
  cases h5 : !known || ((kind == 3) && (decide (time < 0) || decide (last < 0))) with
  | true => rw [h5] at h; exact absurd (show (11 : Int) = 0 from h) (by decide)
  | false =>
  rw [h5] at h
  simp only [_root_.cond_false] at h
  cases h6 : ((data.length : Int) != (bif kind == 3 then size - 4 else size)) with
  | true => rw [h6] at h; exact absurd (show (2 : Int) = 0 from h) (by decide)
  | false =>
  simp only [bne_eq_false_iff_eq] at h4 h6
  simp only [Bool.or_eq_false_iff, Bool.not_eq_false'] at h5
  refine ⟨hkr, slot_in h2, fun h => absurd h hk, fun _ => ⟨h5.1, by omega⟩, fun h3' => ?_, fun h2' => ?_⟩
  ·subst h3'
   simp at h3 h5 h6
   unfold inI at h3
   simp at h3
   omega
  ·subst h2'
   simpa using h6
theorem put6 {a : Nat} {x0 x1 x2 x3 x4 x5 : D} (j : Nat) : let q := (((((p.put (0 + a * 6) x0).put (1 + a * 6) x1).put (2 + a * 6) x2).put (3 + a * 6) x3).put (4 + a * 6) x4).put (5 + a * 6) x5
  q.cell (0 + j * 6) = (if j = a then x0 else p.cell (0 + j * 6)) ∧ q.cell (1 + j * 6) = (if j = a then x1 else p.cell (1 + j * 6)) ∧ q.cell (2 + j * 6) = (if j = a then x2 else p.cell (2 + j * 6)) ∧
  q.cell (3 + j * 6) = (if j = a then x3 else p.cell (3 + j * 6)) ∧ q.cell (4 + j * 6) = (if j = a then x4 else p.cell (4 + j * 6)) ∧ q.cell (5 + j * 6) = (if j = a then x5 else p.cell (5 + j * 6)) := by
 simp only [cell_put]
 by_cases h : j = a
 ·subst h
  simp
 ·simp only [if_neg h]
  refine ⟨?_, ?_, ?_, ?_, ?_, ?_⟩ <;> rw [if_neg (by omega), if_neg (by omega), if_neg (by omega), if_neg (by omega), if_neg (by omega), if_neg (by omega)]
theorem put6_last {a : Nat} {x0 x1 x2 x3 x4 x5 : D} (ha : a < 16) : ((((((p.put (0 + a * 6) x0).put (1 + a * 6) x1).put (2 + a * 6) x2).put (3 + a * 6) x3).put (4 + a * 6) x4).put (5 + a * 6) x5).cell 96 = p.cell 96 := by
 simp only [cell_put]
 rw [if_neg (by omega), if_neg (by omega), if_neg (by omega), if_neg (by omega), if_neg (by omega), if_neg (by omega)]
theorem put4 {a : Nat} {x0 x1 x2 x3 : D} (ha : a < 16) (j : Nat) (hj : j < 16) : let q := (((s.put (0 + a * 1) x0).put (16 + a * 3) x1).put (17 + a * 3) x2).put (18 + a * 3) x3
  q.cell (0 + j * 1) = (if j = a then x0 else s.cell (0 + j * 1)) ∧ q.cell (16 + j * 3) = (if j = a then x1 else s.cell (16 + j * 3)) ∧ q.cell (17 + j * 3) = (if j = a then x2 else s.cell (17 + j * 3)) ∧
  q.cell (18 + j * 3) = (if j = a then x3 else s.cell (18 + j * 3)) ∧ q.cell 64 = s.cell 64 := by
 simp only [cell_put]
 refine ⟨?_, ?_, ?_, ?_, ?_⟩
 ·rw [if_neg (by omega), if_neg (by omega), if_neg (by omega)]
  by_cases h : j = a
  ·rw [if_pos (by omega), if_pos h]
  ·rw [if_neg (by omega), if_neg h]
 ·rw [if_neg (by omega), if_neg (by omega)]
  by_cases h : j = a
  ·rw [if_pos (by omega), if_pos h]
  ·rw [if_neg (by omega), if_neg (by omega), if_neg h]
 ·rw [if_neg (by omega)]
  by_cases h : j = a
  ·rw [if_pos (by omega), if_pos h]
  ·rw [if_neg (by omega), if_neg (by omega), if_neg (by omega), if_neg h]
 ·by_cases h : j = a
  ·rw [if_pos (by omega), if_pos h]
  ·rw [if_neg (by omega), if_neg (by omega), if_neg (by omega), if_neg (by omega), if_neg h]
 ·rw [if_neg (by omega), if_neg (by omega), if_neg (by omega), if_neg (by omega)]
theorem slots_put (hs : Slots p s) {a : Nat} (i2 : a < 16) {arch : Bool} {g : Int} {nl nl2 : Bool} {fs : List D} (hf : FldsOk fs) :
  Slots ((((((p.put (0 + a * 6) (.b true)).put (1 + a * 6) (.b arch)).put (2 + a * 6) (.i g)).put (3 + a * 6) (.l nl fs)).put (4 + a * 6) (.i (szL fs))).put (5 + a * 6) (.i (tmL 0 fs)))
   ((((s.put (0 + a * 1) (.b true)).put (16 + a * 3) (.b arch)).put (17 + a * 3) (.i g)).put (18 + a * 3) (.l nl2 fs)) := by
 refine ⟨fun j hj => ?_, fun j hj hkn => ?_⟩
 ·rw [(put6 j).1, (put4 i2 j hj).1]
  by_cases h : j = a
  ·rw [if_pos h, if_pos h]
  ·rw [if_neg h, if_neg h]; exact hs.known j hj
 ·obtain ⟨a0, a1, a2, a3, a4, a5⟩ := put6 (p := p) (a := a) (x0 := .b true) (x1 := .b arch) (x2 := .i g) (x3 := .l nl fs) (x4 := .i (szL fs)) (x5 := .i (tmL 0 fs)) j
  obtain ⟨b0, b1, b2, b3, _⟩ := put4 (s := s) (x0 := .b true) (x1 := .b arch) (x2 := .i g) (x3 := .l nl2 fs) i2 j hj
  rw [a0] at hkn
  rw [a1, a2, a3, a4, a5, b1, b2, b3]
  by_cases h : j = a
  ·simp only [if_pos h]
   refine ⟨hf, ?_, ?_, ?_, ?_, ?_⟩ <;> first | trivial | rfl
  ·simp only [if_neg h] at hkn ⊢
   exact hs.defs j hj hkn
theorem Sim.last' (h : Sim p s k) {t : Int} (h0 : -1 ≤ t) (h1 : t ≤ 4294967295 + 32 * (k + 1)) : Sim (p.put 96 (.i t)) (s.put 64 (.i t)) (k + 1) := by
 have c1 : ∀ c j : Nat, c < 6 → j < 16 → (p.put 96 (.i t)).cell (c + j * 6) = p.cell (c + j * 6) := fun c j hc hj => by rw [cell_put, if_neg (by omega)]
 have c2 : ∀ j : Nat, j < 16 → (s.put 64 (.i t)).cell (0 + j * 1) = s.cell (0 + j * 1) ∧ (s.put 64 (.i t)).cell (16 + j * 3) = s.cell (16 + j * 3) ∧ (s.put 64 (.i t)).cell (17 + j * 3) = s.cell (17 + j * 3) ∧ (s.put 64 (.i t)).cell (18 + j * 3) = s.cell (18 + j * 3) := fun j hj => by
  refine ⟨?_, ?_, ?_, ?_⟩ <;> rw [cell_put, if_neg (by omega)]
 refine ⟨⟨fun j hj => ?_, fun j hj hk => ?_⟩, ?_, ?_, ?_⟩
 ·rw [c1 0 j (by omega) hj, (c2 j hj).1]; exact h.known j hj
 ·rw [c1 0 j (by omega) hj] at hk
  rw [c1 1 j (by omega) hj, c1 2 j (by omega) hj, c1 3 j (by omega) hj, c1 4 j (by omega) hj, c1 5 j (by omega) hj, (c2 j hj).2.1, (c2 j hj).2.2.1, (c2 j hj).2.2.2]
  exact h.defs j hj hk
 ·simp [cell_put, D.toI]
 ·simpa [cell_put, D.toI] using h0
 ·simpa [cell_put, D.toI] using h1
theorem Slots.last (h : Slots p s) {x : D} : Slots p (s.put 64 x) := by
 have c2 : ∀ j : Nat, j < 16 → (s.put 64 x).cell (0 + j * 1) = s.cell (0 + j * 1) ∧ (s.put 64 x).cell (16 + j * 3) = s.cell (16 + j * 3) ∧ (s.put 64 x).cell (17 + j * 3) = s.cell (17 + j * 3) ∧ (s.put 64 x).cell (18 + j * 3) = s.cell (18 + j * 3) := fun j hj => by
  refine ⟨?_, ?_, ?_, ?_⟩ <;> rw [cell_put, if_neg (by omega)]
 refine ⟨fun j hj => ?_, fun j hj hk => ?_⟩
 ·rw [(c2 j hj).1]; exact h.known j hj
 ·rw [(c2 j hj).2.1, (c2 j hj).2.2.1, (c2 j hj).2.2.2]
  exact h.defs j hj hk
theorem Sim.more (h : Sim p s k) : Sim p s (k + 1) := ⟨h.toSlots, h.last, h.lo, by have := h.hi; omega⟩
theorem slice_ok {t : Int} (h0 : 0 ≤ t) (h1 : t + 4 ≤ data.length) (hl : data.length ≤ maxLen) (hb : BytesOk data) : IntKind.wrap .i64 (t + 4) = t + 4 ∧ ((data.take (t + 4).toNat).drop t.toNat).length = 4 ∧ BytesOk ((data.take (t + 4).toNat).drop t.toNat) := by
 have hm : maxLen = 9223372036854775807 := rfl
 exact ⟨wrapI (by omega) (by omega), by simp; omega, fun x hx => hb x (List.mem_of_mem_take (List.mem_of_mem_drop hx))⟩
theorem take_sim (hN : maxLen < N) (hs : Sim p s k) (he : EntL ds data) (h0 : 0 ≤ k) (h1 : k ≤ 100000) (hE : EntOk kind slot off ds data (p.cell (0 + slot.toNat * 6)).toB (p.cell (4 + slot.toNat * 6)).toI (p.cell (5 + slot.toNat * 6)).toI (p.cell 96).toI) :
  ∃ t p' s', G120x0 N kind slot off ds data p = some (t, p') ∧ G62x0 N kind slot off ds data s = some (t, s') ∧ Sim p' s' (k + 1) ∧ -1 ≤ t ∧ t ≤ 4294967295 + 32 * (k + 1) ∧ (kind ≠ 1 → ∀ q, Slots q s → Slots q s') := by
 have hm : maxLen = 9223372036854775807 := rfl
 obtain ⟨i1, i2⟩ := hE.s
 unfold G120x0 F120x0 G120x0x15014 F120x0x15014 G62x0 F62x0
 rw [i1]
 by_cases hk1 : kind = 1
 ·subst hk1
  obtain ⟨d1, d2⟩ := hE.d rfl
  have hf := defE_ok d2
  have q1 := G116x0_eq hN hf
  simp only [beq_self_eq_true, _root_.cond_true, inB_of (i := 0) (n := ds.length) (by omega) (by omega), bnd_eq, q1, Option.isSome_some, getD_some]
  have e1 : decide ((-1 : Int) ≥ 0) = false := by decide
  rw [e1]
  refine ⟨_, _, _, rfl, rfl, ?_, by omega, by omega, fun h => absurd rfl h⟩
  show Sim ((((((p.put (0 + slot.toNat * 6) (.b true)).put (1 + slot.toNat * 6) (.b ((ds.getD 0 (.i 0)).cell 0).toB)).put (2 + slot.toNat * 6) (.i ((ds.getD 0 (.i 0)).cell 1).toI)).put (3 + slot.toNat * 6) (.l ((ds.getD 0 (.i 0)).cell 2).isNil ((ds.getD 0 (.i 0)).cell 2).items)).put (4 + slot.toNat * 6) (.i (szL ((ds.getD 0 (.i 0)).cell 2).items))).put (5 + slot.toNat * 6) (.i (tmL 0 ((ds.getD 0 (.i 0)).cell 2).items))) _ (k + 1)
  refine ⟨slots_put hs.toSlots i2 hf, ?_, ?_, ?_⟩
  ·rw [put6_last i2, (put4 i2 0 (by omega)).2.2.2.2]; exact hs.last
  ·rw [put6_last i2]; exact hs.lo
  ·rw [put6_last i2]; have := hs.hi; omega
 ·have hk1' : (kind == 1) = false := by simpa using hk1
  obtain ⟨kn, _⟩ := hE.n hk1
  obtain ⟨d1, d2, d3, d4, d5, d6⟩ := hs.defs _ i2 kn
  unfold G120x0x21020 F120x0x21020
  rw [hk1']
  simp only [_root_.cond_false, bnd_eq, ← hs.last, ← d4, ← d2]
  have hlo := hs.lo
  have hhi := hs.hi
  by_cases hk3 : kind = 3
  ·subst hk3
   obtain ⟨t0, l0, o0, o1, _⟩ := hE.h rfl
   have m0 : (p.cell 96).toI.tmod 32 = (p.cell 96).toI % 32 := Int.tmod_eq_emod_of_nonneg l0
   have w1 : IntKind.wrap .i64 (off - (p.cell 96).toI.tmod 32) = off - (p.cell 96).toI.tmod 32 := wrapI (by omega) (by omega)
   have w2 : IntKind.wrap .i64 (off - (p.cell 96).toI.tmod 32 + 32) = off - (p.cell 96).toI.tmod 32 + 32 := wrapI (by omega) (by omega)
   have m1 : (off - (p.cell 96).toI.tmod 32 + 32).tmod 32 = (off - (p.cell 96).toI.tmod 32 + 32) % 32 := Int.tmod_eq_emod_of_nonneg (by omega)
   have w3 : IntKind.wrap .i64 ((p.cell 96).toI + (off - (p.cell 96).toI.tmod 32 + 32).tmod 32) = (p.cell 96).toI + (off - (p.cell 96).toI.tmod 32 + 32).tmod 32 := wrapI (by omega) (by omega)
   simp only [beq_self_eq_true, _root_.cond_true, w1, w2, w3, Option.isSome_some, getD_some, V120x0x38, F120x0x38]
   rw [decide_eq_true (by omega)]
   refine ⟨_, _, _, rfl, ?_, hs.last' (t := (p.cell 96).toI + (off - (p.cell 96).toI.tmod 32 + 32).tmod 32) (by omega) (by omega), by omega, by omega, fun _ q hq => hq.last⟩
   rw [cell_put, if_pos rfl]
   rfl
  ·have hk2 : kind = 2 := by have := hE.k; omega
   subst hk2
   have hlen := hE.t rfl
   unfold G120x0x26 F120x0x26
   rw [d6, G126x0_eq hN d1]
   have tb := tmL_bound (a := 0) (by omega) d1.size
   by_cases ht : tmL 0 (p.cell (3 + slot.toNat * 6)).items < 0
   ·rw [decide_eq_true ht, decide_eq_false (by omega : ¬ tmL 0 (p.cell (3 + slot.toNat * 6)).items ≥ 0)]
    have e1 : decide ((-1 : Int) ≥ 0) = false := by decide
    refine ⟨-1, p, s, ?_, ?_, hs.more, by omega, by omega, fun _ q hq => hq⟩
    ·rfl
    ·rfl
   ·rw [decide_eq_false ht, decide_eq_true (by omega : tmL 0 (p.cell (3 + slot.toNat * 6)).items ≥ 0)]
    have h4 : tmL 0 (p.cell (3 + slot.toNat * 6)).items + 4 ≤ data.length := by rw [hlen, d5]; omega
    generalize tmL 0 (p.cell (3 + slot.toNat * 6)).items = tm at ht h4 ⊢
    obtain ⟨s1, s2, s3⟩ := slice_ok (by omega) h4 he.b he.y
    have nb := numB_bound s3 (p.cell (1 + slot.toNat * 6)).toB (by omega)
    have c0 : decide ((0 : Int) ≤ tm) = true := decide_eq_true (by omega)
    have c1 : decide (tm ≤ tm + 4) = true := decide_eq_true (by omega)
    have c2 : decide (tm + 4 ≤ (data.length : Int)) = true := decide_eq_true (by omega)
    have q1 := G49x0_eq hN s3 (p.cell (1 + slot.toNat * 6)).toB (by omega)
    have q2 := G59x0_eq hN s3 (p.cell (1 + slot.toNat * 6)).toB (by omega)
    have e3 : ((2 : Int) == 3) = false := by decide
    simp only [_root_.cond_true, _root_.cond_false, bnd_eq, Bool.and_self, s1, c0, c1, c2, q1, q2, missing4, Option.isSome_some, getD_some, V120x0x32, F120x0x32, Bool.not_true, e3, V120x0x38, F120x0x38]
    generalize numB ((data.take (tm + 4).toNat).drop tm.toNat) (p.cell (1 + slot.toNat * 6)).toB = n at nb ⊢
    by_cases hn : n = 4294967295
    ·subst hn
     exact ⟨-1, p, s, rfl, rfl, hs.more, by omega, by omega, fun _ q hq => hq⟩
    ·have e4 : (n != 4294967295) = true := by simpa using hn
     have e5 : (n == 4294967295) = false := by simpa using hn
     rw [e4, e5]
     simp only [_root_.cond_true, _root_.cond_false]
     rw [decide_eq_true (by omega)]
     exact ⟨n, _, _, rfl, rfl, hs.last' (by omega) (by omega), by omega, by omega, fun _ q hq => hq.last⟩
end
end Go.Proofs.YtngnemeafkmaoaaGreat

namespace Go.Proofs.YtngnemeafkmaoaaGreat
open Go Go.AM
set_option maxRecDepth 100000
set_option maxHeartbeats 4000000
variable {N : Nat}
def EntD (x : D) : Prop := EntL (x.cell 3).items (x.cell 4).items
def zeroS : D := .a (List.replicate 16 (.b false) ++ (List.replicate 16 [D.b false, D.i 0, D.l true []]).flatten ++ [.i (-1)])
theorem zero_slots (p : D) (hp : (List.range 16).all (fun j => !(p.cell (0 + j * 6)).toB && !(zeroS.cell (0 + j * 1)).toB) = true) : Slots p zeroS := by
 have h : ∀ j : Nat, j < 16 → (p.cell (0 + j * 6)).toB = false ∧ (zeroS.cell (0 + j * 1)).toB = false := fun j hj => by
  have := List.all_eq_true.1 hp j (List.mem_range.2 hj)
  simpa using this
 exact ⟨fun j hj => by rw [(h j hj).1, (h j hj).2], fun j hj hk => by rw [(h j hj).1] at hk; exact absurd hk (by decide)⟩
theorem zero70 : Sim (V118x0 N) zeroS 0 := ⟨zero_slots _ (by kernel_rfl), by kernel_rfl, by rw [show ((V118x0 N).cell 96).toI = -1 by kernel_rfl]; decide, by rw [show ((V118x0 N).cell 96).toI = -1 by kernel_rfl]; decide⟩
section
variable {es : List D}
theorem check_loop (hN : maxLen < N) (hes : ∀ x ∈ es, EntD x) (hl : es.length ≤ 50000) : ∀ (m : Nat) (i : Int) (p s : D), 0 ≤ i → i ≤ es.length → (es.length - i).toNat < m → Sim p s i →
  ∃ r : Sum Int Unit, L53x0x15 N es es.length m i p (fun p => some (.inl p)) (fun p => some (.inr p)) = some r ∧ L63x0x15 N es es.length m i s (fun p => some (.inl p)) (fun p => some (.inr p)) = some r ∧ (∀ e, r = .inl e → e ≠ 0) := by
 intro m
 induction m with
 | zero => intro i p s _ _ h; omega
 | succ m ih =>
  intro i p s h0 h1 hm hs
  unfold L53x0x15 L63x0x15 S53x0x15 S63x0x15
  by_cases hi : i < es.length
  ·have he : EntD _ := hes _ (getD_mem (fs := es) h0 hi)
   rw [decide_eq_true hi, inB_of h0 hi, G119x0_eq hN hs he, G129x0_eq hN hs he]
   simp only [_root_.cond_true, bnd_eq, Option.isSome_some, getD_some]
   generalize hE : entE ((es.getD i.toNat (.i 0)).cell 0).toI ((es.getD i.toNat (.i 0)).cell 1).toI ((es.getD i.toNat (.i 0)).cell 2).toI ((es.getD i.toNat (.i 0)).cell 3).items ((es.getD i.toNat (.i 0)).cell 4).items _ _ _ _ = e
   by_cases hz : e = 0
   ·subst hz
    obtain ⟨t, p', s', q1, q2, hs', _, _, _⟩ := take_sim hN hs he h0 (by omega) (entE_ok hE)
    have e0 : ((0 : Int) != 0) = false := by decide
    rw [e0, q1, q2]
    simp only [_root_.cond_false, Option.isSome_some, _root_.cond_true, getD_some, wrapI (x := i + 1) (by omega) (by omega)]
    exact ih (i + 1) p' s' (by omega) (by omega) (by omega) hs'
   ·have e0 : (e != 0) = true := by simpa using hz
    rw [e0]
    exact ⟨.inl e, rfl, rfl, fun e' h => by simp at h; subst h; exact hz⟩
  ·rw [decide_eq_false hi]
   exact ⟨.inr (), rfl, rfl, fun e' h => by simp at h⟩
theorem check_file (hN : maxLen < N) (hes : ∀ x ∈ es, EntD x) : ∃ c, G53x0 N es = some c ∧ G63x0 N es = some c := by
 by_cases hl : (es.length : Int) > 50000
 ·unfold G53x0 F53x0 G63x0 F63x0
  rw [decide_eq_true hl]; exact ⟨3, rfl, rfl⟩
 ·have hm : maxLen = 9223372036854775807 := rfl
  obtain ⟨r, q1, q2, _⟩ := check_loop hN hes (by omega) N 0 (V118x0 N) zeroS (by omega) (by omega) (by omega) zero70
  have k1 : G53x0x15 N es es.length 0 (V118x0 N) = some r := q1
  have k2 : G63x0x15 N es es.length 0 zeroS = some r := q2
  have k3 : G53x0 N es = bnd (G53x0x15 N es es.length 0 (V118x0 N)) (fun y1 => bif inlB y1 then some (inlV y1) else bif (inrQ y1).isSome then some 0 else none) := by
   unfold G53x0 F53x0
   rw [decide_eq_false hl]; rfl
  have k4 : G63x0 N es = bnd (G63x0x15 N es es.length 0 zeroS) (fun y1 => bif inlB y1 then some (inlV y1) else bif (inrQ y1).isSome then some 0 else none) := by
   unfold G63x0 F63x0
   rw [decide_eq_false hl]; rfl
  rw [k3, k4, k1, k2]
  cases r with
  | inl c => exact ⟨c, rfl, rfl⟩
  | inr u => exact ⟨0, rfl, rfl⟩
end
end Go.Proofs.YtngnemeafkmaoaaGreat

namespace Go.Proofs.YtngnemeafkmaoaaGreat
open Go Go.AM
set_option maxRecDepth 100000
set_option maxHeartbeats 4000000
set_option linter.unusedVariables false
variable {N : Nat}
section
variable {es : List D}
end
end Go.Proofs.YtngnemeafkmaoaaGreat

namespace Go.Proofs.YtngnemeafkmaoaaGreat
open Go Go.AM
set_option maxRecDepth 100000
set_option maxHeartbeats 4000000
set_option linter.unusedVariables false
abbrev TyA : Type := Int × Int × Int × Bool × LD × Bool × LD × Bool × Int × D
abbrev TyB : Type := Int × Int × Int × Bool × LD × Bool × LD × Int × Bool
variable {N : Nat}
def sumL : Int → List D → Int
 | a, [] => a
 | a, x :: r => sumL ((31 * a + x.toI) % 4294967296) r
section
variable {bs : List D}
theorem sumL_bound : ∀ {bs : List D} {a : Int}, 0 ≤ a → a < 4294967296 → 0 ≤ sumL a bs ∧ sumL a bs < 4294967296
 | [], _, h0, h1 => ⟨h0, h1⟩
 | x :: r, a, h0, h1 => sumL_bound (bs := r) (by omega) (by omega)
theorem G50x0_eq (hN : maxLen < N) (hb : BytesOk bs) (hl : bs.length ≤ maxLen) : G50x0 N bs = some (sumL 1 bs) := by
 have hm : maxLen = 9223372036854775807 := rfl
 have key := loop_ind (A := Int × Int) (X := Option Int) (S := fun x kr => S50x0x9 N bs bs.length x.1 x.2 (fun a b => kr (a, b)) (fun p => some p)) (L := fun m x => L50x0x9 N bs bs.length m x.1 x.2 (fun p => some p)) (fun m x => rfl)
  (fun x => some (sumL x.1 (bs.drop x.2.toNat))) (fun x => 0 ≤ x.2 ∧ x.2 ≤ bs.length ∧ 0 ≤ x.1 ∧ x.1 < 4294967296) (fun x => (bs.length - x.2).toNat) ?_ N (1, 0) ⟨by decide, by show (0 : Int) ≤ _; omega, by decide, by decide⟩ (by simp; omega)
 ·have k2 : G50x0x9 N bs bs.length 1 0 = some (sumL 1 bs) := by
   refine Eq.trans key ?_
   simp
  have hs := sumL_bound (bs := bs) (a := 1) (by decide) (by decide)
  unfold G50x0 F50x0
  simp only [bnd_eq]
  rw [k2]
  simp only [Option.isSome_some, _root_.cond_true, getD_some, wrapI (x := sumL 1 bs) (by omega) (by omega)]
 ·rintro ⟨a, i⟩ kr ⟨h0, h1, h2, h3⟩ ih
  simp only at h0 h1 h2 h3 ih ⊢
  unfold S50x0x9
  by_cases hw : i < bs.length
  ·have hx := getB hb h0 hw
   rw [decide_eq_true hw, inB_of h0 hw, drop_at (.i 0) h0 hw]
   have e : IntKind.wrap .u32 ((IntKind.wrap .u32 (31 * a)) + (IntKind.wrap .u32 (bs.getD i.toNat (.i 0)).toI)) = (31 * a + (bs.getD i.toNat (.i 0)).toI) % 4294967296 := by
    simp only [IntKind.wrap_u32]
    omega
   simp only [_root_.cond_true, bnd_eq, e, wrapI (x := i + 1) (by omega) (by omega), sumL]
   exact ih (_, i + 1) ⟨by simp only; omega, by simp only; omega, by simp only; omega, by simp only; omega⟩ (by simp only; omega)
  ·have : i = bs.length := by omega
   subst this
   rw [decide_eq_false hw, drop_end (by omega)]
   rfl
theorem G60x0_eq (hN : maxLen < N) (hb : BytesOk bs) (hl : bs.length ≤ maxLen) : G60x0 N bs = some (sumL 1 bs) := by
 have hm : maxLen = 9223372036854775807 := rfl
 have key := loop_ind (A := Int × Int) (X := Option Int) (S := fun x kr => S60x0x9 N bs bs.length x.1 x.2 (fun a b => kr (a, b)) (fun p => some p)) (L := fun m x => L60x0x9 N bs bs.length m x.1 x.2 (fun p => some p)) (fun m x => rfl)
  (fun x => some (sumL x.1 (bs.drop x.2.toNat))) (fun x => 0 ≤ x.2 ∧ x.2 ≤ bs.length ∧ 0 ≤ x.1 ∧ x.1 < 4294967296) (fun x => (bs.length - x.2).toNat) ?_ N (1, 0) ⟨by decide, by show (0 : Int) ≤ _; omega, by decide, by decide⟩ (by simp; omega)
 ·have k2 : G60x0x9 N bs bs.length 1 0 = some (sumL 1 bs) := by
   refine Eq.trans key ?_
   simp
  unfold G60x0 F60x0
  rw [k2]; rfl
 ·rintro ⟨a, i⟩ kr ⟨h0, h1, h2, h3⟩ ih
  simp only at h0 h1 h2 h3 ih ⊢
  unfold S60x0x9
  by_cases hw : i < bs.length
  ·have hx := getB hb h0 hw
   rw [decide_eq_true hw, inB_of h0 hw, drop_at (.i 0) h0 hw]
   have e : (IntKind.wrap .i64 ((IntKind.wrap .i64 (31 * a)) + (IntKind.wrap .i64 (bs.getD i.toNat (.i 0)).toI))).tmod 4294967296 = (31 * a + (bs.getD i.toNat (.i 0)).toI) % 4294967296 := by
    rw [wrapI (x := 31 * a) (by omega) (by omega), wrapI (x := (bs.getD i.toNat (.i 0)).toI) (by omega) (by omega), wrapI (by omega) (by omega)]
    exact Int.tmod_eq_emod_of_nonneg (by omega)
   simp only [_root_.cond_true, bnd_eq, e, wrapI (x := i + 1) (by omega) (by omega), sumL]
   exact ih (_, i + 1) ⟨by simp only; omega, by simp only; omega, by simp only; omega, by simp only; omega⟩ (by simp only; omega)
  ·have : i = bs.length := by omega
   subst this
   rw [decide_eq_false hw, drop_end (by omega)]
   rfl
theorem BytesOk.sub (hb : BytesOk bs) (a b : Nat) : BytesOk ((bs.take b).drop a) := fun x hx => hb x (List.mem_of_mem_take (List.mem_of_mem_drop hx))
theorem BytesOk.drop (hb : BytesOk bs) (a : Nat) : BytesOk (bs.drop a) := fun x hx => hb x (List.mem_of_mem_drop hx)
theorem piece_no {n a : Int} {nl : Bool} (hn : 0 ≤ n) (hn2 : n ≤ 100000) (hl : bs.length ≤ maxLen) (ha : -1 ≤ a) (ha2 : a ≤ bs.length) (h : a < 0 ∨ n > bs.length - a) : G114x0 N n a nl bs = some (false, List.replicate n.toNat (.i 0), -1) := by
 have hm : maxLen = 9223372036854775807 := rfl
 unfold G114x0 F114x0
 have e : (bif decide (a < 0) then true else decide (n > IntKind.wrap .i64 ((bs.length : Int) - a))) = true := by
  by_cases h0 : a < 0
  ·rw [decide_eq_true h0]; rfl
  ·rw [decide_eq_false h0, wrapI (by omega) (by omega)]
   exact decide_eq_true (by omega)
 have r1 : decide (n.toNat * 1 ≤ room) = true := decide_eq_true (by unfold room; omega)
 have r2 : decide (n.toNat ≤ strMax) = true := decide_eq_true (by unfold strMax; omega)
 rw [e, r1, r2, decide_eq_true hn, decide_eq_true (Int.le_refl n)]
 rfl
theorem piece_ok {n a : Int} {nl : Bool} (hn : 0 ≤ n) (hl : bs.length ≤ maxLen) (ha : 0 ≤ a) (h : a + n ≤ bs.length) : G114x0 N n a nl bs = some (nl, (bs.take (a + n).toNat).drop a.toNat, a + n) := by
 have hm : maxLen = 9223372036854775807 := rfl
 unfold G114x0 F114x0
 have e : (bif decide (a < 0) then true else decide (n > IntKind.wrap .i64 ((bs.length : Int) - a))) = false := by
  rw [decide_eq_false (by omega), wrapI (by omega) (by omega)]
  exact decide_eq_false (by omega)
 rw [e, wrapI (x := a + n) (by omega) (by omega), wrapI (x := a + n - n) (by omega) (by omega), show a + n - n = a by omega, decide_eq_true ha, decide_eq_true (show a ≤ a + n by omega), decide_eq_true (Int.le_refl (a + n)), decide_eq_true h]
 rfl
theorem sub_len {a b : Nat} (h : b ≤ bs.length) : ((bs.take b).drop a).length = b - a := by simp; omega
theorem sub_getD {a b k : Nat} (h : a + k < b) : ((bs.take b).drop a).getD k (.i 0) = bs.getD (a + k) (.i 0) := by
 simp only [List.getD_eq_getElem?_getD, List.getElem?_drop]
 rw [List.getElem?_take_of_lt h]
theorem drop_getD {a k : Nat} : (bs.drop a).getD k (.i 0) = bs.getD (a + k) (.i 0) := by
 simp only [List.getD_eq_getElem?_getD, List.getElem?_drop]
def by_ (bs : List D) (i : Int) : Int := (bs.getD i.toNat (.i 0)).toI
def fldAt (bs : List D) (a : Int) : D := .a [.i (by_ bs a), .i (by_ bs (a + 1)), .i (by_ bs (a + 2))]
def trip (bs : List D) : Nat → Int → List D
 | 0, _ => []
 | c + 1, a => fldAt bs a :: trip bs c (a + 3)
theorem sub_by {a n k : Int} (ha : 0 ≤ a) (hk : 0 ≤ k) (h : k < n) : (((bs.take (a + n).toNat).drop a.toNat).getD k.toNat (.i 0)).toI = by_ bs (a + k) := by
 unfold by_
 rw [sub_getD (by omega), show (a + k).toNat = a.toNat + k.toNat by omega]
theorem drop_by {a k : Int} (ha : 0 ≤ a) (hk : 0 ≤ k) : by_ (bs.drop a.toNat) k = by_ bs (a + k) := by
 unfold by_
 rw [drop_getD, show (a + k).toNat = a.toNat + k.toNat by omega]
theorem by_in (hb : BytesOk bs) {i : Int} (h0 : 0 ≤ i) (h1 : i < bs.length) : 0 ≤ by_ bs i ∧ by_ bs i ≤ 255 := getB hb h0 h1
theorem trip_len : ∀ (c : Nat) (a : Int), (trip bs c a).length = c
 | 0, _ => rfl
 | c + 1, a => by simp only [trip, List.length_cons, trip_len c (a + 3)]
theorem trip_drop {p : Int} (hp : 0 ≤ p) : ∀ (c : Nat) (a : Int), 0 ≤ a → trip (bs.drop p.toNat) c a = trip bs c (p + a)
 | 0, _, _ => rfl
 | c + 1, a, h => by
  simp only [trip, fldAt, trip_drop hp c (a + 3) (by omega)]
  rw [drop_by hp h, drop_by hp (by omega), drop_by hp (by omega), show p + (a + 1) = p + a + 1 by omega, show p + (a + 2) = p + a + 2 by omega, show p + (a + 3) = p + a + 3 by omega]
theorem G113x0x48_eq (hN : maxLen < N) (hb : BytesOk bs) (hl : bs.length ≤ maxLen) {c a : Int} {nl : Bool} (h0 : 0 ≤ c) (h1 : c ≤ 255) (ha : -1 ≤ a) (ha2 : a ≤ bs.length) :
  ∃ a' fs, G113x0x48 N c nl bs 0 a true [] = some (a', fs.isEmpty, fs) ∧ FldsOk fs ∧ (0 ≤ a ∧ a + 3 * c ≤ bs.length → a' = a + 3 * c ∧ fs = trip bs c.toNat a) ∧ (¬ (0 ≤ a ∧ a + 3 * c ≤ bs.length) → a' = -1) := by
 have hm : maxLen = 9223372036854775807 := rfl
 have key := loop_indE (A := Int × Int × Bool × LD) (X := Option (Int × Bool × LD)) (S := fun x kr => S113x0x48 N c nl bs x.1 x.2.1 x.2.2.1 x.2.2.2 (fun a b c d => kr (a, b, c, d)) (fun p => some p)) (L := fun m x => L113x0x48 N c nl bs m x.1 x.2.1 x.2.2.1 x.2.2.2 (fun p => some p)) (fun m x => rfl)
  (fun x r => ∃ a' fs, r = some (a', (x.2.2.1 && fs.isEmpty), x.2.2.2 ++ fs) ∧ (fs.length : Int) = c - x.1 ∧ (∀ f ∈ fs, 0 ≤ fS f ∧ fS f ≤ 255) ∧ (0 ≤ x.2.1 ∧ x.2.1 + 3 * (c - x.1) ≤ bs.length → a' = x.2.1 + 3 * (c - x.1) ∧ fs = trip bs (c - x.1).toNat x.2.1) ∧ (¬ (0 ≤ x.2.1 ∧ x.2.1 + 3 * (c - x.1) ≤ bs.length) → a' = -1))
  (fun x => 0 ≤ x.1 ∧ x.1 ≤ c ∧ -1 ≤ x.2.1 ∧ x.2.1 ≤ bs.length ∧ (x.2.2.2.length : Int) = x.1) (fun x => (c - x.1).toNat) ?_ N (0, a, true, []) ⟨by show (0 : Int) ≤ 0; omega, by show (0 : Int) ≤ _; omega, ha, ha2, rfl⟩ (by simp; omega)
 ·obtain ⟨a', fs, q, l, f, p1, p2⟩ := key
  simp only [Int.sub_zero, List.nil_append, Bool.true_and] at q l p1 p2
  exact ⟨a', fs, q, ⟨by omega, f⟩, p1, p2⟩
 ·rintro ⟨w, a, b, acc⟩ kr ⟨h2, h3, h4, h5, h6⟩ ih
  simp only at h2 h3 h4 h5 h6 ih ⊢
  unfold S113x0x48
  by_cases hw : w < c
  ·have r1 : decide ((acc.length + 1) * 24 ≤ room) = true := decide_eq_true (by unfold room; omega)
   have r2 : decide (acc.length + 1 ≤ strMax) = true := decide_eq_true (by unfold strMax; omega)
   have i0 : inB 0 3 = true := rfl
   have i1 : inB 1 3 = true := rfl
   have i2 : inB 2 3 = true := rfl
   have w8 : IntKind.wrap .u8 (w + 1) = w + 1 := by simp only [IntKind.wrap_u8]; omega
   rw [decide_eq_true hw]
   by_cases hp : 0 ≤ a ∧ a + 3 ≤ bs.length
   ·obtain ⟨hp1, hp2⟩ := hp
    have l3 : ((bs.take (a + 3).toNat).drop a.toNat).length = 3 := by rw [sub_len (by omega)]; omega
    have b0 := by_in hb (i := a + 0) (by omega) (by omega)
    have b1 := by_in hb (i := a + 1) (by omega) (by omega)
    have b2 := by_in hb (i := a + 2) (by omega) (by omega)
    have v0 := sub_by (bs := bs) (a := a) (n := 3) (k := 0) hp1 (by omega) (by omega)
    have v1 := sub_by (bs := bs) (a := a) (n := 3) (k := 1) hp1 (by omega) (by omega)
    have v2 := sub_by (bs := bs) (a := a) (n := 3) (k := 2) hp1 (by omega) (by omega)
    simp only [_root_.cond_true, bnd_eq, piece_ok (n := 3) (nl := nl) (N := N) (by omega) hl hp1 hp2, Option.isSome_some, getD_some, l3, i0, i1, i2, w8, r1, r2, Bool.and_self]
    have e0 : ((bs.take (a + 3).toNat).drop a.toNat).getD 0 (.i 0) = ((bs.take (a + 3).toNat).drop a.toNat).getD (0 : Int).toNat (.i 0) := rfl
    have e1 : ((bs.take (a + 3).toNat).drop a.toNat).getD 1 (.i 0) = ((bs.take (a + 3).toNat).drop a.toNat).getD (1 : Int).toNat (.i 0) := rfl
    have e2 : ((bs.take (a + 3).toNat).drop a.toNat).getD 2 (.i 0) = ((bs.take (a + 3).toNat).drop a.toNat).getD (2 : Int).toNat (.i 0) := rfl
    rw [e0, e1, e2, v0, v1, v2, wrapI (x := by_ bs (a + 0)) (by omega) (by omega), wrapI (x := by_ bs (a + 1)) (by omega) (by omega), wrapI (x := by_ bs (a + 2)) (by omega) (by omega)]
    obtain ⟨a', fs, q, l, f, p1, p2⟩ := ih (w + 1, a + 3, false, acc ++ [.a [.i (by_ bs (a + 0)), .i (by_ bs (a + 1)), .i (by_ bs (a + 2))]]) ⟨by simp only; omega, by simp only; omega, by simp only; omega, by simp only; omega, by simp; omega⟩ (by simp only; omega)
    simp only at q l p1 p2
    refine ⟨a', fldAt bs a :: fs, ?_, by simp; omega, ?_, fun h => ?_, fun h => p2 (by omega)⟩
    ·have ef : fldAt bs a = .a [.i (by_ bs (a + 0)), .i (by_ bs (a + 1)), .i (by_ bs (a + 2))] := by unfold fldAt; rw [Int.add_zero]
     rw [ef]
     rw [List.append_assoc, Bool.false_and] at q
     rw [List.isEmpty_cons, Bool.and_false]
     exact q
    ·intro g hg
     rcases List.mem_cons.1 hg with rfl | hg
     ·exact b1
     ·exact f g hg
    ·obtain ⟨q1, q2⟩ := p1 (by omega)
     refine ⟨by omega, ?_⟩
     rw [show (c - w).toNat = (c - (w + 1)).toNat + 1 by omega]
     simp only [trip]
     rw [← q2]
   ·simp only [_root_.cond_true, bnd_eq, piece_no (n := 3) (nl := nl) (N := N) (by omega) (by omega) hl h4 h5 (by omega), Option.isSome_some, getD_some, List.length_replicate, show (3 : Int).toNat = 3 from rfl, i0, i1, i2, w8, r1, r2, Bool.and_self]
    obtain ⟨a', fs, q, l, f, p1, p2⟩ := ih (w + 1, -1, false, acc ++ [.a [.i 0, .i 0, .i 0]]) ⟨by simp only; omega, by simp only; omega, by simp only; omega, by simp only; omega, by simp; omega⟩ (by simp only; omega)
    simp only at q l p1 p2
    refine ⟨a', .a [.i 0, .i 0, .i 0] :: fs, ?_, by simp; omega, ?_, fun h => by omega, fun h => p2 (by omega)⟩
    ·rw [List.append_assoc, Bool.false_and] at q
     rw [List.isEmpty_cons, Bool.and_false]
     exact q
    ·intro g hg
     rcases List.mem_cons.1 hg with rfl | hg
     ·exact ⟨by decide, by decide⟩
     ·exact f g hg
  ·have : w = c := by omega
   subst this
   rw [decide_eq_false hw]
   exact ⟨a, [], by simp, by simp, by simp, fun h => by simp [trip], fun h => by omega⟩
theorem G125x0x30_eq (hN : maxLen < N) (hb : BytesOk bs) (hl : bs.length ≤ maxLen) {c : Int} (h0 : 0 ≤ c) (h1 : c ≤ 255) (h : 5 + 3 * c ≤ bs.length) : G125x0x30 N bs c 0 true [] = some ((trip bs c.toNat 5).isEmpty, trip bs c.toNat 5) := by
 have hm : maxLen = 9223372036854775807 := rfl
 have key := loop_indE (A := Int × Bool × LD) (X := Option (Bool × LD)) (S := fun x kr => S125x0x30 N bs c x.1 x.2.1 x.2.2 (fun a b c => kr (a, b, c)) (fun p => some p)) (L := fun m x => L125x0x30 N bs c m x.1 x.2.1 x.2.2 (fun p => some p)) (fun m x => rfl)
  (fun x r => r = some ((x.2.1 && (trip bs (c - x.1).toNat (5 + 3 * x.1)).isEmpty), x.2.2 ++ trip bs (c - x.1).toNat (5 + 3 * x.1)))
  (fun x => 0 ≤ x.1 ∧ x.1 ≤ c ∧ (x.2.2.length : Int) = x.1) (fun x => (c - x.1).toNat) ?_ N (0, true, []) ⟨by show (0 : Int) ≤ 0; omega, by show (0 : Int) ≤ _; omega, rfl⟩ (by simp; omega)
 ·have q := key
  simp only [Int.sub_zero, List.nil_append, Bool.true_and] at q
  exact q
 ·rintro ⟨w, b, acc⟩ kr ⟨h2, h3, h4⟩ ih
  simp only at h2 h3 h4 ih ⊢
  unfold S125x0x30
  by_cases hw : w < c
  ·have r1 : decide ((acc.length + 1) * 24 ≤ room) = true := decide_eq_true (by unfold room; omega)
   have r2 : decide (acc.length + 1 ≤ strMax) = true := decide_eq_true (by unfold strMax; omega)
   have b0 := by_in hb (i := 5 + 3 * w) (by omega) (by omega)
   have b1 := by_in hb (i := 6 + 3 * w) (by omega) (by omega)
   have b2 := by_in hb (i := 7 + 3 * w) (by omega) (by omega)
   have e : ∀ i : Int, (bs.getD i.toNat (.i 0)).toI = by_ bs i := fun _ => rfl
   rw [decide_eq_true hw, wrapI (x := 3 * w) (by omega) (by omega), wrapI (x := 5 + 3 * w) (by omega) (by omega), wrapI (x := 6 + 3 * w) (by omega) (by omega), wrapI (x := 7 + 3 * w) (by omega) (by omega), inB_of (i := 5 + 3 * w) (by omega) (by omega), inB_of (i := 6 + 3 * w) (by omega) (by omega), inB_of (i := 7 + 3 * w) (by omega) (by omega)]
   simp only [_root_.cond_true, bnd_eq, e, r1, r2, Bool.and_self, wrapI (x := w + 1) (by omega) (by omega)]
   rw [wrapI (x := by_ bs (5 + 3 * w)) (by omega) (by omega), wrapI (x := by_ bs (6 + 3 * w)) (by omega) (by omega), wrapI (x := by_ bs (7 + 3 * w)) (by omega) (by omega)]
   have q := ih (w + 1, false, acc ++ [.a [.i (by_ bs (5 + 3 * w)), .i (by_ bs (6 + 3 * w)), .i (by_ bs (7 + 3 * w))]]) ⟨by simp only; omega, by simp only; omega, by simp; omega⟩ (by simp only; omega)
   simp only [Bool.false_and] at q
   rw [show (c - w).toNat = (c - (w + 1)).toNat + 1 by omega]
   simp only [trip, fldAt, List.isEmpty_cons, Bool.and_false]
   rw [List.append_assoc] at q
   rw [show 5 + 3 * w + 1 = 6 + 3 * w by omega, show 5 + 3 * w + 2 = 7 + 3 * w by omega, show 5 + 3 * w + 3 = 5 + 3 * (w + 1) by omega]
   exact q
  ·have : w = c := by omega
   subst this
   rw [decide_eq_false hw]
   simp [trip]
end
end Go.Proofs.YtngnemeafkmaoaaGreat

namespace Go.Proofs.YtngnemeafkmaoaaGreat
open Go Go.AM
set_option maxRecDepth 100000
set_option maxHeartbeats 4000000
set_option linter.unusedVariables false
variable {N : Nat}
section
variable {bs : List D}
theorem G67_2 (hN : maxLen < N) (v : Int) (big : Bool) : ∃ l, G78x0 N v 2 big = some l ∧ l.length = 2 := by
 have hm : maxLen = 9223372036854775807 := rfl
 obtain ⟨k, rfl⟩ : ∃ k, N = k + 3 := ⟨N - 3, by omega⟩
 cases big with
 | false => exact ⟨[.i (IntKind.wrap .u8 (v.fdiv (2 ^ (min (IntKind.wrap .i64 (8 * 0)).toNat 64)))), .i (IntKind.wrap .u8 (v.fdiv (2 ^ (min (IntKind.wrap .i64 (8 * (IntKind.wrap .i64 (0 + 1)))).toNat 64))))], by kernel_rfl, rfl⟩
 | true => exact ⟨[.i (IntKind.wrap .u8 (v.fdiv (2 ^ (min (IntKind.wrap .i64 (8 * (IntKind.wrap .i64 (0 + 1)))).toNat 64)))), .i (IntKind.wrap .u8 (v.fdiv (2 ^ (min (IntKind.wrap .i64 (8 * 0)).toNat 64))))], by kernel_rfl, rfl⟩
theorem G52x0x39_eq (hN : maxLen < N) {fs l : List D} (hf : fs.length ≤ 255) (hl : l.length ≤ 100) : ∃ b l', G52x0x39 N fs fs.length 0 false l = some (b, l') ∧ l'.length = l.length + 3 * fs.length := by
 have hm : maxLen = 9223372036854775807 := rfl
 have key := loop_indE (A := Int × Bool × LD) (X := Option (Bool × LD)) (S := fun x kr => S52x0x39 N fs fs.length x.1 x.2.1 x.2.2 (fun a b c => kr (a, b, c)) (fun p => some p)) (L := fun m x => L52x0x39 N fs fs.length m x.1 x.2.1 x.2.2 (fun p => some p)) (fun m x => rfl)
  (fun x r => ∃ b l', r = some (b, l') ∧ (l'.length : Int) = x.2.2.length + 3 * (fs.length - x.1))
  (fun x => 0 ≤ x.1 ∧ x.1 ≤ fs.length ∧ (x.2.2.length : Int) ≤ 100 + 3 * x.1) (fun x => (fs.length - x.1).toNat) ?_ N (0, false, l) ⟨by show (0 : Int) ≤ 0; omega, by show (0 : Int) ≤ _; omega, by simp; omega⟩ (by simp; omega)
 ·obtain ⟨b, l', q, e⟩ := key
  simp only at e
  exact ⟨b, l', q, by omega⟩
 ·rintro ⟨w, b, acc⟩ kr ⟨h2, h3, h4⟩ ih
  simp only at h2 h3 h4 ih ⊢
  unfold S52x0x39
  by_cases hw : w < fs.length
  ·have r1 : decide ((acc.length + 3) * 1 ≤ room) = true := decide_eq_true (by unfold room; omega)
   have r2 : decide (acc.length + 3 ≤ strMax) = true := decide_eq_true (by unfold strMax; omega)
   rw [decide_eq_true hw, inB_of h2 hw]
   simp only [_root_.cond_true, bnd_eq, r1, r2, Bool.and_self, wrapI (x := w + 1) (by omega) (by omega)]
   obtain ⟨b', l', q, e⟩ := ih (w + 1, false, acc ++ [(.i (IntKind.wrap .u8 ((fs.getD w.toNat (.i 0)).cell 0).toI)), (.i (IntKind.wrap .u8 ((fs.getD w.toNat (.i 0)).cell 1).toI)), (.i (IntKind.wrap .u8 ((fs.getD w.toNat (.i 0)).cell 2).toI))]) ⟨by simp only; omega, by simp only; omega, by simp; omega⟩ (by simp only; omega)
   simp at e
   exact ⟨b', l', q, by omega⟩
  ·have : w = fs.length := by omega
   subst this
   rw [decide_eq_false hw]
   exact ⟨b, acc, rfl, by omega⟩
theorem G65_def (hN : maxLen < N) {slot off g : Int} {arch nl : Bool} {fs data : List D} (hf : fs.length ≤ 255) : ∃ nl' l, G52x0 N 1 slot off [.a [.b arch, .i g, .l nl fs]] data = some (nl', l) ∧ (l.length : Int) = 5 + 3 * fs.length := by
 unfold G52x0 F52x0
 obtain ⟨l2, q2, e2⟩ := G67_2 hN g arch
 have h29 : ∃ l1, G52x0x29 N arch [(.i (IntKind.wrap .u8 (IntKind.wrap .i64 (64 + slot)))), (.i 0)] = some l1 ∧ l1.length = 2 := by
  cases arch with
  | true => exact ⟨[(.i (IntKind.wrap .u8 (IntKind.wrap .i64 (64 + slot)))), (.i 1)], rfl, rfl⟩
  | false => exact ⟨[(.i (IntKind.wrap .u8 (IntKind.wrap .i64 (64 + slot)))), (.i 0)], rfl, rfl⟩
 obtain ⟨l1, q1, e1⟩ := h29
 have d0 : (((([.a [.b arch, .i g, .l nl fs]] : List D).getD 0 (.i 0)).cell 0).toB) = arch := rfl
 have d1 : (((([.a [.b arch, .i g, .l nl fs]] : List D).getD 0 (.i 0)).cell 1).toI) = g := rfl
 have d2 : (((([.a [.b arch, .i g, .l nl fs]] : List D).getD 0 (.i 0)).cell 2).items) = fs := rfl
 have c1 : ((1 : Int) == 2) = false := rfl
 have c2 : ((1 : Int) == 3) = false := rfl
 have c3 : inB 0 ([.a [.b arch, .i g, .l nl fs]] : List D).length = true := rfl
 have r1 : decide ((l1.length + l2.length) * 1 ≤ room) = true := decide_eq_true (by unfold room; omega)
 have r2 : decide (l1.length + l2.length ≤ strMax) = true := decide_eq_true (by unfold strMax; omega)
 have r3 : decide (((l1 ++ l2).length + 1) * 1 ≤ room) = true := decide_eq_true (by unfold room; simp; omega)
 have r4 : decide ((l1 ++ l2).length + 1 ≤ strMax) = true := decide_eq_true (by unfold strMax; simp; omega)
 obtain ⟨b, l', q, e⟩ := G52x0x39_eq (N := N) hN (fs := fs) (l := (l1 ++ l2) ++ [.i (IntKind.wrap .u8 (fs.length : Int))]) hf (by simp; omega)
 simp only [d0, d1, d2, c1, c2, c3, _root_.cond_false, _root_.cond_true, bnd_eq, q1, q2, Option.isSome_some, getD_some, r1, r2, r3, r4, Bool.and_self, q]
 exact ⟨b, l', rfl, by simp at e; omega⟩
theorem G65_data {kind slot off : Int} {ds data : List D} (hk : kind = 2 ∨ kind = 3) (hd : data.length ≤ 100000) : ∃ nl' l, G52x0 N kind slot off ds data = some (nl', l) ∧ (l.length : Int) = 1 + data.length := by
 have r1 : decide ((1 + data.length) * 1 ≤ room) = true := decide_eq_true (by unfold room; omega)
 have r2 : decide (1 + data.length ≤ strMax) = true := decide_eq_true (by unfold strMax; omega)
 unfold G52x0 F52x0
 rw [r1, r2]
 rcases hk with rfl | rfl
 ·exact ⟨_, _, rfl, by simp; omega⟩
 ·exact ⟨_, _, rfl, by simp; omega⟩
end
end Go.Proofs.YtngnemeafkmaoaaGreat

namespace Go.Proofs.YtngnemeafkmaoaaGreat
open Go Go.AM
set_option maxRecDepth 100000
set_option maxHeartbeats 4000000
set_option linter.unusedVariables false
variable {N : Nat}
noncomputable def tailP (N : Nat) (kind slot off a : Int) (nl : Bool) (bs : List D) (p : D) : Option TyA :=
 bif (inB slot 16) then
  bnd (bif (decide (a < 0)) then true else (!(p.cell (0 + (slot.toNat * 6))).toB)) fun y3 =>
  bnd (bif y3 then true else (bif (kind == 3) then (decide ((p.cell (5 + (slot.toNat * 6))).toI < 0)) else false)) fun y4 =>
  bif y4 then
   some (kind, slot, off, true, [], true, [], false, a, p)
  else
   bnd (V113x0x89 N (p.cell (4 + (slot.toNat * 6))).toI (kind == 3)) fun y5 =>
   bnd (G114x0 N y5 a nl bs) fun y6 =>
   bif y6.isSome then
    bnd (G117x0 N (y6.getD default).1 (y6.getD default).2.1) fun y7 =>
    bif y7.isSome then
     some (kind, slot, off, true, [], (y7.getD default).1, (y7.getD default).2, (decide ((y6.getD default).2.2 ≥ 0)), (y6.getD default).2.2, p)
    else
     none
   else
    none
 else
  none
noncomputable def tailR (N : Nat) (kind slot off : Int) (v1 : List D) (v2 : D) : Option TyB :=
 bif (inB slot 16) then
  bif (!(v2.cell (0 + (slot.toNat * 1))).toB) then
   some (kind, slot, off, true, [], true, [], 0, false)
  else
   bif (inB slot 16) then
    bnd (G126x0 N (v2.cell (18 + (slot.toNat * 3))).items) fun y1 =>
    bif y1.isSome then
     bnd (bif (kind == 3) then (!(y1.getD default).2) else false) fun y2 =>
     bif y2 then
      some (kind, slot, off, true, [], true, [], 0, false)
     else
      bnd (G128x0 N (v2.cell (18 + (slot.toNat * 3))).items (kind == 3)) fun y3 =>
      bif y3.isSome then
       bnd (G127x0 N (y3.getD default).2) fun y4 =>
       bif y4.isSome then
        bnd (decide ((v1.length : Int) < (IntKind.wrap .i64 (1 + (y4.getD default))))) fun y5 =>
        bif y5 then
         some (kind, slot, off, true, [], true, [], 0, false)
        else
         bif ((decide (1 ≤ (IntKind.wrap .i64 (1 + (y4.getD default))))) && (decide ((IntKind.wrap .i64 (1 + (y4.getD default))) ≤ (v1.length : Int)))) then
          bnd (((v1.take (IntKind.wrap .i64 (1 + (y4.getD default))).toNat).drop 1) : List D) fun y6 =>
          bif (decide ((0 + y6.length) * 1 ≤ room) && decide ((0 + y6.length) ≤ strMax)) then
           some (kind, slot, off, true, [], (y6.isEmpty && false), y6, (IntKind.wrap .i64 (1 + (y4.getD default))), true)
          else
           none
         else
          none
       else
        none
      else
       none
    else
     none
   else
    none
 else
  none
structure Got (N : Nat) (bs : List D) (a : Int) (p s : D) (kind slot off : Int) (ds data : List D) (a' : Int) (p' : D) (n : Int) : Prop where
 e : EntL ds data
 a : a' = a + n
 n1 : 1 ≤ n
 le : a' ≤ bs.length
 len : ∃ nl l, G52x0 N kind slot off ds data = some (nl, l) ∧ (l.length : Int) = n
 d : kind = 1 → ∃ s', G62x0 N kind slot off ds data s = some (-1, s') ∧ Slots p' s'
 o : kind ≠ 1 → p' = p
section
variable {bs : List D} {p s : D}
theorem clone_no {xs : List D} (h : xs.length ≤ 100000) : G117x0 N false xs = some (false, xs) := by
 have r1 : decide ((0 + xs.length) * 1 ≤ room) = true := decide_eq_true (by unfold room; omega)
 have r2 : decide (0 + xs.length ≤ strMax) = true := decide_eq_true (by unfold strMax; omega)
 unfold G117x0 F117x0
 rw [r1, r2]
 simp
theorem sub_drop {a : Int} (n : Int) (h : 0 ≤ a) (hn : 0 ≤ n) : ((bs.drop a.toNat).take (1 + n).toNat).drop 1 = (bs.take (a + 1 + n).toNat).drop (a + 1).toNat := by
 rw [List.take_drop, List.drop_drop, show a.toNat + (1 + n).toNat = (a + 1 + n).toNat by omega, show a.toNat + 1 = (a + 1).toNat by omega]
theorem data_read (hN : maxLen < N) (hb : BytesOk bs) (hl : bs.length ≤ maxLen) {a : Int} (h0 : 0 ≤ a) (h1 : a < bs.length) (hs : Slots p s) {kind slot off : Int} (hk : kind = 2 ∨ kind = 3) (hs0 : 0 ≤ slot) (hs1 : slot < 16) :
  ∃ data dn dn2 data2 ok a' n, tailP N kind slot off (a + 1) false bs p = some (kind, slot, off, true, [], dn, data, ok, a', p) ∧ tailR N kind slot off (bs.drop a.toNat) s = some (kind, slot, off, true, [], dn2, data2, n, ok) ∧ (ok = true → dn2 = dn ∧ data2 = data ∧ Got N bs a p s kind slot off [] data a' p n) := by
 have hm : maxLen = 9223372036854775807 := rfl
 have i1 : inB slot 16 = true := inB_of hs0 (by omega)
 have i2 : slot.toNat < 16 := by omega
 have hlen : ((bs.drop a.toNat).length : Int) = bs.length - a := by simp; omega
 unfold tailP tailR
 rw [i1]
 simp only [_root_.cond_true, bnd_eq, decide_eq_false (show ¬ a + 1 < 0 by omega), _root_.cond_false, ← hs.known _ i2]
 cases hkn : (p.cell (0 + slot.toNat * 6)).toB with
 | false => exact ⟨_, _, _, _, _, _, _, rfl, rfl, fun h => absurd h (by decide)⟩
 | true =>
 obtain ⟨d1, _, _, d4, d5, d6⟩ := hs.defs _ i2 hkn
 have tb := tmL_bound (a := 0) (by omega) d1.size
 have sb := szL_bound d1.size
 have lb := d1.len
 have sf := szL_flds (a := 0) (by omega) d1.size
 obtain ⟨nl1, q3⟩ := G128x0_eq hN d1 (kind == 3)
 have q4 := G127x0_eq hN (d1.flds (kind == 3))
 simp only [Bool.not_true, _root_.cond_false, ← d4, G126x0_eq hN d1, q3, q4, d5, d6, Option.isSome_some, _root_.cond_true, getD_some]
 have e2 : (bif kind == 3 then !(bif decide (tmL 0 (p.cell (3 + slot.toNat * 6)).items < 0) then ((0 : Int), false) else (tmL 0 (p.cell (3 + slot.toNat * 6)).items, true)).2 else false) = (bif kind == 3 then decide (tmL 0 (p.cell (3 + slot.toNat * 6)).items < 0) else false) := by
  cases kind == 3 <;> cases decide (tmL 0 (p.cell (3 + slot.toNat * 6)).items < 0) <;> rfl
 rw [e2]
 cases h3 : (bif kind == 3 then decide (tmL 0 (p.cell (3 + slot.toNat * 6)).items < 0) else false) with
 | true => exact ⟨_, _, _, _, _, _, _, rfl, rfl, fun h => absurd h (by decide)⟩
 | false =>
 have hz : V113x0x89 N (szL (p.cell (3 + slot.toNat * 6)).items) (kind == 3) = szL (flds (kind == 3) (p.cell (3 + slot.toNat * 6)).items) ∧ 0 ≤ szL (flds (kind == 3) (p.cell (3 + slot.toNat * 6)).items) ∧ szL (flds (kind == 3) (p.cell (3 + slot.toNat * 6)).items) ≤ 100000 := by
  unfold V113x0x89 F113x0x89
  rcases hk with rfl | rfl
  ·have e : ((2 : Int) == 3) = false := rfl
   rw [e, szL_flds_false]
   exact ⟨rfl, by omega, by omega⟩
  ·have e : ((3 : Int) == 3) = true := rfl
   rw [e] at h3 ⊢
   simp at h3
   rw [sf.2 h3, _root_.cond_true, wrapI (by omega) (by omega)]
   exact ⟨rfl, by omega, by omega⟩
 obtain ⟨z1, z2, z3⟩ := hz
 rw [z1]
 generalize szL (flds (kind == 3) (p.cell (3 + slot.toNat * 6)).items) = n at z2 z3 ⊢
 simp only [_root_.cond_false, wrapI (x := 1 + n) (by omega) (by omega)]
 by_cases hf : a + 1 + n ≤ bs.length
 ·have lx : ((bs.take (a + 1 + n).toNat).drop (a + 1).toNat).length = n.toNat := by rw [sub_len (by omega)]; omega
  have lx2 : (((bs.drop a.toNat).take (1 + n).toNat).drop 1).length = n.toNat := by simp; omega
  have r1 : decide ((0 + (((bs.drop a.toNat).take (1 + n).toNat).drop 1).length) * 1 ≤ room) = true := decide_eq_true (by rw [lx2]; unfold room; omega)
  have r2 : decide (0 + (((bs.drop a.toNat).take (1 + n).toNat).drop 1).length ≤ strMax) = true := decide_eq_true (by rw [lx2]; unfold strMax; omega)
  rw [piece_ok z2 hl (by omega) (by omega)]
  simp only [getD_some, Option.isSome_some, _root_.cond_true, clone_no (N := N) (show ((bs.take (a + 1 + n).toNat).drop (a + 1).toNat).length ≤ 100000 by omega)]
  rw [r1, r2, decide_eq_true (show a + 1 + n ≥ 0 by omega), decide_eq_false (show ¬ ((bs.drop a.toNat).length : Int) < 1 + n by omega), decide_eq_true (show (1 : Int) ≤ 1 + n by omega), decide_eq_true (show 1 + n ≤ ((bs.drop a.toNat).length : Int) by omega)]
  refine ⟨_, _, _, _, _, _, _, rfl, rfl, fun _ => ⟨Bool.and_false _, sub_drop n h0 z2, ⟨⟨by simp, by omega, fun x hx => by simp at hx, hb.sub _ _⟩, by omega, by omega, by omega, ?_, fun h => by omega, fun _ => rfl⟩⟩⟩
  obtain ⟨nl, l, q, e⟩ := G65_data (N := N) (slot := slot) (off := off) (ds := []) (data := (bs.take (a + 1 + n).toNat).drop (a + 1).toNat) hk (by omega)
  exact ⟨nl, l, q, by omega⟩
 ·rw [piece_no z2 z3 hl (by omega) (by omega) (by omega)]
  simp only [getD_some, Option.isSome_some, _root_.cond_true, clone_no (N := N) (show (List.replicate n.toNat (D.i 0)).length ≤ 100000 by simp; omega)]
  rw [decide_eq_true (show ((bs.drop a.toNat).length : Int) < 1 + n by omega)]
  exact ⟨_, _, _, _, false, _, _, rfl, rfl, fun h => absurd h (by decide)⟩
end
end Go.Proofs.YtngnemeafkmaoaaGreat

namespace Go.Proofs.YtngnemeafkmaoaaGreat
open Go Go.AM
set_option maxRecDepth 100000
set_option maxHeartbeats 4000000
set_option linter.unusedVariables false
variable {N : Nat}
def defAt (bs : List D) (a : Int) : D :=
 .a [.b (by_ bs (a + 1) == 1), .i (numB ((bs.take (a + 4).toNat).drop (a + 2).toNat) (by_ bs (a + 1) == 1)), .l (trip bs (by_ bs (a + 4)).toNat (a + 5)).isEmpty (trip bs (by_ bs (a + 4)).toNat (a + 5))]
def defIn (bs : List D) (a : Int) : Prop := a + 5 ≤ bs.length ∧ a + 5 + 3 * by_ bs (a + 4) ≤ bs.length
section
variable {bs : List D} {p s : D}
theorem piece_any (hb : BytesOk bs) (hl : bs.length ≤ maxLen) {n a : Int} {nl : Bool} (hn : 0 ≤ n) (hn2 : n ≤ 100000) (ha : -1 ≤ a) (ha2 : a ≤ bs.length) :
  ∃ nl' xs a', G114x0 N n a nl bs = some (nl', xs, a') ∧ xs.length = n.toNat ∧ BytesOk xs ∧ -1 ≤ a' ∧ a' ≤ bs.length ∧ (0 ≤ a ∧ a + n ≤ bs.length → a' = a + n ∧ xs = (bs.take (a + n).toNat).drop a.toNat) ∧ (¬ (0 ≤ a ∧ a + n ≤ bs.length) → a' = -1) := by
 by_cases h : 0 ≤ a ∧ a + n ≤ bs.length
 ·obtain ⟨h1, h2⟩ := h
  exact ⟨_, _, _, piece_ok hn hl h1 h2, by rw [sub_len (by omega)]; omega, hb.sub _ _, by omega, by omega, fun _ => ⟨rfl, rfl⟩, fun h => absurd ⟨h1, h2⟩ h⟩
 ·refine ⟨_, _, _, piece_no hn hn2 hl ha ha2 (by omega), by simp, fun x hx => ?_, by omega, by omega, fun h' => absurd h' h, fun _ => rfl⟩
  rw [(List.mem_replicate.1 hx).2]
  exact ⟨by decide, by decide⟩
theorem one_by {n a : Int} {xs : List D} (ha : 0 ≤ a) (hn : n = 1) (h : xs = (bs.take (a + n).toNat).drop a.toNat) : (xs.getD 0 (.i 0)).toI = by_ bs a := by
 subst h hn
 have := sub_by (bs := bs) (a := a) (n := 1) (k := 0) ha (by omega) (by omega)
 rw [Int.add_zero] at this
 exact this
theorem byte0 {xs : List D} (hb : BytesOk xs) (h : xs.length = 1) : 0 ≤ (xs.getD 0 (.i 0)).toI ∧ (xs.getD 0 (.i 0)).toI ≤ 255 := getB (i := 0) hb (by omega) (by omega)
theorem prog_def (hN : maxLen < N) (hb : BytesOk bs) (hl : bs.length ≤ maxLen) {a c : Int} {nl : Bool} (h0 : 0 ≤ a) (h1 : a < bs.length) (c0 : 64 ≤ c) (c1 : c ≤ 79) :
  ∃ ok a' p' d, G113x0x24023 N c false (a + 1) nl bs p = some (.inr (.inl (ok, a', p', c - 64, c - 64, [d]))) ∧
   (ok = true ↔ (defIn bs a ∧ by_ bs (a + 1) ≤ 1)) ∧
   (defIn bs a → a' = a + 5 + 3 * by_ bs (a + 4) ∧ d = defAt bs a ∧ ∀ s, Slots p s → Slots p' ((((s.put (0 + (c - 64).toNat * 1) (.b true)).put (16 + (c - 64).toNat * 3) (.b (by_ bs (a + 1) == 1))).put (17 + (c - 64).toNat * 3) (.i (numB ((bs.take (a + 4).toNat).drop (a + 2).toNat) (by_ bs (a + 1) == 1)))).put (18 + (c - 64).toNat * 3) (.l (trip bs (by_ bs (a + 4)).toNat (a + 5)).isEmpty (trip bs (by_ bs (a + 4)).toNat (a + 5))))) := by
 have hm : maxLen = 9223372036854775807 := rfl
 obtain ⟨nl1, x1, a1, q1, l1, b1, m1, M1, y1, n1⟩ := piece_any (N := N) hb hl (n := 1) (a := a + 1) (nl := nl) (by omega) (by omega) (by omega) (by omega)
 obtain ⟨nl2, x2, a2, q2, l2, b2, m2, M2, y2, n2⟩ := piece_any (N := N) hb hl (n := 2) (a := a1) (nl := nl) (by omega) (by omega) (by omega) (by omega)
 obtain ⟨nl3, x3, a3, q3, l3, b3, m3, M3, y3, n3⟩ := piece_any (N := N) hb hl (n := 1) (a := a2) (nl := nl) (by omega) (by omega) (by omega) (by omega)
 have l1' : x1.length = 1 := l1
 have l2' : x2.length = 2 := l2
 have l3' : x3.length = 1 := l3
 have k1 := byte0 b1 l1'
 have k3 := byte0 b3 l3'
 obtain ⟨a4, fs, q4, fo, y4, n4⟩ := G113x0x48_eq (N := N) hN hb hl (c := (x3.getD 0 (.i 0)).toI) (a := a3) (nl := nl) k3.1 k3.2 m3 M3
 have i1 : inB (c - 64) 16 = true := inB_of (by omega) (by omega)
 have i0 : inB 0 1 = true := rfl
 have hv : V115x0 N c 64 79 = true := by
  rw [V115x0_eq]; unfold inI; simp; omega
 refine ⟨(bif decide (a4 ≥ 0) then decide ((x1.getD 0 (.i 0)).toI ≤ 1) else false), a4, ((((((p.put (0 + ((c - 64).toNat * 6)) (.b true)).put (1 + ((c - 64).toNat * 6)) (.b ((x1.getD 0 (.i 0)).toI == 1))).put (2 + ((c - 64).toNat * 6)) (.i (numB x2 ((x1.getD 0 (.i 0)).toI == 1)))).put (3 + ((c - 64).toNat * 6)) (.l fs.isEmpty fs)).put (4 + ((c - 64).toNat * 6)) (.i (szL fs))).put (5 + ((c - 64).toNat * 6)) (.i (tmL 0 fs))), .a [.b ((x1.getD 0 (.i 0)).toI == 1), .i (numB x2 ((x1.getD 0 (.i 0)).toI == 1)), .l fs.isEmpty fs], ?_, ?_, fun hd => ?_⟩
 ·unfold G113x0x24023 F113x0x24023
  simp only [_root_.cond_false, decide_eq_false (show ¬ c < 16 by omega), bnd_eq, hv, _root_.cond_true, q1, q2, q3, Option.isSome_some, getD_some, l1', l3', i0, G49x0_eq (N := N) hN b2 _ (show x2.length ≤ 4 by omega), q4, G116x0_eq hN fo, wrapI (x := c - 64) (by omega) (by omega), i1]
 ·have hc : by_ bs (a + 4) = by_ bs (a + 4) := rfl
  constructor
  ·intro h
   by_cases h4 : a4 ≥ 0
   ·rw [decide_eq_true h4] at h
    simp only [_root_.cond_true, decide_eq_true_eq] at h
    have g4 : 0 ≤ a3 ∧ a3 + 3 * (x3.getD 0 (.i 0)).toI ≤ bs.length := by
     refine Classical.byContradiction fun hh => ?_
     have := n4 hh; omega
    have g3 : 0 ≤ a2 ∧ a2 + 1 ≤ bs.length := by
     refine Classical.byContradiction fun hh => ?_
     have := n3 hh; omega
    have g2 : 0 ≤ a1 ∧ a1 + 2 ≤ bs.length := by
     refine Classical.byContradiction fun hh => ?_
     have := n2 hh; omega
    have g1 : 0 ≤ a + 1 ∧ a + 1 + 1 ≤ bs.length := by
     refine Classical.byContradiction fun hh => ?_
     have := n1 hh; omega
    obtain ⟨e1, z1⟩ := y1 g1
    obtain ⟨e2, z2⟩ := y2 g2
    obtain ⟨e3, z3⟩ := y3 g3
    have v1 := one_by (by omega) rfl z1
    have v3 := one_by (by omega) rfl z3
    have ea2 : a2 = a + 4 := by omega
    rw [ea2] at v3
    rw [v1] at h
    rw [v3] at g4
    exact ⟨⟨by omega, by omega⟩, h⟩
   ·rw [decide_eq_false h4] at h; exact absurd h (by simp)
  ·rintro ⟨⟨h5, h6⟩, h7⟩
   obtain ⟨e1, z1⟩ := y1 (by omega)
   obtain ⟨e2, z2⟩ := y2 (by omega)
   obtain ⟨e3, z3⟩ := y3 (by omega)
   have v1 := one_by (by omega) rfl z1
   have v3 := one_by (by omega) rfl z3
   have ea2 : a2 = a + 4 := by omega
   rw [ea2] at v3
   obtain ⟨e4, z4⟩ := y4 (by rw [v3]; omega)
   rw [v1, decide_eq_true (show a4 ≥ 0 by omega), decide_eq_true h7]; rfl
 ·obtain ⟨h5, h6⟩ := hd
  obtain ⟨e1, z1⟩ := y1 (by omega)
  obtain ⟨e2, z2⟩ := y2 (by omega)
  obtain ⟨e3, z3⟩ := y3 (by omega)
  have v1 := one_by (by omega) rfl z1
  have v3 := one_by (by omega) rfl z3
  have ea2 : a2 = a + 4 := by omega
  rw [ea2] at v3
  obtain ⟨e4, z4⟩ := y4 (by rw [v3]; omega)
  have ea1 : a1 = a + 2 := by omega
  have ea3 : a3 = a + 5 := by omega
  rw [ea1, show a + 2 + 2 = a + 4 by omega] at z2
  rw [ea3, v3] at z4 e4
  refine ⟨e4, ?_, fun s hs => ?_⟩
  ·unfold defAt
   rw [v1, z2, ← z4]
  ·rw [v1, ← z2, ← z4]
   exact slots_put hs (by omega) fo
theorem ref_def (hN : maxLen < N) (hb : BytesOk bs) (hl : bs.length ≤ maxLen) {a : Int} (h0 : 0 ≤ a) (h1 : a < bs.length) :
  (¬ (defIn bs a ∧ by_ bs (a + 1) ≤ 1) → ∃ x y z, G125x0 N (bs.drop a.toNat) = some (x, y, z, false)) ∧
  (defIn bs a ∧ by_ bs (a + 1) ≤ 1 → G125x0 N (bs.drop a.toNat) = some (false, [defAt bs a], 5 + 3 * by_ bs (a + 4), true)) := by
 have hm : maxLen = 9223372036854775807 := rfl
 have hlen : ((bs.drop a.toNat).length : Int) = bs.length - a := by simp; omega
 by_cases h5 : a + 5 ≤ bs.length
 ·have e1 : ((bs.drop a.toNat).getD 1 (.i 0)).toI = by_ bs (a + 1) := drop_by (k := 1) h0 (by omega)
  have e4 : ((bs.drop a.toNat).getD 4 (.i 0)).toI = by_ bs (a + 4) := drop_by (k := 4) h0 (by omega)
  have b1 := by_in hb (i := a + 1) (by omega) (by omega)
  have b4 := by_in hb (i := a + 4) (by omega) (by omega)
  have i1 : inB 1 (bs.drop a.toNat).length = true := inB_of (by omega) (by omega)
  have i4 : inB 4 (bs.drop a.toNat).length = true := inB_of (by omega) (by omega)
  have es : ((bs.drop a.toNat).take 4).drop 2 = (bs.take (a + 4).toNat).drop (a + 2).toNat := by
   rw [List.take_drop, List.drop_drop, show a.toNat + 4 = (a + 4).toNat by omega, show a.toNat + 2 = (a + 2).toNat by omega]
  have ln : ((bs.take (a + 4).toNat).drop (a + 2).toNat).length ≤ 4 := by rw [sub_len (by omega)]; omega
  have ne : G125x0 N (bs.drop a.toNat) = bif decide (by_ bs (a + 1) > 1) then some (true, [], 0, false) else bif decide (((bs.drop a.toNat).length : Int) < 5 + 3 * by_ bs (a + 4)) then some (true, [], 0, false) else bnd (G125x0x30 N (bs.drop a.toNat) (by_ bs (a + 4)) 0 true []) fun y4 => bif y4.isSome then some (false, [(.a [(.b (by_ bs (a + 1) == 1)), (.i (numB ((bs.take (a + 4).toNat).drop (a + 2).toNat) (by_ bs (a + 1) == 1))), (.l (y4.getD default).1 (y4.getD default).2)])], 5 + 3 * by_ bs (a + 4), true) else none := by
   unfold G125x0 F125x0
   rw [i1, e1, e4, i4, decide_eq_false (show ¬ ((bs.drop a.toNat).length : Int) < 5 by omega), decide_eq_true (show (4 : Int) ≤ ((bs.drop a.toNat).length : Int) by omega), es, wrapI (x := by_ bs (a + 4)) (by omega) (by omega), wrapI (x := 3 * by_ bs (a + 4)) (by omega) (by omega), G59x0_eq (N := N) hN (hb.sub _ _) _ ln]
   simp only [bnd_eq, wrapI (x := 5 + 3 * by_ bs (a + 4)) (by omega) (by omega)]
   rfl
  rw [ne]
  unfold defIn
  by_cases h6 : by_ bs (a + 1) ≤ 1
  ·rw [decide_eq_false (show ¬ by_ bs (a + 1) > 1 by omega)]
   by_cases h7 : a + 5 + 3 * by_ bs (a + 4) ≤ bs.length
   ·refine ⟨fun h => absurd ⟨⟨h5, h7⟩, h6⟩ h, fun _ => ?_⟩
    rw [decide_eq_false (show ¬ ((bs.drop a.toNat).length : Int) < 5 + 3 * by_ bs (a + 4) by omega), G125x0x30_eq (N := N) hN (hb.drop _) (by omega) (by omega) (by omega) (by omega), trip_drop h0 _ _ (by omega)]
    rfl
   ·refine ⟨fun _ => ?_, fun h => absurd h.1.2 h7⟩
    rw [decide_eq_true (show ((bs.drop a.toNat).length : Int) < 5 + 3 * by_ bs (a + 4) by omega)]
    exact ⟨_, _, _, rfl⟩
  ·refine ⟨fun _ => ?_, fun h => absurd h.2 h6⟩
   rw [decide_eq_true (show by_ bs (a + 1) > 1 by omega)]
   exact ⟨_, _, _, rfl⟩
 ·refine ⟨fun _ => ?_, fun h => absurd h.1.1 h5⟩
  unfold G125x0 F125x0
  rw [decide_eq_true (show ((bs.drop a.toNat).length : Int) < 5 by omega)]
  cases inB 1 (bs.drop a.toNat).length <;> exact ⟨_, _, _, rfl⟩
end
end Go.Proofs.YtngnemeafkmaoaaGreat

namespace Go.Proofs.YtngnemeafkmaoaaGreat
open Go Go.AM
set_option maxRecDepth 100000
set_option maxHeartbeats 4000000
set_option linter.unusedVariables false
variable {N : Nat}
section
variable {bs : List D} {p s : D}
theorem def_got (hN : maxLen < N) (hb : BytesOk bs) (hl : bs.length ≤ maxLen) {a c : Int} (h0 : 0 ≤ a) (hd : defIn bs a) (c0 : 64 ≤ c) (c1 : c ≤ 79) {p' : D}
  (hp : ∀ s, Slots p s → Slots p' ((((s.put (0 + (c - 64).toNat * 1) (.b true)).put (16 + (c - 64).toNat * 3) (.b (by_ bs (a + 1) == 1))).put (17 + (c - 64).toNat * 3) (.i (numB ((bs.take (a + 4).toNat).drop (a + 2).toNat) (by_ bs (a + 1) == 1)))).put (18 + (c - 64).toNat * 3) (.l (trip bs (by_ bs (a + 4)).toNat (a + 5)).isEmpty (trip bs (by_ bs (a + 4)).toNat (a + 5)))))
  (hs : Slots p s) : Got N bs a p s 1 (c - 64) 0 [defAt bs a] [] (a + 5 + 3 * by_ bs (a + 4)) p' (5 + 3 * by_ bs (a + 4)) := by
 have hm : maxLen = 9223372036854775807 := rfl
 obtain ⟨h5, h6⟩ := hd
 have b4 := by_in hb (i := a + 4) (by omega) (by omega)
 have tl := trip_len (bs := bs) (by_ bs (a + 4)).toNat (a + 5)
 refine ⟨⟨by simp; omega, by simp, fun x hx => ?_, fun x hx => by simp at hx⟩, by omega, by omega, by omega, ?_, fun _ => ?_, fun h => absurd rfl h⟩
 ·rw [List.mem_singleton.1 hx]
  show (trip bs (by_ bs (a + 4)).toNat (a + 5)).length ≤ maxLen
  omega
 ·obtain ⟨nl, l, q, e⟩ := G65_def (N := N) hN (slot := c - 64) (off := 0) (g := numB ((bs.take (a + 4).toNat).drop (a + 2).toNat) (by_ bs (a + 1) == 1)) (arch := by_ bs (a + 1) == 1) (nl := (trip bs (by_ bs (a + 4)).toNat (a + 5)).isEmpty) (fs := trip bs (by_ bs (a + 4)).toNat (a + 5)) (data := []) (by omega)
  exact ⟨nl, l, q, by rw [e, tl]; omega⟩
 ·refine ⟨_, ?_, hp s hs⟩
  have i1 : inB (c - 64) 16 = true := inB_of (by omega) (by omega)
  have i0 : inB 0 ([defAt bs a] : List D).length = true := rfl
  unfold G62x0 F62x0
  simp only [i1, i0, beq_self_eq_true, _root_.cond_true]
  rfl
theorem entry_read (hN : maxLen < N) (hb : BytesOk bs) (hl : bs.length ≤ maxLen) {a : Int} {nl : Bool} (h0 : 0 ≤ a) (h1 : a ≤ bs.length) (hnl : nl = true → bs = []) (hs : Slots p s) :
  ∃ kind slot off dn ds xn data ok a' p' r2, G113x0 N a nl bs p = some (kind, slot, off, dn, ds, xn, data, ok, a', p') ∧ G61x0 N (bs.drop a.toNat) s = some r2 ∧ r2.2.2.2.2.2.2.2.2 = ok ∧
   (ok = true → ∃ n, r2 = (kind, slot, off, dn, ds, xn, data, n, true) ∧ Got N bs a p s kind slot off ds data a' p' n) := by
 have hm : maxLen = 9223372036854775807 := rfl
 by_cases he : a = bs.length
 ·have er : bs.drop a.toNat = [] := List.drop_eq_nil_of_le (by omega)
  have q0 := piece_no (N := N) (n := 1) (nl := nl) (by omega) (by omega) hl (by omega) h1 (a := a) (by omega)
  rw [er]
  have ep : G113x0 N a nl bs p = some (2, 0, 0, true, [], true, [], false, -1, p) := by
   unfold G113x0 F113x0
   rw [q0]
   rfl
  exact ⟨_, _, _, _, _, _, _, _, _, _, _, ep, rfl, rfl, fun h => absurd h (by decide)⟩
 ·have h1 : a < bs.length := by omega
  have hn : nl = false := by
   cases nl with
   | false => rfl
   | true => rw [hnl rfl] at h1; simp at h1; omega
  subst hn
  have hlen : ((bs.drop a.toNat).length : Int) = bs.length - a := by simp; omega
  have q0 := piece_ok (N := N) (n := 1) (nl := false) (by omega) hl h0 (show a + 1 ≤ bs.length by omega)
  have l0 : ((bs.take (a + 1).toNat).drop a.toNat).length = 1 := by rw [sub_len (by omega)]; omega
  have v0 : (((bs.take (a + 1).toNat).drop a.toNat).getD 0 (.i 0)).toI = by_ bs a := one_by h0 rfl rfl
  have v1 : ((bs.drop a.toNat).getD 0 (.i 0)).toI = by_ bs a := by
   have := drop_by (bs := bs) (k := 0) h0 (by omega)
   rw [Int.add_zero] at this
   exact this
  obtain ⟨c0, c1⟩ := by_in hb h0 h1
  have i0 : inB 0 1 = true := rfl
  have i2 : inB 0 (bs.drop a.toNat).length = true := inB_of (by omega) (by omega)
  have z2 : (((bs.drop a.toNat).length : Int) == 0) = false := by simp; omega
  unfold G113x0 F113x0 G61x0 F61x0
  rw [q0, z2]
  simp only [bnd_eq, Option.isSome_some, getD_some, _root_.cond_true, _root_.cond_false, l0, i0, i2, v0, v1, wrapI (x := by_ bs a) (by omega) (by omega)]
  generalize hc : by_ bs a = c at c0 c1
  by_cases c2 : c ≥ 128
  ·have w1 : IntKind.wrap .i64 (c - 128) = c - 128 := wrapI (by omega) (by omega)
   have m1 : (c - 128).tdiv 32 = (c - 128) / 32 := Int.tdiv_eq_ediv_of_nonneg (by omega)
   have m2 : c.tmod 32 = c % 32 := Int.tmod_eq_emod_of_nonneg (by omega)
   have g1 : G113x0x24023 N c true (a + 1) false bs p = some (.inl (3, (c - 128) / 32, c % 32)) := by
    unfold G113x0x24023 F113x0x24023
    rw [w1, m1, m2, wrapI (by omega) (by omega)]; rfl
   have g2 : G61x0x24023 N (bs.drop a.toNat) c true = some (.inl (3, (c - 128) / 32, c % 32)) := by
    unfold G61x0x24023 F61x0x24023
    rw [w1, m1, m2, wrapI (by omega) (by omega)]; rfl
   rw [decide_eq_true c2, g1, g2]
   obtain ⟨data, dn, dn2, data2, ok, a', n, t1, t2, t3⟩ := data_read (N := N) hN hb hl h0 h1 hs (kind := 3) (slot := (c - 128) / 32) (off := c % 32) (.inr rfl) (by omega) (by omega)
   refine ⟨3, (c - 128) / 32, c % 32, true, [], dn, data, ok, a', p, _, t1, t2, rfl, fun hok => ?_⟩
   obtain ⟨e1, e2, e3⟩ := t3 hok
   exact ⟨n, by rw [e1, e2, hok], e3⟩
  ·rw [decide_eq_false c2]
   by_cases c3 : c < 16
   ·have g1 : G113x0x24023 N c false (a + 1) false bs p = some (.inl (2, c, 0)) := by
     unfold G113x0x24023 F113x0x24023
     rw [decide_eq_true c3]; rfl
    have g2 : G61x0x24023 N (bs.drop a.toNat) c false = some (.inl (2, c, 0)) := by
     unfold G61x0x24023 F61x0x24023
     rw [decide_eq_false (show ¬ c ≥ 80 by omega), decide_eq_false (show ¬ c ≥ 16 by omega), decide_eq_false (show ¬ c ≥ 64 by omega)]; rfl
    rw [g1, g2]
    obtain ⟨data, dn, dn2, data2, ok, a', n, t1, t2, t3⟩ := data_read (N := N) hN hb hl h0 h1 hs (kind := 2) (slot := c) (off := 0) (.inl rfl) (by omega) (by omega)
    refine ⟨2, c, 0, true, [], dn, data, ok, a', p, _, t1, t2, rfl, fun hok => ?_⟩
    obtain ⟨e1, e2, e3⟩ := t3 hok
    exact ⟨n, by rw [e1, e2, hok], e3⟩
   ·by_cases c4 : 64 ≤ c ∧ c ≤ 79
    ·obtain ⟨c4, c5⟩ := c4
     obtain ⟨ok, a', p', d, g1, ho, hd⟩ := prog_def (N := N) (p := p) hN hb hl (nl := false) h0 h1 c4 c5
     obtain ⟨r1, r2⟩ := ref_def (N := N) hN hb hl h0 h1
     have w1 : IntKind.wrap .i64 (c - 64) = c - 64 := wrapI (by omega) (by omega)
     have g2 : ∀ y, G125x0 N (bs.drop a.toNat) = some y → G61x0x24023 N (bs.drop a.toNat) c false = some (.inr (.inr (y.2.2.1, y.2.2.2, c - 64, y.1, y.2.1))) := fun y hy => by
      unfold G61x0x24023 F61x0x24023
      rw [decide_eq_false (show ¬ c ≥ 80 by omega), decide_eq_true (show c ≥ 16 by omega), decide_eq_false (show ¬ c < 64 by omega), decide_eq_true (show c ≥ 64 by omega), hy, w1]; rfl
     rw [g1]
     by_cases hy : defIn bs a ∧ by_ bs (a + 1) ≤ 1
     ·have hok : ok = true := ho.2 hy
      obtain ⟨e1, e2, e3⟩ := hd hy.1
      rw [g2 _ (r2 hy)]
      subst hok e1 e2
      exact ⟨1, c - 64, 0, false, [defAt bs a], true, [], true, _, p', _, rfl, rfl, rfl, fun _ => ⟨_, rfl, def_got hN hb hl h0 hy.1 c4 c5 e3 hs⟩⟩
     ·have hok : ok = false := by
       cases ok with
       | false => rfl
       | true => exact absurd (ho.1 rfl) hy
      obtain ⟨x, y, z, e⟩ := r1 hy
      rw [g2 _ e]
      subst hok
      exact ⟨1, c - 64, 0, false, [d], true, [], false, _, p', _, rfl, rfl, rfl, fun h => absurd h (by decide)⟩
    ·have hv : V115x0 N c 64 79 = false := by
      rw [V115x0_eq]; unfold inI; simp; omega
     have g1 : G113x0x24023 N c false (a + 1) false bs p = some (.inr (.inr ())) := by
      unfold G113x0x24023 F113x0x24023
      rw [decide_eq_false c3, hv]; rfl
     have g2 : G61x0x24023 N (bs.drop a.toNat) c false = some (.inr (.inl ())) := by
      unfold G61x0x24023 F61x0x24023
      have e : (bif decide (c ≥ 80) then true else bif decide (c ≥ 16) then decide (c < 64) else false) = true := by
       by_cases h : c ≥ 80
       ·rw [decide_eq_true h]; rfl
       ·rw [decide_eq_false h, decide_eq_true (show c ≥ 16 by omega), decide_eq_true (show c < 64 by omega)]; rfl
      rw [e]; rfl
     rw [g1, g2]
     exact ⟨0, 0, 0, true, [], true, [], false, _, p, _, rfl, rfl, rfl, fun h => absurd h (by decide)⟩
end
end Go.Proofs.YtngnemeafkmaoaaGreat

namespace Go.Proofs.YtngnemeafkmaoaaGreat
open Go Go.AM
set_option maxRecDepth 100000
set_option maxHeartbeats 4000000
set_option linter.unusedVariables false
variable {N : Nat}
section
variable {b : List D}
structure Lst (l : List D) : Prop where
 e : ∀ x ∈ l, EntD x
 n : l.length ≤ 10000000
theorem Lst.nil : Lst [] := ⟨by simp, by simp⟩
theorem drop_body {L i : Int} (hi : 0 ≤ i) : (b.take L.toNat).drop (8 + i).toNat = ((b.take L.toNat).drop 8).drop i.toNat := by
 rw [List.drop_drop, show (8 + i).toNat = 8 + i.toNat by omega]
theorem read_loop (hN : maxLen < N) (hb : BytesOk b) (hl : b.length ≤ 4000000) (h12 : 12 ≤ b.length) {nl : Bool} (hnl : nl = true → b = []) : ∀ (m : Nat) (i : Int) (p s : D) (f : Bool) (acc : List D), 0 ≤ i → i ≤ b.length - 12 → ((b.length : Int) - 12 - i).toNat < m → Slots p s → (acc.length : Int) ≤ i → (∀ x ∈ acc, EntD x) →
  ∃ r : Sum (Int × Bool × LD) (Bool × LD), L20x0x33 N ((b.take ((b.length : Int) - 4).toNat).drop 8) nl ((b.take ((b.length : Int) - 4).toNat).drop 8) m i f acc i p (fun p => some (.inl p)) (fun p => some (.inr p)) = some r ∧
   L22x0x33 N b ((b.length : Int) - 4) m (8 + i) s f acc (fun p => some (.inl p)) (fun p => some (.inr p)) = some r ∧ (∀ x, r = .inr x → Lst x.2) := by
 have hm : maxLen = 9223372036854775807 := rfl
 have lb : (((b.take ((b.length : Int) - 4).toNat).drop 8).length : Int) = b.length - 12 := by simp; omega
 have hb' : BytesOk ((b.take ((b.length : Int) - 4).toNat).drop 8) := hb.sub _ _
 have hnl' : nl = true → (b.take ((b.length : Int) - 4).toNat).drop 8 = [] := fun h => by rw [hnl h]; rfl
 intro m
 induction m with
 | zero => intro i p s f acc _ _ h; omega
 | succ m ih =>
  intro i p s f acc h0 h1 hmm hs ha he
  unfold L20x0x33 L22x0x33 S20x0x33 S22x0x33
  by_cases hi : i < b.length - 12
  ·obtain ⟨kind, slot, off, dn, ds, xn, data, ok, a', p', r2, q1, q2, eo, hg⟩ := entry_read (N := N) (p := p) (s := s) hN hb' (by omega) (a := i) (nl := nl) h0 (by omega) hnl' hs
   rw [decide_eq_true (show i < (((b.take ((b.length : Int) - 4).toNat).drop 8).length : Int) by omega), decide_eq_true (show 8 + i < (b.length : Int) - 4 by omega), decide_eq_true (show (0 : Int) ≤ 8 + i by omega), decide_eq_true (show 8 + i ≤ (b.length : Int) - 4 by omega), decide_eq_true (show (b.length : Int) - 4 ≤ (b.length : Int) by omega), drop_body h0, q1, q2]
   simp only [_root_.cond_true, bnd_eq, Option.isSome_some, getD_some, Bool.and_self, eo]
   cases ok with
   | false =>
    refine ⟨.inl (8 + i, f, acc), ?_, rfl, fun x hx => by simp at hx⟩
    simp only [Bool.not_false, _root_.cond_true]
    rw [wrapI (by omega) (by omega)]
   | true =>
    obtain ⟨n, rfl, g⟩ := hg rfl
    have ga := g.a
    have gn := g.n1
    have gl := g.le
    obtain ⟨gnl, gl2, g65, g65l⟩ := g.len
    have r1 : decide ((acc.length + 1) * 72 ≤ room) = true := decide_eq_true (by unfold room; omega)
    have r2 : decide (acc.length + 1 ≤ strMax) = true := decide_eq_true (by unfold strMax; omega)
    have h50 : ∃ s', G22x0x50 N (kind == 1) kind slot off ds data s = some s' ∧ Slots p' s' := by
     unfold G22x0x50 F22x0x50
     by_cases hk : kind = 1
     ·obtain ⟨s', e1, e2⟩ := g.d hk
      have hk' : (kind == 1) = true := by simpa using hk
      rw [hk', e1]
      exact ⟨s', rfl, e2⟩
     ·have hk' : (kind == 1) = false := by simpa using hk
      rw [hk', g.o hk]
      exact ⟨s, rfl, hs⟩
    obtain ⟨s', e50, hs'⟩ := h50
    simp only [Bool.not_true, _root_.cond_false, r1, r2, Bool.and_self, _root_.cond_true, g65, e50, Option.isSome_some, getD_some]
    rw [wrapI (x := i + (gl2.length : Int)) (by omega) (by omega), wrapI (x := 8 + i + n) (by omega) (by omega), show i + (gl2.length : Int) = i + n by omega, ga, show 8 + i + n = 8 + (i + n) by omega]
    refine ih (i + n) p' s' false _ (by omega) (by omega) (by omega) hs' (by simp; omega) ?_
    intro x hx
    rcases List.mem_append.1 hx with hx | hx
    ·exact he x hx
    ·rw [List.mem_singleton.1 hx]
     exact g.e
  ·rw [decide_eq_false (show ¬ i < (((b.take ((b.length : Int) - 4).toNat).drop 8).length : Int) by omega), decide_eq_false (show ¬ 8 + i < (b.length : Int) - 4 by omega)]
   exact ⟨.inr (f, acc), rfl, rfl, fun x hx => by simp at hx; subst hx; exact ⟨he, by simp only; omega⟩⟩
theorem zero82 : Slots (V51x0 N) zeroS := zero_slots _ (by kernel_rfl)
theorem head_eq (hN : maxLen < N) (hb : BytesOk b) (hl : b.length ≤ maxLen) : ∃ y, G20x0x10 N b = some y ∧ G22x0x10 N b = some y ∧ (y = false → 12 ≤ b.length) := by
 have hm : maxLen = 9223372036854775807 := rfl
 unfold G20x0x10 F20x0x10 G22x0x10 F22x0x10
 by_cases h : (b.length : Int) < 12
 ·rw [decide_eq_true h]; exact ⟨true, rfl, rfl, fun h => absurd h (by decide)⟩
 ·rw [decide_eq_false h, decide_eq_true (show (4 : Int) ≤ (b.length : Int) by omega), decide_eq_true (show (8 : Int) ≤ (b.length : Int) by omega)]
  simp only [_root_.cond_false, _root_.cond_true, bnd_eq]
  cases (!(strD ((b.take 4).drop 0)) == ([72, 65, 82, 49] : List UInt8)) with
  | true => exact ⟨true, rfl, rfl, fun h => absurd h (by decide)⟩
  | false =>
   have ln : ((b.take 8).drop 4).length ≤ 4 := by simp; omega
   rw [G49x0_eq (N := N) hN (hb.sub 4 8) _ ln, G59x0_eq (N := N) hN (hb.sub 4 8) _ ln, wrapI (x := (b.length : Int) - 8) (by omega) (by omega), wrapI (x := (b.length : Int) - 8 - 4) (by omega) (by omega), wrapI (x := (b.length : Int) - 12) (by omega) (by omega), show (b.length : Int) - 8 - 4 = (b.length : Int) - 12 by omega]
   exact ⟨_, rfl, rfl, fun _ => by omega⟩
theorem read_eq (hN : maxLen < N) (hb : BytesOk b) (hl : b.length ≤ maxLen) {nl : Bool} (hnl : nl = true → b = []) : ∃ r, G20x0 N nl b = some r ∧ G22x0 N b = some r ∧ Lst r.2.1 := by
 have hm : maxLen = 9223372036854775807 := rfl
 by_cases h4 : (b.length : Int) > 4000000
 ·unfold G20x0 F20x0 G22x0 F22x0
  rw [decide_eq_true h4]; exact ⟨_, rfl, rfl, Lst.nil⟩
 ·obtain ⟨y, q1, q2, hy⟩ := head_eq (N := N) hN hb hl
  cases y with
  | true =>
   unfold G20x0 F20x0 G22x0 F22x0
   rw [decide_eq_false h4, q1, q2]; exact ⟨_, rfl, rfl, Lst.nil⟩
  | false =>
   have h12 := hy rfl
   have w4 : IntKind.wrap .i64 ((b.length : Int) - 4) = (b.length : Int) - 4 := wrapI (by omega) (by omega)
   have b0 : BytesOk ((b.take ((b.length : Int) - 4).toNat).drop 0) := hb.sub _ _
   have l0 : ((b.take ((b.length : Int) - 4).toNat).drop 0).length ≤ maxLen := by simp; omega
   have b1 : BytesOk ((b.take (b.length : Int).toNat).drop ((b.length : Int) - 4).toNat) := hb.sub _ _
   have l1 : ((b.take (b.length : Int).toNat).drop ((b.length : Int) - 4).toNat).length ≤ 4 := by simp; omega
   obtain ⟨r, z1, z2, z3⟩ := read_loop (N := N) hN hb (by omega) h12 hnl N 0 (V51x0 N) zeroS true [] (by omega) (by omega) (by omega) zero82 (by simp) (by simp)
   have y1 : G20x0x33 N ((b.take ((b.length : Int) - 4).toNat).drop 8) nl ((b.take ((b.length : Int) - 4).toNat).drop 8) 0 true [] 0 (V51x0 N) = some r := z1
   have y2 : G22x0x33 N b ((b.length : Int) - 4) 8 zeroS true [] = some r := z2
   have k1 : G20x0 N nl b = bif sumL 1 ((b.take ((b.length : Int) - 4).toNat).drop 0) != numB ((b.take (b.length : Int).toNat).drop ((b.length : Int) - 4).toNat) true then some (true, [], 0, 1) else
     bnd (G20x0x33 N ((b.take ((b.length : Int) - 4).toNat).drop 8) nl ((b.take ((b.length : Int) - 4).toNat).drop 8) 0 true [] 0 (V51x0 N)) fun y7 => bif (inlB y7) then some (true, [], (inlV y7).1, 6) else bif (inrQ y7).isSome then bnd (G53x0 N ((inrQ y7).getD default).2) fun y8 =>
      bif y8.isSome then bif ((y8.getD default) != 0) then some (true, [], 0, (y8.getD default)) else some (((inrQ y7).getD default).1, ((inrQ y7).getD default).2, 0, 0) else none else none := by
    unfold G20x0 F20x0
    rw [decide_eq_false h4, q1, w4]
    simp only [_root_.cond_false, bnd_eq, Option.isSome_some, getD_some, _root_.cond_true, G50x0_eq (N := N) hN b0 l0, G49x0_eq (N := N) hN b1 _ l1]
    rw [decide_eq_true (show (0 : Int) ≤ (b.length : Int) - 4 by omega), decide_eq_true (show (b.length : Int) - 4 ≤ (b.length : Int) by omega), decide_eq_true (Int.le_refl (b.length : Int)), decide_eq_true (show (8 : Int) ≤ (b.length : Int) - 4 by omega)]
    rfl
   have k2 : G22x0 N b = bif numB ((b.take (b.length : Int).toNat).drop ((b.length : Int) - 4).toNat) true != sumL 1 ((b.take ((b.length : Int) - 4).toNat).drop 0) then some (true, [], 0, 1) else
     bnd (G22x0x33 N b ((b.length : Int) - 4) 8 zeroS true []) fun y7 => bif (inlB y7) then some (true, [], (inlV y7).1, 6) else bif (inrQ y7).isSome then bnd (G63x0 N ((inrQ y7).getD default).2) fun y8 =>
      bif y8.isSome then bif ((y8.getD default) != 0) then some (true, [], 0, (y8.getD default)) else some (((inrQ y7).getD default).1, ((inrQ y7).getD default).2, 0, 0) else none else none := by
    unfold G22x0 F22x0
    rw [decide_eq_false h4, q2, w4]
    simp only [_root_.cond_false, bnd_eq, Option.isSome_some, getD_some, _root_.cond_true, G60x0_eq (N := N) hN b0 l0, G59x0_eq (N := N) hN b1 _ l1]
    rw [decide_eq_true (show (0 : Int) ≤ (b.length : Int) - 4 by omega), decide_eq_true (show (b.length : Int) - 4 ≤ (b.length : Int) by omega), decide_eq_true (Int.le_refl (b.length : Int))]
    rfl
   rw [k1, k2, y1, y2]
   have eb : (numB ((b.take (b.length : Int).toNat).drop ((b.length : Int) - 4).toNat) true != sumL 1 ((b.take ((b.length : Int) - 4).toNat).drop 0)) = (sumL 1 ((b.take ((b.length : Int) - 4).toNat).drop 0) != numB ((b.take (b.length : Int).toNat).drop ((b.length : Int) - 4).toNat) true) := bne_comm
   rw [eb]
   cases (sumL 1 ((b.take ((b.length : Int) - 4).toNat).drop 0) != numB ((b.take (b.length : Int).toNat).drop ((b.length : Int) - 4).toNat) true) with
   | true => exact ⟨_, rfl, rfl, Lst.nil⟩
   | false =>
    cases r with
    | inl x => exact ⟨_, rfl, rfl, Lst.nil⟩
    | inr x =>
     obtain ⟨c, c1, c2⟩ := check_file (N := N) (es := x.2) hN (z3 x rfl).e
     simp only [bnd_eq, _root_.cond_false]
     have e1 : ((inrQ (some (Sum.inr x : Sum (Int × Bool × LD) (Bool × LD)))).getD default) = x := rfl
     rw [e1, c1, c2]
     cases hc : c != 0 with
     | true => exact ⟨(true, [], 0, c), by simp [inlB, inrQ, hc], by simp [inlB, inrQ, hc], Lst.nil⟩
     | false => exact ⟨(x.1, x.2, 0, 0), by simp [inlB, inrQ, hc], by simp [inlB, inrQ, hc], z3 x rfl⟩
end
end Go.Proofs.YtngnemeafkmaoaaGreat

namespace Go.Proofs.YtngnemeafkmaoaaGreat
open Go Go.AM
set_option maxRecDepth 100000
set_option maxHeartbeats 4000000
set_option linter.unusedVariables false
variable {N : Nat}
section
variable {b : List D}
end
end Go.Proofs.YtngnemeafkmaoaaGreat

namespace Go.Proofs.YtngnemeafkmaoaaGreat
open Go Go.AM
set_option maxRecDepth 100000
set_option maxHeartbeats 4000000
set_option linter.unusedVariables false
variable {N : Nat}
section
variable {xs : List D}
end
end Go.Proofs.YtngnemeafkmaoaaGreat

namespace Go.Proofs.YtngnemeafkmaoaaGreat
open Go Go.AM
set_option maxRecDepth 100000
set_option maxHeartbeats 4000000
set_option linter.unusedVariables false
variable {N : Nat}
abbrev kX (x : D) : Int := (x.cell 0).toI
abbrev sX (x : D) : Int := (x.cell 1).toI
abbrev oX (x : D) : Int := (x.cell 2).toI
abbrev dX (x : D) : List D := (x.cell 3).items
abbrev bX (x : D) : List D := (x.cell 4).items
structure Ab where
 kn : Nat → Bool
 bg : Nat → Bool
 gl : Nat → Int
 fs : Nat → List D
 last : Int
def Ab.start : Ab := ⟨fun _ => false, fun _ => false, fun _ => 0, fun _ => [], -1⟩
def upA {α : Type} (f : Nat → α) (j : Nat) (x : α) : Nat → α := fun i => if i = j then x else f i
def timeC (a : Ab) (kind slot off : Int) (data : List D) : Int :=
 bif kind == 1 then -1 else bif kind == 3 then a.last + (off - a.last % 32 + 32) % 32 else
 bif decide (tmL 0 (a.fs slot.toNat) < 0) then -1 else
 bif numB ((data.take (tmL 0 (a.fs slot.toNat) + 4).toNat).drop (tmL 0 (a.fs slot.toNat)).toNat) (a.bg slot.toNat) == 4294967295 then -1 else numB ((data.take (tmL 0 (a.fs slot.toNat) + 4).toNat).drop (tmL 0 (a.fs slot.toNat)).toNat) (a.bg slot.toNat)
def stepD (a : Ab) (kind slot off : Int) (ds data : List D) : Ab :=
 bif kind == 1 then { a with kn := upA a.kn slot.toNat true, bg := upA a.bg slot.toNat ((ds.getD 0 (.i 0)).cell 0).toB, gl := upA a.gl slot.toNat ((ds.getD 0 (.i 0)).cell 1).toI, fs := upA a.fs slot.toNat ((ds.getD 0 (.i 0)).cell 2).items } else
 { a with last := bif decide (timeC a kind slot off data ≥ 0) then timeC a kind slot off data else a.last }
abbrev timeE (a : Ab) (x : D) : Int := timeC a (kX x) (sX x) (oX x) (bX x)
abbrev stepA (a : Ab) (x : D) : Ab := stepD a (kX x) (sX x) (oX x) (dX x) (bX x)
def errC (a : Ab) (kind slot off : Int) (ds data : List D) : Int := entE kind slot off ds data (a.kn slot.toNat) (szL (a.fs slot.toNat)) (tmL 0 (a.fs slot.toNat)) a.last
abbrev errE (a : Ab) (x : D) : Int := errC a (kX x) (sX x) (oX x) (dX x) (bX x)
structure SlP (p : D) (a : Ab) : Prop where
 kn : ∀ j : Nat, j < 16 → (p.cell (0 + j * 6)).toB = a.kn j
 df : ∀ j : Nat, j < 16 → a.kn j = true → FldsOk (a.fs j) ∧ (p.cell (1 + j * 6)).toB = a.bg j ∧ (p.cell (2 + j * 6)).toI = a.gl j ∧ (p.cell (3 + j * 6)).items = a.fs j ∧ (p.cell (4 + j * 6)).toI = szL (a.fs j) ∧ (p.cell (5 + j * 6)).toI = tmL 0 (a.fs j)
structure SlS (s : D) (a : Ab) : Prop where
 kn : ∀ j : Nat, j < 16 → (s.cell (0 + j * 1)).toB = a.kn j
 df : ∀ j : Nat, j < 16 → a.kn j = true → (s.cell (16 + j * 3)).toB = a.bg j ∧ (s.cell (17 + j * 3)).toI = a.gl j ∧ (s.cell (18 + j * 3)).items = a.fs j
structure Wk (p s : D) (a : Ab) (k : Int) : Prop where
 pp : SlP p a
 ss : SlS s a
 lp : (p.cell 96).toI = a.last
 ls : (s.cell 64).toI = a.last
 lo : -1 ≤ a.last
 hi : a.last ≤ 4294967295 + 32 * k
theorem slots_of {p s : D} {a : Ab} (hp : SlP p a) (hs : SlS s a) : Slots p s :=
 ⟨fun j hj => by rw [hp.kn j hj, hs.kn j hj], fun j hj hk => by
  rw [hp.kn j hj] at hk
  obtain ⟨p1, p2, p3, p4, p5, p6⟩ := hp.df j hj hk
  obtain ⟨s1, s2, s3⟩ := hs.df j hj hk
  rw [p2, p3, p4, p5, p6, s1, s2, s3]
  exact ⟨p1, rfl, rfl, rfl, rfl, rfl⟩⟩
theorem Wk.sim {p s : D} {a : Ab} {k : Int} (h : Wk p s a k) : Sim p s k := ⟨slots_of h.pp h.ss, by rw [h.lp, h.ls], by rw [h.lp]; exact h.lo, by rw [h.lp]; exact h.hi⟩
theorem entE_known {kind slot off : Int} {ds data : List D} {size time size' time' last : Int} : entE kind slot off ds data false size time last = entE kind slot off ds data false size' time' last := by
 unfold entE; rfl
theorem err_of {p : D} {a : Ab} (hp : SlP p a) (lp : (p.cell 96).toI = a.last) {kind slot off : Int} {ds data : List D} : entE kind slot off ds data (p.cell (0 + slot.toNat * 6)).toB (p.cell (4 + slot.toNat * 6)).toI (p.cell (5 + slot.toNat * 6)).toI (p.cell 96).toI = errC a kind slot off ds data := by
 unfold errC
 rw [lp]
 by_cases h1 : inI slot 0 (bif kind == 3 then 3 else 15) = true
 ·obtain ⟨_, h2⟩ := slot_in h1
  rw [hp.kn _ h2]
  cases hk : a.kn slot.toNat with
  | false => exact entE_known
  | true =>
   obtain ⟨_, _, _, _, p5, p6⟩ := hp.df _ h2 hk
   rw [p5, p6]
 ·have h1 : inI slot 0 (bif kind == 3 then 3 else 15) = false := by simpa using h1
  unfold entE
  rw [h1]
  rfl
section
variable {kind slot off : Int} {ds data : List D} {p s : D} {a : Ab} {k : Int}
theorem slP_put (hp : SlP p a) {j : Nat} (i2 : j < 16) {big : Bool} {g : Int} {nl : Bool} {fs : List D} (hf : FldsOk fs) {last : Int} :
  SlP ((((((p.put (0 + j * 6) (.b true)).put (1 + j * 6) (.b big)).put (2 + j * 6) (.i g)).put (3 + j * 6) (.l nl fs)).put (4 + j * 6) (.i (szL fs))).put (5 + j * 6) (.i (tmL 0 fs))) { kn := upA a.kn j true, bg := upA a.bg j big, gl := upA a.gl j g, fs := upA a.fs j fs, last := last } := by
 refine ⟨fun i hi => ?_, fun i hi hkn => ?_⟩
 ·rw [(put6 i).1]
  unfold upA
  by_cases h : i = j
  ·simp only [if_pos h]; rfl
  ·simp only [if_neg h]; exact hp.kn i hi
 ·obtain ⟨a0, a1, a2, a3, a4, a5⟩ := put6 (p := p) (a := j) (x0 := .b true) (x1 := .b big) (x2 := .i g) (x3 := .l nl fs) (x4 := .i (szL fs)) (x5 := .i (tmL 0 fs)) i
  rw [a1, a2, a3, a4, a5]
  unfold upA at hkn ⊢
  by_cases h : i = j
  ·simp only [if_pos h]
   refine ⟨hf, ?_, ?_, ?_, ?_, ?_⟩ <;> first | trivial | rfl
  ·simp only [if_neg h] at hkn ⊢
   exact hp.df i hi hkn
theorem slS_put (hs : SlS s a) {j : Nat} (i2 : j < 16) {big : Bool} {g : Int} {nl : Bool} {fs : List D} {last : Int} :
  SlS ((((s.put (0 + j * 1) (.b true)).put (16 + j * 3) (.b big)).put (17 + j * 3) (.i g)).put (18 + j * 3) (.l nl fs)) { kn := upA a.kn j true, bg := upA a.bg j big, gl := upA a.gl j g, fs := upA a.fs j fs, last := last } := by
 refine ⟨fun i hi => ?_, fun i hi hkn => ?_⟩
 ·rw [(put4 i2 i hi).1]
  unfold upA
  by_cases h : i = j
  ·simp only [if_pos h]; rfl
  ·simp only [if_neg h]; exact hs.kn i hi
 ·obtain ⟨b0, b1, b2, b3, _⟩ := put4 (s := s) (x0 := .b true) (x1 := .b big) (x2 := .i g) (x3 := .l nl fs) i2 i hi
  rw [b1, b2, b3]
  unfold upA at hkn ⊢
  by_cases h : i = j
  ·simp only [if_pos h]
   refine ⟨?_, ?_, ?_⟩ <;> first | trivial | rfl
  ·simp only [if_neg h] at hkn ⊢
   exact hs.df i hi hkn
theorem slP_last (hp : SlP p a) {x : D} {l : Int} : SlP (p.put 96 x) { a with last := l } := by
 have c1 : ∀ c j : Nat, c < 6 → j < 16 → (p.put 96 x).cell (c + j * 6) = p.cell (c + j * 6) := fun c j hc hj => by rw [cell_put, if_neg (by omega)]
 refine ⟨fun j hj => ?_, fun j hj hk => ?_⟩
 ·rw [c1 0 j (by omega) hj]; exact hp.kn j hj
 ·rw [c1 1 j (by omega) hj, c1 2 j (by omega) hj, c1 3 j (by omega) hj, c1 4 j (by omega) hj, c1 5 j (by omega) hj]
  exact hp.df j hj hk
theorem slS_last (hs : SlS s a) {x : D} {l : Int} : SlS (s.put 64 x) { a with last := l } := by
 have c2 : ∀ j : Nat, j < 16 → (s.put 64 x).cell (0 + j * 1) = s.cell (0 + j * 1) ∧ (s.put 64 x).cell (16 + j * 3) = s.cell (16 + j * 3) ∧ (s.put 64 x).cell (17 + j * 3) = s.cell (17 + j * 3) ∧ (s.put 64 x).cell (18 + j * 3) = s.cell (18 + j * 3) := fun j hj => by
  refine ⟨?_, ?_, ?_, ?_⟩ <;> rw [cell_put, if_neg (by omega)]
 refine ⟨fun j hj => ?_, fun j hj hk => ?_⟩
 ·rw [(c2 j hj).1]; exact hs.kn j hj
 ·rw [(c2 j hj).2.1, (c2 j hj).2.2.1, (c2 j hj).2.2.2]
  exact hs.df j hj hk
theorem Wk.put (h : Wk p s a k) {t : Int} (h0 : 0 ≤ t) (h1 : t ≤ 4294967295 + 32 * (k + 1)) : Wk (p.put 96 (.i t)) (s.put 64 (.i t)) { a with last := t } (k + 1) :=
 ⟨slP_last h.pp, slS_last h.ss, by simp [cell_put, D.toI], by simp [cell_put, D.toI], by simp only; omega, h1⟩
theorem Wk.more (h : Wk p s a k) : Wk p s a (k + 1) := ⟨h.pp, h.ss, h.lp, h.ls, h.lo, by have := h.hi; omega⟩
theorem take_abs (hN : maxLen < N) (hs : Wk p s a k) (he : EntL ds data) (h0 : 0 ≤ k) (h1 : k ≤ 100000) (hE : errC a kind slot off ds data = 0) :
  ∃ p' s', G120x0 N kind slot off ds data p = some (timeC a kind slot off data, p') ∧ G62x0 N kind slot off ds data s = some (timeC a kind slot off data, s') ∧ Wk p' s' (stepD a kind slot off ds data) (k + 1) := by
 have hm : maxLen = 9223372036854775807 := rfl
 have hE := entE_ok hE
 obtain ⟨i1, i2⟩ := hE.s
 unfold G120x0 F120x0 G120x0x15014 F120x0x15014 G62x0 F62x0 stepD timeC
 have e38 : ∀ q, V120x0x38 N (-1) false q = q := fun q => rfl
 rw [i1]
 by_cases hk1 : kind = 1
 ·subst hk1
  obtain ⟨d1, d2⟩ := hE.d rfl
  have hf := defE_ok d2
  have q1 := G116x0_eq hN hf
  simp only [beq_self_eq_true, _root_.cond_true, inB_of (i := 0) (n := ds.length) (by omega) (by omega), bnd_eq, q1, Option.isSome_some, getD_some]
  have e1 : decide ((-1 : Int) ≥ 0) = false := by decide
  rw [e1, e38]
  refine ⟨_, _, rfl, rfl, ?_⟩
  refine ⟨slP_put hs.pp i2 hf, slS_put hs.ss i2, ?_, ?_, hs.lo, by have := hs.hi; simp only; omega⟩
  ·rw [put6_last i2]; exact hs.lp
  ·rw [(put4 i2 0 (by omega)).2.2.2.2]; exact hs.ls
 ·have hk1' : (kind == 1) = false := by simpa using hk1
  obtain ⟨kn, _⟩ := hE.n hk1
  obtain ⟨d1, d2, d3, d4, d5, d6⟩ := hs.pp.df _ i2 kn
  obtain ⟨s2, s3, s4⟩ := hs.ss.df _ i2 kn
  unfold G120x0x21020 F120x0x21020
  rw [hk1']
  simp only [_root_.cond_false, bnd_eq, hs.lp, hs.ls, d2, d6, s2, s4]
  have hlo := hs.lo
  have hhi := hs.hi
  by_cases hk3 : kind = 3
  ·subst hk3
   obtain ⟨t0, l0, o0, o1, _⟩ := hE.h rfl
   have m0 : a.last.tmod 32 = a.last % 32 := Int.tmod_eq_emod_of_nonneg l0
   have w1 : IntKind.wrap .i64 (off - a.last % 32) = off - a.last % 32 := wrapI (by omega) (by omega)
   have w2 : IntKind.wrap .i64 (off - a.last % 32 + 32) = off - a.last % 32 + 32 := wrapI (by omega) (by omega)
   have m1 : (off - a.last % 32 + 32).tmod 32 = (off - a.last % 32 + 32) % 32 := Int.tmod_eq_emod_of_nonneg (by omega)
   have w3 : IntKind.wrap .i64 (a.last + (off - a.last % 32 + 32) % 32) = a.last + (off - a.last % 32 + 32) % 32 := wrapI (by omega) (by omega)
   simp only [beq_self_eq_true, _root_.cond_true, m0, w1, w2, m1, w3, Option.isSome_some, getD_some, V120x0x38, F120x0x38]
   rw [decide_eq_true (show a.last + (off - a.last % 32 + 32) % 32 ≥ 0 by omega)]
   simp only [_root_.cond_true]
   refine ⟨_, _, rfl, ?_, hs.put (t := a.last + (off - a.last % 32 + 32) % 32) (by omega) (by omega)⟩
   rw [cell_put, if_pos rfl]
   rfl
  ·have hk2 : kind = 2 := by have := hE.k; omega
   subst hk2
   have hlen := hE.t rfl
   have e3 : ((2 : Int) == 3) = false := by decide
   rw [e3]
   unfold G120x0x26 F120x0x26
   rw [G126x0_eq hN d1]
   have tb := tmL_bound (a := 0) (by omega) d1.size
   by_cases ht : tmL 0 (a.fs slot.toNat) < 0
   ·rw [decide_eq_true ht, decide_eq_false (by omega : ¬ tmL 0 (a.fs slot.toNat) ≥ 0)]
    have e1 : decide ((-1 : Int) ≥ 0) = false := by decide
    refine ⟨p, s, ?_, ?_, hs.more⟩
    ·rfl
    ·rfl
   ·rw [decide_eq_false ht, decide_eq_true (by omega : tmL 0 (a.fs slot.toNat) ≥ 0)]
    have h4 : tmL 0 (a.fs slot.toNat) + 4 ≤ data.length := by rw [hlen]; omega
    generalize tmL 0 (a.fs slot.toNat) = tm at ht h4 ⊢
    obtain ⟨s1, s2, s3⟩ := slice_ok (by omega) h4 he.b he.y
    have nb := numB_bound s3 (a.bg slot.toNat) (by omega)
    have c0 : decide ((0 : Int) ≤ tm) = true := decide_eq_true (by omega)
    have c1 : decide (tm ≤ tm + 4) = true := decide_eq_true (by omega)
    have c2 : decide (tm + 4 ≤ (data.length : Int)) = true := decide_eq_true (by omega)
    have q1 := G49x0_eq hN s3 (a.bg slot.toNat) (by omega)
    have q2 := G59x0_eq hN s3 (a.bg slot.toNat) (by omega)
    simp only [_root_.cond_true, _root_.cond_false, bnd_eq, Bool.and_self, s1, c0, c1, c2, q1, q2, missing4, Option.isSome_some, getD_some, V120x0x32, F120x0x32, Bool.not_true, V120x0x38, F120x0x38]
    generalize numB ((data.take (tm + 4).toNat).drop tm.toNat) (a.bg slot.toNat) = n at nb ⊢
    by_cases hn : n = 4294967295
    ·subst hn
     exact ⟨p, s, rfl, rfl, hs.more⟩
    ·have e4 : (n != 4294967295) = true := by simpa using hn
     have e5 : (n == 4294967295) = false := by simpa using hn
     rw [e4, e5]
     simp only [_root_.cond_true, _root_.cond_false]
     rw [decide_eq_true (show n ≥ 0 by omega)]
     simp only [_root_.cond_true]
     exact ⟨_, _, rfl, rfl, hs.put (by omega) (by omega)⟩
end
def errsA : Ab → List D → Int
 | _, [] => 0
 | a, x :: r => bif errE a x != 0 then errE a x else errsA (stepA a x) r
def timesA : Ab → List D → List Int
 | _, [] => []
 | a, x :: r => timeE a x :: timesA (stepA a x) r
theorem start_wk {p : D} (hp : (List.range 16).all (fun j => !(p.cell (0 + j * 6)).toB && !(zeroS.cell (0 + j * 1)).toB) = true) (hl : (p.cell 96).toI = -1) : Wk p zeroS Ab.start 0 := by
 have h : ∀ j : Nat, j < 16 → (p.cell (0 + j * 6)).toB = false ∧ (zeroS.cell (0 + j * 1)).toB = false := fun j hj => by
  have := List.all_eq_true.1 hp j (List.mem_range.2 hj)
  simpa using this
 exact ⟨⟨fun j hj => (h j hj).1, fun j hj hk => absurd hk (by simp [Ab.start])⟩, ⟨fun j hj => (h j hj).2, fun j hj hk => absurd hk (by simp [Ab.start])⟩, hl, by kernel_rfl, by decide, by decide⟩
theorem start70 : Wk (V118x0 N) zeroS Ab.start 0 := start_wk (by kernel_rfl) (by kernel_rfl)
def fileE (es : List D) : Int := bif decide ((es.length : Int) > 50000) then 3 else errsA Ab.start es
section
variable {es : List D}
theorem check_loopA (hN : maxLen < N) (hes : ∀ x ∈ es, EntD x) (hl : es.length ≤ 50000) : ∀ (m : Nat) (i : Int) (p s : D) (a : Ab), 0 ≤ i → i ≤ es.length → (es.length - i).toNat < m → Wk p s a i →
  L53x0x15 N es es.length m i p (fun p => some (Sum.inl p)) (fun p => some (Sum.inr p)) = some (bif errsA a (es.drop i.toNat) != 0 then .inl (errsA a (es.drop i.toNat)) else .inr ()) ∧
  L63x0x15 N es es.length m i s (fun p => some (Sum.inl p)) (fun p => some (Sum.inr p)) = some (bif errsA a (es.drop i.toNat) != 0 then .inl (errsA a (es.drop i.toNat)) else .inr ()) := by
 intro m
 induction m with
 | zero => intro i p s a _ _ h; omega
 | succ m ih =>
  intro i p s a h0 h1 hm hs
  unfold L53x0x15 L63x0x15 S53x0x15 S63x0x15
  by_cases hi : i < es.length
  ·have he : EntD _ := hes _ (getD_mem (fs := es) h0 hi)
   rw [decide_eq_true hi, inB_of h0 hi, G119x0_eq hN hs.sim he, G129x0_eq hN hs.sim he, err_of hs.pp hs.lp, drop_at (.i 0) h0 hi]
   simp only [_root_.cond_true, bnd_eq, Option.isSome_some, getD_some, errsA]
   cases hz : (errE a (es.getD i.toNat (.i 0)) != 0) with
   | false =>
    have hz' : errE a (es.getD i.toNat (.i 0)) = 0 := by simpa using hz
    obtain ⟨p', s', q1, q2, hs'⟩ := take_abs hN hs he h0 (by omega) hz'
    rw [q1, q2]
    simp only [_root_.cond_false, Option.isSome_some, _root_.cond_true, getD_some, wrapI (x := i + 1) (by omega) (by omega)]
    exact ih (i + 1) p' s' _ (by omega) (by omega) (by omega) hs'
   | true =>
    simp only [_root_.cond_true, hz]
    exact ⟨trivial, trivial⟩
  ·have : i = es.length := by omega
   subst this
   rw [decide_eq_false hi, drop_end (by omega)]
   exact ⟨rfl, rfl⟩
theorem check_fileA (hN : maxLen < N) (hes : ∀ x ∈ es, EntD x) : G53x0 N es = some (fileE es) ∧ G63x0 N es = some (fileE es) := by
 unfold fileE
 by_cases hl : (es.length : Int) > 50000
 ·unfold G53x0 F53x0 G63x0 F63x0
  rw [decide_eq_true hl]; exact ⟨rfl, rfl⟩
 ·have hm : maxLen = 9223372036854775807 := rfl
  obtain ⟨q1, q2⟩ := check_loopA hN hes (by omega) N 0 (V118x0 N) zeroS Ab.start (by omega) (by omega) (by omega) start70
  have k1 : G53x0x15 N es es.length 0 (V118x0 N) = _ := q1
  have k2 : G63x0x15 N es es.length 0 zeroS = _ := q2
  have k3 : G53x0 N es = bnd (G53x0x15 N es es.length 0 (V118x0 N)) (fun y1 => bif inlB y1 then some (inlV y1) else bif (inrQ y1).isSome then some 0 else none) := by
   unfold G53x0 F53x0
   rw [decide_eq_false hl]; rfl
  have k4 : G63x0 N es = bnd (G63x0x15 N es es.length 0 zeroS) (fun y1 => bif inlB y1 then some (inlV y1) else bif (inrQ y1).isSome then some 0 else none) := by
   unfold G63x0 F63x0
   rw [decide_eq_false hl]; rfl
  rw [k3, k4, k1, k2, decide_eq_false hl]
  simp only [show (0 : Int).toNat = 0 from rfl, List.drop_zero, _root_.cond_false]
  cases h : errsA Ab.start es != 0 with
  | true => exact ⟨rfl, rfl⟩
  | false =>
   have : errsA Ab.start es = 0 := by simpa using h
   rw [this]; exact ⟨rfl, rfl⟩
theorem errs_cons {a : Ab} {x : D} {r : List D} (h : errsA a (x :: r) = 0) : errE a x = 0 ∧ errsA (stepA a x) r = 0 := by
 simp only [errsA] at h
 cases hz : (errE a x != 0) with
 | true =>
  rw [hz] at h
  simp only [_root_.cond_true] at h
  rw [h] at hz; simp at hz
 | false =>
  rw [hz] at h
  exact ⟨by simpa using hz, h⟩
theorem fileE_ok (h : fileE es = 0) : es.length ≤ 50000 ∧ errsA Ab.start es = 0 := by
 unfold fileE at h
 by_cases hl : (es.length : Int) > 50000
 ·rw [decide_eq_true hl] at h; exact absurd (show (3 : Int) = 0 from h) (by decide)
 ·rw [decide_eq_false hl] at h; exact ⟨by omega, h⟩
end
end Go.Proofs.YtngnemeafkmaoaaGreat

namespace Go.Proofs.YtngnemeafkmaoaaGreat
open Go Go.AM
set_option maxRecDepth 100000
set_option maxHeartbeats 4000000
set_option linter.unusedVariables false
variable {N : Nat}
def u8 (n : Int) : D := .i (IntKind.wrap .u8 n)
def OkA (a : Ab) : Prop := ∀ j, a.kn j = true → FldsOk (a.fs j)
theorem OkA.step {a : Ab} (h : OkA a) {x : D} (hx : errE a x = 0) : OkA (stepA a x) := by
 unfold stepA stepD
 cases hk : kX x == 1 with
 | true =>
  have hE := entE_ok hx
  have hf := defE_ok (hE.d (by simpa using hk)).2
  intro j hj
  simp only [_root_.cond_true, upA] at hj ⊢
  by_cases e : j = (sX x).toNat
  ·simp only [if_pos e]; exact hf
  ·simp only [if_neg e] at hj ⊢; exact h j hj
 | false => exact h
theorem OkA.start : OkA Ab.start := fun j hj => by simp [Ab.start] at hj
section
variable {es : List D}
end
end Go.Proofs.YtngnemeafkmaoaaGreat

namespace Go.Proofs.YtngnemeafkmaoaaGreat
open Go Go.AM
set_option maxRecDepth 100000
set_option maxHeartbeats 4000000
set_option linter.unusedVariables false
variable {N : Nat}
section
variable {ps : List D}
end
theorem BytesOk.cons {x : D} {b : List D} (h1 : 0 ≤ x.toI ∧ x.toI ≤ 255) (h2 : BytesOk b) : BytesOk (x :: b) := fun y hy => by
 rcases List.mem_cons.1 hy with rfl | h
 ·exact h1
 ·exact h2 y h
theorem BytesOk.nil : BytesOk [] := fun x hx => by simp at hx
section
variable {es : List D}
end
end Go.Proofs.YtngnemeafkmaoaaGreat

namespace Go.Proofs.YtngnemeafkmaoaaGreat
open Go Go.AM
set_option maxRecDepth 100000
set_option maxHeartbeats 4000000
set_option linter.unusedVariables false
end Go.Proofs.YtngnemeafkmaoaaGreat

namespace Go.Proofs.YtngnemeafkmaoaaGreat
open Go Go.AM
set_option maxRecDepth 100000
set_option maxHeartbeats 4000000
set_option linter.unusedVariables false
variable {N : Nat}
def timesD (a : Ab) (es : List D) : List D := (timesA a es).map .i
theorem timesD_cons {a : Ab} {x : D} {r : List D} : timesD a (x :: r) = .i (timeE a x) :: timesD (stepA a x) r := rfl
theorem timesD_len : ∀ {es : List D} {a : Ab}, (timesD a es).length = es.length
 | [], _ => rfl
 | x :: r, a => by rw [timesD_cons, List.length_cons, timesD_len, List.length_cons]
def defOk (a : Ab) (x d : D) : Prop := (kX x = 1 → d.items = []) ∧ (kX x ≠ 1 → ∃ nl, d.items = [.a [.b (a.bg (sX x).toNat), .i (a.gl (sX x).toNat), .l nl (a.fs (sX x).toNat)]])
def PlL : Ab → List D → List D → Prop
 | _, [], [] => True
 | a, x :: r, d :: ds => defOk a x d ∧ PlL (stepA a x) r ds
 | _, _, _ => False
theorem PlL.len : ∀ {es ds : List D} {a : Ab}, PlL a es ds → ds.length = es.length
 | [], [], _, _ => rfl
 | x :: r, d :: ds, a, h => by simp [PlL.len h.2]
 | [], _ :: _, _, h => h.elim
 | _ :: _, [], _, h => h.elim
section
variable {es : List D}
theorem times_loopS (hN : maxLen < N) (hes : ∀ x ∈ es, EntD x) (hl : es.length ≤ 50000) : ∀ (m : Nat) (i : Int) (p s : D) (a : Ab) (b b1 : Bool) (acc acc1 : List D), 0 ≤ i → i ≤ es.length → (es.length - i).toNat < m → Wk p s a i → errsA a (es.drop i.toNat) = 0 → (acc.length : Int) = i → (acc1.length : Int) = i →
  ∃ b' b1' ds, L64x0x12 N es es.length m i s b1 acc1 b acc (fun p => some p) = some (b1', acc1 ++ ds, b', acc ++ timesD a (es.drop i.toNat)) ∧ PlL a (es.drop i.toNat) ds := by
 intro m
 induction m with
 | zero => intro i p s a b b1 acc acc1 _ _ h; omega
 | succ m ih =>
  intro i p s a b b1 acc acc1 h0 h1 hm hw he ha ha1
  unfold L64x0x12 S64x0x12
  by_cases hi : i < es.length
  ·have hx : EntD _ := hes _ (getD_mem (fs := es) h0 hi)
   rw [drop_at (.i 0) h0 hi] at he ⊢
   obtain ⟨e1, e2⟩ := errs_cons he
   obtain ⟨p', s', q1, q2, hw'⟩ := take_abs (N := N) hN hw hx h0 (by omega) e1
   have hE := entE_ok e1
   have r1 : decide ((acc.length + 1) * 8 ≤ room) = true := decide_eq_true (by unfold room; omega)
   have r2 : decide (acc.length + 1 ≤ strMax) = true := decide_eq_true (by unfold strMax; omega)
   have r3 : decide ((acc1.length + 1) * 24 ≤ room) = true := decide_eq_true (by unfold room; omega)
   have r4 : decide (acc1.length + 1 ≤ strMax) = true := decide_eq_true (by unfold strMax; omega)
   have h29 : ∃ y, G64x0x29 N (kX (es.getD i.toNat (.i 0)) != 1) (sX (es.getD i.toNat (.i 0))) s' = some y ∧ ∃ d, (y = .inr () ∧ d = .l true [] ∨ ∃ l, y = .inl l ∧ d = .l false l) ∧ defOk a (es.getD i.toNat (.i 0)) d := by
    unfold G64x0x29 F64x0x29
    by_cases hk : kX (es.getD i.toNat (.i 0)) = 1
    ·rw [hk]
     exact ⟨.inr (), rfl, .l true [], .inl ⟨rfl, rfl⟩, fun _ => rfl, fun h => absurd hk h⟩
    ·have hk' : (kX (es.getD i.toNat (.i 0)) != 1) = true := by simpa using hk
     rw [hk', hE.s.1]
     have hkn : (stepA a (es.getD i.toNat (.i 0))).kn (sX (es.getD i.toNat (.i 0))).toNat = true := by
      unfold stepA stepD
      have : (kX (es.getD i.toNat (.i 0)) == 1) = false := by simpa using hk
      rw [this]; exact (hE.n hk).1
     obtain ⟨d1, d2, d3⟩ := hw'.ss.df _ hE.s.2 hkn
     have hb : (stepA a (es.getD i.toNat (.i 0))).bg = a.bg ∧ (stepA a (es.getD i.toNat (.i 0))).gl = a.gl ∧ (stepA a (es.getD i.toNat (.i 0))).fs = a.fs := by
      unfold stepA stepD
      have : (kX (es.getD i.toNat (.i 0)) == 1) = false := by simpa using hk
      rw [this]; exact ⟨rfl, rfl, rfl⟩
     rw [hb.1] at d1
     rw [hb.2.1] at d2
     rw [hb.2.2] at d3
     refine ⟨.inl [.a [.b (s'.cell (16 + ((sX (es.getD i.toNat (.i 0))).toNat * 3))).toB, .i (s'.cell (17 + ((sX (es.getD i.toNat (.i 0))).toNat * 3))).toI, .l (s'.cell (18 + ((sX (es.getD i.toNat (.i 0))).toNat * 3))).isNil (s'.cell (18 + ((sX (es.getD i.toNat (.i 0))).toNat * 3))).items]], rfl, _, .inr ⟨_, rfl, rfl⟩, fun h => absurd h hk, fun _ => ⟨(s'.cell (18 + ((sX (es.getD i.toNat (.i 0))).toNat * 3))).isNil, ?_⟩⟩
     rw [d1, d2, d3]; rfl
   obtain ⟨y, y29, d, hd, hdok⟩ := h29
   rw [decide_eq_true hi, inB_of h0 hi, q2]
   simp only [_root_.cond_true, bnd_eq, Option.isSome_some, getD_some, r1, r2, r3, r4, Bool.and_self, y29, wrapI (x := i + 1) (by omega) (by omega)]
   obtain ⟨b', b1', ds, z, zp⟩ := ih (i + 1) p' s' _ false false (acc ++ [.i (timeE a (es.getD i.toNat (.i 0)))]) (acc1 ++ [d]) (by omega) (by omega) (by omega) hw' e2 (by simp; omega) (by simp; omega)
   refine ⟨b', b1', d :: ds, ?_, hdok, zp⟩
   rw [List.append_assoc, List.append_assoc] at z
   rw [timesD_cons]
   rcases hd with ⟨rfl, rfl⟩ | ⟨l, rfl, rfl⟩
   ·exact z
   ·exact z
  ·have : i = es.length := by omega
   subst this
   rw [decide_eq_false hi, drop_end (by omega)]
   exact ⟨b, b1, [], by simp [timesD, timesA], trivial⟩
theorem places_ref (hN : maxLen < N) (hes : ∀ x ∈ es, EntD x) (h : fileE es = 0) : ∃ b b1 ds, G64x0 N es = some (b1, ds, b, timesD Ab.start es) ∧ PlL Ab.start es ds := by
 have hm : maxLen = 9223372036854775807 := rfl
 obtain ⟨hl, he⟩ := fileE_ok h
 obtain ⟨b, b1, ds, z, zp⟩ := times_loopS hN hes hl N 0 (V118x0 N) zeroS Ab.start true true [] [] (by omega) (by omega) (by omega) start70 (by simpa using he) (by simp) (by simp)
 have y1 : G64x0x12 N es es.length 0 zeroS true [] true [] = some (b1, ds, b, timesD Ab.start es) := by unfold G64x0x12; simpa using z
 refine ⟨b, b1, ds, ?_, by simpa using zp⟩
 have k2 : G64x0 N es = bnd (G64x0x12 N es es.length 0 zeroS true [] true []) fun y1 => bif y1.isSome then some (y1.getD default) else none := by unfold G64x0 F64x0; rfl
 rw [k2, y1]; rfl
end
end Go.Proofs.YtngnemeafkmaoaaGreat

namespace Go.Proofs.YtngnemeafkmaoaaGreat
open Go Go.AM
set_option maxRecDepth 100000
set_option maxHeartbeats 4000000
set_option linter.unusedVariables false
variable {N : Nat}
def nDef (d : D) : D := .a [.b (d.cell 0).toB, .i (d.cell 1).toI, .l false (d.cell 2).items]
structure EqE (x y : D) : Prop where
 k : kX x = kX y
 s : sX x = sX y
 o : oX x = oX y
 d : (dX x).map nDef = (dX y).map nDef
 b : bX x = bX y
theorem EqE.symm {x y : D} (h : EqE x y) : EqE y x := ⟨h.k.symm, h.s.symm, h.o.symm, h.d.symm, h.b.symm⟩
theorem nDef_inj {d d' : D} (h : nDef d = nDef d') : (d.cell 0).toB = (d'.cell 0).toB ∧ (d.cell 1).toI = (d'.cell 1).toI ∧ (d.cell 2).items = (d'.cell 2).items := by
 unfold nDef at h
 simp only [D.a.injEq, List.cons.injEq, D.b.injEq, D.i.injEq, D.l.injEq, and_true, true_and] at h
 exact h
theorem defs_eq {ds ds' : List D} (h : ds.map nDef = ds'.map nDef) : ds.length = ds'.length ∧ ((ds.getD 0 (.i 0)).cell 0).toB = ((ds'.getD 0 (.i 0)).cell 0).toB ∧ ((ds.getD 0 (.i 0)).cell 1).toI = ((ds'.getD 0 (.i 0)).cell 1).toI ∧ ((ds.getD 0 (.i 0)).cell 2).items = ((ds'.getD 0 (.i 0)).cell 2).items := by
 have hl : ds.length = ds'.length := by have := congrArg List.length h; simpa using this
 refine ⟨hl, ?_⟩
 match ds, ds', h, hl with
 | [], [], _, _ => exact ⟨rfl, rfl, rfl⟩
 | d :: _, d' :: _, h, _ =>
  simp only [List.map_cons, List.cons.injEq] at h
  exact nDef_inj h.1
 | [], _ :: _, _, hl => simp at hl
 | _ :: _, [], _, hl => simp at hl
theorem EqE.err {x y : D} (h : EqE x y) (a : Ab) : errE a x = errE a y := by
 obtain ⟨l, d0, d1, d2⟩ := defs_eq h.d
 unfold errE errC entE
 rw [h.k, h.s, h.o, h.b, l, d1, d2]
theorem EqE.time {x y : D} (h : EqE x y) (a : Ab) : timeE a x = timeE a y := by
 unfold timeE
 rw [h.k, h.s, h.o, h.b]
theorem EqE.step {x y : D} (h : EqE x y) (a : Ab) : stepA a x = stepA a y := by
 obtain ⟨l, d0, d1, d2⟩ := defs_eq h.d
 unfold stepA stepD
 rw [h.k, h.s, h.o, h.b, d0, d1, d2]
theorem All2.errs {xs ys : List D} (h : All2 EqE xs ys) (a : Ab) : errsA a xs = errsA a ys := by
 induction xs generalizing ys a with
 | nil => cases ys with
  | nil => rfl
  | cons => exact h.elim
 | cons x xs ih => cases ys with
  | nil => exact h.elim
  | cons y ys => simp only [errsA]; rw [h.1.err, h.1.step, ih h.2]
theorem All2.timesD {xs ys : List D} (h : All2 EqE xs ys) (a : Ab) : Proofs.YtngnemeafkmaoaaGreat.timesD a xs = Proofs.YtngnemeafkmaoaaGreat.timesD a ys := by
 induction xs generalizing ys a with
 | nil => cases ys with
  | nil => rfl
  | cons => exact h.elim
 | cons x xs ih => cases ys with
  | nil => exact h.elim
  | cons y ys => rw [timesD_cons, timesD_cons, h.1.time, h.1.step, ih h.2]
theorem All2.fileE {xs ys : List D} (h : All2 EqE xs ys) : Proofs.YtngnemeafkmaoaaGreat.fileE xs = Proofs.YtngnemeafkmaoaaGreat.fileE ys := by
 unfold Proofs.YtngnemeafkmaoaaGreat.fileE
 rw [AM.All2.length h, All2.errs h]
section
variable {xs ys : List D}
end
end Go.Proofs.YtngnemeafkmaoaaGreat

namespace Go.Proofs.YtngnemeafkmaoaaGreat
open Go Go.AM
set_option maxRecDepth 100000
set_option maxHeartbeats 4000000
set_option linter.unusedVariables false
variable {N : Nat}
structure Asc (l : List D) (n : Int) : Prop where
 lo : ∀ i : Int, 0 ≤ i → i < l.length → 0 ≤ by_ l i ∧ by_ l i ≤ n - 1
 up : ∀ i j : Int, 0 ≤ i → i < j → j < l.length → by_ l i < by_ l j
theorem Asc.ge {l : List D} {n : Int} (h : Asc l n) : ∀ i : Nat, i < l.length → (i : Int) ≤ by_ l i
 | 0, hi => (h.lo 0 (by omega) (by omega)).1
 | i + 1, hi => by
  have h1 := Asc.ge h i (by omega)
  have h2 := h.up i (i + 1) (by omega) (by omega) (by omega)
  have : ((i + 1 : Nat) : Int) = (i : Int) + 1 := by omega
  rw [this]
  omega
theorem Asc.len {l : List D} {n : Int} (h : Asc l n) (hn : 0 ≤ n) : (l.length : Int) ≤ n := by
 rcases Nat.eq_zero_or_pos l.length with h0 | h0
 ·omega
 ·have h1 := h.ge (l.length - 1) (by omega)
  have h2 := (h.lo ((l.length - 1 : Nat) : Int) (by omega) (by omega)).2
  omega
end Go.Proofs.YtngnemeafkmaoaaGreat

namespace Go.Proofs.YtngnemeafkmaoaaGreat
open Go Go.AM
set_option maxRecDepth 100000
set_option maxHeartbeats 4000000
set_option linter.unusedVariables false
variable {N : Nat}
section
variable {l es : List D}
structure Two (xs ys : List D) (n : Int) : Prop where
 eq : All2 EqE xs ys
 ok : ∀ x ∈ xs, EntD x
 ok' : ∀ y ∈ ys, EntD y
 len : (xs.length : Int) ≤ n
end
end Go.Proofs.YtngnemeafkmaoaaGreat

namespace Go.Proofs.YtngnemeafkmaoaaGreat
open Go Go.AM
set_option maxRecDepth 100000
set_option maxHeartbeats 4000000
set_option linter.unusedVariables false
variable {N : Nat}
theorem not1 {k : Int} (h : k ≠ 1) : (k == 1) = false ∧ (k != 1) = true := by
 constructor <;> simpa using h
theorem step_data {a : Ab} {x : D} (h : kX x ≠ 1) : (stepA a x).kn = a.kn ∧ (stepA a x).bg = a.bg ∧ (stepA a x).gl = a.gl ∧ (stepA a x).fs = a.fs ∧ (stepA a x).last = bif decide (timeE a x ≥ 0) then timeE a x else a.last := by
 unfold stepA stepD
 rw [(not1 h).1]
 exact ⟨rfl, rfl, rfl, rfl, rfl⟩
theorem PlL.at_ {a : Ab} {es ds : List D} {x : D} (h : PlL a (x :: es) ds) : ∃ d r, ds = d :: r ∧ defOk a x d ∧ PlL (stepA a x) es r := by
 cases ds with
 | nil => exact h.elim
 | cons d r => exact ⟨d, r, rfl, h.1, h.2⟩
theorem getD_drop {l r : List D} {d : D} {w : Int} (h0 : 0 ≤ w) (h : l.drop w.toNat = d :: r) : l.getD w.toNat (.i 0) = d ∧ l.drop (w + 1).toNat = r ∧ w < l.length := by
 have hl : w < l.length := by
  refine Classical.byContradiction fun hh => ?_
  rw [List.drop_eq_nil_of_le (by omega)] at h
  simp at h
 rw [drop_at (.i 0) h0 hl] at h
 simp only [List.cons.injEq] at h
 exact ⟨h.1, h.2, hl⟩
section
variable {es : List D}
end
end Go.Proofs.YtngnemeafkmaoaaGreat

namespace Go.Proofs.YtngnemeafkmaoaaGreat
open Go Go.AM
set_option maxRecDepth 100000
set_option maxHeartbeats 4000000
set_option linter.unusedVariables false
variable {N : Nat}
def TypOk (fs : List D) : Prop := ∀ f ∈ fs, 0 ≤ fT f ∧ fT f ≤ 3 ∧ 1 ≤ fS f ∧ fS f ≤ 255 ∧ (fT f ≤ 1 → fS f = 1 ∨ fS f = 2 ∨ fS f = 4)
theorem defE_typ {g : Int} {fs : List D} (h : defE g fs = 0) : TypOk fs := by
 unfold defE at h
 cases h1 : inI g 0 65535 with
 | false => rw [h1] at h; exact absurd (show (9 : Int) = 0 from h) (by decide)
 | true =>
  rw [h1] at h
  cases h2 : decide ((fs.length : Int) > 30) with
  | true => rw [h2] at h; exact absurd (show (3 : Int) = 0 from h) (by decide)
  | false =>
   rw [h2] at h
   simp only [Bool.not_true, _root_.cond_false] at h
   intro f hf
   obtain ⟨i, hi, rfl⟩ := List.getElem_of_mem hf
   have := firstE_zero h i hi
   rw [Int.zero_add] at this
   unfold fldE at this
   have hg : fs.getD ((i : Int)).toNat (.i 0) = fs[i] := by
    rw [List.getD_eq_getElem?_getD, Int.toNat_natCast, List.getElem?_eq_getElem hi]; rfl
   rw [hg] at this
   cases h0 : inI (fN fs[i]) 0 255 with
   | false => rw [h0] at this; exact absurd (show (9 : Int) = 0 from by simpa using this) (by decide)
   | true =>
   cases h3 : inI (fS fs[i]) 1 255 with
   | false => rw [h0, h3] at this; exact absurd (show (9 : Int) = 0 from by simpa using this) (by decide)
   | true =>
   cases h4 : inI (fT fs[i]) 0 3 with
   | false => rw [h0, h3, h4] at this; exact absurd (show (7 : Int) = 0 from by simpa using this) (by decide)
   | true =>
   rw [h0, h3, h4] at this
   simp only [Bool.not_true, _root_.cond_false, Bool.or_self] at this
   cases h5 : (decide (fT fs[i] ≤ 1) && (fS fs[i] != 1) && (fS fs[i] != 2) && (fS fs[i] != 4)) with
   | true => rw [h5] at this; exact absurd (show (2 : Int) = 0 from by simpa using this) (by decide)
   | false =>
   unfold inI at h3 h4
   simp only [Bool.and_eq_true, decide_eq_true_eq] at h3 h4
   refine ⟨h4.1, h4.2, h3.1, h3.2, fun ht => ?_⟩
   rw [decide_eq_true ht] at h5
   simp only [Bool.true_and] at h5
   by_cases a1 : fS fs[i] = 1
   ·exact .inl a1
   by_cases a2 : fS fs[i] = 2
   ·exact .inr (.inl a2)
   by_cases a3 : fS fs[i] = 4
   ·exact .inr (.inr a3)
   have : ∀ k : Int, fS fs[i] ≠ k → (fS fs[i] != k) = true := fun k hk => by simpa using hk
   rw [this 1 a1, this 2 a2, this 4 a3] at h5
   cases h5
def missV (s : Int) (sg : Bool) : Int := bif sg then (bif s == 1 then 127 else bif s == 2 then 32767 else 2147483647) else (bif s == 1 then 255 else bif s == 2 then 65535 else 4294967295)
def pwV (s : Int) : Int := bif s == 1 then 256 else bif s == 2 then 65536 else 4294967296
abbrev Sz (s : Int) : Prop := s = 1 ∨ s = 2 ∨ s = 4
theorem G136x0_eq {s : Int} (h : Sz s) (sg : Bool) : G136x0 N s sg = some (missV s sg) := by
 rcases h with rfl | rfl | rfl <;> cases sg <;> kernel_rfl
theorem G170x0_eq {s : Int} (h : Sz s) (t : Int) : G170x0 N s t = some (missV s (t == 1)) := by
 unfold G170x0 F170x0
 cases t == 1 <;> rcases h with rfl | rfl | rfl <;> kernel_rfl
def cutS (l : List UInt8) : List UInt8 := bif decide (Lib.indexByte l 0 ≥ 0) then l.take (Lib.indexByte l 0).toNat else l
theorem idx_lt (l : List UInt8) (c : UInt8) : Lib.indexByte l c < (l.length : Int) ∨ l = [] := by
 induction l with
 | nil => exact .inr rfl
 | cons b l ih =>
  left
  have hg := Lib.indexByte_ge l c
  simp only [Lib.indexByte, List.length_cons]
  by_cases h1 : (b == c) = true
  ·rw [if_pos h1]; omega
  ·rw [if_neg h1]
   by_cases h2 : (Lib.indexByte l c == -1) = true
   ·rw [if_pos h2]; omega
   ·rw [if_neg h2]
    rcases ih with ih | rfl
    ·omega
    ·exact absurd (show (Lib.indexByte [] c == -1) = true from rfl) h2
theorem G169x0_eq {l : List UInt8} (hl : l.length ≤ maxLen) : ∃ r c, G169x0 N l = some (cutS l, r, c) := by
 have hm : maxLen = 9223372036854775807 := rfl
 have hv : V212x0 N l = Lib.indexByte l 0 := by
  unfold V212x0 F212x0 V219x0 F219x0
  cases h : (([0] : List UInt8) == l) with
  | true => rw [← eq_of_beq h]; rfl
  | false => rfl
 have hg := Lib.indexByte_ge l 0
 unfold G169x0 F169x0 G195x0 F195x0 cutS
 simp only [bnd_eq, hv]
 rcases idx_lt l 0 with hlt | rfl
 ·generalize Lib.indexByte l 0 = j at hg hlt ⊢
  by_cases hj : j ≥ 0
  ·rw [decide_eq_true hj, decide_eq_true (show j ≤ (l.length : Int) by omega), wrapI (x := j + 1) (by omega) (by omega), decide_eq_true (show 0 ≤ j + 1 by omega), decide_eq_true (show j + 1 ≤ (l.length : Int) by omega), decide_eq_true (Int.le_refl (l.length : Int))]
   exact ⟨_, _, rfl⟩
  ·rw [decide_eq_false hj]
   exact ⟨_, _, rfl⟩
 ·exact ⟨_, _, rfl⟩
def valC (s t : Int) (b : List D) (big : Bool) : Int × List UInt8 × Bool :=
 bif t == 3 then (0, strD b, false) else bif t == 2 then (0, cutS (strD b), cutS (strD b) == []) else
 bif numB b big == missV s (t == 1) then (0, [], true) else (bif (t == 1) && decide (numB b big > missV s true) then numB b big - pwV s else numB b big, [], false)
structure ValOk (s t : Int) (b : List D) : Prop where
 t0 : 0 ≤ t
 t3 : t ≤ 3
 sz : t ≤ 1 → Sz s
 len : (b.length : Int) = s
 by_ : BytesOk b
 hl : b.length ≤ 255
theorem sub_pw {s n : Int} (h : Sz s) (h0 : 0 ≤ n) (h1 : n < 4294967296) (c : Bool) :
  (bif c then (bif decide (0 ≤ IntKind.wrap .i64 (8 * s)) then bnd (IntKind.wrap .i64 (1 * 2 ^ (min (IntKind.wrap .i64 (8 * s)).toNat 64))) fun y0 => some (IntKind.wrap .i64 (n - y0)) else none) else some n) = some (bif c then n - pwV s else n) := by
 have e : ∀ k, some (IntKind.wrap .i64 (n - k)) = some (n - k) ∨ ¬ (0 ≤ k ∧ k ≤ 4294967296) := fun k => by
  by_cases hk : 0 ≤ k ∧ k ≤ 4294967296
  ·left; rw [wrapI (by omega) (by omega)]
  ·exact .inr hk
 cases c with
 | false => rfl
 | true =>
  simp only [_root_.cond_true, bnd_eq]
  rcases h with rfl | rfl | rfl
  ·have e1 : IntKind.wrap .i64 (8 * 1) = 8 := by decide
   have e2 : IntKind.wrap .i64 (1 * 2 ^ (min (8 : Int).toNat 64)) = 256 := by decide
   rw [e1, e2, wrapI (x := n - 256) (by omega) (by omega)]; rfl
  ·have e1 : IntKind.wrap .i64 (8 * 2) = 16 := by decide
   have e2 : IntKind.wrap .i64 (1 * 2 ^ (min (16 : Int).toNat 64)) = 65536 := by decide
   rw [e1, e2, wrapI (x := n - 65536) (by omega) (by omega)]; rfl
  ·have e1 : IntKind.wrap .i64 (8 * 4) = 32 := by decide
   have e2 : IntKind.wrap .i64 (1 * 2 ^ (min (32 : Int).toNat 64)) = 4294967296 := by decide
   rw [e1, e2, wrapI (x := n - 4294967296) (by omega) (by omega)]; rfl
theorem strD_len (b : List D) : (strD b).length = b.length := by unfold strD; simp
theorem sz_len {s : Int} {b : List D} (h : Sz s) (hl : (b.length : Int) = s) : b.length ≤ 4 := by rcases h with rfl | rfl | rfl <;> omega
theorem G130x0_eq (hN : maxLen < N) {s t : Int} {b : List D} (h : ValOk s t b) (big : Bool) : G130x0 N s t b big = some (valC s t b big) := by
 have hm : maxLen = 9223372036854775807 := rfl
 have hb := h.hl
 have ht0 := h.t0
 have ht3 := h.t3
 unfold G130x0 F130x0 G130x0x39035 F130x0x39035 G130x0x9044 F130x0x9044 valC
 by_cases h2 : t = 2
 ·subst h2
  obtain ⟨r, c, q⟩ := G169x0_eq (N := N) (l := strD b) (by rw [strD_len]; omega)
  rw [q]; rfl
 ·have e2 : (t == 2) = false := by simpa using h2
  rw [e2]
  by_cases h3 : t = 3
  ·subst h3; rfl
  ·have e3 : (t == 3) = false := by simpa using h3
   have hsz := h.sz (by omega)
   have hn := numB_bound h.by_ big (sz_len hsz h.len)
   rw [e3, G59x0_eq hN h.by_ big (sz_len hsz h.len), G170x0_eq hsz]
   simp only [_root_.cond_false, bnd_eq, Option.isSome_some, getD_some, _root_.cond_true]
   generalize numB b big = n at hn ⊢
   cases hmi : (n == missV s (t == 1)) with
   | true => rfl
   | false =>
    have k := sub_pw hsz hn.1 hn.2 ((t == 1) && decide (n > missV s true))
    have hc : (bif t == 1 then decide (n ≥ IntKind.wrap .i64 (1 * 2 ^ (min (IntKind.wrap .i64 ((IntKind.wrap .i64 (8 * s)) - 1)).toNat 64))) else false) = ((t == 1) && decide (n > missV s true)) := by
     cases t == 1 with
     | false => rfl
     | true =>
      simp only [_root_.cond_true, Bool.true_and]
      have e : IntKind.wrap .i64 (1 * 2 ^ (min (IntKind.wrap .i64 ((IntKind.wrap .i64 (8 * s)) - 1)).toNat 64)) = missV s true + 1 := by rcases hsz with rfl | rfl | rfl <;> decide
      rw [e]
      by_cases hh : n > missV s true
      ·rw [decide_eq_true hh, decide_eq_true (by omega)]
      ·rw [decide_eq_false hh, decide_eq_false (by omega)]
    have hg : (bif decide (0 ≤ IntKind.wrap .i64 ((IntKind.wrap .i64 (8 * s)) - 1)) then true else !((t == 1) == true)) = true := by
     have e : decide (0 ≤ IntKind.wrap .i64 ((IntKind.wrap .i64 (8 * s)) - 1)) = true := by rcases hsz with rfl | rfl | rfl <;> decide
     rw [e]; rfl
    have k2 : G130x0x26 N n ((t == 1) && decide (n > missV s true)) s = some (bif (t == 1) && decide (n > missV s true) then n - pwV s else n) := by
     unfold G130x0x26 F130x0x26; exact k
    rw [hg, hc, k2]
    rfl
theorem G165x0_eq (hN : maxLen < N) {s t at_ : Int} {data : List D} (big : Bool) (h0 : 0 ≤ at_) (h1 : at_ + s ≤ data.length) (hs0 : 0 ≤ s) (hd : data.length ≤ maxLen) (h : ValOk s t ((data.take (at_ + s).toNat).drop at_.toNat)) :
  G165x0 N s t at_ data big = some (valC s t ((data.take (at_ + s).toNat).drop at_.toNat) big) := by
 have hm : maxLen = 9223372036854775807 := rfl
 unfold G165x0 F165x0
 rw [wrapI (x := at_ + s) (by omega) (by omega), decide_eq_true h0, decide_eq_true (show at_ ≤ at_ + s by omega), decide_eq_true h1]
 simp only [Bool.and_self, _root_.cond_true, bnd_eq]
 generalize (data.take (at_ + s).toNat).drop at_.toNat = b at h ⊢
 have hb := h.hl
 have ht0 := h.t0
 have ht3 := h.t3
 unfold G165x0x36035 F165x0x36035 G165x0x12041 F165x0x12041 valC
 by_cases h3 : t = 3
 ·subst h3; rfl
 ·have e3 : (t == 3) = false := by simpa using h3
  rw [e3]
  by_cases h2 : t = 2
  ·subst h2
   obtain ⟨r, c, q⟩ := G169x0_eq (N := N) (l := strD b) (by rw [strD_len]; omega)
   rw [q]; rfl
  ·have e2 : (t == 2) = false := by simpa using h2
   have hsz := h.sz (by omega)
   have hn := numB_bound h.by_ big (sz_len hsz h.len)
   rw [e2, G49x0_eq hN h.by_ big (sz_len hsz h.len), G136x0_eq hsz]
   simp only [_root_.cond_false, bnd_eq, Option.isSome_some, getD_some, _root_.cond_true]
   generalize numB b big = n at hn ⊢
   unfold G165x0x24023 F165x0x24023 G165x0x25 F165x0x25 G165x0x29 F165x0x29
   cases hmi : (n == missV s (t == 1)) with
   | true => rfl
   | false =>
    have k := sub_pw hsz hn.1 hn.2 ((t == 1) && decide (n > missV s true))
    simp only [_root_.cond_false, bnd_eq]
    have hc : (bif t == 1 then (bif (G136x0 N s true).isSome then some (decide (n > (G136x0 N s true).getD default)) else none) else some false) = some ((t == 1) && decide (n > missV s true)) := by
     rw [G136x0_eq hsz]
     cases t == 1 <;> rfl
    rw [hc]
    simp only [Option.isSome_some, getD_some, _root_.cond_true]
    simp only [bnd_eq] at k
    rw [k]
    rfl
def valD (f : D) (a : Int) (data : List D) (big : Bool) : D :=
 .a [.i (fN f), .i (fT f), .i (valC (fS f) (fT f) ((data.take (a + fS f).toNat).drop a.toNat) big).1, .s (valC (fS f) (fT f) ((data.take (a + fS f).toNat).drop a.toNat) big).2.1, .b (valC (fS f) (fT f) ((data.take (a + fS f).toNat).drop a.toNat) big).2.2]
def valsL (data : List D) (big : Bool) : Bool → Int → List D → List D
 | _, _, [] => []
 | t, a, f :: r => bif t && isT f then valsL data big false a r else valD f a data big :: valsL data big t (a + fS f) r
def fldsAt : Bool → Int → List D → List D
 | _, _, [] => []
 | t, a, f :: r => bif t && isT f then fldsAt false a r else .a [.i (fN f), .i (fS f), .i (fT f), .i a] :: fldsAt t (a + fS f) r
theorem fldsAt_len : ∀ {fs : List D} {t : Bool} {a : Int}, (fldsAt t a fs).length ≤ fs.length
 | [], _, _ => Nat.le_refl _
 | f :: r, t, a => by
  simp only [fldsAt]
  cases t && isT f with
  | true => have := fldsAt_len (fs := r) (t := false) (a := a); simp only [_root_.cond_true, List.length_cons]; omega
  | false => have := fldsAt_len (fs := r) (t := t) (a := a + fS f); simp only [_root_.cond_false, List.length_cons]; omega
section
variable {fs : List D}
def TInv (short t : Bool) (T all : Int) (r : List D) : Prop := bif short then (bif t then T = tmL all r else T < all) else t = false
theorem G164x0_eq (hN : maxLen < N) (h : FldsOk fs) (ht : TypOk fs) (short : Bool) : ∃ nl, G164x0 N fs (tmL 0 fs) short = some (nl, fldsAt short 0 fs) := by
 have hm : maxLen = 9223372036854775807 := rfl
 have hl := h.len
 have key := loop_indE (A := Int × Int × Int × Bool × LD) (X := Option (Bool × LD)) (S := fun x kr => S164x0x12 N short fs fs.length (tmL 0 fs) x.1 x.2.1 x.2.2.1 x.2.2.2.1 x.2.2.2.2 (fun a b c d e => kr (a, b, c, d, e)) (fun p => some p)) (L := fun m x => L164x0x12 N short fs fs.length (tmL 0 fs) m x.1 x.2.1 x.2.2.1 x.2.2.2.1 x.2.2.2.2 (fun p => some p)) (fun m x => rfl)
  (fun x r => ∀ t, TInv short t (tmL 0 fs) x.2.1 (fs.drop x.2.2.1.toNat) → ∃ nl, r = some (nl, x.2.2.2.2 ++ fldsAt t x.1 (fs.drop x.2.2.1.toNat)))
  (fun x => 0 ≤ x.2.2.1 ∧ x.2.2.1 ≤ fs.length ∧ 0 ≤ x.1 ∧ x.1 ≤ 255 * x.2.2.1 ∧ 0 ≤ x.2.1 ∧ x.2.1 ≤ 255 * x.2.2.1 ∧ (x.2.2.2.2.length : Int) ≤ x.2.2.1) (fun x => (fs.length - x.2.2.1).toNat) ?_ N (0, 0, 0, true, []) ⟨by decide, by show (0 : Int) ≤ _; omega, by decide, by decide, by decide, by decide, by decide⟩ (by simp; omega)
 ·obtain ⟨nl, k2⟩ := key short (by cases short <;> rfl)
  have k3 : G164x0x12 N short fs fs.length (tmL 0 fs) 0 0 0 true [] = some (nl, fldsAt short 0 fs) := by
   refine Eq.trans k2 ?_
   simp
  refine ⟨nl, ?_⟩
  unfold G164x0 F164x0
  rw [k3]; rfl
 ·rintro ⟨w1, all, w, b, l⟩ kr ⟨h0, h1, h2, h3, h4, h5, h6⟩ ih t hT
  simp only at h0 h1 h2 h3 h4 h5 h6 ih hT ⊢
  unfold S164x0x12
  by_cases hw : w < fs.length
  ·have hf := ht _ (getD_mem h0 hw)
   rw [decide_eq_true hw, inB_of h0 hw, drop_at (.i 0) h0 hw]
   rw [drop_at (.i 0) h0 hw] at hT
   have r1 : decide ((l.length + 1) * 32 ≤ room) = true := decide_eq_true (by unfold room; omega)
   have r2 : decide (l.length + 1 ≤ strMax) = true := decide_eq_true (by unfold strMax; omega)
   have e1 : ((fs.getD w.toNat (.i 0)).cell 1).toI = fS (fs.getD w.toNat (.i 0)) := rfl
   have w1' := wrapI (x := w + 1) (by omega) (by omega)
   simp only [_root_.cond_true, bnd_eq, r1, r2, Bool.and_self, e1, w1', wrapI (x := all + fS (fs.getD w.toNat (.i 0))) (by omega) (by omega), wrapI (x := w1 + fS (fs.getD w.toNat (.i 0))) (by omega) (by omega), fldsAt]
   have hc : (bif short then all == tmL 0 fs else false) = (t && isT (fs.getD w.toNat (.i 0))) ∧ TInv short (t && !(isT (fs.getD w.toNat (.i 0)))) (tmL 0 fs) (all + fS (fs.getD w.toNat (.i 0))) (fs.drop (w + 1).toNat) := by
    unfold TInv at hT ⊢
    cases short with
    | false => simp only [_root_.cond_false] at hT ⊢; subst hT; exact ⟨rfl, rfl⟩
    | true =>
     simp only [_root_.cond_true] at hT ⊢
     cases t with
     | false =>
      simp only [_root_.cond_false, Bool.false_and] at hT ⊢
      refine ⟨?_, by omega⟩
      simp; omega
     | true =>
      simp only [_root_.cond_true, Bool.true_and, tmL] at hT ⊢
      cases hi : isT (fs.getD w.toNat (.i 0)) with
      | true =>
       rw [hi] at hT
       simp only [_root_.cond_true, Bool.not_true, _root_.cond_false] at hT ⊢
       exact ⟨by simp; omega, by omega⟩
      | false =>
       rw [hi] at hT
       simp only [_root_.cond_false, Bool.not_false, _root_.cond_true] at hT ⊢
       refine ⟨?_, hT⟩
       have := tmL_bound (fs := fs.drop (w + 1).toNat) (a := all + fS (fs.getD w.toNat (.i 0))) (by omega) (fun x hx => h.size x (List.mem_of_mem_drop hx))
       simp; omega
   rw [hc.1]
   cases hti : (t && isT (fs.getD w.toNat (.i 0))) with
   | true =>
    simp only [_root_.cond_true]
    have ht2 : (t && !(isT (fs.getD w.toNat (.i 0)))) = false := (by decide : ∀ x y : Bool, (x && y) = true → (x && !y) = false) _ _ hti
    exact ih (w1, all + fS (fs.getD w.toNat (.i 0)), w + 1, b, l) ⟨by simp only; omega, by simp only; omega, by simp only; omega, by simp only; omega, by simp only; omega, by simp only; omega, by simp only; omega⟩ (by simp only; omega) false (ht2 ▸ hc.2)
   | false =>
    simp only [_root_.cond_false]
    have ht2 : (t && !(isT (fs.getD w.toNat (.i 0)))) = t := (by decide : ∀ x y : Bool, (x && y) = false → (x && !y) = x) _ _ hti
    obtain ⟨nl, e⟩ := ih (w1 + fS (fs.getD w.toNat (.i 0)), all + fS (fs.getD w.toNat (.i 0)), w + 1, false, l ++ [.a [.i (fN (fs.getD w.toNat (.i 0))), .i (fS (fs.getD w.toNat (.i 0))), .i (fT (fs.getD w.toNat (.i 0))), .i w1]]) ⟨by simp only; omega, by simp only; omega, by simp only; omega, by simp only; omega, by simp only; omega, by simp only; omega, by simp; omega⟩ (by simp only; omega) t (ht2 ▸ hc.2)
    exact ⟨nl, by rw [← List.append_cons] at e; exact e⟩
  ·have : w = fs.length := by omega
   subst this
   rw [decide_eq_false hw, drop_end (by omega)]
   exact ⟨b, by simp [fldsAt]⟩
end
def AtOk (n : Int) : List D → Prop
 | [] => True
 | f :: r => (0 ≤ (f.cell 3).toI ∧ (f.cell 3).toI + fS f ≤ n) ∧ AtOk n r
theorem fldsAt_ok : ∀ {fs : List D} {t : Bool} {a n : Int}, TypOk fs → 0 ≤ a → a + szL (flds t fs) ≤ n → AtOk n (fldsAt t a fs) ∧ TypOk (fldsAt t a fs)
 | [], _, _, _, _, _, _ => ⟨trivial, fun f hf => by simp [fldsAt] at hf⟩
 | f :: r, t, a, n, ht, h0, h1 => by
  have h2 := ht f (by simp)
  have h3 : TypOk r := fun x hx => ht x (by simp [hx])
  simp only [flds, fldsAt] at h1 ⊢
  cases hh : t && isT f with
  | true =>
   rw [hh] at h1
   simp only [_root_.cond_true] at h1 ⊢
   exact fldsAt_ok h3 h0 h1
  | false =>
   rw [hh] at h1
   simp only [_root_.cond_false, szL] at h1 ⊢
   have e : fS (.a [.i (fN f), .i (fS f), .i (fT f)]) = fS f := rfl
   rw [e] at h1
   obtain ⟨q1, q2⟩ := fldsAt_ok (t := t) (a := a + fS f) (n := n) h3 (by omega) (by omega)
   have hb := szL_bound (fs := flds t r) (fun x hx => (flds_ok (fun y hy => by have := h3 y hy; omega)).2 x hx)
   refine ⟨⟨⟨h0, by show a + fS f ≤ n; omega⟩, q1⟩, fun x hx => ?_⟩
   rcases List.mem_cons.1 hx with rfl | hx
   ·exact h2
   ·exact q2 x hx
section
variable {fs data : List D} {big : Bool}
theorem valOk_sub {f : D} {a : Int} (hf : 0 ≤ fT f ∧ fT f ≤ 3 ∧ 1 ≤ fS f ∧ fS f ≤ 255 ∧ (fT f ≤ 1 → fS f = 1 ∨ fS f = 2 ∨ fS f = 4)) (h0 : 0 ≤ a) (h1 : a + fS f ≤ data.length) (hb : BytesOk data) : ValOk (fS f) (fT f) ((data.take (a + fS f).toNat).drop a.toNat) := by
 have hl : ((data.take (a + fS f).toNat).drop a.toNat).length = (fS f).toNat := by simp; omega
 exact ⟨hf.1, hf.2.1, hf.2.2.2.2, by omega, fun x hx => hb x (List.mem_of_mem_take (List.mem_of_mem_drop hx)), by omega⟩
theorem atOk_get : ∀ {l : List D} {n : Int} {i : Nat}, AtOk n l → i < l.length → 0 ≤ ((l.getD i (.i 0)).cell 3).toI ∧ ((l.getD i (.i 0)).cell 3).toI + fS (l.getD i (.i 0)) ≤ n
 | f :: r, n, 0, h, _ => h.1
 | f :: r, n, i + 1, h, hi => by
  have := atOk_get (l := r) (i := i) h.2 (by simpa using hi)
  simpa using this
 | [], _, _, _, hi => by simp at hi
def valA (data : List D) (big : Bool) (f : D) : D := valD f (f.cell 3).toI data big
theorem valsL_map : ∀ {fs : List D} {t : Bool} {a : Int}, (fldsAt t a fs).map (valA data big) = valsL data big t a fs
 | [], _, _ => rfl
 | f :: r, t, a => by
  simp only [fldsAt, valsL]
  cases t && isT f with
  | true => exact valsL_map
  | false => simp only [_root_.cond_false, List.map_cons, valsL_map]; rfl
theorem G121x0x9_eq (hN : maxLen < N) {l : List D} (hl : l.length ≤ 255) (hd : data.length ≤ maxLen) (hb : BytesOk data) (h1 : AtOk data.length l) (h2 : TypOk l) : ∃ nl, G121x0x9 N l l.length big data 0 true [] = some (nl, l.map (valA data big)) := by
 have hm : maxLen = 9223372036854775807 := rfl
 have key := loop_indE (A := Int × Bool × LD) (X := Option (Bool × LD)) (S := fun x kr => S121x0x9 N l l.length big data x.1 x.2.1 x.2.2 (fun a b c => kr (a, b, c)) (fun p => some p)) (L := fun m x => L121x0x9 N l l.length big data m x.1 x.2.1 x.2.2 (fun p => some p)) (fun m x => rfl)
  (fun x r => ∃ nl, r = some (nl, x.2.2 ++ (l.drop x.1.toNat).map (valA data big))) (fun x => 0 ≤ x.1 ∧ x.1 ≤ l.length ∧ (x.2.2.length : Int) ≤ x.1) (fun x => (l.length - x.1).toNat) ?_ N (0, true, []) ⟨by show (0 : Int) ≤ 0; omega, by show (0 : Int) ≤ _; omega, by simp⟩ (by simp; omega)
 ·obtain ⟨nl, k2⟩ := key
  exact ⟨nl, Eq.trans k2 (by simp)⟩
 ·rintro ⟨w, b, acc⟩ kr ⟨h0, h3, h4⟩ ih
  simp only at h0 h3 h4 ih ⊢
  unfold S121x0x9
  by_cases hw : w < l.length
  ·have hf := h2 _ (getD_mem (fs := l) h0 hw)
   have ha := atOk_get (i := w.toNat) h1 (by omega)
   have r1 : decide ((acc.length + 1) * 48 ≤ room) = true := decide_eq_true (by unfold room; omega)
   have r2 : decide (acc.length + 1 ≤ strMax) = true := decide_eq_true (by unfold strMax; omega)
   have q := G165x0_eq (N := N) (s := fS (l.getD w.toNat (.i 0))) (t := fT (l.getD w.toNat (.i 0))) (at_ := ((l.getD w.toNat (.i 0)).cell 3).toI) (data := data) hN big ha.1 ha.2 (by omega) hd (valOk_sub hf ha.1 ha.2 hb)
   rw [decide_eq_true hw, inB_of h0 hw, drop_at (.i 0) h0 hw]
   have q' : G165x0 N ((l.getD w.toNat (.i 0)).cell 1).toI ((l.getD w.toNat (.i 0)).cell 2).toI ((l.getD w.toNat (.i 0)).cell 3).toI data big = _ := q
   simp only [_root_.cond_true, bnd_eq, q', Option.isSome_some, getD_some, r1, r2, Bool.and_self, wrapI (x := w + 1) (by omega) (by omega), List.map_cons]
   obtain ⟨nl, e⟩ := ih (w + 1, false, acc ++ [valA data big (l.getD w.toNat (.i 0))]) ⟨by simp only; omega, by simp only; omega, by simp; omega⟩ (by simp only; omega)
   exact ⟨nl, by rw [← List.append_cons] at e; exact e⟩
  ·have : w = l.length := by omega
   subst this
   rw [decide_eq_false hw, drop_end (by omega)]
   exact ⟨b, by simp⟩
theorem G121x0_eq (hN : maxLen < N) (h : FldsOk fs) (ht : TypOk fs) (hd : data.length ≤ maxLen) (hb : BytesOk data) (kind : Int) (hlen : szL (flds (kind == 3) fs) ≤ data.length) :
  ∃ nl, G121x0 N big fs (tmL 0 fs) kind data = some (nl, valsL data big (kind == 3) 0 fs) := by
 obtain ⟨n1, q1⟩ := G164x0_eq (N := N) hN h ht (kind == 3)
 obtain ⟨a1, a2⟩ := fldsAt_ok (t := kind == 3) (a := 0) (n := data.length) ht (by omega) (by omega)
 obtain ⟨n2, q2⟩ := G121x0x9_eq (N := N) (big := big) hN (l := fldsAt (kind == 3) 0 fs) (by have := fldsAt_len (fs := fs) (t := kind == 3) (a := 0); have := h.len; omega) hd hb a1 a2
 refine ⟨n2, ?_⟩
 unfold G121x0 F121x0
 simp only [bnd_eq]
 rw [q1]
 simp only [Option.isSome_some, getD_some, _root_.cond_true]
 rw [q2, valsL_map]
 rfl
theorem G65x0x12_eq (hN : maxLen < N) {l : List D} (hl : l.length ≤ 255) (hd : data.length ≤ maxLen) (hb : BytesOk data) (ht : TypOk l) (hlen : szL l ≤ data.length) : ∃ nl, G65x0x12 N l l.length big data 0 0 true [] = some (nl, valsL data big false 0 l) := by
 have hm : maxLen = 9223372036854775807 := rfl
 have key := loop_indE (A := Int × Int × Bool × LD) (X := Option (Bool × LD)) (S := fun x kr => S65x0x12 N l l.length big data x.1 x.2.1 x.2.2.1 x.2.2.2 (fun a b c d => kr (a, b, c, d)) (fun p => some p)) (L := fun m x => L65x0x12 N l l.length big data m x.1 x.2.1 x.2.2.1 x.2.2.2 (fun p => some p)) (fun m x => rfl)
  (fun x r => ∃ nl, r = some (nl, x.2.2.2 ++ valsL data big false x.1 (l.drop x.2.1.toNat))) (fun x => 0 ≤ x.2.1 ∧ x.2.1 ≤ l.length ∧ (x.2.2.2.length : Int) ≤ x.2.1 ∧ 0 ≤ x.1 ∧ x.1 + szL (l.drop x.2.1.toNat) ≤ data.length) (fun x => (l.length - x.2.1).toNat) ?_ N (0, 0, true, []) ⟨by show (0 : Int) ≤ 0; omega, by show (0 : Int) ≤ _; omega, by simp, by show (0 : Int) ≤ 0; omega, by simpa using hlen⟩ (by simp; omega)
 ·obtain ⟨nl, k2⟩ := key
  exact ⟨nl, Eq.trans k2 (by simp)⟩
 ·rintro ⟨a, w, b, acc⟩ kr ⟨h0, h3, h4, h5, h6⟩ ih
  simp only at h0 h3 h4 h5 h6 ih ⊢
  unfold S65x0x12
  by_cases hw : w < l.length
  ·have hf := ht _ (getD_mem (fs := l) h0 hw)
   rw [drop_at (.i 0) h0 hw] at h6
   simp only [szL] at h6
   have hb2 := szL_bound (fs := l.drop (w + 1).toNat) (fun x hx => by have := ht x (List.mem_of_mem_drop hx); omega)
   have r1 : decide ((acc.length + 1) * 48 ≤ room) = true := decide_eq_true (by unfold room; omega)
   have r2 : decide (acc.length + 1 ≤ strMax) = true := decide_eq_true (by unfold strMax; omega)
   have e1 : ((l.getD w.toNat (.i 0)).cell 1).toI = fS (l.getD w.toNat (.i 0)) := rfl
   have e2 : ((l.getD w.toNat (.i 0)).cell 2).toI = fT (l.getD w.toNat (.i 0)) := rfl
   have q := G130x0_eq (N := N) hN (valOk_sub (data := data) (a := a) hf h5 (by omega) hb) big
   rw [decide_eq_true hw, inB_of h0 hw, drop_at (.i 0) h0 hw, e1, e2, wrapI (x := a + fS (l.getD w.toNat (.i 0))) (by omega) (by omega)]
   simp only [_root_.cond_true, bnd_eq, decide_eq_true h5, decide_eq_true (show a ≤ a + fS (l.getD w.toNat (.i 0)) by omega), decide_eq_true (show a + fS (l.getD w.toNat (.i 0)) ≤ (data.length : Int) by omega), q, Option.isSome_some, getD_some, r1, r2, Bool.and_self, wrapI (x := w + 1) (by omega) (by omega), valsL, Bool.false_and, _root_.cond_false]
   obtain ⟨nl, e⟩ := ih (a + fS (l.getD w.toNat (.i 0)), w + 1, false, acc ++ [valD (l.getD w.toNat (.i 0)) a data big]) ⟨by simp only; omega, by simp only; omega, by simp; omega, by simp only; omega, by simp only; omega⟩ (by simp only; omega)
   exact ⟨nl, by rw [← List.append_cons] at e; exact e⟩
  ·have : w = l.length := by omega
   subst this
   rw [decide_eq_false hw, drop_end (by omega)]
   exact ⟨b, by simp [valsL]⟩
theorem valsL_flds_false : ∀ {fs : List D} {a : Int}, valsL data big false a (flds false fs) = valsL data big false a fs
 | [], _ => rfl
 | f :: r, a => by
  simp only [flds, valsL, Bool.false_and, _root_.cond_false, valsL_flds_false (fs := r)]
  rfl
theorem valsL_flds : ∀ {fs : List D} {t : Bool} {a : Int}, valsL data big false a (flds t fs) = valsL data big t a fs
 | [], _, _ => rfl
 | f :: r, t, a => by
  simp only [flds, valsL]
  cases t && isT f with
  | true => exact valsL_flds_false
  | false =>
   simp only [valsL, _root_.cond_false, Bool.false_and, valsL_flds (fs := r)]
   rfl
theorem TypOk.flds : ∀ {fs : List D} {t : Bool}, TypOk fs → TypOk (flds t fs)
 | [], _, _, f, hf => by simp [Proofs.YtngnemeafkmaoaaGreat.flds] at hf
 | f :: r, t, h, x, hx => by
  have h3 : TypOk r := fun x hx => h x (by simp [hx])
  simp only [Proofs.YtngnemeafkmaoaaGreat.flds] at hx
  cases hh : t && isT f with
  | true => rw [hh] at hx; exact TypOk.flds h3 x hx
  | false =>
   rw [hh] at hx
   rcases List.mem_cons.1 hx with rfl | hx
   ·exact h f (by simp)
   ·exact TypOk.flds h3 x hx
theorem G65x0_eq (hN : maxLen < N) (h : FldsOk fs) (ht : TypOk fs) (hd : data.length ≤ maxLen) (hb : BytesOk data) (kind : Int) (hlen : szL (flds (kind == 3) fs) ≤ data.length) :
  ∃ nl, G65x0 N big fs kind data = some (nl, valsL data big (kind == 3) 0 fs) := by
 obtain ⟨n1, q1⟩ := G128x0_eq (N := N) hN h (kind == 3)
 obtain ⟨n2, q2⟩ := G65x0x12_eq (N := N) (big := big) hN (l := flds (kind == 3) fs) (h.flds _).len hd hb (ht.flds (t := kind == 3)) hlen
 refine ⟨n2, ?_⟩
 unfold G65x0 F65x0
 simp only [bnd_eq]
 rw [q1]
 simp only [Option.isSome_some, getD_some, _root_.cond_true]
 rw [q2, valsL_flds]
 rfl
end
end Go.Proofs.YtngnemeafkmaoaaGreat

namespace Go.Proofs.YtngnemeafkmaoaaGreat
open Go Go.AM
set_option maxRecDepth 100000
set_option maxHeartbeats 4000000
set_option linter.unusedVariables false
variable {N : Nat}
def isV (f t : Int) (v : D) : Bool := bif (bif (v.cell 0).toI == f then (v.cell 1).toI == t else false) then !(v.cell 4).toB else false
def isX (f : Int) (v : D) : Bool := bif (v.cell 0).toI == f then (v.cell 1).toI == 2 else false
def numV (f t : Int) (vs : List D) : Int × Bool := match vs.find? (isV f t) with | some v => ((v.cell 2).toI, true) | none => (0, false)
def txtV (f : Int) (vs : List D) : List UInt8 := match vs.find? (isX f) with | some v => (v.cell 3).toS | none => []
def fV (p : D → Bool) (l : List D) : Sum Int Unit := match l.find? p with | some v => .inl (v.cell 2).toI | none => .inr ()
def fX (p : D → Bool) (l : List D) : Sum (List UInt8) Unit := match l.find? p with | some v => .inl (v.cell 3).toS | none => .inr ()
theorem fV_cons {p : D → Bool} {x : D} {l : List D} : fV p (x :: l) = bif p x then .inl (x.cell 2).toI else fV p l := by
 unfold fV; rw [List.find?_cons]; cases p x <;> rfl
theorem fX_cons {p : D → Bool} {x : D} {l : List D} : fX p (x :: l) = bif p x then .inl (x.cell 3).toS else fX p l := by
 unfold fX; rw [List.find?_cons]; cases p x <;> rfl
section
variable {vs : List D}
theorem G56x0_eq (hN : maxLen < N) (hl : vs.length ≤ maxLen) (f t : Int) : G56x0 N vs f t = some (numV f t vs) := by
 have h : G56x0x6 N f t vs vs.length 0 = some (fV (isV f t) vs) := by
  unfold G56x0x6
  refine for_ind (.i 0 : D) (S := fun w kr => S56x0x6 N f t vs vs.length w kr _ _) (L := fun m w => L56x0x6 N f t vs vs.length m w _ _) (fun m w => rfl) (fun _ l => some (fV (isV f t) l)) hl ?_ ?_ hN
  ·intro kr; simp [S56x0x6]; rfl
  ·intro w kr h0 h1 hw hi hk
   simp only [S56x0x6, decide_eq_true h1, _root_.cond_true, hi, bnd_eq, hw, hk, fV_cons]
   show (bif isV f t (vs.getD w.toNat (.i 0)) then _ else _) = _
   cases isV f t (vs.getD w.toNat (.i 0)) <;> rfl
 unfold G56x0 F56x0 numV
 rw [h]
 unfold fV
 cases vs.find? (isV f t) <;> rfl
theorem G66x0_eq (hN : maxLen < N) (hl : vs.length ≤ maxLen) (f t : Int) : G66x0 N vs f t = some (numV f t vs) := by
 have h : G66x0x6 N f t vs vs.length 0 = some (fV (isV f t) vs) := by
  unfold G66x0x6
  refine for_ind (.i 0 : D) (S := fun w kr => S66x0x6 N f t vs vs.length w kr _ _) (L := fun m w => L66x0x6 N f t vs vs.length m w _ _) (fun m w => rfl) (fun _ l => some (fV (isV f t) l)) hl ?_ ?_ hN
  ·intro kr; simp [S66x0x6]; rfl
  ·intro w kr h0 h1 hw hi hk
   simp only [S66x0x6, decide_eq_true h1, _root_.cond_true, hi, bnd_eq, hw, hk, fV_cons]
   show (bif isV f t (vs.getD w.toNat (.i 0)) then _ else _) = _
   cases isV f t (vs.getD w.toNat (.i 0)) <;> rfl
 unfold G66x0 F66x0 numV
 rw [h]
 unfold fV
 cases vs.find? (isV f t) <;> rfl
theorem G55x0_eq (hN : maxLen < N) (hl : vs.length ≤ maxLen) (f : Int) : G55x0 N vs f = some (txtV f vs) := by
 have h : G55x0x6 N f vs vs.length 0 = some (fX (isX f) vs) := by
  unfold G55x0x6
  refine for_ind (.i 0 : D) (S := fun w kr => S55x0x6 N f vs vs.length w kr _ _) (L := fun m w => L55x0x6 N f vs vs.length m w _ _) (fun m w => rfl) (fun _ l => some (fX (isX f) l)) hl ?_ ?_ hN
  ·intro kr; simp [S55x0x6]; rfl
  ·intro w kr h0 h1 hw hi hk
   simp only [S55x0x6, decide_eq_true h1, _root_.cond_true, hi, bnd_eq, hw, hk, fX_cons]
   show (bif isX f (vs.getD w.toNat (.i 0)) then _ else _) = _
   cases isX f (vs.getD w.toNat (.i 0)) <;> rfl
 unfold G55x0 F55x0 txtV
 rw [h]
 unfold fX
 cases vs.find? (isX f) <;> rfl
theorem G67x0_eq (hN : maxLen < N) (hl : vs.length ≤ maxLen) (f : Int) : G67x0 N vs f = some (txtV f vs) := by
 have h : G67x0x6 N f vs vs.length 0 = some (fX (isX f) vs) := by
  unfold G67x0x6
  refine for_ind (.i 0 : D) (S := fun w kr => S67x0x6 N f vs vs.length w kr _ _) (L := fun m w => L67x0x6 N f vs vs.length m w _ _) (fun m w => rfl) (fun _ l => some (fX (isX f) l)) hl ?_ ?_ hN
  ·intro kr; simp [S67x0x6]; rfl
  ·intro w kr h0 h1 hw hi hk
   simp only [S67x0x6, decide_eq_true h1, _root_.cond_true, hi, bnd_eq, hw, hk, fX_cons]
   show (bif isX f (vs.getD w.toNat (.i 0)) then _ else _) = _
   cases isX f (vs.getD w.toNat (.i 0)) <;> rfl
 unfold G67x0 F67x0 txtV
 rw [h]
 unfold fX
 cases vs.find? (isX f) <;> rfl
def knV (f : Int) (vs : List D) : Int := bif (numV f 0 vs).2 then (numV f 0 vs).1 else -1
theorem G68x0_eq (hN : maxLen < N) (hl : vs.length ≤ maxLen) (f : Int) : G68x0 N vs f = some (knV f vs) := by
 unfold G68x0 F68x0 knV
 rw [G66x0_eq hN hl]
 simp only [bnd_eq, Option.isSome_some, getD_some, _root_.cond_true]
 cases (numV f 0 vs).2 <;> rfl
end
def OkT (a : Ab) : Prop := ∀ j, a.kn j = true → TypOk (a.fs j)
theorem OkT.step {a : Ab} (h : OkT a) {x : D} (hx : errE a x = 0) : OkT (stepA a x) := by
 unfold stepA stepD
 cases hk : kX x == 1 with
 | true =>
  have hE := entE_ok hx
  have hf := defE_typ (hE.d (by simpa using hk)).2
  intro j hj
  simp only [_root_.cond_true, upA] at hj ⊢
  by_cases e : j = (sX x).toNat
  ·simp only [if_pos e]; exact hf
  ·simp only [if_neg e] at hj ⊢; exact h j hj
 | false => exact h
theorem OkT.start : OkT Ab.start := fun j hj => by simp [Ab.start] at hj
def valsX (a : Ab) (x : D) : List D := valsL (bX x) (a.bg (sX x).toNat) (kX x == 3) 0 (a.fs (sX x).toNat)
abbrev Tri : Type := Int × Int × List D
def dataA : Ab → List D → List Tri
 | _, [] => []
 | a, x :: r => bif kX x == 1 then dataA (stepA a x) r else (a.gl (sX x).toNat, timeE a x, valsX a x) :: dataA (stepA a x) r
def DatR (d : D) (t : Tri) : Prop := (d.cell 0).toI = t.1 ∧ (d.cell 1).toI = t.2.1 ∧ (d.cell 2).items = t.2.2
theorem valsL_len {data : List D} {big : Bool} : ∀ {fs : List D} {t : Bool} {a : Int}, (valsL data big t a fs).length ≤ fs.length
 | [], _, _ => Nat.le_refl _
 | f :: r, t, a => by
  simp only [valsL]
  cases t && isT f with
  | true => have := valsL_len (data := data) (big := big) (fs := r) (t := false) (a := a); simp only [_root_.cond_true, List.length_cons]; omega
  | false => have := valsL_len (data := data) (big := big) (fs := r) (t := t) (a := a + fS f); simp only [_root_.cond_false, List.length_cons]; omega
theorem cutS_len (l : List UInt8) : (cutS l).length ≤ l.length := by
 unfold cutS
 cases decide (Lib.indexByte l 0 ≥ 0) with
 | true => simp only [_root_.cond_true, List.length_take]; omega
 | false => exact Nat.le_refl _
theorem valsL_str {data : List D} {big : Bool} : ∀ {fs : List D} {t : Bool} {a : Int}, ∀ v ∈ valsL data big t a fs, (v.cell 3).toS.length ≤ data.length
 | [], _, _, v, hv => by simp [valsL] at hv
 | f :: r, t, a, v, hv => by
  simp only [valsL] at hv
  cases hh : t && isT f with
  | true => rw [hh] at hv; exact valsL_str v hv
  | false =>
   rw [hh] at hv
   rcases List.mem_cons.1 hv with rfl | hv
   ·show (valC (fS f) (fT f) ((data.take (a + fS f).toNat).drop a.toNat) big).2.1.length ≤ data.length
    have hb : ((data.take (a + fS f).toNat).drop a.toNat).length ≤ data.length := by simp; omega
    have hs := strD_len ((data.take (a + fS f).toNat).drop a.toNat)
    generalize (data.take (a + fS f).toNat).drop a.toNat = b at hb hs ⊢
    have hc := cutS_len (strD b)
    unfold valC
    cases fT f == 3 <;> cases fT f == 2 <;> cases numB b big == missV (fS f) (fT f == 1) <;> simp <;> omega
   ·exact valsL_str v hv
def TriOk (t : Tri) : Prop := t.2.2.length ≤ 255 ∧ ∀ v ∈ t.2.2, (v.cell 3).toS.length ≤ maxLen
theorem txtV_len {f : Int} {vs : List D} (h : ∀ v ∈ vs, (v.cell 3).toS.length ≤ maxLen) : (txtV f vs).length ≤ maxLen := by
 unfold txtV
 cases hv : vs.find? (isX f) with
 | none => exact Nat.zero_le _
 | some v => exact h v (List.mem_of_find?_eq_some hv)
theorem data_ok {a : Ab} {x : D} (ha : OkA a) (ht : OkT a) (h : errE a x = 0) (hx : EntD x) (hk : kX x ≠ 1) : FldsOk (a.fs (sX x).toNat) ∧ TypOk (a.fs (sX x).toNat) ∧ szL (flds (kX x == 3) (a.fs (sX x).toNat)) ≤ (bX x).length ∧ (bX x).length ≤ maxLen ∧ BytesOk (bX x) ∧ a.kn (sX x).toNat = true := by
 have hE := entE_ok h
 have hkn := (hE.n hk).1
 have hf := ha _ hkn
 refine ⟨hf, ht _ hkn, ?_, hx.b, hx.y, hkn⟩
 by_cases h3 : kX x = 3
 ·obtain ⟨t0, l0, o0, o1, hl⟩ := hE.h h3
  have := (szL_flds (a := 0) (by omega) hf.size).2 t0
  rw [h3]
  show szL (flds true _) ≤ _
  rw [this]
  omega
 ·have h2 : kX x = 2 := by have := hE.k; omega
  have := hE.t h2
  rw [h2]
  show szL (flds false _) ≤ _
  rw [szL_flds_false]
  omega
theorem tri_ok {a : Ab} {x : D} (ha : OkA a) (h : errE a x = 0) (hx : EntD x) (hk : kX x ≠ 1) (g t : Int) : TriOk (g, t, valsX a x) := by
 have hE := entE_ok h
 have hf := ha _ (hE.n hk).1
 exact ⟨Nat.le_trans valsL_len hf.len, fun v hv => Nat.le_trans (valsL_str v hv) hx.b⟩
section
variable {es : List D}
theorem dataA_ok : ∀ {es : List D} {a : Ab}, OkA a → errsA a es = 0 → (∀ x ∈ es, EntD x) → (dataA a es).length ≤ es.length ∧ ∀ t ∈ dataA a es, TriOk t
 | [], _, _, _, _ => ⟨Nat.le_refl _, fun t ht => by simp [dataA] at ht⟩
 | x :: r, a, ha, he, hes => by
  obtain ⟨e1, e2⟩ := errs_cons he
  have ih := dataA_ok (ha.step e1) e2 (fun y hy => hes y (by simp [hy]))
  simp only [dataA]
  cases hk : kX x == 1 with
  | true => simp only [_root_.cond_true, List.length_cons]; exact ⟨by omega, ih.2⟩
  | false =>
   simp only [_root_.cond_false, List.length_cons]
   refine ⟨by omega, fun t ht => ?_⟩
   rcases List.mem_cons.1 ht with rfl | ht
   ·exact tri_ok ha e1 (hes x (by simp)) (by simpa using hk) _ _
   ·exact ih.2 t ht
theorem data_loop (hN : maxLen < N) (hes : ∀ x ∈ es, EntD x) (hl : es.length ≤ 50000) : ∀ (m : Nat) (i : Int) (p s : D) (a : Ab) (b : Bool) (acc : List D), OkA a → OkT a → 0 ≤ i → i ≤ es.length → (es.length - i).toNat < m → Wk p s a i → errsA a (es.drop i.toNat) = 0 → (acc.length : Int) ≤ i →
  ∃ b' dl, L54x0x12 N es es.length m i b acc p (fun p => some p) = some (b', acc ++ dl) ∧ All2 DatR dl (dataA a (es.drop i.toNat)) := by
 have hm : maxLen = 9223372036854775807 := rfl
 intro m
 induction m with
 | zero => intro i p s a b acc _ _ _ _ h; omega
 | succ m ih =>
  intro i p s a b acc ha ht h0 h1 hmm hw he hacc
  unfold L54x0x12 S54x0x12
  by_cases hi : i < es.length
  ·have hx : EntD _ := hes _ (getD_mem (fs := es) h0 hi)
   rw [drop_at (.i 0) h0 hi] at he ⊢
   obtain ⟨e1, e2⟩ := errs_cons he
   obtain ⟨p', s', q1, q2, hw'⟩ := take_abs (N := N) hN hw hx h0 (by omega) e1
   have hE := entE_ok e1
   have r1 : decide ((acc.length + 1) * 40 ≤ room) = true := decide_eq_true (by unfold room; omega)
   have r2 : decide (acc.length + 1 ≤ strMax) = true := decide_eq_true (by unfold strMax; omega)
   rw [decide_eq_true hi, inB_of h0 hi, q1]
   simp only [_root_.cond_true, bnd_eq, Option.isSome_some, getD_some, hE.s.1, wrapI (x := i + 1) (by omega) (by omega)]
   unfold G54x0x29 F54x0x29
   by_cases hk : kX (es.getD i.toNat (.i 0)) = 1
   ·have b1 : (((es.getD i.toNat (.i 0)).cell 0).toI != 1) = false := by show (kX _ != 1) = false; rw [hk]; rfl
    rw [b1]
    simp only [_root_.cond_false]
    obtain ⟨b', dl, z1, z2⟩ := ih (i + 1) p' s' _ b acc (ha.step e1) (ht.step e1) (by omega) (by omega) (by omega) hw' e2 (by omega)
    refine ⟨b', dl, z1, ?_⟩
    simp only [dataA]
    rw [hk]
    exact z2
   ·have b1 : (((es.getD i.toNat (.i 0)).cell 0).toI != 1) = true := (not1 hk).2
    obtain ⟨s1, s2, s3, s4, s5⟩ := step_data (a := a) hk
    obtain ⟨f1, f2, f3, f4, f5, f6⟩ := data_ok ha ht e1 hx hk
    have hkn : (stepA a (es.getD i.toNat (.i 0))).kn (sX (es.getD i.toNat (.i 0))).toNat = true := by rw [s1]; exact f6
    obtain ⟨_, g2, g3, g4, g5, g6⟩ := hw'.pp.df _ hE.s.2 hkn
    unfold stepA at s2 s3 s4
    rw [s2] at g2
    rw [s3] at g3
    rw [s4] at g4 g6
    obtain ⟨nl, hv⟩ := G121x0_eq (N := N) (big := a.bg (sX (es.getD i.toNat (.i 0))).toNat) hN f1 f2 f4 f5 (kX (es.getD i.toNat (.i 0))) f3
    rw [b1]
    have c1 : (p'.cell (1 + (((es.getD i.toNat (.i 0)).cell 1).toI.toNat * 6))).toB = a.bg (sX (es.getD i.toNat (.i 0))).toNat := g2
    have c2 : (p'.cell (2 + (((es.getD i.toNat (.i 0)).cell 1).toI.toNat * 6))).toI = a.gl (sX (es.getD i.toNat (.i 0))).toNat := g3
    have c3 : (p'.cell (3 + (((es.getD i.toNat (.i 0)).cell 1).toI.toNat * 6))).items = a.fs (sX (es.getD i.toNat (.i 0))).toNat := g4
    have c5 : (p'.cell (5 + (((es.getD i.toNat (.i 0)).cell 1).toI.toNat * 6))).toI = tmL 0 (a.fs (sX (es.getD i.toNat (.i 0))).toNat) := g6
    rw [c1, c2, c3, c5]
    have hv' : G121x0 N (a.bg (sX (es.getD i.toNat (.i 0))).toNat) (a.fs (sX (es.getD i.toNat (.i 0))).toNat) (tmL 0 (a.fs (sX (es.getD i.toNat (.i 0))).toNat)) ((es.getD i.toNat (.i 0)).cell 0).toI ((es.getD i.toNat (.i 0)).cell 4).items = some (nl, valsX a (es.getD i.toNat (.i 0))) := hv
    simp only [_root_.cond_true, bnd_eq, hv', Option.isSome_some, getD_some, r1, r2, Bool.and_self, inlB_inl, inlV_inl]
    obtain ⟨b', dl, z1, z2⟩ := ih (i + 1) p' s' _ false (acc ++ [.a [.i (a.gl (sX (es.getD i.toNat (.i 0))).toNat), .i (timeE a (es.getD i.toNat (.i 0))), .l nl (valsX a (es.getD i.toNat (.i 0)))]]) (ha.step e1) (ht.step e1) (by omega) (by omega) (by omega) hw' e2 (by simp; omega)
    refine ⟨b', .a [.i (a.gl (sX (es.getD i.toNat (.i 0))).toNat), .i (timeE a (es.getD i.toNat (.i 0))), .l nl (valsX a (es.getD i.toNat (.i 0)))] :: dl, by rw [← List.append_cons] at z1; exact z1, ?_⟩
    simp only [dataA]
    rw [(not1 hk).1]
    exact ⟨⟨rfl, rfl, rfl⟩, z2⟩
  ·have : i = es.length := by omega
   subst this
   rw [decide_eq_false hi, drop_end (by omega)]
   exact ⟨b, [], by simp, trivial⟩
theorem data_prog (hN : maxLen < N) (hes : ∀ x ∈ es, EntD x) (h : fileE es = 0) : ∃ b dl, G54x0 N es = some (b, dl) ∧ All2 DatR dl (dataA Ab.start es) := by
 have hm : maxLen = 9223372036854775807 := rfl
 obtain ⟨hl, he⟩ := fileE_ok h
 obtain ⟨b, dl, z, zr⟩ := data_loop (N := N) hN hes hl N 0 (V118x0 N) zeroS Ab.start true [] OkA.start OkT.start (by omega) (by omega) (by omega) start70 (by simpa using he) (by simp)
 have y1 : G54x0x12 N es es.length 0 true [] (V118x0 N) = some (b, dl) := by unfold G54x0x12; simpa using z
 refine ⟨b, dl, ?_, by simpa using zr⟩
 unfold G54x0 F54x0
 simp only [bnd_eq]
 rw [y1]; rfl
end
end Go.Proofs.YtngnemeafkmaoaaGreat

namespace Go.Proofs.YtngnemeafkmaoaaGreat
open Go Go.AM
set_option maxRecDepth 100000
set_option maxHeartbeats 4000000
set_option linter.unusedVariables false
variable {N : Nat}
def triD (d : D) : Tri := ((d.cell 0).toI, (d.cell 1).toI, (d.cell 2).items)
theorem datR_map : ∀ {dl : List D} {l : List Tri}, All2 DatR dl l → dl.map triD = l
 | [], [], _ => rfl
 | d :: r, t :: s, h => by
  obtain ⟨⟨h1, h2, h3⟩, h4⟩ := h
  simp only [List.map_cons, datR_map h4, triD, h1, h2, h3]
 | [], _ :: _, h => h.elim
 | _ :: _, [], h => h.elim
abbrev Hd : Type := List UInt8 × Int × Int × Bool
def hdT (t : Tri) : Hd := (txtV 1 t.2.2, (numV 2 0 t.2.2).1, t.2.1, (numV 2 0 t.2.2).2)
def headA (l : List Tri) : Option Hd := (l.find? (fun t => t.1 == 0)).map hdT
theorem headA_cons {t : Tri} {l : List Tri} : headA (t :: l) = bif t.1 == 0 then some (hdT t) else headA l := by
 unfold headA
 simp only [List.find?_cons]
 cases t.1 == 0 <;> rfl
def headP : Option Hd → Bool × List UInt8 × Int × Int
 | none => (false, [], 0, 0)
 | some q => (q.2.2.2, q.1, q.2.1, q.2.2.1)
def badH (q : Hd) : Bool := bif (bif !q.2.2.2 then true else q.1 == []) then true else decide (q.2.2.1 < 0)
theorem head_prog (hN : maxLen < N) {dl : List D} (hl : dl.length ≤ maxLen) (hok : ∀ d ∈ dl, TriOk (triD d)) : G21x0x24 N false dl dl.length [] 0 0 0 = some (headP (headA (dl.map triD))) := by
 have hm : maxLen = 9223372036854775807 := rfl
 unfold G21x0x24
 refine for_ind (.i 0 : D) (S := fun w kr => S21x0x24 N false dl dl.length [] 0 0 w kr _) (L := fun m w => L21x0x24 N false dl dl.length [] 0 0 m w _) (fun m w => rfl) (fun _ l => some (headP (headA (l.map triD)))) hl ?_ ?_ hN
 ·intro kr; simp [S21x0x24, headA, headP]
 ·intro w kr h0 h1 hw hi hk
  obtain ⟨o1, o2⟩ := hok _ (getD_mem (fs := dl) h0 h1)
  simp only [S21x0x24, decide_eq_true h1, _root_.cond_true, hi, bnd_eq, hw, hk, List.map_cons, headA_cons]
  show (bif ((triD (dl.getD w.toNat (.i 0))).1 == 0) then _ else _) = _
  cases hg : ((triD (dl.getD w.toNat (.i 0))).1 == 0) with
  | false => rfl
  | true =>
   have q1 := G55x0_eq (N := N) (vs := ((dl.getD w.toNat (.i 0)).cell 2).items) hN (by exact Nat.le_trans o1 (by omega)) 1
   have q2 := G56x0_eq (N := N) (vs := ((dl.getD w.toNat (.i 0)).cell 2).items) hN (by exact Nat.le_trans o1 (by omega)) 2 0
   rw [q1, q2]
   rfl
def smpD (t st : Int) (vs : List D) : D := .a [.i (IntKind.wrap .i64 (t - st)), .i (numV 0 1 vs).1, .i (numV 1 1 vs).1, .i (numV 2 1 vs).1, .i (knV 3 vs), .i (knV 4 vs), .i (knV 5 vs)]
def smpOk (t : Int) (vs : List D) : Bool := bif (bif (bif decide (t ≥ 0) then (numV 0 1 vs).2 else false) then (numV 1 1 vs).2 else false) then (numV 2 1 vs).2 else false
def lapD (t st : Int) (vs : List D) : D := .a [.i (IntKind.wrap .i64 (t - st)), .i (IntKind.wrap .i64 ((numV 1 0 vs).1 - st)), .s (txtV 2 vs)]
def lapOk (t : Int) (vs : List D) : Bool := bif (numV 1 0 vs).2 then decide (t ≥ 0) else false
def tagOk (vs : List D) : Bool := !(txtV 1 vs == [])
def actR (st : Int) : List Tri → List D → List D → List D → Option (List D × List D × List D)
 | [], ss, ls, ts => some (ss, ls, ts)
 | d :: r, ss, ls, ts => bif d.1 == 20 then (bif smpOk d.2.1 d.2.2 then actR st r (ss ++ [smpD d.2.1 st d.2.2]) ls ts else none)
   else bif d.1 == 19 then (bif lapOk d.2.1 d.2.2 then actR st r ss (ls ++ [lapD d.2.1 st d.2.2]) ts else none)
   else bif d.1 == 30 then (bif tagOk d.2.2 then actR st r ss ls (ts ++ [.s (txtV 1 d.2.2)]) else none)
   else actR st r ss ls ts
theorem added_eq (hN : maxLen < N) {g t st : Int} {vs ss ls ts : List D} (hv : TriOk (g, t, vs)) (h1 : ss.length ≤ 50000) (h2 : ls.length ≤ 50000) (h3 : ts.length ≤ 50000) :
  G57x0 N g t vs st ss ls ts = some (bif g == 20 then .inl (smpOk t vs, ss ++ [smpD t st vs]) else bif g == 19 then .inr (.inl (lapOk t vs, ls ++ [lapD t st vs])) else bif g == 30 then .inr (.inr (.inl (tagOk vs, ts ++ [.s (txtV 1 vs)]))) else .inr (.inr (.inr ()))) := by
 have hm : maxLen = 9223372036854775807 := rfl
 have o1 : vs.length ≤ maxLen := Nat.le_trans hv.1 (by omega)
 have r1 : decide ((ss.length + 1) * 56 ≤ room) = true := decide_eq_true (by unfold room; omega)
 have r2 : decide (ss.length + 1 ≤ strMax) = true := decide_eq_true (by unfold strMax; omega)
 have r3 : decide ((ls.length + 1) * 32 ≤ room) = true := decide_eq_true (by unfold room; omega)
 have r4 : decide (ls.length + 1 ≤ strMax) = true := decide_eq_true (by unfold strMax; omega)
 have r5 : decide ((ts.length + 1) * 16 ≤ room) = true := decide_eq_true (by unfold room; omega)
 have r6 : decide (ts.length + 1 ≤ strMax) = true := decide_eq_true (by unfold strMax; omega)
 have n1 := fun f t => G56x0_eq (N := N) hN o1 f t
 have n2 := fun f => G55x0_eq (N := N) hN o1 f
 unfold G57x0 F57x0 V57x0x51050 F57x0x51050 V57x0x51050b F57x0x51050b V57x0x51050bb F57x0x51050bb
 cases g == 20 with
 | true =>
  simp only [_root_.cond_true, bnd_eq, n1, Option.isSome_some, getD_some, r1, r2, Bool.and_self, smpD, smpOk, knV]
 | false =>
  simp only [_root_.cond_false]
  cases g == 19 with
  | true => simp only [_root_.cond_true, bnd_eq, n1, n2, Option.isSome_some, getD_some, r3, r4, Bool.and_self, lapD, lapOk]
  | false =>
   simp only [_root_.cond_false]
   cases g == 30 with
   | true => simp only [_root_.cond_true, bnd_eq, n1, n2, Option.isSome_some, getD_some, r5, r6, Bool.and_self, tagOk]
   | false => rfl
abbrev ActP : Type := List UInt8 × Bool × List D × Bool × List D
abbrev ActQ : Type := Bool × List D × Bool × List D × Bool × List D
def ActSum (q : Sum ActP (Sum ActP (Sum ActP ActQ))) : Option (List D × List D × List D) → Prop
 | none => (∃ z, q = .inl ([], z)) ∨ (∃ z, q = .inr (.inl ([], z))) ∨ (∃ z, q = .inr (.inr (.inl ([], z))))
 | some r => ∃ n1 n2 n3, q = .inr (.inr (.inr (n1, r.1, n2, r.2.1, n3, r.2.2)))
theorem body_loop (hN : maxLen < N) {dl : List D} (hl : dl.length ≤ 50000) (hok : ∀ d ∈ dl, TriOk (triD d)) (st : Int) : ∀ (m : Nat) (i : Int) (b1 b2 b3 : Bool) (ss ls ts : List D), 0 ≤ i → i ≤ dl.length → (dl.length - i).toNat < m → (ss.length : Int) ≤ i → (ls.length : Int) ≤ i → (ts.length : Int) ≤ i →
  ∃ q, L21x0x51 N dl dl.length st m i b1 ss b2 ls b3 ts (fun p => some (Sum.inl p)) (fun p => some (Sum.inr (Sum.inl p))) (fun p => some (Sum.inr (Sum.inr (Sum.inl p)))) (fun p => some (Sum.inr (Sum.inr (Sum.inr p)))) = some q ∧ ActSum q (actR st ((dl.drop i.toNat).map triD) ss ls ts) := by
 have hm : maxLen = 9223372036854775807 := rfl
 intro m
 induction m with
 | zero => intro i b1 b2 b3 ss ls ts _ _ h; omega
 | succ m ih =>
  intro i b1 b2 b3 ss ls ts h0 h1 hmm hs hls hts
  unfold L21x0x51 S21x0x51
  by_cases hi : i < dl.length
  ·have ho := hok _ (getD_mem (fs := dl) h0 hi)
   have q := added_eq (N := N) (g := (triD (dl.getD i.toNat (.i 0))).1) (t := (triD (dl.getD i.toNat (.i 0))).2.1) (vs := (triD (dl.getD i.toNat (.i 0))).2.2) (st := st) (ss := ss) (ls := ls) (ts := ts) hN ho (by omega) (by omega) (by omega)
   have hq : G21x0x58 N st ((dl.getD i.toNat (.i 0)).cell 0).toI ((dl.getD i.toNat (.i 0)).cell 1).toI ((dl.getD i.toNat (.i 0)).cell 2).items ss ls ts = some (bif (triD (dl.getD i.toNat (.i 0))).1 == 20 then .inl (!(smpOk (triD (dl.getD i.toNat (.i 0))).2.1 (triD (dl.getD i.toNat (.i 0))).2.2), ss ++ [smpD (triD (dl.getD i.toNat (.i 0))).2.1 st (triD (dl.getD i.toNat (.i 0))).2.2]) else bif (triD (dl.getD i.toNat (.i 0))).1 == 19 then .inr (.inl (!(lapOk (triD (dl.getD i.toNat (.i 0))).2.1 (triD (dl.getD i.toNat (.i 0))).2.2), ls ++ [lapD (triD (dl.getD i.toNat (.i 0))).2.1 st (triD (dl.getD i.toNat (.i 0))).2.2])) else bif (triD (dl.getD i.toNat (.i 0))).1 == 30 then .inr (.inr (.inl (!(tagOk (triD (dl.getD i.toNat (.i 0))).2.2), ts ++ [.s (txtV 1 (triD (dl.getD i.toNat (.i 0))).2.2)]))) else .inr (.inr (.inr ()))) := by
    unfold G21x0x58 F21x0x58
    have q' : G57x0 N ((dl.getD i.toNat (.i 0)).cell 0).toI ((dl.getD i.toNat (.i 0)).cell 1).toI ((dl.getD i.toNat (.i 0)).cell 2).items st ss ls ts = _ := q
    rw [q']
    cases (triD (dl.getD i.toNat (.i 0))).1 == 20 <;> cases (triD (dl.getD i.toNat (.i 0))).1 == 19 <;> cases (triD (dl.getD i.toNat (.i 0))).1 == 30 <;> rfl
   rw [decide_eq_true hi, inB_of h0 hi, drop_at (.i 0) h0 hi, hq]
   simp only [_root_.cond_true, bnd_eq, wrapI (x := i + 1) (by omega) (by omega), List.map_cons, actR]
   generalize triD (dl.getD i.toNat (.i 0)) = d
   cases d.1 == 20 with
   | true =>
    simp only [_root_.cond_true, inlB_inl, inlV_inl]
    cases smpOk d.2.1 d.2.2 with
    | true => exact ih (i + 1) false b2 b3 _ ls ts (by omega) (by omega) (by omega) (by simp; omega) (by omega) (by omega)
    | false => exact ⟨_, rfl, .inl ⟨_, rfl⟩⟩
   | false =>
    simp only [_root_.cond_false]
    cases d.1 == 19 with
    | true =>
     simp only [_root_.cond_true, inlB_inr, inrQ_inr, inlB_inl, inlV_inl, _root_.cond_false]
     cases lapOk d.2.1 d.2.2 with
     | true => exact ih (i + 1) b1 false b3 ss _ ts (by omega) (by omega) (by omega) (by omega) (by simp; omega) (by omega)
     | false => exact ⟨_, rfl, .inr (.inl ⟨_, rfl⟩)⟩
    | false =>
     simp only [_root_.cond_false]
     cases d.1 == 30 with
     | true =>
      simp only [_root_.cond_true, inlB_inr, inrQ_inr, inlB_inl, inlV_inl, _root_.cond_false]
      cases tagOk d.2.2 with
      | true => exact ih (i + 1) b1 b2 false ss ls _ (by omega) (by omega) (by omega) (by omega) (by omega) (by simp; omega)
      | false => exact ⟨_, rfl, .inr (.inr ⟨_, rfl⟩)⟩
     | false =>
      simp only [_root_.cond_false, inlB_inr, inrQ_inr, Option.isSome_some, _root_.cond_true]
      exact ih (i + 1) b1 b2 b3 ss ls ts (by omega) (by omega) (by omega) (by omega) (by omega) (by omega)
  ·have : i = dl.length := by omega
   subst this
   rw [decide_eq_false hi, drop_end (by omega)]
   exact ⟨_, rfl, b1, b2, b3, rfl⟩
theorem actR_ok {st : Int} : ∀ {l : List Tri} {ss ls ts : List D} {r : List D × List D × List D}, (∀ t ∈ l, TriOk t) → (∀ x ∈ ls, (x.cell 2).toS.length ≤ maxLen) → (∀ x ∈ ts, x.toS.length ≤ maxLen) → actR st l ss ls ts = some r →
  r.1.length ≤ ss.length + l.length ∧ r.2.1.length ≤ ls.length + l.length ∧ r.2.2.length ≤ ts.length + l.length ∧ (∀ x ∈ r.2.1, (x.cell 2).toS.length ≤ maxLen) ∧ (∀ x ∈ r.2.2, x.toS.length ≤ maxLen)
 | [], ss, ls, ts, r, _, h1, h2, h => by
  simp only [actR, Option.some.injEq] at h
  subst h
  exact ⟨Nat.le_add_right _ _, Nat.le_add_right _ _, Nat.le_add_right _ _, h1, h2⟩
 | d :: l, ss, ls, ts, r, hl, h1, h2, h => by
  have hl' : ∀ t ∈ l, TriOk t := fun t ht => hl t (by simp [ht])
  have hd := hl d (by simp)
  simp only [actR] at h
  cases e1 : d.1 == 20 with
  | true =>
   rw [e1] at h
   cases e2 : smpOk d.2.1 d.2.2 with
   | false => rw [e2] at h; cases h
   | true =>
    rw [e2] at h
    obtain ⟨a1, a2, a3, a4, a5⟩ := actR_ok hl' h1 h2 h
    simp only [List.length_append, List.length_cons, List.length_nil] at a1 ⊢
    exact ⟨by omega, by omega, by omega, a4, a5⟩
  | false =>
   rw [e1] at h
   simp only [_root_.cond_false] at h
   cases e2 : d.1 == 19 with
   | true =>
    rw [e2] at h
    cases e3 : lapOk d.2.1 d.2.2 with
    | false => rw [e3] at h; cases h
    | true =>
     rw [e3] at h
     obtain ⟨a1, a2, a3, a4, a5⟩ := actR_ok hl' (fun x hx => by
      rcases List.mem_append.1 hx with hx | hx
      ·exact h1 x hx
      ·have : x = lapD d.2.1 st d.2.2 := by simpa using hx
       subst this
       exact txtV_len hd.2) h2 h
     simp only [List.length_append, List.length_cons, List.length_nil] at a2 ⊢
     exact ⟨by omega, by omega, by omega, a4, a5⟩
   | false =>
    rw [e2] at h
    simp only [_root_.cond_false] at h
    cases e3 : d.1 == 30 with
    | true =>
     rw [e3] at h
     cases e4 : tagOk d.2.2 with
     | false => rw [e4] at h; cases h
     | true =>
      rw [e4] at h
      obtain ⟨a1, a2, a3, a4, a5⟩ := actR_ok hl' h1 (fun x hx => by
       rcases List.mem_append.1 hx with hx | hx
       ·exact h2 x hx
       ·have : x = .s (txtV 1 d.2.2) := by simpa using hx
        subst this
        exact txtV_len hd.2) h
      simp only [List.length_append, List.length_cons, List.length_nil] at a3 ⊢
      exact ⟨by omega, by omega, by omega, a4, a5⟩
    | false =>
     rw [e3] at h
     obtain ⟨a1, a2, a3, a4, a5⟩ := actR_ok hl' h1 h2 h
     simp only [List.length_cons]
     exact ⟨by omega, by omega, by omega, a4, a5⟩
abbrev ActT : Type := List UInt8 × Int × Int × List D × List D × List D × Int
def errT (e : Int) : ActT := ([], 0, 0, [], [], [], e)
def actF (es : List D) : ActT :=
 bif fileE es != 0 then errT (fileE es) else match headA (dataA Ab.start es) with
 | none => errT 4
 | some q => bif badH q then errT 4 else match actR q.2.2.1 (dataA Ab.start es) [] [] [] with
  | none => errT 2
  | some r => bif chkA q.1 q.2.1 q.2.2.1 r.1 r.2.1 r.2.2 != 0 then errT (chkA q.1 q.2.1 q.2.2.1 r.1 r.2.1 r.2.2) else (q.1, q.2.1, q.2.2.1, r.1, r.2.1, r.2.2, 0)
theorem headA_len {l : List Tri} {q : Hd} (h : ∀ t ∈ l, TriOk t) (hq : headA l = some q) : q.1.length ≤ maxLen := by
 unfold headA at hq
 cases hf : l.find? (fun t => t.1 == 0) with
 | none => rw [hf] at hq; cases hq
 | some t =>
  rw [hf] at hq
  simp only [Option.map_some, Option.some.injEq] at hq
  subst hq
  exact txtV_len (h t (List.mem_of_find?_eq_some hf)).2
section
variable {es : List D}
theorem act_ok (hes : ∀ x ∈ es, EntD x) (h : fileE es = 0) {q : Hd} {r : List D × List D × List D} (hq : headA (dataA Ab.start es) = some q) (hr : actR q.2.2.1 (dataA Ab.start es) [] [] [] = some r) : ActOk q.1 r.1 r.2.1 r.2.2 := by
 have hm : maxLen = 9223372036854775807 := rfl
 obtain ⟨hl, he⟩ := fileE_ok h
 obtain ⟨d1, d2⟩ := dataA_ok OkA.start he hes
 obtain ⟨a1, a2, a3, a4, a5⟩ := actR_ok d2 (by simp) (by simp) hr
 simp only [List.length_nil] at a1 a2 a3
 exact ⟨headA_len d2 hq, by omega, by omega, by omega, a4, a5⟩
noncomputable def tl41 (N : Nat) (d : List D) (y2 : Option (Bool × List UInt8 × Int × Int)) : Option (List UInt8 × Int × Int × Bool × List D × Bool × List D × Bool × List D × Int) :=
    bif y2.isSome then
     bnd (bif (!(y2.getD default).1) then true else ((y2.getD default).2.1 == ([] : List UInt8))) fun y3 =>
     bnd (bif y3 then true else (decide ((y2.getD default).2.2.2 < 0))) fun y4 =>
     bif y4 then
      some (([] : List UInt8), 0, 0, true, [], true, [], true, [], 4)
     else
      bnd (G21x0x51 N d (d.length : Int) (y2.getD default).2.2.2 0 true [] true [] true []) fun y5 =>
      bif (inlB y5) then
       some ((inlV y5).1, 0, 0, true, [], true, [], true, [], 2)
      else
       bif (inlB (inrQ y5)) then
        some ((inlV (inrQ y5)).1, 0, 0, true, [], true, [], true, [], 2)
       else
        bif (inlB (inrQ (inrQ y5))) then
         some ((inlV (inrQ (inrQ y5))).1, 0, 0, true, [], true, [], true, [], 2)
        else
         bif (inrQ (inrQ (inrQ y5))).isSome then
          bnd (G58x0 N (y2.getD default).2.1 (y2.getD default).2.2.1 (y2.getD default).2.2.2 ((inrQ (inrQ (inrQ y5))).getD default).2.1 ((inrQ (inrQ (inrQ y5))).getD default).2.2.2.1 ((inrQ (inrQ (inrQ y5))).getD default).2.2.2.2.2) fun y6 =>
          bif y6.isSome then
           bif ((y6.getD default) != 0) then
            some (([] : List UInt8), 0, 0, true, [], true, [], true, [], (y6.getD default))
           else
            some ((y2.getD default).2.1, (y2.getD default).2.2.1, (y2.getD default).2.2.2, ((inrQ (inrQ (inrQ y5))).getD default).1, ((inrQ (inrQ (inrQ y5))).getD default).2.1, ((inrQ (inrQ (inrQ y5))).getD default).2.2.1, ((inrQ (inrQ (inrQ y5))).getD default).2.2.2.1, ((inrQ (inrQ (inrQ y5))).getD default).2.2.2.2.1, ((inrQ (inrQ (inrQ y5))).getD default).2.2.2.2.2, 0)
          else
           none
         else
          none
    else
     none
theorem tl41_eq {b : Bool} {dl : List D} (h1 : G53x0 N es = some 0) (h2 : G54x0 N es = some (b, dl)) : G21x0 N es = tl41 N dl (G21x0x24 N false dl dl.length [] 0 0 0) := by
 unfold G21x0 F21x0
 rw [h1, h2]
 rfl
theorem act_prog (hN : maxLen < N) (hes : ∀ x ∈ es, EntD x) : ∃ n1 n2 n3, G21x0 N es = some ((actF es).1, (actF es).2.1, (actF es).2.2.1, n1, (actF es).2.2.2.1, n2, (actF es).2.2.2.2.1, n3, (actF es).2.2.2.2.2.1, (actF es).2.2.2.2.2.2) := by
 have hm : maxLen = 9223372036854775807 := rfl
 obtain ⟨c1, _⟩ := check_fileA (N := N) hN hes
 unfold actF
 cases hc : fileE es != 0 with
 | true =>
  unfold G21x0 F21x0
  rw [c1]
  dsimp only [bnd_eq, Option.isSome_some, _root_.cond_true, getD_some]
  rw [hc]
  exact ⟨_, _, _, rfl⟩
 | false =>
 have hz : fileE es = 0 := by simpa using hc
 obtain ⟨hl, he⟩ := fileE_ok hz
 obtain ⟨b, dl, q1, q2⟩ := data_prog (N := N) hN hes hz
 obtain ⟨d1, d2⟩ := dataA_ok OkA.start he hes
 have q3 := datR_map q2
 have hdl : dl.length ≤ 50000 := by have := q2.length; omega
 have hok : ∀ d ∈ dl, TriOk (triD d) := fun d hd => d2 _ (by rw [← q3]; exact List.mem_map_of_mem hd)
 have k1 := head_prog (N := N) hN (dl := dl) (by omega) hok
 rw [q3] at k1
 rw [tl41_eq (by rw [c1, hz]) q1, k1]
 unfold tl41
 dsimp only [bnd_eq, _root_.cond_false, Option.isSome_some, getD_some, _root_.cond_true]
 cases hh : headA (dataA Ab.start es) with
 | none => exact ⟨_, _, _, rfl⟩
 | some q =>
  have hb : (bif (bif (!(headP (some q)).1) then true else ((headP (some q)).2.1 == ([] : List UInt8))) then true else (decide ((headP (some q)).2.2.2 < 0))) = badH q := rfl
  rw [hb]
  dsimp only
  cases badH q with
  | true => exact ⟨_, _, _, rfl⟩
  | false =>
   obtain ⟨z, w1, w2⟩ := body_loop (N := N) hN hdl hok (headP (some q)).2.2.2 N 0 true true true [] [] [] (by omega) (by omega) (by omega) (by simp) (by simp) (by simp)
   have w1' : G21x0x51 N dl dl.length (headP (some q)).2.2.2 0 true [] true [] true [] = some z := w1
   dsimp only [_root_.cond_false]
   rw [w1']
   rw [show (0 : Int).toNat = 0 from rfl, List.drop_zero, q3] at w2
   have w2 : ActSum z (actR q.2.2.1 (dataA Ab.start es) [] [] []) := w2
   cases hr : actR q.2.2.1 (dataA Ab.start es) [] [] [] with
   | none =>
    rw [hr] at w2
    rcases w2 with ⟨z', rfl⟩ | ⟨z', rfl⟩ | ⟨z', rfl⟩ <;> exact ⟨_, _, _, rfl⟩
   | some r =>
    rw [hr] at w2
    obtain ⟨n1, n2, n3, rfl⟩ := w2
    have ck := G58x0_eq (N := N) (name := q.1) (sport := q.2.1) (start := q.2.2.1) hN (act_ok hes hz hh hr)
    have ck' : G58x0 N (headP (some q)).2.1 (headP (some q)).2.2.1 (headP (some q)).2.2.2 r.1 r.2.1 r.2.2 = _ := ck
    simp only [inlB_inr, inrQ_inr, _root_.cond_false, Option.isSome_some, _root_.cond_true, getD_some, ck']
    cases chkA q.1 q.2.1 q.2.2.1 r.1 r.2.1 r.2.2 != 0 <;> exact ⟨_, _, _, rfl⟩
theorem head_ref (hN : maxLen < N) (hes : ∀ x ∈ es, EntD x) (hl : es.length ≤ 50000) {ds ts : List D} (hds : ds.length = es.length) (hts : ts.length = es.length) : ∀ (m : Nat) (i : Int) (a : Ab) (found : Bool) (name : List UInt8) (sport start : Int), OkA a → OkT a → 0 ≤ i → i ≤ es.length → (es.length - i).toNat < m → errsA a (es.drop i.toNat) = 0 → PlL a (es.drop i.toNat) (ds.drop i.toNat) → ts.drop i.toNat = timesD a (es.drop i.toNat) →
  L23x0x24 N ds ds.length es ts m found i name sport start (fun p => some (Sum.inl p)) (fun p => some (Sum.inr p)) = some (bif found then .inr (true, name, sport, start) else match headA (dataA a (es.drop i.toNat)) with | none => .inr (false, name, sport, start) | some q => bif badH q then .inl ([], q.1, q.2.1, q.2.2.1) else .inr (true, q.1, q.2.1, q.2.2.1)) := by
 have hm : maxLen = 9223372036854775807 := rfl
 intro m
 induction m with
 | zero => intro i a found name sport start _ _ _ _ h; omega
 | succ m ih =>
  intro i a found name sport start ha ht0 h0 h1 hmm he hp ht
  unfold L23x0x24 S23x0x24
  rw [hds] at ih ⊢
  by_cases hi : i < es.length
  ·have hx : EntD _ := hes _ (getD_mem (fs := es) h0 hi)
   rw [drop_at (.i 0) h0 hi] at he hp ht ⊢
   obtain ⟨e1, e2⟩ := errs_cons he
   obtain ⟨d, dr, dd, dok, dp⟩ := hp.at_
   obtain ⟨dg, ddr, _⟩ := getD_drop h0 dd
   rw [timesD_cons] at ht
   obtain ⟨tg, tdr, _⟩ := getD_drop h0 ht
   rw [← ddr] at dp
   have hE := entE_ok e1
   rw [decide_eq_true hi, inB_of h0 hi, dg]
   simp only [_root_.cond_true, bnd_eq, wrapI (x := i + 1) (by omega) (by omega), dataA]
   have ihn := fun f n s t => ih (i + 1) (stepA a (es.getD i.toNat (.i 0))) f n s t (ha.step e1) (ht0.step e1) (by omega) (by omega) (by omega) e2 dp tdr
   cases found with
   | true =>
    simp only [_root_.cond_true]
    cases inB 0 d.items.length <;> exact ihn true name sport start
   | false =>
    simp only [_root_.cond_false]
    by_cases hk : kX (es.getD i.toNat (.i 0)) = 1
    ·rw [dok.1 hk, hk]
     exact ihn false name sport start
    ·obtain ⟨nl, hd⟩ := dok.2 hk
     obtain ⟨f1, f2, f3, f4, f5, f6⟩ := data_ok ha ht0 e1 hx hk
     rw [hd, (not1 hk).1]
     obtain ⟨nl2, hv⟩ := G65x0_eq (N := N) (big := a.bg (sX (es.getD i.toNat (.i 0))).toNat) hN f1 f2 f4 f5 (kX (es.getD i.toNat (.i 0))) f3
     obtain ⟨o1, o2⟩ := tri_ok ha e1 hx hk (a.gl (sX (es.getD i.toNat (.i 0))).toNat) (timeE a (es.getD i.toNat (.i 0)))
     have x0 : ((D.a [.b (a.bg (sX (es.getD i.toNat (.i 0))).toNat), .i (a.gl (sX (es.getD i.toNat (.i 0))).toNat), .l nl (a.fs (sX (es.getD i.toNat (.i 0))).toNat)]).cell 0).toB = a.bg (sX (es.getD i.toNat (.i 0))).toNat := rfl
     have x1 : ((D.a [.b (a.bg (sX (es.getD i.toNat (.i 0))).toNat), .i (a.gl (sX (es.getD i.toNat (.i 0))).toNat), .l nl (a.fs (sX (es.getD i.toNat (.i 0))).toNat)]).cell 1).toI = a.gl (sX (es.getD i.toNat (.i 0))).toNat := rfl
     have x2 : ((D.a [.b (a.bg (sX (es.getD i.toNat (.i 0))).toNat), .i (a.gl (sX (es.getD i.toNat (.i 0))).toNat), .l nl (a.fs (sX (es.getD i.toNat (.i 0))).toNat)]).cell 2).items = a.fs (sX (es.getD i.toNat (.i 0))).toNat := rfl
     have x3 : ([D.a [.b (a.bg (sX (es.getD i.toNat (.i 0))).toNat), .i (a.gl (sX (es.getD i.toNat (.i 0))).toNat), .l nl (a.fs (sX (es.getD i.toNat (.i 0))).toNat)]] : List D).getD 0 (.i 0) = D.a [.b (a.bg (sX (es.getD i.toNat (.i 0))).toNat), .i (a.gl (sX (es.getD i.toNat (.i 0))).toNat), .l nl (a.fs (sX (es.getD i.toNat (.i 0))).toNat)] := rfl
     have x4 : inB 0 ([D.a [.b (a.bg (sX (es.getD i.toNat (.i 0))).toNat), .i (a.gl (sX (es.getD i.toNat (.i 0))).toNat), .l nl (a.fs (sX (es.getD i.toNat (.i 0))).toNat)]] : List D).length = true := rfl
     have x5 : ((([D.a [.b (a.bg (sX (es.getD i.toNat (.i 0))).toNat), .i (a.gl (sX (es.getD i.toNat (.i 0))).toNat), .l nl (a.fs (sX (es.getD i.toNat (.i 0))).toNat)]] : List D).length : Int) == 0) = false := rfl
     have hv' : G65x0 N (a.bg (sX (es.getD i.toNat (.i 0))).toNat) (a.fs (sX (es.getD i.toNat (.i 0))).toNat) ((es.getD i.toNat (.i 0)).cell 0).toI ((es.getD i.toNat (.i 0)).cell 4).items = some (nl2, valsX a (es.getD i.toNat (.i 0))) := hv
     have x6 : (D.i (timeE a (es.getD i.toNat (.i 0)))).toI = timeE a (es.getD i.toNat (.i 0)) := rfl
     have n1 := G66x0_eq (N := N) hN (vs := valsX a (es.getD i.toNat (.i 0))) (Nat.le_trans o1 (by omega)) 2 0
     have n2 := G67x0_eq (N := N) hN (vs := valsX a (es.getD i.toNat (.i 0))) (Nat.le_trans o1 (by omega)) 1
     dsimp only [_root_.cond_false]
     rw [headA_cons, x3, x4, x5, x0, x1, x2, inB_of (n := ts.length) h0 (by omega), tg, x6]
     simp only [_root_.cond_true, _root_.cond_false]
     cases hg : (a.gl (sX (es.getD i.toNat (.i 0))).toNat == 0) with
     | false =>
      have hg2 : (a.gl (sX (es.getD i.toNat (.i 0))).toNat != 0) = true := by simp only [bne, hg]; rfl
      rw [hg2]
      simp only [_root_.cond_true, _root_.cond_false]
      exact ihn false name sport start
     | true =>
      have hg2 : (a.gl (sX (es.getD i.toNat (.i 0))).toNat != 0) = false := by simp only [bne, hg]; rfl
      rw [hg2]
      simp only [_root_.cond_true, _root_.cond_false, hv', Option.isSome_some, getD_some, n1, n2]
      have hb : (bif (bif (!(numV 2 0 (valsX a (es.getD i.toNat (.i 0)))).2) then true else (txtV 1 (valsX a (es.getD i.toNat (.i 0))) == ([] : List UInt8))) then true else (decide (timeE a (es.getD i.toNat (.i 0)) < 0))) = badH (hdT (a.gl (sX (es.getD i.toNat (.i 0))).toNat, timeE a (es.getD i.toNat (.i 0)), valsX a (es.getD i.toNat (.i 0)))) := rfl
      rw [hb]
      cases badH (hdT (a.gl (sX (es.getD i.toNat (.i 0))).toNat, timeE a (es.getD i.toNat (.i 0)), valsX a (es.getD i.toNat (.i 0)))) with
      | true => rfl
      | false => exact ihn true _ _ _
  ·have : i = es.length := by omega
   subst this
   rw [decide_eq_false hi, drop_end (by omega)]
   cases found <;> rfl
end
end Go.Proofs.YtngnemeafkmaoaaGreat

namespace Go.Proofs.YtngnemeafkmaoaaGreat
open Go Go.AM
set_option maxRecDepth 100000
set_option maxHeartbeats 4000000
set_option linter.unusedVariables false
variable {N : Nat}
abbrev Add4 : Type := Sum (List UInt8) (Sum (List D) (Sum (List D) (Sum (List D) Unit)))
theorem addedR_eq (hN : maxLen < N) {g t st : Int} {vs ss ls ts : List D} (hv : TriOk (g, t, vs)) (h1 : ss.length ≤ 50000) (h2 : ls.length ≤ 50000) (h3 : ts.length ≤ 50000) :
  G23x0x99083 N vs t g (g == 20) st ss ls ts = some ((bif g == 20 then (bif smpOk t vs then .inr (.inl (ss ++ [smpD t st vs])) else .inl []) else bif g == 19 then (bif lapOk t vs then .inr (.inr (.inl (ls ++ [lapD t st vs]))) else .inl []) else bif g == 30 then (bif tagOk vs then .inr (.inr (.inr (.inl (ts ++ [.s (txtV 1 vs)])))) else .inl []) else .inr (.inr (.inr (.inr ()))) : Add4)) := by
 have hm : maxLen = 9223372036854775807 := rfl
 have o1 : vs.length ≤ maxLen := Nat.le_trans hv.1 (by omega)
 have r1 : decide ((ss.length + 1) * 56 ≤ room) = true := decide_eq_true (by unfold room; omega)
 have r2 : decide (ss.length + 1 ≤ strMax) = true := decide_eq_true (by unfold strMax; omega)
 have r3 : decide ((ls.length + 1) * 32 ≤ room) = true := decide_eq_true (by unfold room; omega)
 have r4 : decide (ls.length + 1 ≤ strMax) = true := decide_eq_true (by unfold strMax; omega)
 have r5 : decide ((ts.length + 1) * 16 ≤ room) = true := decide_eq_true (by unfold room; omega)
 have r6 : decide (ts.length + 1 ≤ strMax) = true := decide_eq_true (by unfold strMax; omega)
 have n1 := fun f t => G66x0_eq (N := N) hN o1 f t
 have n2 := fun f => G67x0_eq (N := N) hN o1 f
 have n3 := fun f => G68x0_eq (N := N) hN o1 f
 have hlt : decide (t < 0) = !decide (t ≥ 0) := by
  by_cases h : t < 0
  ·rw [decide_eq_true h, decide_eq_false (by omega)]; rfl
  ·rw [decide_eq_false h, decide_eq_true (by omega)]; rfl
 unfold G23x0x99083 F23x0x99083
 cases g == 20 with
 | true =>
  simp only [_root_.cond_true, bnd_eq, n1, n3, Option.isSome_some, getD_some, r1, r2, Bool.and_self, smpOk, hlt]
  cases decide (t ≥ 0) <;> cases (numV 0 1 vs).2 <;> cases (numV 1 1 vs).2 <;> cases (numV 2 1 vs).2 <;> rfl
 | false =>
  simp only [_root_.cond_false]
  unfold G23x0x114104 F23x0x114104
  cases g == 19 with
  | true =>
   simp only [_root_.cond_true, bnd_eq, n1, n2, Option.isSome_some, getD_some, r3, r4, Bool.and_self, lapOk, hlt]
   cases decide (t ≥ 0) <;> cases (numV 1 0 vs).2 <;> rfl
  | false =>
   simp only [_root_.cond_false]
   unfold G23x0x119 F23x0x119
   cases g == 30 with
   | true =>
    simp only [_root_.cond_true, bnd_eq, n2, Option.isSome_some, getD_some, r5, r6, Bool.and_self, tagOk]
    cases txtV 1 vs == ([] : List UInt8) <;> rfl
   | false => rfl
def ActSumR (q : Sum (List UInt8 × ActQ) ActQ) : Option (List D × List D × List D) → Prop
 | none => ∃ z, q = .inl ([], z)
 | some r => ∃ n1 n2 n3, q = .inr (n1, r.1, n2, r.2.1, n3, r.2.2)
section
variable {es : List D}
theorem body_ref (hN : maxLen < N) (hes : ∀ x ∈ es, EntD x) (hl : es.length ≤ 50000) {ds ts : List D} (hds : ds.length = es.length) (hts : ts.length = es.length) (st : Int) : ∀ (m : Nat) (i : Int) (a : Ab) (b1 b2 b3 : Bool) (ss ls tg : List D), OkA a → OkT a → 0 ≤ i → i ≤ es.length → (es.length - i).toNat < m → errsA a (es.drop i.toNat) = 0 → PlL a (es.drop i.toNat) (ds.drop i.toNat) → ts.drop i.toNat = timesD a (es.drop i.toNat) → (ss.length : Int) ≤ i → (ls.length : Int) ≤ i → (tg.length : Int) ≤ i →
  ∃ q, L23x0x63 N ds ds.length es ts st m i b1 ss b2 ls b3 tg (fun p => some (Sum.inl p)) (fun p => some (Sum.inr p)) = some q ∧ ActSumR q (actR st (dataA a (es.drop i.toNat)) ss ls tg) := by
 have hm : maxLen = 9223372036854775807 := rfl
 intro m
 induction m with
 | zero => intro i a b1 b2 b3 ss ls tg _ _ _ _ h; omega
 | succ m ih =>
  intro i a b1 b2 b3 ss ls tg ha ht0 h0 h1 hmm he hp ht hs1 hs2 hs3
  unfold L23x0x63 S23x0x63
  rw [hds] at ih ⊢
  by_cases hi : i < es.length
  ·have hx : EntD _ := hes _ (getD_mem (fs := es) h0 hi)
   rw [drop_at (.i 0) h0 hi] at he hp ht ⊢
   obtain ⟨e1, e2⟩ := errs_cons he
   obtain ⟨d, dr, dd, dok, dp⟩ := hp.at_
   obtain ⟨dg, ddr, _⟩ := getD_drop h0 dd
   rw [timesD_cons] at ht
   obtain ⟨tgg, tdr, _⟩ := getD_drop h0 ht
   rw [← ddr] at dp
   have hE := entE_ok e1
   rw [decide_eq_true hi, inB_of h0 hi, dg]
   simp only [_root_.cond_true, bnd_eq, wrapI (x := i + 1) (by omega) (by omega), dataA]
   have ihn := fun b1 b2 b3 ss ls tg h1 h2 h3 => ih (i + 1) (stepA a (es.getD i.toNat (.i 0))) b1 b2 b3 ss ls tg (ha.step e1) (ht0.step e1) (by omega) (by omega) (by omega) e2 dp tdr h1 h2 h3
   by_cases hk : kX (es.getD i.toNat (.i 0)) = 1
   ·rw [dok.1 hk, hk]
    exact ihn b1 b2 b3 ss ls tg (by omega) (by omega) (by omega)
   ·obtain ⟨nl, hd⟩ := dok.2 hk
    obtain ⟨f1, f2, f3, f4, f5, f6⟩ := data_ok ha ht0 e1 hx hk
    rw [hd, (not1 hk).1]
    obtain ⟨nl2, hv⟩ := G65x0_eq (N := N) (big := a.bg (sX (es.getD i.toNat (.i 0))).toNat) hN f1 f2 f4 f5 (kX (es.getD i.toNat (.i 0))) f3
    have o := tri_ok ha e1 hx hk (a.gl (sX (es.getD i.toNat (.i 0))).toNat) (timeE a (es.getD i.toNat (.i 0)))
    have x0 : ((D.a [.b (a.bg (sX (es.getD i.toNat (.i 0))).toNat), .i (a.gl (sX (es.getD i.toNat (.i 0))).toNat), .l nl (a.fs (sX (es.getD i.toNat (.i 0))).toNat)]).cell 0).toB = a.bg (sX (es.getD i.toNat (.i 0))).toNat := rfl
    have x1 : ((D.a [.b (a.bg (sX (es.getD i.toNat (.i 0))).toNat), .i (a.gl (sX (es.getD i.toNat (.i 0))).toNat), .l nl (a.fs (sX (es.getD i.toNat (.i 0))).toNat)]).cell 1).toI = a.gl (sX (es.getD i.toNat (.i 0))).toNat := rfl
    have x2 : ((D.a [.b (a.bg (sX (es.getD i.toNat (.i 0))).toNat), .i (a.gl (sX (es.getD i.toNat (.i 0))).toNat), .l nl (a.fs (sX (es.getD i.toNat (.i 0))).toNat)]).cell 2).items = a.fs (sX (es.getD i.toNat (.i 0))).toNat := rfl
    have x3 : ([D.a [.b (a.bg (sX (es.getD i.toNat (.i 0))).toNat), .i (a.gl (sX (es.getD i.toNat (.i 0))).toNat), .l nl (a.fs (sX (es.getD i.toNat (.i 0))).toNat)]] : List D).getD 0 (.i 0) = D.a [.b (a.bg (sX (es.getD i.toNat (.i 0))).toNat), .i (a.gl (sX (es.getD i.toNat (.i 0))).toNat), .l nl (a.fs (sX (es.getD i.toNat (.i 0))).toNat)] := rfl
    have x4 : inB 0 ([D.a [.b (a.bg (sX (es.getD i.toNat (.i 0))).toNat), .i (a.gl (sX (es.getD i.toNat (.i 0))).toNat), .l nl (a.fs (sX (es.getD i.toNat (.i 0))).toNat)]] : List D).length = true := rfl
    have x5 : ((([D.a [.b (a.bg (sX (es.getD i.toNat (.i 0))).toNat), .i (a.gl (sX (es.getD i.toNat (.i 0))).toNat), .l nl (a.fs (sX (es.getD i.toNat (.i 0))).toNat)]] : List D).length : Int) == 0) = false := rfl
    have hv' : G65x0 N (a.bg (sX (es.getD i.toNat (.i 0))).toNat) (a.fs (sX (es.getD i.toNat (.i 0))).toNat) ((es.getD i.toNat (.i 0)).cell 0).toI ((es.getD i.toNat (.i 0)).cell 4).items = some (nl2, valsX a (es.getD i.toNat (.i 0))) := hv
    have x6 : (D.i (timeE a (es.getD i.toNat (.i 0)))).toI = timeE a (es.getD i.toNat (.i 0)) := rfl
    have q := addedR_eq (N := N) (st := st) (ss := ss) (ls := ls) (ts := tg) hN o (by omega) (by omega) (by omega)
    dsimp only [_root_.cond_false]
    rw [x3, x4, x5, x0, x1, x2, inB_of (n := ts.length) h0 (by omega), tgg, x6]
    dsimp only [_root_.cond_true, _root_.cond_false]
    rw [hv']
    dsimp only [Option.isSome_some, getD_some, _root_.cond_true]
    rw [q]
    simp only [actR]
    generalize a.gl (sX (es.getD i.toNat (.i 0))).toNat = g
    generalize timeE a (es.getD i.toNat (.i 0)) = t
    generalize valsX a (es.getD i.toNat (.i 0)) = vs
    cases g == 20 with
    | true =>
     simp only [_root_.cond_true]
     cases smpOk t vs with
     | true => exact ihn false b2 b3 (ss ++ [smpD t st vs]) ls tg (by simp; omega) (by omega) (by omega)
     | false => exact ⟨_, rfl, _, rfl⟩
    | false =>
     simp only [_root_.cond_false]
     cases g == 19 with
     | true =>
      simp only [_root_.cond_true]
      cases lapOk t vs with
      | true => exact ihn b1 false b3 ss (ls ++ [lapD t st vs]) tg (by omega) (by simp; omega) (by omega)
      | false => exact ⟨_, rfl, _, rfl⟩
     | false =>
      simp only [_root_.cond_false]
      cases g == 30 with
      | true =>
       simp only [_root_.cond_true]
       cases tagOk vs with
       | true => exact ihn b1 b2 false ss ls (tg ++ [.s (txtV 1 vs)]) (by omega) (by omega) (by simp; omega)
       | false => exact ⟨_, rfl, _, rfl⟩
      | false => exact ihn b1 b2 b3 ss ls tg (by omega) (by omega) (by omega)
  ·have : i = es.length := by omega
   subst this
   rw [decide_eq_false hi, drop_end (by omega)]
   exact ⟨_, rfl, b1, b2, b3, rfl⟩
theorem act_ref (hN : maxLen < N) (hes : ∀ x ∈ es, EntD x) : ∃ n1 n2 n3, G23x0 N es = some ((actF es).1, (actF es).2.1, (actF es).2.2.1, n1, (actF es).2.2.2.1, n2, (actF es).2.2.2.2.1, n3, (actF es).2.2.2.2.2.1, (actF es).2.2.2.2.2.2) := by
 have hm : maxLen = 9223372036854775807 := rfl
 obtain ⟨_, c2⟩ := check_fileA (N := N) hN hes
 unfold actF
 cases hc : fileE es != 0 with
 | true =>
  unfold G23x0 F23x0
  rw [c2]
  dsimp only [bnd_eq, Option.isSome_some, _root_.cond_true, getD_some]
  rw [hc]
  exact ⟨_, _, _, rfl⟩
 | false =>
 have hz : fileE es = 0 := by simpa using hc
 obtain ⟨hl, he⟩ := fileE_ok hz
 obtain ⟨pb, pb1, ds, q2, hp⟩ := places_ref (N := N) hN hes hz
 have hpl := hp.len
 have htl : (timesD Ab.start es).length = es.length := timesD_len
 obtain ⟨d1, d2⟩ := dataA_ok OkA.start he hes
 have k1 := head_ref (N := N) hN hes hl hpl htl N 0 Ab.start false [] 0 0 OkA.start OkT.start (by omega) (by omega) (by omega) (by simpa using he) (by simpa using hp) (by simp)
 rw [show (0 : Int).toNat = 0 from rfl, List.drop_zero] at k1
 dsimp only [_root_.cond_false] at k1
 have k1' : G23x0x24 N ds ds.length es (timesD Ab.start es) false 0 [] 0 0 = _ := k1
 unfold G23x0 F23x0
 rw [c2, q2, hz]
 dsimp only [bnd_eq, Option.isSome_some, _root_.cond_true, getD_some]
 rw [k1']
 rw [show ((0 : Int) != 0) = false from rfl]
 dsimp only [_root_.cond_false]
 cases hh : headA (dataA Ab.start es) with
 | none => exact ⟨_, _, _, rfl⟩
 | some q =>
  dsimp only
  cases badH q with
  | true => exact ⟨_, _, _, rfl⟩
  | false =>
   obtain ⟨z, w1, w2⟩ := body_ref (N := N) hN hes hl hpl htl q.2.2.1 N 0 Ab.start true true true [] [] [] OkA.start OkT.start (by omega) (by omega) (by omega) (by simpa using he) (by simpa using hp) (by simp) (by simp) (by simp) (by simp)
   have w1' : G23x0x63 N ds ds.length es (timesD Ab.start es) q.2.2.1 0 true [] true [] true [] = some z := w1
   rw [show (0 : Int).toNat = 0 from rfl, List.drop_zero] at w2
   dsimp only [_root_.cond_false, inlB_inr, inrQ_inr, Option.isSome_some, _root_.cond_true, getD_some, Bool.not_true]
   rw [w1']
   cases hr : actR q.2.2.1 (dataA Ab.start es) [] [] [] with
   | none =>
    rw [hr] at w2
    obtain ⟨z', rfl⟩ := w2
    exact ⟨_, _, _, rfl⟩
   | some r =>
    rw [hr] at w2
    obtain ⟨n1, n2, n3, rfl⟩ := w2
    have ck := G69x0_eq (N := N) (name := q.1) (sport := q.2.1) (start := q.2.2.1) hN (act_ok hes hz hh hr)
    dsimp only [inlB_inr, inrQ_inr, _root_.cond_false, Option.isSome_some, _root_.cond_true, getD_some]
    rw [ck]
    dsimp only [_root_.cond_false, Option.isSome_some, _root_.cond_true, getD_some]
    cases chkA q.1 q.2.1 q.2.2.1 r.1 r.2.1 r.2.2 != 0 <;> exact ⟨_, _, _, rfl⟩
theorem actF_len (hes : ∀ x ∈ es, EntD x) : (actF es).2.2.2.1.length ≤ maxLen ∧ (actF es).2.2.2.2.1.length ≤ maxLen ∧ (actF es).2.2.2.2.2.1.length ≤ maxLen := by
 have z : ∀ e, (errT e).2.2.2.1.length ≤ maxLen ∧ (errT e).2.2.2.2.1.length ≤ maxLen ∧ (errT e).2.2.2.2.2.1.length ≤ maxLen := fun e => ⟨Nat.zero_le _, Nat.zero_le _, Nat.zero_le _⟩
 unfold actF
 cases hc : fileE es != 0 with
 | true => exact z _
 | false =>
  have hz : fileE es = 0 := by simpa using hc
  dsimp only [_root_.cond_false]
  cases hh : headA (dataA Ab.start es) with
  | none => exact z _
  | some q =>
   dsimp only
   cases badH q with
   | true => exact z _
   | false =>
    dsimp only [_root_.cond_false]
    cases hr : actR q.2.2.1 (dataA Ab.start es) [] [] [] with
    | none => exact z _
    | some r =>
     have ok := act_ok hes hz hh hr
     dsimp only
     cases chkA q.1 q.2.1 q.2.2.1 r.1 r.2.1 r.2.2 != 0 with
     | true => exact z _
     | false => exact ⟨ok.s, ok.l, ok.t⟩
end
end Go.Proofs.YtngnemeafkmaoaaGreat

namespace Go.Proofs.YtngnemeafkmaoaaGreat
open Go Go.AM
set_option maxRecDepth 100000
set_option maxHeartbeats 4000000
variable {N : Nat}
theorem or32 {x y : Int} (hx : 0 ≤ x ∧ x < 4294967296) (hy : 0 ≤ y ∧ y < 4294967296) : 0 ≤ (bitsV .or .i64 x y).getD 0 ∧ (bitsV .or .i64 x y).getD 0 < 4294967296 := by
 obtain ⟨a, rfl⟩ : ∃ a : Nat, x = a := ⟨x.toNat, by omega⟩
 obtain ⟨b, rfl⟩ : ∃ b : Nat, y = b := ⟨y.toNat, by omega⟩
 have o : (BitVec.ofInt 64 (a : Int) ||| BitVec.ofInt 64 (b : Int)).toNat = a ||| b := by
  rw [BitVec.toNat_or, BitVec.ofInt_natCast, BitVec.ofInt_natCast, BitVec.toNat_ofNat, BitVec.toNat_ofNat, Nat.mod_eq_of_lt (by omega), Nat.mod_eq_of_lt (by omega)]
 have hlt : a ||| b < 2 ^ 32 := Nat.or_lt_two_pow (by omega) (by omega)
 show 0 ≤ IntKind.wrap .i64 (((BitVec.ofInt 64 (a : Int) ||| BitVec.ofInt 64 (b : Int)).toNat : Nat) : Int) ∧ IntKind.wrap .i64 (((BitVec.ofInt 64 (a : Int) ||| BitVec.ofInt 64 (b : Int)).toNat : Nat) : Int) < 4294967296
 rw [o, wrapI (by omega) (by omega)]
 omega
def n4 (b : List D) : Int := (bitsV .or .i64 ((bitsV .or .i64 ((bitsV .or .i64 (IntKind.wrap .i64 ((IntKind.wrap .i64 (b.getD 0 (.i 0)).toI) * 2 ^ 24)) (IntKind.wrap .i64 ((IntKind.wrap .i64 (b.getD 1 (.i 0)).toI) * 2 ^ 16))).getD 0) (IntKind.wrap .i64 ((IntKind.wrap .i64 (b.getD 2 (.i 0)).toI) * 2 ^ 8))).getD 0) (IntKind.wrap .i64 (b.getD 3 (.i 0)).toI)).getD 0
theorem byte_at {b : List D} (hb : BytesOk b) (i : Nat) : 0 ≤ (b.getD i (.i 0)).toI ∧ (b.getD i (.i 0)).toI ≤ 255 := by
 by_cases h : i < b.length
 ·rw [List.getD_eq_getElem?_getD, List.getElem?_eq_getElem h]; exact hb _ (List.getElem_mem h)
 ·rw [List.getD_eq_getElem?_getD, List.getElem?_eq_none (by omega)]; decide
theorem n4_in {b : List D} (hb : BytesOk b) : 0 ≤ n4 b ∧ n4 b < 4294967296 := by
 have h0 := byte_at hb 0
 have h1 := byte_at hb 1
 have h2 := byte_at hb 2
 have h3 := byte_at hb 3
 unfold n4
 rw [wrapI (x := (b.getD 0 (.i 0)).toI) (by omega) (by omega), wrapI (x := (b.getD 1 (.i 0)).toI) (by omega) (by omega), wrapI (x := (b.getD 2 (.i 0)).toI) (by omega) (by omega), wrapI (x := (b.getD 3 (.i 0)).toI) (by omega) (by omega)]
 refine or32 (or32 (or32 ?_ ?_) ?_) ?_
 ·rw [wrapI (by omega) (by omega)]; omega
 ·rw [wrapI (by omega) (by omega)]; omega
 ·rw [wrapI (by omega) (by omega)]; omega
 ·omega
abbrev Ac : Type := List UInt8 × Int × Int × List D × List D × List D
def datA (x : D) : Ac := ((x.cell 0).toS, (x.cell 1).toI, (x.cell 2).toI, (x.cell 3).items, (x.cell 4).items, (x.cell 5).items)
def AcOk (a : Ac) : Prop := a.2.2.2.1.length ≤ maxLen ∧ a.2.2.2.2.1.length ≤ maxLen ∧ a.2.2.2.2.2.length ≤ maxLen
def chunk (b : List D) : List D := (b.drop 4).take (n4 b).toNat
def rest (b : List D) : List D := b.drop (4 + n4 b).toNat
noncomputable def readR (N : Nat) (b : List D) : Ty10 := (G22x0 N b).getD default
noncomputable def impF (N : Nat) : Nat → List D → List Ac → Sum Int (List Ac)
 | 0, _, acc => .inr acc
 | m + 1, b, acc =>
  bif decide ((b.length : Int) > 0) then
   bif decide ((b.length : Int) < 4) then .inl 6
   else bif decide (n4 b > (b.length : Int) - 4) then .inl 6
   else bif (readR N (chunk b)).2.2.2 != 0 then .inl (readR N (chunk b)).2.2.2
   else bif (actF (readR N (chunk b)).2.1).2.2.2.2.2.2 != 0 then .inl (actF (readR N (chunk b)).2.1).2.2.2.2.2.2
   else impF N m (rest b) (acc ++ [((actF (readR N (chunk b)).2.1).1, (actF (readR N (chunk b)).2.1).2.1, (actF (readR N (chunk b)).2.1).2.2.1, (actF (readR N (chunk b)).2.1).2.2.2.1, (actF (readR N (chunk b)).2.1).2.2.2.2.1, (actF (readR N (chunk b)).2.1).2.2.2.2.2.1)])
  else .inr acc
theorem chunk_ok {b : List D} (hb : BytesOk b) : BytesOk (chunk b) := fun x hx => hb x (List.mem_of_mem_drop (List.mem_of_mem_take hx))
theorem rest_ok {b : List D} (hb : BytesOk b) : BytesOk (rest b) := fun x hx => hb x (List.mem_of_mem_drop hx)
theorem chunk_len {b : List D} : (chunk b).length ≤ b.length := by
 unfold chunk
 rw [List.length_take, List.length_drop]; omega
theorem rest_len {b : List D} (h0 : 0 ≤ n4 b) (h : n4 b ≤ (b.length : Int) - 4) : ((rest b).length : Int) = b.length - 4 - n4 b := by
 unfold rest
 rw [List.length_drop]; omega
theorem read_both (hN : maxLen < N) {b : List D} (hb : BytesOk b) (hl : b.length ≤ maxLen) : G20x0 N false b = some (readR N b) ∧ G22x0 N b = some (readR N b) ∧ Lst (readR N b).2.1 := by
 obtain ⟨r, h1, h2, h3⟩ := read_eq (N := N) hN hb hl (nl := false) (fun h => by cases h)
 have e : readR N b = r := by unfold readR; rw [h2]; rfl
 rw [e]
 exact ⟨h1, h2, h3⟩
def Rel2 (l : List D) (acc : List Ac) : Prop := l.map datA = acc
def Ends (r : Sum (Int × Bool × List D) (Bool × List D)) (s : Sum Int (List Ac)) : Prop :=
 match s with
 | .inl e => ∃ f l, r = .inl (e, f, l)
 | .inr acc => ∃ f l, r = .inr (f, l) ∧ Rel2 l acc ∧ l.length ≤ 100000000
theorem imp_prog (hN : maxLen < N) : ∀ (m : Nat) (b : List D) (f : Bool) (l : List D) (acc : List Ac), b.length < m → BytesOk b → Rel2 l acc → b.length + 4 * l.length ≤ 100000000 →
  ∃ r, L6x0x12 N false m b f l (fun p => some (.inl p)) (fun p => some (.inr p)) = some r ∧ Ends r (impF N m b acc)
 | 0, b, f, l, acc, h, _, _, _ => by omega
 | m + 1, b, f, l, acc, h, hb, hr, hl => by
  have hm : maxLen = 9223372036854775807 := rfl
  have h2 : room = 140737488355328 := rfl
  have h3 : strMax = 9223372036854775807 := rfl
  rw [L6x0x12, impF]
  unfold S6x0x12
  by_cases h0 : (b.length : Int) > 0
  ·rw [decide_eq_true h0]
   simp only [_root_.cond_true]
   by_cases h4 : (b.length : Int) < 4
   ·rw [decide_eq_true h4]
    exact ⟨_, rfl, f, l, rfl⟩
   ·rw [decide_eq_false h4, inB_of (show (0 : Int) ≤ 0 by omega) (show (0 : Int) < b.length by omega), inB_of (show (0 : Int) ≤ 1 by omega) (show (1 : Int) < b.length by omega), inB_of (show (0 : Int) ≤ 2 by omega) (show (2 : Int) < b.length by omega), inB_of (show (0 : Int) ≤ 3 by omega) (show (3 : Int) < b.length by omega)]
    simp only [_root_.cond_true, _root_.cond_false, bnd_eq]
    rw [show (bitsV .or .i64 ((bitsV .or .i64 ((bitsV .or .i64 (IntKind.wrap .i64 ((IntKind.wrap .i64 (b.getD 0 (.i 0)).toI) * 2 ^ 24)) (IntKind.wrap .i64 ((IntKind.wrap .i64 (b.getD 1 (.i 0)).toI) * 2 ^ 16))).getD 0) (IntKind.wrap .i64 ((IntKind.wrap .i64 (b.getD 2 (.i 0)).toI) * 2 ^ 8))).getD 0) (IntKind.wrap .i64 (b.getD 3 (.i 0)).toI)).getD 0 = n4 b from rfl]
    obtain ⟨n0, n1⟩ := n4_in hb
    have e1 : (b.take (b.length : Int).toNat).drop 4 = b.drop 4 := by rw [Int.toNat_natCast, List.take_length]
    have e2 : ((b.drop 4).length : Int) = (b.length : Int) - 4 := by rw [List.length_drop]; omega
    rw [e1, e2]
    rw [decide_eq_true (show (4 : Int) ≤ b.length by omega), decide_eq_true (show (b.length : Int) ≤ b.length by omega)]
    simp only [Bool.and_true, _root_.cond_true]
    by_cases hn : n4 b > (b.length : Int) - 4
    ·rw [decide_eq_true hn]
     exact ⟨_, rfl, f, l, rfl⟩
    ·rw [decide_eq_false hn, decide_eq_true n0, decide_eq_true (show n4 b ≤ (b.length : Int) - 4 by omega)]
     simp only [Bool.and_true, _root_.cond_true, _root_.cond_false, List.drop_zero]
     rw [show (b.drop 4).take (n4 b).toNat = chunk b from rfl]
     have hcl := chunk_len (b := b)
     obtain ⟨r1, r2, r3⟩ := read_both hN (chunk_ok hb) (show (chunk b).length ≤ maxLen by omega)
     rw [r1]
     simp only [Option.isSome_some, getD_some, _root_.cond_true]
     cases he : (readR N (chunk b)).2.2.2 != 0 with
     | true => exact ⟨_, rfl, f, l, rfl⟩
     | false =>
      obtain ⟨a1, a2, a3, q⟩ := act_prog (N := N) hN r3.e
      rw [q]
      simp only [_root_.cond_false, Option.isSome_some, getD_some, _root_.cond_true]
      cases hf : (actF (readR N (chunk b)).2.1).2.2.2.2.2.2 != 0 with
      | true => exact ⟨_, rfl, f, l, rfl⟩
      | false =>
       simp only [_root_.cond_false]
       rw [decide_eq_true (show (l.length + 1) * 104 ≤ room by omega), decide_eq_true (show l.length + 1 ≤ strMax by omega)]
       simp only [Bool.and_true, _root_.cond_true]
       rw [show (b.drop 4).take ((b.length : Int) - 4).toNat = b.drop 4 from List.take_of_length_le (by rw [List.length_drop]; omega), List.drop_drop, show 4 + (n4 b).toNat = (4 + n4 b).toNat by omega]
       simp only [decide_true, Bool.and_true, _root_.cond_true, Int.le_refl]
       have hrl := rest_len n0 (show n4 b ≤ (b.length : Int) - 4 by omega)
       refine imp_prog hN m (rest b) false _ _ (by omega) (rest_ok hb) ?_ (by simp only [List.length_append, List.length_cons, List.length_nil]; omega)
       unfold Rel2 at hr ⊢
       rw [List.map_append, hr]
       rfl
  ·rw [decide_eq_false h0]
   exact ⟨_, rfl, f, l, rfl, hr, by omega⟩
end Go.Proofs.YtngnemeafkmaoaaGreat

namespace Go.Proofs.YtngnemeafkmaoaaGreat
open Go Go.AM
set_option maxRecDepth 100000
set_option maxHeartbeats 4000000
variable {N : Nat}
theorem imp_ref (hN : maxLen < N) : ∀ (m : Nat) (b : List D) (f : Bool) (l : List D) (acc : List Ac), b.length < m → BytesOk b → Rel2 l acc → b.length + 4 * l.length ≤ 100000000 →
  ∃ r, L7x0x12 N m b f l (fun p => some (.inl p)) (fun p => some (.inr p)) = some r ∧ Ends r (impF N m b acc)
 | 0, b, f, l, acc, h, _, _, _ => by omega
 | m + 1, b, f, l, acc, h, hb, hr, hl => by
  have hm : maxLen = 9223372036854775807 := rfl
  have h2 : room = 140737488355328 := rfl
  have h3 : strMax = 9223372036854775807 := rfl
  rw [L7x0x12, impF]
  unfold S7x0x12
  by_cases h0 : (b.length : Int) > 0
  ·rw [decide_eq_true h0]
   simp only [_root_.cond_true]
   by_cases h4 : (b.length : Int) < 4
   ·rw [decide_eq_true h4]
    exact ⟨_, rfl, f, l, rfl⟩
   ·rw [decide_eq_false h4, inB_of (show (0 : Int) ≤ 0 by omega) (show (0 : Int) < b.length by omega), inB_of (show (0 : Int) ≤ 1 by omega) (show (1 : Int) < b.length by omega), inB_of (show (0 : Int) ≤ 2 by omega) (show (2 : Int) < b.length by omega), inB_of (show (0 : Int) ≤ 3 by omega) (show (3 : Int) < b.length by omega)]
    simp only [_root_.cond_true, _root_.cond_false, bnd_eq]
    rw [show (bitsV .or .i64 ((bitsV .or .i64 ((bitsV .or .i64 (IntKind.wrap .i64 ((IntKind.wrap .i64 (b.getD 0 (.i 0)).toI) * 2 ^ 24)) (IntKind.wrap .i64 ((IntKind.wrap .i64 (b.getD 1 (.i 0)).toI) * 2 ^ 16))).getD 0) (IntKind.wrap .i64 ((IntKind.wrap .i64 (b.getD 2 (.i 0)).toI) * 2 ^ 8))).getD 0) (IntKind.wrap .i64 (b.getD 3 (.i 0)).toI)).getD 0 = n4 b from rfl]
    obtain ⟨n0, n1⟩ := n4_in hb
    rw [wrapI (x := (b.length : Int) - 4) (by omega) (by omega), wrapI (x := 4 + n4 b) (by omega) (by omega)]
    by_cases hn : n4 b > (b.length : Int) - 4
    ·rw [decide_eq_true hn]
     exact ⟨_, rfl, f, l, rfl⟩
    ·rw [decide_eq_false hn, decide_eq_true (show (4 : Int) ≤ 4 + n4 b by omega), decide_eq_true (show 4 + n4 b ≤ (b.length : Int) by omega)]
     simp only [Bool.and_true, _root_.cond_true, _root_.cond_false]
     rw [show (b.take (4 + n4 b).toNat).drop 4 = chunk b by unfold chunk; rw [List.drop_take, show (4 + n4 b).toNat - 4 = (n4 b).toNat by omega]]
     have hcl := chunk_len (b := b)
     obtain ⟨r1, r2, r3⟩ := read_both hN (chunk_ok hb) (show (chunk b).length ≤ maxLen by omega)
     rw [r2]
     simp only [Option.isSome_some, getD_some, _root_.cond_true]
     cases he : (readR N (chunk b)).2.2.2 != 0 with
     | true => exact ⟨_, rfl, f, l, rfl⟩
     | false =>
      obtain ⟨a1, a2, a3, q⟩ := act_ref (N := N) hN r3.e
      rw [q]
      simp only [_root_.cond_false, Option.isSome_some, getD_some, _root_.cond_true]
      cases hf : (actF (readR N (chunk b)).2.1).2.2.2.2.2.2 != 0 with
      | true => exact ⟨_, rfl, f, l, rfl⟩
      | false =>
       simp only [_root_.cond_false]
       rw [decide_eq_true (show (l.length + 1) * 104 ≤ room by omega), decide_eq_true (show l.length + 1 ≤ strMax by omega), decide_eq_true (show (0 : Int) ≤ 4 + n4 b by omega)]
       simp only [Bool.and_true, _root_.cond_true, Int.toNat_natCast, List.take_length, decide_true, Int.le_refl]
       have hrl := rest_len n0 (show n4 b ≤ (b.length : Int) - 4 by omega)
       refine imp_ref hN m (rest b) false _ _ (by omega) (rest_ok hb) ?_ (by simp only [List.length_append, List.length_cons, List.length_nil]; omega)
       unfold Rel2 at hr ⊢
       rw [List.map_append, hr]
       rfl
  ·rw [decide_eq_false h0]
   exact ⟨_, rfl, f, l, rfl, hr, by omega⟩
theorem impF_ok (hN : maxLen < N) : ∀ (m : Nat) (b : List D) (acc acc' : List Ac), BytesOk b → b.length ≤ 100000000 → (∀ a ∈ acc, AcOk a) → impF N m b acc = .inr acc' → ∀ a ∈ acc', AcOk a
 | 0, b, acc, acc', _, _, ha, h => by
  rw [impF] at h
  cases h
  exact ha
 | m + 1, b, acc, acc', hb, hbl, ha, h => by
  have hm : maxLen = 9223372036854775807 := rfl
  rw [impF] at h
  by_cases h0 : (b.length : Int) > 0
  ·rw [decide_eq_true h0] at h
   simp only [_root_.cond_true] at h
   by_cases h4 : (b.length : Int) < 4
   ·rw [decide_eq_true h4] at h; cases h
   ·rw [decide_eq_false h4] at h
    simp only [_root_.cond_false] at h
    by_cases hn : n4 b > (b.length : Int) - 4
    ·rw [decide_eq_true hn] at h; cases h
    ·rw [decide_eq_false hn] at h
     simp only [_root_.cond_false] at h
     have hcl := chunk_len (b := b)
     obtain ⟨_, _, r3⟩ := read_both hN (chunk_ok hb) (show (chunk b).length ≤ maxLen by omega)
     cases he : (readR N (chunk b)).2.2.2 != 0 with
     | true => rw [he] at h; cases h
     | false =>
      rw [he] at h
      simp only [_root_.cond_false] at h
      cases hf : (actF (readR N (chunk b)).2.1).2.2.2.2.2.2 != 0 with
      | true => rw [hf] at h; cases h
      | false =>
       rw [hf] at h
       simp only [_root_.cond_false] at h
       obtain ⟨n0, _⟩ := n4_in hb
       have hrl := rest_len n0 (show n4 b ≤ (b.length : Int) - 4 by omega)
       refine impF_ok hN m (rest b) _ _ (rest_ok hb) (by omega) (fun a h' => ?_) h
       rw [List.mem_append, List.mem_singleton] at h'
       rcases h' with h' | rfl
       ·exact ha a h'
       ·exact actF_len r3.e
  ·rw [decide_eq_false h0] at h
   cases h
   exact ha
def sameX (x y : D) : Bool := sameA (x.cell 0).toS (x.cell 1).toI (x.cell 2).toI (x.cell 3).items (x.cell 4).items (x.cell 5).items (y.cell 0).toS (y.cell 1).toI (y.cell 2).toI (y.cell 3).items (y.cell 4).items (y.cell 5).items
theorem inB_back {w : Int} {n : Nat} (h : inB w n = true) : 0 ≤ w ∧ w < n := by
 unfold inB at h
 simpa using h
theorem sameAll_eq (hN : maxLen < N) {xs ys : List D} (hl : xs.length ≤ maxLen) (ho : ∀ x ∈ xs, AcOk (datA x)) : G8x0 N xs ys = some (eqL sameX xs ys) := by
 unfold G8x0 F8x0 eqL
 rw [len_bne]
 cases h : (xs.length == ys.length) with
 | false => rfl
 | true =>
  have e : G8x0x12 N xs ys xs.length 0 = some (bif zipAll sameX xs ys then .inr () else .inl ()) := by
   unfold G8x0x12
   refine zip_ind sameX (S := fun w kr => S8x0x12 N xs ys xs.length w kr _ _) (L := fun m w => L8x0x12 N xs ys xs.length m w _ _) (fun m w => rfl) hl (by simpa using h) (fun kr => by simp [S8x0x12]) (fun w kr h1 h2 h3 => ?_) hN
   obtain ⟨q1, q2⟩ := inB_back h2
   have ho' := ho _ (show xs.getD w.toNat (.i 0) ∈ xs by rw [List.getD_eq_getElem?_getD, List.getElem?_eq_getElem (by omega)]; exact List.getElem_mem _)
   have hx : ∀ y : D, G24x0 N ((xs.getD w.toNat (.i 0)).cell 0).toS ((xs.getD w.toNat (.i 0)).cell 1).toI ((xs.getD w.toNat (.i 0)).cell 2).toI ((xs.getD w.toNat (.i 0)).cell 3).items ((xs.getD w.toNat (.i 0)).cell 4).items ((xs.getD w.toNat (.i 0)).cell 5).items (y.cell 0).toS (y.cell 1).toI (y.cell 2).toI (y.cell 3).items (y.cell 4).items (y.cell 5).items = some (sameX (xs.getD w.toNat (.i 0)) y) := fun y => G24x0_eq hN ho'.1 ho'.2.1 ho'.2.2
   unfold S8x0x12
   rw [h1, h2, h3]
   simp only [_root_.cond_true, bnd_eq, hx, Option.isSome_some, getD_some]
   cases sameX (xs.getD w.toNat (.i 0)) (ys.getD w.toNat (.i 0)) <;> rfl
  rw [e]
  cases zipAll sameX xs ys <;> rfl
theorem sameX_of {x y : D} (h : datA x = datA y) : sameX x y = true := by
 unfold datA at h
 simp only [Prod.mk.injEq] at h
 obtain ⟨h1, h2, h3, h4, h5, h6⟩ := h
 unfold sameX
 rw [h1, h2, h3, h4, h5, h6]
 exact sameA_refl
theorem zip_of : ∀ (xs ys : List D), xs.map datA = ys.map datA → zipAll sameX xs ys = true
 | [], [], _ => rfl
 | [], y :: ys, h => by simp at h
 | x :: xs, [], h => by simp at h
 | x :: xs, y :: ys, h => by
  simp only [List.map_cons, List.cons.injEq] at h
  simp only [zipAll, sameX_of h.1, zip_of xs ys h.2]
  rfl
theorem eq_of {xs ys : List D} (h : xs.map datA = ys.map datA) : eqL sameX xs ys = true := by
 have hl := congrArg List.length h
 simp only [List.length_map] at hl
 unfold eqL
 rw [zip_of xs ys h, hl]
 simp
theorem sameAll_nil (hN : maxLen < N) : G8x0 N [] [] = some true := by
 rw [sameAll_eq hN (Nat.zero_le _) (fun x hx => by simp at hx)]
 rfl
theorem law3 (hN : maxLen < N) {nl : Bool} {b : List D} (hnl : nl = true → b = []) (hb : BytesOk b) : G3x0 N nl b = some true := by
 have hm : maxLen = 9223372036854775807 := rfl
 unfold G3x0 F3x0 G3x0x10 F3x0x10 G6x0 F6x0 G7x0 F7x0
 by_cases hbl : (b.length : Int) > 100000000
 ·rw [decide_eq_true hbl]
  simp only [bnd_eq, _root_.cond_true, Option.isSome_some, getD_some, sameAll_nil hN, beq_self_eq_true]
 ·rw [decide_eq_false hbl]
  obtain ⟨r, e1, h1⟩ := imp_prog hN N b true [] [] (by omega) hb rfl (by simp; omega)
  obtain ⟨s, e2, h2⟩ := imp_ref hN N b true [] [] (by omega) hb rfl (by simp; omega)
  have g1 : G6x0x12 N nl b true [] = some r := by
   unfold G6x0x12
   cases hh : nl with
   | false => exact e1
   | true =>
    rw [hnl hh] at e1 ⊢
    obtain ⟨k, rfl⟩ : ∃ k, N = k + 1 := ⟨N - 1, by omega⟩
    rw [L6x0x12] at e1 ⊢
    simp [S6x0x12] at e1 ⊢
    exact e1
  have g2 : G7x0x12 N b true [] = some s := e2
  simp only [bnd_eq, _root_.cond_false, g1, g2]
  cases hi : impF N N b [] with
  | inl e =>
   rw [hi] at h1 h2
   obtain ⟨f, l, rfl⟩ := h1
   obtain ⟨f', l', rfl⟩ := h2
   show (bnd (some ((true, [], e) : Bool × LD × Int)) fun y0 => _) = _
   simp only [bnd_eq, Option.isSome_some, getD_some, _root_.cond_true, inlB_inl, inlV_inl, sameAll_nil hN, beq_self_eq_true]
  | inr acc =>
   rw [hi] at h1 h2
   obtain ⟨f, l, rfl, hr, hlen⟩ := h1
   obtain ⟨f', l', rfl, hr', _⟩ := h2
   have hok := impF_ok hN N b [] acc hb (by omega) (fun a h => by simp at h) hi
   unfold Rel2 at hr hr'
   have hs : G8x0 N l l' = some true := by
    rw [sameAll_eq hN (show l.length ≤ maxLen by omega) fun x hx => hok _ (by rw [← hr]; exact List.mem_map.2 ⟨x, hx, rfl⟩), eq_of (hr.trans hr'.symm)]
   simp only [bnd_eq, Option.isSome_some, getD_some, _root_.cond_true, _root_.cond_false, inlB_inr, inrQ_inr, hs, beq_self_eq_true]
end Go.Proofs.YtngnemeafkmaoaaGreat

namespace Go.Proofs.YtngnemeafkmaoaaGreat
open Go Go.AM
set_option maxRecDepth 100000
set_option maxHeartbeats 4000000
set_option linter.unusedVariables false
theorem kinds22 : kinds Tryz.prog 22 = [.sl 5] := by kernel_rfl
theorem kindsU8 : kinds Tryz.prog 5 = [.int .u8] := by kernel_rfl
theorem byteU8 {m : Nat} {x : D} (h : TyEl Tryz.prog (TyK Tryz.prog (m + 1)) 5 x) : 0 ≤ x.toI ∧ x.toI ≤ 255 := by
 unfold TyEl at h
 have : isAggB Tryz.prog 5 = false := by kernel_rfl
 rw [if_neg (by rw [this]; simp), kindsU8] at h
 obtain ⟨k, hk, h⟩ := h
 simp only [List.cons.injEq, and_true] at hk
 subst hk
 obtain ⟨i, rfl, hl⟩ := h
 simp only [Lit.wf, Bool.and_eq_true, decide_eq_true_eq] at hl
 exact hl
theorem arg22 {ds : List D} (h : ArgOk Tryz.prog 6 22 ds) : ∃ nl xs, ds = [.l nl xs] ∧ (nl = true → xs = []) ∧ BytesOk xs := by
 unfold ArgOk at h
 rw [kinds22] at h
 obtain ⟨_, _, rfl, h0, h⟩ := all2_cons h
 obtain rfl := all2_nil h
 obtain ⟨nl, xs, rfl, h1, h2, h3⟩ := ty_sl (m := 5) h0
 exact ⟨nl, xs, rfl, h1, fun x hx => byteU8 (h3 x hx)⟩
theorem Tryz.own : ownKnob Tryz.prog.godebug = none := by kernel_rfl
theorem Tryz.laidOut : laidOutB Tryz.prog = true := by kernel_rfl
theorem callLaw (dss : List (List D)) (h : All2 (ArgOk Tryz.prog 6) Tryz.f3.params.toList dss) : CallOk Tryz.prog 3 (argVs Tryz.prog Tryz.f3.params.toList dss) [] ([.c (.b true)], []) := by
 have hp : Tryz.f3.params.toList = [22] := by kernel_rfl
 rw [hp] at h ⊢
 match dss, h with
 | [d0], ⟨h0, _⟩ =>
  obtain ⟨nl, xs, rfl, hnl, hb⟩ := arg22 h0
  refine ok3x0 18446744073709551616 _ _ (A3x0 18446744073709551616 [.b nl, .l xs]) (by kernel_rfl) _ ?_
  have e : A3x0 18446744073709551616 [.b nl, .l xs] = bnd (G3x0 18446744073709551616 nl xs) fun q => [(q.isSome, ([.c (.b (q.getD default))], []))] := by kernel_rfl
  rw [e, law3 (by decide) hnl hb]
  rfl
theorem lawLifted (os : Os) (started : os.Started) (H : Type) (enc : TypeId × Value → H) :
  ReturnsInHanded {} Tryz.checked os 3 .any (Rows.veilImportMatchesSpecSpec.pre6 enc Tryz.prog Tryz.f3 Rows.veilImportMatchesSpecRow.domain false) (Rows.veilImportMatchesSpecSpec.post enc Tryz.prog Tryz.f3 false true false false) := by
 refine returnsInHanded_of_change (C := Tryz.checked) Tryz.own started (by kernel_rfl) Tryz.func3
  (ChangeSpec.witness6 (enc := enc) (C := Tryz.checked) false ⟨#[], #[.slice none 0 0], []⟩ 8 (by kernel_rfl) (by kernel_rfl) (by kernel_rfl) (by kernel_rfl)) ?_
 intro W base args ds gs before hval hW _ _
 exact law_call (m := 6) (tb := 4) Tryz.laidOut rfl (by kernel_rfl) (by kernel_rfl) (by kernel_rfl) (fun l hl => by
  rw [show Tryz.f3.params.size = 1 by kernel_rfl] at hl
  match l, hl with
  | [_], _ => rfl) callLaw hval hW
theorem import_holds : Rows.VeilImportMatchesSpecSaid :=
 OpenClaim.holds_of_wide 3 Tryz.f3 rfl rfl rfl rfl rfl rfl rfl ⟨rfl, rfl, rfl, rfl, rfl⟩ rfl rfl rfl rfl rfl (by kernel_rfl) Tryz.func3 (by kernel_rfl)
  (of_decide_eq_true (by kernel_rfl)) (by unfold Func.isWrapper; first | (rw [if_pos (by decide +kernel)]; kernel_rfl) | (rw [if_neg (by decide +kernel)]; exact ⟨rfl, rfl⟩))
  (fun os started H enc _ => lawLifted os started H enc)
end Go.Proofs.YtngnemeafkmaoaaGreat

