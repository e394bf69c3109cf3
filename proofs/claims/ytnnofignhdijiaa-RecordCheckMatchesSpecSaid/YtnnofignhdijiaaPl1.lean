/- Proved: for every two activities, record.Check and record.Same answer what the reference package answers (RecordCheckMatchesSpec returns true and leaves its arguments as they were). Conditions: none beyond those of the given statement. -/
import Derived.Test.YtnnofignhdijiaaR3p1
import Derived.KernelRfl
import Derived.Test.YtnnofignhdijiaaRows
set_option linter.all false
set_option maxRecDepth 100000
/-! Plain laws: record.Check, record.Same and their references (the numbers are those of the seat of chapter 2). -/
namespace Go.Proofs.Ytnnofignhdijiaa
open Go Go.AM
set_option maxRecDepth 100000
set_option maxHeartbeats 4000000
variable {N : Nat}
/-! ### Names, ranges -/
def ltr (n : Int) : Bool := decide (97 ≤ n ∧ n ≤ 122 ∨ 65 ≤ n ∧ n ≤ 90 ∨ 48 ≤ n ∧ n ≤ 57 ∨ n = 45 ∨ n = 95 ∨ n = 46)
def nameB (s : List UInt8) : Bool := s.all (fun c => ltr (c.toNat : Int)) && decide (1 ≤ s.length ∧ s.length ≤ 60)
def titleB (s : List UInt8) : Bool := s.all (fun c => decide (32 ≤ (c.toNat : Int) ∧ (c.toNat : Int) ≤ 126)) && decide (s.length ≤ 60)
def inI (n a b : Int) : Bool := decide (a ≤ n ∧ n ≤ b)
theorem G56x0x6_eq (hN : maxLen < N) {s : List UInt8} (hs : s.length ≤ maxLen) : G56x0x6 N s 0 = some (bif s.all (fun c => ltr (c.toNat : Int)) then .inr () else .inl ()) := by
 unfold G56x0x6
 refine (for_ind (0 : UInt8) (S := fun w kr => S56x0x6 N s w kr _ _) (L := fun m w => L56x0x6 N s m w _ _) (fun m w => rfl) (fun _ l => some (bif l.all (fun c => ltr (c.toNat : Int)) then .inr () else .inl ())) hs ?_ ?_ hN).trans rfl
 ·intro kr; simp [S56x0x6]
 ·intro w kr h0 h1 hw hi hk
  simp only [S56x0x6, decide_eq_true h1, _root_.cond_true, hi, bnd_eq, hw, hk, List.all_cons]
  generalize ((s.getD w.toNat 0).toNat : Int) = n
  refine (cond_congr (c' := !ltr n) ?_).trans ?_
  ·rw [Bool.eq_iff_iff]; simp [ltr]; omega
  ·cases ltr n <;> rfl
theorem G56x0_eq (hN : maxLen < N) {s : List UInt8} (hs : s.length ≤ maxLen) : G56x0 N s = some (nameB s) := by
 unfold G56x0 F56x0
 rw [G56x0x6_eq hN hs]
 unfold nameB
 cases s.all (fun c => ltr (c.toNat : Int)) with
 | false => rfl
 | true =>
  simp only [bnd_eq, inlB_inr, inrQ_inr, _root_.cond_true, _root_.cond_false, Option.isSome_some, Bool.true_and]
  congr 1
  rw [Bool.eq_iff_iff]; simp; omega
theorem G51x0x6_eq (hN : maxLen < N) {s : List UInt8} (hs : s.length ≤ maxLen) : G51x0x6 N s s.length 0 = some (bif s.all (fun c => ltr (c.toNat : Int)) then .inr () else .inl ()) := by
 unfold G51x0x6
 refine (for_ind (0 : UInt8) (S := fun w kr => S51x0x6 N s s.length w kr _ _) (L := fun m w => L51x0x6 N s s.length m w _ _) (fun m w => rfl) (fun _ l => some (bif l.all (fun c => ltr (c.toNat : Int)) then .inr () else .inl ())) hs ?_ ?_ hN).trans rfl
 ·intro kr; simp [S51x0x6]
 ·intro w kr h0 h1 hw hi hk
  simp only [S51x0x6, decide_eq_true h1, _root_.cond_true, hi, bnd_eq, hw, hk, List.all_cons, V51x0x19, F51x0x19, V119x0, F119x0]
  generalize ((s.getD w.toNat 0).toNat : Int) = n
  refine (cond_congr (c' := !ltr n) ?_).trans ?_
  ·rw [Bool.eq_iff_iff]; simp [ltr]; omega
  ·cases ltr n <;> rfl
theorem G51x0_eq (hN : maxLen < N) {s : List UInt8} (hs : s.length ≤ maxLen) : G51x0 N s = some (nameB s) := by
 unfold G51x0 F51x0
 rw [G51x0x6_eq hN hs]
 unfold nameB
 cases s.all (fun c => ltr (c.toNat : Int)) with
 | false => rfl
 | true =>
  simp only [bnd_eq, inlB_inr, inrQ_inr, _root_.cond_true, _root_.cond_false, Option.isSome_some, Bool.true_and]
  congr 1
  rw [Bool.eq_iff_iff]; simp; omega
theorem V52x0_eq (n a b : Int) : V52x0 N n a b = inI n a b := by
 unfold V52x0 F52x0 inI
 rw [Bool.eq_iff_iff]; simp
theorem V57x0_eq (n a b : Int) : V57x0 N n a b = !inI n a b := by
 unfold V57x0 F57x0 inI
 rw [Bool.eq_iff_iff]; simp <;> omega
theorem wrapByte (c : UInt8) : IntKind.wrap .i64 (c.toNat : Int) = c.toNat := wrapI (by omega) (by have := c.toNat_lt; omega)
theorem G55x0_eq (hN : maxLen < N) {s : List UInt8} (hs : s.length ≤ maxLen) : G55x0 N s = some (titleB s) := by
 have h : G55x0x6 N s s.length 0 = some (bif s.all (fun c => decide (32 ≤ (c.toNat : Int) ∧ (c.toNat : Int) ≤ 126)) then .inr () else .inl ()) := by
  unfold G55x0x6
  refine (for_ind (0 : UInt8) (S := fun w kr => S55x0x6 N s s.length w kr _ _) (L := fun m w => L55x0x6 N s s.length m w _ _) (fun m w => rfl) (fun _ l => some (bif l.all (fun c => decide (32 ≤ (c.toNat : Int) ∧ (c.toNat : Int) ≤ 126)) then .inr () else .inl ())) hs ?_ ?_ hN).trans rfl
  ·intro kr; simp [S55x0x6]
  ·intro w kr h0 h1 hw hi hk
   simp only [S55x0x6, decide_eq_true h1, _root_.cond_true, hi, bnd_eq, hw, hk, List.all_cons, wrapByte, V52x0_eq, inI]
   cases decide (32 ≤ ((s.getD w.toNat 0).toNat : Int) ∧ ((s.getD w.toNat 0).toNat : Int) ≤ 126) <;> rfl
 unfold G55x0 F55x0
 rw [h]
 unfold titleB
 cases s.all (fun c => decide (32 ≤ (c.toNat : Int) ∧ (c.toNat : Int) ≤ 126)) with
 | false => rfl
 | true =>
  simp only [bnd_eq, inlB_inr, inrQ_inr, _root_.cond_true, _root_.cond_false, Option.isSome_some, Bool.true_and]
  congr 1
  rw [Bool.eq_iff_iff]; simp; omega
theorem G59x0x21_eq (hN : maxLen < N) {s : List UInt8} (hs : s.length ≤ maxLen) : G59x0x21 N s 0 = some (bif s.all (fun c => decide (32 ≤ (c.toNat : Int) ∧ (c.toNat : Int) ≤ 126)) then .inr () else .inl ()) := by
 unfold G59x0x21
 refine (for_ind (0 : UInt8) (S := fun w kr => S59x0x21 N s w kr _ _) (L := fun m w => L59x0x21 N s m w _ _) (fun m w => rfl) (fun _ l => some (bif l.all (fun c => decide (32 ≤ (c.toNat : Int) ∧ (c.toNat : Int) ≤ 126)) then .inr () else .inl ())) hs ?_ ?_ hN).trans rfl
 ·intro kr; simp [S59x0x21]
 ·intro w kr h0 h1 hw hi hk
  simp only [S59x0x21, decide_eq_true h1, _root_.cond_true, hi, bnd_eq, hw, hk, List.all_cons, wrapByte, V57x0_eq, inI]
  cases decide (32 ≤ ((s.getD w.toNat 0).toNat : Int) ∧ ((s.getD w.toNat 0).toNat : Int) ≤ 126) <;> rfl
/-! ### The first fault -/
def firstE (e : Int → Int) : Int → List D → Int
 | _, [] => 0
 | w, _ :: r => bif e w != 0 then e w else firstE e (w + 1) r
def wayE (n : Int) : Sum Int Unit := bif n != 0 then .inl n else .inr ()
theorem wayE_cons {e : Int → Int} {w : Int} {x : D} {l : List D} : wayE (firstE e w (x :: l)) = bif e w != 0 then .inl (e w) else wayE (firstE e (w + 1) l) := by
 simp only [firstE]
 cases h : e w != 0 with
 | true => simp only [_root_.cond_true, wayE, h]
 | false => rfl
/-- Is the moment of sample w not behind that of the one before? -/
def ordE (xs : List D) (w : Int) : Bool := bif w == 0 then ((xs.getD w.toNat (.i 0)).cell 0).toI != 0 else decide (((xs.getD w.toNat (.i 0)).cell 0).toI ≤ ((xs.getD (w - 1).toNat (.i 0)).cell 0).toI)
def rngB (s : D) : Bool := inI (s.cell 1).toI (-100000000) 100000000 && inI (s.cell 2).toI (-100000000) 100000000 && inI (s.cell 3).toI (-100000) 100000 && inI (s.cell 4).toI (-1) 300 && inI (s.cell 5).toI (-1) 3000 && inI (s.cell 6).toI (-1) 300
def farB (start : Int) (s : D) : Bool := decide ((s.cell 0).toI > 1000000) || decide (IntKind.wrap .i64 (start + (s.cell 0).toI) > 86399999999)
def smpE (start : Int) (xs : List D) (w : Int) : Int := bif ordE xs w then 10 else bif farB start (xs.getD w.toNat (.i 0)) || !rngB (xs.getD w.toNat (.i 0)) then 9 else 0
section
variable {xs : List D} {w : Int}
theorem prev_of (h0 : 0 ≤ w) (h1 : w < xs.length) (hl : xs.length ≤ maxLen) (hp : w ≠ 0) : IntKind.wrap .i64 (w - 1) = w - 1 ∧ inB (w - 1) xs.length = true := by
 have hm : maxLen = 9223372036854775807 := rfl
 exact ⟨wrapI (by omega) (by omega), inB_of (by omega) (by omega)⟩
theorem ord13 (h0 : 0 ≤ w) (h1 : w < xs.length) (hl : xs.length ≤ maxLen) : G13x0x39002 N w (bif (w == 0) then (((xs.getD w.toNat (.i 0)).cell 0).toI != 0) else false) xs ((xs.getD w.toNat (.i 0)).cell 0).toI = some (ordE xs w) := by
 unfold G13x0x39002 F13x0x39002 G13x0x40 F13x0x40 ordE
 by_cases hw : w = 0
 ·subst hw
  rw [decide_eq_false (by omega : ¬ ((0 : Int) > 0))]
  simp only [beq_self_eq_true, _root_.cond_true]
  cases (((xs.getD (0 : Int).toNat (.i 0)).cell 0).toI != 0) <;> rfl
 ·obtain ⟨e1, e2⟩ := prev_of h0 h1 hl hw
  have : (w == 0) = false := by simpa using hw
  rw [this, decide_eq_true (by omega : w > 0), e1, e2]
  rfl
theorem ord58 (h0 : 0 ≤ w) (h1 : w < xs.length) (hl : xs.length ≤ maxLen) : G58x0x7 N w xs ((xs.getD w.toNat (.i 0)).cell 0).toI = some (ordE xs w) := by
 unfold G58x0x7 F58x0x7 ordE
 by_cases hw : w = 0
 ·subst hw
  rw [decide_eq_false (by omega : ¬ ((0 : Int) > 0))]
  simp only [beq_self_eq_true, _root_.cond_true]
  cases (((xs.getD (0 : Int).toNat (.i 0)).cell 0).toI != 0) <;> rfl
 ·obtain ⟨e1, e2⟩ := prev_of h0 h1 hl hw
  have : (w == 0) = false := by simpa using hw
  rw [this, decide_eq_true (by omega : w > 0), e1, e2]
  rfl
theorem far13 (start : Int) (s : D) : V13x0x46 N start (s.cell 0).toI (s.cell 1).toI (s.cell 2).toI (s.cell 3).toI (s.cell 4).toI (s.cell 5).toI (s.cell 6).toI = (farB start s || !rngB s) := by
 unfold V13x0x46 F13x0x46 V53x0 F53x0 V53x0x4 F53x0x4 V53x0x7 F53x0x7 farB rngB
 simp only [bnd_eq, V52x0_eq]
 cases decide ((s.cell 0).toI > 1000000) <;> cases decide (IntKind.wrap .i64 (start + (s.cell 0).toI) > 86399999999) <;> cases inI (s.cell 1).toI (-100000000) 100000000 <;> cases inI (s.cell 2).toI (-100000000) 100000000 <;> cases inI (s.cell 3).toI (-100000) 100000 <;> cases inI (s.cell 4).toI (-1) 300 <;> cases inI (s.cell 5).toI (-1) 3000 <;> cases inI (s.cell 6).toI (-1) 300 <;> rfl
theorem G13x0x30_eq (hN : maxLen < N) (start : Int) (hl : xs.length ≤ maxLen) : G13x0x30 N xs xs.length start xs 0 = some (wayE (firstE (smpE start xs) 0 xs)) := by
 unfold G13x0x30
 refine (for_ind (.i 0 : D) (S := fun w kr => S13x0x30 N xs xs.length start xs w kr _ _) (L := fun m w => L13x0x30 N xs xs.length start xs m w _ _) (fun m w => rfl) (fun w l => some (wayE (firstE (smpE start xs) w l))) hl ?_ ?_ hN).trans rfl
 ·intro kr; simp [S13x0x30, firstE, wayE]
 ·intro w kr h0 h1 hw hi hk
  simp only [S13x0x30, decide_eq_true h1, _root_.cond_true, hi, bnd_eq, hw, hk, ord13 h0 h1 hl, Option.isSome_some, getD_some, far13, wayE_cons]
  unfold smpE
  cases ordE xs w with
  | true => rfl
  | false => cases (farB start (xs.getD w.toNat (.i 0)) || !rngB (xs.getD w.toNat (.i 0))) <;> rfl
theorem G58x0_eq (start : Int) (h0 : 0 ≤ w) (h1 : w < xs.length) (hl : xs.length ≤ maxLen) : G58x0 N start xs w = some (smpE start xs w) := by
 unfold G58x0 F58x0
 rw [inB_of h0 h1, ord58 h0 h1 hl]
 unfold smpE V58x0x19 F58x0x19 V58x0x25 F58x0x25 farB rngB
 simp only [bnd_eq, _root_.cond_true, Option.isSome_some, getD_some, V57x0_eq]
 generalize xs.getD w.toNat (.i 0) = s
 cases ordE xs w <;> cases decide ((s.cell 0).toI > 1000000) <;> cases decide (IntKind.wrap .i64 (start + (s.cell 0).toI) > 86399999999) <;> cases inI (s.cell 1).toI (-100000000) 100000000 <;> cases inI (s.cell 2).toI (-100000000) 100000000 <;> cases inI (s.cell 3).toI (-100000) 100000 <;> cases inI (s.cell 4).toI (-1) 300 <;> cases inI (s.cell 5).toI (-1) 3000 <;> cases inI (s.cell 6).toI (-1) 300 <;> rfl
theorem G14x0x30_eq (hN : maxLen < N) (start : Int) (hl : xs.length ≤ maxLen) : G14x0x30 N xs.length start xs 0 = some (wayE (firstE (smpE start xs) 0 xs)) := by
 unfold G14x0x30
 refine (for_ind (.i 0 : D) (S := fun w kr => S14x0x30 N xs.length start xs w kr _ _) (L := fun m w => L14x0x30 N xs.length start xs m w _ _) (fun m w => rfl) (fun w l => some (wayE (firstE (smpE start xs) w l))) hl ?_ ?_ hN).trans rfl
 ·intro kr; simp [S14x0x30, firstE, wayE]
 ·intro w kr h0 h1 hw hi hk
  simp only [S14x0x30, decide_eq_true h1, _root_.cond_true, bnd_eq, hw, hk, G58x0_eq start h0 h1 hl, Option.isSome_some, getD_some, wayE_cons]
  cases smpE start xs w != 0 <;> rfl
/-! ### Laps -/
def spanD (xs : List D) : Int := bif decide ((xs.length : Int) > 0) then ((xs.getD ((xs.length : Int) - 1).toNat (.i 0)).cell 0).toI else 0
theorem G54x0_eq (hl : xs.length ≤ maxLen) : G54x0 N xs = some (spanD xs) := by
 have hm : maxLen = 9223372036854775807 := rfl
 unfold G54x0 F54x0 spanD
 by_cases h : (xs.length : Int) > 0
 ·rw [decide_eq_true h, wrapI (by omega) (by omega), inB_of (by omega) (by omega)]; rfl
 ·rw [decide_eq_false h]; rfl
theorem G111x0_eq (hl : xs.length ≤ maxLen) : G111x0 N xs = some (spanD xs) := by
 have hm : maxLen = 9223372036854775807 := rfl
 unfold G111x0 F111x0 spanD
 by_cases h : (xs.length : Int) > 0
 ·have : ((xs.length : Int) == 0) = false := by simp; intro h'; subst h'; simp at h
  rw [decide_eq_true h, this, wrapI (by omega) (by omega), inB_of (by omega) (by omega)]; rfl
 ·have : ((xs.length : Int) == 0) = true := by simp; exact List.eq_nil_of_length_eq_zero (by omega)
  rw [decide_eq_false h, this]; rfl
def lapO (xs : List D) (w : Int) : Bool := bif decide (w > 0) then decide (((xs.getD w.toNat (.i 0)).cell 0).toI < ((xs.getD (w - 1).toNat (.i 0)).cell 1).toI) else false
def lapR (span : Int) (s : D) : Bool := decide ((s.cell 0).toI < 0) || decide ((s.cell 0).toI ≥ (s.cell 1).toI) || decide ((s.cell 1).toI > span)
def lapE (span : Int) (xs : List D) (w : Int) : Int := bif lapR span (xs.getD w.toNat (.i 0)) then 9 else bif lapO xs w then 10 else bif titleB ((xs.getD w.toNat (.i 0)).cell 2).toS then 0 else 8
theorem lap13 (h0 : 0 ≤ w) (h1 : w < xs.length) (hl : xs.length ≤ maxLen) : G13x0x73 N w xs ((xs.getD w.toNat (.i 0)).cell 0).toI = some (lapO xs w) := by
 unfold G13x0x73 F13x0x73 lapO
 by_cases hw : w = 0
 ·subst hw; rfl
 ·obtain ⟨e1, e2⟩ := prev_of h0 h1 hl hw
  rw [decide_eq_true (by omega : w > 0), e1, e2]; rfl
theorem lap59 (h0 : 0 ≤ w) (h1 : w < xs.length) (hl : xs.length ≤ maxLen) : G59x0x13 N w xs ((xs.getD w.toNat (.i 0)).cell 0).toI = some (lapO xs w) := lap13 (N := N) h0 h1 hl
theorem G13x0x60_eq (hN : maxLen < N) (span : Int) (hl : xs.length ≤ maxLen) (hn : ∀ x ∈ xs, (x.cell 2).toS.length ≤ maxLen) : G13x0x60 N span xs xs.length xs 0 = some (wayE (firstE (lapE span xs) 0 xs)) := by
 unfold G13x0x60
 refine (for_ind (.i 0 : D) (S := fun w kr => S13x0x60 N span xs xs.length xs w kr _ _) (L := fun m w => L13x0x60 N span xs xs.length xs m w _ _) (fun m w => rfl) (fun w l => some (wayE (firstE (lapE span xs) w l))) hl ?_ ?_ hN).trans rfl
 ·intro kr; simp [S13x0x60, firstE, wayE]
 ·intro w kr h0 h1 hw hi hk
  have hmem : xs.getD w.toNat (.i 0) ∈ xs := by rw [List.getD_eq_getElem?_getD, List.getElem?_eq_getElem (by omega)]; exact List.getElem_mem _
  simp only [S13x0x60, decide_eq_true h1, _root_.cond_true, hi, bnd_eq, hw, hk, lap13 h0 h1 hl, G55x0_eq hN (hn _ hmem), Option.isSome_some, getD_some, wayE_cons]
  unfold lapE lapR
  generalize xs.getD w.toNat (.i 0) = s
  cases decide ((s.cell 0).toI < 0) <;> cases decide ((s.cell 0).toI ≥ (s.cell 1).toI) <;> cases decide ((s.cell 1).toI > span) <;> cases lapO xs w <;> cases titleB (s.cell 2).toS <;> rfl
theorem G59x0_eq (hN : maxLen < N) {smps : List D} (h0 : 0 ≤ w) (h1 : w < xs.length) (hl : xs.length ≤ maxLen) (hs : smps.length ≤ maxLen) (hn : ∀ x ∈ xs, (x.cell 2).toS.length ≤ maxLen) : G59x0 N smps xs w = some (lapE (spanD smps) xs w) := by
 have hmem : xs.getD w.toNat (.i 0) ∈ xs := by rw [List.getD_eq_getElem?_getD, List.getElem?_eq_getElem (by omega)]; exact List.getElem_mem _
 unfold G59x0 F59x0 G59x0x7 F59x0x7
 simp only [inB_of h0 h1, _root_.cond_true, bnd_eq, G111x0_eq hs, Option.isSome_some, getD_some, lap59 h0 h1 hl, G59x0x21_eq hN (hn _ hmem)]
 unfold lapE lapR titleB
 generalize xs.getD w.toNat (.i 0) = s
 have e3 : decide (((s.cell 2).toS.length : Int) > 60) = !decide ((s.cell 2).toS.length ≤ 60) := by rw [Bool.eq_iff_iff]; simp; omega
 rw [e3]
 cases decide ((s.cell 0).toI < 0) <;> cases decide ((s.cell 0).toI ≥ (s.cell 1).toI) <;> cases decide ((s.cell 1).toI > spanD smps) <;> cases lapO xs w <;> cases (s.cell 2).toS.all (fun c => decide (32 ≤ (c.toNat : Int) ∧ (c.toNat : Int) ≤ 126)) <;> cases decide ((s.cell 2).toS.length ≤ 60) <;> rfl
theorem G14x0x51_eq (hN : maxLen < N) {smps : List D} (hl : xs.length ≤ maxLen) (hs : smps.length ≤ maxLen) (hn : ∀ x ∈ xs, (x.cell 2).toS.length ≤ maxLen) : G14x0x51 N xs.length smps xs 0 = some (wayE (firstE (lapE (spanD smps) xs) 0 xs)) := by
 unfold G14x0x51
 refine (for_ind (.i 0 : D) (S := fun w kr => S14x0x51 N xs.length smps xs w kr _ _) (L := fun m w => L14x0x51 N xs.length smps xs m w _ _) (fun m w => rfl) (fun w l => some (wayE (firstE (lapE (spanD smps) xs) w l))) hl ?_ ?_ hN).trans rfl
 ·intro kr; simp [S14x0x51, firstE, wayE]
 ·intro w kr h0 h1 hw hi hk
  simp only [S14x0x51, decide_eq_true h1, _root_.cond_true, bnd_eq, hw, hk, G59x0_eq hN h0 h1 hl hs hn, Option.isSome_some, getD_some, wayE_cons]
  cases lapE (spanD smps) xs w != 0 <;> rfl
/-! ### Tags -/
def leS (a b : List UInt8) : Bool := Op.bytesLess a b || a == b
def tagO (xs : List D) (w : Int) : Bool := bif decide (w > 0) then leS (xs.getD w.toNat (.i 0)).toS (xs.getD (w - 1).toNat (.i 0)).toS else false
def tagE (xs : List D) (w : Int) : Int := bif nameB (xs.getD w.toNat (.i 0)).toS then (bif tagO xs w then 10 else 0) else 8
theorem tag_in (h0 : 0 ≤ w) (h1 : w < xs.length) (hl : xs.length ≤ maxLen) : (bif (inB (IntKind.wrap .i64 (w - 1)) xs.length) then true else (!((decide (w > 0)) == true))) = true ∧ (bif (decide (w > 0)) then ((Op.bytesLess (xs.getD w.toNat (.i 0)).toS (xs.getD (IntKind.wrap .i64 (w - 1)).toNat (.i 0)).toS) || ((xs.getD w.toNat (.i 0)).toS == (xs.getD (IntKind.wrap .i64 (w - 1)).toNat (.i 0)).toS)) else false) = tagO xs w := by
 unfold tagO leS
 by_cases hw : w = 0
 ·subst hw
  rw [decide_eq_false (by omega : ¬ ((0 : Int) > 0))]
  refine ⟨?_, rfl⟩
  cases inB (IntKind.wrap .i64 (0 - 1)) xs.length <;> rfl
 ·obtain ⟨e1, e2⟩ := prev_of h0 h1 hl hw
  rw [decide_eq_true (by omega : w > 0), e1, e2]
  exact ⟨rfl, rfl⟩
theorem G13x0x90_eq (hN : maxLen < N) (hl : xs.length ≤ maxLen) (hn : ∀ x ∈ xs, x.toS.length ≤ maxLen) : G13x0x90 N xs xs.length xs 0 = some (wayE (firstE (tagE xs) 0 xs)) := by
 unfold G13x0x90
 refine (for_ind (.i 0 : D) (S := fun w kr => S13x0x90 N xs xs.length xs w kr _ _) (L := fun m w => L13x0x90 N xs xs.length xs m w _ _) (fun m w => rfl) (fun w l => some (wayE (firstE (tagE xs) w l))) hl ?_ ?_ hN).trans rfl
 ·intro kr; simp [S13x0x90, firstE, wayE]
 ·intro w kr h0 h1 hw hi hk
  have hmem : xs.getD w.toNat (.i 0) ∈ xs := by rw [List.getD_eq_getElem?_getD, List.getElem?_eq_getElem (by omega)]; exact List.getElem_mem _
  obtain ⟨t1, t2⟩ := tag_in h0 h1 hl
  simp only [S13x0x90, decide_eq_true h1, _root_.cond_true, hi, bnd_eq, hw, hk, G51x0_eq hN (hn _ hmem), Option.isSome_some, getD_some, wayE_cons, t2]
  unfold tagE
  rw [t1]
  cases nameB (xs.getD w.toNat (.i 0)).toS <;> cases tagO xs w <;> rfl
theorem G14x0x72_eq (hN : maxLen < N) (hl : xs.length ≤ maxLen) (hn : ∀ x ∈ xs, x.toS.length ≤ maxLen) : G14x0x72 N xs xs.length xs 0 = some (wayE (firstE (tagE xs) 0 xs)) := by
 unfold G14x0x72
 refine (for_ind (.i 0 : D) (S := fun w kr => S14x0x72 N xs xs.length xs w kr _ _) (L := fun m w => L14x0x72 N xs xs.length xs m w _ _) (fun m w => rfl) (fun w l => some (wayE (firstE (tagE xs) w l))) hl ?_ ?_ hN).trans rfl
 ·intro kr; simp [S14x0x72, firstE, wayE]
 ·intro w kr h0 h1 hw hi hk
  have hmem : xs.getD w.toNat (.i 0) ∈ xs := by rw [List.getD_eq_getElem?_getD, List.getElem?_eq_getElem (by omega)]; exact List.getElem_mem _
  obtain ⟨t1, t2⟩ := tag_in h0 h1 hl
  simp only [S14x0x72, decide_eq_true h1, _root_.cond_true, hi, bnd_eq, hw, hk, G56x0_eq hN (hn _ hmem), Option.isSome_some, getD_some, wayE_cons, t2]
  unfold tagE
  rw [t1]
  cases nameB (xs.getD w.toNat (.i 0)).toS <;> cases tagO xs w <;> rfl
end
/-! ### Check -/
/-- What Check says of an activity. -/
def chkA (name : List UInt8) (sport start : Int) (smps laps tags : List D) : Int :=
 bif !nameB name then 8 else bif !inI sport 1 5 then 7 else bif !inI start 0 86399999999 then 9 else
 bif decide ((smps.length : Int) > 20000) || decide ((laps.length : Int) > 200) || decide ((tags.length : Int) > 20) then 3 else
 bif firstE (smpE start smps) 0 smps != 0 then firstE (smpE start smps) 0 smps else
 bif firstE (lapE (spanD smps) laps) 0 laps != 0 then firstE (lapE (spanD smps) laps) 0 laps else firstE (tagE tags) 0 tags
/-- An activity's lengths are possible. -/
structure ActOk (name : List UInt8) (smps laps tags : List D) : Prop where
 n : name.length ≤ maxLen
 s : smps.length ≤ maxLen
 l : laps.length ≤ maxLen
 t : tags.length ≤ maxLen
 ln : ∀ x ∈ laps, (x.cell 2).toS.length ≤ maxLen
 tn : ∀ x ∈ tags, x.toS.length ≤ maxLen
theorem way_do {α : Type} (n : Int) (k0 : Int → α) (k1 : α) (z : α) : (bif inlB (some (wayE n)) then k0 (inlV (some (wayE n))) else bif (inrQ (some (wayE n))).isSome then k1 else z) = bif n != 0 then k0 n else k1 := by
 unfold wayE
 cases n != 0 <;> rfl
section
variable {name : List UInt8} {sport start : Int} {smps laps tags : List D}
theorem G13x0_eq (hN : maxLen < N) (h : ActOk name smps laps tags) : G13x0 N name sport start smps laps tags = some (chkA name sport start smps laps tags) := by
 unfold G13x0 F13x0
 simp only [bnd_eq, G51x0_eq hN h.n, Option.isSome_some, _root_.cond_true, getD_some, V52x0_eq, G13x0x30_eq hN start h.s, G54x0_eq h.s, G13x0x60_eq hN _ h.l h.ln, G13x0x90_eq hN h.t h.tn, way_do]
 unfold chkA
 cases nameB name <;> cases inI sport 1 5 <;> cases inI start 0 86399999999 <;> cases decide ((smps.length : Int) > 20000) <;> cases decide ((laps.length : Int) > 200) <;> cases decide ((tags.length : Int) > 20) <;> try rfl
 cases firstE (smpE start smps) 0 smps != 0 <;> cases firstE (lapE (spanD smps) laps) 0 laps != 0 <;> cases h3 : firstE (tagE tags) 0 tags != 0 <;> first | rfl | (simp only [bne_eq_false_iff_eq] at h3; simp [h3])
theorem G14x0_eq (hN : maxLen < N) (h : ActOk name smps laps tags) : G14x0 N name sport start smps laps tags = some (chkA name sport start smps laps tags) := by
 unfold G14x0 F14x0
 simp only [bnd_eq, G56x0_eq hN h.n, Option.isSome_some, _root_.cond_true, getD_some, V57x0_eq, G14x0x30_eq hN start h.s, G14x0x51_eq hN h.l h.s h.ln, G14x0x72_eq hN h.t h.tn, way_do]
 unfold chkA
 cases nameB name <;> cases inI sport 1 5 <;> cases inI start 0 86399999999 <;> cases decide ((smps.length : Int) > 20000) <;> cases decide ((laps.length : Int) > 200) <;> cases decide ((tags.length : Int) > 20) <;> try rfl
 cases firstE (smpE start smps) 0 smps != 0 <;> cases firstE (lapE (spanD smps) laps) 0 laps != 0 <;> cases h3 : firstE (tagE tags) 0 tags != 0 <;> first | rfl | (simp only [bne_eq_false_iff_eq] at h3; simp [h3])
end
end Go.Proofs.Ytnnofignhdijiaa

/-! Plain laws: record.Same and its reference. -/
namespace Go.Proofs.Ytnnofignhdijiaa
open Go Go.AM
set_option maxRecDepth 100000
set_option maxHeartbeats 4000000
variable {N : Nat}
def zipAll (f : D → D → Bool) : List D → List D → Bool
 | x :: r, y :: s => f x y && zipAll f r s
 | _, _ => true
def eqL (f : D → D → Bool) (xs ys : List D) : Bool := (xs.length == ys.length) && zipAll f xs ys
theorem zip_ind {xs ys : List D} (f : D → D → Bool) {S : Int → (Int → Option (Sum Unit Unit)) → Option (Sum Unit Unit)} {L : Nat → Int → Option (Sum Unit Unit)} (hL : ∀ m a, L (m + 1) a = S a (L m)) (hlen : xs.length ≤ maxLen) (hxy : xs.length = ys.length)
  (hend : ∀ kr, S xs.length kr = some (.inr ()))
  (hstep : ∀ (w : Int) (kr : Int → Option (Sum Unit Unit)), decide (w < xs.length) = true → inB w xs.length = true → inB w ys.length = true → S w kr = bif f (xs.getD w.toNat (.i 0)) (ys.getD w.toNat (.i 0)) then kr (IntKind.wrap .i64 (w + 1)) else some (.inl ()))
  (hN : maxLen < N) : L N 0 = some (bif zipAll f xs ys then .inr () else .inl ()) := by
 refine (for_ind (.i 0 : D) hL (fun w l => some (bif zipAll f l (ys.drop w.toNat) then .inr () else .inl ())) hlen ?_ ?_ hN).trans (by simp)
 ·intro kr; rw [hend]; simp [zipAll]
 ·intro w kr h0 h1 hw hi hk
  have h2 : w < ys.length := by omega
  rw [hstep w kr (decide_eq_true h1) hi (inB_of h0 (by omega)), hw, hk, drop_at (.i 0) (xs := ys) h0 h2]
  simp only [zipAll]
  cases f (xs.getD w.toNat (.i 0)) (ys.getD w.toNat (.i 0)) <;> rfl
def eqSm (x y : D) : Bool := ((x.cell 0).toI == (y.cell 0).toI) && (((x.cell 1).toI == (y.cell 1).toI) && (((x.cell 2).toI == (y.cell 2).toI) && (((x.cell 3).toI == (y.cell 3).toI) && (((x.cell 4).toI == (y.cell 4).toI) && (((x.cell 5).toI == (y.cell 5).toI) && (((x.cell 6).toI == (y.cell 6).toI) && true))))))
def eqLp (x y : D) : Bool := ((x.cell 0).toI == (y.cell 0).toI) && (((x.cell 1).toI == (y.cell 1).toI) && (((x.cell 2).toS == (y.cell 2).toS) && true))
def eqSt (x y : D) : Bool := x.toS == y.toS
section
variable {xs ys : List D}
theorem G60x0x12_eq (hN : maxLen < N) (hl : xs.length ≤ maxLen) (h : xs.length = ys.length) : G60x0x12 N xs ys xs.length 0 = some (bif zipAll eqSm xs ys then .inr () else .inl ()) := by
 unfold G60x0x12
 refine zip_ind eqSm (S := fun w kr => S60x0x12 N xs ys xs.length w kr _ _) (L := fun m w => L60x0x12 N xs ys xs.length m w _ _) (fun m w => rfl) hl h (fun kr => by simp [S60x0x12]) (fun w kr h1 h2 h3 => ?_) hN
 unfold S60x0x12
 rw [h1, h2, h3]
 show (bif !(eqSm _ _) then _ else _) = _
 cases eqSm (xs.getD w.toNat (.i 0)) (ys.getD w.toNat (.i 0)) <;> rfl
theorem G61x0x12_eq (hN : maxLen < N) (hl : xs.length ≤ maxLen) (h : xs.length = ys.length) : G61x0x12 N xs ys xs.length 0 = some (bif zipAll eqLp xs ys then .inr () else .inl ()) := by
 unfold G61x0x12
 refine zip_ind eqLp (S := fun w kr => S61x0x12 N xs ys xs.length w kr _ _) (L := fun m w => L61x0x12 N xs ys xs.length m w _ _) (fun m w => rfl) hl h (fun kr => by simp [S61x0x12]) (fun w kr h1 h2 h3 => ?_) hN
 unfold S61x0x12
 rw [h1, h2, h3]
 show (bif !(eqLp _ _) then _ else _) = _
 cases eqLp (xs.getD w.toNat (.i 0)) (ys.getD w.toNat (.i 0)) <;> rfl
theorem G62x0x12_eq (hN : maxLen < N) (hl : xs.length ≤ maxLen) (h : xs.length = ys.length) : G62x0x12 N xs ys xs.length 0 = some (bif zipAll eqSt xs ys then .inr () else .inl ()) := by
 unfold G62x0x12
 refine zip_ind eqSt (S := fun w kr => S62x0x12 N xs ys xs.length w kr _ _) (L := fun m w => L62x0x12 N xs ys xs.length m w _ _) (fun m w => rfl) hl h (fun kr => by simp [S62x0x12]) (fun w kr h1 h2 h3 => ?_) hN
 unfold S62x0x12
 rw [h1, h2, h3]
 show (bif !(eqSt _ _) then _ else _) = _
 cases eqSt (xs.getD w.toNat (.i 0)) (ys.getD w.toNat (.i 0)) <;> rfl
theorem len_bne : ((xs.length : Int) != (ys.length : Int)) = !(xs.length == ys.length) := by
 rw [Bool.eq_iff_iff]; simp; omega
theorem G60x0_eq (hN : maxLen < N) (hl : xs.length ≤ maxLen) : G60x0 N xs ys = some (eqL eqSm xs ys) := by
 unfold G60x0 F60x0 eqL
 rw [len_bne]
 cases h : (xs.length == ys.length) with
 | false => rfl
 | true =>
  rw [G60x0x12_eq hN hl (by simpa using h)]
  cases zipAll eqSm xs ys <;> rfl
theorem G61x0_eq (hN : maxLen < N) (hl : xs.length ≤ maxLen) : G61x0 N xs ys = some (eqL eqLp xs ys) := by
 unfold G61x0 F61x0 eqL
 rw [len_bne]
 cases h : (xs.length == ys.length) with
 | false => rfl
 | true =>
  rw [G61x0x12_eq hN hl (by simpa using h)]
  cases zipAll eqLp xs ys <;> rfl
theorem G62x0_eq (hN : maxLen < N) (hl : xs.length ≤ maxLen) : G62x0 N xs ys = some (eqL eqSt xs ys) := by
 unfold G62x0 F62x0 eqL
 rw [len_bne]
 cases h : (xs.length == ys.length) with
 | false => rfl
 | true =>
  rw [G62x0x12_eq hN hl (by simpa using h)]
  cases zipAll eqSt xs ys <;> rfl
theorem G16x0x12_eq (hN : maxLen < N) (hl : xs.length ≤ maxLen) (h : xs.length = ys.length) : G16x0x12 N xs.length xs ys 0 = some (bif zipAll eqSm xs ys then .inr () else .inl ()) := by
 unfold G16x0x12
 refine zip_ind eqSm (S := fun w kr => S16x0x12 N xs.length xs ys w kr _ _) (L := fun m w => L16x0x12 N xs.length xs ys m w _ _) (fun m w => rfl) hl h (fun kr => by simp [S16x0x12]) (fun w kr h1 h2 h3 => ?_) hN
 unfold S16x0x12
 rw [h1, h2, h3]
 show (bif !(eqSm _ _) then _ else _) = _
 cases eqSm (xs.getD w.toNat (.i 0)) (ys.getD w.toNat (.i 0)) <;> rfl
theorem G16x0x30_eq (hN : maxLen < N) (hl : xs.length ≤ maxLen) (h : xs.length = ys.length) : G16x0x30 N xs.length xs ys 0 = some (bif zipAll eqLp xs ys then .inr () else .inl ()) := by
 unfold G16x0x30
 refine zip_ind eqLp (S := fun w kr => S16x0x30 N xs.length xs ys w kr _ _) (L := fun m w => L16x0x30 N xs.length xs ys m w _ _) (fun m w => rfl) hl h (fun kr => by simp [S16x0x30]) (fun w kr h1 h2 h3 => ?_) hN
 unfold S16x0x30
 rw [h1, h2, h3]
 show (bif !(eqLp _ _) then _ else _) = _
 cases eqLp (xs.getD w.toNat (.i 0)) (ys.getD w.toNat (.i 0)) <;> rfl
theorem G16x0x48_eq (hN : maxLen < N) (hl : xs.length ≤ maxLen) (h : xs.length = ys.length) : G16x0x48 N xs.length xs ys 0 = some (bif zipAll eqSt xs ys then .inr () else .inl ()) := by
 unfold G16x0x48
 refine zip_ind eqSt (S := fun w kr => S16x0x48 N xs.length xs ys w kr _ _) (L := fun m w => L16x0x48 N xs.length xs ys m w _ _) (fun m w => rfl) hl h (fun kr => by simp [S16x0x48]) (fun w kr h1 h2 h3 => ?_) hN
 unfold S16x0x48
 rw [h1, h2, h3]
 show (bif !(eqSt _ _) then _ else _) = _
 cases eqSt (xs.getD w.toNat (.i 0)) (ys.getD w.toNat (.i 0)) <;> rfl
end
/-- Two activities are the same. -/
def sameA (n : List UInt8) (sp st : Int) (s l t : List D) (n' : List UInt8) (sp' st' : Int) (s' l' t' : List D) : Bool :=
 (n == n') && (sp == sp') && (st == st') && eqL eqSm s s' && eqL eqLp l l' && eqL eqSt t t'
section
variable {n n' : List UInt8} {sp st sp' st' : Int} {s l t s' l' t' : List D}
theorem G15x0_eq (hN : maxLen < N) (hs : s.length ≤ maxLen) (hl : l.length ≤ maxLen) (ht : t.length ≤ maxLen) : G15x0 N n sp st s l t n' sp' st' s' l' t' = some (sameA n sp st s l t n' sp' st' s' l' t') := by
 unfold G15x0 F15x0 G15x0x4 F15x0x4
 simp only [bnd_eq, G60x0_eq hN hs, G61x0_eq hN hl, G62x0_eq hN ht, Option.isSome_some, _root_.cond_true, getD_some]
 unfold sameA
 cases n == n' <;> cases sp == sp' <;> cases st == st' <;> cases eqL eqSm s s' <;> cases eqL eqLp l l' <;> cases eqL eqSt t t' <;> rfl
theorem G16x0_eq (hN : maxLen < N) (hs : s.length ≤ maxLen) (hl : l.length ≤ maxLen) (ht : t.length ≤ maxLen) : G16x0 N n sp st s l t n' sp' st' s' l' t' = some (sameA n sp st s l t n' sp' st' s' l' t') := by
 unfold G16x0 F16x0
 have e1 : (sp != sp') = !(sp == sp') := rfl
 have e2 : (st != st') = !(st == st') := rfl
 simp only [bnd_eq, len_bne, e1, e2]
 unfold sameA eqL
 cases h1 : (s.length == s'.length) with
 | false => cases n == n' <;> cases sp == sp' <;> cases st == st' <;> rfl
 | true =>
 cases h2 : (l.length == l'.length) with
 | false => cases n == n' <;> cases sp == sp' <;> cases st == st' <;> cases zipAll eqSm s s' <;> rfl
 | true =>
 cases h3 : (t.length == t'.length) with
 | false => cases n == n' <;> cases sp == sp' <;> cases st == st' <;> cases zipAll eqSm s s' <;> cases zipAll eqLp l l' <;> rfl
 | true =>
 rw [G16x0x12_eq hN hs (by simpa using h1), G16x0x30_eq hN hl (by simpa using h2), G16x0x48_eq hN ht (by simpa using h3)]
 cases n == n' <;> cases sp == sp' <;> cases st == st' <;> cases zipAll eqSm s s' <;> cases zipAll eqLp l l' <;> cases zipAll eqSt t t' <;> rfl
theorem zipAll_refl {f : D → D → Bool} (hf : ∀ x, f x x = true) : ∀ l, zipAll f l l = true
 | [] => rfl
 | x :: r => by simp only [zipAll, hf, zipAll_refl hf r, Bool.and_self]
theorem eqL_refl {f : D → D → Bool} (hf : ∀ x, f x x = true) (l : List D) : eqL f l l = true := by
 unfold eqL; rw [zipAll_refl hf]; simp
theorem sameA_refl : sameA n sp st s l t n sp st s l t = true := by
 unfold sameA
 rw [eqL_refl (fun x => by simp [eqSm]), eqL_refl (fun x => by simp [eqLp]), eqL_refl (fun x => by simp [eqSt])]
 simp
end
end Go.Proofs.Ytnnofignhdijiaa

namespace Go.Proofs.Ytnnofignhdijiaa
open Go Go.AM
set_option maxRecDepth 100000
set_option maxHeartbeats 4000000
theorem told_ok : G17x0 18446744073709551616 = some true := by kernel_rfl
/-- A law's activity, typed. -/
theorem kinds26 : kinds Try.prog 26 = [.str, .int .i64, .int .i64, .sl 78, .sl 82, .sl 9] := by kernel_rfl
theorem kinds82 : kinds Try.prog 82 = [.int .i64, .int .i64, .str] := by kernel_rfl
theorem kinds9 : kinds Try.prog 9 = [.str] := by kernel_rfl
theorem lap_ok {m : Nat} {x : D} (h : TyEl Try.prog (TyK Try.prog (m + 1)) 82 x) : (x.cell 2).toS.length ≤ maxLen := by
 unfold TyEl at h
 have : isAggB Try.prog 82 = true := by kernel_rfl
 rw [if_pos this, kinds82] at h
 obtain ⟨cs, rfl, hc⟩ := h
 obtain ⟨_, _, rfl, _, hc⟩ := all2_cons hc
 obtain ⟨_, _, rfl, _, hc⟩ := all2_cons hc
 obtain ⟨_, _, rfl, h2, _⟩ := all2_cons hc
 obtain ⟨s, rfl, hl⟩ := h2
 exact hl
theorem tag_ok {m : Nat} {x : D} (h : TyEl Try.prog (TyK Try.prog (m + 1)) 9 x) : x.toS.length ≤ maxLen := by
 unfold TyEl at h
 have : isAggB Try.prog 9 = false := by kernel_rfl
 rw [if_neg (by rw [this]; simp), kinds9] at h
 obtain ⟨k, hk, h⟩ := h
 simp only [List.cons.injEq, and_true] at hk
 subst hk
 obtain ⟨s, rfl, hl⟩ := h
 exact hl
theorem arg26 {ds : List D} (h : ArgOk Try.prog 6 26 ds) : ∃ name sport start a smps b laps c tags, ds = [.s name, .i sport, .i start, .l a smps, .l b laps, .l c tags] ∧ ActOk name smps laps tags := by
 unfold ArgOk at h
 rw [kinds26] at h
 obtain ⟨_, _, rfl, h0, h⟩ := all2_cons h
 obtain ⟨_, _, rfl, h1, h⟩ := all2_cons h
 obtain ⟨_, _, rfl, h2, h⟩ := all2_cons h
 obtain ⟨_, _, rfl, h3, h⟩ := all2_cons h
 obtain ⟨_, _, rfl, h4, h⟩ := all2_cons h
 obtain ⟨_, _, rfl, h5, h⟩ := all2_cons h
 obtain rfl := all2_nil h
 obtain ⟨name, rfl, hn⟩ := ty_str (m := 5) h0
 obtain ⟨sport, rfl, _⟩ := ty_int (m := 5) h1
 obtain ⟨start, rfl, _⟩ := ty_int (m := 5) h2
 obtain ⟨a, smps, rfl, _, l1, _⟩ := ty_sl (m := 5) h3
 obtain ⟨b, laps, rfl, _, l2, e2⟩ := ty_sl (m := 5) h4
 obtain ⟨c, tags, rfl, _, l3, e3⟩ := ty_sl (m := 5) h5
 exact ⟨name, sport, start, a, smps, b, laps, c, tags, rfl, hn, l1, l2, l3, fun x hx => lap_ok (e2 x hx), fun x hx => tag_ok (e3 x hx)⟩
theorem law3 {n n' : List UInt8} {sp st sp' st' : Int} {s l t s' l' t' : List D} (h : ActOk n s l t) : G3x0 18446744073709551616 n sp st s l t n' sp' st' s' l' t' = some true := by
 have hN : maxLen < 18446744073709551616 := by decide
 unfold G3x0 F3x0 G3x0x4 F3x0x4
 simp only [bnd_eq, G13x0_eq hN h, G14x0_eq hN h, G15x0_eq hN h.s h.l h.t, G16x0_eq hN h.s h.l h.t, Option.isSome_some, _root_.cond_true, getD_some, beq_self_eq_true, sameA_refl, told_ok]
theorem Try.own : ownKnob Try.prog.godebug = none := by kernel_rfl
theorem Try.laidOut : laidOutB Try.prog = true := by kernel_rfl
theorem call3 (dss : List (List D)) (h : All2 (ArgOk Try.prog 6) Try.f3.params.toList dss) : CallOk Try.prog 3 (argVs Try.prog Try.f3.params.toList dss) [] ([.c (.b true)], []) := by
 have hp : Try.f3.params.toList = [26, 26] := by kernel_rfl
 rw [hp] at h ⊢
 match dss, h with
 | [d0, d1], ⟨h0, h1, _⟩ =>
  obtain ⟨n, sp, st, a, s, b, l, c, t, rfl, ho⟩ := arg26 h0
  obtain ⟨n', sp', st', a', s', b', l', c', t', rfl, _⟩ := arg26 h1
  refine ok3x0 18446744073709551616 _ _ (A3x0 18446744073709551616 [.s n, .i sp, .i st, .b a, .l s, .b b, .l l, .b c, .l t, .s n', .i sp', .i st', .b a', .l s', .b b', .l l', .b c', .l t']) (by kernel_rfl) _ ?_
  have e : A3x0 18446744073709551616 [.s n, .i sp, .i st, .b a, .l s, .b b, .l l, .b c, .l t, .s n', .i sp', .i st', .b a', .l s', .b b', .l l', .b c', .l t'] = bnd (G3x0 18446744073709551616 n sp st s l t n' sp' st' s' l' t') fun q => [(q.isSome, ([.c (.b (q.getD default))], []))] := by kernel_rfl
  rw [e, law3 ho]
  rfl
theorem check_lifted (os : Os) (started : os.Started) (H : Type) (enc : TypeId × Value → H) :
  ReturnsInHanded {} Try.checked os 3 .any (Rows.recordCheckMatchesSpecSpec.pre6 enc Try.prog Try.f3 Rows.recordCheckMatchesSpecRow.domain false) (Rows.recordCheckMatchesSpecSpec.post enc Try.prog Try.f3 false true false false) := by
 refine returnsInHanded_of_change (C := Try.checked) Try.own started (by kernel_rfl) Try.func3
  (ChangeSpec.witness6 (enc := enc) (C := Try.checked) false ⟨#[], #[.agg #[.string ⟨#[]⟩, .int .i64 0, .int .i64 0, .slice none 0 0, .slice none 0 0, .slice none 0 0], .agg #[.string ⟨#[]⟩, .int .i64 0, .int .i64 0, .slice none 0 0, .slice none 0 0, .slice none 0 0]], []⟩ 8 (by kernel_rfl) (by kernel_rfl) (by kernel_rfl) (by kernel_rfl)) ?_
 intro W base args ds gs before hval hW _ _
 exact law_call (m := 6) (tb := 4) Try.laidOut rfl (by kernel_rfl) (by kernel_rfl) (by kernel_rfl) (fun l hl => by
  rw [show Try.f3.params.size = 2 by kernel_rfl] at hl
  match l, hl with
  | [_, _], _ => rfl) call3 hval hW
theorem check_holds : Rows.RecordCheckMatchesSpecSaid :=
 OpenClaim.holds_of_wide 3 Try.f3 rfl rfl rfl rfl rfl rfl rfl ⟨rfl, rfl, rfl, rfl, rfl⟩ rfl rfl rfl rfl rfl (by kernel_rfl) Try.func3 (by kernel_rfl)
  (of_decide_eq_true (by kernel_rfl)) (by unfold Func.isWrapper; first | (rw [if_pos (by decide +kernel)]; kernel_rfl) | (rw [if_neg (by decide +kernel)]; exact ⟨rfl, rfl⟩))
  (fun os started H enc _ => check_lifted os started H enc)
end Go.Proofs.Ytnnofignhdijiaa

