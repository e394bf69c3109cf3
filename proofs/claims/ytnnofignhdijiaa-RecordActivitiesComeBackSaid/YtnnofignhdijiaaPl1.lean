/- A part of a proof of a law: lemmas. Conditions: those of each lemma. -/
import Derived.Test.YtnnofignhdijiaaRPp2
import Derived.KernelRfl
set_option linter.all false
set_option maxRecDepth 100000
/-! Plain laws: record.Check, record.Same and their references (the numbers are those of the seat of chapter 2). -/
namespace Go.Proofs.Ytnnofignhdijiaa
open Go Go.AM
set_option maxRecDepth 100000
set_option maxHeartbeats 4000000
variable {N : Nat}
/-! ### Names, ranges -/
def ltr (n : Int) : Bool := decide (97 ≤ n ∧ n ≤ 122 ∨ 65 ≤ n ∧ n ≤ 90 ∨ 48 ≤ n ∧ n ≤ 57 ∨ n = 45 ∨ n = 95 ∨ n = 46)
def nameB (s : List UInt8) : Bool := s.all (fun c => ltr (c.toNat : Int)) && decide (1 ≤ s.length ∧ s.length ≤ 60)
def titleB (s : List UInt8) : Bool := s.all (fun c => decide (32 ≤ (c.toNat : Int) ∧ (c.toNat : Int) ≤ 126)) && decide (s.length ≤ 60)
def inI (n a b : Int) : Bool := decide (a ≤ n ∧ n ≤ b)
theorem G56x0x6_eq (hN : maxLen < N) {s : List UInt8} (hs : s.length ≤ maxLen) : G56x0x6 N s 0 = some (bif s.all (fun c => ltr (c.toNat : Int)) then .inr () else .inl ()) := by
 unfold G56x0x6
 refine (for_ind (0 : UInt8) (S := fun w kr => S56x0x6 N s w kr _ _) (L := fun m w => L56x0x6 N s m w _ _) (fun m w => rfl) (fun _ l => some (bif l.all (fun c => ltr (c.toNat : Int)) then .inr () else .inl ())) hs ?_ ?_ hN).trans rfl
 ·intro kr; simp [S56x0x6]
 ·intro w kr h0 h1 hw hi hk
  simp only [S56x0x6, decide_eq_true h1, _root_.cond_true, hi, bnd_eq, hw, hk, List.all_cons]
  generalize ((s.getD w.toNat 0).toNat : Int) = n
  refine (cond_congr (c' := !ltr n) ?_).trans ?_
  ·rw [Bool.eq_iff_iff]; simp [ltr]; omega
  ·cases ltr n <;> rfl
theorem G56x0_eq (hN : maxLen < N) {s : List UInt8} (hs : s.length ≤ maxLen) : G56x0 N s = some (nameB s) := by
 unfold G56x0 F56x0
 rw [G56x0x6_eq hN hs]
 unfold nameB
 cases s.all (fun c => ltr (c.toNat : Int)) with
 | false => rfl
 | true =>
  simp only [bnd_eq, inlB_inr, inrQ_inr, _root_.cond_true, _root_.cond_false, Option.isSome_some, Bool.true_and]
  congr 1
  rw [Bool.eq_iff_iff]; simp; omega
theorem G51x0x6_eq (hN : maxLen < N) {s : List UInt8} (hs : s.length ≤ maxLen) : G51x0x6 N s s.length 0 = some (bif s.all (fun c => ltr (c.toNat : Int)) then .inr () else .inl ()) := by
 unfold G51x0x6
 refine (for_ind (0 : UInt8) (S := fun w kr => S51x0x6 N s s.length w kr _ _) (L := fun m w => L51x0x6 N s s.length m w _ _) (fun m w => rfl) (fun _ l => some (bif l.all (fun c => ltr (c.toNat : Int)) then .inr () else .inl ())) hs ?_ ?_ hN).trans rfl
 ·intro kr; simp [S51x0x6]
 ·intro w kr h0 h1 hw hi hk
  simp only [S51x0x6, decide_eq_true h1, _root_.cond_true, hi, bnd_eq, hw, hk, List.all_cons, V51x0x19, F51x0x19, V119x0, F119x0]
  generalize ((s.getD w.toNat 0).toNat : Int) = n
  refine (cond_congr (c' := !ltr n) ?_).trans ?_
  ·rw [Bool.eq_iff_iff]; simp [ltr]; omega
  ·cases ltr n <;> rfl
theorem G51x0_eq (hN : maxLen < N) {s : List UInt8} (hs : s.length ≤ maxLen) : G51x0 N s = some (nameB s) := by
 unfold G51x0 F51x0
 rw [G51x0x6_eq hN hs]
 unfold nameB
 cases s.all (fun c => ltr (c.toNat : Int)) with
 | false => rfl
 | true =>
  simp only [bnd_eq, inlB_inr, inrQ_inr, _root_.cond_true, _root_.cond_false, Option.isSome_some, Bool.true_and]
  congr 1
  rw [Bool.eq_iff_iff]; simp; omega
theorem V52x0_eq (n a b : Int) : V52x0 N n a b = inI n a b := by
 unfold V52x0 F52x0 inI
 rw [Bool.eq_iff_iff]; simp
theorem V57x0_eq (n a b : Int) : V57x0 N n a b = !inI n a b := by
 unfold V57x0 F57x0 inI
 rw [Bool.eq_iff_iff]; simp <;> omega
theorem wrapByte (c : UInt8) : IntKind.wrap .i64 (c.toNat : Int) = c.toNat := wrapI (by omega) (by have := c.toNat_lt; omega)
theorem G55x0_eq (hN : maxLen < N) {s : List UInt8} (hs : s.length ≤ maxLen) : G55x0 N s = some (titleB s) := by
 have h : G55x0x6 N s s.length 0 = some (bif s.all (fun c => decide (32 ≤ (c.toNat : Int) ∧ (c.toNat : Int) ≤ 126)) then .inr () else .inl ()) := by
  unfold G55x0x6
  refine (for_ind (0 : UInt8) (S := fun w kr => S55x0x6 N s s.length w kr _ _) (L := fun m w => L55x0x6 N s s.length m w _ _) (fun m w => rfl) (fun _ l => some (bif l.all (fun c => decide (32 ≤ (c.toNat : Int) ∧ (c.toNat : Int) ≤ 126)) then .inr () else .inl ())) hs ?_ ?_ hN).trans rfl
  ·intro kr; simp [S55x0x6]
  ·intro w kr h0 h1 hw hi hk
   simp only [S55x0x6, decide_eq_true h1, _root_.cond_true, hi, bnd_eq, hw, hk, List.all_cons, wrapByte, V52x0_eq, inI]
   cases decide (32 ≤ ((s.getD w.toNat 0).toNat : Int) ∧ ((s.getD w.toNat 0).toNat : Int) ≤ 126) <;> rfl
 unfold G55x0 F55x0
 rw [h]
 unfold titleB
 cases s.all (fun c => decide (32 ≤ (c.toNat : Int) ∧ (c.toNat : Int) ≤ 126)) with
 | false => rfl
 | true =>
  simp only [bnd_eq, inlB_inr, inrQ_inr, _root_.cond_true, _root_.cond_false, Option.isSome_some, Bool.true_and]
  congr 1
  rw [Bool.eq_iff_iff]; simp; omega
theorem G59x0x21_eq (hN : maxLen < N) {s : List UInt8} (hs : s.length ≤ maxLen) : G59x0x21 N s 0 = some (bif s.all (fun c => decide (32 ≤ (c.toNat : Int) ∧ (c.toNat : Int) ≤ 126)) then .inr () else .inl ()) := by
 unfold G59x0x21
 refine (for_ind (0 : UInt8) (S := fun w kr => S59x0x21 N s w kr _ _) (L := fun m w => L59x0x21 N s m w _ _) (fun m w => rfl) (fun _ l => some (bif l.all (fun c => decide (32 ≤ (c.toNat : Int) ∧ (c.toNat : Int) ≤ 126)) then .inr () else .inl ())) hs ?_ ?_ hN).trans rfl
 ·intro kr; simp [S59x0x21]
 ·intro w kr h0 h1 hw hi hk
  simp only [S59x0x21, decide_eq_true h1, _root_.cond_true, hi, bnd_eq, hw, hk, List.all_cons, wrapByte, V57x0_eq, inI]
  cases decide (32 ≤ ((s.getD w.toNat 0).toNat : Int) ∧ ((s.getD w.toNat 0).toNat : Int) ≤ 126) <;> rfl
/-! ### The first fault -/
def firstE (e : Int → Int) : Int → List D → Int
 | _, [] => 0
 | w, _ :: r => bif e w != 0 then e w else firstE e (w + 1) r
def wayE (n : Int) : Sum Int Unit := bif n != 0 then .inl n else .inr ()
theorem wayE_cons {e : Int → Int} {w : Int} {x : D} {l : List D} : wayE (firstE e w (x :: l)) = bif e w != 0 then .inl (e w) else wayE (firstE e (w + 1) l) := by
 simp only [firstE]
 cases h : e w != 0 with
 | true => simp only [_root_.cond_true, wayE, h]
 | false => rfl
/-- Is the moment of sample w not behind that of the one before? -/
def ordE (xs : List D) (w : Int) : Bool := bif w == 0 then ((xs.getD w.toNat (.i 0)).cell 0).toI != 0 else decide (((xs.getD w.toNat (.i 0)).cell 0).toI ≤ ((xs.getD (w - 1).toNat (.i 0)).cell 0).toI)
def rngB (s : D) : Bool := inI (s.cell 1).toI (-100000000) 100000000 && inI (s.cell 2).toI (-100000000) 100000000 && inI (s.cell 3).toI (-100000) 100000 && inI (s.cell 4).toI (-1) 300 && inI (s.cell 5).toI (-1) 3000 && inI (s.cell 6).toI (-1) 300
def farB (start : Int) (s : D) : Bool := decide ((s.cell 0).toI > 1000000) || decide (IntKind.wrap .i64 (start + (s.cell 0).toI) > 86399999999)
def smpE (start : Int) (xs : List D) (w : Int) : Int := bif ordE xs w then 10 else bif farB start (xs.getD w.toNat (.i 0)) || !rngB (xs.getD w.toNat (.i 0)) then 9 else 0
section
variable {xs : List D} {w : Int}
theorem prev_of (h0 : 0 ≤ w) (h1 : w < xs.length) (hl : xs.length ≤ maxLen) (hp : w ≠ 0) : IntKind.wrap .i64 (w - 1) = w - 1 ∧ inB (w - 1) xs.length = true := by
 have hm : maxLen = 9223372036854775807 := rfl
 exact ⟨wrapI (by omega) (by omega), inB_of (by omega) (by omega)⟩
theorem ord13 (h0 : 0 ≤ w) (h1 : w < xs.length) (hl : xs.length ≤ maxLen) : G13x0x39002 N w (bif (w == 0) then (((xs.getD w.toNat (.i 0)).cell 0).toI != 0) else false) xs ((xs.getD w.toNat (.i 0)).cell 0).toI = some (ordE xs w) := by
 unfold G13x0x39002 F13x0x39002 G13x0x40 F13x0x40 ordE
 by_cases hw : w = 0
 ·subst hw
  rw [decide_eq_false (by omega : ¬ ((0 : Int) > 0))]
  simp only [beq_self_eq_true, _root_.cond_true]
  cases (((xs.getD (0 : Int).toNat (.i 0)).cell 0).toI != 0) <;> rfl
 ·obtain ⟨e1, e2⟩ := prev_of h0 h1 hl hw
  have : (w == 0) = false := by simpa using hw
  rw [this, decide_eq_true (by omega : w > 0), e1, e2]
  rfl
theorem ord58 (h0 : 0 ≤ w) (h1 : w < xs.length) (hl : xs.length ≤ maxLen) : G58x0x7 N w xs ((xs.getD w.toNat (.i 0)).cell 0).toI = some (ordE xs w) := by
 unfold G58x0x7 F58x0x7 ordE
 by_cases hw : w = 0
 ·subst hw
  rw [decide_eq_false (by omega : ¬ ((0 : Int) > 0))]
  simp only [beq_self_eq_true, _root_.cond_true]
  cases (((xs.getD (0 : Int).toNat (.i 0)).cell 0).toI != 0) <;> rfl
 ·obtain ⟨e1, e2⟩ := prev_of h0 h1 hl hw
  have : (w == 0) = false := by simpa using hw
  rw [this, decide_eq_true (by omega : w > 0), e1, e2]
  rfl
theorem far13 (start : Int) (s : D) : V13x0x46 N start (s.cell 0).toI (s.cell 1).toI (s.cell 2).toI (s.cell 3).toI (s.cell 4).toI (s.cell 5).toI (s.cell 6).toI = (farB start s || !rngB s) := by
 unfold V13x0x46 F13x0x46 V53x0 F53x0 V53x0x4 F53x0x4 V53x0x7 F53x0x7 farB rngB
 simp only [bnd_eq, V52x0_eq]
 cases decide ((s.cell 0).toI > 1000000) <;> cases decide (IntKind.wrap .i64 (start + (s.cell 0).toI) > 86399999999) <;> cases inI (s.cell 1).toI (-100000000) 100000000 <;> cases inI (s.cell 2).toI (-100000000) 100000000 <;> cases inI (s.cell 3).toI (-100000) 100000 <;> cases inI (s.cell 4).toI (-1) 300 <;> cases inI (s.cell 5).toI (-1) 3000 <;> cases inI (s.cell 6).toI (-1) 300 <;> rfl
theorem G13x0x30_eq (hN : maxLen < N) (start : Int) (hl : xs.length ≤ maxLen) : G13x0x30 N xs xs.length start xs 0 = some (wayE (firstE (smpE start xs) 0 xs)) := by
 unfold G13x0x30
 refine (for_ind (.i 0 : D) (S := fun w kr => S13x0x30 N xs xs.length start xs w kr _ _) (L := fun m w => L13x0x30 N xs xs.length start xs m w _ _) (fun m w => rfl) (fun w l => some (wayE (firstE (smpE start xs) w l))) hl ?_ ?_ hN).trans rfl
 ·intro kr; simp [S13x0x30, firstE, wayE]
 ·intro w kr h0 h1 hw hi hk
  simp only [S13x0x30, decide_eq_true h1, _root_.cond_true, hi, bnd_eq, hw, hk, ord13 h0 h1 hl, Option.isSome_some, getD_some, far13, wayE_cons]
  unfold smpE
  cases ordE xs w with
  | true => rfl
  | false => cases (farB start (xs.getD w.toNat (.i 0)) || !rngB (xs.getD w.toNat (.i 0))) <;> rfl
theorem G58x0_eq (start : Int) (h0 : 0 ≤ w) (h1 : w < xs.length) (hl : xs.length ≤ maxLen) : G58x0 N start xs w = some (smpE start xs w) := by
 unfold G58x0 F58x0
 rw [inB_of h0 h1, ord58 h0 h1 hl]
 unfold smpE V58x0x19 F58x0x19 V58x0x25 F58x0x25 farB rngB
 simp only [bnd_eq, _root_.cond_true, Option.isSome_some, getD_some, V57x0_eq]
 generalize xs.getD w.toNat (.i 0) = s
 cases ordE xs w <;> cases decide ((s.cell 0).toI > 1000000) <;> cases decide (IntKind.wrap .i64 (start + (s.cell 0).toI) > 86399999999) <;> cases inI (s.cell 1).toI (-100000000) 100000000 <;> cases inI (s.cell 2).toI (-100000000) 100000000 <;> cases inI (s.cell 3).toI (-100000) 100000 <;> cases inI (s.cell 4).toI (-1) 300 <;> cases inI (s.cell 5).toI (-1) 3000 <;> cases inI (s.cell 6).toI (-1) 300 <;> rfl
theorem G14x0x30_eq (hN : maxLen < N) (start : Int) (hl : xs.length ≤ maxLen) : G14x0x30 N xs.length start xs 0 = some (wayE (firstE (smpE start xs) 0 xs)) := by
 unfold G14x0x30
 refine (for_ind (.i 0 : D) (S := fun w kr => S14x0x30 N xs.length start xs w kr _ _) (L := fun m w => L14x0x30 N xs.length start xs m w _ _) (fun m w => rfl) (fun w l => some (wayE (firstE (smpE start xs) w l))) hl ?_ ?_ hN).trans rfl
 ·intro kr; simp [S14x0x30, firstE, wayE]
 ·intro w kr h0 h1 hw hi hk
  simp only [S14x0x30, decide_eq_true h1, _root_.cond_true, bnd_eq, hw, hk, G58x0_eq start h0 h1 hl, Option.isSome_some, getD_some, wayE_cons]
  cases smpE start xs w != 0 <;> rfl
/-! ### Laps -/
def spanD (xs : List D) : Int := bif decide ((xs.length : Int) > 0) then ((xs.getD ((xs.length : Int) - 1).toNat (.i 0)).cell 0).toI else 0
theorem G54x0_eq (hl : xs.length ≤ maxLen) : G54x0 N xs = some (spanD xs) := by
 have hm : maxLen = 9223372036854775807 := rfl
 unfold G54x0 F54x0 spanD
 by_cases h : (xs.length : Int) > 0
 ·rw [decide_eq_true h, wrapI (by omega) (by omega), inB_of (by omega) (by omega)]; rfl
 ·rw [decide_eq_false h]; rfl
theorem G111x0_eq (hl : xs.length ≤ maxLen) : G111x0 N xs = some (spanD xs) := by
 have hm : maxLen = 9223372036854775807 := rfl
 unfold G111x0 F111x0 spanD
 by_cases h : (xs.length : Int) > 0
 ·have : ((xs.length : Int) == 0) = false := by simp; intro h'; subst h'; simp at h
  rw [decide_eq_true h, this, wrapI (by omega) (by omega), inB_of (by omega) (by omega)]; rfl
 ·have : ((xs.length : Int) == 0) = true := by simp; exact List.eq_nil_of_length_eq_zero (by omega)
  rw [decide_eq_false h, this]; rfl
def lapO (xs : List D) (w : Int) : Bool := bif decide (w > 0) then decide (((xs.getD w.toNat (.i 0)).cell 0).toI < ((xs.getD (w - 1).toNat (.i 0)).cell 1).toI) else false
def lapR (span : Int) (s : D) : Bool := decide ((s.cell 0).toI < 0) || decide ((s.cell 0).toI ≥ (s.cell 1).toI) || decide ((s.cell 1).toI > span)
def lapE (span : Int) (xs : List D) (w : Int) : Int := bif lapR span (xs.getD w.toNat (.i 0)) then 9 else bif lapO xs w then 10 else bif titleB ((xs.getD w.toNat (.i 0)).cell 2).toS then 0 else 8
theorem lap13 (h0 : 0 ≤ w) (h1 : w < xs.length) (hl : xs.length ≤ maxLen) : G13x0x73 N w xs ((xs.getD w.toNat (.i 0)).cell 0).toI = some (lapO xs w) := by
 unfold G13x0x73 F13x0x73 lapO
 by_cases hw : w = 0
 ·subst hw; rfl
 ·obtain ⟨e1, e2⟩ := prev_of h0 h1 hl hw
  rw [decide_eq_true (by omega : w > 0), e1, e2]; rfl
theorem lap59 (h0 : 0 ≤ w) (h1 : w < xs.length) (hl : xs.length ≤ maxLen) : G59x0x13 N w xs ((xs.getD w.toNat (.i 0)).cell 0).toI = some (lapO xs w) := lap13 (N := N) h0 h1 hl
theorem G13x0x60_eq (hN : maxLen < N) (span : Int) (hl : xs.length ≤ maxLen) (hn : ∀ x ∈ xs, (x.cell 2).toS.length ≤ maxLen) : G13x0x60 N span xs xs.length xs 0 = some (wayE (firstE (lapE span xs) 0 xs)) := by
 unfold G13x0x60
 refine (for_ind (.i 0 : D) (S := fun w kr => S13x0x60 N span xs xs.length xs w kr _ _) (L := fun m w => L13x0x60 N span xs xs.length xs m w _ _) (fun m w => rfl) (fun w l => some (wayE (firstE (lapE span xs) w l))) hl ?_ ?_ hN).trans rfl
 ·intro kr; simp [S13x0x60, firstE, wayE]
 ·intro w kr h0 h1 hw hi hk
  have hmem : xs.getD w.toNat (.i 0) ∈ xs := by rw [List.getD_eq_getElem?_getD, List.getElem?_eq_getElem (by omega)]; exact List.getElem_mem _
  simp only [S13x0x60, decide_eq_true h1, _root_.cond_true, hi, bnd_eq, hw, hk, lap13 h0 h1 hl, G55x0_eq hN (hn _ hmem), Option.isSome_some, getD_some, wayE_cons]
  unfold lapE lapR
  generalize xs.getD w.toNat (.i 0) = s
  cases decide ((s.cell 0).toI < 0) <;> cases decide ((s.cell 0).toI ≥ (s.cell 1).toI) <;> cases decide ((s.cell 1).toI > span) <;> cases lapO xs w <;> cases titleB (s.cell 2).toS <;> rfl
theorem G59x0_eq (hN : maxLen < N) {smps : List D} (h0 : 0 ≤ w) (h1 : w < xs.length) (hl : xs.length ≤ maxLen) (hs : smps.length ≤ maxLen) (hn : ∀ x ∈ xs, (x.cell 2).toS.length ≤ maxLen) : G59x0 N smps xs w = some (lapE (spanD smps) xs w) := by
 have hmem : xs.getD w.toNat (.i 0) ∈ xs := by rw [List.getD_eq_getElem?_getD, List.getElem?_eq_getElem (by omega)]; exact List.getElem_mem _
 unfold G59x0 F59x0 G59x0x7 F59x0x7
 simp only [inB_of h0 h1, _root_.cond_true, bnd_eq, G111x0_eq hs, Option.isSome_some, getD_some, lap59 h0 h1 hl, G59x0x21_eq hN (hn _ hmem)]
 unfold lapE lapR titleB
 generalize xs.getD w.toNat (.i 0) = s
 have e3 : decide (((s.cell 2).toS.length : Int) > 60) = !decide ((s.cell 2).toS.length ≤ 60) := by rw [Bool.eq_iff_iff]; simp; omega
 rw [e3]
 cases decide ((s.cell 0).toI < 0) <;> cases decide ((s.cell 0).toI ≥ (s.cell 1).toI) <;> cases decide ((s.cell 1).toI > spanD smps) <;> cases lapO xs w <;> cases (s.cell 2).toS.all (fun c => decide (32 ≤ (c.toNat : Int) ∧ (c.toNat : Int) ≤ 126)) <;> cases decide ((s.cell 2).toS.length ≤ 60) <;> rfl
theorem G14x0x51_eq (hN : maxLen < N) {smps : List D} (hl : xs.length ≤ maxLen) (hs : smps.length ≤ maxLen) (hn : ∀ x ∈ xs, (x.cell 2).toS.length ≤ maxLen) : G14x0x51 N xs.length smps xs 0 = some (wayE (firstE (lapE (spanD smps) xs) 0 xs)) := by
 unfold G14x0x51
 refine (for_ind (.i 0 : D) (S := fun w kr => S14x0x51 N xs.length smps xs w kr _ _) (L := fun m w => L14x0x51 N xs.length smps xs m w _ _) (fun m w => rfl) (fun w l => some (wayE (firstE (lapE (spanD smps) xs) w l))) hl ?_ ?_ hN).trans rfl
 ·intro kr; simp [S14x0x51, firstE, wayE]
 ·intro w kr h0 h1 hw hi hk
  simp only [S14x0x51, decide_eq_true h1, _root_.cond_true, bnd_eq, hw, hk, G59x0_eq hN h0 h1 hl hs hn, Option.isSome_some, getD_some, wayE_cons]
  cases lapE (spanD smps) xs w != 0 <;> rfl
/-! ### Tags -/
def leS (a b : List UInt8) : Bool := Op.bytesLess a b || a == b
def tagO (xs : List D) (w : Int) : Bool := bif decide (w > 0) then leS (xs.getD w.toNat (.i 0)).toS (xs.getD (w - 1).toNat (.i 0)).toS else false
def tagE (xs : List D) (w : Int) : Int := bif nameB (xs.getD w.toNat (.i 0)).toS then (bif tagO xs w then 10 else 0) else 8
theorem tag_in (h0 : 0 ≤ w) (h1 : w < xs.length) (hl : xs.length ≤ maxLen) : (bif (inB (IntKind.wrap .i64 (w - 1)) xs.length) then true else (!((decide (w > 0)) == true))) = true ∧ (bif (decide (w > 0)) then ((Op.bytesLess (xs.getD w.toNat (.i 0)).toS (xs.getD (IntKind.wrap .i64 (w - 1)).toNat (.i 0)).toS) || ((xs.getD w.toNat (.i 0)).toS == (xs.getD (IntKind.wrap .i64 (w - 1)).toNat (.i 0)).toS)) else false) = tagO xs w := by
 unfold tagO leS
 by_cases hw : w = 0
 ·subst hw
  rw [decide_eq_false (by omega : ¬ ((0 : Int) > 0))]
  refine ⟨?_, rfl⟩
  cases inB (IntKind.wrap .i64 (0 - 1)) xs.length <;> rfl
 ·obtain ⟨e1, e2⟩ := prev_of h0 h1 hl hw
  rw [decide_eq_true (by omega : w > 0), e1, e2]
  exact ⟨rfl, rfl⟩
theorem G13x0x90_eq (hN : maxLen < N) (hl : xs.length ≤ maxLen) (hn : ∀ x ∈ xs, x.toS.length ≤ maxLen) : G13x0x90 N xs xs.length xs 0 = some (wayE (firstE (tagE xs) 0 xs)) := by
 unfold G13x0x90
 refine (for_ind (.i 0 : D) (S := fun w kr => S13x0x90 N xs xs.length xs w kr _ _) (L := fun m w => L13x0x90 N xs xs.length xs m w _ _) (fun m w => rfl) (fun w l => some (wayE (firstE (tagE xs) w l))) hl ?_ ?_ hN).trans rfl
 ·intro kr; simp [S13x0x90, firstE, wayE]
 ·intro w kr h0 h1 hw hi hk
  have hmem : xs.getD w.toNat (.i 0) ∈ xs := by rw [List.getD_eq_getElem?_getD, List.getElem?_eq_getElem (by omega)]; exact List.getElem_mem _
  obtain ⟨t1, t2⟩ := tag_in h0 h1 hl
  simp only [S13x0x90, decide_eq_true h1, _root_.cond_true, hi, bnd_eq, hw, hk, G51x0_eq hN (hn _ hmem), Option.isSome_some, getD_some, wayE_cons, t2]
  unfold tagE
  rw [t1]
  cases nameB (xs.getD w.toNat (.i 0)).toS <;> cases tagO xs w <;> rfl
theorem G14x0x72_eq (hN : maxLen < N) (hl : xs.length ≤ maxLen) (hn : ∀ x ∈ xs, x.toS.length ≤ maxLen) : G14x0x72 N xs xs.length xs 0 = some (wayE (firstE (tagE xs) 0 xs)) := by
 unfold G14x0x72
 refine (for_ind (.i 0 : D) (S := fun w kr => S14x0x72 N xs xs.length xs w kr _ _) (L := fun m w => L14x0x72 N xs xs.length xs m w _ _) (fun m w => rfl) (fun w l => some (wayE (firstE (tagE xs) w l))) hl ?_ ?_ hN).trans rfl
 ·intro kr; simp [S14x0x72, firstE, wayE]
 ·intro w kr h0 h1 hw hi hk
  have hmem : xs.getD w.toNat (.i 0) ∈ xs := by rw [List.getD_eq_getElem?_getD, List.getElem?_eq_getElem (by omega)]; exact List.getElem_mem _
  obtain ⟨t1, t2⟩ := tag_in h0 h1 hl
  simp only [S14x0x72, decide_eq_true h1, _root_.cond_true, hi, bnd_eq, hw, hk, G56x0_eq hN (hn _ hmem), Option.isSome_some, getD_some, wayE_cons, t2]
  unfold tagE
  rw [t1]
  cases nameB (xs.getD w.toNat (.i 0)).toS <;> cases tagO xs w <;> rfl
end
/-! ### Check -/
/-- What Check says of an activity. -/
def chkA (name : List UInt8) (sport start : Int) (smps laps tags : List D) : Int :=
 bif !nameB name then 8 else bif !inI sport 1 5 then 7 else bif !inI start 0 86399999999 then 9 else
 bif decide ((smps.length : Int) > 20000) || decide ((laps.length : Int) > 200) || decide ((tags.length : Int) > 20) then 3 else
 bif firstE (smpE start smps) 0 smps != 0 then firstE (smpE start smps) 0 smps else
 bif firstE (lapE (spanD smps) laps) 0 laps != 0 then firstE (lapE (spanD smps) laps) 0 laps else firstE (tagE tags) 0 tags
/-- An activity's lengths are possible. -/
structure ActOk (name : List UInt8) (smps laps tags : List D) : Prop where
 n : name.length ≤ maxLen
 s : smps.length ≤ maxLen
 l : laps.length ≤ maxLen
 t : tags.length ≤ maxLen
 ln : ∀ x ∈ laps, (x.cell 2).toS.length ≤ maxLen
 tn : ∀ x ∈ tags, x.toS.length ≤ maxLen
theorem way_do {α : Type} (n : Int) (k0 : Int → α) (k1 : α) (z : α) : (bif inlB (some (wayE n)) then k0 (inlV (some (wayE n))) else bif (inrQ (some (wayE n))).isSome then k1 else z) = bif n != 0 then k0 n else k1 := by
 unfold wayE
 cases n != 0 <;> rfl
section
variable {name : List UInt8} {sport start : Int} {smps laps tags : List D}
theorem G13x0_eq (hN : maxLen < N) (h : ActOk name smps laps tags) : G13x0 N name sport start smps laps tags = some (chkA name sport start smps laps tags) := by
 unfold G13x0 F13x0
 simp only [bnd_eq, G51x0_eq hN h.n, Option.isSome_some, _root_.cond_true, getD_some, V52x0_eq, G13x0x30_eq hN start h.s, G54x0_eq h.s, G13x0x60_eq hN _ h.l h.ln, G13x0x90_eq hN h.t h.tn, way_do]
 unfold chkA
 cases nameB name <;> cases inI sport 1 5 <;> cases inI start 0 86399999999 <;> cases decide ((smps.length : Int) > 20000) <;> cases decide ((laps.length : Int) > 200) <;> cases decide ((tags.length : Int) > 20) <;> try rfl
 cases firstE (smpE start smps) 0 smps != 0 <;> cases firstE (lapE (spanD smps) laps) 0 laps != 0 <;> cases h3 : firstE (tagE tags) 0 tags != 0 <;> first | rfl | (simp only [bne_eq_false_iff_eq] at h3; simp [h3])
theorem G14x0_eq (hN : maxLen < N) (h : ActOk name smps laps tags) : G14x0 N name sport start smps laps tags = some (chkA name sport start smps laps tags) := by
 unfold G14x0 F14x0
 simp only [bnd_eq, G56x0_eq hN h.n, Option.isSome_some, _root_.cond_true, getD_some, V57x0_eq, G14x0x30_eq hN start h.s, G14x0x51_eq hN h.l h.s h.ln, G14x0x72_eq hN h.t h.tn, way_do]
 unfold chkA
 cases nameB name <;> cases inI sport 1 5 <;> cases inI start 0 86399999999 <;> cases decide ((smps.length : Int) > 20000) <;> cases decide ((laps.length : Int) > 200) <;> cases decide ((tags.length : Int) > 20) <;> try rfl
 cases firstE (smpE start smps) 0 smps != 0 <;> cases firstE (lapE (spanD smps) laps) 0 laps != 0 <;> cases h3 : firstE (tagE tags) 0 tags != 0 <;> first | rfl | (simp only [bne_eq_false_iff_eq] at h3; simp [h3])
end
end Go.Proofs.Ytnnofignhdijiaa

/-! Plain laws: record.Same and its reference. -/
namespace Go.Proofs.Ytnnofignhdijiaa
open Go Go.AM
set_option maxRecDepth 100000
set_option maxHeartbeats 4000000
variable {N : Nat}
def zipAll (f : D → D → Bool) : List D → List D → Bool
 | x :: r, y :: s => f x y && zipAll f r s
 | _, _ => true
def eqL (f : D → D → Bool) (xs ys : List D) : Bool := (xs.length == ys.length) && zipAll f xs ys
theorem zip_ind {xs ys : List D} (f : D → D → Bool) {S : Int → (Int → Option (Sum Unit Unit)) → Option (Sum Unit Unit)} {L : Nat → Int → Option (Sum Unit Unit)} (hL : ∀ m a, L (m + 1) a = S a (L m)) (hlen : xs.length ≤ maxLen) (hxy : xs.length = ys.length)
  (hend : ∀ kr, S xs.length kr = some (.inr ()))
  (hstep : ∀ (w : Int) (kr : Int → Option (Sum Unit Unit)), decide (w < xs.length) = true → inB w xs.length = true → inB w ys.length = true → S w kr = bif f (xs.getD w.toNat (.i 0)) (ys.getD w.toNat (.i 0)) then kr (IntKind.wrap .i64 (w + 1)) else some (.inl ()))
  (hN : maxLen < N) : L N 0 = some (bif zipAll f xs ys then .inr () else .inl ()) := by
 refine (for_ind (.i 0 : D) hL (fun w l => some (bif zipAll f l (ys.drop w.toNat) then .inr () else .inl ())) hlen ?_ ?_ hN).trans (by simp)
 ·intro kr; rw [hend]; simp [zipAll]
 ·intro w kr h0 h1 hw hi hk
  have h2 : w < ys.length := by omega
  rw [hstep w kr (decide_eq_true h1) hi (inB_of h0 (by omega)), hw, hk, drop_at (.i 0) (xs := ys) h0 h2]
  simp only [zipAll]
  cases f (xs.getD w.toNat (.i 0)) (ys.getD w.toNat (.i 0)) <;> rfl
def eqSm (x y : D) : Bool := ((x.cell 0).toI == (y.cell 0).toI) && (((x.cell 1).toI == (y.cell 1).toI) && (((x.cell 2).toI == (y.cell 2).toI) && (((x.cell 3).toI == (y.cell 3).toI) && (((x.cell 4).toI == (y.cell 4).toI) && (((x.cell 5).toI == (y.cell 5).toI) && (((x.cell 6).toI == (y.cell 6).toI) && true))))))
def eqLp (x y : D) : Bool := ((x.cell 0).toI == (y.cell 0).toI) && (((x.cell 1).toI == (y.cell 1).toI) && (((x.cell 2).toS == (y.cell 2).toS) && true))
def eqSt (x y : D) : Bool := x.toS == y.toS
section
variable {xs ys : List D}
theorem len_bne : ((xs.length : Int) != (ys.length : Int)) = !(xs.length == ys.length) := by
 rw [Bool.eq_iff_iff]; simp; omega
theorem G16x0x12_eq (hN : maxLen < N) (hl : xs.length ≤ maxLen) (h : xs.length = ys.length) : G16x0x12 N xs.length xs ys 0 = some (bif zipAll eqSm xs ys then .inr () else .inl ()) := by
 unfold G16x0x12
 refine zip_ind eqSm (S := fun w kr => S16x0x12 N xs.length xs ys w kr _ _) (L := fun m w => L16x0x12 N xs.length xs ys m w _ _) (fun m w => rfl) hl h (fun kr => by simp [S16x0x12]) (fun w kr h1 h2 h3 => ?_) hN
 unfold S16x0x12
 rw [h1, h2, h3]
 show (bif !(eqSm _ _) then _ else _) = _
 cases eqSm (xs.getD w.toNat (.i 0)) (ys.getD w.toNat (.i 0)) <;> rfl
theorem G16x0x30_eq (hN : maxLen < N) (hl : xs.length ≤ maxLen) (h : xs.length = ys.length) : G16x0x30 N xs.length xs ys 0 = some (bif zipAll eqLp xs ys then .inr () else .inl ()) := by
 unfold G16x0x30
 refine zip_ind eqLp (S := fun w kr => S16x0x30 N xs.length xs ys w kr _ _) (L := fun m w => L16x0x30 N xs.length xs ys m w _ _) (fun m w => rfl) hl h (fun kr => by simp [S16x0x30]) (fun w kr h1 h2 h3 => ?_) hN
 unfold S16x0x30
 rw [h1, h2, h3]
 show (bif !(eqLp _ _) then _ else _) = _
 cases eqLp (xs.getD w.toNat (.i 0)) (ys.getD w.toNat (.i 0)) <;> rfl
theorem G16x0x48_eq (hN : maxLen < N) (hl : xs.length ≤ maxLen) (h : xs.length = ys.length) : G16x0x48 N xs.length xs ys 0 = some (bif zipAll eqSt xs ys then .inr () else .inl ()) := by
 unfold G16x0x48
 refine zip_ind eqSt (S := fun w kr => S16x0x48 N xs.length xs ys w kr _ _) (L := fun m w => L16x0x48 N xs.length xs ys m w _ _) (fun m w => rfl) hl h (fun kr => by simp [S16x0x48]) (fun w kr h1 h2 h3 => ?_) hN
 unfold S16x0x48
 rw [h1, h2, h3]
 show (bif !(eqSt _ _) then _ else _) = _
 cases eqSt (xs.getD w.toNat (.i 0)) (ys.getD w.toNat (.i 0)) <;> rfl
end
/-- Two activities are the same. -/
def sameA (n : List UInt8) (sp st : Int) (s l t : List D) (n' : List UInt8) (sp' st' : Int) (s' l' t' : List D) : Bool :=
 (n == n') && (sp == sp') && (st == st') && eqL eqSm s s' && eqL eqLp l l' && eqL eqSt t t'
section
variable {n n' : List UInt8} {sp st sp' st' : Int} {s l t s' l' t' : List D}
theorem G16x0_eq (hN : maxLen < N) (hs : s.length ≤ maxLen) (hl : l.length ≤ maxLen) (ht : t.length ≤ maxLen) : G16x0 N n sp st s l t n' sp' st' s' l' t' = some (sameA n sp st s l t n' sp' st' s' l' t') := by
 unfold G16x0 F16x0
 have e1 : (sp != sp') = !(sp == sp') := rfl
 have e2 : (st != st') = !(st == st') := rfl
 simp only [bnd_eq, len_bne, e1, e2]
 unfold sameA eqL
 cases h1 : (s.length == s'.length) with
 | false => cases n == n' <;> cases sp == sp' <;> cases st == st' <;> rfl
 | true =>
 cases h2 : (l.length == l'.length) with
 | false => cases n == n' <;> cases sp == sp' <;> cases st == st' <;> cases zipAll eqSm s s' <;> rfl
 | true =>
 cases h3 : (t.length == t'.length) with
 | false => cases n == n' <;> cases sp == sp' <;> cases st == st' <;> cases zipAll eqSm s s' <;> cases zipAll eqLp l l' <;> rfl
 | true =>
 rw [G16x0x12_eq hN hs (by simpa using h1), G16x0x30_eq hN hl (by simpa using h2), G16x0x48_eq hN ht (by simpa using h3)]
 cases n == n' <;> cases sp == sp' <;> cases st == st' <;> cases zipAll eqSm s s' <;> cases zipAll eqLp l l' <;> cases zipAll eqSt t t' <;> rfl
theorem zipAll_refl {f : D → D → Bool} (hf : ∀ x, f x x = true) : ∀ l, zipAll f l l = true
 | [] => rfl
 | x :: r => by simp only [zipAll, hf, zipAll_refl hf r, Bool.and_self]
theorem eqL_refl {f : D → D → Bool} (hf : ∀ x, f x x = true) (l : List D) : eqL f l l = true := by
 unfold eqL; rw [zipAll_refl hf]; simp
theorem sameA_refl : sameA n sp st s l t n sp st s l t = true := by
 unfold sameA
 rw [eqL_refl (fun x => by simp [eqSm]), eqL_refl (fun x => by simp [eqLp]), eqL_refl (fun x => by simp [eqSt])]
 simp
end
end Go.Proofs.Ytnnofignhdijiaa

/-! Plain laws: definitions of files, their slots (record.checkDef, slotOf; the references' defFault, timeOf, fieldsOf, sizeOf). -/
namespace Go.Proofs.Ytnnofignhdijiaa
open Go Go.AM
set_option maxRecDepth 100000
set_option maxHeartbeats 4000000
variable {N : Nat}
theorem loop_indE {A X : Type} {S : A → (A → X) → X} {L : Nat → A → X} (hL : ∀ m a, L (m + 1) a = S a (L m)) (P : A → X → Prop) (Inv : A → Prop) (μ : A → Nat)
  (h : ∀ a kr, Inv a → (∀ a', Inv a' → μ a' < μ a → P a' (kr a')) → P a (S a kr)) : ∀ (m : Nat) (a : A), Inv a → μ a < m → P a (L m a) := by
 intro m
 induction m with
 | zero => intro a _ h; omega
 | succ m ih => intro a ha hm; rw [hL]; exact h a (L m) ha fun a' h1 h2 => ih a' h1 (by omega)
def fN (f : D) : Int := (f.cell 0).toI
def fS (f : D) : Int := (f.cell 1).toI
def fT (f : D) : Int := (f.cell 2).toI
def isT (f : D) : Bool := (fN f == 253) && (fT f == 0) && (fS f == 4)
def hasN (n : Int) (l : List D) : Bool := l.any fun f => fN f == n
def fldE (fs : List D) (w : Int) : Int :=
 bif !(inI (fN (fs.getD w.toNat (.i 0))) 0 255) || !(inI (fS (fs.getD w.toNat (.i 0))) 1 255) then 9 else bif !inI (fT (fs.getD w.toNat (.i 0))) 0 3 then 7 else
 bif decide (fT (fs.getD w.toNat (.i 0)) ≤ 1) && (fS (fs.getD w.toNat (.i 0)) != 1) && (fS (fs.getD w.toNat (.i 0)) != 2) && (fS (fs.getD w.toNat (.i 0)) != 4) then 2 else
 bif hasN (fN (fs.getD w.toNat (.i 0))) (fs.take w.toNat) then 5 else 0
def defE (g : Int) (fs : List D) : Int := bif !inI g 0 65535 then 9 else bif decide ((fs.length : Int) > 30) then 3 else firstE (fldE fs) 0 fs
theorem G146x0_eq (hN : maxLen < N) {xs : List D} {n : Int} (hs : xs.length ≤ maxLen) : ∃ i : Int, G146x0 N xs n = some i ∧ decide (i ≥ 0) = hasN n xs := by
 have h : G146x0x6 N xs xs.length n 0 = some (match xs.findIdx? fun d => fN d == n with | some j => .inl (j : Int) | none => .inr ()) := by
  unfold G146x0x6
  refine (for_ind (.i 0 : D) (S := fun w kr => S146x0x6 N xs xs.length n w kr _ _) (L := fun m w => L146x0x6 N xs xs.length n m w _ _) (fun m w => rfl) (fun w l => some (match l.findIdx? fun d => fN d == n with | some j => .inl (w + (j : Int)) | none => .inr ())) hs ?_ ?_ hN).trans (by simp)
  ·intro kr; simp [S146x0x6]
  ·intro w kr h0 h1 hw hi hk
   simp only [S146x0x6, V142x0, F142x0, decide_eq_true h1, _root_.cond_true, hi, bnd_eq, hw, hk, List.findIdx?_cons]
   show (bif (fN (xs.getD w.toNat (.i 0)) == n) then _ else _) = _
   cases fN (xs.getD w.toNat (.i 0)) == n with
   | true => simp
   | false =>
    simp only [_root_.cond_false, Bool.false_eq_true, if_false]
    cases (xs.drop (w + 1).toNat).findIdx? fun d => fN d == n with
    | none => rfl
    | some j => simp; omega
 unfold G146x0 F146x0
 rw [h]
 have hl : hasN n xs = (xs.findIdx? fun d => fN d == n).isSome := by
  rw [List.findIdx?_isSome]; rfl
 rw [hl]
 cases xs.findIdx? fun d => fN d == n with
 | none => exact ⟨-1, rfl, rfl⟩
 | some j => exact ⟨j, rfl, by simp⟩
theorem G141x0_eq (hN : maxLen < N) {xs : List D} {n : Int} (hs : xs.length ≤ maxLen) : G141x0 N xs n = some (hasN n xs) := by
 obtain ⟨i, h1, h2⟩ := G146x0_eq hN (n := n) hs
 unfold G141x0 F141x0
 rw [h1]
 simp only [bnd_eq, Option.isSome_some, _root_.cond_true, getD_some, h2]
theorem G125x0x45_eq (hN : maxLen < N) {xs : List D} {n : Int} (hs : xs.length ≤ maxLen) : G125x0x45 N xs xs.length n 0 = some (bif hasN n xs then .inl () else .inr ()) := by
 unfold G125x0x45
 refine (for_ind (.i 0 : D) (S := fun w kr => S125x0x45 N xs xs.length n w kr _ _) (L := fun m w => L125x0x45 N xs xs.length n m w _ _) (fun m w => rfl) (fun _ l => some (bif hasN n l then .inl () else .inr ())) hs ?_ ?_ hN).trans rfl
 ·intro kr; simp [S125x0x45, hasN]
 ·intro w kr h0 h1 hw hi hk
  simp only [S125x0x45, decide_eq_true h1, _root_.cond_true, hi, hw, hk, hasN, List.any_cons]
  show (bif (fN (xs.getD w.toNat (.i 0)) == n) then _ else _) = _
  cases fN (xs.getD w.toNat (.i 0)) == n <;> rfl
section
variable {fs : List D} {w : Int}
theorem take_ok (h0 : 0 ≤ w) (h1 : w < fs.length) : (decide (0 ≤ w) && decide (w ≤ (fs.length : Int))) = true := by
 rw [decide_eq_true h0, decide_eq_true (by omega)]; rfl
theorem G122x0x18_eq (hN : maxLen < N) (hl : fs.length ≤ maxLen) : G122x0x18 N fs fs.length fs 0 = some (wayE (firstE (fldE fs) 0 fs)) := by
 unfold G122x0x18
 refine (for_ind (.i 0 : D) (S := fun w kr => S122x0x18 N fs fs.length fs w kr _ _) (L := fun m w => L122x0x18 N fs fs.length fs m w _ _) (fun m w => rfl) (fun w l => some (wayE (firstE (fldE fs) w l))) hl ?_ ?_ hN).trans rfl
 ·intro kr; simp [S122x0x18, firstE, wayE]
 ·intro w kr h0 h1 hw hi hk
  have hm := G141x0_eq hN (xs := fs.take w.toNat) (n := fN (fs.getD w.toNat (.i 0))) (by simp; omega)
  simp only [S122x0x18, decide_eq_true h1, _root_.cond_true, hi, bnd_eq, hw, hk, take_ok h0 h1, List.drop_zero, V122x0x28, F122x0x28, V52x0_eq, wayE_cons]
  rw [show (((fs.getD w.toNat (.i 0)).cell 0).toI) = fN (fs.getD w.toNat (.i 0)) from rfl, hm]
  unfold fldE
  generalize hasN (fN (fs.getD w.toNat (.i 0))) (fs.take w.toNat) = hh
  generalize fs.getD w.toNat (.i 0) = f
  rw [show ((f.cell 1).toI) = fS f from rfl, show ((f.cell 2).toI) = fT f from rfl]
  simp only [Option.isSome_some, getD_some, _root_.cond_true]
  cases inI (fN f) 0 255 <;> try rfl
  cases inI (fS f) 1 255 <;> try rfl
  cases h3 : inI (fT f) 0 3 <;> try rfl
  have e : (bif fT f == 0 then true else fT f == 1) = decide (fT f ≤ 1) := by
   unfold inI at h3
   rw [Bool.eq_iff_iff]; simp at h3 ⊢
   by_cases h : fT f = 0 <;> simp [h] <;> omega
  rw [e]
  cases decide (fT f ≤ 1) <;> cases (fS f != 1) <;> cases (fS f != 2) <;> cases (fS f != 4) <;> cases hh <;> rfl
theorem G125x0x18_eq (hN : maxLen < N) (hl : fs.length ≤ maxLen) : G125x0x18 N fs fs.length fs 0 = some (wayE (firstE (fldE fs) 0 fs)) := by
 unfold G125x0x18
 refine (for_ind (.i 0 : D) (S := fun w kr => S125x0x18 N fs fs.length fs w kr _ _) (L := fun m w => L125x0x18 N fs fs.length fs m w _ _) (fun m w => rfl) (fun w l => some (wayE (firstE (fldE fs) w l))) hl ?_ ?_ hN).trans rfl
 ·intro kr; simp [S125x0x18, firstE, wayE]
 ·intro w kr h0 h1 hw hi hk
  have hm := G125x0x45_eq hN (xs := fs.take w.toNat) (n := fN (fs.getD w.toNat (.i 0))) (by simp; omega)
  simp only [S125x0x18, decide_eq_true h1, _root_.cond_true, hi, bnd_eq, hw, hk, take_ok h0 h1, List.drop_zero, V125x0x25, F125x0x25, V57x0_eq, wayE_cons]
  rw [show (((fs.getD w.toNat (.i 0)).cell 0).toI) = fN (fs.getD w.toNat (.i 0)) from rfl, hm]
  unfold fldE
  generalize hasN (fN (fs.getD w.toNat (.i 0))) (fs.take w.toNat) = hh
  generalize fs.getD w.toNat (.i 0) = f
  rw [show ((f.cell 1).toI) = fS f from rfl, show ((f.cell 2).toI) = fT f from rfl]
  cases inI (fN f) 0 255 <;> cases inI (fS f) 1 255 <;> cases inI (fT f) 0 3 <;> try rfl
  cases decide (fT f ≤ 1) <;> cases (fS f != 1) <;> cases (fS f != 2) <;> cases (fS f != 4) <;> cases hh <;> rfl
theorem G122x0_eq (hN : maxLen < N) (g : Int) (hl : fs.length ≤ maxLen) : G122x0 N g fs = some (defE g fs) := by
 unfold G122x0 F122x0 defE
 simp only [bnd_eq, V52x0_eq, G122x0x18_eq hN hl, way_do]
 cases inI g 0 65535 <;> cases decide ((fs.length : Int) > 30) <;> try rfl
 cases h : firstE (fldE fs) 0 fs != 0 <;> first | rfl | (simp only [bne_eq_false_iff_eq] at h; simp [h])
theorem G125x0_eq (hN : maxLen < N) (g : Int) (hl : fs.length ≤ maxLen) : G125x0 N g fs = some (defE g fs) := by
 unfold G125x0 F125x0 defE
 simp only [bnd_eq, V57x0_eq, G125x0x18_eq hN hl, way_do]
 cases inI g 0 65535 <;> cases decide ((fs.length : Int) > 30) <;> try rfl
 cases h : firstE (fldE fs) 0 fs != 0 <;> first | rfl | (simp only [bne_eq_false_iff_eq] at h; simp [h])
end
/-! ### What a right definition is -/
structure FldsOk (fs : List D) : Prop where
 len : fs.length ≤ 255
 size : ∀ f ∈ fs, 0 ≤ fS f ∧ fS f ≤ 255
theorem firstE_zero {e : Int → Int} : ∀ {l : List D} {w : Int}, firstE e w l = 0 → ∀ i : Nat, i < l.length → e (w + i) = 0
 | [], w, _, i, hi => by simp at hi
 | x :: r, w, h, i, hi => by
  simp only [firstE] at h
  cases he : e w != 0 with
  | true =>
   rw [he] at h
   simp only [_root_.cond_true] at h
   rw [h] at he
   simp at he
  | false =>
   rw [he] at h
   cases i with
   | zero => simpa using he
   | succ i =>
    have := firstE_zero (l := r) (w := w + 1) h i (by simpa using hi)
    rw [show w + ((i + 1 : Nat) : Int) = w + 1 + (i : Int) by omega]
    exact this
theorem defE_ok {g : Int} {fs : List D} (h : defE g fs = 0) : FldsOk fs := by
 unfold defE at h
 cases h1 : inI g 0 65535 with
 | false => rw [h1] at h; exact absurd (show (9 : Int) = 0 from h) (by decide)
 | true =>
  rw [h1] at h
  cases h2 : decide ((fs.length : Int) > 30) with
  | true => rw [h2] at h; exact absurd (show (3 : Int) = 0 from h) (by decide)
  | false =>
   rw [h2] at h
   simp only [Bool.not_true, _root_.cond_false] at h
   refine ⟨by simp at h2; omega, fun f hf => ?_⟩
   obtain ⟨i, hi, rfl⟩ := List.getElem_of_mem hf
   have := firstE_zero h i hi
   rw [Int.zero_add] at this
   unfold fldE at this
   have hg : fs.getD ((i : Int)).toNat (.i 0) = fs[i] := by
    rw [List.getD_eq_getElem?_getD, Int.toNat_natCast, List.getElem?_eq_getElem hi]; rfl
   rw [hg] at this
   cases h3 : inI (fS fs[i]) 1 255 with
   | false =>
    rw [h3] at this
    cases inI (fN fs[i]) 0 255 <;> exact absurd (show (9 : Int) = 0 from by simpa using this) (by decide)
   | true => unfold inI at h3; simp at h3; omega
/-! ### Sizes, the time's place -/
def szL : List D → Int
 | [] => 0
 | f :: r => fS f + szL r
def tmL : Int → List D → Int
 | _, [] => -1
 | a, f :: r => bif isT f then a else tmL (a + fS f) r
/-- The fields whose bytes there are. -/
def flds : Bool → List D → List D
 | _, [] => []
 | t, f :: r => bif t && isT f then flds false r else .a [.i (fN f), .i (fS f), .i (fT f)] :: flds t r
theorem szL_bound : ∀ {fs : List D}, (∀ f ∈ fs, 0 ≤ fS f ∧ fS f ≤ 255) → 0 ≤ szL fs ∧ szL fs ≤ 255 * fs.length
 | [], _ => by simp [szL]
 | f :: r, h => by
  have h1 := h f (by simp)
  have h2 := szL_bound (fs := r) fun x hx => h x (by simp [hx])
  simp only [szL, List.length_cons]
  omega
theorem tmL_bound : ∀ {fs : List D} {a : Int}, 0 ≤ a → (∀ f ∈ fs, 0 ≤ fS f ∧ fS f ≤ 255) → (tmL a fs = -1 ∨ a ≤ tmL a fs ∧ tmL a fs + 4 ≤ a + szL fs)
 | [], _, _, _ => .inl rfl
 | f :: r, a, ha, h => by
  have h1 := h f (by simp)
  simp only [tmL, szL]
  cases ht : isT f with
  | true =>
   have h2 := szL_bound (fs := r) fun x hx => h x (by simp [hx])
   have h3 : fS f = 4 := by unfold isT at ht; simp at ht; exact ht.2
   right; simp only [_root_.cond_true]; omega
  | false =>
   simp only [_root_.cond_false]
   rcases tmL_bound (fs := r) (a := a + fS f) (by omega) (fun x hx => h x (by simp [hx])) with h2 | h2
   ·exact .inl h2
   ·right; omega
theorem szL_flds_false : ∀ fs : List D, szL (flds false fs) = szL fs
 | [] => rfl
 | f :: r => by simp only [flds, Bool.false_and, _root_.cond_false, szL, szL_flds_false r]; rfl
theorem szL_flds : ∀ {fs : List D} {a : Int}, 0 ≤ a → (∀ f ∈ fs, 0 ≤ fS f ∧ fS f ≤ 255) → (tmL a fs < 0 → szL (flds true fs) = szL fs) ∧ (0 ≤ tmL a fs → szL (flds true fs) = szL fs - 4)
 | [], _, _, _ => ⟨fun _ => rfl, fun h => absurd (show (0 : Int) ≤ -1 from h) (by decide)⟩
 | f :: r, a, ha, h => by
  have h1 := h f (by simp)
  have e : fS (.a [.i (fN f), .i (fS f), .i (fT f)]) = fS f := rfl
  cases ht : isT f with
  | true =>
   have h3 : fS f = 4 := by unfold isT at ht; simp at ht; exact ht.2
   simp only [flds, tmL, szL, ht, Bool.and_self, _root_.cond_true, szL_flds_false]
   constructor <;> intro h4 <;> omega
  | false =>
   have h5 := szL_flds (fs := r) (a := a + fS f) (by omega) fun x hx => h x (by simp [hx])
   simp only [flds, tmL, szL, ht, Bool.and_false, _root_.cond_false, e]
   exact ⟨fun h4 => by rw [h5.1 h4], fun h4 => by rw [h5.2 h4]; omega⟩
section
variable {fs : List D}
theorem getD_mem {w : Int} (h0 : 0 ≤ w) (h1 : w < fs.length) : fs.getD w.toNat (.i 0) ∈ fs := by
 rw [List.getD_eq_getElem?_getD, List.getElem?_eq_getElem (by omega)]; exact List.getElem_mem _
theorem isT_eq (f : D) : (bif (bif ((f.cell 0).toI == 253) then ((f.cell 2).toI == 0) else false) then ((f.cell 1).toI == 4) else false) = isT f := by
 unfold isT fN fT fS
 cases (f.cell 0).toI == 253 <;> cases (f.cell 2).toI == 0 <;> rfl
theorem V132x0_eq (f : D) : V132x0 N (f.cell 0).toI (f.cell 1).toI (f.cell 2).toI = isT f := isT_eq f
theorem G123x0_eq (hN : maxLen < N) (h : FldsOk fs) : G123x0 N fs = some (szL fs, tmL 0 fs) := by
 have hm : maxLen = 9223372036854775807 := rfl
 have hl := h.len
 have key := loop_ind (A := Int × Int × Int) (X := Option (Int × Int)) (S := fun x kr => S123x0x9 N fs fs.length x.1 x.2.1 x.2.2 (fun a b c => kr (a, b, c)) (fun p => some p)) (L := fun m x => L123x0x9 N fs fs.length m x.1 x.2.1 x.2.2 (fun p => some p)) (fun m x => rfl)
  (fun x => some (x.2.1 + szL (fs.drop x.1.toNat), bif decide (x.2.2 < 0) then tmL x.2.1 (fs.drop x.1.toNat) else x.2.2)) (fun x => 0 ≤ x.1 ∧ x.1 ≤ fs.length ∧ 0 ≤ x.2.1 ∧ x.2.1 ≤ 255 * x.1 ∧ -1 ≤ x.2.2) (fun x => (fs.length - x.1).toNat) ?_ N (0, 0, -1) ⟨by decide, by show (0 : Int) ≤ _; omega, by decide, by decide, by decide⟩ (by simp; omega)
 ·have k2 : G123x0x9 N fs fs.length 0 0 (-1) = some (szL fs, tmL 0 fs) := by
   refine Eq.trans key ?_
   simp
  unfold G123x0 F123x0
  rw [k2]; rfl
 ·rintro ⟨w, sz, t⟩ kr ⟨h0, h1, h2, h3, h4⟩ ih
  simp only at h0 h1 h2 h3 h4 ih ⊢
  unfold S123x0x9
  by_cases hw : w < fs.length
  ·have hf := h.size _ (getD_mem h0 hw)
   rw [decide_eq_true hw, inB_of h0 hw, drop_at (.i 0) h0 hw]
   simp only [_root_.cond_true, bnd_eq, V123x0x20, F123x0x20]
   rw [isT_eq]
   have e1 : ((fs.getD w.toNat (.i 0)).cell 1).toI = fS (fs.getD w.toNat (.i 0)) := rfl
   rw [e1, wrapI (x := sz + _) (by omega) (by omega), wrapI (x := w + 1) (by omega) (by omega)]
   rw [ih (w + 1, _, _) ⟨by omega, by omega, by simp only; omega, by simp only; omega, by simp only; cases isT (fs.getD w.toNat (.i 0)) <;> cases decide (t < 0) <;> simp <;> omega⟩ (by simp only; omega)]
   simp only [szL, tmL]
   cases ht : isT (fs.getD w.toNat (.i 0)) with
   | true =>
    by_cases hneg : t < 0
    ·simp only [decide_eq_true hneg, _root_.cond_true, decide_eq_false (show ¬ sz < 0 by omega), _root_.cond_false, Option.some.injEq, Prod.mk.injEq, and_true]; omega
    ·simp only [decide_eq_false hneg, _root_.cond_true, _root_.cond_false, Option.some.injEq, Prod.mk.injEq, and_true]; omega
   | false =>
    simp only [_root_.cond_false, Option.some.injEq, Prod.mk.injEq]
    refine ⟨by omega, ?_⟩
    by_cases hneg : t < 0 <;> simp [hneg]
  ·have : w = fs.length := by omega
   subst this
   rw [decide_eq_false hw, drop_end (by omega)]
   simp only [_root_.cond_false, szL, tmL, Int.add_zero, Option.some.injEq, Prod.mk.injEq, true_and]
   by_cases ht : t < 0
   ·rw [decide_eq_true ht]; simp only [_root_.cond_true]; omega
   ·rw [decide_eq_false ht]; rfl
def tmW (n : Int) : Sum Int Unit := bif decide (n < 0) then .inr () else .inl n
theorem G79x0_eq (hN : maxLen < N) (h : FldsOk fs) : G79x0 N fs = some (bif decide (tmL 0 fs < 0) then (0, false) else (tmL 0 fs, true)) := by
 have hm : maxLen = 9223372036854775807 := rfl
 have hl := h.len
 have key := loop_ind (A := Int × Int) (X := Option (Sum Int Unit)) (S := fun x kr => S79x0x9 N fs fs.length x.1 x.2 (fun a b => kr (a, b)) (fun p => some (.inl p)) (fun p => some (.inr p))) (L := fun m x => L79x0x9 N fs fs.length m x.1 x.2 (fun p => some (.inl p)) (fun p => some (.inr p))) (fun m x => rfl)
  (fun x => some (tmW (tmL x.1 (fs.drop x.2.toNat)))) (fun x => 0 ≤ x.2 ∧ x.2 ≤ fs.length ∧ 0 ≤ x.1 ∧ x.1 ≤ 255 * x.2) (fun x => (fs.length - x.2).toNat) ?_ N (0, 0) ⟨by decide, by show (0 : Int) ≤ _; omega, by decide, by decide⟩ (by simp; omega)
 ·have k2 : G79x0x9 N fs fs.length 0 0 = some (tmW (tmL 0 fs)) := by
   refine Eq.trans key ?_
   simp
  unfold G79x0 F79x0
  rw [k2]
  unfold tmW
  cases decide (tmL 0 fs < 0) <;> rfl
 ·rintro ⟨sz, w⟩ kr ⟨h0, h1, h2, h3⟩ ih
  simp only at h0 h1 h2 h3 ih ⊢
  unfold S79x0x9
  by_cases hw : w < fs.length
  ·have hf := h.size _ (getD_mem h0 hw)
   rw [decide_eq_true hw, inB_of h0 hw, drop_at (.i 0) h0 hw]
   simp only [_root_.cond_true, bnd_eq, V132x0_eq]
   have e1 : ((fs.getD w.toNat (.i 0)).cell 1).toI = fS (fs.getD w.toNat (.i 0)) := rfl
   rw [e1, wrapI (x := sz + _) (by omega) (by omega), wrapI (x := w + 1) (by omega) (by omega)]
   simp only [tmL]
   cases ht : isT (fs.getD w.toNat (.i 0)) with
   | true => simp only [_root_.cond_true]; unfold tmW; rw [decide_eq_false (by omega)]; rfl
   | false =>
    simp only [_root_.cond_false]
    exact ih (sz + fS (fs.getD w.toNat (.i 0)), w + 1) ⟨by omega, by omega, by simp only; omega, by simp only; omega⟩ (by simp only; omega)
  ·have : w = fs.length := by omega
   subst this
   rw [decide_eq_false hw, drop_end (by omega)]
   rfl
theorem G126x0_eq (hN : maxLen < N) (h : FldsOk fs) : G126x0 N fs = some (szL fs) := by
 have hm : maxLen = 9223372036854775807 := rfl
 have hl := h.len
 have key := loop_ind (A := Int × Int) (X := Option Int) (S := fun x kr => S126x0x9 N fs fs.length x.1 x.2 (fun a b => kr (a, b)) (fun p => some p)) (L := fun m x => L126x0x9 N fs fs.length m x.1 x.2 (fun p => some p)) (fun m x => rfl)
  (fun x => some (x.1 + szL (fs.drop x.2.toNat))) (fun x => 0 ≤ x.2 ∧ x.2 ≤ fs.length ∧ 0 ≤ x.1 ∧ x.1 ≤ 255 * x.2) (fun x => (fs.length - x.2).toNat) ?_ N (0, 0) ⟨by decide, by show (0 : Int) ≤ _; omega, by decide, by decide⟩ (by simp; omega)
 ·have k2 : G126x0x9 N fs fs.length 0 0 = some (szL fs) := by
   refine Eq.trans key ?_
   simp
  unfold G126x0 F126x0
  rw [k2]; rfl
 ·rintro ⟨sz, w⟩ kr ⟨h0, h1, h2, h3⟩ ih
  simp only at h0 h1 h2 h3 ih ⊢
  unfold S126x0x9
  by_cases hw : w < fs.length
  ·have hf := h.size _ (getD_mem h0 hw)
   rw [decide_eq_true hw, inB_of h0 hw, drop_at (.i 0) h0 hw]
   simp only [_root_.cond_true, bnd_eq]
   have e1 : ((fs.getD w.toNat (.i 0)).cell 1).toI = fS (fs.getD w.toNat (.i 0)) := rfl
   rw [e1, wrapI (x := sz + _) (by omega) (by omega), wrapI (x := w + 1) (by omega) (by omega)]
   rw [ih (sz + fS (fs.getD w.toNat (.i 0)), w + 1) ⟨by omega, by omega, by simp only; omega, by simp only; omega⟩ (by simp only; omega)]
   simp only [szL, Option.some.injEq]; omega
  ·have : w = fs.length := by omega
   subst this
   rw [decide_eq_false hw, drop_end (by omega)]
   simp only [_root_.cond_false, szL, Int.add_zero]
theorem flds_ok : ∀ {fs : List D} {t : Bool}, (∀ f ∈ fs, 0 ≤ fS f ∧ fS f ≤ 255) → (flds t fs).length ≤ fs.length ∧ ∀ f ∈ flds t fs, 0 ≤ fS f ∧ fS f ≤ 255
 | [], _, _ => by simp [flds]
 | f :: r, t, h => by
  have h1 := h f (by simp)
  have h2 : ∀ t, _ := fun t => flds_ok (fs := r) (t := t) fun x hx => h x (by simp [hx])
  simp only [flds]
  cases t && isT f with
  | true => simp only [_root_.cond_true, List.length_cons]; exact ⟨by have := (h2 false).1; omega, (h2 false).2⟩
  | false =>
   simp only [_root_.cond_false, List.length_cons]
   refine ⟨by have := (h2 t).1; omega, fun x hx => ?_⟩
   rcases List.mem_cons.1 hx with rfl | hx
   ·exact h1
   ·exact (h2 t).2 x hx
theorem FldsOk.flds (h : FldsOk fs) (t : Bool) : FldsOk (flds t fs) := ⟨Nat.le_trans (flds_ok h.size).1 h.len, (flds_ok h.size).2⟩
theorem G100x0_eq (hN : maxLen < N) (h : FldsOk fs) (t : Bool) : ∃ nl, G100x0 N fs t = some (nl, flds t fs) := by
 have hm : maxLen = 9223372036854775807 := rfl
 have hl := h.len
 have key := loop_indE (A := Bool × Int × Bool × LD) (X := Option (Bool × LD)) (S := fun x kr => S100x0x12 N fs fs.length x.1 x.2.1 x.2.2.1 x.2.2.2 (fun a b c d => kr (a, b, c, d)) (fun p => some p)) (L := fun m x => L100x0x12 N fs fs.length m x.1 x.2.1 x.2.2.1 x.2.2.2 (fun p => some p)) (fun m x => rfl)
  (fun x r => ∃ nl, r = some (nl, x.2.2.2 ++ Proofs.Ytnnofignhdijiaa.flds x.1 (fs.drop x.2.1.toNat))) (fun x => 0 ≤ x.2.1 ∧ x.2.1 ≤ fs.length ∧ (x.2.2.2.length : Int) ≤ x.2.1) (fun x => (fs.length - x.2.1).toNat) ?_ N (t, 0, true, []) ⟨by show (0 : Int) ≤ 0; omega, by show (0 : Int) ≤ _; omega, by simp⟩ (by simp; omega)
 ·obtain ⟨nl, k2⟩ := key
  have k3 : G100x0x12 N fs fs.length t 0 true [] = some (nl, Proofs.Ytnnofignhdijiaa.flds t fs) := by
   refine Eq.trans k2 ?_
   simp
  refine ⟨nl, ?_⟩
  unfold G100x0 F100x0
  rw [k3]; rfl
 ·rintro ⟨t, w, b, l⟩ kr ⟨h0, h1, h2⟩ ih
  simp only at h0 h1 h2 ih ⊢
  unfold S100x0x12
  by_cases hw : w < fs.length
  ·rw [decide_eq_true hw, inB_of h0 hw, drop_at (.i 0) h0 hw]
   have r1 : decide ((l.length + 1) * 24 ≤ room) = true := decide_eq_true (by unfold room; omega)
   have r2 : decide (l.length + 1 ≤ strMax) = true := decide_eq_true (by unfold strMax; omega)
   have hv : V100x0x19 N t ((fs.getD w.toNat (.i 0)).cell 0).toI ((fs.getD w.toNat (.i 0)).cell 1).toI ((fs.getD w.toNat (.i 0)).cell 2).toI = (t && isT (fs.getD w.toNat (.i 0))) := by
    unfold V100x0x19 F100x0x19
    simp only [bnd_eq, V132x0_eq]
    cases t <;> rfl
   simp only [_root_.cond_true, bnd_eq, hv, r1, r2, Bool.and_self, wrapI (x := w + 1) (by omega) (by omega), Proofs.Ytnnofignhdijiaa.flds]
   cases t && isT (fs.getD w.toNat (.i 0)) with
   | true =>
    simp only [_root_.cond_true]
    exact ih (false, w + 1, b, l) ⟨by simp only; omega, by simp only; omega, by simp only; omega⟩ (by simp only; omega)
   | false =>
    simp only [_root_.cond_false]
    obtain ⟨nl, e⟩ := ih (t, w + 1, false, l ++ [.a [.i (fN (fs.getD w.toNat (.i 0))), .i (fS (fs.getD w.toNat (.i 0))), .i (fT (fs.getD w.toNat (.i 0)))]]) ⟨by simp only; omega, by simp only; omega, by simp; omega⟩ (by simp only; omega)
    exact ⟨nl, by rw [← List.append_cons] at e; exact e⟩
  ·have : w = fs.length := by omega
   subst this
   rw [decide_eq_false hw, drop_end (by omega)]
   exact ⟨b, by simp [Proofs.Ytnnofignhdijiaa.flds]⟩
end
end Go.Proofs.Ytnnofignhdijiaa

/-! Plain laws: the number of bytes; one entry (walk.check, walk.take; the references' entryFault, take). -/
namespace Go.Proofs.Ytnnofignhdijiaa
open Go Go.AM
set_option maxRecDepth 100000
set_option maxHeartbeats 4000000
variable {N : Nat}
theorem or_byte {n b : Nat} (hn : n < 1099511627776) (hb : b < 256) : (bitsV .or .i64 (IntKind.wrap .i64 ((n : Int) * 2 ^ 8)) (IntKind.wrap .i64 (b : Int))).getD 0 = 256 * (n : Int) + b := by
 have e1 : IntKind.wrap .i64 ((n : Int) * 2 ^ 8) = ((n * 256 : Nat) : Int) := by rw [wrapI (by omega) (by omega)]; omega
 have e2 : IntKind.wrap .i64 (b : Int) = (b : Int) := wrapI (by omega) (by omega)
 rw [e1, e2]
 have h64 : IntKind.bits .i64 = 64 := rfl
 have o : (BitVec.ofInt 64 ((n * 256 : Nat) : Int) ||| BitVec.ofInt 64 (b : Int)).toNat = n * 256 + b := by
  rw [BitVec.toNat_or, BitVec.ofInt_natCast, BitVec.ofInt_natCast, BitVec.toNat_ofNat, BitVec.toNat_ofNat, Nat.mod_eq_of_lt (by omega), Nat.mod_eq_of_lt (by omega)]
  have := Nat.shiftLeft_add_eq_or_of_lt (b := b) (i := 8) (by omega) n
  rw [Nat.shiftLeft_eq] at this
  exact this.symm
 show IntKind.wrap .i64 (((BitVec.ofInt 64 ((n * 256 : Nat) : Int) ||| BitVec.ofInt 64 (b : Int)).toNat : Nat) : Int) = _
 rw [o, wrapI (by omega) (by omega)]
 omega
def BytesOk (xs : List D) : Prop := ∀ x ∈ xs, 0 ≤ x.toI ∧ x.toI ≤ 255
def pkB (len : Int) (big : Bool) (i : Int) : Int := bif big then i else len - 1 - i
/-- The number of bytes: so many more, from place i on. -/
def numR (xs : List D) (big : Bool) : Nat → Int → Int → Int
 | 0, _, n => n
 | k + 1, i, n => numR xs big k (i + 1) (256 * n + (xs.getD (pkB xs.length big i).toNat (.i 0)).toI)
def numB (xs : List D) (big : Bool) : Int := numR xs big xs.length 0 0
theorem pow_step {n b i : Int} (h0 : 0 ≤ i) (h1 : 0 ≤ n) (h2 : n < 256 ^ i.toNat) (h3 : 0 ≤ b) (h4 : b ≤ 255) : 0 ≤ 256 * n + b ∧ 256 * n + b < 256 ^ (i + 1).toNat := by
 have e : (i + 1).toNat = i.toNat + 1 := by omega
 rw [e, Int.pow_succ]
 omega
theorem pow_le {n i : Int} (h0 : 0 ≤ i) (h1 : i ≤ 4) (h2 : n < 256 ^ i.toNat) : n < 4294967296 := by
 have : i = 0 ∨ i = 1 ∨ i = 2 ∨ i = 3 ∨ i = 4 := by omega
 rcases this with rfl | rfl | rfl | rfl | rfl <;> simp at h2 <;> omega
theorem getB {xs : List D} (h : BytesOk xs) {i : Int} (h0 : 0 ≤ i) (h1 : i < xs.length) : 0 ≤ (xs.getD i.toNat (.i 0)).toI ∧ (xs.getD i.toNat (.i 0)).toI ≤ 255 := h _ (getD_mem h0 h1)
section
variable {xs : List D}
theorem pkB_in {big : Bool} {i : Int} (h0 : 0 ≤ i) (h1 : i < xs.length) : 0 ≤ pkB xs.length big i ∧ pkB xs.length big i < xs.length := by
 unfold pkB; cases big <;> simp <;> omega
theorem numR_bound (hb : BytesOk xs) (big : Bool) : ∀ (k : Nat) (i n : Int), 0 ≤ i → i + k = xs.length → 0 ≤ n → n < 256 ^ i.toNat → 0 ≤ numR xs big k i n ∧ numR xs big k i n < 256 ^ xs.length
 | 0, i, n, h0, h1, h2, h3 => by
  have : i.toNat = xs.length := by omega
  rw [this] at h3
  exact ⟨h2, h3⟩
 | k + 1, i, n, h0, h1, h2, h3 => by
  obtain ⟨p0, p1⟩ := pkB_in (xs := xs) (big := big) h0 (by omega)
  obtain ⟨b0, b1⟩ := getB hb p0 p1
  obtain ⟨q0, q1⟩ := pow_step h0 h2 h3 b0 b1
  exact numR_bound hb big k (i + 1) _ (by omega) (by omega) q0 q1
theorem numB_bound (hb : BytesOk xs) (big : Bool) (hl : xs.length ≤ 4) : 0 ≤ numB xs big ∧ numB xs big < 4294967296 := by
 obtain ⟨h1, h2⟩ := numR_bound hb big xs.length 0 0 (by omega) (by omega) (by omega) (by simp)
 refine ⟨h1, ?_⟩
 have := pow_le (i := (xs.length : Int)) (by omega) (by omega) (n := numB xs big) (by unfold numB; simpa using h2)
 exact this
theorem G81x0_eq (hN : maxLen < N) (hb : BytesOk xs) (big : Bool) (hl : xs.length ≤ 4) : G81x0 N xs big = some (numB xs big) := by
 have hm : maxLen = 9223372036854775807 := rfl
 have key := loop_ind (A := Int × Int) (X := Option Int) (S := fun x kr => S81x0x9 N xs big xs.length x.1 x.2 (fun a b => kr (a, b)) (fun p => some p)) (L := fun m x => L81x0x9 N xs big xs.length m x.1 x.2 (fun p => some p)) (fun m x => rfl)
  (fun x => some (numR xs big (xs.length - x.2).toNat x.2 x.1)) (fun x => 0 ≤ x.2 ∧ x.2 ≤ xs.length ∧ 0 ≤ x.1 ∧ x.1 < 256 ^ x.2.toNat) (fun x => (xs.length - x.2).toNat) ?_ N (0, 0) ⟨by decide, by show (0 : Int) ≤ _; omega, by decide, by decide⟩ (by simp; omega)
 ·have k2 : G81x0x9 N xs big xs.length 0 0 = some (numB xs big) := by
   refine Eq.trans key ?_
   simp [numB]
  unfold G81x0 F81x0
  rw [k2]; rfl
 ·rintro ⟨n, i⟩ kr ⟨h0, h1, h2, h3⟩ ih
  simp only at h0 h1 h2 h3 ih ⊢
  unfold S81x0x9
  by_cases hw : i < xs.length
  ·obtain ⟨p0, p1⟩ := pkB_in (xs := xs) (big := big) h0 hw
   obtain ⟨b0, b1⟩ := getB hb p0 p1
   obtain ⟨q0, q1⟩ := pow_step h0 h2 h3 b0 b1
   have hn := pow_le h0 (by omega) h3
   have hv : V81x0x23 N i (IntKind.wrap .i64 ((IntKind.wrap .i64 ((xs.length : Int) - 1)) - i)) big = pkB xs.length big i := by
    rw [wrapI (x := (xs.length : Int) - 1) (by omega) (by omega), wrapI (x := (xs.length : Int) - 1 - i) (by omega) (by omega)]
    unfold V81x0x23 F81x0x23 pkB
    cases big <;> rfl
   have ho := or_byte (n := n.toNat) (b := (xs.getD (pkB xs.length big i).toNat (.i 0)).toI.toNat) (by omega) (by omega)
   rw [Int.toNat_of_nonneg h2, Int.toNat_of_nonneg b0] at ho
   rw [decide_eq_true hw]
   simp only [_root_.cond_true, bnd_eq, hv, inB_of p0 p1, ho, wrapI (x := i + 1) (by omega) (by omega)]
   rw [ih (_, i + 1) ⟨by simp only; omega, by simp only; omega, q0, q1⟩ (by simp only; omega)]
   have e : (xs.length - i).toNat = (xs.length - (i + 1)).toNat + 1 := by omega
   rw [e]
   rfl
  ·have : i = xs.length := by omega
   subst this
   rw [decide_eq_false hw]
   simp [numR]
theorem G83x0_eq (hN : maxLen < N) (hb : BytesOk xs) (big : Bool) (hl : xs.length ≤ 4) : G83x0 N xs big = some (numB xs big) := by
 have hm : maxLen = 9223372036854775807 := rfl
 have key := loop_ind (A := Int × Int) (X := Option Int) (S := fun x kr => S83x0x9 N xs big xs.length x.1 x.2 (fun a b => kr (a, b)) (fun p => some p)) (L := fun m x => L83x0x9 N xs big xs.length m x.1 x.2 (fun p => some p)) (fun m x => rfl)
  (fun x => some (numR xs big (xs.length - x.2).toNat x.2 x.1)) (fun x => 0 ≤ x.2 ∧ x.2 ≤ xs.length ∧ 0 ≤ x.1 ∧ x.1 < 256 ^ x.2.toNat) (fun x => (xs.length - x.2).toNat) ?_ N (0, 0) ⟨by decide, by show (0 : Int) ≤ _; omega, by decide, by decide⟩ (by simp; omega)
 ·have k2 : G83x0x9 N xs big xs.length 0 0 = some (numB xs big) := by
   refine Eq.trans key ?_
   simp [numB]
  unfold G83x0 F83x0
  rw [k2]; rfl
 ·rintro ⟨n, i⟩ kr ⟨h0, h1, h2, h3⟩ ih
  simp only at h0 h1 h2 h3 ih ⊢
  unfold S83x0x9
  by_cases hw : i < xs.length
  ·obtain ⟨p0, p1⟩ := pkB_in (xs := xs) (big := big) h0 hw
   obtain ⟨b0, b1⟩ := getB hb p0 p1
   obtain ⟨q0, q1⟩ := pow_step h0 h2 h3 b0 b1
   have hn := pow_le h0 (by omega) h3
   have hv : V83x0x23 N xs i i (!big) = pkB xs.length big i := by
    unfold V83x0x23 F83x0x23 pkB
    rw [wrapI (x := (xs.length : Int) - 1) (by omega) (by omega), wrapI (x := (xs.length : Int) - 1 - i) (by omega) (by omega)]
    cases big <;> rfl
   have ho : IntKind.wrap .i64 ((IntKind.wrap .i64 (256 * n)) + (IntKind.wrap .i64 (xs.getD (pkB xs.length big i).toNat (.i 0)).toI)) = 256 * n + (xs.getD (pkB xs.length big i).toNat (.i 0)).toI := by
    rw [wrapI (x := 256 * n) (by omega) (by omega), wrapI (x := (xs.getD (pkB xs.length big i).toNat (.i 0)).toI) (by omega) (by omega), wrapI (by omega) (by omega)]
   rw [decide_eq_true hw]
   simp only [_root_.cond_true, bnd_eq, hv, inB_of p0 p1, ho, wrapI (x := i + 1) (by omega) (by omega)]
   rw [ih (_, i + 1) ⟨by simp only; omega, by simp only; omega, q0, q1⟩ (by simp only; omega)]
   have e : (xs.length - i).toNat = (xs.length - (i + 1)).toNat + 1 := by omega
   rw [e]
   rfl
  ·have : i = xs.length := by omega
   subst this
   rw [decide_eq_false hw]
   simp [numR]
end
theorem missing4 : G124x0 N 4 false = some 4294967295 := by
 unfold G124x0 F124x0
 have e1 : IntKind.wrap .i64 (8 * 4) = 32 := by decide
 rw [e1]
 have e2 : IntKind.wrap .i64 (1 * 2 ^ (min (32 : Int).toNat 64)) = 4294967296 := by decide
 have e3 : IntKind.wrap .i64 ((4294967296 : Int) - 1) = 4294967295 := by decide
 simp only [_root_.cond_false, bnd_eq, e2, e3]
 rfl
/-! ### One entry -/
/-- The slots as the program and the reference keep them; k: how many entries came. -/
structure Slots (p s : D) : Prop where
 known : ∀ j : Nat, j < 16 → (p.cell (0 + j * 6)).toB = (s.cell (0 + j * 1)).toB
 defs : ∀ j : Nat, j < 16 → (p.cell (0 + j * 6)).toB = true → FldsOk (p.cell (3 + j * 6)).items ∧ (p.cell (1 + j * 6)).toB = (s.cell (16 + j * 3)).toB ∧ (p.cell (2 + j * 6)).toI = (s.cell (17 + j * 3)).toI ∧
  (p.cell (3 + j * 6)).items = (s.cell (18 + j * 3)).items ∧ (p.cell (4 + j * 6)).toI = szL (p.cell (3 + j * 6)).items ∧ (p.cell (5 + j * 6)).toI = tmL 0 (p.cell (3 + j * 6)).items
structure Sim (p s : D) (k : Int) : Prop extends Slots p s where
 last : (p.cell 96).toI = (s.cell 64).toI
 lo : -1 ≤ (p.cell 96).toI
 hi : (p.cell 96).toI ≤ 4294967295 + 32 * k
/-- An entry's lengths and bytes are possible. -/
structure EntL (ds data : List D) : Prop where
 d : ds.length ≤ maxLen
 b : data.length ≤ maxLen
 f : ∀ x ∈ ds, (x.cell 2).items.length ≤ maxLen
 y : BytesOk data
def entE (kind slot off : Int) (ds data : List D) (known : Bool) (size time last : Int) : Int :=
 bif !inI kind 1 3 then 7 else bif !inI slot 0 (bif kind == 3 then 3 else 15) || !inI off 0 (bif kind == 3 then 31 else 0) then 9 else
 bif kind == 1 then (bif ((ds.length : Int) != 1) || decide ((data.length : Int) > 0) then 2 else defE ((ds.getD 0 (.i 0)).cell 1).toI ((ds.getD 0 (.i 0)).cell 2).items) else
 bif (ds.length : Int) != 0 then 2 else bif !known || ((kind == 3) && (decide (time < 0) || decide (last < 0))) then 11 else bif (data.length : Int) != (bif kind == 3 then size - 4 else size) then 2 else 0
section
variable {kind slot off : Int} {ds data : List D} {p s : D} {k : Int}
theorem slot_in (h : inI slot 0 (bif kind == 3 then 3 else 15) = true) : inB slot 16 = true ∧ slot.toNat < 16 := by
 unfold inI at h
 cases hk : kind == 3 <;> rw [hk] at h <;> simp at h <;> exact ⟨inB_of (by omega) (by omega), by omega⟩
theorem G71x0_eq (hN : maxLen < N) (hs : Sim p s k) (he : EntL ds data) : G71x0 N kind slot off ds data p = some (entE kind slot off ds data (p.cell (0 + slot.toNat * 6)).toB (p.cell (4 + slot.toNat * 6)).toI (p.cell (5 + slot.toNat * 6)).toI (p.cell 96).toI) := by
 have hm : maxLen = 9223372036854775807 := rfl
 unfold G71x0 F71x0 entE V71x0x14 F71x0x14 V71x0x20 F71x0x20 V71x0x28 F71x0x28 V71x0x62 F71x0x62
 simp only [bnd_eq, V52x0_eq]
 cases h1 : inI kind 1 3 with
 | false => rfl
 | true =>
 have e14 : (bif kind == 3 then ((3 : Int), (31 : Int)) else (15, 0)) = ((bif kind == 3 then 3 else 15), (bif kind == 3 then 31 else 0)) := by cases kind == 3 <;> rfl
 rw [e14]
 simp only [Bool.not_true, _root_.cond_false]
 cases h2 : inI slot 0 (bif kind == 3 then 3 else 15) with
 | false => rfl
 | true =>
 obtain ⟨i1, i2⟩ := slot_in h2
 cases h3 : inI off 0 (bif kind == 3 then 31 else 0) with
 | false => rfl
 | true =>
 simp only [Bool.not_true, _root_.cond_false, Bool.or_self]
 by_cases hk : kind = 1
 ·subst hk
  simp only [beq_self_eq_true, _root_.cond_true]
  cases h4 : ((ds.length : Int) != 1) with
  | true => rfl
  | false =>
   have hl : ds.length = 1 := by simp at h4; omega
   cases decide ((data.length : Int) > 0) with
   | true => rfl
   | false =>
    have hmem : ds.getD 0 (.i 0) ∈ ds := getD_mem (w := 0) (by omega) (by omega)
    simp only [_root_.cond_false, Bool.or_self]
    rw [inB_of (by omega) (by omega), G122x0_eq hN _ (he.f _ hmem)]
    rfl
 ·have hk1 : (kind == 1) = false := by simpa using hk
  rw [hk1]
  simp only [_root_.cond_false]
  cases h4 : ((ds.length : Int) != 0) with
  | true => rfl
  | false =>
   simp only [_root_.cond_false, i1, _root_.cond_true]
   cases hkn : (p.cell (0 + slot.toNat * 6)).toB with
   | false => rfl
   | true =>
    obtain ⟨d1, _, _, _, d5, d6⟩ := hs.defs _ i2 hkn
    have hb := szL_bound d1.size
    have hl := d1.len
    cases hk3 : kind == 3 with
    | false =>
     simp only [Bool.not_true, _root_.cond_false, Bool.false_and, Bool.or_self]
     cases ((data.length : Int) != (p.cell (4 + slot.toNat * 6)).toI) <;> rfl
    | true =>
     simp only [Bool.not_true, _root_.cond_false, _root_.cond_true, Bool.true_and, Bool.false_or]
     cases decide ((p.cell (5 + slot.toNat * 6)).toI < 0) with
     | true => rfl
     | false =>
      cases decide ((p.cell 96).toI < 0) with
      | true => rfl
      | false =>
       simp only [_root_.cond_false, Bool.or_self]
       rw [wrapI (by omega) (by omega)]
       cases ((data.length : Int) != (p.cell (4 + slot.toNat * 6)).toI - 4) <;> rfl
theorem G73x0_eq (hN : maxLen < N) (hs : Sim p s k) (he : EntL ds data) : G73x0 N kind slot off ds data s = some (entE kind slot off ds data (p.cell (0 + slot.toNat * 6)).toB (p.cell (4 + slot.toNat * 6)).toI (p.cell (5 + slot.toNat * 6)).toI (p.cell 96).toI) := by
 have hm : maxLen = 9223372036854775807 := rfl
 unfold G73x0 F73x0 entE V73x0x17 F73x0x17 V73x0x19 F73x0x19
 simp only [bnd_eq, V57x0_eq]
 cases h1 : inI kind 1 3 with
 | false => rfl
 | true =>
 have e14 : (bif kind == 3 then ((3 : Int), (31 : Int)) else (15, 0)) = ((bif kind == 3 then 3 else 15), (bif kind == 3 then 31 else 0)) := by cases kind == 3 <;> rfl
 rw [e14]
 simp only [Bool.not_true, _root_.cond_false]
 cases h2 : inI slot 0 (bif kind == 3 then 3 else 15) with
 | false => rfl
 | true =>
 obtain ⟨i1, i2⟩ := slot_in h2
 cases h3 : inI off 0 (bif kind == 3 then 31 else 0) with
 | false => rfl
 | true =>
 simp only [Bool.not_true, _root_.cond_false, Bool.or_self]
 by_cases hk : kind = 1
 ·subst hk
  simp only [beq_self_eq_true, _root_.cond_true]
  cases h4 : ((ds.length : Int) != 1) with
  | true => rfl
  | false =>
   have hl : ds.length = 1 := by simp at h4; omega
   cases decide ((data.length : Int) > 0) with
   | true => rfl
   | false =>
    have hmem : ds.getD 0 (.i 0) ∈ ds := getD_mem (w := 0) (by omega) (by omega)
    simp only [_root_.cond_false, Bool.or_self]
    rw [inB_of (by omega) (by omega), G125x0_eq hN _ (he.f _ hmem)]
    rfl
 ·have hk1 : (kind == 1) = false := by simpa using hk
  have e0 : decide ((ds.length : Int) > 0) = ((ds.length : Int) != 0) := by rw [Bool.eq_iff_iff]; simp only [decide_eq_true_eq, bne_iff_ne]; omega
  rw [hk1, e0]
  simp only [_root_.cond_false]
  cases h4 : ((ds.length : Int) != 0) with
  | true => rfl
  | false =>
   simp only [_root_.cond_false, i1, _root_.cond_true, ← hs.known _ i2]
   cases hkn : (p.cell (0 + slot.toNat * 6)).toB with
   | false => rfl
   | true =>
    obtain ⟨d1, _, _, d4, d5, d6⟩ := hs.defs _ i2 hkn
    rw [← d4, ← hs.last, d5, d6, G79x0_eq hN d1]
    obtain ⟨nl, hf⟩ := G100x0_eq hN d1 (kind == 3)
    rw [hf]
    simp only [Option.isSome_some, getD_some, _root_.cond_true, G126x0_eq hN (d1.flds _)]
    have z := szL_flds (a := 0) (by omega) d1.size
    cases hk3 : kind == 3 with
    | false =>
     simp only [Bool.not_true, _root_.cond_false, Bool.false_and, Bool.or_self, szL_flds_false]
     cases ((data.length : Int) != szL (p.cell (3 + slot.toNat * 6)).items) <;> rfl
    | true =>
     by_cases ht : tmL 0 (p.cell (3 + slot.toNat * 6)).items < 0
     ·simp only [decide_eq_true ht, _root_.cond_true]; rfl
     ·simp only [decide_eq_false ht, _root_.cond_false, _root_.cond_true, Bool.not_true, Bool.true_and, Bool.false_or, z.2 (by omega)]
      cases decide ((p.cell 96).toI < 0) with
      | true => rfl
      | false =>
       simp only [_root_.cond_false]
       cases ((data.length : Int) != szL (p.cell (3 + slot.toNat * 6)).items - 4) <;> rfl
end
end Go.Proofs.Ytnnofignhdijiaa

/-! Plain laws: an entry is taken (walk.take and the reference's take do the same). -/
namespace Go.Proofs.Ytnnofignhdijiaa
open Go Go.AM
set_option maxRecDepth 100000
set_option maxHeartbeats 4000000
variable {N : Nat}
structure EntOk (kind slot off : Int) (ds data : List D) (known : Bool) (size time last : Int) : Prop where
 k : 1 ≤ kind ∧ kind ≤ 3
 s : inB slot 16 = true ∧ slot.toNat < 16
 d : kind = 1 → ds.length = 1 ∧ defE ((ds.getD 0 (.i 0)).cell 1).toI ((ds.getD 0 (.i 0)).cell 2).items = 0
 n : kind ≠ 1 → known = true ∧ ds.length = 0
 h : kind = 3 → 0 ≤ time ∧ 0 ≤ last ∧ 0 ≤ off ∧ off ≤ 31 ∧ (data.length : Int) = size - 4
 t : kind = 2 → (data.length : Int) = size
section
variable {kind slot off : Int} {ds data : List D} {p s : D} {k : Int}
theorem entE_ok {known : Bool} {size time last : Int} (h : entE kind slot off ds data known size time last = 0) : EntOk kind slot off ds data known size time last := by
 unfold entE at h
 cases h1 : inI kind 1 3 with
 | false => rw [h1] at h; exact absurd (show (7 : Int) = 0 from h) (by decide)
 | true =>
 cases h2 : inI slot 0 (bif kind == 3 then 3 else 15) with
 | false => rw [h1, h2] at h; exact absurd (show (9 : Int) = 0 from h) (by decide)
 | true =>
 cases h3 : inI off 0 (bif kind == 3 then 31 else 0) with
 | false => rw [h1, h2, h3] at h; exact absurd (show (9 : Int) = 0 from h) (by decide)
 | true =>
 rw [h1, h2, h3] at h
 simp only [Bool.not_true, _root_.cond_false, Bool.or_self] at h
 have hkr : 1 ≤ kind ∧ kind ≤ 3 := by unfold inI at h1; simpa using h1
 by_cases hk : kind = 1
 ·subst hk
  simp only [beq_self_eq_true, _root_.cond_true] at h
  cases h4 : ((ds.length : Int) != 1) || decide ((data.length : Int) > 0) with
  | true => rw [h4] at h; exact absurd (show (2 : Int) = 0 from h) (by decide)
  | false =>
   rw [h4] at h
   simp only [Bool.or_eq_false_iff, bne_eq_false_iff_eq] at h4
   exact ⟨hkr, slot_in h2, fun _ => ⟨by omega, h⟩, fun hn => absurd rfl hn, fun h => by omega, fun h => by omega⟩
 ·have hk1 : (kind == 1) = false := by simpa using hk
  rw [hk1] at h
  simp only [_root_.cond_false] at h
  cases h4 : ((ds.length : Int) != 0) with
  | true => rw [h4] at h; exact absurd (show (2 : Int) = 0 from h) (by decide)
  | false =>
  rw [h4] at h
  simp only [_root_.cond_false] at h
  cases h5 : !known || ((kind == 3) && (decide (time < 0) || decide (last < 0))) with
  | true => rw [h5] at h; exact absurd (show (11 : Int) = 0 from h) (by decide)
  | false =>
  rw [h5] at h
  simp only [_root_.cond_false] at h
  cases h6 : ((data.length : Int) != (bif kind == 3 then size - 4 else size)) with
  | true => rw [h6] at h; exact absurd (show (2 : Int) = 0 from h) (by decide)
  | false =>
  simp only [bne_eq_false_iff_eq] at h4 h6
  simp only [Bool.or_eq_false_iff, Bool.not_eq_false'] at h5
  refine ⟨hkr, slot_in h2, fun h => absurd h hk, fun _ => ⟨h5.1, by omega⟩, fun h3' => ?_, fun h2' => ?_⟩
  ·subst h3'
   simp at h3 h5 h6
   unfold inI at h3
   simp at h3
   omega
  ·subst h2'
   simpa using h6
theorem put6 {a : Nat} {x0 x1 x2 x3 x4 x5 : D} (j : Nat) : let q := (((((p.put (0 + a * 6) x0).put (1 + a * 6) x1).put (2 + a * 6) x2).put (3 + a * 6) x3).put (4 + a * 6) x4).put (5 + a * 6) x5
  q.cell (0 + j * 6) = (if j = a then x0 else p.cell (0 + j * 6)) ∧ q.cell (1 + j * 6) = (if j = a then x1 else p.cell (1 + j * 6)) ∧ q.cell (2 + j * 6) = (if j = a then x2 else p.cell (2 + j * 6)) ∧
  q.cell (3 + j * 6) = (if j = a then x3 else p.cell (3 + j * 6)) ∧ q.cell (4 + j * 6) = (if j = a then x4 else p.cell (4 + j * 6)) ∧ q.cell (5 + j * 6) = (if j = a then x5 else p.cell (5 + j * 6)) := by
 simp only [cell_put]
 by_cases h : j = a
 ·subst h
  simp
 ·simp only [if_neg h]
  refine ⟨?_, ?_, ?_, ?_, ?_, ?_⟩ <;> rw [if_neg (by omega), if_neg (by omega), if_neg (by omega), if_neg (by omega), if_neg (by omega), if_neg (by omega)]
theorem put6_last {a : Nat} {x0 x1 x2 x3 x4 x5 : D} (ha : a < 16) : ((((((p.put (0 + a * 6) x0).put (1 + a * 6) x1).put (2 + a * 6) x2).put (3 + a * 6) x3).put (4 + a * 6) x4).put (5 + a * 6) x5).cell 96 = p.cell 96 := by
 simp only [cell_put]
 rw [if_neg (by omega), if_neg (by omega), if_neg (by omega), if_neg (by omega), if_neg (by omega), if_neg (by omega)]
theorem put4 {a : Nat} {x0 x1 x2 x3 : D} (ha : a < 16) (j : Nat) (hj : j < 16) : let q := (((s.put (0 + a * 1) x0).put (16 + a * 3) x1).put (17 + a * 3) x2).put (18 + a * 3) x3
  q.cell (0 + j * 1) = (if j = a then x0 else s.cell (0 + j * 1)) ∧ q.cell (16 + j * 3) = (if j = a then x1 else s.cell (16 + j * 3)) ∧ q.cell (17 + j * 3) = (if j = a then x2 else s.cell (17 + j * 3)) ∧
  q.cell (18 + j * 3) = (if j = a then x3 else s.cell (18 + j * 3)) ∧ q.cell 64 = s.cell 64 := by
 simp only [cell_put]
 refine ⟨?_, ?_, ?_, ?_, ?_⟩
 ·rw [if_neg (by omega), if_neg (by omega), if_neg (by omega)]
  by_cases h : j = a
  ·rw [if_pos (by omega), if_pos h]
  ·rw [if_neg (by omega), if_neg h]
 ·rw [if_neg (by omega), if_neg (by omega)]
  by_cases h : j = a
  ·rw [if_pos (by omega), if_pos h]
  ·rw [if_neg (by omega), if_neg (by omega), if_neg h]
 ·rw [if_neg (by omega)]
  by_cases h : j = a
  ·rw [if_pos (by omega), if_pos h]
  ·rw [if_neg (by omega), if_neg (by omega), if_neg (by omega), if_neg h]
 ·by_cases h : j = a
  ·rw [if_pos (by omega), if_pos h]
  ·rw [if_neg (by omega), if_neg (by omega), if_neg (by omega), if_neg (by omega), if_neg h]
 ·rw [if_neg (by omega), if_neg (by omega), if_neg (by omega), if_neg (by omega)]
theorem Slots.last (h : Slots p s) {x : D} : Slots p (s.put 64 x) := by
 have c2 : ∀ j : Nat, j < 16 → (s.put 64 x).cell (0 + j * 1) = s.cell (0 + j * 1) ∧ (s.put 64 x).cell (16 + j * 3) = s.cell (16 + j * 3) ∧ (s.put 64 x).cell (17 + j * 3) = s.cell (17 + j * 3) ∧ (s.put 64 x).cell (18 + j * 3) = s.cell (18 + j * 3) := fun j hj => by
  refine ⟨?_, ?_, ?_, ?_⟩ <;> rw [cell_put, if_neg (by omega)]
 refine ⟨fun j hj => ?_, fun j hj hk => ?_⟩
 ·rw [(c2 j hj).1]; exact h.known j hj
 ·rw [(c2 j hj).2.1, (c2 j hj).2.2.1, (c2 j hj).2.2.2]
  exact h.defs j hj hk
theorem Sim.more (h : Sim p s k) : Sim p s (k + 1) := ⟨h.toSlots, h.last, h.lo, by have := h.hi; omega⟩
theorem slice_ok {t : Int} (h0 : 0 ≤ t) (h1 : t + 4 ≤ data.length) (hl : data.length ≤ maxLen) (hb : BytesOk data) : IntKind.wrap .i64 (t + 4) = t + 4 ∧ ((data.take (t + 4).toNat).drop t.toNat).length = 4 ∧ BytesOk ((data.take (t + 4).toNat).drop t.toNat) := by
 have hm : maxLen = 9223372036854775807 := rfl
 exact ⟨wrapI (by omega) (by omega), by simp; omega, fun x hx => hb x (List.mem_of_mem_take (List.mem_of_mem_drop hx))⟩
end
end Go.Proofs.Ytnnofignhdijiaa

/-! Plain laws: CheckFile and Times of the program and of the reference are the same. -/
namespace Go.Proofs.Ytnnofignhdijiaa
open Go Go.AM
set_option maxRecDepth 100000
set_option maxHeartbeats 4000000
variable {N : Nat}
/-- An entry's lengths and bytes are possible. -/
def EntD (x : D) : Prop := EntL (x.cell 3).items (x.cell 4).items
/-- The reference's state at the beginning. -/
def zeroS : D := .a (List.replicate 16 (.b false) ++ (List.replicate 16 [D.b false, D.i 0, D.l true []]).flatten ++ [.i (-1)])
section
variable {es : List D}
end
end Go.Proofs.Ytnnofignhdijiaa

/-! Plain laws: Times. -/
namespace Go.Proofs.Ytnnofignhdijiaa
open Go Go.AM
set_option maxRecDepth 100000
set_option maxHeartbeats 4000000
set_option linter.unusedVariables false
variable {N : Nat}
section
variable {es : List D}
end
end Go.Proofs.Ytnnofignhdijiaa

/-! Plain laws: the sum; a piece of bytes; a definition's fields. -/
namespace Go.Proofs.Ytnnofignhdijiaa
open Go Go.AM
set_option maxRecDepth 100000
set_option maxHeartbeats 4000000
set_option linter.unusedVariables false
variable {N : Nat}
section
variable {bs : List D}
/-! ### A piece -/
theorem BytesOk.sub (hb : BytesOk bs) (a b : Nat) : BytesOk ((bs.take b).drop a) := fun x hx => hb x (List.mem_of_mem_take (List.mem_of_mem_drop hx))
theorem BytesOk.drop (hb : BytesOk bs) (a : Nat) : BytesOk (bs.drop a) := fun x hx => hb x (List.mem_of_mem_drop hx)
/-- The byte at a place. -/
def by_ (bs : List D) (i : Int) : Int := (bs.getD i.toNat (.i 0)).toI
end
end Go.Proofs.Ytnnofignhdijiaa

/-! Plain laws: how many bytes an entry takes. -/
namespace Go.Proofs.Ytnnofignhdijiaa
open Go Go.AM
set_option maxRecDepth 100000
set_option maxHeartbeats 4000000
set_option linter.unusedVariables false
variable {N : Nat}
section
variable {bs : List D}
end
end Go.Proofs.Ytnnofignhdijiaa

/-! Plain laws: one entry read (entries of the program, readEntry of the reference). -/
namespace Go.Proofs.Ytnnofignhdijiaa
open Go Go.AM
set_option maxRecDepth 100000
set_option maxHeartbeats 4000000
set_option linter.unusedVariables false
variable {N : Nat}
section
variable {bs : List D} {p s : D}
theorem clone_no {xs : List D} (h : xs.length ≤ 100000) : G129x0 N false xs = some (false, xs) := by
 have r1 : decide ((0 + xs.length) * 1 ≤ room) = true := decide_eq_true (by unfold room; omega)
 have r2 : decide (0 + xs.length ≤ strMax) = true := decide_eq_true (by unfold strMax; omega)
 unfold G129x0 F129x0
 rw [r1, r2]
 simp
end
end Go.Proofs.Ytnnofignhdijiaa

/-! Plain laws: a definition read; one entry read. -/
namespace Go.Proofs.Ytnnofignhdijiaa
open Go Go.AM
set_option maxRecDepth 100000
set_option maxHeartbeats 4000000
set_option linter.unusedVariables false
variable {N : Nat}
section
variable {bs : List D} {p s : D}
end
end Go.Proofs.Ytnnofignhdijiaa

/-! Plain laws: one entry read. -/
namespace Go.Proofs.Ytnnofignhdijiaa
open Go Go.AM
set_option maxRecDepth 100000
set_option maxHeartbeats 4000000
set_option linter.unusedVariables false
variable {N : Nat}
section
variable {bs : List D} {p s : D}
end
end Go.Proofs.Ytnnofignhdijiaa

/-! Plain laws: Read and Salvage. -/
namespace Go.Proofs.Ytnnofignhdijiaa
open Go Go.AM
set_option maxRecDepth 100000
set_option maxHeartbeats 4000000
set_option linter.unusedVariables false
variable {N : Nat}
section
variable {b : List D}
/-- A list of entries that are possible. -/
structure Lst (l : List D) : Prop where
 e : ∀ x ∈ l, EntD x
 n : l.length ≤ 10000000
theorem Lst.nil : Lst [] := ⟨by simp, by simp⟩
end
end Go.Proofs.Ytnnofignhdijiaa

/-! Plain laws: Salvage. -/
namespace Go.Proofs.Ytnnofignhdijiaa
open Go Go.AM
set_option maxRecDepth 100000
set_option maxHeartbeats 4000000
set_option linter.unusedVariables false
variable {N : Nat}
section
variable {b : List D}
end
end Go.Proofs.Ytnnofignhdijiaa

/-! Plain laws: what the law compares is the same as itself. -/
namespace Go.Proofs.Ytnnofignhdijiaa
open Go Go.AM
set_option maxRecDepth 100000
set_option maxHeartbeats 4000000
set_option linter.unusedVariables false
variable {N : Nat}
theorem zipAll_true : ∀ xs : List D, zipAll (fun _ _ => true) xs xs = true
 | [] => rfl
 | x :: r => by simp only [zipAll, Bool.true_and]; exact zipAll_true r
theorem inB_mem {xs : List D} {w : Int} (h : inB w xs.length = true) : xs.getD w.toNat (.i 0) ∈ xs := by
 unfold inB at h
 simp at h
 exact getD_mem h.1 h.2
/-- A loop over a list and itself that finds nothing. -/
theorem refl_ind {xs : List D} {S : Int → (Int → Option (Sum Unit Unit)) → Option (Sum Unit Unit)} {L : Nat → Int → Option (Sum Unit Unit)} (hL : ∀ m a, L (m + 1) a = S a (L m)) (hlen : xs.length ≤ maxLen)
  (hend : ∀ kr, S xs.length kr = some (.inr ()))
  (hstep : ∀ (w : Int) (kr : Int → Option (Sum Unit Unit)), decide (w < xs.length) = true → inB w xs.length = true → xs.getD w.toNat (.i 0) ∈ xs → S w kr = kr (IntKind.wrap .i64 (w + 1)))
  (hN : maxLen < N) : L N 0 = some (.inr ()) := by
 have := zip_ind (xs := xs) (ys := xs) (fun _ _ => true) hL hlen rfl hend (fun w kr h1 h2 _ => by rw [hstep w kr h1 h2 (inB_mem h2)]; rfl) hN
 rw [this, zipAll_true]
 rfl
section
variable {xs : List D}
theorem len_self (xs : List D) : ((xs.length : Int) != (xs.length : Int)) = false := by simp
theorem G140_refl (hN : maxLen < N) (hl : xs.length ≤ maxLen) : G140x0 N xs xs = some true := by
 have k : G140x0x12 N xs xs xs.length 0 = some (.inr ()) := by
  refine refl_ind (S := fun w kr => S140x0x12 N xs xs xs.length w kr _ _) (L := fun m w => L140x0x12 N xs xs xs.length m w _ _) (fun m w => rfl) hl (fun kr => by simp [S140x0x12]) (fun w kr h1 h2 h3 => ?_) hN
  unfold S140x0x12
  rw [h1, h2]
  simp [bnd_eq]
 unfold G140x0 F140x0
 rw [len_self, k]; rfl
theorem G25_refl (hN : maxLen < N) (hl : xs.length ≤ maxLen) : G25x0 N xs xs = some true := by
 have k : G25x0x12 N xs xs xs.length 0 = some (.inr ()) := by
  refine refl_ind (S := fun w kr => S25x0x12 N xs xs xs.length w kr _ _) (L := fun m w => L25x0x12 N xs xs xs.length m w _ _) (fun m w => rfl) hl (fun kr => by simp [S25x0x12]) (fun w kr h1 h2 h3 => ?_) hN
  unfold S25x0x12
  rw [h1, h2]
  simp [bnd_eq]
 unfold G25x0 F25x0
 rw [len_self, k]; rfl
theorem G104_refl (hN : maxLen < N) (hl : xs.length ≤ maxLen) (a : Bool) (g : Int) : G104x0 N a g xs a g xs = some true := by
 unfold G104x0 F104x0 G104x0x4 F104x0x4
 rw [G140_refl hN hl]
 simp [bnd_eq]
theorem G103_refl (hN : maxLen < N) (hl : xs.length ≤ maxLen) (hf : ∀ x ∈ xs, (x.cell 2).items.length ≤ maxLen) : G103x0 N xs xs = some true := by
 have k : G103x0x12 N xs xs xs.length 0 = some (.inr ()) := by
  refine refl_ind (S := fun w kr => S103x0x12 N xs xs xs.length w kr _ _) (L := fun m w => L103x0x12 N xs xs xs.length m w _ _) (fun m w => rfl) hl (fun kr => by simp [S103x0x12]) (fun w kr h1 h2 h3 => ?_) hN
  unfold S103x0x12
  rw [h1, h2, G104_refl hN (hf _ h3)]
  simp [bnd_eq]
 unfold G103x0 F103x0
 rw [len_self, k]; rfl
theorem G48_refl (hN : maxLen < N) {ds data : List D} (h : EntL ds data) (a b c : Int) : G48x0 N a b c ds data a b c ds data = some true := by
 unfold G48x0 F48x0 G48x0x4 F48x0x4
 rw [G103_refl hN h.d h.f, G25_refl hN h.b]
 simp [bnd_eq]
theorem G77_refl (hN : maxLen < N) (h : Lst xs) : G77x0 N xs xs = some true := by
 have hm : maxLen = 9223372036854775807 := rfl
 have hn := h.n
 have hl : xs.length ≤ maxLen := by omega
 have k : G77x0x12 N xs xs xs.length 0 = some (.inr ()) := by
  refine refl_ind (S := fun w kr => S77x0x12 N xs xs xs.length w kr _ _) (L := fun m w => L77x0x12 N xs xs xs.length m w _ _) (fun m w => rfl) hl (fun kr => by simp [S77x0x12]) (fun w kr h1 h2 h3 => ?_) hN
  unfold S77x0x12
  rw [h1, h2, G48_refl hN (h.e _ h3)]
  simp [bnd_eq]
 unfold G77x0 F77x0
 rw [len_self, k]; rfl
theorem G28_refl (hN : maxLen < N) (h : Lst xs) : G28x0 N xs xs = some true := by
 unfold G28x0 F28x0
 rw [G77_refl hN h]; rfl
end
end Go.Proofs.Ytnnofignhdijiaa

/-! Plain laws: what is known behind some entries, as plain functions. -/
namespace Go.Proofs.Ytnnofignhdijiaa
open Go Go.AM
set_option maxRecDepth 100000
set_option maxHeartbeats 4000000
set_option linter.unusedVariables false
variable {N : Nat}
abbrev kX (x : D) : Int := (x.cell 0).toI
abbrev sX (x : D) : Int := (x.cell 1).toI
abbrev oX (x : D) : Int := (x.cell 2).toI
abbrev dX (x : D) : List D := (x.cell 3).items
abbrev bX (x : D) : List D := (x.cell 4).items
/-- The definitions by slots, and the last time. -/
structure Ab where
 kn : Nat → Bool
 bg : Nat → Bool
 gl : Nat → Int
 fs : Nat → List D
 last : Int
def Ab.start : Ab := ⟨fun _ => false, fun _ => false, fun _ => 0, fun _ => [], -1⟩
def upA {α : Type} (f : Nat → α) (j : Nat) (x : α) : Nat → α := fun i => if i = j then x else f i
def timeC (a : Ab) (kind slot off : Int) (data : List D) : Int :=
 bif kind == 1 then -1 else bif kind == 3 then a.last + (off - a.last % 32 + 32) % 32 else
 bif decide (tmL 0 (a.fs slot.toNat) < 0) then -1 else
 bif numB ((data.take (tmL 0 (a.fs slot.toNat) + 4).toNat).drop (tmL 0 (a.fs slot.toNat)).toNat) (a.bg slot.toNat) == 4294967295 then -1 else numB ((data.take (tmL 0 (a.fs slot.toNat) + 4).toNat).drop (tmL 0 (a.fs slot.toNat)).toNat) (a.bg slot.toNat)
def stepD (a : Ab) (kind slot off : Int) (ds data : List D) : Ab :=
 bif kind == 1 then { a with kn := upA a.kn slot.toNat true, bg := upA a.bg slot.toNat ((ds.getD 0 (.i 0)).cell 0).toB, gl := upA a.gl slot.toNat ((ds.getD 0 (.i 0)).cell 1).toI, fs := upA a.fs slot.toNat ((ds.getD 0 (.i 0)).cell 2).items } else
 { a with last := bif decide (timeC a kind slot off data ≥ 0) then timeC a kind slot off data else a.last }
abbrev timeE (a : Ab) (x : D) : Int := timeC a (kX x) (sX x) (oX x) (bX x)
abbrev stepA (a : Ab) (x : D) : Ab := stepD a (kX x) (sX x) (oX x) (dX x) (bX x)
def errC (a : Ab) (kind slot off : Int) (ds data : List D) : Int := entE kind slot off ds data (a.kn slot.toNat) (szL (a.fs slot.toNat)) (tmL 0 (a.fs slot.toNat)) a.last
abbrev errE (a : Ab) (x : D) : Int := errC a (kX x) (sX x) (oX x) (dX x) (bX x)
structure SlP (p : D) (a : Ab) : Prop where
 kn : ∀ j : Nat, j < 16 → (p.cell (0 + j * 6)).toB = a.kn j
 df : ∀ j : Nat, j < 16 → a.kn j = true → FldsOk (a.fs j) ∧ (p.cell (1 + j * 6)).toB = a.bg j ∧ (p.cell (2 + j * 6)).toI = a.gl j ∧ (p.cell (3 + j * 6)).items = a.fs j ∧ (p.cell (4 + j * 6)).toI = szL (a.fs j) ∧ (p.cell (5 + j * 6)).toI = tmL 0 (a.fs j)
structure SlS (s : D) (a : Ab) : Prop where
 kn : ∀ j : Nat, j < 16 → (s.cell (0 + j * 1)).toB = a.kn j
 df : ∀ j : Nat, j < 16 → a.kn j = true → (s.cell (16 + j * 3)).toB = a.bg j ∧ (s.cell (17 + j * 3)).toI = a.gl j ∧ (s.cell (18 + j * 3)).items = a.fs j
/-- The program's walk and the reference's state stand for a; k: how many entries came. -/
structure Wk (p s : D) (a : Ab) (k : Int) : Prop where
 pp : SlP p a
 ss : SlS s a
 lp : (p.cell 96).toI = a.last
 ls : (s.cell 64).toI = a.last
 lo : -1 ≤ a.last
 hi : a.last ≤ 4294967295 + 32 * k
theorem slots_of {p s : D} {a : Ab} (hp : SlP p a) (hs : SlS s a) : Slots p s :=
 ⟨fun j hj => by rw [hp.kn j hj, hs.kn j hj], fun j hj hk => by
  rw [hp.kn j hj] at hk
  obtain ⟨p1, p2, p3, p4, p5, p6⟩ := hp.df j hj hk
  obtain ⟨s1, s2, s3⟩ := hs.df j hj hk
  rw [p2, p3, p4, p5, p6, s1, s2, s3]
  exact ⟨p1, rfl, rfl, rfl, rfl, rfl⟩⟩
theorem Wk.sim {p s : D} {a : Ab} {k : Int} (h : Wk p s a k) : Sim p s k := ⟨slots_of h.pp h.ss, by rw [h.lp, h.ls], by rw [h.lp]; exact h.lo, by rw [h.lp]; exact h.hi⟩
theorem entE_known {kind slot off : Int} {ds data : List D} {size time size' time' last : Int} : entE kind slot off ds data false size time last = entE kind slot off ds data false size' time' last := by
 unfold entE; rfl
theorem err_of {p : D} {a : Ab} (hp : SlP p a) (lp : (p.cell 96).toI = a.last) {kind slot off : Int} {ds data : List D} : entE kind slot off ds data (p.cell (0 + slot.toNat * 6)).toB (p.cell (4 + slot.toNat * 6)).toI (p.cell (5 + slot.toNat * 6)).toI (p.cell 96).toI = errC a kind slot off ds data := by
 unfold errC
 rw [lp]
 by_cases h1 : inI slot 0 (bif kind == 3 then 3 else 15) = true
 ·obtain ⟨_, h2⟩ := slot_in h1
  rw [hp.kn _ h2]
  cases hk : a.kn slot.toNat with
  | false => exact entE_known
  | true =>
   obtain ⟨_, _, _, _, p5, p6⟩ := hp.df _ h2 hk
   rw [p5, p6]
 ·have h1 : inI slot 0 (bif kind == 3 then 3 else 15) = false := by simpa using h1
  unfold entE
  rw [h1]
  rfl
section
variable {kind slot off : Int} {ds data : List D} {p s : D} {a : Ab} {k : Int}
theorem slP_put (hp : SlP p a) {j : Nat} (i2 : j < 16) {big : Bool} {g : Int} {nl : Bool} {fs : List D} (hf : FldsOk fs) {last : Int} :
  SlP ((((((p.put (0 + j * 6) (.b true)).put (1 + j * 6) (.b big)).put (2 + j * 6) (.i g)).put (3 + j * 6) (.l nl fs)).put (4 + j * 6) (.i (szL fs))).put (5 + j * 6) (.i (tmL 0 fs))) { kn := upA a.kn j true, bg := upA a.bg j big, gl := upA a.gl j g, fs := upA a.fs j fs, last := last } := by
 refine ⟨fun i hi => ?_, fun i hi hkn => ?_⟩
 ·rw [(put6 i).1]
  unfold upA
  by_cases h : i = j
  ·simp only [if_pos h]; rfl
  ·simp only [if_neg h]; exact hp.kn i hi
 ·obtain ⟨a0, a1, a2, a3, a4, a5⟩ := put6 (p := p) (a := j) (x0 := .b true) (x1 := .b big) (x2 := .i g) (x3 := .l nl fs) (x4 := .i (szL fs)) (x5 := .i (tmL 0 fs)) i
  rw [a1, a2, a3, a4, a5]
  unfold upA at hkn ⊢
  by_cases h : i = j
  ·simp only [if_pos h]
   refine ⟨hf, ?_, ?_, ?_, ?_, ?_⟩ <;> first | trivial | rfl
  ·simp only [if_neg h] at hkn ⊢
   exact hp.df i hi hkn
theorem slS_put (hs : SlS s a) {j : Nat} (i2 : j < 16) {big : Bool} {g : Int} {nl : Bool} {fs : List D} {last : Int} :
  SlS ((((s.put (0 + j * 1) (.b true)).put (16 + j * 3) (.b big)).put (17 + j * 3) (.i g)).put (18 + j * 3) (.l nl fs)) { kn := upA a.kn j true, bg := upA a.bg j big, gl := upA a.gl j g, fs := upA a.fs j fs, last := last } := by
 refine ⟨fun i hi => ?_, fun i hi hkn => ?_⟩
 ·rw [(put4 i2 i hi).1]
  unfold upA
  by_cases h : i = j
  ·simp only [if_pos h]; rfl
  ·simp only [if_neg h]; exact hs.kn i hi
 ·obtain ⟨b0, b1, b2, b3, _⟩ := put4 (s := s) (x0 := .b true) (x1 := .b big) (x2 := .i g) (x3 := .l nl fs) i2 i hi
  rw [b1, b2, b3]
  unfold upA at hkn ⊢
  by_cases h : i = j
  ·simp only [if_pos h]
   refine ⟨?_, ?_, ?_⟩ <;> first | trivial | rfl
  ·simp only [if_neg h] at hkn ⊢
   exact hs.df i hi hkn
theorem slP_last (hp : SlP p a) {x : D} {l : Int} : SlP (p.put 96 x) { a with last := l } := by
 have c1 : ∀ c j : Nat, c < 6 → j < 16 → (p.put 96 x).cell (c + j * 6) = p.cell (c + j * 6) := fun c j hc hj => by rw [cell_put, if_neg (by omega)]
 refine ⟨fun j hj => ?_, fun j hj hk => ?_⟩
 ·rw [c1 0 j (by omega) hj]; exact hp.kn j hj
 ·rw [c1 1 j (by omega) hj, c1 2 j (by omega) hj, c1 3 j (by omega) hj, c1 4 j (by omega) hj, c1 5 j (by omega) hj]
  exact hp.df j hj hk
theorem slS_last (hs : SlS s a) {x : D} {l : Int} : SlS (s.put 64 x) { a with last := l } := by
 have c2 : ∀ j : Nat, j < 16 → (s.put 64 x).cell (0 + j * 1) = s.cell (0 + j * 1) ∧ (s.put 64 x).cell (16 + j * 3) = s.cell (16 + j * 3) ∧ (s.put 64 x).cell (17 + j * 3) = s.cell (17 + j * 3) ∧ (s.put 64 x).cell (18 + j * 3) = s.cell (18 + j * 3) := fun j hj => by
  refine ⟨?_, ?_, ?_, ?_⟩ <;> rw [cell_put, if_neg (by omega)]
 refine ⟨fun j hj => ?_, fun j hj hk => ?_⟩
 ·rw [(c2 j hj).1]; exact hs.kn j hj
 ·rw [(c2 j hj).2.1, (c2 j hj).2.2.1, (c2 j hj).2.2.2]
  exact hs.df j hj hk
theorem Wk.put (h : Wk p s a k) {t : Int} (h0 : 0 ≤ t) (h1 : t ≤ 4294967295 + 32 * (k + 1)) : Wk (p.put 96 (.i t)) (s.put 64 (.i t)) { a with last := t } (k + 1) :=
 ⟨slP_last h.pp, slS_last h.ss, by simp [cell_put, D.toI], by simp [cell_put, D.toI], by simp only; omega, h1⟩
theorem Wk.more (h : Wk p s a k) : Wk p s a (k + 1) := ⟨h.pp, h.ss, h.lp, h.ls, h.lo, by have := h.hi; omega⟩
theorem take_abs (hN : maxLen < N) (hs : Wk p s a k) (he : EntL ds data) (h0 : 0 ≤ k) (h1 : k ≤ 100000) (hE : errC a kind slot off ds data = 0) :
  ∃ p' s', G72x0 N kind slot off ds data p = some (timeC a kind slot off data, p') ∧ G74x0 N kind slot off ds data s = some (timeC a kind slot off data, s') ∧ Wk p' s' (stepD a kind slot off ds data) (k + 1) := by
 have hm : maxLen = 9223372036854775807 := rfl
 have hE := entE_ok hE
 obtain ⟨i1, i2⟩ := hE.s
 unfold G72x0 F72x0 G72x0x15014 F72x0x15014 G74x0 F74x0 stepD timeC
 have e38 : ∀ q, V72x0x38 N (-1) false q = q := fun q => rfl
 rw [i1]
 by_cases hk1 : kind = 1
 ·subst hk1
  obtain ⟨d1, d2⟩ := hE.d rfl
  have hf := defE_ok d2
  have q1 := G123x0_eq hN hf
  simp only [beq_self_eq_true, _root_.cond_true, inB_of (i := 0) (n := ds.length) (by omega) (by omega), bnd_eq, q1, Option.isSome_some, getD_some]
  have e1 : decide ((-1 : Int) ≥ 0) = false := by decide
  rw [e1, e38]
  refine ⟨_, _, rfl, rfl, ?_⟩
  refine ⟨slP_put hs.pp i2 hf, slS_put hs.ss i2, ?_, ?_, hs.lo, by have := hs.hi; simp only; omega⟩
  ·rw [put6_last i2]; exact hs.lp
  ·rw [(put4 i2 0 (by omega)).2.2.2.2]; exact hs.ls
 ·have hk1' : (kind == 1) = false := by simpa using hk1
  obtain ⟨kn, _⟩ := hE.n hk1
  obtain ⟨d1, d2, d3, d4, d5, d6⟩ := hs.pp.df _ i2 kn
  obtain ⟨s2, s3, s4⟩ := hs.ss.df _ i2 kn
  unfold G72x0x21020 F72x0x21020
  rw [hk1']
  simp only [_root_.cond_false, bnd_eq, hs.lp, hs.ls, d2, d6, s2, s4]
  have hlo := hs.lo
  have hhi := hs.hi
  by_cases hk3 : kind = 3
  ·subst hk3
   obtain ⟨t0, l0, o0, o1, _⟩ := hE.h rfl
   have m0 : a.last.tmod 32 = a.last % 32 := Int.tmod_eq_emod_of_nonneg l0
   have w1 : IntKind.wrap .i64 (off - a.last % 32) = off - a.last % 32 := wrapI (by omega) (by omega)
   have w2 : IntKind.wrap .i64 (off - a.last % 32 + 32) = off - a.last % 32 + 32 := wrapI (by omega) (by omega)
   have m1 : (off - a.last % 32 + 32).tmod 32 = (off - a.last % 32 + 32) % 32 := Int.tmod_eq_emod_of_nonneg (by omega)
   have w3 : IntKind.wrap .i64 (a.last + (off - a.last % 32 + 32) % 32) = a.last + (off - a.last % 32 + 32) % 32 := wrapI (by omega) (by omega)
   simp only [beq_self_eq_true, _root_.cond_true, m0, w1, w2, m1, w3, Option.isSome_some, getD_some, V72x0x38, F72x0x38]
   rw [decide_eq_true (show a.last + (off - a.last % 32 + 32) % 32 ≥ 0 by omega)]
   simp only [_root_.cond_true]
   refine ⟨_, _, rfl, ?_, hs.put (t := a.last + (off - a.last % 32 + 32) % 32) (by omega) (by omega)⟩
   rw [cell_put, if_pos rfl]
   rfl
  ·have hk2 : kind = 2 := by have := hE.k; omega
   subst hk2
   have hlen := hE.t rfl
   have e3 : ((2 : Int) == 3) = false := by decide
   rw [e3]
   unfold G72x0x26 F72x0x26
   rw [G79x0_eq hN d1]
   have tb := tmL_bound (a := 0) (by omega) d1.size
   by_cases ht : tmL 0 (a.fs slot.toNat) < 0
   ·rw [decide_eq_true ht, decide_eq_false (by omega : ¬ tmL 0 (a.fs slot.toNat) ≥ 0)]
    have e1 : decide ((-1 : Int) ≥ 0) = false := by decide
    refine ⟨p, s, ?_, ?_, hs.more⟩
    ·rfl
    ·rfl
   ·rw [decide_eq_false ht, decide_eq_true (by omega : tmL 0 (a.fs slot.toNat) ≥ 0)]
    have h4 : tmL 0 (a.fs slot.toNat) + 4 ≤ data.length := by rw [hlen]; omega
    generalize tmL 0 (a.fs slot.toNat) = tm at ht h4 ⊢
    obtain ⟨s1, s2, s3⟩ := slice_ok (by omega) h4 he.b he.y
    have nb := numB_bound s3 (a.bg slot.toNat) (by omega)
    have c0 : decide ((0 : Int) ≤ tm) = true := decide_eq_true (by omega)
    have c1 : decide (tm ≤ tm + 4) = true := decide_eq_true (by omega)
    have c2 : decide (tm + 4 ≤ (data.length : Int)) = true := decide_eq_true (by omega)
    have q1 := G81x0_eq hN s3 (a.bg slot.toNat) (by omega)
    have q2 := G83x0_eq hN s3 (a.bg slot.toNat) (by omega)
    simp only [_root_.cond_true, _root_.cond_false, bnd_eq, Bool.and_self, s1, c0, c1, c2, q1, q2, missing4, Option.isSome_some, getD_some, V72x0x32, F72x0x32, Bool.not_true, V72x0x38, F72x0x38]
    generalize numB ((data.take (tm + 4).toNat).drop tm.toNat) (a.bg slot.toNat) = n at nb ⊢
    by_cases hn : n = 4294967295
    ·subst hn
     exact ⟨p, s, rfl, rfl, hs.more⟩
    ·have e4 : (n != 4294967295) = true := by simpa using hn
     have e5 : (n == 4294967295) = false := by simpa using hn
     rw [e4, e5]
     simp only [_root_.cond_true, _root_.cond_false]
     rw [decide_eq_true (show n ≥ 0 by omega)]
     simp only [_root_.cond_true]
     exact ⟨_, _, rfl, rfl, hs.put (by omega) (by omega)⟩
end
/-! ### Files -/
def errsA : Ab → List D → Int
 | _, [] => 0
 | a, x :: r => bif errE a x != 0 then errE a x else errsA (stepA a x) r
def timesA : Ab → List D → List Int
 | _, [] => []
 | a, x :: r => timeE a x :: timesA (stepA a x) r
theorem start_wk {p : D} (hp : (List.range 16).all (fun j => !(p.cell (0 + j * 6)).toB && !(zeroS.cell (0 + j * 1)).toB) = true) (hl : (p.cell 96).toI = -1) : Wk p zeroS Ab.start 0 := by
 have h : ∀ j : Nat, j < 16 → (p.cell (0 + j * 6)).toB = false ∧ (zeroS.cell (0 + j * 1)).toB = false := fun j hj => by
  have := List.all_eq_true.1 hp j (List.mem_range.2 hj)
  simpa using this
 exact ⟨⟨fun j hj => (h j hj).1, fun j hj hk => absurd hk (by simp [Ab.start])⟩, ⟨fun j hj => (h j hj).2, fun j hj hk => absurd hk (by simp [Ab.start])⟩, hl, by kernel_rfl, by decide, by decide⟩
theorem start70 : Wk (V70x0 N) zeroS Ab.start 0 := start_wk (by kernel_rfl) (by kernel_rfl)
/-- CheckFile, as a plain function. -/
def fileE (es : List D) : Int := bif decide ((es.length : Int) > 50000) then 3 else errsA Ab.start es
section
variable {es : List D}
theorem check_loopA (hN : maxLen < N) (hes : ∀ x ∈ es, EntD x) (hl : es.length ≤ 50000) : ∀ (m : Nat) (i : Int) (p s : D) (a : Ab), 0 ≤ i → i ≤ es.length → (es.length - i).toNat < m → Wk p s a i →
  L22x0x15 N es es.length m i p (fun p => some (Sum.inl p)) (fun p => some (Sum.inr p)) = some (bif errsA a (es.drop i.toNat) != 0 then .inl (errsA a (es.drop i.toNat)) else .inr ()) ∧
  L23x0x15 N es es.length m i s (fun p => some (Sum.inl p)) (fun p => some (Sum.inr p)) = some (bif errsA a (es.drop i.toNat) != 0 then .inl (errsA a (es.drop i.toNat)) else .inr ()) := by
 intro m
 induction m with
 | zero => intro i p s a _ _ h; omega
 | succ m ih =>
  intro i p s a h0 h1 hm hs
  unfold L22x0x15 L23x0x15 S22x0x15 S23x0x15
  by_cases hi : i < es.length
  ·have he : EntD _ := hes _ (getD_mem (fs := es) h0 hi)
   rw [decide_eq_true hi, inB_of h0 hi, G71x0_eq hN hs.sim he, G73x0_eq hN hs.sim he, err_of hs.pp hs.lp, drop_at (.i 0) h0 hi]
   simp only [_root_.cond_true, bnd_eq, Option.isSome_some, getD_some, errsA]
   cases hz : (errE a (es.getD i.toNat (.i 0)) != 0) with
   | false =>
    have hz' : errE a (es.getD i.toNat (.i 0)) = 0 := by simpa using hz
    obtain ⟨p', s', q1, q2, hs'⟩ := take_abs hN hs he h0 (by omega) hz'
    rw [q1, q2]
    simp only [_root_.cond_false, Option.isSome_some, _root_.cond_true, getD_some, wrapI (x := i + 1) (by omega) (by omega)]
    exact ih (i + 1) p' s' _ (by omega) (by omega) (by omega) hs'
   | true =>
    simp only [_root_.cond_true, hz]
    exact ⟨trivial, trivial⟩
  ·have : i = es.length := by omega
   subst this
   rw [decide_eq_false hi, drop_end (by omega)]
   exact ⟨rfl, rfl⟩
theorem check_fileA (hN : maxLen < N) (hes : ∀ x ∈ es, EntD x) : G22x0 N es = some (fileE es) ∧ G23x0 N es = some (fileE es) := by
 unfold fileE
 by_cases hl : (es.length : Int) > 50000
 ·unfold G22x0 F22x0 G23x0 F23x0
  rw [decide_eq_true hl]; exact ⟨rfl, rfl⟩
 ·have hm : maxLen = 9223372036854775807 := rfl
  obtain ⟨q1, q2⟩ := check_loopA hN hes (by omega) N 0 (V70x0 N) zeroS Ab.start (by omega) (by omega) (by omega) start70
  have k1 : G22x0x15 N es es.length 0 (V70x0 N) = _ := q1
  have k2 : G23x0x15 N es es.length 0 zeroS = _ := q2
  have k3 : G22x0 N es = bnd (G22x0x15 N es es.length 0 (V70x0 N)) (fun y1 => bif inlB y1 then some (inlV y1) else bif (inrQ y1).isSome then some 0 else none) := by
   unfold G22x0 F22x0
   rw [decide_eq_false hl]; rfl
  have k4 : G23x0 N es = bnd (G23x0x15 N es es.length 0 zeroS) (fun y1 => bif inlB y1 then some (inlV y1) else bif (inrQ y1).isSome then some 0 else none) := by
   unfold G23x0 F23x0
   rw [decide_eq_false hl]; rfl
  rw [k3, k4, k1, k2, decide_eq_false hl]
  simp only [show (0 : Int).toNat = 0 from rfl, List.drop_zero, _root_.cond_false]
  cases h : errsA Ab.start es != 0 with
  | true => exact ⟨rfl, rfl⟩
  | false =>
   have : errsA Ab.start es = 0 := by simpa using h
   rw [this]; exact ⟨rfl, rfl⟩
theorem errs_cons {a : Ab} {x : D} {r : List D} (h : errsA a (x :: r) = 0) : errE a x = 0 ∧ errsA (stepA a x) r = 0 := by
 simp only [errsA] at h
 cases hz : (errE a x != 0) with
 | true =>
  rw [hz] at h
  simp only [_root_.cond_true] at h
  rw [h] at hz; simp at hz
 | false =>
  rw [hz] at h
  exact ⟨by simpa using hz, h⟩
theorem fileE_ok (h : fileE es = 0) : es.length ≤ 50000 ∧ errsA Ab.start es = 0 := by
 unfold fileE at h
 by_cases hl : (es.length : Int) > 50000
 ·rw [decide_eq_true hl] at h; exact absurd (show (3 : Int) = 0 from h) (by decide)
 ·rw [decide_eq_false hl] at h; exact ⟨by omega, h⟩
end
end Go.Proofs.Ytnnofignhdijiaa

/-! Plain laws: the bytes of an entry; Write. -/
namespace Go.Proofs.Ytnnofignhdijiaa
open Go Go.AM
set_option maxRecDepth 100000
set_option maxHeartbeats 4000000
set_option linter.unusedVariables false
variable {N : Nat}
/-- A byte of a number. -/
def bt (n i : Int) : D := .i (IntKind.wrap .u8 (n.fdiv (2 ^ (min (IntKind.wrap .i64 (8 * i)).toNat 64))))
def nb1 (n : Int) : List D := [bt n 0]
def nb2 (n : Int) (big : Bool) : List D := bif big then [bt n 1, bt n 0] else [bt n 0, bt n 1]
def nb4 (n : Int) (big : Bool) : List D := bif big then [bt n 3, bt n 2, bt n 1, bt n 0] else [bt n 0, bt n 1, bt n 2, bt n 3]
theorem fuel (hN : maxLen < N) (j : Nat) (hj : j ≤ 1000) : ∃ k, N = k + j := by
 have hm : maxLen = 9223372036854775807 := rfl
 exact ⟨N - j, by omega⟩
theorem P67_1 (hN : maxLen < N) (n : Int) (big : Bool) : G67x0 N n 1 big = some (nb1 n) := by
 obtain ⟨k, rfl⟩ := fuel hN 8 (by omega)
 cases big <;> kernel_rfl
theorem P67_2 (hN : maxLen < N) (n : Int) (big : Bool) : G67x0 N n 2 big = some (nb2 n big) := by
 obtain ⟨k, rfl⟩ := fuel hN 8 (by omega)
 cases big <;> kernel_rfl
theorem P67_4 (hN : maxLen < N) (n : Int) (big : Bool) : G67x0 N n 4 big = some (nb4 n big) := by
 obtain ⟨k, rfl⟩ := fuel hN 8 (by omega)
 cases big <;> kernel_rfl
theorem P69_1 (hN : maxLen < N) (n : Int) (big : Bool) : G69x0 N n 1 big = some (nb1 n) := by
 obtain ⟨k, rfl⟩ := fuel hN 8 (by omega)
 cases big <;> kernel_rfl
theorem P69_2 (hN : maxLen < N) (n : Int) (big : Bool) : G69x0 N n 2 big = some (nb2 n big) := by
 obtain ⟨k, rfl⟩ := fuel hN 8 (by omega)
 cases big <;> kernel_rfl
theorem P69_4 (hN : maxLen < N) (n : Int) (big : Bool) : G69x0 N n 4 big = some (nb4 n big) := by
 obtain ⟨k, rfl⟩ := fuel hN 8 (by omega)
 cases big <;> kernel_rfl
/-! ### An entry's bytes -/
def u8 (n : Int) : D := .i (IntKind.wrap .u8 n)
theorem nb2_len (n : Int) (big : Bool) : (nb2 n big).length = 2 := by cases big <;> rfl
theorem nb4_len (n : Int) (big : Bool) : (nb4 n big).length = 4 := by cases big <;> rfl
/-- What a right entry is. -/
theorem ent_ok {a : Ab} {kind slot off : Int} {ds data : List D} (hf : a.kn slot.toNat = true → FldsOk (a.fs slot.toNat)) (h : errC a kind slot off ds data = 0) :
  (1 ≤ kind ∧ kind ≤ 3) ∧ (0 ≤ slot ∧ slot ≤ 15) ∧ (0 ≤ off ∧ off ≤ 31) ∧ (kind = 1 → ds.length = 1 ∧ ((ds.getD 0 (.i 0)).cell 2).items.length ≤ 255) ∧ data.length ≤ 65025 := by
 have hE := entE_ok h
 have hin : inI slot 0 (bif kind == 3 then 3 else 15) = true ∧ inI off 0 (bif kind == 3 then 31 else 0) = true ∧ (kind = 1 → data.length = 0) := by
  unfold errC entE at h
  cases h1 : inI kind 1 3 with
  | false => rw [h1] at h; exact absurd (show (7 : Int) = 0 from h) (by decide)
  | true =>
  cases h2 : inI slot 0 (bif kind == 3 then 3 else 15) with
  | false => rw [h1, h2] at h; exact absurd (show (9 : Int) = 0 from h) (by decide)
  | true =>
  cases h3 : inI off 0 (bif kind == 3 then 31 else 0) with
  | false => rw [h1, h2, h3] at h; exact absurd (show (9 : Int) = 0 from h) (by decide)
  | true =>
   refine ⟨rfl, rfl, fun hk => ?_⟩
   subst hk
   rw [h1, h2, h3] at h
   cases h4 : ((ds.length : Int) != 1) || decide ((data.length : Int) > 0) with
   | true => simp only [Bool.not_true, _root_.cond_false, Bool.or_self, beq_self_eq_true, _root_.cond_true, h4] at h; exact absurd h (by decide)
   | false => simp at h4; simp [h4.2]
 obtain ⟨n1, n2, n3⟩ := hin
 have m1 : 0 ≤ slot ∧ slot ≤ 15 := by cases hk : kind == 3 <;> rw [hk] at n1 <;> unfold inI at n1 <;> simp at n1 <;> omega
 have m2 : 0 ≤ off ∧ off ≤ 31 := by cases hk : kind == 3 <;> rw [hk] at n2 <;> unfold inI at n2 <;> simp at n2 <;> omega
 refine ⟨hE.k, m1, m2, fun hk => ⟨(hE.d hk).1, (defE_ok (hE.d hk).2).len⟩, ?_⟩
 by_cases hk : kind = 1
 ·rw [n3 hk]; omega
 ·have := hf (hE.n hk).1
  have sb := szL_bound this.size
  have := this.len
  by_cases hk3 : kind = 3
  ·have := (hE.h hk3).2.2.2.2; omega
  ·have := hE.t (by have := hE.k; omega); omega
/-- All slots have right definitions. -/
def OkA (a : Ab) : Prop := ∀ j, a.kn j = true → FldsOk (a.fs j)
theorem OkA.step {a : Ab} (h : OkA a) {x : D} (hx : errE a x = 0) : OkA (stepA a x) := by
 unfold stepA stepD
 cases hk : kX x == 1 with
 | true =>
  have hE := entE_ok hx
  have hf := defE_ok (hE.d (by simpa using hk)).2
  intro j hj
  simp only [_root_.cond_true, upA] at hj ⊢
  by_cases e : j = (sX x).toNat
  ·simp only [if_pos e]; exact hf
  ·simp only [if_neg e] at hj ⊢; exact h j hj
 | false => exact h
theorem OkA.start : OkA Ab.start := fun j hj => by simp [Ab.start] at hj
section
variable {es : List D}
end
end Go.Proofs.Ytnnofignhdijiaa

/-! Plain laws: slices.Concat; Write; what the law of files compares. -/
namespace Go.Proofs.Ytnnofignhdijiaa
open Go Go.AM
set_option maxRecDepth 100000
set_option maxHeartbeats 4000000
set_option linter.unusedVariables false
variable {N : Nat}
def catL : List D → List D
 | [] => []
 | x :: r => x.items ++ catL r
section
variable {ps : List D}
theorem catL_drop {w : Int} (h0 : 0 ≤ w) (h1 : w < ps.length) : (catL (ps.drop w.toNat)).length = (ps.getD w.toNat (.i 0)).items.length + (catL (ps.drop (w + 1).toNat)).length := by
 rw [drop_at (.i 0) h0 h1]; simp [catL]
theorem concat_eq (hN : maxLen < N) (hp : ps.length ≤ 1000) (hc : (catL ps).length ≤ 10000000000) : ∃ b, G66x0 N ps = some (b, catL ps) := by
 have hm : maxLen = 9223372036854775807 := rfl
 have k1 : G66x0x9 N ps ps.length 0 0 = some ((catL ps).length : Int) := by
  have key := loop_ind (A := Int × Int) (X := Option Int) (S := fun x kr => S66x0x9 N ps ps.length x.1 x.2 (fun a b => kr (a, b)) (fun p => some p)) (L := fun m x => L66x0x9 N ps ps.length m x.1 x.2 (fun p => some p)) (fun m x => rfl)
   (fun x => some (x.1 + ((catL (ps.drop x.2.toNat)).length : Int))) (fun x => 0 ≤ x.2 ∧ x.2 ≤ ps.length ∧ 0 ≤ x.1 ∧ x.1 + ((catL (ps.drop x.2.toNat)).length : Int) ≤ 10000000000) (fun x => (ps.length - x.2).toNat) ?_ N (0, 0) ⟨by decide, by show (0 : Int) ≤ _; omega, by decide, by simp; omega⟩ (by simp; omega)
  ·refine Eq.trans key ?_; simp
  ·rintro ⟨a, w⟩ kr ⟨h0, h1, h2, h3⟩ ih
   simp only at h0 h1 h2 h3 ih ⊢
   unfold S66x0x9
   by_cases hw : w < ps.length
   ·have := catL_drop h0 hw
    rw [decide_eq_true hw, inB_of h0 hw, wrapI (x := a + _) (by omega) (by omega), wrapI (x := w + 1) (by omega) (by omega)]
    simp only [_root_.cond_true, bnd_eq]
    rw [decide_eq_false (show ¬ a + ((ps.getD w.toNat (.i 0)).items.length : Int) < 0 by omega)]
    simp only [_root_.cond_false]
    rw [ih (_, w + 1) ⟨by simp only; omega, by simp only; omega, by simp only; omega, by simp only; omega⟩ (by simp only; omega)]
    simp only; congr 1; omega
   ·have : w = ps.length := by omega
    subst this
    rw [decide_eq_false hw, drop_end (by omega)]
    simp [catL]
 have k3 : ∀ b0 : Bool, ∃ b, G66x0x33 N ps ps.length 0 b0 [] = some (b, catL ps) := by
  intro b0
  have key := loop_indE (A := Int × Bool × LD) (X := Option (Bool × LD)) (S := fun x kr => S66x0x33 N ps ps.length x.1 x.2.1 x.2.2 (fun a b c => kr (a, b, c)) (fun p => some p)) (L := fun m x => L66x0x33 N ps ps.length m x.1 x.2.1 x.2.2 (fun p => some p)) (fun m x => rfl)
   (fun x r => ∃ b, r = some (b, x.2.2 ++ catL (ps.drop x.1.toNat))) (fun x => 0 ≤ x.1 ∧ x.1 ≤ ps.length ∧ (x.2.2.length : Int) + ((catL (ps.drop x.1.toNat)).length : Int) ≤ 10000000000) (fun x => (ps.length - x.1).toNat) ?_ N (0, b0, []) ⟨by show (0 : Int) ≤ 0; omega, by show (0 : Int) ≤ _; omega, by simp; omega⟩ (by simp; omega)
  ·obtain ⟨b, q⟩ := key; exact ⟨b, q⟩
  ·rintro ⟨w, b, acc⟩ kr ⟨h0, h1, h2⟩ ih
   simp only at h0 h1 h2 ih ⊢
   unfold S66x0x33
   by_cases hw : w < ps.length
   ·have := catL_drop h0 hw
    have r1 : decide ((acc.length + (ps.getD w.toNat (.i 0)).items.length) * 1 ≤ room) = true := decide_eq_true (by unfold room; omega)
    have r2 : decide (acc.length + (ps.getD w.toNat (.i 0)).items.length ≤ strMax) = true := decide_eq_true (by unfold strMax; omega)
    rw [decide_eq_true hw, inB_of h0 hw, r1, r2, wrapI (x := w + 1) (by omega) (by omega), drop_at (.i 0) h0 hw]
    simp only [_root_.cond_true, Bool.and_self]
    obtain ⟨b', q⟩ := ih (w + 1, (ps.getD w.toNat (.i 0)).items.isEmpty && b, acc ++ (ps.getD w.toNat (.i 0)).items) ⟨by simp only; omega, by simp only; omega, by simp only [List.length_append]; omega⟩ (by simp only; omega)
    exact ⟨b', q.trans (by simp [catL])⟩
   ·have : w = ps.length := by omega
    subst this
    rw [decide_eq_false hw, drop_end (by omega)]
    exact ⟨b, by simp [catL]⟩
 have k2 : ∃ r, G66x0x28 N ((catL ps).length : Int) = some r := by
  unfold G66x0x28 F66x0x28 G120x0 F120x0 G120x0x17 F120x0x17
  rw [decide_eq_false (show ¬ ((catL ps).length : Int) < 0 by omega), Int.sub_zero, wrapI (by omega) (by omega)]
  by_cases h0 : ((catL ps).length : Int) > 0
  ·have r1 : decide (((catL ps).length : Int).toNat * 1 ≤ room) = true := decide_eq_true (by unfold room; omega)
   have r2 : decide (((catL ps).length : Int).toNat ≤ strMax) = true := decide_eq_true (by unfold strMax; omega)
   rw [decide_eq_true h0, r1, r2, decide_eq_true (show (0 : Int) ≤ ((catL ps).length : Int) by omega), decide_eq_true (show (0 : Int) ≤ ((List.replicate ((catL ps).length : Int).toNat (D.i 0)).length : Int) by omega)]
   exact ⟨_, rfl⟩
  ·rw [decide_eq_false h0]
   exact ⟨_, rfl⟩
 obtain ⟨r, k2⟩ := k2
 unfold G66x0 F66x0
 rw [k1]
 simp only [bnd_eq, Option.isSome_some, _root_.cond_true, getD_some, k2]
 cases r with
 | inl b0 =>
  obtain ⟨b, q⟩ := k3 b0
  exact ⟨b, by simp [inlB, inlV, q]⟩
 | inr u =>
  obtain ⟨b, q⟩ := k3 true
  exact ⟨b, by simp [inlB, inrQ, q]⟩
end
theorem BytesOk.append {a b : List D} (h1 : BytesOk a) (h2 : BytesOk b) : BytesOk (a ++ b) := fun x hx => by
 rcases List.mem_append.1 hx with h | h
 ·exact h1 x h
 ·exact h2 x h
theorem BytesOk.cons {x : D} {b : List D} (h1 : 0 ≤ x.toI ∧ x.toI ≤ 255) (h2 : BytesOk b) : BytesOk (x :: b) := fun y hy => by
 rcases List.mem_cons.1 hy with rfl | h
 ·exact h1
 ·exact h2 y h
theorem BytesOk.nil : BytesOk [] := fun x hx => by simp at hx
section
variable {es : List D}
end
end Go.Proofs.Ytnnofignhdijiaa

/-! Plain laws: a law's file, typed. -/
namespace Go.Proofs.Ytnnofignhdijiaa
open Go Go.AM
set_option maxRecDepth 100000
set_option maxHeartbeats 4000000
set_option linter.unusedVariables false
/-- An int of 64 bits. -/
def In64 (i : Int) : Prop := -9223372036854775808 ≤ i ∧ i ≤ 9223372036854775807
/-- A field's definition. -/
def FldT (f : D) : Prop := ∃ a b c, f = .a [.i a, .i b, .i c] ∧ In64 a ∧ In64 b ∧ In64 c
def DefT (d : D) : Prop := ∃ big g nl fs, d = .a [.b big, .i g, .l nl fs] ∧ In64 g ∧ (nl = true → fs = []) ∧ fs.length ≤ maxLen ∧ ∀ f ∈ fs, FldT f
def ByteT (x : D) : Prop := ∃ n, x = .i n ∧ 0 ≤ n ∧ n ≤ 255
def EntT (x : D) : Prop := ∃ kind slot off dn ds bn data, x = .a [.i kind, .i slot, .i off, .l dn ds, .l bn data] ∧ In64 kind ∧ In64 slot ∧ In64 off ∧ (dn = true → ds = []) ∧ (bn = true → data = []) ∧ ds.length ≤ maxLen ∧ data.length ≤ maxLen ∧ (∀ d ∈ ds, DefT d) ∧ ∀ y ∈ data, ByteT y
theorem EntT.entD {x : D} (h : EntT x) : EntD x := by
 obtain ⟨a, b, c, dn, ds, bn, data, rfl, _, _, _, n1, m1, n2, m2, n3, m3⟩ := h
 refine ⟨n2, m2, fun d hd => ?_, fun y hy => ?_⟩
 ·obtain ⟨big, g, nl, fs, rfl, _, _, hl, _⟩ := n3 d hd
  exact hl
 ·obtain ⟨n, rfl, h0, h1⟩ := m3 y hy
  exact ⟨h0, h1⟩
end Go.Proofs.Ytnnofignhdijiaa

/-! Plain laws: the times, the places. -/
namespace Go.Proofs.Ytnnofignhdijiaa
open Go Go.AM
set_option maxRecDepth 100000
set_option maxHeartbeats 4000000
set_option linter.unusedVariables false
variable {N : Nat}
def timesD (a : Ab) (es : List D) : List D := (timesA a es).map .i
theorem timesD_cons {a : Ab} {x : D} {r : List D} : timesD a (x :: r) = .i (timeE a x) :: timesD (stepA a x) r := rfl
/-- What the reference keeps of an entry's definition. -/
def defOk (a : Ab) (x d : D) : Prop := (kX x = 1 → d.items = []) ∧ (kX x ≠ 1 → ∃ nl, d.items = [.a [.b (a.bg (sX x).toNat), .i (a.gl (sX x).toNat), .l nl (a.fs (sX x).toNat)]])
def PlL : Ab → List D → List D → Prop
 | _, [], [] => True
 | a, x :: r, d :: ds => defOk a x d ∧ PlL (stepA a x) r ds
 | _, _, _ => False
theorem PlL.len : ∀ {es ds : List D} {a : Ab}, PlL a es ds → ds.length = es.length
 | [], [], _, _ => rfl
 | x :: r, d :: ds, a, h => by simp [PlL.len h.2]
 | [], _ :: _, _, h => h.elim
 | _ :: _, [], _, h => h.elim
section
variable {es : List D}
end
end Go.Proofs.Ytnnofignhdijiaa

/-! Plain laws: entries with the same content. -/
namespace Go.Proofs.Ytnnofignhdijiaa
open Go Go.AM
set_option maxRecDepth 100000
set_option maxHeartbeats 4000000
set_option linter.unusedVariables false
variable {N : Nat}
def nDef (d : D) : D := .a [.b (d.cell 0).toB, .i (d.cell 1).toI, .l false (d.cell 2).items]
/-- The same content (nil slices apart). -/
structure EqE (x y : D) : Prop where
 k : kX x = kX y
 s : sX x = sX y
 o : oX x = oX y
 d : (dX x).map nDef = (dX y).map nDef
 b : bX x = bX y
theorem EqE.refl (x : D) : EqE x x := ⟨rfl, rfl, rfl, rfl, rfl⟩
theorem EqE.symm {x y : D} (h : EqE x y) : EqE y x := ⟨h.k.symm, h.s.symm, h.o.symm, h.d.symm, h.b.symm⟩
theorem nDef_inj {d d' : D} (h : nDef d = nDef d') : (d.cell 0).toB = (d'.cell 0).toB ∧ (d.cell 1).toI = (d'.cell 1).toI ∧ (d.cell 2).items = (d'.cell 2).items := by
 unfold nDef at h
 simp only [D.a.injEq, List.cons.injEq, D.b.injEq, D.i.injEq, D.l.injEq, and_true, true_and] at h
 exact h
theorem defs_eq {ds ds' : List D} (h : ds.map nDef = ds'.map nDef) : ds.length = ds'.length ∧ ((ds.getD 0 (.i 0)).cell 0).toB = ((ds'.getD 0 (.i 0)).cell 0).toB ∧ ((ds.getD 0 (.i 0)).cell 1).toI = ((ds'.getD 0 (.i 0)).cell 1).toI ∧ ((ds.getD 0 (.i 0)).cell 2).items = ((ds'.getD 0 (.i 0)).cell 2).items := by
 have hl : ds.length = ds'.length := by have := congrArg List.length h; simpa using this
 refine ⟨hl, ?_⟩
 match ds, ds', h, hl with
 | [], [], _, _ => exact ⟨rfl, rfl, rfl⟩
 | d :: _, d' :: _, h, _ =>
  simp only [List.map_cons, List.cons.injEq] at h
  exact nDef_inj h.1
 | [], _ :: _, _, hl => simp at hl
 | _ :: _, [], _, hl => simp at hl
theorem EqE.err {x y : D} (h : EqE x y) (a : Ab) : errE a x = errE a y := by
 obtain ⟨l, d0, d1, d2⟩ := defs_eq h.d
 unfold errE errC entE
 rw [h.k, h.s, h.o, h.b, l, d1, d2]
theorem EqE.time {x y : D} (h : EqE x y) (a : Ab) : timeE a x = timeE a y := by
 unfold timeE
 rw [h.k, h.s, h.o, h.b]
theorem EqE.step {x y : D} (h : EqE x y) (a : Ab) : stepA a x = stepA a y := by
 obtain ⟨l, d0, d1, d2⟩ := defs_eq h.d
 unfold stepA stepD
 rw [h.k, h.s, h.o, h.b, d0, d1, d2]
theorem All2.errs {xs ys : List D} (h : All2 EqE xs ys) (a : Ab) : errsA a xs = errsA a ys := by
 induction xs generalizing ys a with
 | nil => cases ys with
  | nil => rfl
  | cons => exact h.elim
 | cons x xs ih => cases ys with
  | nil => exact h.elim
  | cons y ys => simp only [errsA]; rw [h.1.err, h.1.step, ih h.2]
theorem All2.timesD {xs ys : List D} (h : All2 EqE xs ys) (a : Ab) : Proofs.Ytnnofignhdijiaa.timesD a xs = Proofs.Ytnnofignhdijiaa.timesD a ys := by
 induction xs generalizing ys a with
 | nil => cases ys with
  | nil => rfl
  | cons => exact h.elim
 | cons x xs ih => cases ys with
  | nil => exact h.elim
  | cons y ys => rw [timesD_cons, timesD_cons, h.1.time, h.1.step, ih h.2]
theorem All2.fileE {xs ys : List D} (h : All2 EqE xs ys) : Proofs.Ytnnofignhdijiaa.fileE xs = Proofs.Ytnnofignhdijiaa.fileE ys := by
 unfold Proofs.Ytnnofignhdijiaa.fileE
 rw [AM.All2.length h, All2.errs h]
section
variable {xs ys : List D}
end
end Go.Proofs.Ytnnofignhdijiaa

/-! Plain laws: an entry's copy; a row of numbers in order; a search in it. -/
namespace Go.Proofs.Ytnnofignhdijiaa
open Go Go.AM
set_option maxRecDepth 100000
set_option maxHeartbeats 4000000
set_option linter.unusedVariables false
variable {N : Nat}
theorem clone_ent (hN : maxLen < N) {dn bn : Bool} {ds data : List D} (h1 : dn = true → ds = []) (h2 : bn = true → data = []) (h3 : ds.length ≤ 1) (h4 : data.length ≤ 65025) (h5 : ∀ d ∈ ds, DefT d) (h6 : ∀ d ∈ ds, (d.cell 2).items.length ≤ 255) :
  ∃ n1 ds' n2, G76x0 N dn ds bn data = some (n1, ds', n2, data) ∧ ds'.map nDef = ds.map nDef ∧ (n1 = true → ds' = []) ∧ (n2 = true → data = []) := by
 have e2 : ∃ n2, G129x0 N bn data = some (n2, data) ∧ (n2 = true → data = []) := by
  cases bn with
  | true => rw [h2 rfl]; exact ⟨true, rfl, fun _ => rfl⟩
  | false => exact ⟨false, clone_no (by omega), fun h => by cases h⟩
 obtain ⟨n2, q2, hn2⟩ := e2
 obtain ⟨k, rfl⟩ := fuel hN 8 (by omega)
 unfold G76x0 F76x0
 rw [q2]
 match ds, h1, h3, h5, h6 with
 | [], h1, _, _, _ =>
  cases dn with
  | true => exact ⟨true, [], n2, rfl, rfl, fun _ => rfl, hn2⟩
  | false => exact ⟨false, [], n2, by kernel_rfl, rfl, fun _ => rfl, hn2⟩
 | [d], h1, _, h5, h6 =>
  have hdn : dn = false := by
   cases dn with
   | false => rfl
   | true => simp at h1
  subst hdn
  obtain ⟨big, g, nl, fs, rfl, _, hnl, hfl, _⟩ := h5 d (by simp)
  have hl : fs.length ≤ 255 := h6 (.a [.b big, .i g, .l nl fs]) (by simp)
  have r1 : decide ((0 + fs.length) * 24 ≤ room) = true := decide_eq_true (by unfold room; omega)
  have r2 : decide (0 + fs.length ≤ strMax) = true := decide_eq_true (by unfold strMax; omega)
  have e12 : ∃ nl', G76x0x12 (k + 8) 1 0 [D.a [.b big, .i g, .l nl fs]] = some [D.a [.b big, .i g, .l nl' fs]] := by
   cases nl with
   | true =>
    rw [hnl rfl]
    exact ⟨true, by kernel_rfl⟩
   | false =>
    have e131 : G131x0 (k + 8) false fs = some (.inr false) := by
     unfold G131x0 F131x0
     rw [r1, r2]
     simp
    refine ⟨false, ?_⟩
    have e19 : G76x0x19 (k + 8) 0 [D.a [.b big, .i g, .l false fs]] = some [D.a [.b big, .i g, .l false fs]] := by
     have d2 : ((([D.a [.b big, .i g, .l false fs]] : List D).getD (0 : Int).toNat (.i 0)).cell 2).items = fs := rfl
     have d3 : ((([D.a [.b big, .i g, .l false fs]] : List D).getD (0 : Int).toNat (.i 0)).cell 2).isNil = false := rfl
     unfold G76x0x19 F76x0x19
     rw [d2, d3, e131]
     rfl
    have : G76x0x12 (k + 8) 1 0 [D.a [.b big, .i g, .l false fs]] = bnd (G76x0x19 (k + 8) 0 [D.a [.b big, .i g, .l false fs]]) fun y0 => bif y0.isSome then some (y0.getD default) else none := by kernel_rfl
    rw [this, e19]
    rfl
  obtain ⟨nl', e12⟩ := e12
  have e7 : G76x0x7 (k + 8) false [D.a [.b big, .i g, .l nl fs]] = some (.inr false) := by kernel_rfl
  have el : (([D.a [.b big, .i g, .l nl fs]] : List D).length : Int) = 1 := rfl
  rw [e7, el]
  simp only [bnd_eq, Option.isSome_some, getD_some, _root_.cond_true]
  have i7 : inlB (some (Sum.inr false : Sum Unit Bool)) = false := rfl
  rw [i7]
  simp only [_root_.cond_false]
  have i8 : (inrQ (some (Sum.inr false : Sum Unit Bool))).isSome = true := rfl
  rw [i8, e12]
  exact ⟨false, _, n2, rfl, rfl, fun h => by simp at h, hn2⟩
/-! ### Numbers in order -/
/-- In order, from 0 to n - 1. -/
structure Asc (l : List D) (n : Int) : Prop where
 lo : ∀ i : Int, 0 ≤ i → i < l.length → 0 ≤ by_ l i ∧ by_ l i ≤ n - 1
 up : ∀ i j : Int, 0 ≤ i → i < j → j < l.length → by_ l i < by_ l j
theorem Asc.ge {l : List D} {n : Int} (h : Asc l n) : ∀ i : Nat, i < l.length → (i : Int) ≤ by_ l i
 | 0, hi => (h.lo 0 (by omega) (by omega)).1
 | i + 1, hi => by
  have h1 := Asc.ge h i (by omega)
  have h2 := h.up i (i + 1) (by omega) (by omega) (by omega)
  have : ((i + 1 : Nat) : Int) = (i : Int) + 1 := by omega
  rw [this]
  omega
theorem Asc.len {l : List D} {n : Int} (h : Asc l n) (hn : 0 ≤ n) : (l.length : Int) ≤ n := by
 rcases Nat.eq_zero_or_pos l.length with h0 | h0
 ·omega
 ·have h1 := h.ge (l.length - 1) (by omega)
  have h2 := (h.lo ((l.length - 1 : Nat) : Int) (by omega) (by omega)).2
  omega
end Go.Proofs.Ytnnofignhdijiaa

/-! Plain laws: Without. -/
namespace Go.Proofs.Ytnnofignhdijiaa
open Go Go.AM
set_option maxRecDepth 100000
set_option maxHeartbeats 4000000
set_option linter.unusedVariables false
variable {N : Nat}
section
variable {l es : List D}
/-- The program's and the reference's lists behind some rounds. -/
structure Two (xs ys : List D) (n : Int) : Prop where
 eq : All2 EqE xs ys
 ok : ∀ x ∈ xs, EntD x
 ok' : ∀ y ∈ ys, EntD y
 len : (xs.length : Int) ≤ n
theorem all2_snoc {R : D → D → Prop} {xs ys : List D} {x y : D} (h : All2 R xs ys) (h1 : R x y) : All2 R (xs ++ [x]) (ys ++ [y]) := h.append ⟨h1, trivial⟩
theorem err_at {es : List D} : ∀ {a : Ab} {i : Nat}, OkA a → errsA a es = 0 → i < es.length → ∃ a', OkA a' ∧ errE a' (es.getD i (.i 0)) = 0 := by
 induction es with
 | nil => intro a i _ _ hi; simp at hi
 | cons x r ih =>
  intro a i ha he hi
  obtain ⟨e1, e2⟩ := errs_cons he
  cases i with
  | zero => exact ⟨a, ha, e1⟩
  | succ i => exact ih (ha.step e1) e2 (by simpa using hi)
end
end Go.Proofs.Ytnnofignhdijiaa

/-! Plain laws: Find; a number's bytes. -/
namespace Go.Proofs.Ytnnofignhdijiaa
open Go Go.AM
set_option maxRecDepth 100000
set_option maxHeartbeats 4000000
set_option linter.unusedVariables false
variable {N : Nat}
theorem not1 {k : Int} (h : k ≠ 1) : (k == 1) = false ∧ (k != 1) = true := by
 constructor <;> simpa using h
theorem step_data {a : Ab} {x : D} (h : kX x ≠ 1) : (stepA a x).kn = a.kn ∧ (stepA a x).bg = a.bg ∧ (stepA a x).gl = a.gl ∧ (stepA a x).fs = a.fs ∧ (stepA a x).last = bif decide (timeE a x ≥ 0) then timeE a x else a.last := by
 unfold stepA stepD
 rw [(not1 h).1]
 exact ⟨rfl, rfl, rfl, rfl, rfl⟩
/-- What the reference kept of the entry at a place. -/
theorem PlL.at_ {a : Ab} {es ds : List D} {x : D} (h : PlL a (x :: es) ds) : ∃ d r, ds = d :: r ∧ defOk a x d ∧ PlL (stepA a x) es r := by
 cases ds with
 | nil => exact h.elim
 | cons d r => exact ⟨d, r, rfl, h.1, h.2⟩
section
variable {es : List D}
end
/-! ### A number, its bytes, and the number again -/
theorem bt_at {n : Int} (h0 : 0 ≤ n) (h1 : n < 4294967296) : (bt n 0).toI = n % 256 ∧ (bt n 1).toI = n / 256 % 256 ∧ (bt n 2).toI = n / 65536 % 256 ∧ (bt n 3).toI = n / 16777216 % 256 := by
 have e : ∀ k : Nat, (n.fdiv (2 ^ k)) = n / 2 ^ k := fun k => Int.fdiv_eq_ediv_of_nonneg _ (by exact Int.le_of_lt (Int.pow_pos (by decide)))
 have w0 : (min (IntKind.wrap .i64 (8 * 0)).toNat 64) = 0 := by decide
 have w1 : (min (IntKind.wrap .i64 (8 * 1)).toNat 64) = 8 := by decide
 have w2 : (min (IntKind.wrap .i64 (8 * 2)).toNat 64) = 16 := by decide
 have w3 : (min (IntKind.wrap .i64 (8 * 3)).toNat 64) = 24 := by decide
 unfold bt D.toI
 simp only [w0, w1, w2, w3, e, IntKind.wrap_u8]
 refine ⟨?_, ?_, ?_, ?_⟩ <;> omega
theorem numB_nb4 {n : Int} (big : Bool) (h0 : 0 ≤ n) (h1 : n < 4294967296) : numB (nb4 n big) big = n := by
 obtain ⟨b0, b1, b2, b3⟩ := bt_at h0 h1
 cases big with
 | true =>
  show 256 * (256 * (256 * (256 * 0 + (bt n 3).toI) + (bt n 2).toI) + (bt n 1).toI) + (bt n 0).toI = n
  rw [b0, b1, b2, b3]; omega
 | false =>
  show 256 * (256 * (256 * (256 * 0 + (bt n 3).toI) + (bt n 2).toI) + (bt n 1).toI) + (bt n 0).toI = n
  rw [b0, b1, b2, b3]; omega
end Go.Proofs.Ytnnofignhdijiaa

/-! Plain laws: Widen. -/
namespace Go.Proofs.Ytnnofignhdijiaa
open Go Go.AM
set_option maxRecDepth 100000
set_option maxHeartbeats 4000000
set_option linter.unusedVariables false
variable {N : Nat}
/-- The bytes of data with a time put in. -/
def wideB (a : Ab) (x : D) : List D := (bX x).take (tmL 0 (a.fs (sX x).toNat)).toNat ++ nb4 (timeE a x) (a.bg (sX x).toNat) ++ (bX x).drop (tmL 0 (a.fs (sX x).toNat)).toNat
structure WdE (a : Ab) (x y : D) : Prop where
 n : kX x ≠ 3 → EqE x y
 t : kX x = 3 → timeE a x ≤ 4294967294 ∧ kX y = 2 ∧ sX y = sX x ∧ oX y = 0 ∧ dX y = [] ∧ bX y = wideB a x
def WdL : Ab → List D → List D → Prop
 | _, [], [] => True
 | a, x :: r, y :: s => WdE a x y ∧ WdL (stepA a x) r s
 | _, _, _ => False
def lateA : Ab → List D → Bool
 | _, [] => false
 | a, x :: r => bif (kX x == 3) && decide (timeE a x > 4294967294) then true else lateA (stepA a x) r
theorem WdE.eq {a : Ab} {x y z : D} (h : WdE a x y) (h' : WdE a x z) : EqE y z := by
 by_cases hk : kX x = 3
 ·obtain ⟨_, k1, s1, o1, d1, b1⟩ := h.t hk
  obtain ⟨_, k2, s2, o2, d2, b2⟩ := h'.t hk
  exact ⟨by rw [k1, k2], by rw [s1, s2], by rw [o1, o2], by rw [d1, d2], by rw [b1, b2]⟩
 ·have h1 := h.n hk
  have h2 := h'.n hk
  exact ⟨h1.k.symm.trans h2.k, h1.s.symm.trans h2.s, h1.o.symm.trans h2.o, h1.d.symm.trans h2.d, h1.b.symm.trans h2.b⟩
theorem WdL.eq : ∀ {es ys zs : List D} {a : Ab}, WdL a es ys → WdL a es zs → All2 EqE ys zs
 | [], [], [], _, _, _ => trivial
 | x :: r, y :: s, z :: t, a, h, h' => ⟨h.1.eq h'.1, WdL.eq h.2 h'.2⟩
 | [], _ :: _, _, _, h, _ => h.elim
 | [], [], _ :: _, _, _, h => h.elim
 | _ :: _, [], _, _, h, _ => h.elim
 | _ :: _, _ :: _, [], _, _, h => h.elim
theorem WdL.len : ∀ {es ys : List D} {a : Ab}, WdL a es ys → ys.length = es.length
 | [], [], _, _ => rfl
 | x :: r, y :: s, a, h => by simp [WdL.len h.2]
 | [], _ :: _, _, h => h.elim
 | _ :: _, [], _, h => h.elim
/-- What is known of a short entry that is right. -/
theorem short_ok {a : Ab} {x : D} (ha : OkA a) (h : errE a x = 0) (hk : kX x = 3) : FldsOk (a.fs (sX x).toNat) ∧ 0 ≤ tmL 0 (a.fs (sX x).toNat) ∧ tmL 0 (a.fs (sX x).toNat) + 4 ≤ szL (a.fs (sX x).toNat) ∧ ((bX x).length : Int) = szL (a.fs (sX x).toNat) - 4 ∧ (bX x).length ≤ 65025 ∧ 0 ≤ timeE a x ∧ a.kn (sX x).toNat = true := by
 have hE := entE_ok h
 obtain ⟨h1, h2, h3, h4, h5⟩ := ent_ok (ha _) h
 have hkn := (hE.n (by omega)).1
 have hf := ha _ hkn
 obtain ⟨t0, l0, o0, o1, hl⟩ := hE.h hk
 have tb := tmL_bound (a := 0) (by omega) hf.size
 refine ⟨hf, t0, by omega, hl, h5, ?_, hkn⟩
 unfold timeE timeC
 rw [hk, show ((3 : Int) == 1) = false from rfl, show ((3 : Int) == 3) = true from rfl]
 simp only [_root_.cond_true, _root_.cond_false]
 omega
theorem wide_ok {a : Ab} {x y : D} (ha : OkA a) (h : errE a x = 0) (hw : WdE a x y) : errE a y = 0 ∧ timeE a y = timeE a x ∧ stepA a y = stepA a x ∧ kX y ≠ 3 := by
 by_cases hk : kX x = 3
 ·obtain ⟨hT, ky, sy, oy, dy, by'⟩ := hw.t hk
  obtain ⟨hf, t0, t1, t2, t3, t4, hkn⟩ := short_ok ha h hk
  obtain ⟨h1, h2, h3, h4, h5⟩ := ent_ok (ha _) h
  have l4 := nb4_len (timeE a x) (a.bg (sX x).toNat)
  have hlen : ((bX y).length : Int) = szL (a.fs (sX x).toNat) := by
   rw [by']; unfold wideB
   simp only [List.length_append, List.length_take, List.length_drop, l4]
   omega
  have hsl : (((bX y).take (tmL 0 (a.fs (sX x).toNat) + 4).toNat).drop (tmL 0 (a.fs (sX x).toNat)).toNat) = nb4 (timeE a x) (a.bg (sX x).toNat) := by
   rw [by']; unfold wideB
   generalize nb4 (timeE a x) (a.bg (sX x).toNat) = q at l4 ⊢
   have e1 : ((bX x).take (tmL 0 (a.fs (sX x).toNat)).toNat).length = (tmL 0 (a.fs (sX x).toNat)).toNat := by rw [List.length_take]; omega
   rw [List.take_append_of_le_length (by simp only [List.length_append, e1, l4]; omega), List.take_of_length_le (by simp only [List.length_append, e1, l4]; omega), List.drop_append_of_le_length (by omega), List.drop_eq_nil_of_le (by omega)]
   rfl
  have htime : timeE a y = timeE a x := by
   have e : timeE a y = timeC a 2 (sX x) 0 (bX y) := by unfold timeE; rw [ky, sy, oy]
   rw [e]
   unfold timeC
   rw [hsl, numB_nb4 _ t4 (by omega), decide_eq_false (show ¬ tmL 0 (a.fs (sX x).toNat) < 0 by omega)]
   have : (timeE a x == 4294967295) = false := by simp; omega
   rw [this]; rfl
  refine ⟨?_, htime, ?_, by rw [ky]; decide⟩
  ·unfold errE errC entE
   rw [ky, sy, oy, dy, hlen, hkn]
   have i1 : inI 2 1 3 = true := rfl
   have i2 : inI (sX x) 0 15 = true := decide_eq_true h2
   have i3 : inI 0 0 0 = true := rfl
   rw [i1, show (bif ((2 : Int) == 3) then (3 : Int) else 15) = 15 from rfl, show (bif ((2 : Int) == 3) then (31 : Int) else 0) = 0 from rfl, i2, i3]
   have i4 : (szL (a.fs (sX x).toNat) != (bif ((2 : Int) == 3) then szL (a.fs (sX x).toNat) - 4 else szL (a.fs (sX x).toNat))) = false := by simp
   rw [i4]; rfl
  ·have e1 : (kX y == 1) = false := by rw [ky]; rfl
   have e2 : (kX x == 1) = false := by rw [hk]; rfl
   unfold stepA stepD
   rw [e1, e2]
   simp only [_root_.cond_false]
   have : timeC a (kX y) (sX y) (oX y) (bX y) = timeC a (kX x) (sX x) (oX x) (bX x) := htime
   rw [this]
 ·have he := hw.n hk
  exact ⟨by rw [← he.err]; exact h, (he.time a).symm, (he.step a).symm, by rw [← he.k]; exact hk⟩
theorem WdL.ok : ∀ {es ys : List D} {a : Ab}, OkA a → errsA a es = 0 → WdL a es ys → errsA a ys = 0 ∧ timesD a ys = timesD a es ∧ ∀ y ∈ ys, kX y ≠ 3
 | [], [], _, _, _, _ => ⟨rfl, rfl, by simp⟩
 | x :: r, y :: s, a, ha, he, h => by
  obtain ⟨e1, e2⟩ := errs_cons he
  obtain ⟨w1, w2, w3, w4⟩ := wide_ok ha e1 h.1
  obtain ⟨i1, i2, i3⟩ := WdL.ok (ha.step e1) e2 h.2
  refine ⟨?_, ?_, ?_⟩
  ·simp only [errsA]
   rw [w1, w3]
   exact i1
  ·rw [timesD_cons, timesD_cons, w2, w3, i2]
  ·intro z hz
   rcases List.mem_cons.1 hz with rfl | hz
   ·exact w4
   ·exact i3 z hz
 | [], _ :: _, _, _, _, h => h.elim
 | _ :: _, [], _, _, _, h => h.elim
section
variable {es : List D}
theorem piece3 {data : List D} {t : Int} (h0 : 0 ≤ t) (h1 : t ≤ data.length) : ((data.take t.toNat).drop 0) = data.take t.toNat ∧ ((data.take (data.length : Int).toNat).drop t.toNat) = data.drop t.toNat := by
 constructor
 ·simp
 ·simp
theorem widen_loopP (hN : maxLen < N) (hes : ∀ x ∈ es, EntD x) (hl : es.length ≤ 50000) : ∀ (m : Nat) (i : Int) (p s : D) (a : Ab) (o : List D), OkA a → 0 ≤ i → i ≤ es.length → (es.length - i).toNat < m → Wk p s a i → errsA a (es.drop i.toNat) = 0 → o.length = es.length → All2 EqE (es.drop i.toNat) (o.drop i.toNat) →
  ∃ o', L31x0x21 N es es.length m i o p (fun p => some (Sum.inl p)) (fun p => some (Sum.inr p)) = some (bif lateA a (es.drop i.toNat) then .inl o' else .inr o') ∧
   (lateA a (es.drop i.toNat) = false → o'.length = es.length ∧ o'.take i.toNat = o.take i.toNat ∧ WdL a (es.drop i.toNat) (o'.drop i.toNat)) := by
 have hm : maxLen = 9223372036854775807 := rfl
 intro m
 induction m with
 | zero => intro i p s a o _ _ _ h; omega
 | succ m ih =>
  intro i p s a o ha h0 h1 hmm hw he ho hr
  unfold L31x0x21 S31x0x21
  by_cases hi : i < es.length
  ·have hx : EntD _ := hes _ (getD_mem (fs := es) h0 hi)
   have hod := drop_at (.i 0) (xs := o) h0 (by omega)
   rw [drop_at (.i 0) h0 hi] at he hr ⊢
   rw [hod] at hr
   obtain ⟨e1, e2⟩ := errs_cons he
   obtain ⟨p', s', q1, q2, hw'⟩ := take_abs (N := N) hN hw hx h0 (by omega) e1
   have hE := entE_ok e1
   have hlt : (fun x => x) i.toNat < o.length := by show i.toNat < _; omega
   rw [decide_eq_true hi, inB_of h0 hi, q1]
   simp only [_root_.cond_true, bnd_eq, Option.isSome_some, getD_some, lateA]
   by_cases hk : kX (es.getD i.toNat (.i 0)) = 3
   ·obtain ⟨hf, t0, t1, t2, t3, t4, hkn⟩ := short_ok ha e1 hk
    have hk1 : kX (es.getD i.toNat (.i 0)) ≠ 1 := by omega
    obtain ⟨s1, s2, s3, s4, s5⟩ := step_data (a := a) hk1
    have hkn' : (stepA a (es.getD i.toNat (.i 0))).kn (sX (es.getD i.toNat (.i 0))).toNat = true := by rw [s1]; exact hkn
    obtain ⟨_, g2, g3, g4, g5, g6⟩ := hw'.pp.df _ hE.s.2 hkn'
    have b3 : (kX (es.getD i.toNat (.i 0)) != 3) = false := by rw [hk]; rfl
    have b4 : (kX (es.getD i.toNat (.i 0)) == 3) = true := by rw [hk]; rfl
    rw [b3, b4]
    simp only [_root_.cond_false, Bool.true_and]
    cases hlate : decide (timeE a (es.getD i.toNat (.i 0)) > 4294967294) with
    | true => exact ⟨o, rfl, fun h => by simp at h⟩
    | false =>
     have hT : timeE a (es.getD i.toNat (.i 0)) ≤ 4294967294 := by have := of_decide_eq_false hlate; omega
     rw [hE.s.1]
     unfold stepA at s2 s3 s4
     rw [s2] at g2
     rw [s4] at g6
     have c0 : decide (0 ≤ tmL 0 (a.fs (sX (es.getD i.toNat (.i 0))).toNat)) = true := decide_eq_true t0
     have c1 : decide (tmL 0 (a.fs (sX (es.getD i.toNat (.i 0))).toNat) ≤ ((bX (es.getD i.toNat (.i 0))).length : Int)) = true := decide_eq_true (by omega)
     have c2 : decide (((bX (es.getD i.toNat (.i 0))).length : Int) ≤ ((bX (es.getD i.toNat (.i 0))).length : Int)) = true := decide_eq_true (Int.le_refl _)
     obtain ⟨z1, z2⟩ := piece3 (data := bX (es.getD i.toNat (.i 0))) t0 (by omega)
     have l4 := nb4_len (timeE a (es.getD i.toNat (.i 0))) (a.bg (sX (es.getD i.toNat (.i 0))).toNat)
     obtain ⟨cb, k3⟩ := concat_eq (N := N) (ps := [.l ((es.getD i.toNat (.i 0)).cell 4).isNil ((bX (es.getD i.toNat (.i 0))).take (tmL 0 (a.fs (sX (es.getD i.toNat (.i 0))).toNat)).toNat), .l false (nb4 (timeE a (es.getD i.toNat (.i 0))) (a.bg (sX (es.getD i.toNat (.i 0))).toNat)), .l ((es.getD i.toNat (.i 0)).cell 4).isNil ((bX (es.getD i.toNat (.i 0))).drop (tmL 0 (a.fs (sX (es.getD i.toNat (.i 0))).toNat)).toNat)]) hN (by simp) (by simp only [catL, D.items, List.length_append, List.length_nil, List.length_take, List.length_drop, l4]; omega)
     have ec : catL [.l ((es.getD i.toNat (.i 0)).cell 4).isNil ((bX (es.getD i.toNat (.i 0))).take (tmL 0 (a.fs (sX (es.getD i.toNat (.i 0))).toNat)).toNat), .l false (nb4 (timeE a (es.getD i.toNat (.i 0))) (a.bg (sX (es.getD i.toNat (.i 0))).toNat)), .l ((es.getD i.toNat (.i 0)).cell 4).isNil ((bX (es.getD i.toNat (.i 0))).drop (tmL 0 (a.fs (sX (es.getD i.toNat (.i 0))).toNat)).toNat)] = wideB a (es.getD i.toNat (.i 0)) := by
      simp only [catL, D.items, wideB, List.append_assoc, List.append_nil]
     rw [ec] at k3
     simp only [_root_.cond_true, _root_.cond_false, g2, g6, c0, c1, c2, Bool.and_self, z1, z2, P67_4 hN, Option.isSome_some, getD_some, k3]
     rw [inB_of (n := o.length) h0 (by omega), decide_eq_true (show i.toNat < o.length by omega), wrapI (x := i + 1) (by omega) (by omega)]
     simp only [_root_.cond_true]
     have hset : (o.set i.toNat (.a [.i 2, .i (sX (es.getD i.toNat (.i 0))), .i 0, .l true [], .l cb (wideB a (es.getD i.toNat (.i 0)))])).drop (i + 1).toNat = o.drop (i + 1).toNat := by
      rw [show (i + 1).toNat = i.toNat + 1 by omega]
      simp [List.drop_set]
     obtain ⟨o', w1, w2⟩ := ih (i + 1) p' s' _ (o.set i.toNat (.a [.i 2, .i (sX (es.getD i.toNat (.i 0))), .i 0, .l true [], .l cb (wideB a (es.getD i.toNat (.i 0)))])) (ha.step e1) (by omega) (by omega) (by omega) hw' e2 (by simp; omega) (by rw [hset]; exact hr.2)
     refine ⟨o', w1, fun hlf => ?_⟩
     obtain ⟨v1, v2, v3⟩ := w2 hlf
     have hg : o'.getD i.toNat (.i 0) = .a [.i 2, .i (sX (es.getD i.toNat (.i 0))), .i 0, .l true [], .l cb (wideB a (es.getD i.toNat (.i 0)))] := by
      have := congrArg (fun l => l.getD i.toNat (D.i 0)) v2
      simp only [List.getD_eq_getElem?_getD] at this ⊢
      rw [List.getElem?_take_of_lt (by omega), List.getElem?_take_of_lt (by omega), List.getElem?_set_self (by omega)] at this
      exact this
     refine ⟨v1, ?_, ?_⟩
     ·have := congrArg (fun l => l.take i.toNat) v2
      simp only [List.take_take, show min i.toNat (i + 1).toNat = i.toNat by omega] at this
      rw [this, List.take_set_of_le (by omega)]
     ·rw [drop_at (.i 0) (xs := o') h0 (by omega), hg]
      exact ⟨⟨fun h => absurd hk h, fun _ => ⟨hT, rfl, rfl, rfl, rfl, rfl⟩⟩, v3⟩
   ·have b3 : (kX (es.getD i.toNat (.i 0)) != 3) = true := by simpa using hk
    have b4 : (kX (es.getD i.toNat (.i 0)) == 3) = false := by simpa using hk
    rw [b3, b4, wrapI (x := i + 1) (by omega) (by omega)]
    simp only [_root_.cond_true, _root_.cond_false, Bool.false_and]
    obtain ⟨o', w1, w2⟩ := ih (i + 1) p' s' _ o (ha.step e1) (by omega) (by omega) (by omega) hw' e2 ho hr.2
    refine ⟨o', w1, fun hlf => ?_⟩
    obtain ⟨v1, v2, v3⟩ := w2 hlf
    have hg : o'.getD i.toNat (.i 0) = o.getD i.toNat (.i 0) := by
     have := congrArg (fun l => l.getD i.toNat (D.i 0)) v2
     simp only [List.getD_eq_getElem?_getD] at this ⊢
     rw [List.getElem?_take_of_lt (by omega), List.getElem?_take_of_lt (by omega)] at this
     exact this
    refine ⟨v1, ?_, ?_⟩
    ·have := congrArg (fun l => l.take i.toNat) v2
     simp only [List.take_take, show min i.toNat (i + 1).toNat = i.toNat by omega] at this
     exact this
    ·rw [drop_at (.i 0) (xs := o') h0 (by omega), hg]
     exact ⟨⟨fun _ => hr.1, fun h => absurd h hk⟩, v3⟩
  ·have : i = es.length := by omega
   subst this
   rw [decide_eq_false hi, drop_end (by omega)]
   refine ⟨o, rfl, fun _ => ⟨ho, rfl, ?_⟩⟩
   rw [← ho, drop_end (by omega)]
   trivial
theorem clone_loop (hN : maxLen < N) (hes : ∀ x ∈ es, EntT x) (hl : es.length ≤ 50000) (he : errsA Ab.start es = 0) : ∃ b o, G78x0 N es = some (b, o) ∧ All2 EqE es o := by
 have hm : maxLen = 9223372036854775807 := rfl
 have key := loop_indE (A := Int × Bool × LD) (X := Option (Bool × LD)) (S := fun x kr => S78x0x9 N es es.length x.1 x.2.1 x.2.2 (fun a b c => kr (a, b, c)) (fun p => some p)) (L := fun m x => L78x0x9 N es es.length m x.1 x.2.1 x.2.2 (fun p => some p)) (fun m x => rfl)
  (fun x r => ∃ b o, r = some (b, o) ∧ All2 EqE es o) (fun x => 0 ≤ x.1 ∧ x.1 ≤ es.length ∧ All2 EqE (es.take x.1.toNat) x.2.2) (fun x => (es.length - x.1).toNat) ?_ N (0, true, []) ⟨by show (0 : Int) ≤ 0; omega, by show (0 : Int) ≤ _; omega, by simp [All2]⟩ (by simp; omega)
 ·obtain ⟨b, o, q, e⟩ := key
  have q' : G78x0x9 N es es.length 0 true [] = some (b, o) := q
  refine ⟨b, o, ?_, e⟩
  unfold G78x0 F78x0
  rw [q']; rfl
 ·rintro ⟨w, b, acc⟩ kr ⟨h0, h1, h2⟩ ih
  simp only at h0 h1 h2 ih ⊢
  unfold S78x0x9
  by_cases hw : w < es.length
  ·have hxt : EntT _ := hes _ (getD_mem (fs := es) h0 hw)
   obtain ⟨a', ha', ee⟩ := err_at (i := w.toNat) OkA.start he (by omega)
   obtain ⟨o1, o2, o3, o4, o5⟩ := ent_ok (ha' _) ee
   have hE := entE_ok ee
   have hal := AM.All2.length h2
   have hat : (es.take w.toNat).length = w.toNat := by rw [List.length_take]; omega
   have hde := drop_at (.i 0) (xs := es) h0 hw
   obtain ⟨x, hx⟩ : ∃ x, es.getD w.toNat (.i 0) = x := ⟨_, rfl⟩
   rw [hx] at hxt ee o1 o2 o3 o4 o5 hE
   have hds : (dX x).length ≤ 1 := by
    by_cases hk : kX x = 1
    ·rw [(o4 hk).1]; exact Nat.le_refl _
    ·rw [(hE.n hk).2]; omega
   have hdl : ∀ d ∈ dX x, (d.cell 2).items.length ≤ 255 := by
    intro d hd
    by_cases hk : kX x = 1
    ·obtain ⟨q1, q2⟩ := o4 hk
     obtain ⟨j, hj, rfl⟩ := List.getElem_of_mem hd
     have hj0 : j = 0 := by omega
     subst hj0
     rw [List.getD_eq_getElem?_getD, List.getElem?_eq_getElem (by omega)] at q2
     exact q2
    ·have := (hE.n hk).2
     rw [List.length_eq_zero_iff.1 this] at hd
     simp at hd
   have hnil : ((x.cell 3).isNil = true → dX x = []) ∧ ((x.cell 4).isNil = true → bX x = []) ∧ ∀ d ∈ dX x, DefT d := by
    obtain ⟨k', s', o', dn, ds, bn, data, rfl, _, _, _, n1, n2, _, _, n3, _⟩ := hxt
    exact ⟨n1, n2, n3⟩
   obtain ⟨n1, ds', n2, q76, qd, qn1, qn2⟩ := clone_ent (N := N) hN hnil.1 hnil.2.1 hds o5 hnil.2.2 hdl
   have r1 : decide ((acc.length + 1) * 72 ≤ room) = true := decide_eq_true (by unfold room; omega)
   have r2 : decide (acc.length + 1 ≤ strMax) = true := decide_eq_true (by unfold strMax; omega)
   rw [decide_eq_true hw, inB_of h0 hw, hx, q76, r1, r2, wrapI (x := w + 1) (by omega) (by omega)]
   refine ih (w + 1, false, acc ++ [.a [.i (kX x), .i (sX x), .i (oX x), .l n1 ds', .l n2 (bX x)]]) ⟨by simp only; omega, by simp only; omega, ?_⟩ (by simp only; omega)
   have e : es.take (w + 1).toNat = es.take w.toNat ++ [x] := by
    rw [show (w + 1).toNat = w.toNat + 1 by omega, List.take_add_one, ← hx, List.getD_eq_getElem?_getD, List.getElem?_eq_getElem (by omega)]
    rfl
   show All2 EqE (es.take (w + 1).toNat) _
   rw [e]
   exact all2_snoc h2 (show EqE x (.a [.i (kX x), .i (sX x), .i (oX x), .l n1 ds', .l n2 (bX x)]) from ⟨rfl, rfl, rfl, qd.symm, rfl⟩)
  ·have : w = es.length := by omega
   subst this
   rw [decide_eq_false hw]
   refine ⟨b, acc, rfl, ?_⟩
   have e : es.take (es.length : Int).toNat = es := by simp
   rw [e] at h2
   exact h2
end
end Go.Proofs.Ytnnofignhdijiaa

/-! Plain laws: the values of data (record.fields, valueOf, values; the references' valueOf, valuesOf). -/
namespace Go.Proofs.Ytnnofignhdijiaa
open Go Go.AM
set_option maxRecDepth 100000
set_option maxHeartbeats 4000000
set_option linter.unusedVariables false
variable {N : Nat}
/-- A field's type and size fit. -/
def TypOk (fs : List D) : Prop := ∀ f ∈ fs, 0 ≤ fT f ∧ fT f ≤ 3 ∧ 1 ≤ fS f ∧ fS f ≤ 255 ∧ (fT f ≤ 1 → fS f = 1 ∨ fS f = 2 ∨ fS f = 4)
theorem defE_typ {g : Int} {fs : List D} (h : defE g fs = 0) : TypOk fs := by
 unfold defE at h
 cases h1 : inI g 0 65535 with
 | false => rw [h1] at h; exact absurd (show (9 : Int) = 0 from h) (by decide)
 | true =>
  rw [h1] at h
  cases h2 : decide ((fs.length : Int) > 30) with
  | true => rw [h2] at h; exact absurd (show (3 : Int) = 0 from h) (by decide)
  | false =>
   rw [h2] at h
   simp only [Bool.not_true, _root_.cond_false] at h
   intro f hf
   obtain ⟨i, hi, rfl⟩ := List.getElem_of_mem hf
   have := firstE_zero h i hi
   rw [Int.zero_add] at this
   unfold fldE at this
   have hg : fs.getD ((i : Int)).toNat (.i 0) = fs[i] := by
    rw [List.getD_eq_getElem?_getD, Int.toNat_natCast, List.getElem?_eq_getElem hi]; rfl
   rw [hg] at this
   cases h0 : inI (fN fs[i]) 0 255 with
   | false => rw [h0] at this; exact absurd (show (9 : Int) = 0 from by simpa using this) (by decide)
   | true =>
   cases h3 : inI (fS fs[i]) 1 255 with
   | false => rw [h0, h3] at this; exact absurd (show (9 : Int) = 0 from by simpa using this) (by decide)
   | true =>
   cases h4 : inI (fT fs[i]) 0 3 with
   | false => rw [h0, h3, h4] at this; exact absurd (show (7 : Int) = 0 from by simpa using this) (by decide)
   | true =>
   rw [h0, h3, h4] at this
   simp only [Bool.not_true, _root_.cond_false, Bool.or_self] at this
   cases h5 : (decide (fT fs[i] ≤ 1) && (fS fs[i] != 1) && (fS fs[i] != 2) && (fS fs[i] != 4)) with
   | true => rw [h5] at this; exact absurd (show (2 : Int) = 0 from by simpa using this) (by decide)
   | false =>
   unfold inI at h3 h4
   simp only [Bool.and_eq_true, decide_eq_true_eq] at h3 h4
   refine ⟨h4.1, h4.2, h3.1, h3.2, fun ht => ?_⟩
   rw [decide_eq_true ht] at h5
   simp only [Bool.true_and] at h5
   by_cases a1 : fS fs[i] = 1
   ·exact .inl a1
   by_cases a2 : fS fs[i] = 2
   ·exact .inr (.inl a2)
   by_cases a3 : fS fs[i] = 4
   ·exact .inr (.inr a3)
   have : ∀ k : Int, fS fs[i] ≠ k → (fS fs[i] != k) = true := fun k hk => by simpa using hk
   rw [this 1 a1, this 2 a2, this 4 a3] at h5
   cases h5
/-! ### One value -/
def missV (s : Int) (sg : Bool) : Int := bif sg then (bif s == 1 then 127 else bif s == 2 then 32767 else 2147483647) else (bif s == 1 then 255 else bif s == 2 then 65535 else 4294967295)
def pwV (s : Int) : Int := bif s == 1 then 256 else bif s == 2 then 65536 else 4294967296
abbrev Sz (s : Int) : Prop := s = 1 ∨ s = 2 ∨ s = 4
theorem G124x0_eq {s : Int} (h : Sz s) (sg : Bool) : G124x0 N s sg = some (missV s sg) := by
 rcases h with rfl | rfl | rfl <;> cases sg <;> kernel_rfl
def cutS (l : List UInt8) : List UInt8 := bif decide (Lib.indexByte l 0 ≥ 0) then l.take (Lib.indexByte l 0).toNat else l
theorem idx_lt (l : List UInt8) (c : UInt8) : Lib.indexByte l c < (l.length : Int) ∨ l = [] := by
 induction l with
 | nil => exact .inr rfl
 | cons b l ih =>
  left
  have hg := Lib.indexByte_ge l c
  simp only [Lib.indexByte, List.length_cons]
  by_cases h1 : (b == c) = true
  ·rw [if_pos h1]; omega
  ·rw [if_neg h1]
   by_cases h2 : (Lib.indexByte l c == -1) = true
   ·rw [if_pos h2]; omega
   ·rw [if_neg h2]
    rcases ih with ih | rfl
    ·omega
    ·exact absurd (show (Lib.indexByte [] c == -1) = true from rfl) h2
theorem G144x0_eq {l : List UInt8} (hl : l.length ≤ maxLen) : ∃ r c, G144x0 N l = some (cutS l, r, c) := by
 have hm : maxLen = 9223372036854775807 := rfl
 have hv : V148x0 N l = Lib.indexByte l 0 := by
  unfold V148x0 F148x0 V149x0 F149x0
  cases h : (([0] : List UInt8) == l) with
  | true => rw [← eq_of_beq h]; rfl
  | false => rfl
 have hg := Lib.indexByte_ge l 0
 unfold G144x0 F144x0 G147x0 F147x0 cutS
 simp only [bnd_eq, hv]
 rcases idx_lt l 0 with hlt | rfl
 ·generalize Lib.indexByte l 0 = j at hg hlt ⊢
  by_cases hj : j ≥ 0
  ·rw [decide_eq_true hj, decide_eq_true (show j ≤ (l.length : Int) by omega), wrapI (x := j + 1) (by omega) (by omega), decide_eq_true (show 0 ≤ j + 1 by omega), decide_eq_true (show j + 1 ≤ (l.length : Int) by omega), decide_eq_true (Int.le_refl (l.length : Int))]
   exact ⟨_, _, rfl⟩
  ·rw [decide_eq_false hj]
   exact ⟨_, _, rfl⟩
 ·exact ⟨_, _, rfl⟩
def valC (s t : Int) (b : List D) (big : Bool) : Int × List UInt8 × Bool :=
 bif t == 3 then (0, strD b, false) else bif t == 2 then (0, cutS (strD b), cutS (strD b) == []) else
 bif numB b big == missV s (t == 1) then (0, [], true) else (bif (t == 1) && decide (numB b big > missV s true) then numB b big - pwV s else numB b big, [], false)
/-- What is asked of a field and its bytes. -/
structure ValOk (s t : Int) (b : List D) : Prop where
 t0 : 0 ≤ t
 t3 : t ≤ 3
 sz : t ≤ 1 → Sz s
 len : (b.length : Int) = s
 by_ : BytesOk b
 hl : b.length ≤ 255
theorem sub_pw {s n : Int} (h : Sz s) (h0 : 0 ≤ n) (h1 : n < 4294967296) (c : Bool) :
  (bif c then (bif decide (0 ≤ IntKind.wrap .i64 (8 * s)) then bnd (IntKind.wrap .i64 (1 * 2 ^ (min (IntKind.wrap .i64 (8 * s)).toNat 64))) fun y0 => some (IntKind.wrap .i64 (n - y0)) else none) else some n) = some (bif c then n - pwV s else n) := by
 have e : ∀ k, some (IntKind.wrap .i64 (n - k)) = some (n - k) ∨ ¬ (0 ≤ k ∧ k ≤ 4294967296) := fun k => by
  by_cases hk : 0 ≤ k ∧ k ≤ 4294967296
  ·left; rw [wrapI (by omega) (by omega)]
  ·exact .inr hk
 cases c with
 | false => rfl
 | true =>
  simp only [_root_.cond_true, bnd_eq]
  rcases h with rfl | rfl | rfl
  ·have e1 : IntKind.wrap .i64 (8 * 1) = 8 := by decide
   have e2 : IntKind.wrap .i64 (1 * 2 ^ (min (8 : Int).toNat 64)) = 256 := by decide
   rw [e1, e2, wrapI (x := n - 256) (by omega) (by omega)]; rfl
  ·have e1 : IntKind.wrap .i64 (8 * 2) = 16 := by decide
   have e2 : IntKind.wrap .i64 (1 * 2 ^ (min (16 : Int).toNat 64)) = 65536 := by decide
   rw [e1, e2, wrapI (x := n - 65536) (by omega) (by omega)]; rfl
  ·have e1 : IntKind.wrap .i64 (8 * 4) = 32 := by decide
   have e2 : IntKind.wrap .i64 (1 * 2 ^ (min (32 : Int).toNat 64)) = 4294967296 := by decide
   rw [e1, e2, wrapI (x := n - 4294967296) (by omega) (by omega)]; rfl
theorem strD_len (b : List D) : (strD b).length = b.length := by unfold strD; simp
theorem sz_len {s : Int} {b : List D} (h : Sz s) (hl : (b.length : Int) = s) : b.length ≤ 4 := by rcases h with rfl | rfl | rfl <;> omega
theorem G137x0_eq (hN : maxLen < N) {s t at_ : Int} {data : List D} (big : Bool) (h0 : 0 ≤ at_) (h1 : at_ + s ≤ data.length) (hs0 : 0 ≤ s) (hd : data.length ≤ maxLen) (h : ValOk s t ((data.take (at_ + s).toNat).drop at_.toNat)) :
  G137x0 N s t at_ data big = some (valC s t ((data.take (at_ + s).toNat).drop at_.toNat) big) := by
 have hm : maxLen = 9223372036854775807 := rfl
 unfold G137x0 F137x0
 rw [wrapI (x := at_ + s) (by omega) (by omega), decide_eq_true h0, decide_eq_true (show at_ ≤ at_ + s by omega), decide_eq_true h1]
 simp only [Bool.and_self, _root_.cond_true, bnd_eq]
 generalize (data.take (at_ + s).toNat).drop at_.toNat = b at h ⊢
 have hb := h.hl
 have ht0 := h.t0
 have ht3 := h.t3
 unfold G137x0x36035 F137x0x36035 G137x0x12041 F137x0x12041 valC
 by_cases h3 : t = 3
 ·subst h3; rfl
 ·have e3 : (t == 3) = false := by simpa using h3
  rw [e3]
  by_cases h2 : t = 2
  ·subst h2
   obtain ⟨r, c, q⟩ := G144x0_eq (N := N) (l := strD b) (by rw [strD_len]; omega)
   rw [q]; rfl
  ·have e2 : (t == 2) = false := by simpa using h2
   have hsz := h.sz (by omega)
   have hn := numB_bound h.by_ big (sz_len hsz h.len)
   rw [e2, G81x0_eq hN h.by_ big (sz_len hsz h.len), G124x0_eq hsz]
   simp only [_root_.cond_false, bnd_eq, Option.isSome_some, getD_some, _root_.cond_true]
   generalize numB b big = n at hn ⊢
   unfold G137x0x24023 F137x0x24023 G137x0x25 F137x0x25 G137x0x29 F137x0x29
   cases hmi : (n == missV s (t == 1)) with
   | true => rfl
   | false =>
    have k := sub_pw hsz hn.1 hn.2 ((t == 1) && decide (n > missV s true))
    simp only [_root_.cond_false, bnd_eq]
    have hc : (bif t == 1 then (bif (G124x0 N s true).isSome then some (decide (n > (G124x0 N s true).getD default)) else none) else some false) = some ((t == 1) && decide (n > missV s true)) := by
     rw [G124x0_eq hsz]
     cases t == 1 <;> rfl
    rw [hc]
    simp only [Option.isSome_some, getD_some, _root_.cond_true]
    simp only [bnd_eq] at k
    rw [k]
    rfl
/-! ### All values of data -/
def valD (f : D) (a : Int) (data : List D) (big : Bool) : D :=
 .a [.i (fN f), .i (fT f), .i (valC (fS f) (fT f) ((data.take (a + fS f).toNat).drop a.toNat) big).1, .s (valC (fS f) (fT f) ((data.take (a + fS f).toNat).drop a.toNat) big).2.1, .b (valC (fS f) (fT f) ((data.take (a + fS f).toNat).drop a.toNat) big).2.2]
def valsL (data : List D) (big : Bool) : Bool → Int → List D → List D
 | _, _, [] => []
 | t, a, f :: r => bif t && isT f then valsL data big false a r else valD f a data big :: valsL data big t (a + fS f) r
def fldsAt : Bool → Int → List D → List D
 | _, _, [] => []
 | t, a, f :: r => bif t && isT f then fldsAt false a r else .a [.i (fN f), .i (fS f), .i (fT f), .i a] :: fldsAt t (a + fS f) r
theorem fldsAt_len : ∀ {fs : List D} {t : Bool} {a : Int}, (fldsAt t a fs).length ≤ fs.length
 | [], _, _ => Nat.le_refl _
 | f :: r, t, a => by
  simp only [fldsAt]
  cases t && isT f with
  | true => have := fldsAt_len (fs := r) (t := false) (a := a); simp only [_root_.cond_true, List.length_cons]; omega
  | false => have := fldsAt_len (fs := r) (t := t) (a := a + fS f); simp only [_root_.cond_false, List.length_cons]; omega
section
variable {fs : List D}
/-- Which byte the time begins at, and which fields are left. -/
def TInv (short t : Bool) (T all : Int) (r : List D) : Prop := bif short then (bif t then T = tmL all r else T < all) else t = false
theorem G96x0_eq (hN : maxLen < N) (h : FldsOk fs) (ht : TypOk fs) (short : Bool) : ∃ nl, G96x0 N fs (tmL 0 fs) short = some (nl, fldsAt short 0 fs) := by
 have hm : maxLen = 9223372036854775807 := rfl
 have hl := h.len
 have key := loop_indE (A := Int × Int × Int × Bool × LD) (X := Option (Bool × LD)) (S := fun x kr => S96x0x12 N short fs fs.length (tmL 0 fs) x.1 x.2.1 x.2.2.1 x.2.2.2.1 x.2.2.2.2 (fun a b c d e => kr (a, b, c, d, e)) (fun p => some p)) (L := fun m x => L96x0x12 N short fs fs.length (tmL 0 fs) m x.1 x.2.1 x.2.2.1 x.2.2.2.1 x.2.2.2.2 (fun p => some p)) (fun m x => rfl)
  (fun x r => ∀ t, TInv short t (tmL 0 fs) x.2.1 (fs.drop x.2.2.1.toNat) → ∃ nl, r = some (nl, x.2.2.2.2 ++ fldsAt t x.1 (fs.drop x.2.2.1.toNat)))
  (fun x => 0 ≤ x.2.2.1 ∧ x.2.2.1 ≤ fs.length ∧ 0 ≤ x.1 ∧ x.1 ≤ 255 * x.2.2.1 ∧ 0 ≤ x.2.1 ∧ x.2.1 ≤ 255 * x.2.2.1 ∧ (x.2.2.2.2.length : Int) ≤ x.2.2.1) (fun x => (fs.length - x.2.2.1).toNat) ?_ N (0, 0, 0, true, []) ⟨by decide, by show (0 : Int) ≤ _; omega, by decide, by decide, by decide, by decide, by decide⟩ (by simp; omega)
 ·obtain ⟨nl, k2⟩ := key short (by cases short <;> rfl)
  have k3 : G96x0x12 N short fs fs.length (tmL 0 fs) 0 0 0 true [] = some (nl, fldsAt short 0 fs) := by
   refine Eq.trans k2 ?_
   simp
  refine ⟨nl, ?_⟩
  unfold G96x0 F96x0
  rw [k3]; rfl
 ·rintro ⟨w1, all, w, b, l⟩ kr ⟨h0, h1, h2, h3, h4, h5, h6⟩ ih t hT
  simp only at h0 h1 h2 h3 h4 h5 h6 ih hT ⊢
  unfold S96x0x12
  by_cases hw : w < fs.length
  ·have hf := ht _ (getD_mem h0 hw)
   rw [decide_eq_true hw, inB_of h0 hw, drop_at (.i 0) h0 hw]
   rw [drop_at (.i 0) h0 hw] at hT
   have r1 : decide ((l.length + 1) * 32 ≤ room) = true := decide_eq_true (by unfold room; omega)
   have r2 : decide (l.length + 1 ≤ strMax) = true := decide_eq_true (by unfold strMax; omega)
   have e1 : ((fs.getD w.toNat (.i 0)).cell 1).toI = fS (fs.getD w.toNat (.i 0)) := rfl
   have w1' := wrapI (x := w + 1) (by omega) (by omega)
   simp only [_root_.cond_true, bnd_eq, r1, r2, Bool.and_self, e1, w1', wrapI (x := all + fS (fs.getD w.toNat (.i 0))) (by omega) (by omega), wrapI (x := w1 + fS (fs.getD w.toNat (.i 0))) (by omega) (by omega), fldsAt]
   have hc : (bif short then all == tmL 0 fs else false) = (t && isT (fs.getD w.toNat (.i 0))) ∧ TInv short (t && !(isT (fs.getD w.toNat (.i 0)))) (tmL 0 fs) (all + fS (fs.getD w.toNat (.i 0))) (fs.drop (w + 1).toNat) := by
    unfold TInv at hT ⊢
    cases short with
    | false => simp only [_root_.cond_false] at hT ⊢; subst hT; exact ⟨rfl, rfl⟩
    | true =>
     simp only [_root_.cond_true] at hT ⊢
     cases t with
     | false =>
      simp only [_root_.cond_false, Bool.false_and] at hT ⊢
      refine ⟨?_, by omega⟩
      simp; omega
     | true =>
      simp only [_root_.cond_true, Bool.true_and, tmL] at hT ⊢
      cases hi : isT (fs.getD w.toNat (.i 0)) with
      | true =>
       rw [hi] at hT
       simp only [_root_.cond_true, Bool.not_true, _root_.cond_false] at hT ⊢
       exact ⟨by simp; omega, by omega⟩
      | false =>
       rw [hi] at hT
       simp only [_root_.cond_false, Bool.not_false, _root_.cond_true] at hT ⊢
       refine ⟨?_, hT⟩
       have := tmL_bound (fs := fs.drop (w + 1).toNat) (a := all + fS (fs.getD w.toNat (.i 0))) (by omega) (fun x hx => h.size x (List.mem_of_mem_drop hx))
       simp; omega
   rw [hc.1]
   cases hti : (t && isT (fs.getD w.toNat (.i 0))) with
   | true =>
    simp only [_root_.cond_true]
    have ht2 : (t && !(isT (fs.getD w.toNat (.i 0)))) = false := (by decide : ∀ x y : Bool, (x && y) = true → (x && !y) = false) _ _ hti
    exact ih (w1, all + fS (fs.getD w.toNat (.i 0)), w + 1, b, l) ⟨by simp only; omega, by simp only; omega, by simp only; omega, by simp only; omega, by simp only; omega, by simp only; omega, by simp only; omega⟩ (by simp only; omega) false (ht2 ▸ hc.2)
   | false =>
    simp only [_root_.cond_false]
    have ht2 : (t && !(isT (fs.getD w.toNat (.i 0)))) = t := (by decide : ∀ x y : Bool, (x && y) = false → (x && !y) = x) _ _ hti
    obtain ⟨nl, e⟩ := ih (w1 + fS (fs.getD w.toNat (.i 0)), all + fS (fs.getD w.toNat (.i 0)), w + 1, false, l ++ [.a [.i (fN (fs.getD w.toNat (.i 0))), .i (fS (fs.getD w.toNat (.i 0))), .i (fT (fs.getD w.toNat (.i 0))), .i w1]]) ⟨by simp only; omega, by simp only; omega, by simp only; omega, by simp only; omega, by simp only; omega, by simp only; omega, by simp; omega⟩ (by simp only; omega) t (ht2 ▸ hc.2)
    exact ⟨nl, by rw [← List.append_cons] at e; exact e⟩
  ·have : w = fs.length := by omega
   subst this
   rw [decide_eq_false hw, drop_end (by omega)]
   exact ⟨b, by simp [fldsAt]⟩
end
/-- All places of the fields lie in the data. -/
def AtOk (n : Int) : List D → Prop
 | [] => True
 | f :: r => (0 ≤ (f.cell 3).toI ∧ (f.cell 3).toI + fS f ≤ n) ∧ AtOk n r
theorem fldsAt_ok : ∀ {fs : List D} {t : Bool} {a n : Int}, TypOk fs → 0 ≤ a → a + szL (flds t fs) ≤ n → AtOk n (fldsAt t a fs) ∧ TypOk (fldsAt t a fs)
 | [], _, _, _, _, _, _ => ⟨trivial, fun f hf => by simp [fldsAt] at hf⟩
 | f :: r, t, a, n, ht, h0, h1 => by
  have h2 := ht f (by simp)
  have h3 : TypOk r := fun x hx => ht x (by simp [hx])
  simp only [flds, fldsAt] at h1 ⊢
  cases hh : t && isT f with
  | true =>
   rw [hh] at h1
   simp only [_root_.cond_true] at h1 ⊢
   exact fldsAt_ok h3 h0 h1
  | false =>
   rw [hh] at h1
   simp only [_root_.cond_false, szL] at h1 ⊢
   have e : fS (.a [.i (fN f), .i (fS f), .i (fT f)]) = fS f := rfl
   rw [e] at h1
   obtain ⟨q1, q2⟩ := fldsAt_ok (t := t) (a := a + fS f) (n := n) h3 (by omega) (by omega)
   have hb := szL_bound (fs := flds t r) (fun x hx => (flds_ok (fun y hy => by have := h3 y hy; omega)).2 x hx)
   refine ⟨⟨⟨h0, by show a + fS f ≤ n; omega⟩, q1⟩, fun x hx => ?_⟩
   rcases List.mem_cons.1 hx with rfl | hx
   ·exact h2
   ·exact q2 x hx
section
variable {fs data : List D} {big : Bool}
theorem valOk_sub {f : D} {a : Int} (hf : 0 ≤ fT f ∧ fT f ≤ 3 ∧ 1 ≤ fS f ∧ fS f ≤ 255 ∧ (fT f ≤ 1 → fS f = 1 ∨ fS f = 2 ∨ fS f = 4)) (h0 : 0 ≤ a) (h1 : a + fS f ≤ data.length) (hb : BytesOk data) : ValOk (fS f) (fT f) ((data.take (a + fS f).toNat).drop a.toNat) := by
 have hl : ((data.take (a + fS f).toNat).drop a.toNat).length = (fS f).toNat := by simp; omega
 exact ⟨hf.1, hf.2.1, hf.2.2.2.2, by omega, fun x hx => hb x (List.mem_of_mem_take (List.mem_of_mem_drop hx)), by omega⟩
theorem atOk_get : ∀ {l : List D} {n : Int} {i : Nat}, AtOk n l → i < l.length → 0 ≤ ((l.getD i (.i 0)).cell 3).toI ∧ ((l.getD i (.i 0)).cell 3).toI + fS (l.getD i (.i 0)) ≤ n
 | f :: r, n, 0, h, _ => h.1
 | f :: r, n, i + 1, h, hi => by
  have := atOk_get (l := r) (i := i) h.2 (by simpa using hi)
  simpa using this
 | [], _, _, _, hi => by simp at hi
def valA (data : List D) (big : Bool) (f : D) : D := valD f (f.cell 3).toI data big
theorem valsL_map : ∀ {fs : List D} {t : Bool} {a : Int}, (fldsAt t a fs).map (valA data big) = valsL data big t a fs
 | [], _, _ => rfl
 | f :: r, t, a => by
  simp only [fldsAt, valsL]
  cases t && isT f with
  | true => exact valsL_map
  | false => simp only [_root_.cond_false, List.map_cons, valsL_map]; rfl
theorem G94x0x9_eq (hN : maxLen < N) {l : List D} (hl : l.length ≤ 255) (hd : data.length ≤ maxLen) (hb : BytesOk data) (h1 : AtOk data.length l) (h2 : TypOk l) : ∃ nl, G94x0x9 N l l.length big data 0 true [] = some (nl, l.map (valA data big)) := by
 have hm : maxLen = 9223372036854775807 := rfl
 have key := loop_indE (A := Int × Bool × LD) (X := Option (Bool × LD)) (S := fun x kr => S94x0x9 N l l.length big data x.1 x.2.1 x.2.2 (fun a b c => kr (a, b, c)) (fun p => some p)) (L := fun m x => L94x0x9 N l l.length big data m x.1 x.2.1 x.2.2 (fun p => some p)) (fun m x => rfl)
  (fun x r => ∃ nl, r = some (nl, x.2.2 ++ (l.drop x.1.toNat).map (valA data big))) (fun x => 0 ≤ x.1 ∧ x.1 ≤ l.length ∧ (x.2.2.length : Int) ≤ x.1) (fun x => (l.length - x.1).toNat) ?_ N (0, true, []) ⟨by show (0 : Int) ≤ 0; omega, by show (0 : Int) ≤ _; omega, by simp⟩ (by simp; omega)
 ·obtain ⟨nl, k2⟩ := key
  exact ⟨nl, Eq.trans k2 (by simp)⟩
 ·rintro ⟨w, b, acc⟩ kr ⟨h0, h3, h4⟩ ih
  simp only at h0 h3 h4 ih ⊢
  unfold S94x0x9
  by_cases hw : w < l.length
  ·have hf := h2 _ (getD_mem (fs := l) h0 hw)
   have ha := atOk_get (i := w.toNat) h1 (by omega)
   have r1 : decide ((acc.length + 1) * 48 ≤ room) = true := decide_eq_true (by unfold room; omega)
   have r2 : decide (acc.length + 1 ≤ strMax) = true := decide_eq_true (by unfold strMax; omega)
   have q := G137x0_eq (N := N) (s := fS (l.getD w.toNat (.i 0))) (t := fT (l.getD w.toNat (.i 0))) (at_ := ((l.getD w.toNat (.i 0)).cell 3).toI) (data := data) hN big ha.1 ha.2 (by omega) hd (valOk_sub hf ha.1 ha.2 hb)
   rw [decide_eq_true hw, inB_of h0 hw, drop_at (.i 0) h0 hw]
   have q' : G137x0 N ((l.getD w.toNat (.i 0)).cell 1).toI ((l.getD w.toNat (.i 0)).cell 2).toI ((l.getD w.toNat (.i 0)).cell 3).toI data big = _ := q
   simp only [_root_.cond_true, bnd_eq, q', Option.isSome_some, getD_some, r1, r2, Bool.and_self, wrapI (x := w + 1) (by omega) (by omega), List.map_cons]
   obtain ⟨nl, e⟩ := ih (w + 1, false, acc ++ [valA data big (l.getD w.toNat (.i 0))]) ⟨by simp only; omega, by simp only; omega, by simp; omega⟩ (by simp only; omega)
   exact ⟨nl, by rw [← List.append_cons] at e; exact e⟩
  ·have : w = l.length := by omega
   subst this
   rw [decide_eq_false hw, drop_end (by omega)]
   exact ⟨b, by simp⟩
theorem G94x0_eq (hN : maxLen < N) (h : FldsOk fs) (ht : TypOk fs) (hd : data.length ≤ maxLen) (hb : BytesOk data) (kind : Int) (hlen : szL (flds (kind == 3) fs) ≤ data.length) :
  ∃ nl, G94x0 N big fs (tmL 0 fs) kind data = some (nl, valsL data big (kind == 3) 0 fs) := by
 obtain ⟨n1, q1⟩ := G96x0_eq (N := N) hN h ht (kind == 3)
 obtain ⟨a1, a2⟩ := fldsAt_ok (t := kind == 3) (a := 0) (n := data.length) ht (by omega) (by omega)
 obtain ⟨n2, q2⟩ := G94x0x9_eq (N := N) (big := big) hN (l := fldsAt (kind == 3) 0 fs) (by have := fldsAt_len (fs := fs) (t := kind == 3) (a := 0); have := h.len; omega) hd hb a1 a2
 refine ⟨n2, ?_⟩
 unfold G94x0 F94x0
 simp only [bnd_eq]
 rw [q1]
 simp only [Option.isSome_some, getD_some, _root_.cond_true]
 rw [q2, valsL_map]
 rfl
theorem TypOk.flds : ∀ {fs : List D} {t : Bool}, TypOk fs → TypOk (flds t fs)
 | [], _, _, f, hf => by simp [Proofs.Ytnnofignhdijiaa.flds] at hf
 | f :: r, t, h, x, hx => by
  have h3 : TypOk r := fun x hx => h x (by simp [hx])
  simp only [Proofs.Ytnnofignhdijiaa.flds] at hx
  cases hh : t && isT f with
  | true => rw [hh] at hx; exact TypOk.flds h3 x hx
  | false =>
   rw [hh] at hx
   rcases List.mem_cons.1 hx with rfl | hx
   ·exact h f (by simp)
   ·exact TypOk.flds h3 x hx
end
end Go.Proofs.Ytnnofignhdijiaa

/-! Plain laws: a number and a text among values; the data of a file. -/
namespace Go.Proofs.Ytnnofignhdijiaa
open Go Go.AM
set_option maxRecDepth 100000
set_option maxHeartbeats 4000000
set_option linter.unusedVariables false
variable {N : Nat}
def isV (f t : Int) (v : D) : Bool := bif (bif (v.cell 0).toI == f then (v.cell 1).toI == t else false) then !(v.cell 4).toB else false
def isX (f : Int) (v : D) : Bool := bif (v.cell 0).toI == f then (v.cell 1).toI == 2 else false
def numV (f t : Int) (vs : List D) : Int × Bool := match vs.find? (isV f t) with | some v => ((v.cell 2).toI, true) | none => (0, false)
def txtV (f : Int) (vs : List D) : List UInt8 := match vs.find? (isX f) with | some v => (v.cell 3).toS | none => []
def fV (p : D → Bool) (l : List D) : Sum Int Unit := match l.find? p with | some v => .inl (v.cell 2).toI | none => .inr ()
def fX (p : D → Bool) (l : List D) : Sum (List UInt8) Unit := match l.find? p with | some v => .inl (v.cell 3).toS | none => .inr ()
theorem fV_cons {p : D → Bool} {x : D} {l : List D} : fV p (x :: l) = bif p x then .inl (x.cell 2).toI else fV p l := by
 unfold fV; rw [List.find?_cons]; cases p x <;> rfl
theorem fX_cons {p : D → Bool} {x : D} {l : List D} : fX p (x :: l) = bif p x then .inl (x.cell 3).toS else fX p l := by
 unfold fX; rw [List.find?_cons]; cases p x <;> rfl
section
variable {vs : List D}
theorem G87x0_eq (hN : maxLen < N) (hl : vs.length ≤ maxLen) (f t : Int) : G87x0 N vs f t = some (numV f t vs) := by
 have h : G87x0x6 N f t vs vs.length 0 = some (fV (isV f t) vs) := by
  unfold G87x0x6
  refine for_ind (.i 0 : D) (S := fun w kr => S87x0x6 N f t vs vs.length w kr _ _) (L := fun m w => L87x0x6 N f t vs vs.length m w _ _) (fun m w => rfl) (fun _ l => some (fV (isV f t) l)) hl ?_ ?_ hN
  ·intro kr; simp [S87x0x6]; rfl
  ·intro w kr h0 h1 hw hi hk
   simp only [S87x0x6, decide_eq_true h1, _root_.cond_true, hi, bnd_eq, hw, hk, fV_cons]
   show (bif isV f t (vs.getD w.toNat (.i 0)) then _ else _) = _
   cases isV f t (vs.getD w.toNat (.i 0)) <;> rfl
 unfold G87x0 F87x0 numV
 rw [h]
 unfold fV
 cases vs.find? (isV f t) <;> rfl
theorem G86x0_eq (hN : maxLen < N) (hl : vs.length ≤ maxLen) (f : Int) : G86x0 N vs f = some (txtV f vs) := by
 have h : G86x0x6 N f vs vs.length 0 = some (fX (isX f) vs) := by
  unfold G86x0x6
  refine for_ind (.i 0 : D) (S := fun w kr => S86x0x6 N f vs vs.length w kr _ _) (L := fun m w => L86x0x6 N f vs vs.length m w _ _) (fun m w => rfl) (fun _ l => some (fX (isX f) l)) hl ?_ ?_ hN
  ·intro kr; simp [S86x0x6]; rfl
  ·intro w kr h0 h1 hw hi hk
   simp only [S86x0x6, decide_eq_true h1, _root_.cond_true, hi, bnd_eq, hw, hk, fX_cons]
   show (bif isX f (vs.getD w.toNat (.i 0)) then _ else _) = _
   cases isX f (vs.getD w.toNat (.i 0)) <;> rfl
 unfold G86x0 F86x0 txtV
 rw [h]
 unfold fX
 cases vs.find? (isX f) <;> rfl
/-- A number, -1 if it is not known. -/
def knV (f : Int) (vs : List D) : Int := bif (numV f 0 vs).2 then (numV f 0 vs).1 else -1
end
/-! ### The data of a file -/
def OkT (a : Ab) : Prop := ∀ j, a.kn j = true → TypOk (a.fs j)
theorem OkT.step {a : Ab} (h : OkT a) {x : D} (hx : errE a x = 0) : OkT (stepA a x) := by
 unfold stepA stepD
 cases hk : kX x == 1 with
 | true =>
  have hE := entE_ok hx
  have hf := defE_typ (hE.d (by simpa using hk)).2
  intro j hj
  simp only [_root_.cond_true, upA] at hj ⊢
  by_cases e : j = (sX x).toNat
  ·simp only [if_pos e]; exact hf
  ·simp only [if_neg e] at hj ⊢; exact h j hj
 | false => exact h
theorem OkT.start : OkT Ab.start := fun j hj => by simp [Ab.start] at hj
def valsX (a : Ab) (x : D) : List D := valsL (bX x) (a.bg (sX x).toNat) (kX x == 3) 0 (a.fs (sX x).toNat)
abbrev Tri : Type := Int × Int × List D
def dataA : Ab → List D → List Tri
 | _, [] => []
 | a, x :: r => bif kX x == 1 then dataA (stepA a x) r else (a.gl (sX x).toNat, timeE a x, valsX a x) :: dataA (stepA a x) r
def DatR (d : D) (t : Tri) : Prop := (d.cell 0).toI = t.1 ∧ (d.cell 1).toI = t.2.1 ∧ (d.cell 2).items = t.2.2
theorem valsL_len {data : List D} {big : Bool} : ∀ {fs : List D} {t : Bool} {a : Int}, (valsL data big t a fs).length ≤ fs.length
 | [], _, _ => Nat.le_refl _
 | f :: r, t, a => by
  simp only [valsL]
  cases t && isT f with
  | true => have := valsL_len (data := data) (big := big) (fs := r) (t := false) (a := a); simp only [_root_.cond_true, List.length_cons]; omega
  | false => have := valsL_len (data := data) (big := big) (fs := r) (t := t) (a := a + fS f); simp only [_root_.cond_false, List.length_cons]; omega
theorem cutS_len (l : List UInt8) : (cutS l).length ≤ l.length := by
 unfold cutS
 cases decide (Lib.indexByte l 0 ≥ 0) with
 | true => simp only [_root_.cond_true, List.length_take]; omega
 | false => exact Nat.le_refl _
theorem valsL_str {data : List D} {big : Bool} : ∀ {fs : List D} {t : Bool} {a : Int}, ∀ v ∈ valsL data big t a fs, (v.cell 3).toS.length ≤ data.length
 | [], _, _, v, hv => by simp [valsL] at hv
 | f :: r, t, a, v, hv => by
  simp only [valsL] at hv
  cases hh : t && isT f with
  | true => rw [hh] at hv; exact valsL_str v hv
  | false =>
   rw [hh] at hv
   rcases List.mem_cons.1 hv with rfl | hv
   ·show (valC (fS f) (fT f) ((data.take (a + fS f).toNat).drop a.toNat) big).2.1.length ≤ data.length
    have hb : ((data.take (a + fS f).toNat).drop a.toNat).length ≤ data.length := by simp; omega
    have hs := strD_len ((data.take (a + fS f).toNat).drop a.toNat)
    generalize (data.take (a + fS f).toNat).drop a.toNat = b at hb hs ⊢
    have hc := cutS_len (strD b)
    unfold valC
    cases fT f == 3 <;> cases fT f == 2 <;> cases numB b big == missV (fS f) (fT f == 1) <;> simp <;> omega
   ·exact valsL_str v hv
/-- What is asked of the data. -/
def TriOk (t : Tri) : Prop := t.2.2.length ≤ 255 ∧ ∀ v ∈ t.2.2, (v.cell 3).toS.length ≤ maxLen
theorem txtV_len {f : Int} {vs : List D} (h : ∀ v ∈ vs, (v.cell 3).toS.length ≤ maxLen) : (txtV f vs).length ≤ maxLen := by
 unfold txtV
 cases hv : vs.find? (isX f) with
 | none => exact Nat.zero_le _
 | some v => exact h v (List.mem_of_find?_eq_some hv)
/-- What is known of data that are right. -/
theorem data_ok {a : Ab} {x : D} (ha : OkA a) (ht : OkT a) (h : errE a x = 0) (hx : EntD x) (hk : kX x ≠ 1) : FldsOk (a.fs (sX x).toNat) ∧ TypOk (a.fs (sX x).toNat) ∧ szL (flds (kX x == 3) (a.fs (sX x).toNat)) ≤ (bX x).length ∧ (bX x).length ≤ maxLen ∧ BytesOk (bX x) ∧ a.kn (sX x).toNat = true := by
 have hE := entE_ok h
 have hkn := (hE.n hk).1
 have hf := ha _ hkn
 refine ⟨hf, ht _ hkn, ?_, hx.b, hx.y, hkn⟩
 by_cases h3 : kX x = 3
 ·obtain ⟨t0, l0, o0, o1, hl⟩ := hE.h h3
  have := (szL_flds (a := 0) (by omega) hf.size).2 t0
  rw [h3]
  show szL (flds true _) ≤ _
  rw [this]
  omega
 ·have h2 : kX x = 2 := by have := hE.k; omega
  have := hE.t h2
  rw [h2]
  show szL (flds false _) ≤ _
  rw [szL_flds_false]
  omega
theorem tri_ok {a : Ab} {x : D} (ha : OkA a) (h : errE a x = 0) (hx : EntD x) (hk : kX x ≠ 1) (g t : Int) : TriOk (g, t, valsX a x) := by
 have hE := entE_ok h
 have hf := ha _ (hE.n hk).1
 exact ⟨Nat.le_trans valsL_len hf.len, fun v hv => Nat.le_trans (valsL_str v hv) hx.b⟩
section
variable {es : List D}
theorem dataA_ok : ∀ {es : List D} {a : Ab}, OkA a → errsA a es = 0 → (∀ x ∈ es, EntD x) → (dataA a es).length ≤ es.length ∧ ∀ t ∈ dataA a es, TriOk t
 | [], _, _, _, _ => ⟨Nat.le_refl _, fun t ht => by simp [dataA] at ht⟩
 | x :: r, a, ha, he, hes => by
  obtain ⟨e1, e2⟩ := errs_cons he
  have ih := dataA_ok (ha.step e1) e2 (fun y hy => hes y (by simp [hy]))
  simp only [dataA]
  cases hk : kX x == 1 with
  | true => simp only [_root_.cond_true, List.length_cons]; exact ⟨by omega, ih.2⟩
  | false =>
   simp only [_root_.cond_false, List.length_cons]
   refine ⟨by omega, fun t ht => ?_⟩
   rcases List.mem_cons.1 ht with rfl | ht
   ·exact tri_ok ha e1 (hes x (by simp)) (by simpa using hk) _ _
   ·exact ih.2 t ht
theorem data_loop (hN : maxLen < N) (hes : ∀ x ∈ es, EntD x) (hl : es.length ≤ 50000) : ∀ (m : Nat) (i : Int) (p s : D) (a : Ab) (b : Bool) (acc : List D), OkA a → OkT a → 0 ≤ i → i ≤ es.length → (es.length - i).toNat < m → Wk p s a i → errsA a (es.drop i.toNat) = 0 → (acc.length : Int) ≤ i →
  ∃ b' dl, L85x0x12 N es es.length m i b acc p (fun p => some p) = some (b', acc ++ dl) ∧ All2 DatR dl (dataA a (es.drop i.toNat)) := by
 have hm : maxLen = 9223372036854775807 := rfl
 intro m
 induction m with
 | zero => intro i p s a b acc _ _ _ _ h; omega
 | succ m ih =>
  intro i p s a b acc ha ht h0 h1 hmm hw he hacc
  unfold L85x0x12 S85x0x12
  by_cases hi : i < es.length
  ·have hx : EntD _ := hes _ (getD_mem (fs := es) h0 hi)
   rw [drop_at (.i 0) h0 hi] at he ⊢
   obtain ⟨e1, e2⟩ := errs_cons he
   obtain ⟨p', s', q1, q2, hw'⟩ := take_abs (N := N) hN hw hx h0 (by omega) e1
   have hE := entE_ok e1
   have r1 : decide ((acc.length + 1) * 40 ≤ room) = true := decide_eq_true (by unfold room; omega)
   have r2 : decide (acc.length + 1 ≤ strMax) = true := decide_eq_true (by unfold strMax; omega)
   rw [decide_eq_true hi, inB_of h0 hi, q1]
   simp only [_root_.cond_true, bnd_eq, Option.isSome_some, getD_some, hE.s.1, wrapI (x := i + 1) (by omega) (by omega)]
   unfold G85x0x29 F85x0x29
   by_cases hk : kX (es.getD i.toNat (.i 0)) = 1
   ·have b1 : (((es.getD i.toNat (.i 0)).cell 0).toI != 1) = false := by show (kX _ != 1) = false; rw [hk]; rfl
    rw [b1]
    simp only [_root_.cond_false]
    obtain ⟨b', dl, z1, z2⟩ := ih (i + 1) p' s' _ b acc (ha.step e1) (ht.step e1) (by omega) (by omega) (by omega) hw' e2 (by omega)
    refine ⟨b', dl, z1, ?_⟩
    simp only [dataA]
    rw [hk]
    exact z2
   ·have b1 : (((es.getD i.toNat (.i 0)).cell 0).toI != 1) = true := (not1 hk).2
    obtain ⟨s1, s2, s3, s4, s5⟩ := step_data (a := a) hk
    obtain ⟨f1, f2, f3, f4, f5, f6⟩ := data_ok ha ht e1 hx hk
    have hkn : (stepA a (es.getD i.toNat (.i 0))).kn (sX (es.getD i.toNat (.i 0))).toNat = true := by rw [s1]; exact f6
    obtain ⟨_, g2, g3, g4, g5, g6⟩ := hw'.pp.df _ hE.s.2 hkn
    unfold stepA at s2 s3 s4
    rw [s2] at g2
    rw [s3] at g3
    rw [s4] at g4 g6
    obtain ⟨nl, hv⟩ := G94x0_eq (N := N) (big := a.bg (sX (es.getD i.toNat (.i 0))).toNat) hN f1 f2 f4 f5 (kX (es.getD i.toNat (.i 0))) f3
    rw [b1]
    have c1 : (p'.cell (1 + (((es.getD i.toNat (.i 0)).cell 1).toI.toNat * 6))).toB = a.bg (sX (es.getD i.toNat (.i 0))).toNat := g2
    have c2 : (p'.cell (2 + (((es.getD i.toNat (.i 0)).cell 1).toI.toNat * 6))).toI = a.gl (sX (es.getD i.toNat (.i 0))).toNat := g3
    have c3 : (p'.cell (3 + (((es.getD i.toNat (.i 0)).cell 1).toI.toNat * 6))).items = a.fs (sX (es.getD i.toNat (.i 0))).toNat := g4
    have c5 : (p'.cell (5 + (((es.getD i.toNat (.i 0)).cell 1).toI.toNat * 6))).toI = tmL 0 (a.fs (sX (es.getD i.toNat (.i 0))).toNat) := g6
    rw [c1, c2, c3, c5]
    have hv' : G94x0 N (a.bg (sX (es.getD i.toNat (.i 0))).toNat) (a.fs (sX (es.getD i.toNat (.i 0))).toNat) (tmL 0 (a.fs (sX (es.getD i.toNat (.i 0))).toNat)) ((es.getD i.toNat (.i 0)).cell 0).toI ((es.getD i.toNat (.i 0)).cell 4).items = some (nl, valsX a (es.getD i.toNat (.i 0))) := hv
    simp only [_root_.cond_true, bnd_eq, hv', Option.isSome_some, getD_some, r1, r2, Bool.and_self, inlB_inl, inlV_inl]
    obtain ⟨b', dl, z1, z2⟩ := ih (i + 1) p' s' _ false (acc ++ [.a [.i (a.gl (sX (es.getD i.toNat (.i 0))).toNat), .i (timeE a (es.getD i.toNat (.i 0))), .l nl (valsX a (es.getD i.toNat (.i 0)))]]) (ha.step e1) (ht.step e1) (by omega) (by omega) (by omega) hw' e2 (by simp; omega)
    refine ⟨b', .a [.i (a.gl (sX (es.getD i.toNat (.i 0))).toNat), .i (timeE a (es.getD i.toNat (.i 0))), .l nl (valsX a (es.getD i.toNat (.i 0)))] :: dl, by rw [← List.append_cons] at z1; exact z1, ?_⟩
    simp only [dataA]
    rw [(not1 hk).1]
    exact ⟨⟨rfl, rfl, rfl⟩, z2⟩
  ·have : i = es.length := by omega
   subst this
   rw [decide_eq_false hi, drop_end (by omega)]
   exact ⟨b, [], by simp, trivial⟩
theorem data_prog (hN : maxLen < N) (hes : ∀ x ∈ es, EntD x) (h : fileE es = 0) : ∃ b dl, G85x0 N es = some (b, dl) ∧ All2 DatR dl (dataA Ab.start es) := by
 have hm : maxLen = 9223372036854775807 := rfl
 obtain ⟨hl, he⟩ := fileE_ok h
 obtain ⟨b, dl, z, zr⟩ := data_loop (N := N) hN hes hl N 0 (V70x0 N) zeroS Ab.start true [] OkA.start OkT.start (by omega) (by omega) (by omega) start70 (by simpa using he) (by simp)
 have y1 : G85x0x12 N es es.length 0 true [] (V70x0 N) = some (b, dl) := by unfold G85x0x12; simpa using z
 refine ⟨b, dl, ?_, by simpa using zr⟩
 unfold G85x0 F85x0
 simp only [bnd_eq]
 rw [y1]; rfl
end
end Go.Proofs.Ytnnofignhdijiaa

/-! Plain laws: the activity of a file (record.Activity and the reference's). -/
namespace Go.Proofs.Ytnnofignhdijiaa
open Go Go.AM
set_option maxRecDepth 100000
set_option maxHeartbeats 4000000
set_option linter.unusedVariables false
variable {N : Nat}
def triD (d : D) : Tri := ((d.cell 0).toI, (d.cell 1).toI, (d.cell 2).items)
theorem datR_map : ∀ {dl : List D} {l : List Tri}, All2 DatR dl l → dl.map triD = l
 | [], [], _ => rfl
 | d :: r, t :: s, h => by
  obtain ⟨⟨h1, h2, h3⟩, h4⟩ := h
  simp only [List.map_cons, datR_map h4, triD, h1, h2, h3]
 | [], _ :: _, h => h.elim
 | _ :: _, [], h => h.elim
abbrev Hd : Type := List UInt8 × Int × Int × Bool
def hdT (t : Tri) : Hd := (txtV 1 t.2.2, (numV 2 0 t.2.2).1, t.2.1, (numV 2 0 t.2.2).2)
def headA (l : List Tri) : Option Hd := (l.find? (fun t => t.1 == 0)).map hdT
theorem headA_cons {t : Tri} {l : List Tri} : headA (t :: l) = bif t.1 == 0 then some (hdT t) else headA l := by
 unfold headA
 simp only [List.find?_cons]
 cases t.1 == 0 <;> rfl
def headP : Option Hd → Bool × List UInt8 × Int × Int
 | none => (false, [], 0, 0)
 | some q => (q.2.2.2, q.1, q.2.1, q.2.2.1)
def badH (q : Hd) : Bool := bif (bif !q.2.2.2 then true else q.1 == []) then true else decide (q.2.2.1 < 0)
theorem head_prog (hN : maxLen < N) {dl : List D} (hl : dl.length ≤ maxLen) (hok : ∀ d ∈ dl, TriOk (triD d)) : G41x0x24 N false dl dl.length [] 0 0 0 = some (headP (headA (dl.map triD))) := by
 have hm : maxLen = 9223372036854775807 := rfl
 unfold G41x0x24
 refine for_ind (.i 0 : D) (S := fun w kr => S41x0x24 N false dl dl.length [] 0 0 w kr _) (L := fun m w => L41x0x24 N false dl dl.length [] 0 0 m w _) (fun m w => rfl) (fun _ l => some (headP (headA (l.map triD)))) hl ?_ ?_ hN
 ·intro kr; simp [S41x0x24, headA, headP]
 ·intro w kr h0 h1 hw hi hk
  obtain ⟨o1, o2⟩ := hok _ (getD_mem (fs := dl) h0 h1)
  simp only [S41x0x24, decide_eq_true h1, _root_.cond_true, hi, bnd_eq, hw, hk, List.map_cons, headA_cons]
  show (bif ((triD (dl.getD w.toNat (.i 0))).1 == 0) then _ else _) = _
  cases hg : ((triD (dl.getD w.toNat (.i 0))).1 == 0) with
  | false => rfl
  | true =>
   have q1 := G86x0_eq (N := N) (vs := ((dl.getD w.toNat (.i 0)).cell 2).items) hN (by exact Nat.le_trans o1 (by omega)) 1
   have q2 := G87x0_eq (N := N) (vs := ((dl.getD w.toNat (.i 0)).cell 2).items) hN (by exact Nat.le_trans o1 (by omega)) 2 0
   rw [q1, q2]
   rfl
/-! ### Samples, laps, tags -/
def smpD (t st : Int) (vs : List D) : D := .a [.i (IntKind.wrap .i64 (t - st)), .i (numV 0 1 vs).1, .i (numV 1 1 vs).1, .i (numV 2 1 vs).1, .i (knV 3 vs), .i (knV 4 vs), .i (knV 5 vs)]
def smpOk (t : Int) (vs : List D) : Bool := bif (bif (bif decide (t ≥ 0) then (numV 0 1 vs).2 else false) then (numV 1 1 vs).2 else false) then (numV 2 1 vs).2 else false
def lapD (t st : Int) (vs : List D) : D := .a [.i (IntKind.wrap .i64 (t - st)), .i (IntKind.wrap .i64 ((numV 1 0 vs).1 - st)), .s (txtV 2 vs)]
def lapOk (t : Int) (vs : List D) : Bool := bif (numV 1 0 vs).2 then decide (t ≥ 0) else false
def tagOk (vs : List D) : Bool := !(txtV 1 vs == [])
def actR (st : Int) : List Tri → List D → List D → List D → Option (List D × List D × List D)
 | [], ss, ls, ts => some (ss, ls, ts)
 | d :: r, ss, ls, ts => bif d.1 == 20 then (bif smpOk d.2.1 d.2.2 then actR st r (ss ++ [smpD d.2.1 st d.2.2]) ls ts else none)
   else bif d.1 == 19 then (bif lapOk d.2.1 d.2.2 then actR st r ss (ls ++ [lapD d.2.1 st d.2.2]) ts else none)
   else bif d.1 == 30 then (bif tagOk d.2.2 then actR st r ss ls (ts ++ [.s (txtV 1 d.2.2)]) else none)
   else actR st r ss ls ts
/-- One piece of data, as the program takes it. -/
theorem added_eq (hN : maxLen < N) {g t st : Int} {vs ss ls ts : List D} (hv : TriOk (g, t, vs)) (h1 : ss.length ≤ 50000) (h2 : ls.length ≤ 50000) (h3 : ts.length ≤ 50000) :
  G88x0 N g t vs st ss ls ts = some (bif g == 20 then .inl (smpOk t vs, ss ++ [smpD t st vs]) else bif g == 19 then .inr (.inl (lapOk t vs, ls ++ [lapD t st vs])) else bif g == 30 then .inr (.inr (.inl (tagOk vs, ts ++ [.s (txtV 1 vs)]))) else .inr (.inr (.inr ()))) := by
 have hm : maxLen = 9223372036854775807 := rfl
 have o1 : vs.length ≤ maxLen := Nat.le_trans hv.1 (by omega)
 have r1 : decide ((ss.length + 1) * 56 ≤ room) = true := decide_eq_true (by unfold room; omega)
 have r2 : decide (ss.length + 1 ≤ strMax) = true := decide_eq_true (by unfold strMax; omega)
 have r3 : decide ((ls.length + 1) * 32 ≤ room) = true := decide_eq_true (by unfold room; omega)
 have r4 : decide (ls.length + 1 ≤ strMax) = true := decide_eq_true (by unfold strMax; omega)
 have r5 : decide ((ts.length + 1) * 16 ≤ room) = true := decide_eq_true (by unfold room; omega)
 have r6 : decide (ts.length + 1 ≤ strMax) = true := decide_eq_true (by unfold strMax; omega)
 have n1 := fun f t => G87x0_eq (N := N) hN o1 f t
 have n2 := fun f => G86x0_eq (N := N) hN o1 f
 unfold G88x0 F88x0 V88x0x51050 F88x0x51050 V88x0x51050b F88x0x51050b V88x0x51050bb F88x0x51050bb
 cases g == 20 with
 | true =>
  simp only [_root_.cond_true, bnd_eq, n1, Option.isSome_some, getD_some, r1, r2, Bool.and_self, smpD, smpOk, knV]
 | false =>
  simp only [_root_.cond_false]
  cases g == 19 with
  | true => simp only [_root_.cond_true, bnd_eq, n1, n2, Option.isSome_some, getD_some, r3, r4, Bool.and_self, lapD, lapOk]
  | false =>
   simp only [_root_.cond_false]
   cases g == 30 with
   | true => simp only [_root_.cond_true, bnd_eq, n1, n2, Option.isSome_some, getD_some, r5, r6, Bool.and_self, tagOk]
   | false => rfl
abbrev ActP : Type := List UInt8 × Bool × List D × Bool × List D
abbrev ActQ : Type := Bool × List D × Bool × List D × Bool × List D
def ActSum (q : Sum ActP (Sum ActP (Sum ActP ActQ))) : Option (List D × List D × List D) → Prop
 | none => (∃ z, q = .inl ([], z)) ∨ (∃ z, q = .inr (.inl ([], z))) ∨ (∃ z, q = .inr (.inr (.inl ([], z))))
 | some r => ∃ n1 n2 n3, q = .inr (.inr (.inr (n1, r.1, n2, r.2.1, n3, r.2.2)))
theorem body_loop (hN : maxLen < N) {dl : List D} (hl : dl.length ≤ 50000) (hok : ∀ d ∈ dl, TriOk (triD d)) (st : Int) : ∀ (m : Nat) (i : Int) (b1 b2 b3 : Bool) (ss ls ts : List D), 0 ≤ i → i ≤ dl.length → (dl.length - i).toNat < m → (ss.length : Int) ≤ i → (ls.length : Int) ≤ i → (ts.length : Int) ≤ i →
  ∃ q, L41x0x51 N dl dl.length st m i b1 ss b2 ls b3 ts (fun p => some (Sum.inl p)) (fun p => some (Sum.inr (Sum.inl p))) (fun p => some (Sum.inr (Sum.inr (Sum.inl p)))) (fun p => some (Sum.inr (Sum.inr (Sum.inr p)))) = some q ∧ ActSum q (actR st ((dl.drop i.toNat).map triD) ss ls ts) := by
 have hm : maxLen = 9223372036854775807 := rfl
 intro m
 induction m with
 | zero => intro i b1 b2 b3 ss ls ts _ _ h; omega
 | succ m ih =>
  intro i b1 b2 b3 ss ls ts h0 h1 hmm hs hls hts
  unfold L41x0x51 S41x0x51
  by_cases hi : i < dl.length
  ·have ho := hok _ (getD_mem (fs := dl) h0 hi)
   have q := added_eq (N := N) (g := (triD (dl.getD i.toNat (.i 0))).1) (t := (triD (dl.getD i.toNat (.i 0))).2.1) (vs := (triD (dl.getD i.toNat (.i 0))).2.2) (st := st) (ss := ss) (ls := ls) (ts := ts) hN ho (by omega) (by omega) (by omega)
   have hq : G41x0x58 N st ((dl.getD i.toNat (.i 0)).cell 0).toI ((dl.getD i.toNat (.i 0)).cell 1).toI ((dl.getD i.toNat (.i 0)).cell 2).items ss ls ts = some (bif (triD (dl.getD i.toNat (.i 0))).1 == 20 then .inl (!(smpOk (triD (dl.getD i.toNat (.i 0))).2.1 (triD (dl.getD i.toNat (.i 0))).2.2), ss ++ [smpD (triD (dl.getD i.toNat (.i 0))).2.1 st (triD (dl.getD i.toNat (.i 0))).2.2]) else bif (triD (dl.getD i.toNat (.i 0))).1 == 19 then .inr (.inl (!(lapOk (triD (dl.getD i.toNat (.i 0))).2.1 (triD (dl.getD i.toNat (.i 0))).2.2), ls ++ [lapD (triD (dl.getD i.toNat (.i 0))).2.1 st (triD (dl.getD i.toNat (.i 0))).2.2])) else bif (triD (dl.getD i.toNat (.i 0))).1 == 30 then .inr (.inr (.inl (!(tagOk (triD (dl.getD i.toNat (.i 0))).2.2), ts ++ [.s (txtV 1 (triD (dl.getD i.toNat (.i 0))).2.2)]))) else .inr (.inr (.inr ()))) := by
    unfold G41x0x58 F41x0x58
    have q' : G88x0 N ((dl.getD i.toNat (.i 0)).cell 0).toI ((dl.getD i.toNat (.i 0)).cell 1).toI ((dl.getD i.toNat (.i 0)).cell 2).items st ss ls ts = _ := q
    rw [q']
    cases (triD (dl.getD i.toNat (.i 0))).1 == 20 <;> cases (triD (dl.getD i.toNat (.i 0))).1 == 19 <;> cases (triD (dl.getD i.toNat (.i 0))).1 == 30 <;> rfl
   rw [decide_eq_true hi, inB_of h0 hi, drop_at (.i 0) h0 hi, hq]
   simp only [_root_.cond_true, bnd_eq, wrapI (x := i + 1) (by omega) (by omega), List.map_cons, actR]
   generalize triD (dl.getD i.toNat (.i 0)) = d
   cases d.1 == 20 with
   | true =>
    simp only [_root_.cond_true, inlB_inl, inlV_inl]
    cases smpOk d.2.1 d.2.2 with
    | true => exact ih (i + 1) false b2 b3 _ ls ts (by omega) (by omega) (by omega) (by simp; omega) (by omega) (by omega)
    | false => exact ⟨_, rfl, .inl ⟨_, rfl⟩⟩
   | false =>
    simp only [_root_.cond_false]
    cases d.1 == 19 with
    | true =>
     simp only [_root_.cond_true, inlB_inr, inrQ_inr, inlB_inl, inlV_inl, _root_.cond_false]
     cases lapOk d.2.1 d.2.2 with
     | true => exact ih (i + 1) b1 false b3 ss _ ts (by omega) (by omega) (by omega) (by omega) (by simp; omega) (by omega)
     | false => exact ⟨_, rfl, .inr (.inl ⟨_, rfl⟩)⟩
    | false =>
     simp only [_root_.cond_false]
     cases d.1 == 30 with
     | true =>
      simp only [_root_.cond_true, inlB_inr, inrQ_inr, inlB_inl, inlV_inl, _root_.cond_false]
      cases tagOk d.2.2 with
      | true => exact ih (i + 1) b1 b2 false ss ls _ (by omega) (by omega) (by omega) (by omega) (by omega) (by simp; omega)
      | false => exact ⟨_, rfl, .inr (.inr ⟨_, rfl⟩)⟩
     | false =>
      simp only [_root_.cond_false, inlB_inr, inrQ_inr, Option.isSome_some, _root_.cond_true]
      exact ih (i + 1) b1 b2 b3 ss ls ts (by omega) (by omega) (by omega) (by omega) (by omega) (by omega)
  ·have : i = dl.length := by omega
   subst this
   rw [decide_eq_false hi, drop_end (by omega)]
   exact ⟨_, rfl, b1, b2, b3, rfl⟩
theorem actR_ok {st : Int} : ∀ {l : List Tri} {ss ls ts : List D} {r : List D × List D × List D}, (∀ t ∈ l, TriOk t) → (∀ x ∈ ls, (x.cell 2).toS.length ≤ maxLen) → (∀ x ∈ ts, x.toS.length ≤ maxLen) → actR st l ss ls ts = some r →
  r.1.length ≤ ss.length + l.length ∧ r.2.1.length ≤ ls.length + l.length ∧ r.2.2.length ≤ ts.length + l.length ∧ (∀ x ∈ r.2.1, (x.cell 2).toS.length ≤ maxLen) ∧ (∀ x ∈ r.2.2, x.toS.length ≤ maxLen)
 | [], ss, ls, ts, r, _, h1, h2, h => by
  simp only [actR, Option.some.injEq] at h
  subst h
  exact ⟨Nat.le_add_right _ _, Nat.le_add_right _ _, Nat.le_add_right _ _, h1, h2⟩
 | d :: l, ss, ls, ts, r, hl, h1, h2, h => by
  have hl' : ∀ t ∈ l, TriOk t := fun t ht => hl t (by simp [ht])
  have hd := hl d (by simp)
  simp only [actR] at h
  cases e1 : d.1 == 20 with
  | true =>
   rw [e1] at h
   cases e2 : smpOk d.2.1 d.2.2 with
   | false => rw [e2] at h; cases h
   | true =>
    rw [e2] at h
    obtain ⟨a1, a2, a3, a4, a5⟩ := actR_ok hl' h1 h2 h
    simp only [List.length_append, List.length_cons, List.length_nil] at a1 ⊢
    exact ⟨by omega, by omega, by omega, a4, a5⟩
  | false =>
   rw [e1] at h
   simp only [_root_.cond_false] at h
   cases e2 : d.1 == 19 with
   | true =>
    rw [e2] at h
    cases e3 : lapOk d.2.1 d.2.2 with
    | false => rw [e3] at h; cases h
    | true =>
     rw [e3] at h
     obtain ⟨a1, a2, a3, a4, a5⟩ := actR_ok hl' (fun x hx => by
      rcases List.mem_append.1 hx with hx | hx
      ·exact h1 x hx
      ·have : x = lapD d.2.1 st d.2.2 := by simpa using hx
       subst this
       exact txtV_len hd.2) h2 h
     simp only [List.length_append, List.length_cons, List.length_nil] at a2 ⊢
     exact ⟨by omega, by omega, by omega, a4, a5⟩
   | false =>
    rw [e2] at h
    simp only [_root_.cond_false] at h
    cases e3 : d.1 == 30 with
    | true =>
     rw [e3] at h
     cases e4 : tagOk d.2.2 with
     | false => rw [e4] at h; cases h
     | true =>
      rw [e4] at h
      obtain ⟨a1, a2, a3, a4, a5⟩ := actR_ok hl' h1 (fun x hx => by
       rcases List.mem_append.1 hx with hx | hx
       ·exact h2 x hx
       ·have : x = .s (txtV 1 d.2.2) := by simpa using hx
        subst this
        exact txtV_len hd.2) h
      simp only [List.length_append, List.length_cons, List.length_nil] at a3 ⊢
      exact ⟨by omega, by omega, by omega, a4, a5⟩
    | false =>
     rw [e3] at h
     obtain ⟨a1, a2, a3, a4, a5⟩ := actR_ok hl' h1 h2 h
     simp only [List.length_cons]
     exact ⟨by omega, by omega, by omega, a4, a5⟩
/-! ### The activity, as a plain function -/
abbrev ActT : Type := List UInt8 × Int × Int × List D × List D × List D × Int
def errT (e : Int) : ActT := ([], 0, 0, [], [], [], e)
def actF (es : List D) : ActT :=
 bif fileE es != 0 then errT (fileE es) else match headA (dataA Ab.start es) with
 | none => errT 4
 | some q => bif badH q then errT 4 else match actR q.2.2.1 (dataA Ab.start es) [] [] [] with
  | none => errT 2
  | some r => bif chkA q.1 q.2.1 q.2.2.1 r.1 r.2.1 r.2.2 != 0 then errT (chkA q.1 q.2.1 q.2.2.1 r.1 r.2.1 r.2.2) else (q.1, q.2.1, q.2.2.1, r.1, r.2.1, r.2.2, 0)
theorem headA_len {l : List Tri} {q : Hd} (h : ∀ t ∈ l, TriOk t) (hq : headA l = some q) : q.1.length ≤ maxLen := by
 unfold headA at hq
 cases hf : l.find? (fun t => t.1 == 0) with
 | none => rw [hf] at hq; cases hq
 | some t =>
  rw [hf] at hq
  simp only [Option.map_some, Option.some.injEq] at hq
  subst hq
  exact txtV_len (h t (List.mem_of_find?_eq_some hf)).2
section
variable {es : List D}
theorem act_ok (hes : ∀ x ∈ es, EntD x) (h : fileE es = 0) {q : Hd} {r : List D × List D × List D} (hq : headA (dataA Ab.start es) = some q) (hr : actR q.2.2.1 (dataA Ab.start es) [] [] [] = some r) : ActOk q.1 r.1 r.2.1 r.2.2 := by
 have hm : maxLen = 9223372036854775807 := rfl
 obtain ⟨hl, he⟩ := fileE_ok h
 obtain ⟨d1, d2⟩ := dataA_ok OkA.start he hes
 obtain ⟨a1, a2, a3, a4, a5⟩ := actR_ok d2 (by simp) (by simp) hr
 simp only [List.length_nil] at a1 a2 a3
 exact ⟨headA_len d2 hq, by omega, by omega, by omega, a4, a5⟩
/-- The end of the program's Activity. -/
noncomputable def tl41 (N : Nat) (d : List D) (y2 : Option (Bool × List UInt8 × Int × Int)) : Option (List UInt8 × Int × Int × Bool × List D × Bool × List D × Bool × List D × Int) :=
    bif y2.isSome then
     bnd (bif (!(y2.getD default).1) then true else ((y2.getD default).2.1 == ([] : List UInt8))) fun y3 =>
     bnd (bif y3 then true else (decide ((y2.getD default).2.2.2 < 0))) fun y4 =>
     bif y4 then
      some (([] : List UInt8), 0, 0, true, [], true, [], true, [], 4)
     else
      bnd (G41x0x51 N d (d.length : Int) (y2.getD default).2.2.2 0 true [] true [] true []) fun y5 =>
      bif (inlB y5) then
       some ((inlV y5).1, 0, 0, true, [], true, [], true, [], 2)
      else
       bif (inlB (inrQ y5)) then
        some ((inlV (inrQ y5)).1, 0, 0, true, [], true, [], true, [], 2)
       else
        bif (inlB (inrQ (inrQ y5))) then
         some ((inlV (inrQ (inrQ y5))).1, 0, 0, true, [], true, [], true, [], 2)
        else
         bif (inrQ (inrQ (inrQ y5))).isSome then
          bnd (G13x0 N (y2.getD default).2.1 (y2.getD default).2.2.1 (y2.getD default).2.2.2 ((inrQ (inrQ (inrQ y5))).getD default).2.1 ((inrQ (inrQ (inrQ y5))).getD default).2.2.2.1 ((inrQ (inrQ (inrQ y5))).getD default).2.2.2.2.2) fun y6 =>
          bif y6.isSome then
           bif ((y6.getD default) != 0) then
            some (([] : List UInt8), 0, 0, true, [], true, [], true, [], (y6.getD default))
           else
            some ((y2.getD default).2.1, (y2.getD default).2.2.1, (y2.getD default).2.2.2, ((inrQ (inrQ (inrQ y5))).getD default).1, ((inrQ (inrQ (inrQ y5))).getD default).2.1, ((inrQ (inrQ (inrQ y5))).getD default).2.2.1, ((inrQ (inrQ (inrQ y5))).getD default).2.2.2.1, ((inrQ (inrQ (inrQ y5))).getD default).2.2.2.2.1, ((inrQ (inrQ (inrQ y5))).getD default).2.2.2.2.2, 0)
          else
           none
         else
          none
    else
     none
theorem tl41_eq {b : Bool} {dl : List D} (h1 : G22x0 N es = some 0) (h2 : G85x0 N es = some (b, dl)) : G41x0 N es = tl41 N dl (G41x0x24 N false dl dl.length [] 0 0 0) := by
 unfold G41x0 F41x0
 rw [h1, h2]
 rfl
theorem act_prog (hN : maxLen < N) (hes : ∀ x ∈ es, EntD x) : ∃ n1 n2 n3, G41x0 N es = some ((actF es).1, (actF es).2.1, (actF es).2.2.1, n1, (actF es).2.2.2.1, n2, (actF es).2.2.2.2.1, n3, (actF es).2.2.2.2.2.1, (actF es).2.2.2.2.2.2) := by
 have hm : maxLen = 9223372036854775807 := rfl
 obtain ⟨c1, _⟩ := check_fileA (N := N) hN hes
 unfold actF
 cases hc : fileE es != 0 with
 | true =>
  unfold G41x0 F41x0
  rw [c1]
  dsimp only [bnd_eq, Option.isSome_some, _root_.cond_true, getD_some]
  rw [hc]
  exact ⟨_, _, _, rfl⟩
 | false =>
 have hz : fileE es = 0 := by simpa using hc
 obtain ⟨hl, he⟩ := fileE_ok hz
 obtain ⟨b, dl, q1, q2⟩ := data_prog (N := N) hN hes hz
 obtain ⟨d1, d2⟩ := dataA_ok OkA.start he hes
 have q3 := datR_map q2
 have hdl : dl.length ≤ 50000 := by have := q2.length; omega
 have hok : ∀ d ∈ dl, TriOk (triD d) := fun d hd => d2 _ (by rw [← q3]; exact List.mem_map_of_mem hd)
 have k1 := head_prog (N := N) hN (dl := dl) (by omega) hok
 rw [q3] at k1
 rw [tl41_eq (by rw [c1, hz]) q1, k1]
 unfold tl41
 dsimp only [bnd_eq, _root_.cond_false, Option.isSome_some, getD_some, _root_.cond_true]
 cases hh : headA (dataA Ab.start es) with
 | none => exact ⟨_, _, _, rfl⟩
 | some q =>
  have hb : (bif (bif (!(headP (some q)).1) then true else ((headP (some q)).2.1 == ([] : List UInt8))) then true else (decide ((headP (some q)).2.2.2 < 0))) = badH q := rfl
  rw [hb]
  dsimp only
  cases badH q with
  | true => exact ⟨_, _, _, rfl⟩
  | false =>
   obtain ⟨z, w1, w2⟩ := body_loop (N := N) hN hdl hok (headP (some q)).2.2.2 N 0 true true true [] [] [] (by omega) (by omega) (by omega) (by simp) (by simp) (by simp)
   have w1' : G41x0x51 N dl dl.length (headP (some q)).2.2.2 0 true [] true [] true [] = some z := w1
   dsimp only [_root_.cond_false]
   rw [w1']
   rw [show (0 : Int).toNat = 0 from rfl, List.drop_zero, q3] at w2
   have w2 : ActSum z (actR q.2.2.1 (dataA Ab.start es) [] [] []) := w2
   cases hr : actR q.2.2.1 (dataA Ab.start es) [] [] [] with
   | none =>
    rw [hr] at w2
    rcases w2 with ⟨z', rfl⟩ | ⟨z', rfl⟩ | ⟨z', rfl⟩ <;> exact ⟨_, _, _, rfl⟩
   | some r =>
    rw [hr] at w2
    obtain ⟨n1, n2, n3, rfl⟩ := w2
    have ck := G13x0_eq (N := N) (name := q.1) (sport := q.2.1) (start := q.2.2.1) hN (act_ok hes hz hh hr)
    have ck' : G13x0 N (headP (some q)).2.1 (headP (some q)).2.2.1 (headP (some q)).2.2.2 r.1 r.2.1 r.2.2 = _ := ck
    simp only [inlB_inr, inrQ_inr, _root_.cond_false, Option.isSome_some, _root_.cond_true, getD_some, ck']
    cases chkA q.1 q.2.1 q.2.2.1 r.1 r.2.1 r.2.2 != 0 <;> exact ⟨_, _, _, rfl⟩
end
end Go.Proofs.Ytnnofignhdijiaa

/-! Plain laws: the file of an activity (record.FileOf and the reference's). -/
namespace Go.Proofs.Ytnnofignhdijiaa
open Go Go.AM
set_option maxRecDepth 100000
set_option maxHeartbeats 4000000
set_option linter.unusedVariables false
variable {N : Nat}
/-! ### Entries -/
def defD (slot g : Int) (fs : List D) (big : Bool) : D := .a [.i 1, .i slot, .i 0, .l false [.a [.b big, .i g, .l false fs]], .l true []]
def datD (slot : Int) (b : List D) : D := .a [.i 2, .i slot, .i 0, .l true [], .l false b]
def shoD (off : Int) (b : List D) : D := .a [.i 3, .i 1, .i off, .l true [], .l false b]
abbrev tF : D := .a [.i 253, .i 4, .i 0]
def txB (s : List UInt8) : List D := bytesD s ++ List.replicate (60 - s.length) (.i 0)
def nm2 (v : Int) : Int := bif decide (v < 0) then 65535 else v
abbrev fs0 : List D := [tF, .a [.i 1, .i 60, .i 2], .a [.i 2, .i 1, .i 0]]
abbrev fs3 : List D := [.a [.i 1, .i 60, .i 2]]
abbrev fs2 : List D := [tF, .a [.i 1, .i 4, .i 0], .a [.i 2, .i 60, .i 2]]
abbrev fs1 : List D := [tF, .a [.i 0, .i 4, .i 1], .a [.i 1, .i 4, .i 1], .a [.i 2, .i 4, .i 1], .a [.i 3, .i 2, .i 0], .a [.i 4, .i 2, .i 0], .a [.i 5, .i 2, .i 0]]
def tmA (st : Int) (x : D) : Int := IntKind.wrap .i64 (st + (x.cell 0).toI)
def tmB (st : Int) (x : D) : Int := IntKind.wrap .i64 (st + (x.cell 1).toI)
def resB (big : Bool) (s : D) : List D := nb4 (s.cell 1).toI big ++ (nb4 (s.cell 2).toI big ++ (nb4 (s.cell 3).toI big ++ (nb2 (nm2 (s.cell 4).toI) big ++ (nb2 (nm2 (s.cell 5).toI) big ++ nb2 (nm2 (s.cell 6).toI) big))))
def lapB (big : Bool) (st : Int) (l : D) : List D := nb4 (tmA st l) big ++ (nb4 (tmB st l) big ++ txB (l.cell 2).toS)
def shortP : Option Int → D → Bool
 | none, _ => false
 | some p, s => decide (IntKind.wrap .i64 ((s.cell 0).toI - p) < 32)
def smpF (W big : Bool) (st : Int) (prev : Option Int) (s : D) : D := bif !W && shortP prev s then shoD ((tmA st s).tmod 32) (resB big s) else datD 1 (nb4 (tmA st s) big ++ resB big s)
def smpsF (W big : Bool) (st : Int) : Option Int → List D → List D
 | _, [] => []
 | prev, s :: r => smpF W big st prev s :: smpsF W big st (some (s.cell 0).toI) r
def ifE (xs : List D) (d : D) : List D := bif decide ((xs.length : Int) > 0) then [d] else []
def filF (W : Bool) (name : List UInt8) (sport st : Int) (ss ls ts : List D) (big : Bool) : List D :=
 [defD 0 0 fs0 big, datD 0 (nb4 st big ++ (txB name ++ nb1 sport))] ++ ifE ts (defD 3 30 fs3 big) ++ ts.map (fun t => datD 3 (txB t.toS)) ++ ifE ls (defD 2 19 fs2 big) ++ ls.map (fun l => datD 2 (lapB big st l)) ++ ifE ss (defD 1 20 fs1 big) ++ smpsF W big st none ss
/-! ### The program's and the reference's pieces -/
def catP : List D → List D
 | [] => []
 | p :: r => p.items ++ catP r
section
variable {ps acc : List D} {slot : Int}
theorem room72 (h : acc.length ≤ 100000) : (decide ((acc.length + 1) * 72 ≤ room) && decide (acc.length + 1 ≤ strMax)) = true := by
 rw [decide_eq_true (by unfold room; omega), decide_eq_true (by unfold strMax; omega)]; rfl
theorem G107x0x6_eq (hN : maxLen < N) (hl : ps.length ≤ 20) (hp : ∀ p ∈ ps, p.items.length ≤ 100) : G107x0x6 N ps ps.length 0 true [] = some ((catP ps).isEmpty, catP ps) := by
 have hm : maxLen = 9223372036854775807 := rfl
 have key := loop_ind (A := Int × Bool × LD) (X := Option (Bool × LD)) (S := fun x kr => S107x0x6 N ps ps.length x.1 x.2.1 x.2.2 (fun a b c => kr (a, b, c)) (fun p => some p)) (L := fun m x => L107x0x6 N ps ps.length m x.1 x.2.1 x.2.2 (fun p => some p)) (fun m x => rfl)
  (fun x => some ((x.2.2 ++ catP (ps.drop x.1.toNat)).isEmpty, x.2.2 ++ catP (ps.drop x.1.toNat))) (fun x => 0 ≤ x.1 ∧ x.1 ≤ ps.length ∧ x.2.1 = x.2.2.isEmpty ∧ (x.2.2.length : Int) ≤ 100 * x.1) (fun x => (ps.length - x.1).toNat) ?_ N (0, true, []) ⟨by show (0 : Int) ≤ 0; omega, by show (0 : Int) ≤ _; omega, rfl, by simp⟩ (by simp; omega)
 ·exact Eq.trans key (by simp)
 ·rintro ⟨w, b, l⟩ kr ⟨h0, h1, h2, h3⟩ ih
  simp only at h0 h1 h2 h3 ih ⊢
  unfold S107x0x6
  by_cases hw : w < ps.length
  ·have hx := hp _ (getD_mem (fs := ps) h0 hw)
   rw [decide_eq_true hw, inB_of h0 hw, drop_at (.i 0) h0 hw]
   have r1 : decide ((l.length + (ps.getD w.toNat (.i 0)).items.length) * 1 ≤ room) = true := decide_eq_true (by unfold room; omega)
   have r2 : decide (l.length + (ps.getD w.toNat (.i 0)).items.length ≤ strMax) = true := decide_eq_true (by unfold strMax; omega)
   simp only [_root_.cond_true, r1, r2, Bool.and_self, wrapI (x := w + 1) (by omega) (by omega), catP]
   rw [ih (w + 1, (ps.getD w.toNat (.i 0)).items.isEmpty && b, l ++ (ps.getD w.toNat (.i 0)).items) ⟨by simp only; omega, by simp only; omega, by show _ = (l ++ _).isEmpty; rw [h2]; cases l <;> cases (ps.getD w.toNat (.i 0)).items <;> rfl, by simp only [List.length_append]; omega⟩ (by simp only; omega)]
   simp
  ·have : w = ps.length := by omega
   subst this
   rw [decide_eq_false hw, drop_end (by omega)]
   simp [catP, h2]
theorem G115x0x6_eq (hN : maxLen < N) (hl : ps.length ≤ 20) (hp : ∀ p ∈ ps, p.items.length ≤ 100) : G115x0x6 N ps ps.length 0 true [] = some ((catP ps).isEmpty, catP ps) := by
 have hm : maxLen = 9223372036854775807 := rfl
 have key := loop_ind (A := Int × Bool × LD) (X := Option (Bool × LD)) (S := fun x kr => S115x0x6 N ps ps.length x.1 x.2.1 x.2.2 (fun a b c => kr (a, b, c)) (fun p => some p)) (L := fun m x => L115x0x6 N ps ps.length m x.1 x.2.1 x.2.2 (fun p => some p)) (fun m x => rfl)
  (fun x => some ((x.2.2 ++ catP (ps.drop x.1.toNat)).isEmpty, x.2.2 ++ catP (ps.drop x.1.toNat))) (fun x => 0 ≤ x.1 ∧ x.1 ≤ ps.length ∧ x.2.1 = x.2.2.isEmpty ∧ (x.2.2.length : Int) ≤ 100 * x.1) (fun x => (ps.length - x.1).toNat) ?_ N (0, true, []) ⟨by show (0 : Int) ≤ 0; omega, by show (0 : Int) ≤ _; omega, rfl, by simp⟩ (by simp; omega)
 ·exact Eq.trans key (by simp)
 ·rintro ⟨w, b, l⟩ kr ⟨h0, h1, h2, h3⟩ ih
  simp only at h0 h1 h2 h3 ih ⊢
  unfold S115x0x6
  by_cases hw : w < ps.length
  ·have hx := hp _ (getD_mem (fs := ps) h0 hw)
   rw [decide_eq_true hw, inB_of h0 hw, drop_at (.i 0) h0 hw]
   have r1 : decide ((l.length + (ps.getD w.toNat (.i 0)).items.length) * 1 ≤ room) = true := decide_eq_true (by unfold room; omega)
   have r2 : decide (l.length + (ps.getD w.toNat (.i 0)).items.length ≤ strMax) = true := decide_eq_true (by unfold strMax; omega)
   simp only [_root_.cond_true, r1, r2, Bool.and_self, wrapI (x := w + 1) (by omega) (by omega), catP]
   rw [ih (w + 1, (ps.getD w.toNat (.i 0)).items.isEmpty && b, l ++ (ps.getD w.toNat (.i 0)).items) ⟨by simp only; omega, by simp only; omega, by show _ = (l ++ _).isEmpty; rw [h2]; cases l <;> cases (ps.getD w.toNat (.i 0)).items <;> rfl, by simp only [List.length_append]; omega⟩ (by simp only; omega)]
   simp
  ·have : w = ps.length := by omega
   subst this
   rw [decide_eq_false hw, drop_end (by omega)]
   simp [catP, h2]
theorem put_eq (hN : maxLen < N) (hl : ps.length ≤ 20) (hp : ∀ p ∈ ps, p.items.length ≤ 100) (hne : (catP ps).isEmpty = false) (ha : acc.length ≤ 100000) : G107x0 N slot ps acc = some (acc ++ [datD slot (catP ps)]) ∧ G115x0 N slot ps acc = some (acc ++ [datD slot (catP ps)]) := by
 unfold G107x0 F107x0 G115x0 F115x0
 simp only [bnd_eq]
 rw [G107x0x6_eq hN hl hp, G115x0x6_eq hN hl hp, hne, room72 ha]
 exact ⟨rfl, rfl⟩
theorem def_eq {g : Int} {fs : List D} {big : Bool} (ha : acc.length ≤ 100000) : G106x1 N slot g false fs big acc = some (acc ++ [defD slot g fs big]) ∧ G112x1 N slot g false fs big acc = some (acc ++ [defD slot g fs big]) := by
 unfold G106x1 F106x1 G112x1 F112x1
 rw [room72 ha]
 exact ⟨rfl, rfl⟩
end
section
variable {big : Bool}
theorem num4_eq (hN : maxLen < N) {v : Int} (h : 0 ≤ v) : G108x0 N v 4 false big = some (nb4 v big) ∧ G116x0 N v 4 big = some (nb4 v big) := by
 unfold G108x0 F108x0 G108x0x8 F108x0x8 G116x0 F116x0 V116x0x8 F116x0x8
 have e : (v == -1) = false := by simp; omega
 rw [decide_eq_false (show ¬ v < 0 by omega), e]
 simp only [bnd_eq, _root_.cond_false, Option.isSome_some, getD_some, _root_.cond_true]
 rw [P67_4 hN, P69_4 hN]
 exact ⟨rfl, rfl⟩
theorem num4s_eq (hN : maxLen < N) (v : Int) : G108x0 N v 4 true big = some (nb4 v big) := by
 unfold G108x0 F108x0 G108x0x8 F108x0x8
 have e : (bif decide (v < 0) then !true else false) = false := by cases decide (v < 0) <;> rfl
 rw [e]
 simp only [bnd_eq, _root_.cond_false, Option.isSome_some, getD_some, _root_.cond_true]
 rw [P67_4 hN]
 rfl
theorem num2_eq (hN : maxLen < N) {v : Int} (h : -1 ≤ v) : G108x0 N v 2 false big = some (nb2 (nm2 v) big) ∧ G116x0 N v 2 big = some (nb2 (nm2 v) big) := by
 unfold G108x0 F108x0 G108x0x8 F108x0x8 G116x0 F116x0 V116x0x8 F116x0x8 nm2
 by_cases hv : v < 0
 ·have : v = -1 := by omega
  subst this
  rw [G124x0_eq (.inr (.inl rfl))]
  simp only [bnd_eq]
  refine ⟨?_, ?_⟩
  ·show (bif (G67x0 N 65535 2 big).isSome then some ((G67x0 N 65535 2 big).getD default) else none) = _
   rw [P67_2 hN]; rfl
  ·show (bif (G69x0 N 65535 2 big).isSome then some ((G69x0 N 65535 2 big).getD default) else none) = _
   rw [P69_2 hN]; rfl
 ·have e : (v == -1) = false := by simp; omega
  rw [decide_eq_false hv, e]
  simp only [bnd_eq, _root_.cond_false, Option.isSome_some, getD_some, _root_.cond_true]
  rw [P67_2 hN, P69_2 hN]
  exact ⟨rfl, rfl⟩
theorem num1_eq (hN : maxLen < N) {v : Int} (h : 0 ≤ v) : G108x0 N v 1 false big = some (nb1 v) ∧ G116x0 N v 1 big = some (nb1 v) := by
 unfold G108x0 F108x0 G108x0x8 F108x0x8 G116x0 F116x0 V116x0x8 F116x0x8
 have e : (v == -1) = false := by simp; omega
 rw [decide_eq_false (show ¬ v < 0 by omega), e]
 simp only [bnd_eq, _root_.cond_false, Option.isSome_some, getD_some, _root_.cond_true]
 rw [P67_1 hN, P69_1 hN]
 exact ⟨rfl, rfl⟩
theorem bytesD_len (s : List UInt8) : (bytesD s).length = s.length := by simp [bytesD]
theorem txB_len {s : List UInt8} (h : s.length ≤ 60) : (txB s).length = 60 := by
 unfold txB; simp [bytesD_len]; omega
theorem text_eq {s : List UInt8} (h : s.length ≤ 60) : V109x0 N s = txB s ∧ G117x0 N s = some (txB s) := by
 have h64 : strMax = 9223372036854775807 := rfl
 have hr : room = 140737488355328 := rfl
 constructor
 ·show (bytesD s).take 60 ++ (List.replicate 60 (D.i 0)).drop (bytesD s).length = txB s
  rw [List.take_of_length_le (by rw [bytesD_len]; exact h), List.drop_replicate, bytesD_len]
  rfl
 ·unfold G117x0 F117x0
  have e1 : Nat.ble s.length strMax = true := Nat.ble_eq_true_of_le (by omega)
  have e2 : IntKind.wrap .i64 (60 - (s.length : Int)) = 60 - (s.length : Int) := wrapI (by omega) (by omega)
  have e3 : (60 - (s.length : Int)).toNat = 60 - s.length := by omega
  rw [e1, e2, e3, decide_eq_true (show (0 : Int) ≤ 60 - s.length by omega), decide_eq_true (by rw [bytesD_len]; omega), decide_eq_true (by rw [bytesD_len]; omega)]
  rfl
end
/-! ### What is asked of the activity's parts -/
structure SmpA (st : Int) (s : D) : Prop where
 t : 0 ≤ tmA st s
 p : -1 ≤ (s.cell 4).toI
 w : -1 ≤ (s.cell 5).toI
 k : -1 ≤ (s.cell 6).toI
structure LapA (st : Int) (l : D) : Prop where
 f : 0 ≤ tmA st l
 t : 0 ≤ tmB st l
 n : (l.cell 2).toS.length ≤ 60
section
variable {ss ls ts acc : List D} {st : Int} {big : Bool}
theorem nbp (v : Int) : (D.l false (nb4 v big)).items.length ≤ 100 := by show (nb4 v big).length ≤ 100; rw [nb4_len]; omega
theorem nbq (v : Int) : (D.l false (nb2 v big)).items.length ≤ 100 := by show (nb2 v big).length ≤ 100; rw [nb2_len]; omega
theorem txp {s : List UInt8} (h : s.length ≤ 60) : (D.l false (txB s)).items.length ≤ 100 := by show (txB s).length ≤ 100; rw [txB_len h]; omega
theorem ne_of_len {l : List D} {n : Nat} (h : l.length = n + 1) : l.isEmpty = false := by cases l with | nil => simp at h | cons => rfl
theorem tags_loop (hN : maxLen < N) (hl : ts.length ≤ 20000) (ht : ∀ x ∈ ts, x.toS.length ≤ 60) : ∀ (m : Nat) (i : Int) (b b2 : Bool) (acc : List D), 0 ≤ i → i ≤ ts.length → (ts.length - i).toNat < m → (acc.length : Int) ≤ 100 + i →
  (∃ b', L49x0x42 N ts ts.length m i b acc (fun p => some p) = some (b', acc ++ (ts.drop i.toNat).map (fun t => datD 3 (txB t.toS)))) ∧ (∃ b', L50x0x36 N ts ts.length m i b2 acc (fun p => some p) = some (b', acc ++ (ts.drop i.toNat).map (fun t => datD 3 (txB t.toS)))) := by
 have hm : maxLen = 9223372036854775807 := rfl
 intro m
 induction m with
 | zero => intro i b b2 acc _ _ h; omega
 | succ m ih =>
  intro i b b2 acc h0 h1 hmm ha
  unfold L49x0x42 S49x0x42 L50x0x36 S50x0x36
  by_cases hi : i < ts.length
  ·have hx := ht _ (getD_mem (fs := ts) h0 hi)
   obtain ⟨t1, t2⟩ := text_eq (N := N) hx
   have e : catP [.l false (txB (ts.getD i.toNat (.i 0)).toS)] = txB (ts.getD i.toNat (.i 0)).toS := by simp only [catP, D.items, List.append_nil]
   obtain ⟨q1, q2⟩ := put_eq (N := N) (slot := 3) (acc := acc) (ps := [.l false (txB (ts.getD i.toNat (.i 0)).toS)]) hN (by simp) (by simp only [List.mem_singleton, forall_eq]; exact txp hx) (ne_of_len (n := 59) (by rw [e]; exact txB_len hx)) (by omega)
   rw [e] at q1 q2
   rw [decide_eq_true hi, inB_of h0 hi, drop_at (.i 0) h0 hi, t1, t2]
   simp only [_root_.cond_true, bnd_eq, Option.isSome_some, getD_some, q1, q2, wrapI (x := i + 1) (by omega) (by omega)]
   obtain ⟨⟨c1, z1⟩, c2, z2⟩ := ih (i + 1) false false (acc ++ [datD 3 (txB (ts.getD i.toNat (.i 0)).toS)]) (by omega) (by omega) (by omega) (by simp; omega)
   exact ⟨⟨c1, z1.trans (by simp)⟩, c2, z2.trans (by simp)⟩
  ·have : i = ts.length := by omega
   subst this
   rw [decide_eq_false hi, drop_end (by omega)]
   exact ⟨⟨b, by simp⟩, b2, by simp⟩
theorem laps_loop (hN : maxLen < N) (hl : ls.length ≤ 20000) (ht : ∀ x ∈ ls, LapA st x) : ∀ (m : Nat) (i : Int) (b b2 : Bool) (acc : List D), 0 ≤ i → i ≤ ls.length → (ls.length - i).toNat < m → (acc.length : Int) ≤ 30000 + i →
  (∃ b', L49x0x63 N ls ls.length st big m i b acc (fun p => some p) = some (b', acc ++ (ls.drop i.toNat).map (fun l => datD 2 (lapB big st l)))) ∧ (∃ b', L50x0x57 N ls ls.length st big m i b2 acc (fun p => some p) = some (b', acc ++ (ls.drop i.toNat).map (fun l => datD 2 (lapB big st l)))) := by
 have hm : maxLen = 9223372036854775807 := rfl
 intro m
 induction m with
 | zero => intro i b b2 acc _ _ h; omega
 | succ m ih =>
  intro i b b2 acc h0 h1 hmm ha
  unfold L49x0x63 S49x0x63 L50x0x57 S50x0x57
  by_cases hi : i < ls.length
  ·have hx := ht _ (getD_mem (fs := ls) h0 hi)
   obtain ⟨t1, t2⟩ := text_eq (N := N) hx.n
   obtain ⟨n1, n2⟩ := num4_eq (N := N) (big := big) hN hx.f
   obtain ⟨n3, n4⟩ := num4_eq (N := N) (big := big) hN hx.t
   unfold tmA at n1 n2
   unfold tmB at n3 n4
   have e : catP [.l false (nb4 (tmA st (ls.getD i.toNat (.i 0))) big), .l false (nb4 (tmB st (ls.getD i.toNat (.i 0))) big), .l false (txB ((ls.getD i.toNat (.i 0)).cell 2).toS)] = lapB big st (ls.getD i.toNat (.i 0)) := by simp only [catP, D.items, lapB, List.append_nil]
   obtain ⟨q1, q2⟩ := put_eq (N := N) (slot := 2) (acc := acc) (ps := [.l false (nb4 (tmA st (ls.getD i.toNat (.i 0))) big), .l false (nb4 (tmB st (ls.getD i.toNat (.i 0))) big), .l false (txB ((ls.getD i.toNat (.i 0)).cell 2).toS)]) hN (by simp) (by
    intro p hp
    simp only [List.mem_cons, List.not_mem_nil, or_false] at hp
    rcases hp with rfl | rfl | rfl
    ·exact nbp _
    ·exact nbp _
    ·exact txp hx.n) (ne_of_len (n := 67) (by rw [e]; unfold lapB; simp only [List.length_append, nb4_len]; rw [txB_len hx.n])) (by omega)
   rw [e] at q1 q2
   unfold tmA tmB at q1 q2
   rw [decide_eq_true hi, inB_of h0 hi, drop_at (.i 0) h0 hi]
   simp only [_root_.cond_true, bnd_eq, n1, n2, n3, n4, t1, t2, Option.isSome_some, getD_some, q1, q2, wrapI (x := i + 1) (by omega) (by omega)]
   obtain ⟨⟨c1, z1⟩, c2, z2⟩ := ih (i + 1) false false (acc ++ [datD 2 (lapB big st (ls.getD i.toNat (.i 0)))]) (by omega) (by omega) (by omega) (by simp; omega)
   exact ⟨⟨c1, z1.trans (by simp)⟩, c2, z2.trans (by simp)⟩
  ·have : i = ls.length := by omega
   subst this
   rw [decide_eq_false hi, drop_end (by omega)]
   exact ⟨⟨b, by simp⟩, b2, by simp⟩
theorem set_end {x y : D} : (acc ++ [x]).set acc.length y = acc ++ [y] := by simp
theorem get_end {x : D} : (acc ++ [x]).getD acc.length (.i 0) = x := by simp
theorem len_end {x : D} (ha : acc.length ≤ 100000) : IntKind.wrap .i64 (((acc ++ [x]).length : Int) - 1) = (acc.length : Int) := by
 rw [List.length_append]
 simp only [List.length_cons, List.length_nil]
 rw [wrapI (by omega) (by omega)]; omega
/-- One sample, as the program puts it. -/
theorem smp_prog (hN : maxLen < N) {s : D} (sh : Bool) (ha : acc.length ≤ 100000) :
  G110x0x69062 N (tmA st s) sh [.l false (nb4 (tmA st s) big), .l false (nb4 (s.cell 1).toI big), .l false (nb4 (s.cell 2).toI big), .l false (nb4 (s.cell 3).toI big), .l false (nb2 (nm2 (s.cell 4).toI) big), .l false (nb2 (nm2 (s.cell 5).toI) big), .l false (nb2 (nm2 (s.cell 6).toI) big)] acc
   = some (bif sh then .inl (acc ++ [shoD ((tmA st s).tmod 32) (resB big s)]) else .inr (acc ++ [datD 1 (nb4 (tmA st s) big ++ resB big s)])) := by
 have hlen : (resB big s).length = 18 := by unfold resB; simp [nb4_len, nb2_len]
 unfold G110x0x69062 F110x0x69062
 cases sh with
 | true =>
  obtain ⟨q1, _⟩ := put_eq (N := N) (slot := 1) (acc := acc) (ps := [.l false (nb4 (s.cell 1).toI big), .l false (nb4 (s.cell 2).toI big), .l false (nb4 (s.cell 3).toI big), .l false (nb2 (nm2 (s.cell 4).toI) big), .l false (nb2 (nm2 (s.cell 5).toI) big), .l false (nb2 (nm2 (s.cell 6).toI) big)]) hN (by simp) (by
    intro p hp
    simp only [List.mem_cons, List.not_mem_nil, or_false] at hp
    rcases hp with rfl | rfl | rfl | rfl | rfl | rfl <;> first | exact nbp _ | exact nbq _) (ne_of_len (n := 17) (by simp [catP, D.items, nb2_len, nb4_len])) ha
  have e : catP [.l false (nb4 (s.cell 1).toI big), .l false (nb4 (s.cell 2).toI big), .l false (nb4 (s.cell 3).toI big), .l false (nb2 (nm2 (s.cell 4).toI) big), .l false (nb2 (nm2 (s.cell 5).toI) big), .l false (nb2 (nm2 (s.cell 6).toI) big)] = resB big s := by simp [catP, D.items, resB]
  rw [e] at q1
  simp only [List.length_cons, List.length_nil, _root_.cond_true, bnd_eq]
  rw [show decide ((1 : Int) ≤ ((0 + 1 + 1 + 1 + 1 + 1 + 1 + 1 : Nat) : Int)) = true from rfl, show decide (((0 + 1 + 1 + 1 + 1 + 1 + 1 + 1 : Nat) : Int) ≤ ((0 + 1 + 1 + 1 + 1 + 1 + 1 + 1 : Nat) : Int)) = true from rfl]
  simp only [Bool.and_self, _root_.cond_true]
  have e2 : (List.take ((0 + 1 + 1 + 1 + 1 + 1 + 1 + 1 : Nat) : Int).toNat [.l false (nb4 (tmA st s) big), .l false (nb4 (s.cell 1).toI big), .l false (nb4 (s.cell 2).toI big), .l false (nb4 (s.cell 3).toI big), .l false (nb2 (nm2 (s.cell 4).toI) big), .l false (nb2 (nm2 (s.cell 5).toI) big), .l false (nb2 (nm2 (s.cell 6).toI) big)]).drop 1 = [D.l false (nb4 (s.cell 1).toI big), .l false (nb4 (s.cell 2).toI big), .l false (nb4 (s.cell 3).toI big), .l false (nb2 (nm2 (s.cell 4).toI) big), .l false (nb2 (nm2 (s.cell 5).toI) big), .l false (nb2 (nm2 (s.cell 6).toI) big)] := rfl
  rw [e2, q1]
  simp only [Option.isSome_some, getD_some, _root_.cond_true, len_end ha, Int.toNat_natCast, get_end, set_end]
  rw [inB_of (by omega) (by rw [List.length_append]; simp; omega), decide_eq_true (by simp), decide_eq_true (by simp)]
  rfl
 | false =>
  obtain ⟨q1, _⟩ := put_eq (N := N) (slot := 1) (acc := acc) (ps := [.l false (nb4 (tmA st s) big), .l false (nb4 (s.cell 1).toI big), .l false (nb4 (s.cell 2).toI big), .l false (nb4 (s.cell 3).toI big), .l false (nb2 (nm2 (s.cell 4).toI) big), .l false (nb2 (nm2 (s.cell 5).toI) big), .l false (nb2 (nm2 (s.cell 6).toI) big)]) hN (by simp) (by
    intro p hp
    simp only [List.mem_cons, List.not_mem_nil, or_false] at hp
    rcases hp with rfl | rfl | rfl | rfl | rfl | rfl | rfl <;> first | exact nbp _ | exact nbq _) (ne_of_len (n := 21) (by simp [catP, D.items, nb2_len, nb4_len])) ha
  have e : catP [.l false (nb4 (tmA st s) big), .l false (nb4 (s.cell 1).toI big), .l false (nb4 (s.cell 2).toI big), .l false (nb4 (s.cell 3).toI big), .l false (nb2 (nm2 (s.cell 4).toI) big), .l false (nb2 (nm2 (s.cell 5).toI) big), .l false (nb2 (nm2 (s.cell 6).toI) big)] = nb4 (tmA st s) big ++ resB big s := by simp [catP, D.items, resB]
  rw [e] at q1
  rw [q1]
  rfl
/-- The same, as the reference puts it. -/
theorem smp_ref {s : D} (sh : Bool) (ha : acc.length ≤ 100000) : G50x0x92 N sh st (s.cell 0).toI (acc ++ [datD 1 (nb4 (tmA st s) big ++ resB big s)]) = some (acc ++ [bif sh then shoD ((tmA st s).tmod 32) (resB big s) else datD 1 (nb4 (tmA st s) big ++ resB big s)]) := by
 have hlen : (resB big s).length = 18 := by unfold resB; simp [nb4_len, nb2_len]
 unfold G50x0x92 F50x0x92
 cases sh with
 | false => rfl
 | true =>
  have e4 : ((datD 1 (nb4 (tmA st s) big ++ resB big s)).cell 4).items = nb4 (tmA st s) big ++ resB big s := rfl
  have ec : decide ((4 : Int) ≤ (((nb4 (tmA st s) big ++ resB big s).length : Nat) : Int)) = true := decide_eq_true (by rw [List.length_append, nb4_len]; omega)
  have ed : ((nb4 (tmA st s) big ++ resB big s).take (nb4 (tmA st s) big ++ resB big s).length).drop 4 = resB big s := by
   rw [List.take_length]
   exact List.drop_left' (nb4_len _ _)
  simp only [_root_.cond_true, bnd_eq, len_end ha, Int.toNat_natCast, get_end, set_end, e4, ec, ed, decide_eq_true (Int.le_refl (((nb4 (tmA st s) big ++ resB big s).length : Nat) : Int)), Bool.and_self]
  rw [inB_of (by omega) (by rw [List.length_append]; simp; omega), decide_eq_true (by simp), decide_eq_true (by simp), decide_eq_true (by simp)]
  rfl
def prevAt (ss : List D) (i : Int) : Option Int := bif decide (i > 0) then some (((ss.getD (i - 1).toNat (.i 0)).cell 0).toI) else none
theorem smps_loop (hN : maxLen < N) (hl : ss.length ≤ 20000) (ht : ∀ x ∈ ss, SmpA st x) : ∀ (m : Nat) (i : Int) (b b2 : Bool) (acc : List D), 0 ≤ i → i ≤ ss.length → (ss.length - i).toNat < m → (acc.length : Int) ≤ 60000 + i →
  (∃ b', L110x0x45 N ss ss.length big st ss m i b acc (fun p => some p) = some (b', acc ++ smpsF false big st (prevAt ss i) (ss.drop i.toNat))) ∧ (∃ b', L50x0x78 N big ss ss.length st ss big m i b2 acc (fun p => some p) = some (b', acc ++ smpsF false big st (prevAt ss i) (ss.drop i.toNat))) := by
 have hm : maxLen = 9223372036854775807 := rfl
 intro m
 induction m with
 | zero => intro i b b2 acc _ _ h; omega
 | succ m ih =>
  intro i b b2 acc h0 h1 hmm ha
  unfold L110x0x45 S110x0x45 L50x0x78 S50x0x78
  by_cases hi : i < ss.length
  ·have hx := ht _ (getD_mem (fs := ss) h0 hi)
   obtain ⟨n1, n2⟩ := num4_eq (N := N) (big := big) hN hx.t
   have n1' : G108x0 N (IntKind.wrap .i64 (st + ((ss.getD i.toNat (.i 0)).cell 0).toI)) 4 false big = some (nb4 (tmA st (ss.getD i.toNat (.i 0))) big) := n1
   have n2' : G116x0 N (IntKind.wrap .i64 (st + ((ss.getD i.toNat (.i 0)).cell 0).toI)) 4 big = some (nb4 (tmA st (ss.getD i.toNat (.i 0))) big) := n2
   obtain ⟨p1, p2⟩ := num2_eq (N := N) (big := big) hN hx.p
   obtain ⟨p3, p4⟩ := num2_eq (N := N) (big := big) hN hx.w
   obtain ⟨p5, p6⟩ := num2_eq (N := N) (big := big) hN hx.k
   have hshort : G110x0x58 N i ss ((ss.getD i.toNat (.i 0)).cell 0).toI = some (shortP (prevAt ss i) (ss.getD i.toNat (.i 0))) ∧ G50x0x88 N i ss ((ss.getD i.toNat (.i 0)).cell 0).toI = some (shortP (prevAt ss i) (ss.getD i.toNat (.i 0))) := by
    unfold G110x0x58 F110x0x58 G50x0x88 F50x0x88 prevAt
    by_cases hp : i > 0
    ·rw [decide_eq_true hp, wrapI (x := i - 1) (by omega) (by omega), inB_of (by omega) (by omega)]
     exact ⟨rfl, rfl⟩
    ·rw [decide_eq_false hp]
     exact ⟨rfl, rfl⟩
   obtain ⟨_, q2⟩ := put_eq (N := N) (slot := 1) (acc := acc) (ps := [.l false (nb4 (tmA st (ss.getD i.toNat (.i 0))) big), .l false (nb4 ((ss.getD i.toNat (.i 0)).cell 1).toI big), .l false (nb4 ((ss.getD i.toNat (.i 0)).cell 2).toI big), .l false (nb4 ((ss.getD i.toNat (.i 0)).cell 3).toI big), .l false (nb2 (nm2 ((ss.getD i.toNat (.i 0)).cell 4).toI) big), .l false (nb2 (nm2 ((ss.getD i.toNat (.i 0)).cell 5).toI) big), .l false (nb2 (nm2 ((ss.getD i.toNat (.i 0)).cell 6).toI) big)]) hN (by simp) (by
    intro p hp
    simp only [List.mem_cons, List.not_mem_nil, or_false] at hp
    rcases hp with rfl | rfl | rfl | rfl | rfl | rfl | rfl <;> first | exact nbp _ | exact nbq _) (ne_of_len (n := 21) (by simp [catP, D.items, nb2_len, nb4_len])) (by omega)
   have e : catP [.l false (nb4 (tmA st (ss.getD i.toNat (.i 0))) big), .l false (nb4 ((ss.getD i.toNat (.i 0)).cell 1).toI big), .l false (nb4 ((ss.getD i.toNat (.i 0)).cell 2).toI big), .l false (nb4 ((ss.getD i.toNat (.i 0)).cell 3).toI big), .l false (nb2 (nm2 ((ss.getD i.toNat (.i 0)).cell 4).toI) big), .l false (nb2 (nm2 ((ss.getD i.toNat (.i 0)).cell 5).toI) big), .l false (nb2 (nm2 ((ss.getD i.toNat (.i 0)).cell 6).toI) big)] = nb4 (tmA st (ss.getD i.toNat (.i 0))) big ++ resB big (ss.getD i.toNat (.i 0)) := by simp [catP, D.items, resB]
   rw [e] at q2
   have s1 := smp_prog (N := N) (st := st) (big := big) (s := ss.getD i.toNat (.i 0)) (acc := acc) hN (shortP (prevAt ss i) (ss.getD i.toNat (.i 0))) (by omega)
   have s1' : G110x0x69062 N (IntKind.wrap .i64 (st + ((ss.getD i.toNat (.i 0)).cell 0).toI)) (shortP (prevAt ss i) (ss.getD i.toNat (.i 0))) _ acc = _ := s1
   have s2 := smp_ref (N := N) (st := st) (big := big) (s := ss.getD i.toNat (.i 0)) (acc := acc) (shortP (prevAt ss i) (ss.getD i.toNat (.i 0))) (by omega)
   have hpn : prevAt ss (i + 1) = some ((ss.getD i.toNat (.i 0)).cell 0).toI := by
    unfold prevAt
    rw [decide_eq_true (by omega), show i + 1 - 1 = i by omega]; rfl
   obtain ⟨⟨c1, z1⟩, c2, z2⟩ := ih (i + 1) false false (acc ++ [smpF false big st (prevAt ss i) (ss.getD i.toNat (.i 0))]) (by omega) (by omega) (by omega) (by simp; omega)
   rw [hpn] at z1 z2
   rw [decide_eq_true hi, inB_of h0 hi, drop_at (.i 0) h0 hi]
   simp only [_root_.cond_true, bnd_eq, n1', n2', num4s_eq hN, P69_4 hN, p1, p2, p3, p4, p5, p6, Option.isSome_some, getD_some, hshort.1, hshort.2, s1', q2, s2, wrapI (x := i + 1) (by omega) (by omega), smpsF]
   refine ⟨⟨c1, ?_⟩, c2, ?_⟩
   ·refine Eq.trans ?_ (z1.trans (by simp))
    unfold smpF
    cases shortP (prevAt ss i) (ss.getD i.toNat (.i 0)) <;> rfl
   ·refine Eq.trans ?_ (z2.trans (by simp))
    unfold smpF
    cases shortP (prevAt ss i) (ss.getD i.toNat (.i 0)) <;> rfl
  ·have : i = ss.length := by omega
   subst this
   rw [decide_eq_false hi, drop_end (by omega)]
   exact ⟨⟨b, by simp [smpsF]⟩, b2, by simp [smpsF]⟩
end
end Go.Proofs.Ytnnofignhdijiaa

/-! Plain laws: FileOf, whole. -/
namespace Go.Proofs.Ytnnofignhdijiaa
open Go Go.AM
set_option maxRecDepth 100000
set_option maxHeartbeats 4000000
set_option linter.unusedVariables false
variable {N : Nat}
/-- What is asked of an activity whose file can be made. -/
structure FilOk (name : List UInt8) (sport st : Int) (ss ls ts : List D) : Prop where
 n : name.length ≤ 60
 sp : 0 ≤ sport
 b0 : 0 ≤ st
 b1 : st ≤ 4294967294
 s : ss.length ≤ 20000
 l : ls.length ≤ 200
 t : ts.length ≤ 20
 sa : ∀ x ∈ ss, SmpA st x
 la : ∀ x ∈ ls, LapA st x
 ta : ∀ x ∈ ts, x.toS.length ≤ 60
section
variable {name : List UInt8} {sport st : Int} {ss ls ts : List D} {big : Bool}
def selE (q : Bool) (a b : List D) : List D := bif q then a else b
theorem fileOf_both (hN : maxLen < N) (h : FilOk name sport st ss ls ts) (ha : ActOk name ss ls ts) (hc : chkA name sport st ss ls ts = 0) (hw : ¬ IntKind.wrap .i64 (st + spanD ss) > 4294967294) :
  (∃ b, G49x0 N name sport st ss ls ts big = some (b, filF false name sport st ss ls ts big, 0)) ∧ (∃ b, G50x0 N name sport st ss ls ts big = some (b, filF false name sport st ss ls ts big, 0)) := by
 have hm : maxLen = 9223372036854775807 := rfl
 have hsl := h.s
 have hll := h.l
 have htl := h.t
 have k38 : ∀ q (acc : List D), acc.length ≤ 100000 → G49x0x38 N q big acc = some (bif q then .inl (acc ++ [defD 3 30 fs3 big]) else .inr ()) := fun q acc hacc => by
  unfold G49x0x38 F49x0x38
  rw [(def_eq (N := N) (slot := 3) (g := 30) (fs := fs3) (big := big) hacc).1]
  cases q <;> rfl
 have k32 : ∀ q (acc : List D), acc.length ≤ 100000 → G50x0x32 N q big acc = some (bif q then .inl (acc ++ [defD 3 30 fs3 big]) else .inr ()) := fun q acc hacc => by
  unfold G50x0x32 F50x0x32
  rw [(def_eq (N := N) (slot := 3) (g := 30) (fs := fs3) (big := big) hacc).2]
  cases q <;> rfl
 have k59 : ∀ q (acc : List D), acc.length ≤ 100000 → G49x0x59 N q 253 4 0 big acc = some (bif q then .inl (acc ++ [defD 2 19 fs2 big]) else .inr ()) := fun q acc hacc => by
  unfold G49x0x59 F49x0x59
  rw [(def_eq (N := N) (slot := 2) (g := 19) (fs := fs2) (big := big) hacc).1]
  cases q <;> rfl
 have k53 : ∀ q (acc : List D), acc.length ≤ 100000 → G50x0x53 N q big acc = some (bif q then .inl (acc ++ [defD 2 19 fs2 big]) else .inr ()) := fun q acc hacc => by
  unfold G50x0x53 F50x0x53
  rw [(def_eq (N := N) (slot := 2) (g := 19) (fs := fs2) (big := big) hacc).2]
  cases q <;> rfl
 have k74 : ∀ q (acc : List D), acc.length ≤ 100000 → G50x0x74 N q big acc = some (bif q then .inl (acc ++ [defD 1 20 fs1 big]) else .inr ()) := fun q acc hacc => by
  unfold G50x0x74 F50x0x74
  rw [(def_eq (N := N) (slot := 1) (g := 20) (fs := fs1) (big := big) hacc).2]
  cases q <;> rfl
 have kt : ∀ b b2 (acc : List D), acc.length ≤ 100 → (∃ b', G49x0x42 N ts ts.length 0 b acc = some (b', acc ++ ts.map (fun t => datD 3 (txB t.toS)))) ∧ (∃ b', G50x0x36 N ts ts.length 0 b2 acc = some (b', acc ++ ts.map (fun t => datD 3 (txB t.toS)))) := fun b b2 acc hacc =>
  tags_loop (N := N) hN (by omega) h.ta N 0 b b2 acc (by omega) (by omega) (by omega) (by omega)
 have kl : ∀ b b2 (acc : List D), acc.length ≤ 30000 → (∃ b', G49x0x63 N ls ls.length st big 0 b acc = some (b', acc ++ ls.map (fun l => datD 2 (lapB big st l)))) ∧ (∃ b', G50x0x57 N ls ls.length st big 0 b2 acc = some (b', acc ++ ls.map (fun l => datD 2 (lapB big st l)))) := fun b b2 acc hacc =>
  laps_loop (N := N) hN (by omega) h.la N 0 b b2 acc (by omega) (by omega) (by omega) (by omega)
 have ks : ∀ b b2 (acc : List D), acc.length ≤ 60000 → (∃ b', G110x0x45 N ss ss.length big st ss 0 b acc = some (b', acc ++ smpsF false big st none ss)) ∧ (∃ b', G50x0x78 N big ss ss.length st ss big 0 b2 acc = some (b', acc ++ smpsF false big st none ss)) := fun b b2 acc hacc =>
  smps_loop (N := N) hN (by omega) h.sa N 0 b b2 acc (by omega) (by omega) (by omega) (by omega)
 have r24 : ∀ n : Nat, n ≤ 20 → (decide ((n + 1) * 24 ≤ room) && decide (n + 1 ≤ strMax)) = true := fun n hn => by
  rw [decide_eq_true (by unfold room; omega), decide_eq_true (by unfold strMax; omega)]; rfl
 have k76 : ∀ (acc : List D), acc.length ≤ 50000 → ∃ b', G49x0x76 N st ss 253 4 0 big acc = some (bif decide ((ss.length : Int) > 0) then .inr (b', acc ++ [defD 1 20 fs1 big] ++ smpsF false big st none ss) else .inl ()) := fun acc hacc => by
  obtain ⟨⟨b', e⟩, _⟩ := ks false false (acc ++ [defD 1 20 fs1 big]) (by simp; omega)
  refine ⟨b', ?_⟩
  unfold G49x0x76 F49x0x76 G110x0 F110x0
  by_cases hs : ss.length > 0
  ·have e0 : ((ss.length : Int) == 0) = false := by rw [beq_eq_false_iff_ne]; omega
   rw [e0, decide_eq_true (show (ss.length : Int) > 0 by omega)]
   have e1 := (def_eq (N := N) (slot := 1) (g := 20) (fs := fs1) (big := big) (acc := acc) (by omega)).1
   have e1' : G106x1 N 1 20 false (((([(.a [(.i 253), (.i 4), (.i 0)]), (.a [(.i 0), (.i 4), (.i 1)])] ++ [(.a [(.i 1), (.i 4), (.i 1)])]) ++ [(.a [(.i 2), (.i 4), (.i 1)])] ++ [(.a [(.i 3), (.i 2), (.i 0)])]) ++ [(.a [(.i 4), (.i 2), (.i 0)])]) ++ [(.a [(.i 5), (.i 2), (.i 0)])]) big acc = some (acc ++ [defD 1 20 fs1 big]) := e1
   simp only [_root_.cond_true, _root_.cond_false, bnd_eq, List.length_append, List.length_cons, List.length_nil, r24 (0 + 1 + 1) (by decide), r24 (0 + 1 + 1 + (0 + 1)) (by decide), r24 (0 + 1 + 1 + (0 + 1) + (0 + 1)) (by decide), r24 (0 + 1 + 1 + (0 + 1) + (0 + 1) + (0 + 1)) (by decide), r24 (0 + 1 + 1 + (0 + 1) + (0 + 1) + (0 + 1) + (0 + 1)) (by decide), e1', Option.isSome_some, getD_some, e, inlB_inr, inrQ_inr]
  ·have e0 : ((ss.length : Int) == 0) = true := by rw [beq_iff_eq]; omega
   rw [e0, decide_eq_false (show ¬ (ss.length : Int) > 0 by omega)]
   rfl
 obtain ⟨b1, e1⟩ : ∃ b' : Bool → (acc : List D) → acc.length ≤ 100 → Bool, ∀ b acc hacc, G49x0x42 N ts ts.length 0 b acc = some (b' b acc hacc, acc ++ ts.map (fun t => datD 3 (txB t.toS))) := ⟨fun b acc hacc => (kt b b acc hacc).1.choose, fun b acc hacc => (kt b b acc hacc).1.choose_spec⟩
 obtain ⟨c1, d1⟩ : ∃ b' : Bool → (acc : List D) → acc.length ≤ 100 → Bool, ∀ b acc hacc, G50x0x36 N ts ts.length 0 b acc = some (b' b acc hacc, acc ++ ts.map (fun t => datD 3 (txB t.toS))) := ⟨fun b acc hacc => (kt b b acc hacc).2.choose, fun b acc hacc => (kt b b acc hacc).2.choose_spec⟩
 obtain ⟨b2, e2⟩ : ∃ b' : Bool → (acc : List D) → acc.length ≤ 30000 → Bool, ∀ b acc hacc, G49x0x63 N ls ls.length st big 0 b acc = some (b' b acc hacc, acc ++ ls.map (fun l => datD 2 (lapB big st l))) := ⟨fun b acc hacc => (kl b b acc hacc).1.choose, fun b acc hacc => (kl b b acc hacc).1.choose_spec⟩
 obtain ⟨c2, d2⟩ : ∃ b' : Bool → (acc : List D) → acc.length ≤ 30000 → Bool, ∀ b acc hacc, G50x0x57 N ls ls.length st big 0 b acc = some (b' b acc hacc, acc ++ ls.map (fun l => datD 2 (lapB big st l))) := ⟨fun b acc hacc => (kl b b acc hacc).2.choose, fun b acc hacc => (kl b b acc hacc).2.choose_spec⟩
 obtain ⟨b3, e3⟩ : ∃ b' : (acc : List D) → acc.length ≤ 50000 → Bool, ∀ acc hacc, G49x0x76 N st ss 253 4 0 big acc = some (bif decide ((ss.length : Int) > 0) then .inr (b' acc hacc, acc ++ [defD 1 20 fs1 big] ++ smpsF false big st none ss) else .inl ()) := ⟨fun acc hacc => (k76 acc hacc).choose, fun acc hacc => (k76 acc hacc).choose_spec⟩
 obtain ⟨c3, d3⟩ : ∃ b' : Bool → (acc : List D) → acc.length ≤ 60000 → Bool, ∀ b acc hacc, G50x0x78 N big ss ss.length st ss big 0 b acc = some (b' b acc hacc, acc ++ smpsF false big st none ss) := ⟨fun b acc hacc => (ks b b acc hacc).2.choose, fun b acc hacc => (ks b b acc hacc).2.choose_spec⟩
 obtain ⟨x1, x2⟩ := num4_eq (N := N) (big := big) hN h.b0
 obtain ⟨x3, x4⟩ := num1_eq (N := N) (big := big) hN h.sp
 obtain ⟨x5, x6⟩ := text_eq (N := N) h.n
 have hdd : decide (IntKind.wrap .i64 (st + spanD ss) > 4294967294) = false := decide_eq_false hw
 obtain ⟨p1, p2⟩ := put_eq (N := N) (slot := 0) (acc := [defD 0 0 fs0 big]) (ps := [.l false (nb4 st big), .l false (txB name), .l false (nb1 sport)]) hN (by simp) (by
  intro p hp
  simp only [List.mem_cons, List.not_mem_nil, or_false] at hp
  rcases hp with rfl | rfl | rfl
  ·exact nbp _
  ·exact txp h.n
  ·show 1 ≤ 100; omega) (ne_of_len (n := 64) (by simp only [catP, D.items, List.length_append, nb4_len]; rw [txB_len h.n]; rfl)) (by simp)
 have ec : catP [.l false (nb4 st big), .l false (txB name), .l false (nb1 sport)] = nb4 st big ++ (txB name ++ nb1 sport) := by simp only [catP, D.items, List.append_nil]
 rw [ec] at p1 p2
 have hnil : ss.length > 0 ∨ smpsF false big st none ss = [] := by
  cases ss with
  | nil => exact .inr rfl
  | cons => left; simp
 have len1 : ∀ q1 : Bool, (selE q1 ([defD 0 0 fs0 big] ++ [datD 0 (nb4 st big ++ (txB name ++ nb1 sport))] ++ [defD 3 30 fs3 big]) ([defD 0 0 fs0 big] ++ [datD 0 (nb4 st big ++ (txB name ++ nb1 sport))])).length ≤ 3 := fun q1 => by cases q1 <;> simp [selE]
 constructor
 ·unfold G49x0 F49x0 filF ifE
  rw [G13x0_eq hN ha, hc, G54x0_eq ha.s]
  dsimp only [bnd_eq, Option.isSome_some, getD_some, _root_.cond_true]
  rw [hdd, x1, x3, x5]
  rw [show ((0 : Int) != 0) = false from rfl]
  dsimp only [Option.isSome_some, getD_some, _root_.cond_true, _root_.cond_false]
  have p1' : G107x0 N 0 [.l false (nb4 st big), .l false (txB name), .l false (nb1 sport)] (V106x0 N 0 0 false fs0 big) = _ := p1
  rw [p1']
  dsimp only [Option.isSome_some, getD_some, _root_.cond_true, _root_.cond_false]
  have hq3 : decide ((ss.length : Int) > 0) = false → smpsF false big st none ss = [] := fun hh => by
   rcases hnil with hn | hn
   ·simp at hh; simp [hh] at hn
   ·exact hn
  generalize decide ((ts.length : Int) > 0) = q1
  generalize decide ((ls.length : Int) > 0) = q2
  generalize decide ((ss.length : Int) > 0) = q3 at e3 hq3
  rw [k38 q1 _ (by simp)]
  cases q1 <;> cases q2 <;> cases q3 <;> dsimp only [inlB_inl, inlV_inl, inlB_inr, inrQ_inr, Option.isSome_some, getD_some, _root_.cond_true, _root_.cond_false]
  all_goals
   rw [e1 _ _ (by simp)]
   dsimp only [inlB_inl, inlV_inl, inlB_inr, inrQ_inr, Option.isSome_some, getD_some, _root_.cond_true, _root_.cond_false]
   rw [k59 _ _ (by simp; omega)]
   dsimp only [inlB_inl, inlV_inl, inlB_inr, inrQ_inr, Option.isSome_some, getD_some, _root_.cond_true, _root_.cond_false]
   rw [e2 _ _ (by simp; omega)]
   dsimp only [inlB_inl, inlV_inl, inlB_inr, inrQ_inr, Option.isSome_some, getD_some, _root_.cond_true, _root_.cond_false]
   rw [e3 _ (by simp; omega)]
   dsimp only [inlB_inl, inlV_inl, inlB_inr, inrQ_inr, Option.isSome_some, getD_some, _root_.cond_true, _root_.cond_false]
   refine ⟨_, congrArg some (Prod.ext rfl (Prod.ext ?_ rfl))⟩
   first
   | (rw [hq3 rfl]; simp)
   | simp
 ·unfold G50x0 F50x0 filF ifE
  rw [G14x0_eq hN ha, hc, G111x0_eq ha.s]
  dsimp only [bnd_eq, Option.isSome_some, getD_some, _root_.cond_true]
  rw [hdd, x2, x4, x6]
  rw [show ((0 : Int) != 0) = false from rfl]
  dsimp only [Option.isSome_some, getD_some, _root_.cond_true, _root_.cond_false]
  have p2' : G115x0 N 0 [.l false (nb4 st big), .l false (txB name), .l false (nb1 sport)] (V112x0 N 0 0 false fs0 big) = _ := p2
  rw [p2']
  dsimp only [Option.isSome_some, getD_some, _root_.cond_true, _root_.cond_false]
  have hq3 : decide ((ss.length : Int) > 0) = false → smpsF false big st none ss = [] := fun hh => by
   rcases hnil with hn | hn
   ·simp at hh; simp [hh] at hn
   ·exact hn
  generalize decide ((ts.length : Int) > 0) = q1
  generalize decide ((ls.length : Int) > 0) = q2
  generalize decide ((ss.length : Int) > 0) = q3 at hq3
  rw [k32 q1 _ (by simp)]
  cases q1 <;> cases q2 <;> cases q3 <;> dsimp only [inlB_inl, inlV_inl, inlB_inr, inrQ_inr, Option.isSome_some, getD_some, _root_.cond_true, _root_.cond_false]
  all_goals
   rw [d1 _ _ (by simp)]
   dsimp only [inlB_inl, inlV_inl, inlB_inr, inrQ_inr, Option.isSome_some, getD_some, _root_.cond_true, _root_.cond_false]
   rw [k53 _ _ (by simp; omega)]
   dsimp only [inlB_inl, inlV_inl, inlB_inr, inrQ_inr, Option.isSome_some, getD_some, _root_.cond_true, _root_.cond_false]
   rw [d2 _ _ (by simp; omega)]
   dsimp only [inlB_inl, inlV_inl, inlB_inr, inrQ_inr, Option.isSome_some, getD_some, _root_.cond_true, _root_.cond_false]
   rw [k74 _ _ (by simp; omega)]
   dsimp only [inlB_inl, inlV_inl, inlB_inr, inrQ_inr, Option.isSome_some, getD_some, _root_.cond_true, _root_.cond_false]
   rw [d3 _ _ (by simp; omega)]
   dsimp only [inlB_inl, inlV_inl, inlB_inr, inrQ_inr, Option.isSome_some, getD_some, _root_.cond_true, _root_.cond_false]
   refine ⟨_, congrArg some (Prod.ext rfl (Prod.ext ?_ rfl))⟩
   simp
end
end Go.Proofs.Ytnnofignhdijiaa

/-! Plain laws: what FileOf writes, read again: the values. -/
namespace Go.Proofs.Ytnnofignhdijiaa
open Go Go.AM
set_option maxRecDepth 100000
set_option maxHeartbeats 4000000
set_option linter.unusedVariables false
variable {N : Nat}
theorem bt_all (n : Int) : (bt n 0).toI = n % 256 ∧ (bt n 1).toI = n / 256 % 256 ∧ (bt n 2).toI = n / 65536 % 256 ∧ (bt n 3).toI = n / 16777216 % 256 := by
 have e : ∀ k : Nat, (n.fdiv (2 ^ k)) = n / 2 ^ k := fun k => Int.fdiv_eq_ediv_of_nonneg _ (by exact Int.le_of_lt (Int.pow_pos (by decide)))
 have w0 : (min (IntKind.wrap .i64 (8 * 0)).toNat 64) = 0 := by decide
 have w1 : (min (IntKind.wrap .i64 (8 * 1)).toNat 64) = 8 := by decide
 have w2 : (min (IntKind.wrap .i64 (8 * 2)).toNat 64) = 16 := by decide
 have w3 : (min (IntKind.wrap .i64 (8 * 3)).toNat 64) = 24 := by decide
 unfold bt D.toI
 simp only [w0, w1, w2, w3, e, IntKind.wrap_u8]
 refine ⟨?_, ?_, ?_, ?_⟩ <;> omega
theorem numB4 (n : Int) (big : Bool) : numB (nb4 n big) big = n % 4294967296 := by
 obtain ⟨b0, b1, b2, b3⟩ := bt_all n
 cases big with
 | true =>
  show 256 * (256 * (256 * (256 * 0 + (bt n 3).toI) + (bt n 2).toI) + (bt n 1).toI) + (bt n 0).toI = _
  rw [b0, b1, b2, b3]; omega
 | false =>
  show 256 * (256 * (256 * (256 * 0 + (bt n 3).toI) + (bt n 2).toI) + (bt n 1).toI) + (bt n 0).toI = _
  rw [b0, b1, b2, b3]; omega
theorem numQ2 (n : Int) (big : Bool) : numB (nb2 n big) big = n % 65536 := by
 obtain ⟨b0, b1, _, _⟩ := bt_all n
 cases big with
 | true =>
  show 256 * (256 * 0 + (bt n 1).toI) + (bt n 0).toI = _
  rw [b0, b1]; omega
 | false =>
  show 256 * (256 * 0 + (bt n 1).toI) + (bt n 0).toI = _
  rw [b0, b1]; omega
theorem numB1 (n : Int) (big : Bool) : numB (nb1 n) big = n % 256 := by
 obtain ⟨b0, _, _, _⟩ := bt_all n
 cases big <;> (show 256 * 0 + (bt n 0).toI = _; rw [b0]; omega)
theorem valS4 {x : Int} (big : Bool) (h0 : -2147483648 ≤ x) (h1 : x < 2147483647) : valC 4 1 (nb4 x big) big = (x, [], false) := by
 unfold valC
 rw [numB4]
 show (bif x % 4294967296 == 2147483647 then _ else (bif true && decide (x % 4294967296 > 2147483647) then x % 4294967296 - 4294967296 else x % 4294967296, _, _)) = _
 rw [show (x % 4294967296 == 2147483647) = false by rw [beq_eq_false_iff_ne]; omega]
 by_cases hx : x < 0
 ·rw [decide_eq_true (by omega)]
  simp only [_root_.cond_false, _root_.cond_true, Bool.and_self, Prod.mk.injEq, and_true]; omega
 ·rw [decide_eq_false (by omega)]
  simp only [_root_.cond_false, Bool.and_false, Prod.mk.injEq, and_true]; omega
def V2 (v : Int) : Int × List UInt8 × Bool := bif decide (v < 0) then (0, [], true) else (v, [], false)
theorem valU2 {v : Int} (big : Bool) (h0 : -1 ≤ v) (h1 : v ≤ 65534) : valC 2 0 (nb2 (nm2 v) big) big = V2 v := by
 unfold valC V2 nm2
 rw [numQ2]
 by_cases hv : v < 0
 ·rw [decide_eq_true hv]; rfl
 ·rw [decide_eq_false hv]
  show (bif v % 65536 == 65535 then _ else (bif false && _ then _ else v % 65536, _, _)) = _
  rw [show (v % 65536 == 65535) = false by rw [beq_eq_false_iff_ne]; omega]
  simp only [_root_.cond_false, Bool.false_and, Prod.mk.injEq, and_true]; omega
theorem valU4 {v : Int} (big : Bool) (h0 : 0 ≤ v) (h1 : v ≤ 4294967294) : valC 4 0 (nb4 v big) big = (v, [], false) := by
 unfold valC
 rw [numB4]
 show (bif v % 4294967296 == 4294967295 then _ else (bif false && _ then _ else v % 4294967296, _, _)) = _
 rw [show (v % 4294967296 == 4294967295) = false by rw [beq_eq_false_iff_ne]; omega]
 simp only [_root_.cond_false, Bool.false_and, Prod.mk.injEq, and_true]; omega
theorem valU1 {v : Int} (big : Bool) (h0 : 0 ≤ v) (h1 : v ≤ 254) : valC 1 0 (nb1 v) big = (v, [], false) := by
 unfold valC
 rw [numB1]
 show (bif v % 256 == 255 then _ else (bif false && _ then _ else v % 256, _, _)) = _
 rw [show (v % 256 == 255) = false by rw [beq_eq_false_iff_ne]; omega]
 simp only [_root_.cond_false, Bool.false_and, Prod.mk.injEq, and_true]; omega
/-! ### Texts -/
theorem idx_zero : ∀ {s : List UInt8} (k : Nat), (∀ c ∈ s, c ≠ 0) → Lib.indexByte (s ++ List.replicate k 0) 0 = if k = 0 then -1 else (s.length : Int)
 | [], 0, _ => rfl
 | [], k + 1, _ => rfl
 | c :: s, k, h => by
  have hc : (c == 0) = false := by rw [beq_eq_false_iff_ne]; exact h c (by simp)
  have ih := idx_zero (s := s) k fun x hx => h x (by simp [hx])
  simp only [List.cons_append, Lib.indexByte, hc, ih, List.length_cons]
  by_cases hk : k = 0
  ·simp [hk]
  ·simp only [if_neg hk]
   rw [if_neg (by simp), if_neg (by rw [beq_iff_eq]; omega)]
   omega
theorem strD_bytesD (s : List UInt8) : strD (bytesD s) = s := by
 unfold strD bytesD
 rw [List.map_map]
 have : ((fun d : D => UInt8.ofNat d.toI.toNat) ∘ byteD) = id := by
  funext b
  simp [byteD, D.toI]
 rw [this, List.map_id]
theorem cut_txB {s : List UInt8} (h0 : ∀ c ∈ s, c ≠ 0) : cutS (strD (txB s)) = s := by
 have e : strD (txB s) = s ++ List.replicate (60 - s.length) 0 := by
  unfold txB
  have : strD (bytesD s ++ List.replicate (60 - s.length) (.i 0)) = strD (bytesD s) ++ strD (List.replicate (60 - s.length) (.i 0)) := by unfold strD; rw [List.map_append]
  rw [this, strD_bytesD]
  congr 1
  unfold strD
  rw [List.map_replicate]; rfl
 rw [e]
 unfold cutS
 rw [idx_zero _ h0]
 by_cases hk : 60 - s.length = 0
 ·rw [if_pos hk, hk]; simp
 ·rw [if_neg hk, decide_eq_true (show (s.length : Int) ≥ 0 by omega)]
  simp
theorem valT {s : List UInt8} (big : Bool) (h0 : ∀ c ∈ s, c ≠ 0) : valC 60 2 (txB s) big = (0, s, s == []) := by
 unfold valC
 show (0, cutS (strD (txB s)), cutS (strD (txB s)) == []) = _
 rw [cut_txB h0]
theorem mid {A B C : List D} {a b : Nat} (ha : A.length = a) (hb : B.length = b) : ((A ++ (B ++ C)).take (a + b)).drop a = B := by
 subst ha hb
 rw [← List.append_assoc, List.take_left' (by simp), List.drop_left' rfl]
theorem midE {A B : List D} {a b : Nat} (ha : A.length = a) (hb : B.length = b) : ((A ++ B).take (a + b)).drop a = B := by
 have := mid (C := []) ha hb
 simpa using this
theorem mid0 {B C : List D} {b : Nat} (hb : B.length = b) : ((B ++ C).take b).drop 0 = B := by
 subst hb; rw [List.take_left' rfl]; rfl
/-- A value. -/
def mkV (n t : Int) (v : Int × List UInt8 × Bool) : D := .a [.i n, .i t, .i v.1, .s v.2.1, .b v.2.2]
theorem valD_of {f : D} {a : Int} {data b : List D} {big : Bool} {v : Int × List UInt8 × Bool} (h : (data.take (a + fS f).toNat).drop a.toNat = b) (hv : valC (fS f) (fT f) b big = v) : valD f a data big = mkV (fN f) (fT f) v := by
 unfold valD mkV
 rw [h, hv]
section
variable {big : Bool}
theorem vals_head {name : List UInt8} {st sport : Int} (hn : ∀ c ∈ name, c ≠ 0) (hl : name.length ≤ 60) (h0 : 0 ≤ st) (h1 : st ≤ 4294967294) (h2 : 0 ≤ sport) (h3 : sport ≤ 254) :
  valsL (nb4 st big ++ (txB name ++ nb1 sport)) big false 0 fs0 = [mkV 253 0 (st, [], false), mkV 1 2 (0, name, name == []), mkV 2 0 (sport, [], false)] := by
 have e1 := valD_of (f := tF) (a := 0) (data := nb4 st big ++ (txB name ++ nb1 sport)) (big := big) (mid0 (nb4_len st big)) (valU4 big h0 h1)
 have e2 := valD_of (f := .a [.i 1, .i 60, .i 2]) (a := 4) (data := nb4 st big ++ (txB name ++ nb1 sport)) (big := big) (mid (nb4_len st big) (txB_len hl)) (valT big hn)
 have e3 := valD_of (f := .a [.i 2, .i 1, .i 0]) (a := 64) (data := nb4 st big ++ (txB name ++ nb1 sport)) (big := big) (b := nb1 sport) (by
  rw [← List.append_assoc]
  exact midE (a := 64) (b := 1) (by rw [List.length_append, nb4_len, txB_len hl]) rfl) (valU1 big h2 h3)
 show [valD tF 0 _ big, valD (.a [.i 1, .i 60, .i 2]) 4 _ big, valD (.a [.i 2, .i 1, .i 0]) 64 _ big] = _
 rw [e1, e2, e3]
 rfl
theorem vals_tag {s : List UInt8} (hn : ∀ c ∈ s, c ≠ 0) (hl : s.length ≤ 60) : valsL (txB s) big false 0 fs3 = [mkV 1 2 (0, s, s == [])] := by
 have e1 := valD_of (f := .a [.i 1, .i 60, .i 2]) (a := 0) (data := txB s) (big := big) (b := txB s) (by
  show ((txB s).take 60).drop 0 = txB s
  rw [List.take_of_length_le (by rw [txB_len hl]; omega)]; rfl) (valT big hn)
 show [valD (.a [.i 1, .i 60, .i 2]) 0 _ big] = _
 rw [e1]
 rfl
theorem vals_lap {s : List UInt8} {f t : Int} (hn : ∀ c ∈ s, c ≠ 0) (hl : s.length ≤ 60) (h0 : 0 ≤ f) (h1 : f ≤ 4294967294) (h2 : 0 ≤ t) (h3 : t ≤ 4294967294) :
  valsL (nb4 f big ++ (nb4 t big ++ txB s)) big false 0 fs2 = [mkV 253 0 (f, [], false), mkV 1 0 (t, [], false), mkV 2 2 (0, s, s == [])] := by
 have e1 := valD_of (f := tF) (a := 0) (data := nb4 f big ++ (nb4 t big ++ txB s)) (big := big) (mid0 (nb4_len f big)) (valU4 big h0 h1)
 have e2 := valD_of (f := .a [.i 1, .i 4, .i 0]) (a := 4) (data := nb4 f big ++ (nb4 t big ++ txB s)) (big := big) (mid (nb4_len f big) (nb4_len t big)) (valU4 big h2 h3)
 have e3 := valD_of (f := .a [.i 2, .i 60, .i 2]) (a := 8) (data := nb4 f big ++ (nb4 t big ++ txB s)) (big := big) (b := txB s) (by
  rw [← List.append_assoc]
  exact midE (a := 8) (b := 60) (by rw [List.length_append, nb4_len, nb4_len]) (txB_len hl)) (valT big hn)
 show [valD tF 0 _ big, valD (.a [.i 1, .i 4, .i 0]) 4 _ big, valD (.a [.i 2, .i 60, .i 2]) 8 _ big] = _
 rw [e1, e2, e3]
 rfl
/-- The values of a sample but its time. -/
def smpV (x y z p w k : Int) : List D := [mkV 0 1 (x, [], false), mkV 1 1 (y, [], false), mkV 2 1 (z, [], false), mkV 3 0 (V2 p), mkV 4 0 (V2 w), mkV 5 0 (V2 k)]
structure SmpR (x y z p w k : Int) : Prop where
 x : -2147483648 ≤ x ∧ x < 2147483647
 y : -2147483648 ≤ y ∧ y < 2147483647
 z : -2147483648 ≤ z ∧ z < 2147483647
 p : -1 ≤ p ∧ p ≤ 65534
 w : -1 ≤ w ∧ w ≤ 65534
 k : -1 ≤ k ∧ k ≤ 65534
def resV (big : Bool) (x y z p w k : Int) : List D := nb4 x big ++ (nb4 y big ++ (nb4 z big ++ (nb2 (nm2 p) big ++ (nb2 (nm2 w) big ++ nb2 (nm2 k) big))))
theorem vals_rest {x y z p w k : Int} (h : SmpR x y z p w k) : valsL (resV big x y z p w k) big true 0 fs1 = smpV x y z p w k := by
 have e1 := valD_of (f := .a [.i 0, .i 4, .i 1]) (a := 0) (data := resV big x y z p w k) (big := big) (b := nb4 x big) (by unfold resV; cases big <;> rfl) (valS4 big h.x.1 h.x.2)
 have e2 := valD_of (f := .a [.i 1, .i 4, .i 1]) (a := 4) (data := resV big x y z p w k) (big := big) (b := nb4 y big) (by unfold resV; cases big <;> rfl) (valS4 big h.y.1 h.y.2)
 have e3 := valD_of (f := .a [.i 2, .i 4, .i 1]) (a := 8) (data := resV big x y z p w k) (big := big) (b := nb4 z big) (by unfold resV; cases big <;> rfl) (valS4 big h.z.1 h.z.2)
 have e4 := valD_of (f := .a [.i 3, .i 2, .i 0]) (a := 12) (data := resV big x y z p w k) (big := big) (b := nb2 (nm2 p) big) (by unfold resV; cases big <;> rfl) (valU2 big h.p.1 h.p.2)
 have e5 := valD_of (f := .a [.i 4, .i 2, .i 0]) (a := 14) (data := resV big x y z p w k) (big := big) (b := nb2 (nm2 w) big) (by unfold resV; cases big <;> rfl) (valU2 big h.w.1 h.w.2)
 have e6 := valD_of (f := .a [.i 5, .i 2, .i 0]) (a := 16) (data := resV big x y z p w k) (big := big) (b := nb2 (nm2 k) big) (by unfold resV; cases big <;> rfl) (valU2 big h.k.1 h.k.2)
 show [valD (.a [.i 0, .i 4, .i 1]) 0 _ big, valD (.a [.i 1, .i 4, .i 1]) 4 _ big, valD (.a [.i 2, .i 4, .i 1]) 8 _ big, valD (.a [.i 3, .i 2, .i 0]) 12 _ big, valD (.a [.i 4, .i 2, .i 0]) 14 _ big, valD (.a [.i 5, .i 2, .i 0]) 16 _ big] = _
 rw [e1, e2, e3, e4, e5, e6]
 rfl
theorem vals_long {t x y z p w k : Int} (h0 : 0 ≤ t) (h1 : t ≤ 4294967294) (h : SmpR x y z p w k) : valsL (nb4 t big ++ resV big x y z p w k) big false 0 fs1 = mkV 253 0 (t, [], false) :: smpV x y z p w k := by
 have e0 := valD_of (f := tF) (a := 0) (data := nb4 t big ++ resV big x y z p w k) (big := big) (mid0 (nb4_len t big)) (valU4 big h0 h1)
 have e1 := valD_of (f := .a [.i 0, .i 4, .i 1]) (a := 4) (data := nb4 t big ++ resV big x y z p w k) (big := big) (b := nb4 x big) (by unfold resV; cases big <;> rfl) (valS4 big h.x.1 h.x.2)
 have e2 := valD_of (f := .a [.i 1, .i 4, .i 1]) (a := 8) (data := nb4 t big ++ resV big x y z p w k) (big := big) (b := nb4 y big) (by unfold resV; cases big <;> rfl) (valS4 big h.y.1 h.y.2)
 have e3 := valD_of (f := .a [.i 2, .i 4, .i 1]) (a := 12) (data := nb4 t big ++ resV big x y z p w k) (big := big) (b := nb4 z big) (by unfold resV; cases big <;> rfl) (valS4 big h.z.1 h.z.2)
 have e4 := valD_of (f := .a [.i 3, .i 2, .i 0]) (a := 16) (data := nb4 t big ++ resV big x y z p w k) (big := big) (b := nb2 (nm2 p) big) (by unfold resV; cases big <;> rfl) (valU2 big h.p.1 h.p.2)
 have e5 := valD_of (f := .a [.i 4, .i 2, .i 0]) (a := 18) (data := nb4 t big ++ resV big x y z p w k) (big := big) (b := nb2 (nm2 w) big) (by unfold resV; cases big <;> rfl) (valU2 big h.w.1 h.w.2)
 have e6 := valD_of (f := .a [.i 5, .i 2, .i 0]) (a := 20) (data := nb4 t big ++ resV big x y z p w k) (big := big) (b := nb2 (nm2 k) big) (by unfold resV; cases big <;> rfl) (valU2 big h.k.1 h.k.2)
 show [valD tF 0 _ big, valD (.a [.i 0, .i 4, .i 1]) 4 _ big, valD (.a [.i 1, .i 4, .i 1]) 8 _ big, valD (.a [.i 2, .i 4, .i 1]) 12 _ big, valD (.a [.i 3, .i 2, .i 0]) 16 _ big, valD (.a [.i 4, .i 2, .i 0]) 18 _ big, valD (.a [.i 5, .i 2, .i 0]) 20 _ big] = _
 rw [e0, e1, e2, e3, e4, e5, e6]
 rfl
end
/-! ### What is told of them -/
theorem smp_of {t st x y z p w k : Int} {pre : List D} (hp : pre = [] ∨ ∃ u, pre = [mkV 253 0 (u, [], false)]) (h : SmpR x y z p w k) (ht : 0 ≤ t) (h0 : 0 ≤ t - st) (h1 : t - st ≤ 4294967295) :
  smpOk t (pre ++ smpV x y z p w k) = true ∧ smpD t st (pre ++ smpV x y z p w k) = .a [.i (t - st), .i x, .i y, .i z, .i p, .i w, .i k] := by
 have hk : ∀ f v, (f = 3 ∧ v = p) ∨ (f = 4 ∧ v = w) ∨ (f = 5 ∧ v = k) → knV f (pre ++ smpV x y z p w k) = v := by
  intro f v hf
  have main : ∀ p w k : Int, -1 ≤ p → -1 ≤ w → -1 ≤ k → knV 3 (pre ++ smpV x y z p w k) = p ∧ knV 4 (pre ++ smpV x y z p w k) = w ∧ knV 5 (pre ++ smpV x y z p w k) = k := by
   intro p w k hp' hw' hk'
   unfold smpV V2 knV
   by_cases a1 : p < 0 <;> by_cases a2 : w < 0 <;> by_cases a3 : k < 0 <;>
    simp only [a1, a2, a3, decide_true, decide_false, _root_.cond_true, _root_.cond_false] <;>
    rcases hp with rfl | ⟨u, rfl⟩ <;>
    (refine ⟨?_, ?_, ?_⟩ <;> first | rfl | (show (-1 : Int) = _; omega))
  obtain ⟨q1, q2, q3⟩ := main p w k h.p.1 h.w.1 h.k.1
  rcases hf with ⟨rfl, rfl⟩ | ⟨rfl, rfl⟩ | ⟨rfl, rfl⟩
  ·exact q1
  ·exact q2
  ·exact q3
 have hn : numV 0 1 (pre ++ smpV x y z p w k) = (x, true) ∧ numV 1 1 (pre ++ smpV x y z p w k) = (y, true) ∧ numV 2 1 (pre ++ smpV x y z p w k) = (z, true) := by
  rcases hp with rfl | ⟨u, rfl⟩ <;> exact ⟨rfl, rfl, rfl⟩
 unfold smpOk smpD
 rw [hn.1, hn.2.1, hn.2.2, hk 3 p (.inl ⟨rfl, rfl⟩), hk 4 w (.inr (.inl ⟨rfl, rfl⟩)), hk 5 k (.inr (.inr ⟨rfl, rfl⟩)), decide_eq_true (show t ≥ 0 from ht), wrapI (by omega) (by omega)]
 exact ⟨rfl, rfl⟩
end Go.Proofs.Ytnnofignhdijiaa

/-! Plain laws: what FileOf writes is right, and its activity is the activity; made wide, too. -/
namespace Go.Proofs.Ytnnofignhdijiaa
open Go Go.AM
set_option maxRecDepth 100000
set_option maxHeartbeats 4000000
set_option linter.unusedVariables false
variable {N : Nat}
structure Sl (a : Ab) (j : Nat) (g : Int) (f : List D) (big : Bool) : Prop where
 kn : a.kn j = true
 bg : a.bg j = big
 gl : a.gl j = g
 fl : a.fs j = f
def aft : Ab → List D → Ab
 | a, [] => a
 | a, x :: r => aft (stepA a x) r
theorem errsA_cons {a : Ab} {x : D} {r : List D} (h : errE a x = 0) : errsA a (x :: r) = errsA (stepA a x) r := by
 simp only [errsA]
 rw [h]; rfl
theorem errsA_app : ∀ {xs ys : List D} {a : Ab}, errsA a xs = 0 → errsA a (xs ++ ys) = errsA (aft a xs) ys
 | [], _, _, _ => rfl
 | x :: r, ys, a, h => by
  obtain ⟨e1, e2⟩ := errs_cons h
  rw [List.cons_append, errsA_cons e1]
  exact errsA_app e2
theorem dataA_app : ∀ {xs ys : List D} {a : Ab}, dataA a (xs ++ ys) = dataA a xs ++ dataA (aft a xs) ys
 | [], _, _ => rfl
 | x :: r, ys, a => by
  simp only [List.cons_append, dataA, aft]
  cases kX x == 1 with
  | true => exact dataA_app
  | false => simp only [_root_.cond_false, List.cons_append, dataA_app (xs := r)]
theorem WdL_app : ∀ {xs xs' ys ys' : List D} {a : Ab}, WdL a xs ys → WdL (aft a xs) xs' ys' → WdL a (xs ++ xs') (ys ++ ys')
 | [], _, [], _, _, _, h => h
 | x :: r, xs', y :: s, ys', a, h, h' => ⟨h.1, WdL_app h.2 h'⟩
 | [], _, _ :: _, _, _, h, _ => h.elim
 | _ :: _, _, [], _, _, h, _ => h.elim
theorem WdL_refl : ∀ {xs : List D} {a : Ab}, (∀ x ∈ xs, kX x ≠ 3) → WdL a xs xs
 | [], _, _ => trivial
 | x :: r, a, h => ⟨⟨fun _ => EqE.refl x, fun hk => absurd hk (h x (by simp))⟩, WdL_refl fun y hy => h y (by simp [hy])⟩
theorem lateA_app : ∀ {xs ys : List D} {a : Ab}, lateA a xs = false → lateA a (xs ++ ys) = lateA (aft a xs) ys
 | [], _, _, _ => rfl
 | x :: r, ys, a, h => by
  simp only [lateA] at h
  simp only [List.cons_append, lateA, aft]
  cases hq : (kX x == 3) && decide (timeE a x > 4294967294) with
  | true => rw [hq] at h; cases h
  | false => rw [hq] at h; exact lateA_app h
theorem lateA_no : ∀ {xs : List D} {a : Ab}, (∀ x ∈ xs, kX x ≠ 3) → lateA a xs = false
 | [], _, _ => rfl
 | x :: r, a, h => by
  have : (kX x == 3) = false := by simpa using h x (by simp)
  simp only [lateA, this, Bool.false_and, _root_.cond_false]
  exact lateA_no fun y hy => h y (by simp [hy])
section
variable {a : Ab} {j g : Int} {f : List D} {big : Bool}
theorem def_walk (hj : 0 ≤ j) (hj2 : j ≤ 15) (hd : defE g f = 0) : errE a (defD j g f big) = 0 ∧ Sl (stepA a (defD j g f big)) j.toNat g f big := by
 have i2 : inI j 0 15 = true := decide_eq_true ⟨hj, hj2⟩
 constructor
 ·show (bif !(inI 1 1 3) then 7 else bif !(inI j 0 15) || !(inI 0 0 0) then 9 else _) = 0
  rw [i2]; exact hd
 ·refine ⟨?_, ?_, ?_, ?_⟩
  ·show upA a.kn j.toNat true j.toNat = true; simp [upA]
  ·show upA a.bg j.toNat big j.toNat = big; simp [upA]
  ·show upA a.gl j.toNat g j.toNat = g; simp [upA]
  ·show upA a.fs j.toNat f j.toNat = f; simp [upA]
theorem dat_walk {b : List D} (h : Sl a j.toNat g f big) (hj : 0 ≤ j) (hj2 : j ≤ 15) (hl : (b.length : Int) = szL f) : errE a (datD j b) = 0 ∧ valsX a (datD j b) = valsL b big false 0 f ∧ a.gl (sX (datD j b)).toNat = g ∧ (∀ i g' f' big', Sl a i g' f' big' → Sl (stepA a (datD j b)) i g' f' big') := by
 have i2 : inI j 0 15 = true := decide_eq_true ⟨hj, hj2⟩
 refine ⟨?_, ?_, h.gl, fun i g' f' big' hs => ⟨hs.kn, hs.bg, hs.gl, hs.fl⟩⟩
 ·show entE 2 j 0 [] b (a.kn j.toNat) (szL (a.fs j.toNat)) (tmL 0 (a.fs j.toNat)) a.last = 0
  rw [h.kn, h.fl]
  unfold entE
  show (bif !(inI 2 1 3) then 7 else bif !(inI j 0 15) || !(inI 0 0 0) then 9 else _) = 0
  rw [i2]
  show (bif (b.length : Int) != szL f then (2 : Int) else 0) = 0
  rw [hl]; simp
 ·show valsL b (a.bg j.toNat) false 0 (a.fs j.toNat) = _
  rw [h.bg, h.fl]
theorem dat_time {t : Int} {r : List D} (h : Sl a j.toNat g f big) (hf : tmL 0 f = 0) (h0 : 0 ≤ t) (h1 : t ≤ 4294967294) : timeE a (datD j (nb4 t big ++ r)) = t ∧ (stepA a (datD j (nb4 t big ++ r))).last = t := by
 have ht : timeC a 2 j 0 (nb4 t big ++ r) = t := by
  unfold timeC
  show (bif decide (tmL 0 (a.fs j.toNat) < 0) then (-1 : Int) else _) = t
  rw [h.fl, h.bg, hf]
  show (bif numB (((nb4 t big ++ r).take 4).drop 0) big == 4294967295 then (-1 : Int) else numB (((nb4 t big ++ r).take 4).drop 0) big) = t
  rw [mid0 (nb4_len t big), numB4, show t % 4294967296 = t by omega, show (t == 4294967295) = false by rw [beq_eq_false_iff_ne]; omega]
  rfl
 refine ⟨ht, ?_⟩
 show (bif decide (timeC a 2 j 0 (nb4 t big ++ r) ≥ 0) then timeC a 2 j 0 (nb4 t big ++ r) else a.last) = t
 rw [ht, decide_eq_true (show t ≥ 0 from h0)]; rfl
theorem sho_walk {tp t : Int} {b : List D} (h : Sl a 1 20 fs1 big) (hl : b.length = 18) (hp : a.last = tp) (h0 : 0 ≤ tp) (h1 : tp < t) (h2 : t - tp < 32) : errE a (shoD (t.tmod 32) b) = 0 ∧ valsX a (shoD (t.tmod 32) b) = valsL b big true 0 fs1 ∧ a.gl (sX (shoD (t.tmod 32) b)).toNat = 20 ∧ timeE a (shoD (t.tmod 32) b) = t ∧ (stepA a (shoD (t.tmod 32) b)).last = t ∧ (∀ i g' f' big', Sl a i g' f' big' → Sl (stepA a (shoD (t.tmod 32) b)) i g' f' big') := by
 have m0 : t.tmod 32 = t % 32 := Int.tmod_eq_emod_of_nonneg (by omega)
 rw [m0]
 have ht : timeC a 3 1 (t % 32) b = t := by
  show a.last + (t % 32 - a.last % 32 + 32) % 32 = t
  rw [hp]; omega
 refine ⟨?_, ?_, h.gl, ht, ?_, fun i g' f' big' hs => ⟨hs.kn, hs.bg, hs.gl, hs.fl⟩⟩
 ·show entE 3 1 (t % 32) [] b (a.kn 1) (szL (a.fs 1)) (tmL 0 (a.fs 1)) a.last = 0
  rw [h.kn, h.fl, hp]
  unfold entE
  have i3 : inI (t % 32) 0 31 = true := decide_eq_true (by omega)
  show (bif !(inI 3 1 3) then 7 else bif !(inI 1 0 3) || !(inI (t % 32) 0 31) then 9 else _) = 0
  rw [i3]
  show (bif (!true || (true && (decide ((0 : Int) < 0) || decide (tp < 0)))) then (11 : Int) else bif (b.length : Int) != 22 - 4 then 2 else 0) = 0
  rw [decide_eq_false (show ¬ tp < 0 by omega), hl]; rfl
 ·show valsL b (a.bg 1) true 0 (a.fs 1) = _
  rw [h.bg, h.fl]
 ·show (bif decide (timeC a 3 1 (t % 32) b ≥ 0) then timeC a 3 1 (t % 32) b else a.last) = t
  rw [ht, decide_eq_true (show t ≥ 0 by omega)]; rfl
end
/-! ### The activity -/
def SmpG (st : Int) (s : D) : Prop := ∃ t x y z p w k, s = .a [.i t, .i x, .i y, .i z, .i p, .i w, .i k] ∧ 0 ≤ t ∧ st + t ≤ 4294967294 ∧ SmpR x y z p w k
def LapG (st : Int) (l : D) : Prop := ∃ f t n, l = .a [.i f, .i t, .s n] ∧ 0 ≤ f ∧ 0 ≤ t ∧ st + f ≤ 4294967294 ∧ st + t ≤ 4294967294 ∧ n.length ≤ 60 ∧ ∀ c ∈ n, c ≠ 0
def TagG (t : D) : Prop := ∃ s, t = .s s ∧ s ≠ [] ∧ s.length ≤ 60 ∧ ∀ c ∈ s, c ≠ 0
def Inc : Option Int → List D → Prop
 | _, [] => True
 | prev, s :: r => (∀ p, prev = some p → p < (s.cell 0).toI) ∧ Inc (some (s.cell 0).toI) r
/-- A piece of the file: right, and what it gives the activity. -/
structure Seg (st : Int) (a : Ab) (es S L T : List D) : Prop where
 e : errsA a es = 0
 f : ∀ rest SS LS TS, actR st (dataA a es ++ rest) SS LS TS = actR st rest (SS ++ S) (LS ++ L) (TS ++ T)
theorem Seg.nil {st : Int} {a : Ab} : Seg st a [] [] [] [] := ⟨rfl, fun rest SS LS TS => by simp [dataA]⟩
theorem Seg.app {st : Int} {a : Ab} {xs ys S L T S' L' T' : List D} (h : Seg st a xs S L T) (h' : Seg st (aft a xs) ys S' L' T') : Seg st a (xs ++ ys) (S ++ S') (L ++ L') (T ++ T') :=
 ⟨by rw [errsA_app h.e]; exact h'.e, fun rest SS LS TS => by rw [dataA_app, List.append_assoc, h.f, h'.f]; simp [List.append_assoc]⟩
theorem Seg.one {st : Int} {a : Ab} {x : D} {es S L T S' L' T' : List D} (h : Seg st a [x] S L T) (h' : Seg st (stepA a x) es S' L' T') : Seg st a (x :: es) (S ++ S') (L ++ L') (T ++ T') := Seg.app (xs := [x]) h h'
theorem Seg.def {st : Int} {a : Ab} {j g : Int} {f : List D} {big : Bool} (hj : 0 ≤ j) (hj2 : j ≤ 15) (hd : defE g f = 0) : Seg st a [defD j g f big] [] [] [] := by
 refine ⟨?_, fun rest SS LS TS => ?_⟩
 ·rw [errsA_cons (def_walk hj hj2 hd).1]; rfl
 ·show actR st rest SS LS TS = _; simp
section
variable {st : Int} {big : Bool}
theorem seg_tags : ∀ {ts : List D} {a : Ab}, Sl a 3 30 fs3 big → (∀ t ∈ ts, TagG t) → Seg st a (ts.map fun t => datD 3 (txB t.toS)) [] [] ts
 | [], _, _, _ => Seg.nil
 | t :: ts, a, h, ht => by
  obtain ⟨s, rfl, hne, hl, hn⟩ := ht t (by simp)
  obtain ⟨w1, w2, w3, w4⟩ := dat_walk (b := txB s) (j := 3) h (by omega) (by omega) (by rw [txB_len hl]; rfl)
  refine Seg.one (S := []) (L := []) (T := [.s s]) ⟨?_, fun rest SS LS TS => ?_⟩ (seg_tags (w4 _ _ _ _ h) fun x hx => ht x (by simp [hx]))
  ·show errsA a [datD 3 (txB s)] = 0
   rw [errsA_cons w1]; rfl
  ·have hv := vals_tag (big := big) hn hl
   have e : dataA a [datD 3 (txB s)] = [(30, timeE a (datD 3 (txB s)), [mkV 1 2 (0, s, s == [])])] := by
    show [(a.gl (sX (datD 3 (txB s))).toNat, timeE a (datD 3 (txB s)), valsX a (datD 3 (txB s)))] = _
    rw [w3, w2, hv]
   show actR st (dataA a [datD 3 (txB s)] ++ rest) SS LS TS = _
   rw [e]
   have hs : (s == []) = false := by rw [beq_eq_false_iff_ne]; exact hne
   show (bif !(s == []) then actR st rest SS LS (TS ++ [.s s]) else none) = _
   rw [hs]
   simp
theorem seg_laps (h0 : 0 ≤ st) : ∀ {ls : List D} {a : Ab}, Sl a 2 19 fs2 big → (∀ l ∈ ls, LapG st l) → Seg st a (ls.map fun l => datD 2 (lapB big st l)) [] ls []
 | [], _, _, _ => Seg.nil
 | l :: ls, a, h, hl => by
  obtain ⟨f, t, n, rfl, f0, t0, f1, t1, hn, hz⟩ := hl l (by simp)
  have eb : lapB big st (.a [.i f, .i t, .s n]) = nb4 (st + f) big ++ (nb4 (st + t) big ++ txB n) := by
   unfold lapB tmA tmB
   show nb4 (IntKind.wrap .i64 (st + f)) big ++ (nb4 (IntKind.wrap .i64 (st + t)) big ++ txB n) = _
   rw [wrapI (by omega) (by omega), wrapI (by omega) (by omega)]
  obtain ⟨w1, w2, w3, w4⟩ := dat_walk (b := nb4 (st + f) big ++ (nb4 (st + t) big ++ txB n)) (j := 2) h (by omega) (by omega) (by rw [List.length_append, List.length_append, nb4_len, nb4_len, txB_len hn]; rfl)
  obtain ⟨w5, _⟩ := dat_time (t := st + f) (r := nb4 (st + t) big ++ txB n) (j := 2) h rfl (by omega) f1
  simp only [List.map_cons, eb]
  refine Seg.one (S := []) (L := [.a [.i f, .i t, .s n]]) (T := []) ⟨?_, fun rest SS LS TS => ?_⟩ (seg_laps h0 (w4 _ _ _ _ h) fun x hx => hl x (by simp [hx]))
  ·rw [errsA_cons w1]; rfl
  ·have hv := vals_lap (big := big) (f := st + f) (t := st + t) hz hn (by omega) f1 (by omega) t1
   have e : dataA a [datD 2 (nb4 (st + f) big ++ (nb4 (st + t) big ++ txB n))] = [(19, st + f, [mkV 253 0 (st + f, [], false), mkV 1 0 (st + t, [], false), mkV 2 2 (0, n, n == [])])] := by
    show [(a.gl (sX (datD 2 (nb4 (st + f) big ++ (nb4 (st + t) big ++ txB n)))).toNat, timeE a (datD 2 (nb4 (st + f) big ++ (nb4 (st + t) big ++ txB n))), valsX a (datD 2 (nb4 (st + f) big ++ (nb4 (st + t) big ++ txB n))))] = _
    rw [w3, w5, w2, hv]
   rw [e]
   show (bif (bif true then decide (st + f ≥ 0) else false) then actR st rest SS (LS ++ [.a [.i (IntKind.wrap .i64 (st + f - st)), .i (IntKind.wrap .i64 (st + t - st)), .s n]]) TS else none) = _
   rw [decide_eq_true (show st + f ≥ 0 by omega), show st + f - st = f by omega, show st + t - st = t by omega, wrapI (x := f) (by omega) (by omega), wrapI (x := t) (by omega) (by omega)]
   simp
theorem act_smp {st t : Int} {vs rest SS LS TS : List D} {r : List Tri} {x : D} (h : smpOk t vs = true) (hd : smpD t st vs = x) : actR st ((20, t, vs) :: r) SS LS TS = actR st r (SS ++ [x]) LS TS := by
 show (bif smpOk t vs then actR st r (SS ++ [smpD t st vs]) LS TS else none) = _
 rw [h, hd]; rfl
theorem seg_smps (h0 : 0 ≤ st) (W : Bool) : ∀ {ss : List D} {prev : Option Int} {a : Ab}, Sl a 1 20 fs1 big → (∀ p, prev = some p → 0 ≤ p ∧ a.last = st + p) → Inc prev ss → (∀ s ∈ ss, SmpG st s) → Seg st a (smpsF W big st prev ss) ss [] []
 | [], _, _, _, _, _, _ => Seg.nil
 | s :: ss, prev, a, h, hp, hi, hs => by
  obtain ⟨t, x, y, z, p, w, k, rfl, t0, t1, hr⟩ := hs s (by simp)
  have et : tmA st (.a [.i t, .i x, .i y, .i z, .i p, .i w, .i k]) = st + t := wrapI (by show -9223372036854775808 ≤ st + t; omega) (by show st + t ≤ 9223372036854775807; omega)
  have er : resB big (.a [.i t, .i x, .i y, .i z, .i p, .i w, .i k]) = resV big x y z p w k := rfl
  have hlen : (resV big x y z p w k).length = 18 := by unfold resV; simp [nb4_len, nb2_len]
  have hi1 := hi.1
  have fin : ∀ (e : D) (pre : List D), (pre = [] ∨ ∃ u, pre = [mkV 253 0 (u, [], false)]) → kX e ≠ 1 → errE a e = 0 → a.gl (sX e).toNat = 20 → timeE a e = st + t → valsX a e = pre ++ smpV x y z p w k → Sl (stepA a e) 1 20 fs1 big → (stepA a e).last = st + t → smpF W big st prev (.a [.i t, .i x, .i y, .i z, .i p, .i w, .i k]) = e →
    Seg st a (smpsF W big st prev (.a [.i t, .i x, .i y, .i z, .i p, .i w, .i k] :: ss)) (.a [.i t, .i x, .i y, .i z, .i p, .i w, .i k] :: ss) [] [] := by
   intro e pre hpre hk1 he hg htm hv hsl hlast hsm
   simp only [smpsF, hsm]
   refine Seg.one (S := [.a [.i t, .i x, .i y, .i z, .i p, .i w, .i k]]) (L := []) (T := []) ⟨?_, fun rest SS LS TS => ?_⟩ (seg_smps h0 W hsl (fun q hq => by cases hq; exact ⟨t0, hlast⟩) hi.2 fun x hx => hs x (by simp [hx]))
   ·rw [errsA_cons he]; rfl
   ·have e' : dataA a [e] = [(20, st + t, pre ++ smpV x y z p w k)] := by
     simp only [dataA, (not1 hk1).1, _root_.cond_false, hg, htm, hv]
    obtain ⟨o1, o2⟩ := smp_of (t := st + t) (st := st) hpre hr (by omega) (by omega) (by omega)
    rw [e']
    refine (act_smp (rest := []) o1 o2).trans ?_
    rw [show st + t - st = t by omega]
    simp
  have hlong : smpF W big st prev (.a [.i t, .i x, .i y, .i z, .i p, .i w, .i k]) = datD 1 (nb4 (st + t) big ++ resV big x y z p w k) → Seg st a (smpsF W big st prev (.a [.i t, .i x, .i y, .i z, .i p, .i w, .i k] :: ss)) (.a [.i t, .i x, .i y, .i z, .i p, .i w, .i k] :: ss) [] [] := by
   intro hsm
   obtain ⟨w1, w2, w3, w4⟩ := dat_walk (b := nb4 (st + t) big ++ resV big x y z p w k) (j := 1) h (by omega) (by omega) (by rw [List.length_append, nb4_len, hlen]; rfl)
   obtain ⟨w5, w6⟩ := dat_time (t := st + t) (r := resV big x y z p w k) (j := 1) h rfl (by omega) t1
   exact fin _ [mkV 253 0 (st + t, [], false)] (.inr ⟨_, rfl⟩) (by show (2 : Int) ≠ 1; decide) w1 w3 w5 (by rw [w2, vals_long (by omega) t1 hr]; rfl) (w4 _ _ _ _ h) w6 hsm
  cases hc : (!W && shortP prev (.a [.i t, .i x, .i y, .i z, .i p, .i w, .i k])) with
  | false =>
   apply hlong
   unfold smpF
   rw [hc, et, er]; rfl
  | true =>
   simp only [Bool.and_eq_true] at hc
   cases prev with
   | none => exact absurd hc.2 (by simp [shortP])
   | some q =>
    obtain ⟨q0, ql⟩ := hp q rfl
    have hq := hi1 q rfl
    have hq : q < t := hq
    have hsh := hc.2
    have hsh : decide (IntKind.wrap .i64 (t - q) < 32) = true := hsh
    rw [wrapI (by omega) (by omega)] at hsh
    simp only [decide_eq_true_eq] at hsh
    obtain ⟨w1, w2, w3, w4, w5, w6⟩ := sho_walk (t := st + t) (tp := st + q) (b := resV big x y z p w k) h hlen ql (by omega) (by omega) (by omega)
    refine fin (shoD ((st + t).tmod 32) (resV big x y z p w k)) [] (.inl rfl) (by show (3 : Int) ≠ 1; decide) w1 w3 w4 (by rw [w2, vals_rest hr]; rfl) (w6 _ _ _ _ h) w5 ?_
    unfold smpF
    rw [et, er, show (!W && shortP (some q) (.a [.i t, .i x, .i y, .i z, .i p, .i w, .i k])) = true by rw [hc.1, hc.2]; rfl]
    rfl
/-- The short samples made wide. -/
theorem wd_smps (h0 : 0 ≤ st) : ∀ {ss : List D} {prev : Option Int} {a : Ab}, Sl a 1 20 fs1 big → (∀ p, prev = some p → 0 ≤ p ∧ a.last = st + p) → Inc prev ss → (∀ s ∈ ss, SmpG st s) → WdL a (smpsF false big st prev ss) (smpsF true big st prev ss) ∧ lateA a (smpsF false big st prev ss) = false
 | [], _, _, _, _, _, _ => ⟨trivial, rfl⟩
 | s :: ss, prev, a, h, hp, hi, hs => by
  obtain ⟨t, x, y, z, p, w, k, rfl, t0, t1, hr⟩ := hs s (by simp)
  have et : tmA st (.a [.i t, .i x, .i y, .i z, .i p, .i w, .i k]) = st + t := wrapI (by show -9223372036854775808 ≤ st + t; omega) (by show st + t ≤ 9223372036854775807; omega)
  have er : resB big (.a [.i t, .i x, .i y, .i z, .i p, .i w, .i k]) = resV big x y z p w k := rfl
  have hlen : (resV big x y z p w k).length = 18 := by unfold resV; simp [nb4_len, nb2_len]
  have hi1 := hi.1
  have hW : smpF true big st prev (.a [.i t, .i x, .i y, .i z, .i p, .i w, .i k]) = datD 1 (nb4 (st + t) big ++ resV big x y z p w k) := by
   unfold smpF; rw [et, er]; rfl
  obtain ⟨d1, d2, d3, d4⟩ := dat_walk (b := nb4 (st + t) big ++ resV big x y z p w k) (j := 1) h (by omega) (by omega) (by rw [List.length_append, nb4_len, hlen]; rfl)
  obtain ⟨d5, d6⟩ := dat_time (t := st + t) (r := resV big x y z p w k) (j := 1) h rfl (by omega) t1
  simp only [smpsF, hW]
  cases hc : shortP prev (.a [.i t, .i x, .i y, .i z, .i p, .i w, .i k]) with
  | false =>
   have hS : smpF false big st prev (.a [.i t, .i x, .i y, .i z, .i p, .i w, .i k]) = datD 1 (nb4 (st + t) big ++ resV big x y z p w k) := by
    unfold smpF; rw [hc, et, er]; rfl
   rw [hS]
   obtain ⟨i1, i2⟩ := wd_smps h0 (d4 _ _ _ _ h) (fun q hq => by cases hq; exact ⟨t0, d6⟩) hi.2 fun x hx => hs x (by simp [hx])
   refine ⟨⟨⟨fun _ => EqE.refl _, fun hk => absurd hk (by show (2 : Int) ≠ 3; decide)⟩, i1⟩, ?_⟩
   exact i2
  | true =>
   cases prev with
   | none => exact absurd hc (by simp [shortP])
   | some q =>
    obtain ⟨q0, ql⟩ := hp q rfl
    have hq : q < t := hi1 q rfl
    have hsh : decide (IntKind.wrap .i64 (t - q) < 32) = true := hc
    rw [wrapI (by omega) (by omega)] at hsh
    simp only [decide_eq_true_eq] at hsh
    obtain ⟨w1, w2, w3, w4, w5, w6⟩ := sho_walk (t := st + t) (tp := st + q) (b := resV big x y z p w k) h hlen ql (by omega) (by omega) (by omega)
    have hS : smpF false big st (some q) (.a [.i t, .i x, .i y, .i z, .i p, .i w, .i k]) = shoD ((st + t).tmod 32) (resV big x y z p w k) := by
     unfold smpF; rw [hc, et, er]; rfl
    rw [hS]
    obtain ⟨i1, i2⟩ := wd_smps h0 (w6 _ _ _ _ h) (fun q hq => by cases hq; exact ⟨t0, w5⟩) hi.2 fun x hx => hs x (by simp [hx])
    refine ⟨⟨⟨fun hk => absurd rfl hk, fun _ => ⟨by rw [w4]; exact t1, rfl, rfl, rfl, rfl, ?_⟩⟩, i1⟩, ?_⟩
    ·unfold wideB
     rw [w4]
     show nb4 (st + t) big ++ resV big x y z p w k = (resV big x y z p w k).take (tmL 0 (a.fs 1)).toNat ++ nb4 (st + t) (a.bg 1) ++ (resV big x y z p w k).drop (tmL 0 (a.fs 1)).toNat
     rw [h.fl, h.bg]
     rfl
    ·simp only [lateA, w4]
     rw [decide_eq_false (show ¬ st + t > 4294967294 by omega), Bool.and_false]
     exact i2
end
end Go.Proofs.Ytnnofignhdijiaa

/-! Plain laws: the file of an activity, whole. -/
namespace Go.Proofs.Ytnnofignhdijiaa
open Go Go.AM
set_option maxRecDepth 100000
set_option maxHeartbeats 4000000
set_option linter.unusedVariables false
variable {N : Nat}
structure ActG (name : List UInt8) (sport st : Int) (ss ls ts : List D) : Prop where
 nm : name ≠ [] ∧ name.length ≤ 60 ∧ ∀ c ∈ name, c ≠ 0
 sp : 1 ≤ sport ∧ sport ≤ 5
 b0 : 0 ≤ st
 b1 : st ≤ 4294967294
 s : ss.length ≤ 20000
 l : ls.length ≤ 200
 t : ts.length ≤ 20
 sg : ∀ x ∈ ss, SmpG st x
 lg : ∀ x ∈ ls, LapG st x
 tg : ∀ x ∈ ts, TagG x
 inc : Inc none ss
section
variable {name : List UInt8} {sport st : Int} {ss ls ts : List D} {big : Bool}
theorem ActG.filOk (h : ActG name sport st ss ls ts) : FilOk name sport st ss ls ts := by
 have h0 := h.b0
 refine ⟨h.nm.2.1, by have := h.sp; omega, h.b0, h.b1, h.s, h.l, h.t, fun x hx => ?_, fun x hx => ?_, fun x hx => ?_⟩
 ·obtain ⟨t, x, y, z, p, w, k, rfl, t0, t1, hr⟩ := h.sg x hx
  refine ⟨?_, hr.p.1, hr.w.1, hr.k.1⟩
  show 0 ≤ IntKind.wrap .i64 (st + t)
  rw [wrapI (by omega) (by omega)]; omega
 ·obtain ⟨f, t, n, rfl, f0, t0, f1, t1, hn, hz⟩ := h.lg x hx
  refine ⟨?_, ?_, hn⟩
  ·show 0 ≤ IntKind.wrap .i64 (st + f)
   rw [wrapI (by omega) (by omega)]; omega
  ·show 0 ≤ IntKind.wrap .i64 (st + t)
   rw [wrapI (by omega) (by omega)]; omega
 ·obtain ⟨s, rfl, _, hl, _⟩ := h.tg x hx
  exact hl
def segT (big : Bool) (ts : List D) : List D := ifE ts (defD 3 30 fs3 big) ++ ts.map (fun t => datD 3 (txB t.toS))
def segL (big : Bool) (st : Int) (ls : List D) : List D := ifE ls (defD 2 19 fs2 big) ++ ls.map (fun l => datD 2 (lapB big st l))
def segS (W big : Bool) (st : Int) (ss : List D) : List D := ifE ss (defD 1 20 fs1 big) ++ smpsF W big st none ss
def hd0 (big : Bool) (name : List UInt8) (sport st : Int) : List D := [defD 0 0 fs0 big, datD 0 (nb4 st big ++ (txB name ++ nb1 sport))]
theorem filF_eq (W : Bool) : filF W name sport st ss ls ts big = hd0 big name sport st ++ (segT big ts ++ (segL big st ls ++ segS W big st ss)) := by
 unfold filF segT segL segS hd0
 simp only [List.append_assoc]
theorem seg_T {a : Ab} (h : ∀ t ∈ ts, TagG t) : Seg st a (segT big ts) [] [] ts := by
 unfold segT ifE
 cases ts with
 | nil => exact Seg.nil
 | cons t r =>
  rw [decide_eq_true (by simp)]
  have := Seg.app (Seg.def (st := st) (a := a) (j := 3) (g := 30) (f := fs3) (big := big) (by omega) (by omega) rfl) (seg_tags (st := st) (def_walk (a := a) (j := 3) (g := 30) (f := fs3) (big := big) (by omega) (by omega) rfl).2 h)
  simpa using this
theorem seg_L {a : Ab} (h0 : 0 ≤ st) (h : ∀ l ∈ ls, LapG st l) : Seg st a (segL big st ls) [] ls [] := by
 unfold segL ifE
 cases ls with
 | nil => exact Seg.nil
 | cons t r =>
  rw [decide_eq_true (by simp)]
  have := Seg.app (Seg.def (st := st) (a := a) (j := 2) (g := 19) (f := fs2) (big := big) (by omega) (by omega) rfl) (seg_laps (st := st) h0 (def_walk (a := a) (j := 2) (g := 19) (f := fs2) (big := big) (by omega) (by omega) rfl).2 h)
  simpa using this
theorem seg_S {a : Ab} (W : Bool) (h0 : 0 ≤ st) (hi : Inc none ss) (h : ∀ s ∈ ss, SmpG st s) : Seg st a (segS W big st ss) ss [] [] := by
 unfold segS ifE
 cases ss with
 | nil => exact Seg.nil
 | cons t r =>
  rw [decide_eq_true (by simp)]
  have := Seg.app (Seg.def (st := st) (a := a) (j := 1) (g := 20) (f := fs1) (big := big) (by omega) (by omega) rfl) (seg_smps (st := st) h0 W (def_walk (a := a) (j := 1) (g := 20) (f := fs1) (big := big) (by omega) (by omega) rfl).2 (fun p hp => by cases hp) hi h)
  simpa using this
/-- The head: the activity's own data. -/
theorem hd_walk (h : ActG name sport st ss ls ts) (rest : List D) : errsA Ab.start (hd0 big name sport st) = 0 ∧ dataA Ab.start (hd0 big name sport st) = [(0, st, [mkV 253 0 (st, [], false), mkV 1 2 (0, name, name == []), mkV 2 0 (sport, [], false)])] := by
 obtain ⟨n1, n2, n3⟩ := h.nm
 obtain ⟨d1, d2⟩ := def_walk (a := Ab.start) (j := 0) (g := 0) (f := fs0) (big := big) (by omega) (by omega) rfl
 obtain ⟨w1, w2, w3, w4⟩ := dat_walk (b := nb4 st big ++ (txB name ++ nb1 sport)) (j := 0) d2 (by omega) (by omega) (by rw [List.length_append, List.length_append, nb4_len, txB_len n2]; rfl)
 obtain ⟨w5, _⟩ := dat_time (t := st) (r := txB name ++ nb1 sport) (j := 0) d2 rfl h.b0 h.b1
 have hv := vals_head (big := big) n3 n2 h.b0 h.b1 (by have := h.sp; omega) (by have := h.sp; omega : sport ≤ 254)
 unfold hd0
 constructor
 ·rw [errsA_cons d1, errsA_cons w1]; rfl
 ·show [((stepA Ab.start (defD 0 0 fs0 big)).gl (sX (datD 0 (nb4 st big ++ (txB name ++ nb1 sport)))).toNat, timeE (stepA Ab.start (defD 0 0 fs0 big)) (datD 0 (nb4 st big ++ (txB name ++ nb1 sport))), valsX (stepA Ab.start (defD 0 0 fs0 big)) (datD 0 (nb4 st big ++ (txB name ++ nb1 sport))))] = _
  rw [w3, w5, w2, hv]
theorem smpsF_len {W : Bool} : ∀ {ss : List D} {prev : Option Int}, (smpsF W big st prev ss).length = ss.length
 | [], _ => rfl
 | s :: r, prev => by simp [smpsF, smpsF_len (ss := r)]
theorem ifE_len {xs : List D} {d : D} : (ifE xs d).length ≤ 1 := by unfold ifE; cases decide ((xs.length : Int) > 0) <;> simp
theorem filF_len (h : ActG name sport st ss ls ts) (W : Bool) : (filF W name sport st ss ls ts big).length ≤ 50000 := by
 have h1 := h.s
 have h2 := h.l
 have h3 := h.t
 have e1 := ifE_len (xs := ts) (d := defD 3 30 fs3 big)
 have e2 := ifE_len (xs := ls) (d := defD 2 19 fs2 big)
 have e3 := ifE_len (xs := ss) (d := defD 1 20 fs1 big)
 unfold filF
 simp only [List.length_append, List.length_map, smpsF_len, List.length_cons, List.length_nil]
 omega
theorem filF_walk (h : ActG name sport st ss ls ts) (W : Bool) : errsA Ab.start (filF W name sport st ss ls ts big) = 0 ∧ headA (dataA Ab.start (filF W name sport st ss ls ts big)) = some (name, sport, st, true) ∧ actR st (dataA Ab.start (filF W name sport st ss ls ts big)) [] [] [] = some (ss, ls, ts) := by
 obtain ⟨e1, e2⟩ := hd_walk (big := big) h []
 have s1 := seg_T (st := st) (big := big) (a := aft Ab.start (hd0 big name sport st)) h.tg
 have s2 := seg_L (big := big) (a := aft (aft Ab.start (hd0 big name sport st)) (segT big ts)) h.b0 h.lg
 have s3 := seg_S (big := big) (a := aft (aft (aft Ab.start (hd0 big name sport st)) (segT big ts)) (segL big st ls)) W h.b0 h.inc h.sg
 have s := Seg.app s1 (Seg.app s2 s3)
 rw [filF_eq]
 refine ⟨?_, ?_, ?_⟩
 ·rw [errsA_app e1]; exact s.e
 ·rw [dataA_app, e2]
  show headA ((0, st, _) :: _) = _
  rw [headA_cons]
  rfl
 ·rw [dataA_app, e2]
  have q := s.f [] [] [] []
  rw [List.append_nil] at q
  show actR st (dataA _ _) [] [] [] = _
  rw [q]
  simp [actR]
theorem filF_fileE (h : ActG name sport st ss ls ts) (W : Bool) : fileE (filF W name sport st ss ls ts big) = 0 := by
 unfold fileE
 have := filF_len (big := big) h W
 rw [decide_eq_false (by omega), (filF_walk h W).1]; rfl
theorem filF_act (h : ActG name sport st ss ls ts) (hc : chkA name sport st ss ls ts = 0) (W : Bool) : actF (filF W name sport st ss ls ts big) = (name, sport, st, ss, ls, ts, 0) := by
 obtain ⟨_, w1, w2⟩ := filF_walk (big := big) h W
 unfold actF
 rw [filF_fileE h W, w1]
 show (bif badH (name, sport, st, true) then errT 4 else match actR st (dataA Ab.start (filF W name sport st ss ls ts big)) [] [] [] with | none => errT 2 | some r => _) = _
 have hb : badH (name, sport, st, true) = false := by
  unfold badH
  have hn : (name == []) = false := by rw [beq_eq_false_iff_ne]; exact h.nm.1
  show (bif (bif !true then true else name == []) then true else decide (st < 0)) = false
  rw [hn, decide_eq_false (by have := h.b0; omega)]; rfl
 rw [hb, w2]
 show (bif chkA name sport st ss ls ts != 0 then _ else (name, sport, st, ss, ls, ts, 0)) = _
 rw [hc]; rfl
/-! ### Made wide -/
theorem no3_tags {xs : List D} : ∀ x ∈ ifE xs (defD 3 30 fs3 big) ++ xs.map (fun t => datD 3 (txB t.toS)), kX x ≠ 3 := by
 intro x hx
 rcases List.mem_append.1 hx with hx | hx
 ·unfold ifE at hx
  cases hd : decide ((xs.length : Int) > 0) with
  | true =>
   rw [hd] at hx
   have h2 : x = defD 3 30 fs3 big := by simpa using hx
   subst h2; show (1 : Int) ≠ 3; decide
  | false => rw [hd] at hx; simp at hx
 ·obtain ⟨t, _, rfl⟩ := List.mem_map.1 hx
  show (2 : Int) ≠ 3; decide
theorem no3_laps {xs : List D} : ∀ x ∈ ifE xs (defD 2 19 fs2 big) ++ xs.map (fun l => datD 2 (lapB big st l)), kX x ≠ 3 := by
 intro x hx
 rcases List.mem_append.1 hx with hx | hx
 ·unfold ifE at hx
  cases hd : decide ((xs.length : Int) > 0) with
  | true =>
   rw [hd] at hx
   have h2 : x = defD 2 19 fs2 big := by simpa using hx
   subst h2; show (1 : Int) ≠ 3; decide
  | false => rw [hd] at hx; simp at hx
 ·obtain ⟨t, _, rfl⟩ := List.mem_map.1 hx
  show (2 : Int) ≠ 3; decide
theorem no3_hd : ∀ x ∈ hd0 big name sport st, kX x ≠ 3 := by
 intro x hx
 unfold hd0 at hx
 simp only [List.mem_cons, List.not_mem_nil, or_false] at hx
 rcases hx with rfl | rfl
 ·show (1 : Int) ≠ 3; decide
 ·show (2 : Int) ≠ 3; decide
theorem wd_S {a : Ab} (h0 : 0 ≤ st) (hi : Inc none ss) (h : ∀ s ∈ ss, SmpG st s) : WdL a (segS false big st ss) (segS true big st ss) ∧ lateA a (segS false big st ss) = false := by
 unfold segS ifE
 cases ss with
 | nil => exact ⟨trivial, rfl⟩
 | cons t r =>
  rw [decide_eq_true (by simp)]
  obtain ⟨w1, w2⟩ := wd_smps (st := st) (big := big) h0 (def_walk (a := a) (j := 1) (g := 20) (f := fs1) (big := big) (by omega) (by omega) rfl).2 (fun p hp => by cases hp) hi h
  exact ⟨⟨⟨fun _ => EqE.refl _, fun hk => absurd hk (by show (1 : Int) ≠ 3; decide)⟩, w1⟩, w2⟩
theorem filF_wide (h : ActG name sport st ss ls ts) : WdL Ab.start (filF false name sport st ss ls ts big) (filF true name sport st ss ls ts big) ∧ lateA Ab.start (filF false name sport st ss ls ts big) = false := by
 rw [filF_eq, filF_eq]
 obtain ⟨w1, w2⟩ := wd_S (big := big) (a := aft (aft (aft Ab.start (hd0 big name sport st)) (segT big ts)) (segL big st ls)) h.b0 h.inc h.sg
 refine ⟨WdL_app (WdL_refl no3_hd) (WdL_app (WdL_refl no3_tags) (WdL_app (WdL_refl no3_laps) w1)), ?_⟩
 rw [lateA_app (lateA_no no3_hd), lateA_app (lateA_no (by exact no3_tags)), lateA_app (lateA_no (by exact no3_laps))]
 exact w2
theorem dataA_eqE : ∀ {xs ys : List D} {a : Ab}, All2 EqE xs ys → dataA a xs = dataA a ys ∧ errsA a xs = errsA a ys
 | [], [], _, _ => ⟨rfl, rfl⟩
 | x :: r, y :: s, a, h => by
  have hk := h.1.k
  have hs := h.1.s
  have hb := h.1.b
  obtain ⟨i1, i2⟩ := dataA_eqE (a := stepA a x) h.2
  have ev : valsX a x = valsX a y := by unfold valsX; rw [hk, hs, hb]
  have et : timeE a x = timeE a y := h.1.time a
  constructor
  ·simp only [dataA]
   rw [i1, ← h.1.step a, ev, et, hk, hs]
  ·simp only [errsA]
   rw [i2, ← h.1.step a, h.1.err a]
 | [], _ :: _, _, h => h.elim
 | _ :: _, [], _, h => h.elim
theorem actF_eqE {xs ys : List D} (h : All2 EqE xs ys) : actF xs = actF ys := by
 have hl := AM.All2.length h
 obtain ⟨h1, h2⟩ := dataA_eqE (a := Ab.start) h
 have hf : fileE xs = fileE ys := by unfold fileE; rw [hl, h2]
 unfold actF
 rw [hf, h1]
end
section
variable {es : List D}
theorem widen_prog (hN : maxLen < N) (hes : ∀ x ∈ es, EntT x) (hz : fileE es = 0) (hlate : lateA Ab.start es = false) : ∃ b xs, G31x0 N es = some (b, xs, 0) ∧ WdL Ab.start es xs := by
 have hm : maxLen = 9223372036854775807 := rfl
 have hed : ∀ x ∈ es, EntD x := fun x hx => (hes x hx).entD
 obtain ⟨c1, _⟩ := check_fileA (N := N) hN hed
 obtain ⟨hel, he⟩ := fileE_ok hz
 obtain ⟨ob, o, q78, hoe⟩ := clone_loop (N := N) hN hes hel he
 obtain ⟨o', w1, w2⟩ := widen_loopP (N := N) hN hed hel N 0 (V70x0 N) zeroS Ab.start o OkA.start (by omega) (by omega) (by omega) start70 (by simpa using he) (AM.All2.length hoe).symm (by simpa using hoe)
 have y1 : G31x0x21 N es es.length 0 o (V70x0 N) = _ := w1
 have e0 : es.drop (0 : Int).toNat = es := rfl
 rw [e0] at y1 w2
 rw [hlate] at y1 w2
 obtain ⟨v1, v2, v3⟩ := w2 rfl
 rw [show o'.drop (0 : Int).toNat = o' from rfl] at v3
 have k : ∃ b, G31x0 N es = some (b, o', 0) := by
  unfold G31x0 F31x0
  rw [c1, hz]
  simp only [bnd_eq, Option.isSome_some, _root_.cond_true, getD_some]
  rw [show ((0 : Int) != 0) = false from rfl]
  simp only [_root_.cond_false, q78, Option.isSome_some, getD_some, _root_.cond_true, y1]
  exact ⟨_, rfl⟩
 obtain ⟨b, k⟩ := k
 exact ⟨b, o', k, v3⟩
end
end Go.Proofs.Ytnnofignhdijiaa

