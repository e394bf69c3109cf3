/- A part of a proof of a law: lemmas. Conditions: those of each lemma. -/
import Derived.Test.YtmhaghcfopdifaaGreatDoorARp1
import Derived.KernelRfl
import Derived.Test.YtmhaghcfopdifaaGreatDoorCards
import Derived.Test.YtmhaghcfopdifaaGreatDoorTie
import Derived.Deep.DeepHandedRow
import Derived.ProofKit
set_option linter.all false
set_option maxRecDepth 100000
namespace Go.Proofs.YtmhaghcfopdifaaGreatDoor
open Go Go.AM
set_option maxRecDepth 100000
set_option maxHeartbeats 4000000
variable {N : Nat}
def ltr (n : Int) : Bool := decide (97 ≤ n ∧ n ≤ 122 ∨ 65 ≤ n ∧ n ≤ 90 ∨ 48 ≤ n ∧ n ≤ 57 ∨ n = 45 ∨ n = 95 ∨ n = 46)
def nameB (s : List UInt8) : Bool := s.all (fun c => ltr (c.toNat : Int)) && decide (1 ≤ s.length ∧ s.length ≤ 60)
def titleB (s : List UInt8) : Bool := s.all (fun c => decide (32 ≤ (c.toNat : Int) ∧ (c.toNat : Int) ≤ 126)) && decide (s.length ≤ 60)
def inI (n a b : Int) : Bool := decide (a ≤ n ∧ n ≤ b)
theorem G118x0x6_eq (hN : maxLen < N) {s : List UInt8} (hs : s.length ≤ maxLen) : G118x0x6 N s 0 = some (bif s.all (fun c => ltr (c.toNat : Int)) then .inr () else .inl ()) := by
 unfold G118x0x6
 refine (for_ind (0 : UInt8) (S := fun w kr => S118x0x6 N s w kr _ _) (L := fun m w => L118x0x6 N s m w _ _) (fun m w => rfl) (fun _ l => some (bif l.all (fun c => ltr (c.toNat : Int)) then .inr () else .inl ())) hs ?_ ?_ hN).trans rfl
 ·intro kr; simp [S118x0x6]
 ·intro w kr h0 h1 hw hi hk
  simp only [S118x0x6, decide_eq_true h1, _root_.cond_true, hi, bnd_eq, hw, hk, List.all_cons]
  generalize ((s.getD w.toNat 0).toNat : Int) = n
  refine (cond_congr (c' := !ltr n) ?_).trans ?_
  ·rw [Bool.eq_iff_iff]; simp [ltr]; omega
  ·cases ltr n <;> rfl
theorem G118x0_eq (hN : maxLen < N) {s : List UInt8} (hs : s.length ≤ maxLen) : G118x0 N s = some (nameB s) := by
 unfold G118x0 F118x0
 rw [G118x0x6_eq hN hs]
 unfold nameB
 cases s.all (fun c => ltr (c.toNat : Int)) with
 | false => rfl
 | true =>
  simp only [bnd_eq, inlB_inr, inrQ_inr, _root_.cond_true, _root_.cond_false, Option.isSome_some, Bool.true_and]
  congr 1
  rw [Bool.eq_iff_iff]; simp; omega
theorem G117x0x6_eq (hN : maxLen < N) {s : List UInt8} (hs : s.length ≤ maxLen) : G117x0x6 N s.length s 0 = some (bif s.all (fun c => ltr (c.toNat : Int)) then .inr () else .inl ()) := by
 unfold G117x0x6
 refine (for_ind (0 : UInt8) (S := fun w kr => S117x0x6 N s.length s w kr _ _) (L := fun m w => L117x0x6 N s.length s m w _ _) (fun m w => rfl) (fun _ l => some (bif l.all (fun c => ltr (c.toNat : Int)) then .inr () else .inl ())) hs ?_ ?_ hN).trans rfl
 ·intro kr; simp [S117x0x6]
 ·intro w kr h0 h1 hw hi hk
  simp only [S117x0x6, decide_eq_true h1, _root_.cond_true, hi, bnd_eq, hw, hk, List.all_cons, V117x0x19, F117x0x19, V210x0, F210x0]
  generalize ((s.getD w.toNat 0).toNat : Int) = n
  refine (cond_congr (c' := !ltr n) ?_).trans ?_
  ·rw [Bool.eq_iff_iff]; simp [ltr]; omega
  ·cases ltr n <;> rfl
theorem G117x0_eq (hN : maxLen < N) {s : List UInt8} (hs : s.length ≤ maxLen) : G117x0 N s = some (nameB s) := by
 unfold G117x0 F117x0
 rw [G117x0x6_eq hN hs]
 unfold nameB
 cases s.all (fun c => ltr (c.toNat : Int)) with
 | false => rfl
 | true =>
  simp only [bnd_eq, inlB_inr, inrQ_inr, _root_.cond_true, _root_.cond_false, Option.isSome_some, Bool.true_and]
  congr 1
  rw [Bool.eq_iff_iff]; simp; omega
theorem V200x0_eq (n a b : Int) : V200x0 N n a b = inI n a b := by
 unfold V200x0 F200x0 inI
 rw [Bool.eq_iff_iff]; simp
theorem V205x0_eq (n a b : Int) : V205x0 N n a b = !inI n a b := by
 unfold V205x0 F205x0 inI
 rw [Bool.eq_iff_iff]; simp <;> omega
theorem wrapByte (c : UInt8) : IntKind.wrap .i64 (c.toNat : Int) = c.toNat := wrapI (by omega) (by have := c.toNat_lt; omega)
theorem G202x0_eq (hN : maxLen < N) {s : List UInt8} (hs : s.length ≤ maxLen) : G202x0 N s = some (titleB s) := by
 have h : G202x0x6 N s.length s 0 = some (bif s.all (fun c => decide (32 ≤ (c.toNat : Int) ∧ (c.toNat : Int) ≤ 126)) then .inr () else .inl ()) := by
  unfold G202x0x6
  refine (for_ind (0 : UInt8) (S := fun w kr => S202x0x6 N s.length s w kr _ _) (L := fun m w => L202x0x6 N s.length s m w _ _) (fun m w => rfl) (fun _ l => some (bif l.all (fun c => decide (32 ≤ (c.toNat : Int) ∧ (c.toNat : Int) ≤ 126)) then .inr () else .inl ())) hs ?_ ?_ hN).trans rfl
  ·intro kr; simp [S202x0x6]
  ·intro w kr h0 h1 hw hi hk
   simp only [S202x0x6, decide_eq_true h1, _root_.cond_true, hi, bnd_eq, hw, hk, List.all_cons, wrapByte, V200x0_eq, inI]
   cases decide (32 ≤ ((s.getD w.toNat 0).toNat : Int) ∧ ((s.getD w.toNat 0).toNat : Int) ≤ 126) <;> rfl
 unfold G202x0 F202x0
 rw [h]
 unfold titleB
 cases s.all (fun c => decide (32 ≤ (c.toNat : Int) ∧ (c.toNat : Int) ≤ 126)) with
 | false => rfl
 | true =>
  simp only [bnd_eq, inlB_inr, inrQ_inr, _root_.cond_true, _root_.cond_false, Option.isSome_some, Bool.true_and]
  congr 1
  rw [Bool.eq_iff_iff]; simp; omega
theorem G207x0x21_eq (hN : maxLen < N) {s : List UInt8} (hs : s.length ≤ maxLen) : G207x0x21 N s 0 = some (bif s.all (fun c => decide (32 ≤ (c.toNat : Int) ∧ (c.toNat : Int) ≤ 126)) then .inr () else .inl ()) := by
 unfold G207x0x21
 refine (for_ind (0 : UInt8) (S := fun w kr => S207x0x21 N s w kr _ _) (L := fun m w => L207x0x21 N s m w _ _) (fun m w => rfl) (fun _ l => some (bif l.all (fun c => decide (32 ≤ (c.toNat : Int) ∧ (c.toNat : Int) ≤ 126)) then .inr () else .inl ())) hs ?_ ?_ hN).trans rfl
 ·intro kr; simp [S207x0x21]
 ·intro w kr h0 h1 hw hi hk
  simp only [S207x0x21, decide_eq_true h1, _root_.cond_true, hi, bnd_eq, hw, hk, List.all_cons, wrapByte, V205x0_eq, inI]
  cases decide (32 ≤ ((s.getD w.toNat 0).toNat : Int) ∧ ((s.getD w.toNat 0).toNat : Int) ≤ 126) <;> rfl
def firstE (e : Int → Int) : Int → List D → Int
 | _, [] => 0
 | w, _ :: r => bif e w != 0 then e w else firstE e (w + 1) r
def wayE (n : Int) : Sum Int Unit := bif n != 0 then .inl n else .inr ()
theorem wayE_cons {e : Int → Int} {w : Int} {x : D} {l : List D} : wayE (firstE e w (x :: l)) = bif e w != 0 then .inl (e w) else wayE (firstE e (w + 1) l) := by
 simp only [firstE]
 cases h : e w != 0 with
 | true => simp only [_root_.cond_true, wayE, h]
 | false => rfl
def ordE (xs : List D) (w : Int) : Bool := bif w == 0 then ((xs.getD w.toNat (.i 0)).cell 0).toI != 0 else decide (((xs.getD w.toNat (.i 0)).cell 0).toI ≤ ((xs.getD (w - 1).toNat (.i 0)).cell 0).toI)
def rngB (s : D) : Bool := inI (s.cell 1).toI (-100000000) 100000000 && inI (s.cell 2).toI (-100000000) 100000000 && inI (s.cell 3).toI (-100000) 100000 && inI (s.cell 4).toI (-1) 300 && inI (s.cell 5).toI (-1) 3000 && inI (s.cell 6).toI (-1) 300
def farB (start : Int) (s : D) : Bool := decide ((s.cell 0).toI > 1000000) || decide (IntKind.wrap .i64 (start + (s.cell 0).toI) > 86399999999)
def smpE (start : Int) (xs : List D) (w : Int) : Int := bif ordE xs w then 10 else bif farB start (xs.getD w.toNat (.i 0)) || !rngB (xs.getD w.toNat (.i 0)) then 9 else 0
section
variable {xs : List D} {w : Int}
theorem prev_of (h0 : 0 ≤ w) (h1 : w < xs.length) (hl : xs.length ≤ maxLen) (hp : w ≠ 0) : IntKind.wrap .i64 (w - 1) = w - 1 ∧ inB (w - 1) xs.length = true := by
 have hm : maxLen = 9223372036854775807 := rfl
 exact ⟨wrapI (by omega) (by omega), inB_of (by omega) (by omega)⟩
theorem ord13 (h0 : 0 ≤ w) (h1 : w < xs.length) (hl : xs.length ≤ maxLen) : G108x0x39002 N (bif (w == 0) then (((xs.getD w.toNat (.i 0)).cell 0).toI != 0) else false) w xs ((xs.getD w.toNat (.i 0)).cell 0).toI = some (ordE xs w) := by
 unfold G108x0x39002 F108x0x39002 G108x0x40 F108x0x40 ordE
 by_cases hw : w = 0
 ·subst hw
  rw [decide_eq_false (by omega : ¬ ((0 : Int) > 0))]
  simp only [beq_self_eq_true, _root_.cond_true]
  cases (((xs.getD (0 : Int).toNat (.i 0)).cell 0).toI != 0) <;> rfl
 ·obtain ⟨e1, e2⟩ := prev_of h0 h1 hl hw
  have : (w == 0) = false := by simpa using hw
  rw [this, decide_eq_true (by omega : w > 0), e1, e2]
  rfl
theorem ord58 (h0 : 0 ≤ w) (h1 : w < xs.length) (hl : xs.length ≤ maxLen) : G206x0x7 N w ((xs.getD w.toNat (.i 0)).cell 0).toI xs = some (ordE xs w) := by
 unfold G206x0x7 F206x0x7 ordE
 by_cases hw : w = 0
 ·subst hw
  rw [decide_eq_false (by omega : ¬ ((0 : Int) > 0))]
  simp only [beq_self_eq_true, _root_.cond_true]
  cases (((xs.getD (0 : Int).toNat (.i 0)).cell 0).toI != 0) <;> rfl
 ·obtain ⟨e1, e2⟩ := prev_of h0 h1 hl hw
  have : (w == 0) = false := by simpa using hw
  rw [this, decide_eq_true (by omega : w > 0), e1, e2]
  rfl
theorem far13 (start : Int) (s : D) : V108x0x46 N start (s.cell 0).toI (s.cell 1).toI (s.cell 2).toI (s.cell 3).toI (s.cell 4).toI (s.cell 5).toI (s.cell 6).toI = (farB start s || !rngB s) := by
 unfold V108x0x46 F108x0x46 V201x0 F201x0 V201x0x4 F201x0x4 V201x0x7 F201x0x7 farB rngB
 simp only [bnd_eq, V200x0_eq]
 cases decide ((s.cell 0).toI > 1000000) <;> cases decide (IntKind.wrap .i64 (start + (s.cell 0).toI) > 86399999999) <;> cases inI (s.cell 1).toI (-100000000) 100000000 <;> cases inI (s.cell 2).toI (-100000000) 100000000 <;> cases inI (s.cell 3).toI (-100000) 100000 <;> cases inI (s.cell 4).toI (-1) 300 <;> cases inI (s.cell 5).toI (-1) 3000 <;> cases inI (s.cell 6).toI (-1) 300 <;> rfl
theorem G108x0x30_eq (hN : maxLen < N) (start : Int) (hl : xs.length ≤ maxLen) : G108x0x30 N xs.length xs start xs 0 = some (wayE (firstE (smpE start xs) 0 xs)) := by
 unfold G108x0x30
 refine (for_ind (.i 0 : D) (S := fun w kr => S108x0x30 N xs.length xs start xs w kr _ _) (L := fun m w => L108x0x30 N xs.length xs start xs m w _ _) (fun m w => rfl) (fun w l => some (wayE (firstE (smpE start xs) w l))) hl ?_ ?_ hN).trans rfl
 ·intro kr; simp [S108x0x30, firstE, wayE]
 ·intro w kr h0 h1 hw hi hk
  simp only [S108x0x30, decide_eq_true h1, _root_.cond_true, hi, bnd_eq, hw, hk, ord13 h0 h1 hl, Option.isSome_some, getD_some, far13, wayE_cons]
  unfold smpE
  cases ordE xs w with
  | true => rfl
  | false => cases (farB start (xs.getD w.toNat (.i 0)) || !rngB (xs.getD w.toNat (.i 0))) <;> rfl
theorem G206x0_eq (start : Int) (h0 : 0 ≤ w) (h1 : w < xs.length) (hl : xs.length ≤ maxLen) : G206x0 N start xs w = some (smpE start xs w) := by
 unfold G206x0 F206x0
 rw [inB_of h0 h1, ord58 h0 h1 hl]
 unfold smpE V206x0x19 F206x0x19 V206x0x25 F206x0x25 farB rngB
 simp only [bnd_eq, _root_.cond_true, Option.isSome_some, getD_some, V205x0_eq]
 generalize xs.getD w.toNat (.i 0) = s
 cases ordE xs w <;> cases decide ((s.cell 0).toI > 1000000) <;> cases decide (IntKind.wrap .i64 (start + (s.cell 0).toI) > 86399999999) <;> cases inI (s.cell 1).toI (-100000000) 100000000 <;> cases inI (s.cell 2).toI (-100000000) 100000000 <;> cases inI (s.cell 3).toI (-100000) 100000 <;> cases inI (s.cell 4).toI (-1) 300 <;> cases inI (s.cell 5).toI (-1) 3000 <;> cases inI (s.cell 6).toI (-1) 300 <;> rfl
theorem G113x0x30_eq (hN : maxLen < N) (start : Int) (hl : xs.length ≤ maxLen) : G113x0x30 N xs.length start xs 0 = some (wayE (firstE (smpE start xs) 0 xs)) := by
 unfold G113x0x30
 refine (for_ind (.i 0 : D) (S := fun w kr => S113x0x30 N xs.length start xs w kr _ _) (L := fun m w => L113x0x30 N xs.length start xs m w _ _) (fun m w => rfl) (fun w l => some (wayE (firstE (smpE start xs) w l))) hl ?_ ?_ hN).trans rfl
 ·intro kr; simp [S113x0x30, firstE, wayE]
 ·intro w kr h0 h1 hw hi hk
  simp only [S113x0x30, decide_eq_true h1, _root_.cond_true, bnd_eq, hw, hk, G206x0_eq start h0 h1 hl, Option.isSome_some, getD_some, wayE_cons]
  cases smpE start xs w != 0 <;> rfl
def spanD (xs : List D) : Int := bif decide ((xs.length : Int) > 0) then ((xs.getD ((xs.length : Int) - 1).toNat (.i 0)).cell 0).toI else 0
theorem G111x0_eq (hl : xs.length ≤ maxLen) : G111x0 N xs = some (spanD xs) := by
 have hm : maxLen = 9223372036854775807 := rfl
 unfold G111x0 F111x0 spanD
 by_cases h : (xs.length : Int) > 0
 ·rw [decide_eq_true h, wrapI (by omega) (by omega), inB_of (by omega) (by omega)]; rfl
 ·rw [decide_eq_false h]; rfl
theorem G116x0_eq (hl : xs.length ≤ maxLen) : G116x0 N xs = some (spanD xs) := by
 have hm : maxLen = 9223372036854775807 := rfl
 unfold G116x0 F116x0 spanD
 by_cases h : (xs.length : Int) > 0
 ·have : ((xs.length : Int) == 0) = false := by simp; intro h'; subst h'; simp at h
  rw [decide_eq_true h, this, wrapI (by omega) (by omega), inB_of (by omega) (by omega)]; rfl
 ·have : ((xs.length : Int) == 0) = true := by simp; exact List.eq_nil_of_length_eq_zero (by omega)
  rw [decide_eq_false h, this]; rfl
def lapO (xs : List D) (w : Int) : Bool := bif decide (w > 0) then decide (((xs.getD w.toNat (.i 0)).cell 0).toI < ((xs.getD (w - 1).toNat (.i 0)).cell 1).toI) else false
def lapR (span : Int) (s : D) : Bool := decide ((s.cell 0).toI < 0) || decide ((s.cell 0).toI ≥ (s.cell 1).toI) || decide ((s.cell 1).toI > span)
def lapE (span : Int) (xs : List D) (w : Int) : Int := bif lapR span (xs.getD w.toNat (.i 0)) then 9 else bif lapO xs w then 10 else bif titleB ((xs.getD w.toNat (.i 0)).cell 2).toS then 0 else 8
theorem lap13 (h0 : 0 ≤ w) (h1 : w < xs.length) (hl : xs.length ≤ maxLen) : G108x0x73 N w xs ((xs.getD w.toNat (.i 0)).cell 0).toI = some (lapO xs w) := by
 unfold G108x0x73 F108x0x73 lapO
 by_cases hw : w = 0
 ·subst hw; rfl
 ·obtain ⟨e1, e2⟩ := prev_of h0 h1 hl hw
  rw [decide_eq_true (by omega : w > 0), e1, e2]; rfl
theorem lap59 (h0 : 0 ≤ w) (h1 : w < xs.length) (hl : xs.length ≤ maxLen) : G207x0x13 N w xs ((xs.getD w.toNat (.i 0)).cell 0).toI = some (lapO xs w) := lap13 (N := N) h0 h1 hl
theorem G108x0x60_eq (hN : maxLen < N) (span : Int) (hl : xs.length ≤ maxLen) (hn : ∀ x ∈ xs, (x.cell 2).toS.length ≤ maxLen) : G108x0x60 N xs.length xs span xs 0 = some (wayE (firstE (lapE span xs) 0 xs)) := by
 unfold G108x0x60
 refine (for_ind (.i 0 : D) (S := fun w kr => S108x0x60 N xs.length xs span xs w kr _ _) (L := fun m w => L108x0x60 N xs.length xs span xs m w _ _) (fun m w => rfl) (fun w l => some (wayE (firstE (lapE span xs) w l))) hl ?_ ?_ hN).trans rfl
 ·intro kr; simp [S108x0x60, firstE, wayE]
 ·intro w kr h0 h1 hw hi hk
  have hmem : xs.getD w.toNat (.i 0) ∈ xs := by rw [List.getD_eq_getElem?_getD, List.getElem?_eq_getElem (by omega)]; exact List.getElem_mem _
  simp only [S108x0x60, decide_eq_true h1, _root_.cond_true, hi, bnd_eq, hw, hk, lap13 h0 h1 hl, G202x0_eq hN (hn _ hmem), Option.isSome_some, getD_some, wayE_cons]
  unfold lapE lapR
  generalize xs.getD w.toNat (.i 0) = s
  cases decide ((s.cell 0).toI < 0) <;> cases decide ((s.cell 0).toI ≥ (s.cell 1).toI) <;> cases decide ((s.cell 1).toI > span) <;> cases lapO xs w <;> cases titleB (s.cell 2).toS <;> rfl
theorem G207x0_eq (hN : maxLen < N) {smps : List D} (h0 : 0 ≤ w) (h1 : w < xs.length) (hl : xs.length ≤ maxLen) (hs : smps.length ≤ maxLen) (hn : ∀ x ∈ xs, (x.cell 2).toS.length ≤ maxLen) : G207x0 N smps xs w = some (lapE (spanD smps) xs w) := by
 have hmem : xs.getD w.toNat (.i 0) ∈ xs := by rw [List.getD_eq_getElem?_getD, List.getElem?_eq_getElem (by omega)]; exact List.getElem_mem _
 unfold G207x0 F207x0 G207x0x7 F207x0x7
 simp only [inB_of h0 h1, _root_.cond_true, bnd_eq, G116x0_eq hs, Option.isSome_some, getD_some, lap59 h0 h1 hl, G207x0x21_eq hN (hn _ hmem)]
 unfold lapE lapR titleB
 generalize xs.getD w.toNat (.i 0) = s
 have e3 : decide (((s.cell 2).toS.length : Int) > 60) = !decide ((s.cell 2).toS.length ≤ 60) := by rw [Bool.eq_iff_iff]; simp; omega
 rw [e3]
 cases decide ((s.cell 0).toI < 0) <;> cases decide ((s.cell 0).toI ≥ (s.cell 1).toI) <;> cases decide ((s.cell 1).toI > spanD smps) <;> cases lapO xs w <;> cases (s.cell 2).toS.all (fun c => decide (32 ≤ (c.toNat : Int) ∧ (c.toNat : Int) ≤ 126)) <;> cases decide ((s.cell 2).toS.length ≤ 60) <;> rfl
theorem G113x0x51_eq (hN : maxLen < N) {smps : List D} (hl : xs.length ≤ maxLen) (hs : smps.length ≤ maxLen) (hn : ∀ x ∈ xs, (x.cell 2).toS.length ≤ maxLen) : G113x0x51 N xs.length smps xs 0 = some (wayE (firstE (lapE (spanD smps) xs) 0 xs)) := by
 unfold G113x0x51
 refine (for_ind (.i 0 : D) (S := fun w kr => S113x0x51 N xs.length smps xs w kr _ _) (L := fun m w => L113x0x51 N xs.length smps xs m w _ _) (fun m w => rfl) (fun w l => some (wayE (firstE (lapE (spanD smps) xs) w l))) hl ?_ ?_ hN).trans rfl
 ·intro kr; simp [S113x0x51, firstE, wayE]
 ·intro w kr h0 h1 hw hi hk
  simp only [S113x0x51, decide_eq_true h1, _root_.cond_true, bnd_eq, hw, hk, G207x0_eq hN h0 h1 hl hs hn, Option.isSome_some, getD_some, wayE_cons]
  cases lapE (spanD smps) xs w != 0 <;> rfl
def leS (a b : List UInt8) : Bool := Op.bytesLess a b || a == b
def tagO (xs : List D) (w : Int) : Bool := bif decide (w > 0) then leS (xs.getD w.toNat (.i 0)).toS (xs.getD (w - 1).toNat (.i 0)).toS else false
def tagE (xs : List D) (w : Int) : Int := bif nameB (xs.getD w.toNat (.i 0)).toS then (bif tagO xs w then 10 else 0) else 8
theorem tag_in (h0 : 0 ≤ w) (h1 : w < xs.length) (hl : xs.length ≤ maxLen) : (bif (inB (IntKind.wrap .i64 (w - 1)) xs.length) then true else (!((decide (w > 0)) == true))) = true ∧ (bif (decide (w > 0)) then ((Op.bytesLess (xs.getD w.toNat (.i 0)).toS (xs.getD (IntKind.wrap .i64 (w - 1)).toNat (.i 0)).toS) || ((xs.getD w.toNat (.i 0)).toS == (xs.getD (IntKind.wrap .i64 (w - 1)).toNat (.i 0)).toS)) else false) = tagO xs w := by
 unfold tagO leS
 by_cases hw : w = 0
 ·subst hw
  rw [decide_eq_false (by omega : ¬ ((0 : Int) > 0))]
  refine ⟨?_, rfl⟩
  cases inB (IntKind.wrap .i64 (0 - 1)) xs.length <;> rfl
 ·obtain ⟨e1, e2⟩ := prev_of h0 h1 hl hw
  rw [decide_eq_true (by omega : w > 0), e1, e2]
  exact ⟨rfl, rfl⟩
theorem G108x0x90_eq (hN : maxLen < N) (hl : xs.length ≤ maxLen) (hn : ∀ x ∈ xs, x.toS.length ≤ maxLen) : G108x0x90 N xs.length xs xs 0 = some (wayE (firstE (tagE xs) 0 xs)) := by
 unfold G108x0x90
 refine (for_ind (.i 0 : D) (S := fun w kr => S108x0x90 N xs.length xs xs w kr _ _) (L := fun m w => L108x0x90 N xs.length xs xs m w _ _) (fun m w => rfl) (fun w l => some (wayE (firstE (tagE xs) w l))) hl ?_ ?_ hN).trans rfl
 ·intro kr; simp [S108x0x90, firstE, wayE]
 ·intro w kr h0 h1 hw hi hk
  have hmem : xs.getD w.toNat (.i 0) ∈ xs := by rw [List.getD_eq_getElem?_getD, List.getElem?_eq_getElem (by omega)]; exact List.getElem_mem _
  obtain ⟨t1, t2⟩ := tag_in h0 h1 hl
  simp only [S108x0x90, decide_eq_true h1, _root_.cond_true, hi, bnd_eq, hw, hk, G117x0_eq hN (hn _ hmem), Option.isSome_some, getD_some, wayE_cons, t2]
  unfold tagE
  rw [t1]
  cases nameB (xs.getD w.toNat (.i 0)).toS <;> cases tagO xs w <;> rfl
theorem G113x0x72_eq (hN : maxLen < N) (hl : xs.length ≤ maxLen) (hn : ∀ x ∈ xs, x.toS.length ≤ maxLen) : G113x0x72 N xs.length xs xs 0 = some (wayE (firstE (tagE xs) 0 xs)) := by
 unfold G113x0x72
 refine (for_ind (.i 0 : D) (S := fun w kr => S113x0x72 N xs.length xs xs w kr _ _) (L := fun m w => L113x0x72 N xs.length xs xs m w _ _) (fun m w => rfl) (fun w l => some (wayE (firstE (tagE xs) w l))) hl ?_ ?_ hN).trans rfl
 ·intro kr; simp [S113x0x72, firstE, wayE]
 ·intro w kr h0 h1 hw hi hk
  have hmem : xs.getD w.toNat (.i 0) ∈ xs := by rw [List.getD_eq_getElem?_getD, List.getElem?_eq_getElem (by omega)]; exact List.getElem_mem _
  obtain ⟨t1, t2⟩ := tag_in h0 h1 hl
  simp only [S113x0x72, decide_eq_true h1, _root_.cond_true, hi, bnd_eq, hw, hk, G118x0_eq hN (hn _ hmem), Option.isSome_some, getD_some, wayE_cons, t2]
  unfold tagE
  rw [t1]
  cases nameB (xs.getD w.toNat (.i 0)).toS <;> cases tagO xs w <;> rfl
end
def chkA (name : List UInt8) (sport start : Int) (smps laps tags : List D) : Int :=
 bif !nameB name then 8 else bif !inI sport 1 5 then 7 else bif !inI start 0 86399999999 then 9 else
 bif decide ((smps.length : Int) > 20000) || decide ((laps.length : Int) > 200) || decide ((tags.length : Int) > 20) then 3 else
 bif firstE (smpE start smps) 0 smps != 0 then firstE (smpE start smps) 0 smps else
 bif firstE (lapE (spanD smps) laps) 0 laps != 0 then firstE (lapE (spanD smps) laps) 0 laps else firstE (tagE tags) 0 tags
structure ActOk (name : List UInt8) (smps laps tags : List D) : Prop where
 n : name.length ≤ maxLen
 s : smps.length ≤ maxLen
 l : laps.length ≤ maxLen
 t : tags.length ≤ maxLen
 ln : ∀ x ∈ laps, (x.cell 2).toS.length ≤ maxLen
 tn : ∀ x ∈ tags, x.toS.length ≤ maxLen
theorem way_do {α : Type} (n : Int) (k0 : Int → α) (k1 : α) (z : α) : (bif inlB (some (wayE n)) then k0 (inlV (some (wayE n))) else bif (inrQ (some (wayE n))).isSome then k1 else z) = bif n != 0 then k0 n else k1 := by
 unfold wayE
 cases n != 0 <;> rfl
section
variable {name : List UInt8} {sport start : Int} {smps laps tags : List D}
theorem G108x0_eq (hN : maxLen < N) (h : ActOk name smps laps tags) : G108x0 N name sport start smps laps tags = some (chkA name sport start smps laps tags) := by
 unfold G108x0 F108x0
 simp only [bnd_eq, G117x0_eq hN h.n, Option.isSome_some, _root_.cond_true, getD_some, V200x0_eq, G108x0x30_eq hN start h.s, G111x0_eq h.s, G108x0x60_eq hN _ h.l h.ln, G108x0x90_eq hN h.t h.tn, way_do]
 unfold chkA
 cases nameB name <;> cases inI sport 1 5 <;> cases inI start 0 86399999999 <;> cases decide ((smps.length : Int) > 20000) <;> cases decide ((laps.length : Int) > 200) <;> cases decide ((tags.length : Int) > 20) <;> try rfl
 cases firstE (smpE start smps) 0 smps != 0 <;> cases firstE (lapE (spanD smps) laps) 0 laps != 0 <;> cases h3 : firstE (tagE tags) 0 tags != 0 <;> first | rfl | (simp only [bne_eq_false_iff_eq] at h3; simp [h3])
theorem G113x0_eq (hN : maxLen < N) (h : ActOk name smps laps tags) : G113x0 N name sport start smps laps tags = some (chkA name sport start smps laps tags) := by
 unfold G113x0 F113x0
 simp only [bnd_eq, G118x0_eq hN h.n, Option.isSome_some, _root_.cond_true, getD_some, V205x0_eq, G113x0x30_eq hN start h.s, G113x0x51_eq hN h.l h.s h.ln, G113x0x72_eq hN h.t h.tn, way_do]
 unfold chkA
 cases nameB name <;> cases inI sport 1 5 <;> cases inI start 0 86399999999 <;> cases decide ((smps.length : Int) > 20000) <;> cases decide ((laps.length : Int) > 200) <;> cases decide ((tags.length : Int) > 20) <;> try rfl
 cases firstE (smpE start smps) 0 smps != 0 <;> cases firstE (lapE (spanD smps) laps) 0 laps != 0 <;> cases h3 : firstE (tagE tags) 0 tags != 0 <;> first | rfl | (simp only [bne_eq_false_iff_eq] at h3; simp [h3])
end
end Go.Proofs.YtmhaghcfopdifaaGreatDoor

namespace Go.Proofs.YtmhaghcfopdifaaGreatDoor
open Go Go.AM
set_option maxRecDepth 100000
set_option maxHeartbeats 4000000
variable {N : Nat}
def IsRt (n r : Int) : Prop := 0 ≤ r ∧ r * r ≤ n ∧ n < (r + 1) * (r + 1)
theorem IsRt.uniq {n r s : Int} (h : IsRt n r) (g : IsRt n s) : r = s := by
 obtain ⟨h0, h1, h2⟩ := h
 obtain ⟨g0, g1, g2⟩ := g
 by_cases a : r < s
 ·have : (r + 1) * (r + 1) ≤ s * s := Int.mul_le_mul (by omega) (by omega) (by omega) (by omega)
  omega
 ·by_cases b : s < r
  ·have : (s + 1) * (s + 1) ≤ r * r := Int.mul_le_mul (by omega) (by omega) (by omega) (by omega)
   omega
  ·omega
def bitK : Nat → Int
 | 0 => 0
 | k + 1 => 2 ^ k
theorem bitK_half (k : Nat) : ((2 : Int) ^ k).fdiv (2 ^ 1) = bitK k := by
 cases k with
 | zero => rfl
 | succ k =>
  show ((2 : Int) ^ (k + 1)).fdiv (2 ^ 1) = 2 ^ k
  rw [Int.pow_succ]
  exact Int.mul_fdiv_cancel _ (by decide)
theorem rootA_loop {n : Int} (h0 : 0 ≤ n) (h1 : n < 9223372036854775808) : ∀ (k m : Nat) (r : Int), k < m → 0 ≤ r → r * r ≤ n → n < (r + 2 ^ k) * (r + 2 ^ k) → r + 2 ^ k ≤ 4294967296 →
  ∃ s, L405x0x15 N (R := Int) n m (bitK k) r (fun p => some p) = some s ∧ IsRt n s
 | k, 0, r, hm, _, _, _, _ => by omega
 | 0, m + 1, r, hm, r0, r1, r2, r3 => by
  refine ⟨r, ?_, r0, r1, by simpa using r2⟩
  simp [L405x0x15, S405x0x15, bitK]
 | k + 1, m + 1, r, hm, r0, r1, r2, r3 => by
  have hk : (0 : Int) < 2 ^ k := Int.pow_pos (by decide)
  have hp : (2 : Int) ^ (k + 1) = 2 ^ k + 2 ^ k := by rw [Int.pow_succ]; omega
  rw [hp] at r2 r3
  obtain ⟨b, hb⟩ : ∃ b : Int, b = 2 ^ k := ⟨_, rfl⟩
  rw [← hb] at hk r2 r3
  have ht : IntKind.wrap .i64 (r + b) = r + b := wrapI (by omega) (by omega)
  obtain ⟨t, htt⟩ : ∃ t : Int, t = r + b := ⟨_, rfl⟩
  have hsq : t * t ≤ 4294967295 * 4294967295 := Int.mul_le_mul (by omega) (by omega) (by omega) (by omega)
  have hsq0 : 0 < t * t := Int.mul_pos (by omega) (by omega)
  have hy : (bif decide (IntKind.wrap .i64 (t * t) > 0) then decide (t ≤ IntKind.wrap .i64 (n.tdiv t)) else false) = decide (t * t ≤ n) := by
   by_cases hbig : t * t < 9223372036854775808
   ·rw [wrapI (by omega) (by omega), decide_eq_true (by omega), _root_.cond_true, Int.tdiv_eq_ediv_of_nonneg h0]
    have hq0 : 0 ≤ n / t := Int.ediv_nonneg h0 (by omega)
    have hq1 : n / t ≤ n := Int.ediv_le_self _ h0
    rw [wrapI (by omega) (by omega), Bool.eq_iff_iff]
    simp only [decide_eq_true_eq]
    rw [Int.le_ediv_iff_mul_le (by omega)]
   ·have hw : ¬ IntKind.wrap .i64 (t * t) > 0 := by rw [IntKind.wrap_i64]; omega
    rw [decide_eq_false hw, _root_.cond_false, decide_eq_false (by omega)]
  have hz : (!(t == 0)) = true := by simp; omega
  have hstep : L405x0x15 N (R := Int) n (m + 1) (bitK (k + 1)) r (fun p => some p) = L405x0x15 N (R := Int) n m (bitK k) (bif decide (t * t ≤ n) then t else r) (fun p => some p) := by
   show S405x0x15 N n (bitK (k + 1)) r _ _ = _
   unfold S405x0x15
   rw [show bitK (k + 1) = b by rw [hb]; rfl, decide_eq_true (by omega : b > 0), _root_.cond_true, ht, ← htt, hz]
   simp only [bnd_eq, _root_.cond_true, hy, V405x0x29, F405x0x29]
   rw [hb, bitK_half]
  rw [hstep]
  by_cases hle : t * t ≤ n
  ·rw [decide_eq_true hle, _root_.cond_true]
   refine rootA_loop h0 h1 k m t (by omega) (by omega) hle ?_ (by omega)
   rw [← hb, htt, Int.add_assoc]; exact r2
  ·rw [decide_eq_false hle, _root_.cond_false]
   exact rootA_loop h0 h1 k m r (by omega) r0 r1 (by rw [← hb, ← htt]; omega) (by omega)
theorem rootA (hN : maxLen < N) {n : Int} (h0 : 0 ≤ n) (h1 : n < 9223372036854775808) : ∃ s, G405x0 N n = some (s, 0) ∧ IsRt n s := by
 have hm : maxLen = 9223372036854775807 := rfl
 obtain ⟨s, hs, hr⟩ := rootA_loop (N := N) h0 h1 32 N 0 (by omega) (by omega) (by simpa using h0) (by simp; omega) (by decide)
 refine ⟨s, ?_, hr⟩
 unfold G405x0 F405x0 G405x0x15
 have hs : L405x0x15 N (R := Int) n N 2147483648 0 (fun p => some p) = some s := hs
 rw [decide_eq_false (by omega), hs]
 rfl
theorem rootB_loop {n : Int} (h0 : 0 ≤ n) (h1 : n < 9223372036854775808) : ∀ (m d : Nat) (lo hi : Int), d < m → 0 ≤ lo → lo ≤ hi → hi ≤ 3037000499 → hi - lo ≤ d → lo * lo ≤ n → n < (hi + 1) * (hi + 1) →
  ∃ s, L372x0x6 N (R := Int) n m lo hi (fun p => some p) = some s ∧ IsRt n s
 | 0, d, lo, hi, hm, _, _, _, _, _, _ => by omega
 | m + 1, d, lo, hi, hm, l0, l1, l2, l3, l4, l5 => by
  by_cases hlt : lo < hi
  ·obtain ⟨t, ht⟩ : ∃ t : Int, t = (lo + hi + 1) / 2 := ⟨_, rfl⟩
   have ht1 : lo < t := by omega
   have ht2 : t ≤ hi := by omega
   have hsq : t * t ≤ 3037000499 * 3037000499 := Int.mul_le_mul (by omega) (by omega) (by omega) (by omega)
   have hsq0 : 0 ≤ t * t := Int.mul_nonneg (by omega) (by omega)
   have hstep : L372x0x6 N (R := Int) n (m + 1) lo hi (fun p => some p) = L372x0x6 N (R := Int) n m (bif decide (t * t ≤ n) then t else lo) (bif decide (t * t ≤ n) then hi else t - 1) (fun p => some p) := by
    show S372x0x6 N n lo hi _ _ = _
    unfold S372x0x6
    rw [decide_eq_true hlt, _root_.cond_true, wrapI (x := lo + hi) (by omega) (by omega), wrapI (x := lo + hi + 1) (by omega) (by omega), Int.tdiv_eq_ediv_of_nonneg (by omega), ← ht, wrapI (x := t) (by omega) (by omega)]
    simp only [bnd_eq, V372x0x18017, F372x0x18017]
    rw [wrapI (x := t * t) (by omega) (by omega), wrapI (x := t - 1) (by omega) (by omega)]
    cases decide (t * t ≤ n) <;> rfl
   rw [hstep]
   by_cases hle : t * t ≤ n
   ·rw [decide_eq_true hle]
    exact rootB_loop h0 h1 m (d - 1) t hi (by omega) (by omega) ht2 l2 (by omega) hle l5
   ·rw [decide_eq_false hle]
    exact rootB_loop h0 h1 m (d - 1) lo (t - 1) (by omega) l0 (by omega) (by omega) (by omega) l4 (by rw [show t - 1 + 1 = t by omega]; omega)
  ·have : lo = hi := by omega
   subst this
   refine ⟨lo, ?_, l0, l4, l5⟩
   simp [L372x0x6, S372x0x6]
theorem rootB (hN : maxLen < N) {n : Int} (h0 : 0 ≤ n) (h1 : n < 9223372036854775808) : ∃ s, G372x0 N n = some s ∧ IsRt n s := by
 have hm : maxLen = 9223372036854775807 := rfl
 obtain ⟨s, hs, hr⟩ := rootB_loop (N := N) h0 h1 N 3037000499 0 3037000499 (by omega) (by omega) (by omega) (by omega) (by omega) (by simpa using h0) (by omega)
 refine ⟨s, ?_, hr⟩
 unfold G372x0 F372x0 G372x0x6
 rw [hs]
 rfl
theorem roots (hN : maxLen < N) {n : Int} (h0 : 0 ≤ n) (h1 : n < 9223372036854775808) : ∃ s, G405x0 N n = some (s, 0) ∧ G372x0 N n = some s ∧ 0 ≤ s ∧ s ≤ 3037000499 := by
 obtain ⟨s, hs, hr⟩ := rootA hN h0 h1
 obtain ⟨t, ht, hr'⟩ := rootB hN h0 h1
 have := hr.uniq hr'
 subst this
 refine ⟨s, hs, ht, hr.1, ?_⟩
 by_cases hb : s ≤ 3037000499
 ·exact hb
 ·have : (3037000500 : Int) * 3037000500 ≤ s * s := Int.mul_le_mul (by omega) (by omega) (by omega) (by omega)
  have := hr.2.1
  omega
end Go.Proofs.YtmhaghcfopdifaaGreatDoor

namespace Go.Proofs.YtmhaghcfopdifaaGreatDoor
open Go Go.AM
set_option maxRecDepth 100000
set_option maxHeartbeats 4000000
variable {N : Nat}
abbrev sec (s : D) : Int := (s.cell 0).toI
abbrev sv (s : D) (j : Nat) : Int := (s.cell j).toI
structure SmpC (s : D) : Prop where
 lo : 0 ≤ sec s
 hi : sec s ≤ 1000000
 x : -100000000 ≤ sv s 1 ∧ sv s 1 ≤ 100000000
 y : -100000000 ≤ sv s 2 ∧ sv s 2 ≤ 100000000
def Asc (l : List D) : Prop := l.Pairwise fun a b => sec a < sec b
def sqI (p q : D) : Int := (sv q 1 - sv p 1) * (sv q 1 - sv p 1) + (sv q 2 - sv p 2) * (sv q 2 - sv p 2)
theorem sq_le {a : Int} (h1 : -200000000 ≤ a) (h2 : a ≤ 200000000) : 0 ≤ a * a ∧ a * a ≤ 40000000000000000 := by
 by_cases h : 0 ≤ a
 ·exact ⟨Int.mul_nonneg h h, Int.mul_le_mul (c := 200000000) (d := 200000000) h2 h2 h (by decide)⟩
 ·have e : a * a = (-a) * (-a) := by rw [Int.neg_mul_neg]
  rw [e]
  exact ⟨Int.mul_nonneg (by omega) (by omega), Int.mul_le_mul (a := -a) (b := -a) (c := 200000000) (d := 200000000) (by omega) (by omega) (by omega) (by decide)⟩
theorem sqI_b {p q : D} (hp : SmpC p) (hq : SmpC q) : 0 ≤ sqI p q ∧ sqI p q ≤ 80000000000000000 ∧ IntKind.wrap .i64 ((IntKind.wrap .i64 (sv q 1 - sv p 1)) * (IntKind.wrap .i64 (sv q 1 - sv p 1))) = (sv q 1 - sv p 1) * (sv q 1 - sv p 1) ∧
  IntKind.wrap .i64 ((IntKind.wrap .i64 (sv q 2 - sv p 2)) * (IntKind.wrap .i64 (sv q 2 - sv p 2))) = (sv q 2 - sv p 2) * (sv q 2 - sv p 2) := by
 have h1 := hp.x
 have h2 := hp.y
 have h3 := hq.x
 have h4 := hq.y
 have e1 := sq_le (a := sv q 1 - sv p 1) (by omega) (by omega)
 have e2 := sq_le (a := sv q 2 - sv p 2) (by omega) (by omega)
 have w1 : IntKind.wrap .i64 (sv q 1 - sv p 1) = sv q 1 - sv p 1 := wrapI (by omega) (by omega)
 have w2 : IntKind.wrap .i64 (sv q 2 - sv p 2) = sv q 2 - sv p 2 := wrapI (by omega) (by omega)
 rw [w1, w2]
 exact ⟨by unfold sqI; omega, by unfold sqI; omega, wrapI (by omega) (by omega), wrapI (by omega) (by omega)⟩
theorem V406_eq {p q : D} (hp : SmpC p) (hq : SmpC q) : V406x0 N (sv p 1) (sv p 2) (sv q 1) (sv q 2) = sqI p q := by
 obtain ⟨h1, h2, h3, h4⟩ := sqI_b hp hq
 unfold V406x0 F406x0
 simp only [bnd_eq]
 rw [h3, h4]
 exact wrapI (by unfold sqI at *; omega) (by unfold sqI at *; omega)
noncomputable def lenI (p q : D) : Int := ((G372x0 (9223372036854775808 : Nat) (sqI p q))).getD 0
theorem len_eq (hN : maxLen < N) {p q : D} (hp : SmpC p) (hq : SmpC q) : G405x0 N (sqI p q) = some (lenI p q, 0) ∧ G372x0 N (sqI p q) = some (lenI p q) := by
 have hm : maxLen = 9223372036854775807 := rfl
 obtain ⟨h1, h2, _, _⟩ := sqI_b hp hq
 obtain ⟨s, e1, r1⟩ := rootA hN (n := sqI p q) h1 (by omega)
 obtain ⟨t, e2, r2⟩ := rootB hN (n := sqI p q) h1 (by omega)
 obtain ⟨u, e3, r3⟩ := rootB (N := 9223372036854775808) (by omega) (n := sqI p q) h1 (by omega)
 have hu : lenI p q = u := by unfold lenI; rw [e3]; rfl
 rw [e1, e2, hu, r1.uniq r3, r2.uniq r3]
 exact ⟨rfl, rfl⟩
theorem in370 {n : Int} (h : -100000000 ≤ n ∧ n ≤ 100000000) : V370x0 N n (-100000000) 100000000 = true := by
 unfold V370x0 F370x0
 rw [decide_eq_true h.1, decide_eq_true h.2]; rfl
theorem G307x0x6_eq (hN : maxLen < N) {a b c d : Int} (ha : -100000000 ≤ a ∧ a ≤ 100000000) (hb : -100000000 ≤ b ∧ b ≤ 100000000) (hc : -100000000 ≤ c ∧ c ≤ 100000000) (hd : -100000000 ≤ d ∧ d ≤ 100000000) :
  G307x0x6 N 4 [(.i a), (.i b), (.i c), (.i d)] 0 = some (.inr ()) := by
 unfold G307x0x6
 refine (for_ind (.i 0 : D) (xs := [(.i a), (.i b), (.i c), (.i d)]) (S := fun w kr => S307x0x6 N 4 [(.i a), (.i b), (.i c), (.i d)] w kr _ _) (L := fun m w => L307x0x6 N 4 [(.i a), (.i b), (.i c), (.i d)] m w _ _) (fun m w => rfl) (fun _ _ => some (.inr ())) (by show (4 : Nat) ≤ 9223372036854775807; decide) ?_ ?_ hN).trans rfl
 ·intro kr; rfl
 ·intro w kr h0 h1 hw hi hk
  have h1' : w < 4 := h1
  have hin : V370x0 N (([(.i a), (.i b), (.i c), (.i d)] : List D).getD w.toNat (.i 0)).toI (-100000000) 100000000 = true := by
   have : w = 0 ∨ w = 1 ∨ w = 2 ∨ w = 3 := by omega
   rcases this with rfl | rfl | rfl | rfl
   ·exact in370 ha
   ·exact in370 hb
   ·exact in370 hc
   ·exact in370 hd
  unfold S307x0x6
  rw [decide_eq_true h1', hi, hin, hw, hk, decide_eq_true (show w.toNat < ([(.i a), (.i b), (.i c), (.i d)] : List D).length by simp; omega)]
  rfl
theorem G307x0_eq (hN : maxLen < N) {p q : D} (hp : SmpC p) (hq : SmpC q) : G307x0 N (sv p 1) (sv p 2) (sv q 1) (sv q 2) = some (lenI p q, 0) := by
 unfold G307x0 F307x0 G371x0 F371x0
 rw [G307x0x6_eq hN hp.x hp.y hq.x hq.y, V406_eq hp hq]
 simp only [bnd_eq, inlB_inr, inrQ_inr, _root_.cond_true, _root_.cond_false, Option.isSome_some, (len_eq hN hp hq).1, getD_some]
theorem max2_comm (a : Int) : max2 a 0 = max2 0 a := by unfold max2; split <;> split <;> omega
noncomputable def valK (kind : Int) (p q : D) : Int := bif kind == 1 then sv p 4 else bif kind == 2 then sv p 5 else bif kind == 3 then sv p 6 else bif kind == 4 then lenI p q else max2 0 (IntKind.wrap .i64 (sv q 3 - sv p 3))
theorem prog_val (hN : maxLen < N) {kind : Int} (h1 : 1 ≤ kind) (h2 : kind ≤ 5) {p q : D} (hp : SmpC p) (hq : SmpC q) :
  G269x0y600000010x33032 N false kind (kind == 1) (sv q 1) (sv q 2) (sv q 3) (sv p 1) (sv p 2) (sv p 3) (sv p 4) (sv p 5) (sv p 6) = some (decide (4 ≤ kind), valK kind p q) := by
 have : kind = 1 ∨ kind = 2 ∨ kind = 3 ∨ kind = 4 ∨ kind = 5 := by omega
 unfold G269x0y600000010x33032 F269x0y600000010x33032 G269x0y600000010x39038 F269x0y600000010x39038 G269x0y600000010x45044 F269x0y600000010x45044 G269x0y600000010x24050 F269x0y600000010x24050
 rcases this with rfl | rfl | rfl | rfl | rfl
 ·rfl
 ·rfl
 ·rfl
 ·rw [G307x0_eq hN hp hq]; rfl
 ·rw [max2_comm]; rfl
theorem ref_val (hN : maxLen < N) {kind : Int} (h1 : 1 ≤ kind) (h2 : kind ≤ 5) {p q : D} (hp : SmpC p) (hq : SmpC q) :
  G308x0x21020 N kind 0 (kind == 4) (sv q 1) (sv q 2) (sv q 3) (sv p 1) (sv p 2) (sv p 3) = some (bif decide (4 ≤ kind) then valK kind p q else 0) := by
 have : kind = 1 ∨ kind = 2 ∨ kind = 3 ∨ kind = 4 ∨ kind = 5 := by omega
 obtain ⟨e1, e2, e3, e4⟩ := sqI_b hp hq
 unfold G308x0x21020 F308x0x21020 V308x0x26 F308x0x26
 rcases this with rfl | rfl | rfl | rfl | rfl
 ·rfl
 ·rfl
 ·rfl
 ·simp only [bnd_eq]
  rw [e3, e4, show IntKind.wrap .i64 ((sv q 1 - sv p 1) * (sv q 1 - sv p 1) + (sv q 2 - sv p 2) * (sv q 2 - sv p 2)) = sqI p q from wrapI (by unfold sqI at *; omega) (by unfold sqI at *; omega), (len_eq hN hp hq).2]
  rfl
 ·rfl
theorem ref_low {kind : Int} (h1 : 1 ≤ kind) (h2 : ¬ 4 ≤ kind) (p q : D) : V373x0 N (sv p 4) (sv p 5) (sv p 6) kind = valK kind p q := by
 have : kind = 1 ∨ kind = 2 ∨ kind = 3 := by omega
 rcases this with rfl | rfl | rfl <;> rfl
def sprd (val n j : Int) : Int := IntKind.wrap .i64 (IntKind.wrap .i64 ((IntKind.wrap .i64 (val * (IntKind.wrap .i64 (j + 1)))).tdiv n) - IntKind.wrap .i64 ((IntKind.wrap .i64 (val * j)).tdiv n))
def secS (spread : Bool) (val n j : Int) : Int := bif decide (n > 60) then (bif spread then 0 else -1) else bif spread then sprd val n j else val
def secsL (spread : Bool) (val n : Int) : Nat → Int → List D
 | 0, _ => []
 | d + 1, j => .i (secS spread val n j) :: secsL spread val n d (j + 1)
theorem secsL_len {spread : Bool} {val n : Int} : ∀ {d : Nat} {j : Int}, (secsL spread val n d j).length = d
 | 0, _ => rfl
 | d + 1, j => by simp [secsL, secsL_len]
theorem roomOk {n : Nat} (h : n ≤ 8000000) : (decide (n * 8 ≤ room) && decide (n ≤ strMax)) = true := by
 have e1 : room = 140737488355328 := rfl
 have e2 : strMax = 9223372036854775807 := rfl
 rw [decide_eq_true (by omega), decide_eq_true (by omega)]; rfl
theorem prog_secs {spread : Bool} {val n : Int} (hn0 : 0 < n) (hn : n ≤ 1000000) : ∀ (d m : Nat) (j : Int) (acc : List D), d < m → 0 ≤ j → j + d = n → acc.length + d ≤ 4000000 →
  L269x0y600000010x57 N (R := Bool × LD) n n spread val m j false acc (fun p => some p) = some (false, acc ++ secsL spread val n d j)
 | d, 0, j, acc, hm, _, _, _ => by omega
 | 0, m + 1, j, acc, hm, h0, h1, h2 => by
  have : ¬ j < n := by omega
  simp only [L269x0y600000010x57, S269x0y600000010x57, decide_eq_false this, _root_.cond_false, secsL, List.append_nil]
 | d + 1, m + 1, j, acc, hm, h0, h1, h2 => by
  have hlt : j < n := by omega
  have hz : (!(n == 0)) = true := by simp; omega
  have hr := roomOk (n := acc.length + 1) (by omega)
  have hw : IntKind.wrap .i64 (j + 1) = j + 1 := wrapI (by omega) (by omega)
  have ih := prog_secs (spread := spread) (val := val) hn0 hn d m (j + 1) (acc ++ [.i (secS spread val n j)]) (by omega) (by omega) (by omega) (by simp; omega)
  rw [List.append_assoc] at ih
  refine Eq.trans ?_ ih
  simp only [L269x0y600000010x57, S269x0y600000010x57, decide_eq_true hlt, _root_.cond_true, G269x0y600000010x72071, F269x0y600000010x72071, G269x0y600000010x78077, F269x0y600000010x78077, G269x0y600000010x63083, F269x0y600000010x63083, bnd_eq, hz, hr]
  unfold secS sprd
  rw [hw]
  cases decide (n > 60) <;> cases spread <;> rfl
theorem ref_secs {kind : Int} (h1k : 1 ≤ kind) {p : D} {val n : Int} (hv : ¬ 4 ≤ kind → V373x0 N (sv p 4) (sv p 5) (sv p 6) kind = val) {ln : Int} (hl : 4 ≤ kind → ln = val) (hn0 : 0 < n) (hn : n ≤ 1000000) : ∀ (d m : Nat) (j : Int) (nl : Bool) (acc : List D), d < m → 0 ≤ j → j + d = n → acc.length + d ≤ 4000000 →
  L308x0x33 N (R := Bool × LD) n kind ln n (decide (n > 60)) (sv p 4) (sv p 5) (sv p 6) m j nl acc (fun p => some p) = some (bif decide (0 < d) then false else nl, acc ++ secsL (decide (4 ≤ kind)) val n d j)
 | d, 0, j, nl, acc, hm, _, _, _ => by omega
 | 0, m + 1, j, nl, acc, hm, h0, h1, h2 => by
  have : ¬ j < n := by omega
  simp only [L308x0x33, S308x0x33, decide_eq_false this, _root_.cond_false, secsL, List.append_nil]
  rfl
 | d + 1, m + 1, j, nl, acc, hm, h0, h1, h2 => by
  have hlt : j < n := by omega
  have hz : (!(n == 0)) = true := by simp; omega
  have hr := roomOk (n := acc.length + 1) (by omega)
  have hw : IntKind.wrap .i64 (j + 1) = j + 1 := wrapI (by omega) (by omega)
  have ih := ref_secs h1k hv hl hn0 hn d m (j + 1) false (acc ++ [.i (secS (decide (4 ≤ kind)) val n j)]) (by omega) (by omega) (by omega) (by simp; omega)
  rw [List.append_assoc] at ih
  have hfl : (bif decide (0 < d) then false else false) = (bif decide (0 < d + 1) then false else nl) := by rw [decide_eq_true (by omega : 0 < d + 1)]; cases decide (0 < d) <;> rfl
  rw [hfl] at ih
  refine Eq.trans ?_ ih
  have hge : decide (kind ≥ 4) = decide (4 ≤ kind) := rfl
  simp only [L308x0x33, S308x0x33, decide_eq_true hlt, _root_.cond_true, G308x0x47, F308x0x47, V308x0x53, F308x0x53, V308x0x59, F308x0x59, bnd_eq, hz, hr, hge]
  by_cases h4 : 4 ≤ kind
  ·rw [decide_eq_true h4, hl h4]
   unfold secS sprd
   rw [hw]
   cases decide (n > 60) <;> rfl
  ·rw [decide_eq_false h4, hv h4]
   unfold secS
   rw [hw]
   cases decide (n > 60) <;> rfl
end Go.Proofs.YtmhaghcfopdifaaGreatDoor

namespace Go.Proofs.YtmhaghcfopdifaaGreatDoor
open Go Go.AM
set_option maxRecDepth 100000
set_option maxHeartbeats 4000000
variable {N : Nat}
theorem V109x0_eq (n a b : Int) : V109x0 N n a b = inI n a b := by
 unfold V109x0 F109x0 inI
 rw [Bool.eq_iff_iff]; simp
theorem V114x0_eq (n a b : Int) : V114x0 N n a b = !inI n a b := by
 unfold V114x0 F114x0 inI
 rw [Bool.eq_iff_iff]; simp <;> omega
section
variable {xs : List D} {w : Int}
def leB (a b : List UInt8) : Bool := Op.bytesLess a b || a == b
def tgE (xs : List D) (w : Int) : Int := bif !nameB (xs.getD w.toNat (.i 0)).toS then 8 else bif (bif decide (w > 0) then leB (xs.getD w.toNat (.i 0)).toS (xs.getD (w - 1).toNat (.i 0)).toS else false) then 10 else 0
section
variable {xs : List D} {w : Int}
theorem prevG (h0 : 0 ≤ w) (h1 : w < xs.length) (hl : xs.length ≤ maxLen) : IntKind.wrap .i64 (w - 1) = w - 1 ∧ (bif (inB (w - 1) xs.length) then true else (!((decide (w > 0)) == true))) = true := by
 have hm : maxLen = 9223372036854775807 := rfl
 refine ⟨wrapI (by omega) (by omega), ?_⟩
 by_cases hw : w = 0
 ·subst hw
  cases inB ((0 : Int) - 1) xs.length <;> rfl
 ·rw [inB_of (by omega) (by omega)]; rfl
theorem G33x0x48_eq (hN : maxLen < N) (hl : xs.length ≤ maxLen) (hx : ∀ j : Nat, ((xs.getD j (.i 0)).toS).length ≤ maxLen) : G33x0x48 N xs.length xs xs 0 = some (wayE (firstE (tgE xs) 0 xs)) := by
 unfold G33x0x48
 refine (for_ind (.i 0 : D) (S := fun w kr => S33x0x48 N xs.length xs xs w kr _ _) (L := fun m w => L33x0x48 N xs.length xs xs m w _ _) (fun m w => rfl) (fun w l => some (wayE (firstE (tgE xs) w l))) hl ?_ ?_ hN).trans rfl
 ·intro kr; simp [S33x0x48, firstE, wayE]
 ·intro w kr h0 h1 hw hi hk
  obtain ⟨e1, e2⟩ := prevG h0 h1 hl
  simp only [S33x0x48, decide_eq_true h1, _root_.cond_true, hi, bnd_eq, hw, hk, G117x0_eq hN (hx w.toNat), Option.isSome_some, getD_some, wayE_cons, e1, e2]
  unfold tgE leB
  cases nameB (xs.getD w.toNat (.i 0)).toS with
  | false => rfl
  | true => cases (bif decide (w > 0) then (Op.bytesLess (xs.getD w.toNat (.i 0)).toS (xs.getD (w - 1).toNat (.i 0)).toS || (xs.getD w.toNat (.i 0)).toS == (xs.getD (w - 1).toNat (.i 0)).toS) else false) <;> rfl
theorem G34x0x30_eq (hN : maxLen < N) (hl : xs.length ≤ maxLen) (hx : ∀ j : Nat, ((xs.getD j (.i 0)).toS).length ≤ maxLen) : G34x0x30 N xs.length xs xs 0 = some (wayE (firstE (tgE xs) 0 xs)) := by
 unfold G34x0x30
 refine (for_ind (.i 0 : D) (S := fun w kr => S34x0x30 N xs.length xs xs w kr _ _) (L := fun m w => L34x0x30 N xs.length xs xs m w _ _) (fun m w => rfl) (fun w l => some (wayE (firstE (tgE xs) w l))) hl ?_ ?_ hN).trans rfl
 ·intro kr; simp [S34x0x30, firstE, wayE]
 ·intro w kr h0 h1 hw hi hk
  obtain ⟨e1, e2⟩ := prevG h0 h1 hl
  simp only [S34x0x30, decide_eq_true h1, _root_.cond_true, hi, bnd_eq, hw, hk, G118x0_eq hN (hx w.toNat), Option.isSome_some, getD_some, wayE_cons, e1, e2]
  unfold tgE leB
  cases nameB (xs.getD w.toNat (.i 0)).toS with
  | false => rfl
  | true => cases (bif decide (w > 0) then (Op.bytesLess (xs.getD w.toNat (.i 0)).toS (xs.getD (w - 1).toNat (.i 0)).toS || (xs.getD w.toNat (.i 0)).toS == (xs.getD (w - 1).toNat (.i 0)).toS) else false) <;> rfl
end
theorem G33x0x24_eq (hN : 4 < N) (a b c d : Int) : G33x0x24 N 4 [(.i a), (.i b), (.i c), (.i d)] 0 = some (bif inI a 0 10000000000000 && inI b 0 10000000000000 && inI c 0 10000000000000 && inI d 0 10000000000000 then .inr () else .inl ()) := by
 obtain ⟨M, rfl⟩ : ∃ M, N = M + 5 := ⟨N - 5, by omega⟩
 have w1 : IntKind.wrap .i64 (0 + 1) = 1 := wrapI (by omega) (by omega)
 have w2 : IntKind.wrap .i64 (1 + 1) = 2 := wrapI (by omega) (by omega)
 have w3 : IntKind.wrap .i64 (2 + 1) = 3 := wrapI (by omega) (by omega)
 have w4 : IntKind.wrap .i64 (3 + 1) = 4 := wrapI (by omega) (by omega)
 have e : ∀ K, L33x0x24 K (R := Sum Unit Unit) 4 [(.i a), (.i b), (.i c), (.i d)] (M + 5) 0 (fun p => some (.inl p)) (fun p => some (.inr p)) = some (bif inI a 0 10000000000000 && inI b 0 10000000000000 && inI c 0 10000000000000 && inI d 0 10000000000000 then .inr () else .inl ()) := by
  intro K
  have w1' := w1
  have w2' := w2
  have w3' := w3
  have w4' := w4
  simp at w1' w2' w3' w4'
  simp [L33x0x24, S33x0x24, V109x0_eq, bnd_eq, D.toI, inB, w1', w2', w3', w4']
  cases inI a 0 10000000000000 <;> cases inI b 0 10000000000000 <;> cases inI c 0 10000000000000 <;> cases inI d 0 10000000000000 <;> rfl
 unfold G33x0x24
 exact e _
def rowE (v0 : List UInt8) (v1 v2 v3 v4 v5 v6 : Int) (v8 : List D) : Int :=
 bif !nameB v0 then 8 else bif !inI v1 1 5 then 7 else bif !(inI v2 0 86399999999 && (inI v3 0 10000000000000 && inI v4 0 10000000000000 && inI v5 0 10000000000000 && inI v6 0 10000000000000)) then 9 else bif decide ((v8.length : Int) > 20) then 3 else firstE (tgE v8) 0 v8
theorem wayE_some {n : Int} {k : Int → Option Int} {z : Option Int} : (bif inlB (some (wayE n)) then k (inlV (some (wayE n))) else bif (inrQ (some (wayE n))).isSome then k 0 else z) = k n := by
 unfold wayE
 cases h : n != 0 with
 | true => rfl
 | false =>
  have : n = 0 := by simpa using h
  subst this; rfl
section
variable {v0 : List UInt8} {v1 v2 v3 v4 v5 v6 : Int} {v8 : List D}
theorem G33x0_eq (hN : maxLen < N) (h0 : v0.length ≤ maxLen) (hl : v8.length ≤ maxLen) (hx : ∀ j : Nat, ((v8.getD j (.i 0)).toS).length ≤ maxLen) : G33x0 N v0 v1 v2 v3 v4 v5 v6 v8 = some (rowE v0 v1 v2 v3 v4 v5 v6 v8) := by
 have hm : maxLen = 9223372036854775807 := rfl
 unfold G33x0 F33x0 rowE
 rw [G117x0_eq hN h0, G33x0x24_eq (by omega), G33x0x48_eq hN hl hx]
 simp only [bnd_eq, Option.isSome_some, _root_.cond_true, getD_some, V109x0_eq]
 cases nameB v0 with
 | false => rfl
 | true =>
 cases inI v1 1 5 with
 | false => rfl
 | true =>
 cases inI v2 0 86399999999 with
 | false => rfl
 | true =>
 cases (inI v3 0 10000000000000 && inI v4 0 10000000000000 && inI v5 0 10000000000000 && inI v6 0 10000000000000) with
 | false => rfl
 | true =>
 cases decide ((v8.length : Int) > 20) with
 | true => rfl
 | false => exact wayE_some
theorem V34x0x16_eq : V34x0x16 N v2 v3 v4 v5 v6 = !(inI v2 0 86399999999 && (inI v3 0 10000000000000 && inI v4 0 10000000000000 && inI v5 0 10000000000000 && inI v6 0 10000000000000)) := by
 unfold V34x0x16 F34x0x16
 simp only [bnd_eq, V114x0_eq]
 cases inI v2 0 86399999999 <;> cases inI v3 0 10000000000000 <;> cases inI v4 0 10000000000000 <;> cases inI v5 0 10000000000000 <;> cases inI v6 0 10000000000000 <;> rfl
theorem G34x0_eq (hN : maxLen < N) (h0 : v0.length ≤ maxLen) (hl : v8.length ≤ maxLen) (hx : ∀ j : Nat, ((v8.getD j (.i 0)).toS).length ≤ maxLen) : G34x0 N v0 v1 v2 v3 v4 v5 v6 v8 = some (rowE v0 v1 v2 v3 v4 v5 v6 v8) := by
 unfold G34x0 F34x0 rowE
 rw [G118x0_eq hN h0, G34x0x30_eq hN hl hx, V34x0x16_eq]
 simp only [bnd_eq, Option.isSome_some, _root_.cond_true, getD_some, V114x0_eq]
 cases nameB v0 with
 | false => rfl
 | true =>
 cases inI v1 1 5 with
 | false => rfl
 | true =>
 cases (inI v2 0 86399999999 && (inI v3 0 10000000000000 && inI v4 0 10000000000000 && inI v5 0 10000000000000 && inI v6 0 10000000000000)) with
 | false => rfl
 | true =>
 cases decide ((v8.length : Int) > 20) with
 | true => rfl
 | false => exact wayE_some
end
end
end Go.Proofs.YtmhaghcfopdifaaGreatDoor

namespace Go.Proofs.YtmhaghcfopdifaaGreatDoor
open Go Go.AM
set_option maxRecDepth 100000
set_option maxHeartbeats 4000000
variable {N : Nat}
noncomputable def stepL (kind : Int) (p q : D) : List D := secsL (decide (4 ≤ kind)) (valK kind p q) (sec q - sec p) (sec q - sec p).toNat 0
noncomputable def restL (kind : Int) : List D → List D
 | p :: q :: r => stepL kind p q ++ restL kind (q :: r)
 | _ => []
theorem rest_len {kind : Int} : ∀ (l : List D) (p : D), Asc (p :: l) → ((restL kind (p :: l)).length : Int) = sec ((p :: l).getLast (by simp)) - sec p
 | [], p, _ => by simp [restL]
 | q :: r, p, h => by
  have h1 := (List.pairwise_cons.1 h).1 q (by simp)
  have ih := rest_len (kind := kind) r q (List.pairwise_cons.1 h).2
  rw [List.getLast_cons (by simp)]
  simp only [restL, List.length_append, stepL, secsL_len]
  omega
structure SmpsC (l : List D) : Prop where
 asc : Asc l
 ok : ∀ s ∈ l, SmpC s
theorem SmpsC.tail {p : D} {l : List D} (h : SmpsC (p :: l)) : SmpsC l := ⟨(List.pairwise_cons.1 h.asc).2, fun s hs => h.ok s (by simp [hs])⟩
theorem wr3 {p q : D} (hp : SmpC p) (hq : SmpC q) : IntKind.wrap .i64 (sec q - sec p) = sec q - sec p := wrapI (by have := hp.lo; have := hp.hi; have := hq.lo; omega) (by have := hp.lo; have := hq.hi; omega)
theorem G308x0_eq (hN : maxLen < N) {kind : Int} (h1 : 1 ≤ kind) (h2 : kind ≤ 5) {p q : D} (hp : SmpC p) (hq : SmpC q) (hlt : sec p < sec q) :
  G308x0 N (sv p 0) (sv p 1) (sv p 2) (sv p 3) (sv p 4) (sv p 5) (sv p 6) (sv q 0) (sv q 1) (sv q 2) (sv q 3) kind = some (false, stepL kind p q) := by
 have hm : maxLen = 9223372036854775807 := rfl
 have a1 := hp.lo
 have a2 := hq.hi
 unfold G308x0 F308x0
 rw [ref_val hN h1 h2 hp hq, show IntKind.wrap .i64 (sv q 0 - sv p 0) = sec q - sec p from wr3 hp hq]
 simp only [bnd_eq, Option.isSome_some, _root_.cond_true, getD_some, G308x0x33]
 rw [ref_secs (N := N) h1 (p := p) (val := valK kind p q) (n := sec q - sec p) (fun h4 => ref_low h1 h4 p q) (ln := bif decide (4 ≤ kind) then valK kind p q else 0) (fun h4 => by rw [decide_eq_true h4]; rfl) (by omega) (by omega) (sec q - sec p).toNat N 0 true [] (by omega) (by omega) (by omega) (by simp; omega)]
 rw [decide_eq_true (by omega : 0 < (sec q - sec p).toNat)]
 rfl
theorem at_drop {xs r : List D} {p : D} {i : Nat} (h : xs.drop i = p :: r) : i < xs.length ∧ xs.getD i (.i 0) = p ∧ xs.drop (i + 1) = r ∧ xs.length = i + 1 + r.length := by
 have hl := congrArg List.length h
 rw [List.length_drop, List.length_cons] at hl
 have hi : i < xs.length := by omega
 rw [List.drop_eq_getElem_cons hi] at h
 injection h with h1 h2
 exact ⟨hi, by rw [List.getD_eq_getElem?_getD, List.getElem?_eq_getElem hi]; exact h1, h2, by omega⟩
theorem prog_steps (hN : maxLen < N) {kind : Int} (h1 : 1 ≤ kind) (h2 : kind ≤ 5) {xs : List D} (hlen : xs.length ≤ 20000) : ∀ (r : List D) (p : D) (i m : Nat) (acc : List D), xs.drop i = p :: r → SmpsC (p :: r) → r.length < m → acc.length + (restL kind (p :: r)).length ≤ 4000000 →
  L369x0x3 N (R := Bool × LD) kind xs m ((i : Int) + 1) false acc (fun p => some p) = some (false, acc ++ restL kind (p :: r))
 | _, _, _, 0, _, _, _, hm, _ => by omega
 | [], p, i, m + 1, acc, hd, _, _, _ => by
  obtain ⟨_, _, _, hl⟩ := at_drop hd
  have : ¬ ((i : Int) + 1 < (xs.length : Int)) := by simp at hl; omega
  simp only [L369x0x3, S369x0x3, decide_eq_false this, _root_.cond_false, restL, List.append_nil]
 | q :: r, p, i, m + 1, acc, hd, hc, hm, hb => by
  obtain ⟨b1, b2, b3, b4⟩ := at_drop hd
  obtain ⟨c1, c2, _, _⟩ := at_drop b3
  have hM : maxLen = 9223372036854775807 := rfl
  have hp := hc.ok p (by simp)
  have hq := hc.ok q (by simp)
  have hlt : sec p < sec q := (List.pairwise_cons.1 hc.asc).1 q (by simp)
  have a1 := hp.lo
  have a2 := hq.hi
  have hw1 : IntKind.wrap .i64 ((i : Int) + 1 - 1) = i := wrapI (by omega) (by omega) |>.trans (by omega)
  have hw2 : IntKind.wrap .i64 ((i : Int) + 1 + 1) = ((i + 1 : Nat) : Int) + 1 := wrapI (by omega) (by omega) |>.trans (by omega)
  have hi1 : inB (i : Int) xs.length = true := inB_of (by omega) (by omega)
  have hi2 : inB ((i : Int) + 1) xs.length = true := inB_of (by omega) (by omega)
  have e1 : xs.getD ((i : Int)).toNat (.i 0) = p := by rw [Int.toNat_natCast]; exact b2
  have e2 : xs.getD ((i : Int) + 1).toNat (.i 0) = q := by rw [show ((i : Int) + 1).toNat = i + 1 by omega]; exact c2
  have hcnd : (i : Int) + 1 < (xs.length : Int) := by simp at b4; omega
  have hrl : (restL kind (p :: q :: r)).length = (stepL kind p q).length + (restL kind (q :: r)).length := by simp only [restL, List.length_append]
  have hsl : (stepL kind p q).length = (sec q - sec p).toNat := by unfold stepL; exact secsL_len
  have ih := prog_steps hN h1 h2 hlen r q (i + 1) m (acc ++ stepL kind p q) b3 hc.tail (by simp at hm; omega) (by rw [List.length_append]; omega)
  have hx : G369x0x10 N ((i : Int) + 1) kind false acc xs = some (false, acc ++ stepL kind p q) := by
   unfold G369x0x10 F369x0x10
   rw [hw1, hi1, hi2, e1, e2]
   simp only [bnd_eq, _root_.cond_true]
   rw [show IntKind.wrap .i64 ((q.cell 0).toI - (p.cell 0).toI) = sec q - sec p from wr3 hp hq]
   rw [show G269x0y600000010x33032 N false kind (kind == 1) (q.cell 1).toI (q.cell 2).toI (q.cell 3).toI (p.cell 1).toI (p.cell 2).toI (p.cell 3).toI (p.cell 4).toI (p.cell 5).toI (p.cell 6).toI = some (decide (4 ≤ kind), valK kind p q) from prog_val hN h1 h2 hp hq]
   simp only [Option.isSome_some, _root_.cond_true, getD_some, G269x0y600000010x57]
   rw [prog_secs (N := N) (by omega) (by omega) (sec q - sec p).toNat N 0 acc (by omega) (by omega) (by omega) (by omega)]
   rfl
  simp only [L369x0x3, S369x0x3, decide_eq_true hcnd, _root_.cond_true, bnd_eq, hx, Option.isSome_some, getD_some, hw2]
  rw [ih, restL, List.append_assoc]
theorem ref_steps (hN : maxLen < N) {kind : Int} (h1 : 1 ≤ kind) (h2 : kind ≤ 5) {xs : List D} (hlen : xs.length ≤ 20000) : ∀ (r : List D) (p : D) (i m : Nat) (nl : Bool) (acc : List D), xs.drop i = p :: r → SmpsC (p :: r) → r.length < m → acc.length + (restL kind (p :: r)).length ≤ 4000000 →
  L271x0x24 N (R := Bool × LD) kind xs m ((i : Int) + 1) nl acc (fun p => some p) = some (bif r.isEmpty then nl else false, acc ++ restL kind (p :: r))
 | _, _, _, 0, _, _, _, _, hm, _ => by omega
 | [], p, i, m + 1, nl, acc, hd, _, _, _ => by
  obtain ⟨_, _, _, hl⟩ := at_drop hd
  have : ¬ ((i : Int) + 1 < (xs.length : Int)) := by simp at hl; omega
  simp only [L271x0x24, S271x0x24, decide_eq_false this, _root_.cond_false, restL, List.append_nil]
  rfl
 | q :: r, p, i, m + 1, nl, acc, hd, hc, hm, hb => by
  obtain ⟨b1, b2, b3, b4⟩ := at_drop hd
  obtain ⟨c1, c2, _, _⟩ := at_drop b3
  have hM : maxLen = 9223372036854775807 := rfl
  have hp := hc.ok p (by simp)
  have hq := hc.ok q (by simp)
  have hlt : sec p < sec q := (List.pairwise_cons.1 hc.asc).1 q (by simp)
  have a1 := hp.lo
  have a2 := hq.hi
  have hw1 : IntKind.wrap .i64 ((i : Int) + 1 - 1) = i := wrapI (by omega) (by omega) |>.trans (by omega)
  have hw2 : IntKind.wrap .i64 ((i : Int) + 1 + 1) = ((i + 1 : Nat) : Int) + 1 := wrapI (by omega) (by omega) |>.trans (by omega)
  have hi1 : inB (i : Int) xs.length = true := inB_of (by omega) (by omega)
  have hi2 : inB ((i : Int) + 1) xs.length = true := inB_of (by omega) (by omega)
  have e1 : xs.getD ((i : Int)).toNat (.i 0) = p := by rw [Int.toNat_natCast]; exact b2
  have e2 : xs.getD ((i : Int) + 1).toNat (.i 0) = q := by rw [show ((i : Int) + 1).toNat = i + 1 by omega]; exact c2
  have hcnd : (i : Int) + 1 < (xs.length : Int) := by simp at b4; omega
  have hrl : (restL kind (p :: q :: r)).length = (stepL kind p q).length + (restL kind (q :: r)).length := by simp only [restL, List.length_append]
  have hsl : (stepL kind p q).length = (sec q - sec p).toNat := by unfold stepL; exact secsL_len
  have hne : (stepL kind p q).isEmpty = false := by
   cases hs : stepL kind p q with
   | nil => rw [hs] at hsl; simp at hsl; omega
   | cons => rfl
  have ih := ref_steps hN h1 h2 hlen r q (i + 1) m false (acc ++ stepL kind p q) b3 hc.tail (by simp at hm; omega) (by rw [List.length_append]; omega)
  have hg : G308x0 N (p.cell 0).toI (p.cell 1).toI (p.cell 2).toI (p.cell 3).toI (p.cell 4).toI (p.cell 5).toI (p.cell 6).toI (q.cell 0).toI (q.cell 1).toI (q.cell 2).toI (q.cell 3).toI kind = some (false, stepL kind p q) := G308x0_eq hN h1 h2 hp hq hlt
  have hr := roomOk (n := acc.length + (stepL kind p q).length) (by omega)
  simp only [L271x0x24, S271x0x24, decide_eq_true hcnd, _root_.cond_true, bnd_eq, hw1, hi1, hi2, e1, e2, hg, Option.isSome_some, getD_some, hw2, hr, hne, Bool.false_and]
  rw [ih, restL, List.append_assoc]
  cases r.isEmpty <;> rfl
theorem prog_stream (hN : maxLen < N) {kind : Int} (h1 : 1 ≤ kind) (h2 : kind ≤ 5) {xs : List D} (hlen : xs.length ≤ 20000) (hc : SmpsC xs) (h0 : xs ≠ [] → sec (xs.getD 0 (.i 0)) = 0) :
  G269x0 N xs kind = some (false, restL kind xs) ∧ ((restL kind xs).length : Int) = spanD xs ∧ 0 ≤ spanD xs ∧ spanD xs ≤ 1000000 := by
 have hM : maxLen = 9223372036854775807 := rfl
 have hspan : ((restL kind xs).length : Int) = spanD xs ∧ 0 ≤ spanD xs ∧ spanD xs ≤ 1000000 := by
  cases xs with
  | nil => exact ⟨rfl, by decide, by decide⟩
  | cons p r =>
   have e0 : sec p = 0 := h0 (by simp)
   have e1 : spanD (p :: r) = sec ((p :: r).getLast (by simp)) := by
    unfold spanD
    rw [decide_eq_true (by simp), _root_.cond_true, List.getLast_eq_getElem]
    rw [List.getD_eq_getElem?_getD, List.getElem?_eq_getElem (by simp), Option.getD_some]
    simp only [List.length_cons]
    congr 3
    omega
   have hl := rest_len (kind := kind) r p hc.asc
   have hx := hc.ok ((p :: r).getLast (by simp)) (List.getLast_mem _)
   refine ⟨by rw [hl, e1, e0]; omega, by rw [e1]; exact hx.lo, by rw [e1]; exact hx.hi⟩
 refine ⟨?_, hspan⟩
 obtain ⟨s1, s2, s3⟩ := hspan
 have hsp : G111x0 N xs = some (spanD xs) := G111x0_eq (by omega)
 have hr := roomOk (n := (spanD xs).toNat) (by omega)
 have hloop : G369x0x3 N kind xs 1 false [] = some (false, restL kind xs) := by
  unfold G369x0x3
  cases xs with
  | nil =>
   obtain ⟨M, rfl⟩ : ∃ M, N = M + 1 := ⟨N - 1, by omega⟩
   rfl
  | cons p r => exact prog_steps hN h1 h2 hlen r p 0 N [] rfl hc (by simp at hlen; omega) (by simp at s1 ⊢; omega)
 unfold G269x0 F269x0 G269x0x600000010 F269x0x600000010 G369x0 F369x0
 rw [hsp]
 simp only [bnd_eq, Option.isSome_some, _root_.cond_true, getD_some, decide_eq_true s2, hr, Bool.true_and, hloop]
theorem ref_stream (hN : maxLen < N) {kind : Int} (h1 : 1 ≤ kind) (h2 : kind ≤ 5) {xs : List D} (hlen : xs.length ≤ 20000) (hc : SmpsC xs) (h0 : xs ≠ [] → sec (xs.getD 0 (.i 0)) = 0) {name : List UInt8} {sport start : Int} {laps tags : List D} (hchk : G113x0 N name sport start xs laps tags = some 0) :
  ∃ nl, G271x0 N name sport start xs laps tags kind = some (nl, restL kind xs, 0) := by
 have hM : maxLen = 9223372036854775807 := rfl
 obtain ⟨s0, s1, s2, s3⟩ := prog_stream hN h1 h2 hlen hc h0
 have hloop : ∃ nl, G271x0x24 N kind xs 1 true [] = some (nl, restL kind xs) := by
  unfold G271x0x24
  cases xs with
  | nil =>
   obtain ⟨M, rfl⟩ : ∃ M, N = M + 1 := ⟨N - 1, by omega⟩
   exact ⟨true, rfl⟩
  | cons p r => exact ⟨_, ref_steps hN h1 h2 hlen r p 0 N true [] rfl hc (by simp at hlen; omega) (by simp at s1 ⊢; omega)⟩
 obtain ⟨nl, hl⟩ := hloop
 refine ⟨nl, ?_⟩
 unfold G271x0 F271x0
 rw [hchk]
 simp only [bnd_eq, Option.isSome_some, _root_.cond_true, getD_some, decide_eq_false (by omega : ¬ kind < 1), decide_eq_false (by omega : ¬ kind > 5), _root_.cond_false, hl]
 rfl
end Go.Proofs.YtmhaghcfopdifaaGreatDoor

namespace Go.Proofs.YtmhaghcfopdifaaGreatDoor
open Go Go.AM
set_option maxRecDepth 100000
set_option maxHeartbeats 4000000
variable {N : Nat}
theorem known_loop {xs : List D} (hl : xs.length ≤ 8000000) : ∀ (d m : Nat) (w a b : Int), d < m → 0 ≤ w → w + d = xs.length →
  ∃ r, L268x0x6 N (R := Int × Int) xs.length xs m w a b (fun p => some p) = some r ∧ L270x0x6 N (R := Int × Int) xs.length xs m w a b (fun p => some p) = some r
 | d, 0, w, a, b, hm, _, _ => by omega
 | 0, m + 1, w, a, b, hm, h0, h1 => by
  have : ¬ w < (xs.length : Int) := by omega
  refine ⟨(a, b), ?_, ?_⟩
  ·simp only [L268x0x6, S268x0x6, decide_eq_false this, _root_.cond_false]
  ·simp only [L270x0x6, S270x0x6, decide_eq_false this, _root_.cond_false]
 | d + 1, m + 1, w, a, b, hm, h0, h1 => by
  have hlt : w < (xs.length : Int) := by omega
  have hi : inB w xs.length = true := inB_of h0 (by omega)
  have hw : IntKind.wrap .i64 (w + 1) = w + 1 := wrapI (by omega) (by omega)
  obtain ⟨r, e1, e2⟩ := known_loop hl d m (w + 1) (V268x0x17 N a (xs.getD w.toNat (.i 0)).toI b (decide ((xs.getD w.toNat (.i 0)).toI ≥ 0))).1 (V268x0x17 N a (xs.getD w.toNat (.i 0)).toI b (decide ((xs.getD w.toNat (.i 0)).toI ≥ 0))).2 (by omega) (by omega) (by omega)
  refine ⟨r, ?_, ?_⟩
  ·simp only [L268x0x6, S268x0x6, decide_eq_true hlt, _root_.cond_true, hi, bnd_eq, hw]
   exact e1
  ·simp only [L270x0x6, S270x0x6, decide_eq_true hlt, _root_.cond_true, hi, bnd_eq, hw]
   exact e2
theorem known_eq (hN : maxLen < N) {xs : List D} (hl : xs.length ≤ 8000000) : ∃ r, G268x0 N xs = some r ∧ G270x0 N xs = some r := by
 have hM : maxLen = 9223372036854775807 := rfl
 obtain ⟨r, e1, e2⟩ := known_loop (N := N) hl xs.length N 0 0 0 (by omega) (by omega) (by omega)
 refine ⟨r, ?_, ?_⟩
 ·unfold G268x0 F268x0 G268x0x6; rw [e1]; rfl
 ·unfold G270x0 F270x0 G270x0x6; rw [e2]; rfl
theorem part_eq (hN : maxLen < N) {a b c d e : List D} {n : Int} (h0 : 0 ≤ n) (hn : n ≤ 1000000) (ha : (a.length : Int) = n) (hb : (b.length : Int) = n) (hc : (c.length : Int) = n) (hd : (d.length : Int) = n) (he : (e.length : Int) = n) :
  ∃ r, G203x0 N a b c d e 0 n = some r ∧ G208x0 N a b c d e 0 n = some r := by
 have hk : ∀ l : List D, (l.length : Int) = n → ((l.take n.toNat).drop (0 : Int).toNat).length ≤ 8000000 := by intro l hl; simp; omega
 obtain ⟨ra, a1, a2⟩ := known_eq hN (hk a ha)
 obtain ⟨rb, b1, b2⟩ := known_eq hN (hk b hb)
 obtain ⟨rc, c1, c2⟩ := known_eq hN (hk c hc)
 obtain ⟨rd, d1, d2⟩ := known_eq hN (hk d hd)
 obtain ⟨re, e1, e2⟩ := known_eq hN (hk e he)
 have cd : ∀ l : List D, (l.length : Int) = n → (((decide ((0 : Int) ≤ 0)) && (decide (0 ≤ n))) && (decide (n ≤ (l.length : Int)))) = true := by
  intro l hl; rw [decide_eq_true h0, decide_eq_true (by omega : n ≤ (l.length : Int))]; rfl
 refine ⟨(rd.1, re.1, ra.1, rb.1, rc.1, ra.2, rb.2, rc.2), ?_, ?_⟩
 ·unfold G203x0 F203x0
  simp only [cd a ha, cd b hb, cd c hc, cd d hd, cd e he, _root_.cond_true, a1, b1, c1, d1, e1, bnd_eq, Option.isSome_some, getD_some]
 ·unfold G208x0 F208x0
  simp only [cd a ha, cd b hb, cd c hc, cd d hd, cd e he, _root_.cond_true, a2, b2, c2, d2, e2, bnd_eq, Option.isSome_some, getD_some]
section
variable {name : List UInt8} {sport start : Int} {smps laps tags : List D}
theorem smps_of (hst0 : 0 ≤ start) (hst : start ≤ 86399999999) (h : firstE (smpE start smps) 0 smps = 0) : SmpsC smps ∧ (smps ≠ [] → sec (smps.getD 0 (.i 0)) = 0) := by
 have hz : ∀ (l : List D) (w : Int), firstE (smpE start smps) w l = 0 → ∀ i : Nat, i < l.length → smpE start smps (w + i) = 0 := by
  intro l
  induction l with
  | nil => intro w _ i hi; simp at hi
  | cons x r ih =>
   intro w h i hi
   simp only [firstE] at h
   have hw : smpE start smps w = 0 := by
    by_cases hx : smpE start smps w = 0
    ·exact hx
    ·have : (smpE start smps w != 0) = true := by simpa using hx
     rw [this, _root_.cond_true] at h
     exact h
   rw [hw] at h
   have h : firstE (smpE start smps) (w + 1) r = 0 := h
   cases i with
   | zero => simpa using hw
   | succ i =>
    have := ih (w + 1) h i (by simpa using hi)
    rwa [show w + 1 + (i : Int) = w + ((i + 1 : Nat) : Int) by omega] at this
 have hw : ∀ i : Nat, i < smps.length → ordE smps i = false ∧ farB start (smps.getD i (.i 0)) = false ∧ rngB (smps.getD i (.i 0)) = true := by
  intro i hi
  have := hz smps 0 h i hi
  rw [Int.zero_add] at this
  unfold smpE at this
  rw [Int.toNat_natCast] at this
  cases h1 : ordE smps (i : Int) with
  | true => rw [h1] at this; cases this
  | false =>
   rw [h1] at this
   simp only [_root_.cond_false] at this
   cases h2 : farB start (smps.getD i (.i 0)) with
   | true => rw [h2] at this; cases this
   | false =>
    rw [h2] at this
    cases h3 : rngB (smps.getD i (.i 0)) with
    | true => exact ⟨rfl, rfl, rfl⟩
    | false => rw [h3] at this; cases this
 have gd : ∀ {i : Nat} (hi : i < smps.length), smps.getD i (.i 0) = smps[i] := fun hi => by rw [List.getD_eq_getElem?_getD, List.getElem?_eq_getElem hi]; rfl
 have hfirst : smps ≠ [] → sec (smps.getD 0 (.i 0)) = 0 := by
  intro hne
  have := (hw 0 (by cases smps with | nil => exact absurd rfl hne | cons => simp)).1
  unfold ordE at this
  simpa using this
 have hord : ∀ i : Nat, i + 1 < smps.length → sec (smps.getD i (.i 0)) < sec (smps.getD (i + 1) (.i 0)) := by
  intro i hi
  have := (hw (i + 1) hi).1
  unfold ordE at this
  have e0 : (((i + 1 : Nat) : Int) == 0) = false := by simp; omega
  rw [e0] at this
  simp only [_root_.cond_false, decide_eq_false_iff_not] at this
  have e1 : (((i + 1 : Nat) : Int) - 1).toNat = i := by omega
  rw [e1, Int.toNat_natCast] at this
  unfold sec
  omega
 have hlt : ∀ k i : Nat, i + 1 + k < smps.length → sec (smps.getD i (.i 0)) < sec (smps.getD (i + 1 + k) (.i 0)) := by
  intro k
  induction k with
  | zero => intro i hi; exact hord i hi
  | succ k ih =>
   intro i hi
   have h1 := ih i (by omega)
   have h2 := hord (i + 1 + k) (by omega)
   rw [show i + 1 + (k + 1) = i + 1 + k + 1 by omega]
   omega
 have hasc : Asc smps := by
  unfold Asc
  rw [List.pairwise_iff_getElem]
  intro i j hi hj hij
  obtain ⟨k, rfl⟩ : ∃ k, j = i + 1 + k := ⟨j - i - 1, by omega⟩
  have := hlt k i hj
  rwa [gd hi, gd hj] at this
 refine ⟨⟨hasc, fun x hx => ?_⟩, hfirst⟩
 obtain ⟨i, hi, rfl⟩ := List.getElem_of_mem hx
 have hlo : 0 ≤ sec (smps.getD i (.i 0)) := by
  have hf := hfirst (by intro e; rw [e] at hi; simp at hi)
  rcases Nat.eq_zero_or_pos i with rfl | hp
  ·omega
  ·have := hlt (i - 1) 0 (by omega)
   rw [show 0 + 1 + (i - 1) = i by omega] at this
   omega
 obtain ⟨_, h2, h3⟩ := hw i hi
 rw [← gd hi]
 unfold farB at h2
 simp only [Bool.or_eq_false_iff, decide_eq_false_iff_not] at h2
 unfold rngB at h3
 simp only [Bool.and_eq_true, inI, decide_eq_true_eq] at h3
 exact ⟨hlo, by unfold sec; omega, h3.1.1.1.1.1, h3.1.1.1.1.2⟩
theorem G204x0_eq (hN : maxLen < N) (hlen : smps.length ≤ 20000) (hc : SmpsC smps) (h0 : smps ≠ [] → sec (smps.getD 0 (.i 0)) = 0) : G204x0 N smps = some (false, restL 1 smps, false, restL 2 smps, false, restL 3 smps, false, restL 4 smps, false, restL 5 smps) := by
 unfold G204x0 F204x0
 simp only [(prog_stream hN (by decide : (1 : Int) ≤ 1) (by decide) hlen hc h0).1, (prog_stream hN (by decide : (1 : Int) ≤ 2) (by decide) hlen hc h0).1, (prog_stream hN (by decide : (1 : Int) ≤ 3) (by decide) hlen hc h0).1, (prog_stream hN (by decide : (1 : Int) ≤ 4) (by decide) hlen hc h0).1, (prog_stream hN (by decide : (1 : Int) ≤ 5) (by decide) hlen hc h0).1, bnd_eq, Option.isSome_some, _root_.cond_true, getD_some]
theorem G209x0_eq (hN : maxLen < N) (hlen : smps.length ≤ 20000) (hc : SmpsC smps) (h0 : smps ≠ [] → sec (smps.getD 0 (.i 0)) = 0) (hchk : G113x0 N name sport start smps laps tags = some 0) :
  ∃ a b c d e, G209x0 N name sport start smps laps tags = some (a, restL 1 smps, b, restL 2 smps, c, restL 3 smps, d, restL 4 smps, e, restL 5 smps) := by
 obtain ⟨a, ha⟩ := ref_stream hN (by decide : (1 : Int) ≤ 1) (by decide) hlen hc h0 hchk
 obtain ⟨b, hb⟩ := ref_stream hN (by decide : (1 : Int) ≤ 2) (by decide) hlen hc h0 hchk
 obtain ⟨c, hc'⟩ := ref_stream hN (by decide : (1 : Int) ≤ 3) (by decide) hlen hc h0 hchk
 obtain ⟨d, hd⟩ := ref_stream hN (by decide : (1 : Int) ≤ 4) (by decide) hlen hc h0 hchk
 obtain ⟨e, he⟩ := ref_stream hN (by decide : (1 : Int) ≤ 5) (by decide) hlen hc h0 hchk
 refine ⟨a, b, c, d, e, ?_⟩
 unfold G209x0 F209x0
 simp only [ha, hb, hc', hd, he, bnd_eq, Option.isSome_some, _root_.cond_true, getD_some]
theorem partOf_eq (hN : maxLen < N) (hlen : smps.length ≤ 20000) (hc : SmpsC smps) (h0 : smps ≠ [] → sec (smps.getD 0 (.i 0)) = 0) (hchk1 : G108x0 N name sport start smps laps tags = some 0) (hchk : G113x0 N name sport start smps laps tags = some 0) :
  ∃ r : Ty2, G110x0 N name sport start smps laps tags 0 (spanD smps) = some r ∧ G115x0 N name sport start smps laps tags 0 (spanD smps) = some r := by
 have hM : maxLen = 9223372036854775807 := rfl
 obtain ⟨_, l1, s0, s1⟩ := prog_stream hN (by decide : (1 : Int) ≤ 1) (by decide) hlen hc h0
 obtain ⟨_, l2, _, _⟩ := prog_stream hN (by decide : (1 : Int) ≤ 2) (by decide) hlen hc h0
 obtain ⟨_, l3, _, _⟩ := prog_stream hN (by decide : (1 : Int) ≤ 3) (by decide) hlen hc h0
 obtain ⟨_, l4, _, _⟩ := prog_stream hN (by decide : (1 : Int) ≤ 4) (by decide) hlen hc h0
 obtain ⟨_, l5, _, _⟩ := prog_stream hN (by decide : (1 : Int) ≤ 5) (by decide) hlen hc h0
 obtain ⟨r, r1, r2⟩ := part_eq hN s0 s1 l1 l2 l3 l4 l5
 obtain ⟨a, b, c, d, e, hst⟩ := G209x0_eq hN hlen hc h0 hchk
 have hsp : G111x0 N smps = some (spanD smps) := G111x0_eq (by omega)
 have hsp' : G116x0 N smps = some (spanD smps) := G116x0_eq (by omega)
 have c1 : decide ((0 : Int) > spanD smps) = false := decide_eq_false (by omega)
 have c2 : decide (spanD smps > spanD smps) = false := decide_eq_false (by omega)
 have g1 : G110x0x13 N 0 (spanD smps) smps = some false := by
  unfold G110x0x13 F110x0x13
  rw [hsp, c1]; simp only [bnd_eq, Option.isSome_some, _root_.cond_true, getD_some, c2]; rfl
 have g2 : G115x0x13 N 0 (spanD smps) smps = some false := by
  unfold G115x0x13 F115x0x13
  rw [hsp', c1]; simp only [bnd_eq, Option.isSome_some, _root_.cond_true, getD_some, c2]; rfl
 refine ⟨(0, spanD smps, r.1, r.2.1, r.2.2.1, r.2.2.2.1, r.2.2.2.2.1, r.2.2.2.2.2.1, r.2.2.2.2.2.2.1, r.2.2.2.2.2.2.2, 0), ?_, ?_⟩
 ·unfold G110x0 F110x0
  rw [hchk1]
  simp only [bnd_eq, Option.isSome_some, _root_.cond_true, getD_some, g1, _root_.cond_false, G204x0_eq hN hlen hc h0, r1]
  rfl
 ·unfold G115x0 F115x0
  rw [hchk]
  simp only [bnd_eq, Option.isSome_some, _root_.cond_true, getD_some, g2, _root_.cond_false, hst, r2]
  rfl
end
end Go.Proofs.YtmhaghcfopdifaaGreatDoor

namespace Go.Proofs.YtmhaghcfopdifaaGreatDoor
open Go Go.AM
set_option maxRecDepth 100000
set_option maxHeartbeats 4000000
variable {N : Nat}
theorem G63x0_self (hN : maxLen < N) {l : List D} (hl : l.length ≤ maxLen) : G63x0 N l l = some true := by
 have h : G63x0x12 N (l.length : Int) l l 0 = some (.inr ()) := by
  unfold G63x0x12
  refine (for_ind (.i 0 : D) (xs := l) (S := fun w kr => S63x0x12 N l.length l l w kr _ _) (L := fun m w => L63x0x12 N l.length l l m w _ _) (fun m w => rfl) (fun _ _ => some (.inr ())) hl ?_ ?_ hN).trans rfl
  ·intro kr
   have : ¬ (l.length : Int) < (l.length : Int) := by omega
   simp only [S63x0x12, decide_eq_false this, _root_.cond_false]
  ·intro w kr h0 h1 hw hi hk
   simp only [S63x0x12, decide_eq_true h1, hi, _root_.cond_true, bnd_eq, beq_self_eq_true, Bool.not_true, _root_.cond_false, hw, hk]
 unfold G63x0 F63x0
 rw [h]
 simp only [bne_self_eq_false, _root_.cond_false, bnd_eq]
 rfl
theorem G32x0_self (hN : maxLen < N) {n : List UInt8} {a b c d e f : Int} {l : List D} (hl : l.length ≤ maxLen) : G32x0 N n a b c d e f l n a b c d e f l = some true := by
 unfold G32x0 F32x0 G32x0x4 F32x0x4
 simp only [beq_self_eq_true, _root_.cond_true, bnd_eq, G63x0_self hN hl, Option.isSome_some, getD_some]
section
variable {name : List UInt8} {sport start : Int} {smps laps tags : List D}
theorem row_eq (hN : maxLen < N) (h : ActOk name smps laps tags) {nl : Bool} (hnl : nl = true → tags = []) (load : Int) :
  ∃ (n : List UInt8) (a b c d e f : Int) (f1 f2 : Bool) (l : List D) (g : Int), l.length ≤ maxLen ∧ G30x0 N name sport start smps laps nl tags load = some (n, a, b, c, d, e, f, f1, l, g) ∧ G31x0 N name sport start smps laps tags load = some (n, a, b, c, d, e, f, f2, l, g) := by
 have hM : maxLen = 9223372036854775807 := rfl
 have k1 := G108x0_eq (N := N) (sport := sport) (start := start) hN h
 have k2 := G113x0_eq (N := N) (sport := sport) (start := start) hN h
 by_cases hc : chkA name sport start smps laps tags = 0
 ·by_cases hl : inI load 0 1000000 = true
  ·rw [hc] at k1 k2
   -- what is right
   have hc' := hc
   unfold chkA at hc'
   cases e1 : nameB name with
   | false => rw [e1] at hc'; cases hc'
   | true =>
   cases e2 : inI sport 1 5 with
   | false => rw [e1, e2] at hc'; cases hc'
   | true =>
   cases e3 : inI start 0 86399999999 with
   | false => rw [e1, e2, e3] at hc'; cases hc'
   | true =>
   rw [e1, e2, e3] at hc'
   simp only [Bool.not_true, _root_.cond_false] at hc'
   cases e4 : (decide ((smps.length : Int) > 20000) || decide ((laps.length : Int) > 200) || decide ((tags.length : Int) > 20)) with
   | true => rw [e4] at hc'; cases hc'
   | false =>
   rw [e4] at hc'
   simp only [_root_.cond_false] at hc'
   simp only [Bool.or_eq_false_iff, decide_eq_false_iff_not] at e4
   have e5 : firstE (smpE start smps) 0 smps = 0 := by
    by_cases hz : firstE (smpE start smps) 0 smps = 0
    ·exact hz
    ·have hb : (firstE (smpE start smps) 0 smps != 0) = true := by simpa using hz
     rw [hb] at hc'
     exact absurd hc' hz
   have hst := of_decide_eq_true (show inI start 0 86399999999 = true from e3)
   obtain ⟨hs, h0⟩ := smps_of hst.1 hst.2 e5
   obtain ⟨r, r1, r2⟩ := partOf_eq hN (by omega : smps.length ≤ 20000) hs h0 k1 k2
   have hsp : G111x0 N smps = some (spanD smps) := G111x0_eq h.s
   have hsp' : G116x0 N smps = some (spanD smps) := G116x0_eq h.s
   have ht : tags.length ≤ 20 := by omega
   have hroom : (decide ((0 + tags.length) * 16 ≤ room) && decide ((0 + tags.length) ≤ strMax)) = true := by
    have a1 : room = 140737488355328 := rfl
    have a2 : strMax = 9223372036854775807 := rfl
    rw [decide_eq_true (by omega), decide_eq_true (by omega)]; rfl
   have v1 : V109x0 N load 0 1000000 = true := by rw [V109x0_eq, hl]
   have v2 : V114x0 N load 0 1000000 = false := by rw [V114x0_eq, hl]; rfl
   have q2 : G31x0 N name sport start smps laps tags load = some (name, sport, start, r.2.2.1, r.2.2.2.1, r.2.1, load, false, tags, 0) := by
    unfold G31x0 F31x0
    rw [k2, hsp', v2]
    simp only [bnd_eq, Option.isSome_some, _root_.cond_true, getD_some, bne_self_eq_false, _root_.cond_false, Bool.and_false, r2, hroom]
   have q1 : ∃ f1, G30x0 N name sport start smps laps nl tags load = some (name, sport, start, r.2.2.1, r.2.2.2.1, r.2.1, load, f1, tags, 0) := by
    cases nl with
    | true =>
     have he := hnl rfl
     subst he
     refine ⟨true, ?_⟩
     unfold G30x0 F30x0 G30x0x22 F30x0x22 G112x0 F112x0
     rw [k1, hsp, v1]
     simp only [r1, bnd_eq, Option.isSome_some, _root_.cond_true, getD_some, bne_self_eq_false, _root_.cond_false, Bool.not_true, inlB_inl]
    | false =>
     refine ⟨false, ?_⟩
     unfold G30x0 F30x0 G30x0x22 F30x0x22 G112x0 F112x0
     rw [k1, hsp, v1]
     simp only [r1, hroom, bnd_eq, Option.isSome_some, _root_.cond_true, getD_some, bne_self_eq_false, _root_.cond_false, Bool.not_true, inlB_inr, inrQ_inr, Bool.and_false]
   obtain ⟨f1, q1⟩ := q1
   exact ⟨_, _, _, _, _, _, _, f1, false, tags, 0, h.t, q1, q2⟩
  ·have hl' : inI load 0 1000000 = false := by simpa using hl
   rw [hc] at k1 k2
   refine ⟨[], 0, 0, 0, 0, 0, 0, true, true, [], 9, by simp [maxLen], ?_, ?_⟩
   ·unfold G30x0 F30x0
    rw [k1, V109x0_eq, hl']
    rfl
   ·unfold G31x0 F31x0
    rw [k2, V114x0_eq, hl']
    rfl
 ·have hb : (chkA name sport start smps laps tags != 0) = true := by simpa using hc
  refine ⟨[], 0, 0, 0, 0, 0, 0, true, true, [], chkA name sport start smps laps tags, by simp [maxLen], ?_, ?_⟩
  ·unfold G30x0 F30x0
   rw [k1]
   simp only [bnd_eq, Option.isSome_some, _root_.cond_true, getD_some, hb]
  ·unfold G31x0 F31x0
   rw [k2]
   simp only [bnd_eq, Option.isSome_some, _root_.cond_true, getD_some, hb]
theorem law8 (hN : maxLen < N) (h : ActOk name smps laps tags) {nl : Bool} (hnl : nl = true → tags = []) (load : Int) {v10 : List UInt8} {v11 v12 v13 v14 v15 v16 : Int} {v18 : List D} (h10 : v10.length ≤ maxLen) (h18 : v18.length ≤ maxLen)
  (hx : ∀ j : Nat, ((v18.getD j (.i 0)).toS).length ≤ maxLen) : G8x0 N name sport start smps laps nl tags load v10 v11 v12 v13 v14 v15 v16 v18 = some true := by
 obtain ⟨n, a, b, c, d, e, f, f1, f2, l, g, hl, q1, q2⟩ := row_eq (sport := sport) (start := start) hN h hnl load
 unfold G8x0 F8x0
 rw [q1, q2]
 simp only [bnd_eq, Option.isSome_some, _root_.cond_true, getD_some]
 unfold G8x0x10 F8x0x10
 simp only [G32x0_self hN hl, bnd_eq, Option.isSome_some, _root_.cond_true, getD_some, beq_self_eq_true, G33x0_eq hN h10 h18 hx, G34x0_eq hN h10 h18 hx]
end
end Go.Proofs.YtmhaghcfopdifaaGreatDoor

namespace Go.Proofs.YtmhaghcfopdifaaGreatDoor
open Go Go.AM
set_option maxRecDepth 100000
set_option maxHeartbeats 4000000
theorem kinds52 : kinds Tryz.prog 52 = [.str, .int .i64, .int .i64, .sl 216, .sl 219, .sl 9] := by kernel_rfl
theorem kinds3 : kinds Tryz.prog 3 = [.int .i64] := by kernel_rfl
theorem kinds219 : kinds Tryz.prog 219 = [.int .i64, .int .i64, .str] := by kernel_rfl
theorem kinds44 : kinds Tryz.prog 44 = [.str, .int .i64, .int .i64, .int .i64, .int .i64, .int .i64, .int .i64, .sl 9] := by kernel_rfl
theorem kinds9 : kinds Tryz.prog 9 = [.str] := by kernel_rfl
theorem agg9 : isAggB Tryz.prog 9 = false := by kernel_rfl
theorem int1 {m : Nat} {k : IntKind} {d : D} (h : TyK Tryz.prog m (.int k) d) : ∃ i, d = .i i := by
 cases m with
 | zero => exact h.elim
 | succ m => obtain ⟨i, h1, _⟩ := h; exact ⟨i, h1⟩
theorem str1 {m : Nat} {d : D} (h : TyK Tryz.prog m .str d) : ∃ s, d = .s s ∧ s.length ≤ maxLen := by
 cases m with
 | zero => exact h.elim
 | succ m => exact h
theorem sl1 {m : Nat} {e : TypeId} {d : D} (h : TyK Tryz.prog m (.sl e) d) : ∃ nl xs, d = .l nl xs ∧ xs.length ≤ maxLen ∧ (nl = true → xs = []) ∧ ∀ x ∈ xs, ∃ m', TyEl Tryz.prog (TyK Tryz.prog m') e x := by
 cases m with
 | zero => exact h.elim
 | succ m => obtain ⟨nl, xs, h1, h0, h2, h3⟩ := h; exact ⟨nl, xs, h1, h2, h0, fun x hx => ⟨m, h3 x hx⟩⟩
theorem strs9 {m : Nat} {x : D} (h : TyEl Tryz.prog (TyK Tryz.prog m) 9 x) : x.toS.length ≤ maxLen := by
 unfold TyEl at h
 rw [if_neg (by rw [agg9]; simp)] at h
 obtain ⟨k, h1, h2⟩ := h
 rw [kinds9] at h1
 simp only [List.cons.injEq, and_true] at h1
 subst h1
 obtain ⟨s, rfl, hs⟩ := str1 h2
 exact hs
theorem lap219 {m : Nat} {x : D} (h : TyEl Tryz.prog (TyK Tryz.prog m) 219 x) : (x.cell 2).toS.length ≤ maxLen := by
 unfold TyEl at h
 rw [if_pos (show isAggB Tryz.prog 219 = true by kernel_rfl), kinds219] at h
 obtain ⟨cs, rfl, hc⟩ := h
 obtain ⟨_, _, rfl, h0, hc⟩ := all2_cons hc
 obtain ⟨_, _, rfl, h1, hc⟩ := all2_cons hc
 obtain ⟨_, _, rfl, h2, hc⟩ := all2_cons hc
 obtain rfl := all2_nil hc
 obtain ⟨s, rfl, hs⟩ := str1 h2
 exact hs
theorem arg52 {m : Nat} {ds : List D} (h : ArgOk Tryz.prog m 52 ds) : ∃ name sport start a smps b laps c tags, ds = [.s name, .i sport, .i start, .l a smps, .l b laps, .l c tags] ∧ ActOk name smps laps tags ∧ (c = true → tags = []) := by
 unfold ArgOk at h
 rw [kinds52] at h
 obtain ⟨_, _, rfl, h0, h⟩ := all2_cons h
 obtain ⟨_, _, rfl, h1, h⟩ := all2_cons h
 obtain ⟨_, _, rfl, h2, h⟩ := all2_cons h
 obtain ⟨_, _, rfl, h3, h⟩ := all2_cons h
 obtain ⟨_, _, rfl, h4, h⟩ := all2_cons h
 obtain ⟨_, _, rfl, h5, h⟩ := all2_cons h
 obtain rfl := all2_nil h
 obtain ⟨name, rfl, hn⟩ := str1 h0
 obtain ⟨sport, rfl⟩ := int1 h1
 obtain ⟨start, rfl⟩ := int1 h2
 obtain ⟨a, smps, rfl, l1, _, _⟩ := sl1 h3
 obtain ⟨b, laps, rfl, l2, _, e2⟩ := sl1 h4
 obtain ⟨c, tags, rfl, l3, n3, e3⟩ := sl1 h5
 exact ⟨name, sport, start, a, smps, b, laps, c, tags, rfl, ⟨hn, l1, l2, l3, fun x hx => by obtain ⟨_, q⟩ := e2 x hx; exact lap219 q, fun x hx => by obtain ⟨_, q⟩ := e3 x hx; exact strs9 q⟩, n3⟩
theorem arg3 {m : Nat} {ds : List D} (h : ArgOk Tryz.prog m 3 ds) : ∃ n, ds = [.i n] := by
 unfold ArgOk at h
 rw [kinds3] at h
 obtain ⟨_, _, rfl, h0, h⟩ := all2_cons h
 obtain rfl := all2_nil h
 obtain ⟨n, rfl⟩ := int1 h0
 exact ⟨n, rfl⟩
theorem arg44 {m : Nat} {ds : List D} (h : ArgOk Tryz.prog m 44 ds) : ∃ s a b c d e f nl xs, ds = [.s s, .i a, .i b, .i c, .i d, .i e, .i f, .l nl xs] ∧ s.length ≤ maxLen ∧ xs.length ≤ maxLen ∧ ∀ j : Nat, ((xs.getD j (.i 0)).toS).length ≤ maxLen := by
 unfold ArgOk at h
 rw [kinds44] at h
 obtain ⟨_, _, rfl, h0, h⟩ := all2_cons h
 obtain ⟨_, _, rfl, h1, h⟩ := all2_cons h
 obtain ⟨_, _, rfl, h2, h⟩ := all2_cons h
 obtain ⟨_, _, rfl, h3, h⟩ := all2_cons h
 obtain ⟨_, _, rfl, h4, h⟩ := all2_cons h
 obtain ⟨_, _, rfl, h5, h⟩ := all2_cons h
 obtain ⟨_, _, rfl, h6, h⟩ := all2_cons h
 obtain ⟨_, _, rfl, h7, h⟩ := all2_cons h
 obtain rfl := all2_nil h
 obtain ⟨s, rfl, hs⟩ := str1 h0
 obtain ⟨a, rfl⟩ := int1 h1
 obtain ⟨b, rfl⟩ := int1 h2
 obtain ⟨c, rfl⟩ := int1 h3
 obtain ⟨d, rfl⟩ := int1 h4
 obtain ⟨e, rfl⟩ := int1 h5
 obtain ⟨f, rfl⟩ := int1 h6
 obtain ⟨nl, xs, rfl, hl, _, hx⟩ := sl1 h7
 refine ⟨s, a, b, c, d, e, f, nl, xs, rfl, hs, hl, fun j => ?_⟩
 by_cases hj : j < xs.length
 ·obtain ⟨m', hm⟩ := hx (xs.getD j (.i 0)) (by rw [List.getD_eq_getElem?_getD, List.getElem?_eq_getElem hj]; exact List.getElem_mem hj)
  exact strs9 hm
 ·rw [List.getD_eq_getElem?_getD, List.getElem?_eq_none (by omega)]
  exact Nat.zero_le _
theorem callLaw (m : Nat) (dss : List (List D)) (h : All2 (ArgOk Tryz.prog m) Tryz.f8.params.toList dss) : CallOk Tryz.prog 8 (argVs Tryz.prog Tryz.f8.params.toList dss) [] ([.c (.b true)], []) := by
 have hp : Tryz.f8.params.toList = [52, 3, 44] := by kernel_rfl
 rw [hp] at h ⊢
 match dss, h with
 | [d0, d1, d2], ⟨h0, h1, h2, _⟩ =>
  obtain ⟨name, sport, start, a, smps, b, laps, c, tags, rfl, ha, hnl⟩ := arg52 h0
  obtain ⟨load, rfl⟩ := arg3 h1
  obtain ⟨t, p1, p2, p3, p4, p5, p6, nl', ys, rfl, ht, hl, hx⟩ := arg44 h2
  refine ok8x0 18446744073709551616 _ _ (A8x0 18446744073709551616 [.s name, .i sport, .i start, .b a, .l smps, .b b, .l laps, .b c, .l tags, .i load, .s t, .i p1, .i p2, .i p3, .i p4, .i p5, .i p6, .b nl', .l ys]) (by kernel_rfl) _ ?_
  have e : A8x0 18446744073709551616 [.s name, .i sport, .i start, .b a, .l smps, .b b, .l laps, .b c, .l tags, .i load, .s t, .i p1, .i p2, .i p3, .i p4, .i p5, .i p6, .b nl', .l ys] = bnd (G8x0 18446744073709551616 name sport start smps laps c tags load t p1 p2 p3 p4 p5 p6 ys) fun q => [(q.isSome, ([.c (.b (q.getD default))], []))] := by kernel_rfl
  rw [e, law8 (by decide) ha hnl load ht hl hx]
  rfl
theorem Tryz.own : ownKnob Tryz.prog.godebug = none := by kernel_rfl
theorem Tryz.laidOut : laidOutB Tryz.prog = true := by kernel_rfl
theorem bulkOk {H : Type} : BulkOk (Rows.uptoBulk : DataW H → Nat) Rows.uptoBulkAll := by
 refine ⟨fun l => ?_, fun l => ?_, ?_, fun e s => ?_, fun p => ?_, ?_, fun d r => ?_⟩
 ·cases l <;> simp [Rows.uptoBulk]
 ·simp [Rows.uptoBulk]
 ·simp [Rows.uptoBulk]
 ·simp only [Rows.uptoBulk]; omega
 ·simp [Rows.uptoBulk]
 ·simp [Rows.uptoBulkAll]
 ·simp [Rows.uptoBulkAll]
theorem g0 : Tryz.prog.globalNamed "internal/bytealg.MaxLen" = some 0 := by kernel_rfl
theorem g1 : Tryz.prog.globalNamed "internal/strconv.uint64pow10" = some 1 := by kernel_rfl
theorem g2 : Tryz.prog.globalNamed "strconv.ErrSyntax" = some 2 := by kernel_rfl
theorem g3 : Tryz.prog.globalNamed "strconv.ErrRange" = some 3 := by kernel_rfl
theorem giW {W : World} (hs : W.ShapedOpen Tryz.prog) (hl : laidMetH Tryz.prog Rows.askRowsMatchSpecRow.laid W) {M : Stab} (hM : ∀ b o, ¬ M b o) : GI Tryz.prog M W := by
 have hl : laidMet Tryz.prog Rows.askRowsMatchSpecRow.laid W := hl
 refine gi_of g0 g1 g2 g3 ?_ ?_ ?_ ?_ hM
 ·exact gat_int (t := 3) (zero := #[.int .i64 0]) hs (of_decide_eq_true (by kernel_rfl)) (by kernel_rfl) rfl (by kernel_rfl) (by kernel_rfl) (by kernel_rfl)
 ·obtain ⟨ps, hv, _⟩ := hl
  obtain ⟨g, t, cs, fuel, p, q1, q2, q3, q4⟩ := laid_get (x := ("internal/strconv.uint64pow10", Rows.laid_internal_strconv_uint64pow10)) hv (by simp [Rows.askRowsMatchSpecRow])
  obtain rfl := Option.some.inj ((show (Tryz.prog.globals[1]?).map (·.type) = some 407 by kernel_rfl).symm.trans (by rw [Option.some.inj (g1.symm.trans q1)]; exact q2))
  have hcs := Lib.cells_of_tab (k := .u64) (zs := (List.range 20).map fun i => ((10 ^ i : Nat) : Int)) (n := 20) (e := 315) (t := 407) (by kernel_rfl) (by kernel_rfl) (by kernel_rfl) (by kernel_rfl) (show DataW.trod _ _ _ _ _ _ fuel 407 cs.toList = some (Lib.tabData .u64 ((List.range 20).map fun i => ((10 ^ i : Nat) : Int)), p) from q4)
  refine gat_tab (k := .u64) (zs := (List.range 20).map fun i => ((10 ^ i : Nat) : Int)) g1 (show W.var? Tryz.prog _ = _ by rw [q3, ← hcs]) (by simp) fun i p z h1 h2 => ?_
  rw [List.getElem?_map] at h1 h2
  obtain ⟨j, j1, rfl⟩ := Option.map_eq_some_iff.1 h1
  rw [j1] at h2
  simp only [Option.map_some, Option.some.injEq] at h2
  subst h2
  rfl
 ·exact gat_err (t := 209) hl (show ("strconv.ErrSyntax", Rows.laid_strconv_ErrSyntax) ∈ Rows.askRowsMatchSpecRow.laid by simp [Rows.askRowsMatchSpecRow]) g2 (by kernel_rfl) (by kernel_rfl)
 ·exact gat_err (t := 209) hl (show ("strconv.ErrRange", Rows.laid_strconv_ErrRange) ∈ Rows.askRowsMatchSpecRow.laid by simp [Rows.askRowsMatchSpecRow]) g3 (by kernel_rfl) (by kernel_rfl)
abbrev synS : ByteArray := { data := #[105, 110, 118, 97, 108, 105, 100, 32, 115, 121, 110, 116, 97, 120] }
abbrev rngS : ByteArray := { data := #[118, 97, 108, 117, 101, 32, 111, 117, 116, 32, 111, 102, 32, 114, 97, 110, 103, 101] }
noncomputable def low : Nat := (World.holding Tryz.prog default ⟨#[], #[], []⟩).heap.size
def tabOf {H : Type} : DataW H → Array Value
 | .agg l => (l.map fun | .lit (.int k n) => Value.int k n | _ => undef).toArray
 | _ => #[]
def setG (h : Array Obj) (g : Nat) (vs : Array Value) : Array Obj := h.modify g fun
 | .cells _ t fr => .cells vs t fr
 | o => o
noncomputable def laidWorld (os : Os) : World :=
 let w0 := World.holding Tryz.prog os ⟨#[.cells #[.string synS] 444, .cells #[.string rngS] 444], #[], []⟩
 { w0 with heap := setG (setG (setG (setG (setG w0.heap 1 (tabOf (H := Unit) Rows.laid_internal_strconv_uint64pow10)) 2 #[.iface 442 (.pointer (some ⟨low, 0, none⟩))]) 3 #[.iface 442 (.pointer (some ⟨low + 1, 0, none⟩))])
   4 (tabOf (H := Unit) Rows.laid_math_bits_deBruijn32tab)) 5 (tabOf (H := Unit) Rows.laid_math_bits_deBruijn64tab) }
def arg0 : Value := .agg #[.string ⟨#[]⟩, .int .i64 0, .int .i64 0, .slice none 0 0, .slice none 0 0, .slice none 0 0]
def argL : Value := .int .i64 0
def arg1 : Value := .agg #[.string ⟨#[]⟩, .int .i64 0, .int .i64 0, .int .i64 0, .int .i64 0, .int .i64 0, .int .i64 0, .slice none 0 0]
def dat0 {H : Type} : DataW H := .agg [.lit (.string []), .lit (.int .i64 0), .lit (.int .i64 0), .nil, .nil, .nil]
def datL {H : Type} : DataW H := .lit (.int .i64 0)
def dat1 {H : Type} : DataW H := .agg [.lit (.string []), .lit (.int .i64 0), .lit (.int .i64 0), .lit (.int .i64 0), .lit (.int .i64 0), .lit (.int .i64 0), .lit (.int .i64 0), .nil]
theorem laid_met (os : Os) : laidMet Tryz.prog Rows.askRowsMatchSpecRow.laid ((laidWorld os).forCall (fun _ _ => 0) ⟨#[], #[arg0, argL, arg1], []⟩).memory :=
 laidMet_of_run' 8 (by kernel_rfl) (by kernel_rfl)
theorem reads (os : Os) {H : Type} (enc : TypeId × Value → H) : ∃ places, DataW.whole enc Tryz.prog ((laidWorld os).forCall (fun _ _ => 0) ⟨#[], #[arg0, argL, arg1], []⟩).memory Tryz.f8.params.toList Rows.askRowsMatchSpecSpec.vars false #[arg0, argL, arg1].toList 8 = some ([dat0, datL, dat1], [], places) :=
 ⟨[], by kernel_rfl⟩
theorem lifted (os : Os) (started : os.Started) (H : Type) (enc : TypeId × Value → H) (F : Stop.Interp) :
  ReturnsInHanded {} Tryz.checked os 8 .any ((OpenSpec.ofChange Rows.askRowsMatchSpecSpec).preRow enc Tryz.prog Tryz.f8 Rows.askRowsMatchSpecRow.domain false Rows.askRowsMatchSpecRow.laid) (((OpenSpec.ofChange Rows.askRowsMatchSpecSpec).at F).post enc Tryz.prog Tryz.f8 false true false false) := by
 obtain ⟨places, hx⟩ := reads os enc
 refine returnsInHanded_of_row (C := Tryz.checked) (s := OpenSpec.ofChange Rows.askRowsMatchSpecSpec) Tryz.own started (by kernel_rfl) Tryz.func8
  (witness_row_at (enc := enc) (C := Tryz.checked) false (laidWorld os) #[arg0, argL, arg1] rfl (by kernel_rfl) (by kernel_rfl) (by kernel_rfl)
   (OpenSpec.preRow_of_cond 8 hx (by kernel_rfl) (fun k hk => by cases hk) (by kernel_rfl) (laid_met os))) ?_
 intro W base args ds gs before hval hW _ _ _ hL hsh _
 exact law_callR (tb := 4) bulkOk [216, 219, 9] (by kernel_rfl) Tryz.laidOut rfl (by kernel_rfl) (by kernel_rfl) (by kernel_rfl) (fun l hl => by
  rw [show Tryz.f8.params.size = 3 by kernel_rfl] at hl
  match l, hl with
  | [_, _, _], _ => rfl) (fun m dss h _ => callLaw m dss h) (fun hM => giW hsh hL hM) hval hW
end Go.Proofs.YtmhaghcfopdifaaGreatDoor

