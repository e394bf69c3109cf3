/- A part of a proof of a law: lemmas. Conditions: those of each lemma. -/
import Derived.Test.YtohplnjpncjhoaaGreatDoorVRp2
import Derived.KernelRfl
import Derived.Test.YtohplnjpncjhoaaGreatDoorCards
import Derived.Test.YtohplnjpncjhoaaGreatDoorTie
import Derived.Deep.DeepHandedRow
import Derived.ProofKit
set_option linter.all false
set_option maxRecDepth 100000
namespace Go.Proofs.YtohplnjpncjhoaaGreatDoor
open Go Go.AM
set_option maxRecDepth 100000
set_option maxHeartbeats 4000000
variable {N : Nat}
theorem i64_atoi {l : List UInt8} (h : atoiOk l = true) : i64B (atoiV l) = true := by
 unfold atoiOk at h
 unfold atoiV
 cases ha : Lib.atoiAll l with
 | range => rw [ha] at h; cases h
 | ok v =>
  simp only
  unfold Lib.atoiAll at ha
  cases l with
  | nil => cases ha
  | cons c r =>
   simp only at ha
   split at ha
   ·cases ha
   ·cases ha
   ·rename_i u _
    unfold i64B
    split at ha
    ·cases ha
    ·split at ha
     ·cases ha
     ·cases ha
      rw [Bool.and_eq_true, decide_eq_true_eq, decide_eq_true_eq]
      split <;> omega
 | _ => rw [ha] at h; cases h
theorem G97x0_eq (v : List UInt8) : G97x0 N v = some (isNeg v) := by
 unfold G97x0 F97x0
 cases v with
 | nil => rfl
 | cons c r =>
  have h1 : decide ((1 : Int) ≤ ((c :: r).length : Int)) = true := decide_eq_true (by simp; omega)
  have h2 : decide (((c :: r).length : Int) ≥ 1) = true := decide_eq_true (by simp; omega)
  rw [h1]
  simp only [_root_.cond_true, bnd_eq]
  congr 1
  by_cases hc : c = 45
  ·subst hc; rfl
  ·have e1 : isNeg (c :: r) = false := by
    unfold isNeg
    split
    ·rename_i hh; injection hh with q; exact absurd q hc
    ·rfl
   rw [e1]
   simp [hc]
theorem drop_unsign {v : List UInt8} (h : isNeg v = true) : (v.take (v.length : Int).toNat).drop 1 = unsign v ∧ 1 ≤ v.length := by
 rcases unsign_cases v with ⟨_, q⟩ | ⟨q, _⟩
 ·rw [Int.toNat_natCast, List.take_length]
  constructor
  ·conv => lhs; rw [q]
   rfl
  ·rw [q]; simp
 ·rw [h] at q; cases q
theorem G51x0_eq (v : List UInt8) : G51x0 N v = some (unsign v) := by
 unfold G51x0 F51x0 G70x0 F70x0
 rw [G97x0_eq]
 cases h : isNeg v with
 | true =>
  obtain ⟨h1, h2⟩ := drop_unsign h
  simp only [bnd_eq, Option.isSome_some, _root_.cond_true, getD_some, h1, decide_eq_true (by omega : (1 : Int) ≤ (v.length : Int)), decide_eq_true (Int.le_refl (v.length : Int)), Bool.and_self]
 | false =>
  rcases unsign_cases v with ⟨q, _⟩ | ⟨_, q⟩
  ·rw [h] at q; cases q
  ·simp only [bnd_eq, Option.isSome_some, _root_.cond_true, _root_.cond_false, getD_some, q]
theorem G35x0_eq (v : List UInt8) (hv : v.length ≤ 281474976710656) : G35x0 N v = some (atoiV v, numB 9 v) := by
 have hb : Nat.ble v.length 281474976710656 = true := by rw [Nat.ble_eq]; exact hv
 have hn := num_iff (k := 9) (by decide) v
 unfold G35x0 F35x0 G35x0x7 F35x0x7
 rw [hb]
 simp only [_root_.cond_true, G51x0_eq, bnd_eq, Option.isSome_some, getD_some]
 rw [← hn]
 have hd : decide (((unsign v).length : Int) ≤ 9) = decide ((unsign v).length ≤ 9) := by rw [Bool.eq_iff_iff]; simp; omega
 rw [hd]
 cases ha : atoiOk v with
 | false => rfl
 | true =>
  cases decide ((unsign v).length ≤ 9) with
  | false => rfl
  | true => rw [i64_atoi ha]; rfl
end Go.Proofs.YtohplnjpncjhoaaGreatDoor

namespace Go.Proofs.YtohplnjpncjhoaaGreatDoor
open Go Go.AM
set_option maxRecDepth 100000
set_option maxHeartbeats 4000000
variable {N : Nat}
def firstX (x : List UInt8) : Int → List D → Sum Int Unit
 | _, [] => .inr ()
 | w, d :: r => bif x == d.toS then .inl w else firstX x (w + 1) r
def posK (x : List UInt8) (r : List D) : Int := match firstX x 1 r with | .inl i => i | .inr _ => 0
theorem firstX_pos {x : List UInt8} : ∀ {l : List D} {w i : Int}, 0 < w → firstX x w l = .inl i → 0 < i
 | [], _, _, _, h => by cases h
 | d :: r, w, i, hw, h => by
  simp only [firstX] at h
  cases hx : x == d.toS with
  | true => rw [hx] at h; cases h; exact hw
  | false => rw [hx] at h; exact firstX_pos (by omega) h
theorem G34x0_eq (hN : maxLen < N) {x : List UInt8} (hx : x ≠ []) {r : List D} (hl : r.length ≤ 100) : G34x0 N (.s [] :: r) x = some (bif posK x r == 0 then -1 else posK x r) := by
 have hM : maxLen = 9223372036854775807 := rfl
 have hl2 : (D.s [] :: r).length ≤ maxLen := by simp; omega
 have h : G34x0x6 N (.s [] :: r) x ((D.s [] :: r).length : Int) 0 = some (firstX x 0 (.s [] :: r)) := by
  unfold G34x0x6
  refine (for_ind (.i 0 : D) (xs := .s [] :: r) (S := fun w kr => S34x0x6 N (.s [] :: r) x ((D.s [] :: r).length : Int) w kr _ _) (L := fun m w => L34x0x6 N (.s [] :: r) x ((D.s [] :: r).length : Int) m w _ _) (fun m w => rfl) (fun w l => some (firstX x w l)) hl2 ?_ ?_ hN).trans rfl
  ·intro kr
   have : ¬ (((D.s [] :: r).length : Nat) : Int) < ((D.s [] :: r).length : Int) := by omega
   simp only [S34x0x6, decide_eq_false this, _root_.cond_false, firstX]
  ·intro w kr h0 h1 hw hi hk
   simp only [S34x0x6, decide_eq_true h1, _root_.cond_true, hi, hw, hk, firstX]
   cases (x == ((D.s [] :: r).getD w.toNat (.i 0)).toS) <;> rfl
 have h0 : (x == (D.s []).toS) = false := by
  show (x == []) = false
  simpa using hx
 have e0 : firstX x 0 (.s [] :: r) = firstX x 1 r := by simp only [firstX, h0]; rfl
 unfold G34x0 F34x0 posK
 rw [h, e0]
 cases hf : firstX x 1 r with
 | inl i =>
  have := firstX_pos (by decide) hf
  simp only [bnd_eq, inlB_inl, inlV_inl, _root_.cond_true]
  rw [show (i == 0) = false by simp; omega]
  rfl
 | inr u => rfl
theorem at_dropD {xs r : List D} {p : D} {i : Nat} (h : xs.drop i = p :: r) : i < xs.length ∧ xs.getD i (.i 0) = p ∧ xs.drop (i + 1) = r := by
 have hl := congrArg List.length h
 rw [List.length_drop, List.length_cons] at hl
 have hi : i < xs.length := by omega
 rw [List.drop_eq_getElem_cons hi] at h
 injection h with h1 h2
 exact ⟨hi, by rw [List.getD_eq_getElem?_getD, List.getElem?_eq_getElem hi]; exact h1, h2⟩
end Go.Proofs.YtohplnjpncjhoaaGreatDoor

namespace Go.Proofs.YtohplnjpncjhoaaGreatDoor
open Go Go.AM
set_option maxRecDepth 100000
set_option maxHeartbeats 4000000
variable {N : Nat}
def LV : List D := [(.s [102, 114, 105, 101, 110, 100]), (.s [99, 108, 117, 98]), (.s [97, 108, 108])]
def FL : List D := [(.s [112, 117, 108, 115, 101]), (.s [112, 111, 119, 101, 114]), (.s [115, 116, 101, 112, 115]), (.s [104, 101, 105, 103, 104, 116])]
def WH : List D := [(.s [112, 108, 97, 99, 101]), (.s [104, 111, 117, 114, 115]), (.s []), (.s [116, 97, 103]), (.s [115, 112, 111, 114, 116]), (.s [100, 97, 121]), (.s [110, 97, 109, 101]), (.s [103, 114, 105, 100])]
abbrev RT : Type := Int × Int × Int × Int × Int × Int × Int × Int × LB × Bool
def okT (r : RT) : Bool := r.2.2.2.2.2.2.2.2.2
section
variable {a b : List UInt8} {rest : List D}
theorem iI (x : Int) : (D.i x).toI = x := rfl
end
end Go.Proofs.YtohplnjpncjhoaaGreatDoor

namespace Go.Proofs.YtohplnjpncjhoaaGreatDoor
open Go Go.AM
set_option maxRecDepth 100000
set_option maxHeartbeats 4000000
variable {N : Nat}
def inI (n a b : Int) : Bool := decide (a ≤ n ∧ n ≤ b)
def ltr (n : Int) : Bool := decide (97 ≤ n ∧ n ≤ 122 ∨ 65 ≤ n ∧ n ≤ 90 ∨ 48 ≤ n ∧ n ≤ 57 ∨ n = 45 ∨ n = 95 ∨ n = 46)
def nameB (s : List UInt8) : Bool := s.all (fun c => ltr (c.toNat : Int)) && decide (1 ≤ s.length ∧ s.length ≤ 60)
theorem G56x0x6_eq (hN : maxLen < N) {s : List UInt8} (hs : s.length ≤ maxLen) : G56x0x6 N s 0 = some (bif s.all (fun c => ltr (c.toNat : Int)) then .inr () else .inl ()) := by
 unfold G56x0x6
 refine (for_ind (0 : UInt8) (S := fun w kr => S56x0x6 N s w kr _ _) (L := fun m w => L56x0x6 N s m w _ _) (fun m w => rfl) (fun _ l => some (bif l.all (fun c => ltr (c.toNat : Int)) then .inr () else .inl ())) hs ?_ ?_ hN).trans rfl
 ·intro kr; simp [S56x0x6]
 ·intro w kr h0 h1 hw hi hk
  simp only [S56x0x6, decide_eq_true h1, _root_.cond_true, hi, bnd_eq, hw, hk, List.all_cons]
  generalize ((s.getD w.toNat 0).toNat : Int) = n
  refine (cond_congr (c' := !ltr n) ?_).trans ?_
  ·rw [Bool.eq_iff_iff]; simp [ltr]; omega
  ·cases ltr n <;> rfl
theorem G56x0_eq (hN : maxLen < N) {s : List UInt8} (hs : s.length ≤ maxLen) : G56x0 N s = some (nameB s) := by
 unfold G56x0 F56x0
 rw [G56x0x6_eq hN hs]
 unfold nameB
 cases s.all (fun c => ltr (c.toNat : Int)) with
 | false => rfl
 | true =>
  simp only [bnd_eq, inlB_inr, inrQ_inr, _root_.cond_true, _root_.cond_false, Option.isSome_some, Bool.true_and]
  congr 1
  rw [Bool.eq_iff_iff]; simp; omega
theorem G53x0x6_eq (hN : maxLen < N) {s : List UInt8} (hs : s.length ≤ maxLen) : G53x0x6 N s s.length 0 = some (bif s.all (fun c => ltr (c.toNat : Int)) then .inr () else .inl ()) := by
 unfold G53x0x6
 refine (for_ind (0 : UInt8) (S := fun w kr => S53x0x6 N s s.length w kr _ _) (L := fun m w => L53x0x6 N s s.length m w _ _) (fun m w => rfl) (fun _ l => some (bif l.all (fun c => ltr (c.toNat : Int)) then .inr () else .inl ())) hs ?_ ?_ hN).trans rfl
 ·intro kr; simp [S53x0x6]
 ·intro w kr h0 h1 hw hi hk
  simp only [S53x0x6, decide_eq_true h1, _root_.cond_true, hi, bnd_eq, hw, hk, List.all_cons, V53x0x19, F53x0x19, V71x0, F71x0]
  generalize ((s.getD w.toNat 0).toNat : Int) = n
  refine (cond_congr (c' := !ltr n) ?_).trans ?_
  ·rw [Bool.eq_iff_iff]; simp [ltr]; omega
  ·cases ltr n <;> rfl
theorem G53x0_eq (hN : maxLen < N) {s : List UInt8} (hs : s.length ≤ maxLen) : G53x0 N s = some (nameB s) := by
 unfold G53x0 F53x0
 rw [G53x0x6_eq hN hs]
 unfold nameB
 cases s.all (fun c => ltr (c.toNat : Int)) with
 | false => rfl
 | true =>
  simp only [bnd_eq, inlB_inr, inrQ_inr, _root_.cond_true, _root_.cond_false, Option.isSome_some, Bool.true_and]
  congr 1
  rw [Bool.eq_iff_iff]; simp; omega
def firstE (e : Int → Int) : Int → List D → Int
 | _, [] => 0
 | w, _ :: r => bif e w != 0 then e w else firstE e (w + 1) r
def wayE (n : Int) : Sum Int Unit := bif n != 0 then .inl n else .inr ()
theorem wayE_cons {e : Int → Int} {w : Int} {x : D} {l : List D} : wayE (firstE e w (x :: l)) = bif e w != 0 then .inl (e w) else wayE (firstE e (w + 1) l) := by
 simp only [firstE]
 cases h : e w != 0 with
 | true => simp only [_root_.cond_true, wayE, h]
 | false => rfl
theorem V52x0_eq (n a b : Int) : V52x0 N n a b = inI n a b := by
 unfold V52x0 F52x0 inI
 rw [Bool.eq_iff_iff]; simp
theorem V55x0_eq (n a b : Int) : V55x0 N n a b = !inI n a b := by
 unfold V55x0 F55x0 inI
 rw [Bool.eq_iff_iff]; simp <;> omega
def zeroB (kd x y r hf ht n : Int) (s : List UInt8) : Bool :=
 (kd == 1 || (x == 0 && y == 0 && r == 0)) && (kd == 2 || (hf == 0 && ht == 0)) && (kd == 3 || kd == 5 || kd == 8 || n == 0) && (kd == 4 || s == [])
def kindE (kd x y r hf ht n : Int) (s : List UInt8) : Int :=
 bif kd == 1 then (bif inI x (-100000000) 100000000 && inI y (-100000000) 100000000 && inI r 0 1000000 then 0 else 9)
 else bif kd == 2 then (bif decide (hf < 0) || decide (hf > ht) || decide (ht ≥ 86400) then 9 else 0)
 else bif kd == 3 then (bif inI n 1 4 then 0 else 9)
 else bif kd == 8 then (bif inI n 1 1000000 then 0 else 9)
 else bif kd == 5 then (bif inI n 1 5 then 0 else 7)
 else bif kd == 4 then (bif nameB s then 0 else 8) else 0
def ruleE (fr kd x y r hf ht n : Int) (s : List UInt8) : Int :=
 bif !inI kd 1 8 then 7 else bif !inI fr 1 3 then 9 else bif kindE kd x y r hf ht n s != 0 then kindE kd x y r hf ht n s else bif zeroB kd x y r hf ht n s then 0 else 2
theorem kd_cases {kd : Int} (h : inI kd 1 8 = true) : kd = 1 ∨ kd = 2 ∨ kd = 3 ∨ kd = 4 ∨ kd = 5 ∨ kd = 6 ∨ kd = 7 ∨ kd = 8 := by
 have := of_decide_eq_true h
 omega
section
variable {fr kd x y r hf ht n : Int} {s : List UInt8}
theorem G36x0_eq (hN : maxLen < N) (hs : s.length ≤ maxLen) : G36x0 N fr kd x y r hf ht n s = some (ruleE fr kd x y r hf ht n s) := by
 unfold G36x0 F36x0
 simp only [bnd_eq, V52x0_eq]
 unfold ruleE
 cases hk : inI kd 1 8 with
 | false => rfl
 | true =>
 cases hfr : inI fr 1 3 with
 | false => rfl
 | true =>
 unfold kindE zeroB
 rcases kd_cases hk with rfl | rfl | rfl | rfl | rfl | rfl | rfl | rfl
 ·unfold G36x0x36029 F36x0x36029 V36x0x28 F36x0x28
  simp only [bnd_eq, V52x0_eq, beq_self_eq_true, Int.reduceBEq, _root_.cond_true, _root_.cond_false]
  cases inI x (-100000000) 100000000 <;> cases inI y (-100000000) 100000000 <;> cases inI r 0 1000000 <;> (try rfl) <;> simp only [inlB_inl, inlB_inr, inlV_inl, inrQ_inr, Option.isSome_some, getD_some, _root_.cond_true, _root_.cond_false, Bool.not_true, Bool.not_false] <;> cases hf == 0 <;> cases ht == 0 <;> cases n == 0 <;> cases s == [] <;> rfl
 ·unfold G36x0x36029 F36x0x36029 G36x0x48041 F36x0x48041
  simp only [bnd_eq, beq_self_eq_true, Int.reduceBEq, _root_.cond_true, _root_.cond_false]
  cases decide (hf < 0) <;> cases decide (hf > ht) <;> cases decide (ht ≥ 86400) <;> (try rfl) <;> simp only [inlB_inl, inlB_inr, inlV_inl, inrQ_inr, Option.isSome_some, getD_some, _root_.cond_true, _root_.cond_false, Bool.not_true, Bool.not_false] <;> cases x == 0 <;> cases y == 0 <;> cases r == 0 <;> cases n == 0 <;> cases s == [] <;> rfl
 ·unfold G36x0x36029 F36x0x36029 G36x0x48041 F36x0x48041 G36x0x60053 F36x0x60053
  simp only [bnd_eq, V52x0_eq, beq_self_eq_true, Int.reduceBEq, _root_.cond_true, _root_.cond_false]
  cases inI n 1 4 <;> (try rfl) <;> simp only [inlB_inl, inlB_inr, inlV_inl, inrQ_inr, Option.isSome_some, getD_some, _root_.cond_true, _root_.cond_false, Bool.not_true, Bool.not_false] <;> cases hf == 0 <;> cases ht == 0 <;> cases x == 0 <;> cases y == 0 <;> cases r == 0 <;> cases s == [] <;> rfl
 ·unfold G36x0x36029 F36x0x36029 G36x0x48041 F36x0x48041 G36x0x60053 F36x0x60053 G36x0x72065 F36x0x72065 G36x0x84077 F36x0x84077 G36x0x89 F36x0x89
  simp only [bnd_eq, V52x0_eq, G53x0_eq hN hs, beq_self_eq_true, Int.reduceBEq, _root_.cond_true, _root_.cond_false]
  cases nameB s <;> (try rfl) <;> simp only [inlB_inl, inlB_inr, inlV_inl, inrQ_inr, Option.isSome_some, getD_some, _root_.cond_true, _root_.cond_false, Bool.not_true, Bool.not_false] <;> cases hf == 0 <;> cases ht == 0 <;> cases x == 0 <;> cases y == 0 <;> cases r == 0 <;> cases n == 0 <;> rfl
 ·unfold G36x0x36029 F36x0x36029 G36x0x48041 F36x0x48041 G36x0x60053 F36x0x60053 G36x0x72065 F36x0x72065 G36x0x84077 F36x0x84077
  simp only [bnd_eq, V52x0_eq, beq_self_eq_true, Int.reduceBEq, _root_.cond_true, _root_.cond_false]
  cases inI n 1 5 <;> (try rfl) <;> simp only [inlB_inl, inlB_inr, inlV_inl, inrQ_inr, Option.isSome_some, getD_some, _root_.cond_true, _root_.cond_false, Bool.not_true, Bool.not_false] <;> cases hf == 0 <;> cases ht == 0 <;> cases x == 0 <;> cases y == 0 <;> cases r == 0 <;> cases s == [] <;> rfl
 ·unfold G36x0x36029 F36x0x36029 G36x0x48041 F36x0x48041 G36x0x60053 F36x0x60053 G36x0x72065 F36x0x72065 G36x0x84077 F36x0x84077 G36x0x89 F36x0x89
  simp only [bnd_eq, V52x0_eq, beq_self_eq_true, Int.reduceBEq, _root_.cond_true, _root_.cond_false]
  simp only [inlB_inl, inlB_inr, inlV_inl, inrQ_inr, Option.isSome_some, getD_some, _root_.cond_true, _root_.cond_false, Bool.not_true, Bool.not_false]
  cases hf == 0 <;> cases ht == 0 <;> cases x == 0 <;> cases y == 0 <;> cases r == 0 <;> cases n == 0 <;> cases s == [] <;> rfl
 ·unfold G36x0x36029 F36x0x36029 G36x0x48041 F36x0x48041 G36x0x60053 F36x0x60053 G36x0x72065 F36x0x72065 G36x0x84077 F36x0x84077 G36x0x89 F36x0x89
  simp only [bnd_eq, V52x0_eq, beq_self_eq_true, Int.reduceBEq, _root_.cond_true, _root_.cond_false]
  simp only [inlB_inl, inlB_inr, inlV_inl, inrQ_inr, Option.isSome_some, getD_some, _root_.cond_true, _root_.cond_false, Bool.not_true, Bool.not_false]
  cases hf == 0 <;> cases ht == 0 <;> cases x == 0 <;> cases y == 0 <;> cases r == 0 <;> cases n == 0 <;> cases s == [] <;> rfl
 ·unfold G36x0x36029 F36x0x36029 G36x0x48041 F36x0x48041 G36x0x60053 F36x0x60053 G36x0x72065 F36x0x72065
  simp only [bnd_eq, V52x0_eq, beq_self_eq_true, Int.reduceBEq, _root_.cond_true, _root_.cond_false]
  cases inI n 1 1000000 <;> (try rfl) <;> simp only [inlB_inl, inlB_inr, inlV_inl, inrQ_inr, Option.isSome_some, getD_some, _root_.cond_true, _root_.cond_false, Bool.not_true, Bool.not_false] <;> cases hf == 0 <;> cases ht == 0 <;> cases x == 0 <;> cases y == 0 <;> cases r == 0 <;> cases s == [] <;> rfl
theorem beq_c (a b : Int) : (a == b) = (b == a) := by rw [Bool.eq_iff_iff]; simp; exact eq_comm
theorem beq_cs (a b : List UInt8) : (a == b) = (b == a) := by rw [Bool.eq_iff_iff]; simp; exact eq_comm
theorem G40x0_eq (hN : maxLen < N) (hs : s.length ≤ maxLen) : G40x0 N fr kd x y r hf ht n s = some (ruleE fr kd x y r hf ht n s) := by
 unfold G40x0 F40x0
 simp only [bnd_eq, V55x0_eq]
 unfold ruleE
 cases hk : inI kd 1 8 with
 | false => rfl
 | true =>
 cases hfr : inI fr 1 3 with
 | false => rfl
 | true =>
 unfold kindE zeroB V40x0x27026 F40x0x27026 V57x0 F57x0 V57x0x15014 F57x0x15014 V40x0x52 F40x0x52 G40x0x58 F40x0x58
 rcases kd_cases hk with rfl | rfl | rfl | rfl | rfl | rfl | rfl | rfl
 ·unfold V40x0x25 F40x0x25
  simp only [bnd_eq, V55x0_eq, beq_self_eq_true, Int.reduceBEq, _root_.cond_true, _root_.cond_false, beq_c 0, beq_cs []]
  cases inI x (-100000000) 100000000 <;> cases inI y (-100000000) 100000000 <;> cases inI r 0 1000000 <;> (try rfl) <;> simp only [inlB_inl, inlB_inr, inlV_inl, inrQ_inr, Option.isSome_some, getD_some, _root_.cond_true, _root_.cond_false, Bool.not_true, Bool.not_false] <;> cases hf == 0 <;> cases ht == 0 <;> cases n == 0 <;> cases s == [] <;> rfl
 ·unfold V40x0x33032 F40x0x33032 V57x0x21020 F57x0x21020
  simp only [bnd_eq, beq_self_eq_true, Int.reduceBEq, _root_.cond_true, _root_.cond_false, beq_c 0, beq_cs []]
  cases decide (hf < 0) <;> cases decide (hf > ht) <;> cases decide (ht ≥ 86400) <;> (try rfl) <;> simp only [inlB_inl, inlB_inr, inlV_inl, inrQ_inr, Option.isSome_some, getD_some, _root_.cond_true, _root_.cond_false, Bool.not_true, Bool.not_false] <;> cases x == 0 <;> cases y == 0 <;> cases r == 0 <;> cases n == 0 <;> cases s == [] <;> rfl
 ·unfold V40x0x33032 F40x0x33032 V40x0x39038 F40x0x39038 V57x0x21020 F57x0x21020 V57x0x24002 F57x0x24002 V57x0x33032 F57x0x33032
  simp only [bnd_eq, V55x0_eq, beq_self_eq_true, Int.reduceBEq, _root_.cond_true, _root_.cond_false, beq_c 0, beq_cs []]
  cases inI n 1 4 <;> (try rfl) <;> simp only [inlB_inl, inlB_inr, inlV_inl, inrQ_inr, Option.isSome_some, getD_some, _root_.cond_true, _root_.cond_false, Bool.not_true, Bool.not_false] <;> cases hf == 0 <;> cases ht == 0 <;> cases x == 0 <;> cases y == 0 <;> cases r == 0 <;> cases s == [] <;> rfl
 ·unfold V40x0x33032 F40x0x33032 V40x0x39038 F40x0x39038 V40x0x44 F40x0x44 V57x0x21020 F57x0x21020 V57x0x24002 F57x0x24002 V57x0x33032 F57x0x33032 V57x0x27002 F57x0x27002 V57x0x38 F57x0x38
  simp only [bnd_eq, V55x0_eq, beq_self_eq_true, Int.reduceBEq, _root_.cond_true, _root_.cond_false, beq_c 0, beq_cs [], G56x0_eq hN hs]
  cases nameB s <;> (try rfl) <;> simp only [inlB_inl, inlB_inr, inlV_inl, inrQ_inr, Option.isSome_some, getD_some, _root_.cond_true, _root_.cond_false, Bool.not_true, Bool.not_false] <;> cases hf == 0 <;> cases ht == 0 <;> cases x == 0 <;> cases y == 0 <;> cases r == 0 <;> cases n == 0 <;> rfl
 ·unfold V40x0x33032 F40x0x33032 V40x0x39038 F40x0x39038 V40x0x44 F40x0x44 V57x0x21020 F57x0x21020 V57x0x24002 F57x0x24002 V57x0x33032 F57x0x33032 V57x0x27002 F57x0x27002
  simp only [bnd_eq, V55x0_eq, beq_self_eq_true, Int.reduceBEq, _root_.cond_true, _root_.cond_false, beq_c 0, beq_cs []]
  cases inI n 1 5 <;> (try rfl) <;> simp only [inlB_inl, inlB_inr, inlV_inl, inrQ_inr, Option.isSome_some, getD_some, _root_.cond_true, _root_.cond_false, Bool.not_true, Bool.not_false] <;> cases hf == 0 <;> cases ht == 0 <;> cases x == 0 <;> cases y == 0 <;> cases r == 0 <;> cases s == [] <;> rfl
 ·unfold V40x0x33032 F40x0x33032 V40x0x39038 F40x0x39038 V40x0x44 F40x0x44 V57x0x21020 F57x0x21020 V57x0x24002 F57x0x24002 V57x0x33032 F57x0x33032 V57x0x27002 F57x0x27002 V57x0x38 F57x0x38
  simp only [bnd_eq, beq_self_eq_true, Int.reduceBEq, _root_.cond_true, _root_.cond_false, beq_c 0, beq_cs []]
  simp only [inlB_inl, inlB_inr, inlV_inl, inrQ_inr, Option.isSome_some, getD_some, _root_.cond_true, _root_.cond_false, Bool.not_true, Bool.not_false]
  cases hf == 0 <;> cases ht == 0 <;> cases x == 0 <;> cases y == 0 <;> cases r == 0 <;> cases n == 0 <;> cases s == [] <;> rfl
 ·unfold V40x0x33032 F40x0x33032 V40x0x39038 F40x0x39038 V40x0x44 F40x0x44 V57x0x21020 F57x0x21020 V57x0x24002 F57x0x24002 V57x0x33032 F57x0x33032 V57x0x27002 F57x0x27002 V57x0x38 F57x0x38
  simp only [bnd_eq, beq_self_eq_true, Int.reduceBEq, _root_.cond_true, _root_.cond_false, beq_c 0, beq_cs []]
  simp only [inlB_inl, inlB_inr, inlV_inl, inrQ_inr, Option.isSome_some, getD_some, _root_.cond_true, _root_.cond_false, Bool.not_true, Bool.not_false]
  cases hf == 0 <;> cases ht == 0 <;> cases x == 0 <;> cases y == 0 <;> cases r == 0 <;> cases n == 0 <;> cases s == [] <;> rfl
 ·unfold V40x0x33032 F40x0x33032 V40x0x39038 F40x0x39038 V40x0x44 F40x0x44 V57x0x21020 F57x0x21020 V57x0x24002 F57x0x24002 V57x0x33032 F57x0x33032 V57x0x27002 F57x0x27002
  simp only [bnd_eq, V55x0_eq, beq_self_eq_true, Int.reduceBEq, _root_.cond_true, _root_.cond_false, beq_c 0, beq_cs []]
  cases inI n 1 1000000 <;> (try rfl) <;> simp only [inlB_inl, inlB_inr, inlV_inl, inrQ_inr, Option.isSome_some, getD_some, _root_.cond_true, _root_.cond_false, Bool.not_true, Bool.not_false] <;> cases hf == 0 <;> cases ht == 0 <;> cases x == 0 <;> cases y == 0 <;> cases r == 0 <;> cases s == [] <;> rfl
end

abbrev rFrom (x : D) : Int := (x.cell 0).toI
abbrev rKind (x : D) : Int := (x.cell 1).toI
abbrev rX (x : D) : Int := (x.cell 2).toI
abbrev rY (x : D) : Int := (x.cell 3).toI
abbrev rR (x : D) : Int := (x.cell 4).toI
abbrev rHf (x : D) : Int := (x.cell 5).toI
abbrev rHt (x : D) : Int := (x.cell 6).toI
abbrev rN (x : D) : Int := (x.cell 7).toI
abbrev rT (x : D) : List UInt8 := (x.cell 8).toS
def ruleD (x : D) : Int := ruleE (rFrom x) (rKind x) (rX x) (rY x) (rR x) (rHf x) (rHt x) (rN x) (rT x)
def chkV (xs : List D) : Int := bif decide ((xs.length : Int) > 50) then 3 else firstE (fun w => ruleD (xs.getD w.toNat (.i 0))) 0 xs
structure VeilOk (xs : List D) : Prop where
 l : xs.length ≤ maxLen
 t : ∀ x ∈ xs, (rT x).length ≤ maxLen
theorem getD_mem {xs : List D} {w : Int} (h0 : 0 ≤ w) (h1 : w < xs.length) : xs.getD w.toNat (.i 0) ∈ xs := by
 rw [List.getD_eq_getElem?_getD, List.getElem?_eq_getElem (by omega)]; exact List.getElem_mem _
section
variable {xs : List D}
theorem G15x0x12_eq (hN : maxLen < N) (h : VeilOk xs) : G15x0x12 N xs xs.length 0 = some (wayE (firstE (fun w => ruleD (xs.getD w.toNat (.i 0))) 0 xs)) := by
 unfold G15x0x12
 refine (for_ind (.i 0 : D) (S := fun w kr => S15x0x12 N xs xs.length w kr _ _) (L := fun m w => L15x0x12 N xs xs.length m w _ _) (fun m w => rfl) (fun w l => some (wayE (firstE (fun w => ruleD (xs.getD w.toNat (.i 0))) w l))) h.l ?_ ?_ hN).trans rfl
 ·intro kr; simp [S15x0x12, firstE, wayE]
 ·intro w kr h0 h1 hw hi hk
  simp only [S15x0x12, decide_eq_true h1, _root_.cond_true, hi, bnd_eq, hw, hk, G36x0_eq hN (h.t _ (getD_mem h0 h1)), Option.isSome_some, getD_some, wayE_cons]
  unfold ruleD
  generalize ruleE _ _ _ _ _ _ _ _ _ = e
  cases e != 0 <;> rfl
theorem G19x0x12_eq (hN : maxLen < N) (h : VeilOk xs) : G19x0x12 N xs xs.length 0 = some (wayE (firstE (fun w => ruleD (xs.getD w.toNat (.i 0))) 0 xs)) := by
 unfold G19x0x12
 refine (for_ind (.i 0 : D) (S := fun w kr => S19x0x12 N xs xs.length w kr _ _) (L := fun m w => L19x0x12 N xs xs.length m w _ _) (fun m w => rfl) (fun w l => some (wayE (firstE (fun w => ruleD (xs.getD w.toNat (.i 0))) w l))) h.l ?_ ?_ hN).trans rfl
 ·intro kr; simp [S19x0x12, firstE, wayE]
 ·intro w kr h0 h1 hw hi hk
  simp only [S19x0x12, decide_eq_true h1, _root_.cond_true, hi, bnd_eq, hw, hk, G40x0_eq hN (h.t _ (getD_mem h0 h1)), Option.isSome_some, getD_some, wayE_cons]
  unfold ruleD
  generalize ruleE _ _ _ _ _ _ _ _ _ = e
  cases e != 0 <;> rfl
theorem way_chk (b : Bool) (e : Int) : (bif b then some (3 : Int) else bif inlB (some (wayE e)) then some (inlV (some (wayE e))) else bif (inrQ (some (wayE e))).isSome then some 0 else none) = some (bif b then 3 else e) := by
 unfold wayE
 cases b with
 | true => rfl
 | false =>
  cases h : e != 0 with
  | true => rfl
  | false => simp only [bne_eq_false_iff_eq] at h; subst h; rfl
theorem G15x0_eq (hN : maxLen < N) (h : VeilOk xs) : G15x0 N xs = some (chkV xs) := by
 unfold G15x0 F15x0 chkV
 simp only [bnd_eq, G15x0x12_eq hN h]
 exact way_chk _ _
theorem G19x0_eq (hN : maxLen < N) (h : VeilOk xs) : G19x0 N xs = some (chkV xs) := by
 unfold G19x0 F19x0 chkV
 simp only [bnd_eq, G19x0x12_eq hN h]
 exact way_chk _ _

end
end Go.Proofs.YtohplnjpncjhoaaGreatDoor

namespace Go.Proofs.YtohplnjpncjhoaaGreatDoor
open Go Go.AM
set_option maxRecDepth 100000
set_option maxHeartbeats 4000000
variable {N : Nat}
def partsL (x : List UInt8) : List (List UInt8) := (splitL 32 x).filter fun s => !(s == [])
theorem noEmpty_parts (x : List UInt8) : noEmpty (strsD (splitD x [32])) = strsD (partsL x) := by
 unfold noEmpty strsD partsL
 rw [splitD_one, List.filter_map]
 rfl
theorem room16 {n k : Nat} (hk : k ≤ 100) (h : n ≤ 1000000) : (decide (n * k ≤ room) && decide (n ≤ strMax)) = true := by
 have e1 : room = 140737488355328 := rfl
 have e2 : strMax = 9223372036854775807 := rfl
 have : n * k ≤ 1000000 * 100 := Nat.mul_le_mul h hk
 rw [decide_eq_true (by omega), decide_eq_true (by omega)]; rfl
def ruleOf (r : RT) : D := .a [(.i r.1), (.i r.2.1), (.i r.2.2.1), (.i r.2.2.2.1), (.i r.2.2.2.2.1), (.i r.2.2.2.2.2.1), (.i r.2.2.2.2.2.2.1), (.i r.2.2.2.2.2.2.2.1), (.s r.2.2.2.2.2.2.2.2.1)]
end Go.Proofs.YtohplnjpncjhoaaGreatDoor

namespace Go.Proofs.YtohplnjpncjhoaaGreatDoor
open Go Go.AM
set_option maxRecDepth 100000
set_option maxHeartbeats 4000000
variable {N : Nat}
theorem G7x0_self (hN : maxLen < N) {l : List D} (hl : l.length ≤ maxLen) : G7x0 N l l = some true := by
 have h : G20x0x12 N l l (l.length : Int) 0 = some (.inr ()) := by
  unfold G20x0x12
  refine (for_ind (.i 0 : D) (xs := l) (S := fun w kr => S20x0x12 N l l l.length w kr _ _) (L := fun m w => L20x0x12 N l l l.length m w _ _) (fun m w => rfl) (fun _ _ => some (.inr ())) hl ?_ ?_ hN).trans rfl
  ·intro kr
   have : ¬ (l.length : Int) < (l.length : Int) := by omega
   simp only [S20x0x12, decide_eq_false this, _root_.cond_false]
  ·intro w kr h0 h1 hw hi hk
   simp only [S20x0x12, decide_eq_true h1, hi, _root_.cond_true, bnd_eq, beq_self_eq_true, Bool.and_self, Bool.not_true, _root_.cond_false, hw, hk]
 unfold G7x0 F7x0 G20x0 F20x0
 rw [h]
 simp only [bne_self_eq_false, _root_.cond_false, bnd_eq]
 rfl
theorem told_ok : G8x0 18446744073709551616 = some true := by kernel_rfl
end Go.Proofs.YtohplnjpncjhoaaGreatDoor

namespace Go.Proofs.YtohplnjpncjhoaaGreatDoor
open Go Go.AM
set_option maxRecDepth 100000
set_option maxHeartbeats 4000000
set_option linter.unusedVariables false
set_option linter.unusedSimpArgs false
variable {N : Nat}
def lev (fr : Int) : List UInt8 := ((.s [] :: LV : List D).getD fr.toNat (.i 0)).toS
def fldN (n : Int) : List UInt8 := ((.s [] :: FL : List D).getD n.toNat (.i 0)).toS
def whatN (kd : Int) : List UInt8 := ((.s [] :: WH : List D).getD kd.toNat (.i 0)).toS
def wordsR (x : D) : List (List UInt8) :=
 bif rKind x == 1 then [lev (rFrom x), whatN 1, Lib.itoa (rX x), Lib.itoa (rY x), Lib.itoa (rR x)]
 else bif rKind x == 2 then [lev (rFrom x), whatN 2, Lib.itoa (rHf x), Lib.itoa (rHt x)]
 else bif rKind x == 3 then [lev (rFrom x), fldN (rN x)]
 else bif rKind x == 4 then [lev (rFrom x), whatN 4, rT x]
 else bif rKind x == 5 then [lev (rFrom x), whatN 5, Lib.itoa (rN x)]
 else bif rKind x == 6 then [lev (rFrom x), whatN 6]
 else bif rKind x == 7 then [lev (rFrom x), whatN 7]
 else [lev (rFrom x), whatN 8, Lib.itoa (rN x)]
def lineR (x : D) : List UInt8 := Lib.join (wordsR x) [32]
structure WordOk (w : List UInt8) : Prop where
 ne : w ≠ []
 b : (32 : UInt8) ∉ w
 n : (10 : UInt8) ∉ w
 l : w.length ≤ 60
theorem int_facts {n : Int} (h : n.natAbs < 1000000000) : numB 9 (Lib.itoa n) = true ∧ atoiV (Lib.itoa n) = n ∧ i64B n = true ∧ (Lib.itoa n).length ≤ 10 ∧ WordOk (Lib.itoa n) := by
 obtain ⟨q1, q2⟩ := itoa_num (k := 9) (n := n) (by decide) (by decide) (by omega)
 have hv := num_val (k := 9) (by decide) q1
 have q3 := q1
 unfold Go.AM.numB at q3
 simp only [Bool.and_eq_true, decide_eq_true_eq] at q3
 obtain ⟨⟨w1, w2⟩, _⟩ := q3
 have hall : ∀ c ∈ unsign (Lib.itoa n), isDig c = true := by
  unfold wholeL at w1
  simp only [Bool.and_eq_true] at w1
  exact List.all_eq_true.1 w1.1.1
 obtain ⟨c0, r0, hc0, _⟩ := wholeL_head w1
 have hl : (Lib.itoa n).length ≤ 10 := by
  rcases unsign_cases (Lib.itoa n) with ⟨_, q⟩ | ⟨_, q⟩
  ·have := congrArg List.length q
   rw [List.length_cons] at this
   omega
  ·rw [q] at w2; omega
 have hno : ∀ k : UInt8, isDig k = false → k ≠ 45 → k ∉ Lib.itoa n := by
  intro k hk hk2 hm
  rcases unsign_cases (Lib.itoa n) with ⟨_, q⟩ | ⟨_, q⟩
  ·rw [q] at hm
   rcases List.mem_cons.1 hm with hm | hm
   ·exact hk2 hm
   ·have := hall k hm
    rw [hk] at this
    cases this
  ·have := hall k (by rw [q]; exact hm)
   rw [hk] at this
   cases this
 refine ⟨q1, by rw [hv, q2], ?_, hl, ⟨?_, hno 32 (by decide) (by decide), hno 10 (by decide) (by decide), by omega⟩⟩
 ·unfold i64B
  rw [decide_eq_true (by omega), decide_eq_true (by omega)]; rfl
 ·intro e
  rw [e] at hc0
  cases hc0
structure RuleOk (x : D) : Prop where
 k : rKind x = 1 ∨ rKind x = 2 ∨ rKind x = 3 ∨ rKind x = 4 ∨ rKind x = 5 ∨ rKind x = 6 ∨ rKind x = 7 ∨ rKind x = 8
 f : rFrom x = 1 ∨ rFrom x = 2 ∨ rFrom x = 3
 e : kindE (rKind x) (rX x) (rY x) (rR x) (rHf x) (rHt x) (rN x) (rT x) = 0
 z : zeroB (rKind x) (rX x) (rY x) (rR x) (rHf x) (rHt x) (rN x) (rT x) = true
theorem ruleOk_of {x : D} (h : ruleD x = 0) : RuleOk x := by
 unfold ruleD ruleE at h
 cases h1 : inI (rKind x) 1 8 with
 | false => rw [h1] at h; exact absurd (show (7 : Int) = 0 from h) (by decide)
 | true =>
 rw [h1] at h
 cases h2 : inI (rFrom x) 1 3 with
 | false => rw [h2] at h; exact absurd (show (9 : Int) = 0 from h) (by decide)
 | true =>
 rw [h2] at h
 simp only [Bool.not_true, _root_.cond_false] at h
 cases h3 : kindE (rKind x) (rX x) (rY x) (rR x) (rHf x) (rHt x) (rN x) (rT x) != 0 with
 | true =>
  rw [h3] at h
  simp only [_root_.cond_true] at h
  rw [h] at h3
  cases h3
 | false =>
 rw [h3] at h
 simp only [_root_.cond_false] at h
 cases h4 : zeroB (rKind x) (rX x) (rY x) (rR x) (rHf x) (rHt x) (rN x) (rT x) with
 | false => rw [h4] at h; exact absurd (show (2 : Int) = 0 from h) (by decide)
 | true =>
 have h2' := of_decide_eq_true h2
 exact ⟨kd_cases h1, by omega, by simpa using h3, h4⟩
theorem lev_ok {fr : Int} (h : fr = 1 ∨ fr = 2 ∨ fr = 3) : WordOk (lev fr) ∧ posK (lev fr) LV = fr := by
 rcases h with rfl | rfl | rfl <;> exact ⟨⟨by decide, by decide, by decide, by decide⟩, by decide⟩
theorem fldN_ok {n : Int} (h : 1 ≤ n ∧ n ≤ 4) : WordOk (fldN n) ∧ posK (fldN n) FL = n := by
 have : n = 1 ∨ n = 2 ∨ n = 3 ∨ n = 4 := by omega
 rcases this with rfl | rfl | rfl | rfl <;> exact ⟨⟨by decide, by decide, by decide, by decide⟩, by decide⟩
theorem whatN_ok {k : Int} (h : k = 1 ∨ k = 2 ∨ k = 4 ∨ k = 5 ∨ k = 6 ∨ k = 7 ∨ k = 8) : WordOk (whatN k) ∧ posK (whatN k) FL = 0 ∧ posK (whatN k) WH = k := by
 rcases h with rfl | rfl | rfl | rfl | rfl | rfl | rfl <;> exact ⟨⟨by decide, by decide, by decide, by decide⟩, by decide, by decide⟩
theorem name_ok {s : List UInt8} (h : nameB s = true) : WordOk s := by
 unfold nameB at h
 rw [Bool.and_eq_true, decide_eq_true_eq] at h
 have hall := List.all_eq_true.1 h.1
 refine ⟨fun e => ?_, fun hm => ?_, fun hm => ?_, h.2.2⟩
 ·have := h.2.1; rw [e] at this; simp at this
 ·have := hall 32 hm; revert this; decide
 ·have := hall 10 hm; revert this; decide
theorem nums1 {x : D} (h : RuleOk x) (hk : rKind x = 1) : (rX x).natAbs < 1000000000 ∧ (rY x).natAbs < 1000000000 ∧ (rR x).natAbs < 1000000000 := by
 have := h.e
 rw [hk] at this
 unfold kindE at this
 simp only [beq_self_eq_true, _root_.cond_true] at this
 cases hc : (inI (rX x) (-100000000) 100000000 && inI (rY x) (-100000000) 100000000 && inI (rR x) 0 1000000) with
 | false => rw [hc] at this; exact absurd (show (9 : Int) = 0 from this) (by decide)
 | true =>
  unfold inI at hc
  simp only [Bool.and_eq_true, decide_eq_true_eq] at hc
  omega
theorem nums2 {x : D} (h : RuleOk x) (hk : rKind x = 2) : (rHf x).natAbs < 1000000000 ∧ (rHt x).natAbs < 1000000000 := by
 have := h.e
 rw [hk] at this
 unfold kindE at this
 simp only [show ((2 : Int) == 1) = false from rfl, beq_self_eq_true, _root_.cond_true, _root_.cond_false] at this
 cases hc : (decide (rHf x < 0) || decide (rHf x > rHt x) || decide (rHt x ≥ 86400)) with
 | true => rw [hc] at this; exact absurd (show (9 : Int) = 0 from this) (by decide)
 | false =>
  simp only [Bool.or_eq_false_iff, decide_eq_false_iff_not] at hc
  omega
theorem nums3 {x : D} (h : RuleOk x) (hk : rKind x = 3) : 1 ≤ rN x ∧ rN x ≤ 4 := by
 have := h.e
 rw [hk] at this
 unfold kindE at this
 simp only [show ((3 : Int) == 1) = false from rfl, show ((3 : Int) == 2) = false from rfl, beq_self_eq_true, _root_.cond_true, _root_.cond_false] at this
 cases hc : inI (rN x) 1 4 with
 | false => rw [hc] at this; exact absurd (show (9 : Int) = 0 from this) (by decide)
 | true => exact of_decide_eq_true hc
theorem nums4 {x : D} (h : RuleOk x) (hk : rKind x = 4) : nameB (rT x) = true := by
 have := h.e
 rw [hk] at this
 unfold kindE at this
 simp only [show ((4 : Int) == 1) = false from rfl, show ((4 : Int) == 2) = false from rfl, show ((4 : Int) == 3) = false from rfl, show ((4 : Int) == 8) = false from rfl, show ((4 : Int) == 5) = false from rfl, beq_self_eq_true, _root_.cond_true, _root_.cond_false] at this
 cases hc : nameB (rT x) with
 | false => rw [hc] at this; exact absurd (show (8 : Int) = 0 from this) (by decide)
 | true => rfl
theorem nums5 {x : D} (h : RuleOk x) (hk : rKind x = 5) : (rN x).natAbs < 1000000000 := by
 have := h.e
 rw [hk] at this
 unfold kindE at this
 simp only [show ((5 : Int) == 1) = false from rfl, show ((5 : Int) == 2) = false from rfl, show ((5 : Int) == 3) = false from rfl, show ((5 : Int) == 8) = false from rfl, beq_self_eq_true, _root_.cond_true, _root_.cond_false] at this
 cases hc : inI (rN x) 1 5 with
 | false => rw [hc] at this; exact absurd (show (7 : Int) = 0 from this) (by decide)
 | true => have := of_decide_eq_true hc; omega
theorem nums8 {x : D} (h : RuleOk x) (hk : rKind x = 8) : (rN x).natAbs < 1000000000 := by
 have := h.e
 rw [hk] at this
 unfold kindE at this
 simp only [show ((8 : Int) == 1) = false from rfl, show ((8 : Int) == 2) = false from rfl, show ((8 : Int) == 3) = false from rfl, beq_self_eq_true, _root_.cond_true, _root_.cond_false] at this
 cases hc : inI (rN x) 1 1000000 with
 | false => rw [hc] at this; exact absurd (show (9 : Int) = 0 from this) (by decide)
 | true => have := of_decide_eq_true hc; omega
theorem words1 {x : D} (h : rKind x = 1) : wordsR x = [lev (rFrom x), whatN 1, Lib.itoa (rX x), Lib.itoa (rY x), Lib.itoa (rR x)] := by unfold wordsR; rw [h]; rfl
theorem words2 {x : D} (h : rKind x = 2) : wordsR x = [lev (rFrom x), whatN 2, Lib.itoa (rHf x), Lib.itoa (rHt x)] := by unfold wordsR; rw [h]; rfl
theorem words3 {x : D} (h : rKind x = 3) : wordsR x = [lev (rFrom x), fldN (rN x)] := by unfold wordsR; rw [h]; rfl
theorem words4 {x : D} (h : rKind x = 4) : wordsR x = [lev (rFrom x), whatN 4, rT x] := by unfold wordsR; rw [h]; rfl
theorem words5 {x : D} (h : rKind x = 5) : wordsR x = [lev (rFrom x), whatN 5, Lib.itoa (rN x)] := by unfold wordsR; rw [h]; rfl
theorem words6 {x : D} (h : rKind x = 6) : wordsR x = [lev (rFrom x), whatN 6] := by unfold wordsR; rw [h]; rfl
theorem words7 {x : D} (h : rKind x = 7) : wordsR x = [lev (rFrom x), whatN 7] := by unfold wordsR; rw [h]; rfl
theorem words8 {x : D} (h : rKind x = 8) : wordsR x = [lev (rFrom x), whatN 8, Lib.itoa (rN x)] := by unfold wordsR; rw [h]; rfl
theorem words_ok {x : D} (h : RuleOk x) : (∀ w ∈ wordsR x, WordOk w) ∧ wordsR x ≠ [] ∧ (wordsR x).length ≤ 5 := by
 have l := (lev_ok h.f).1
 rcases h.k with hk | hk | hk | hk | hk | hk | hk | hk
 ·obtain ⟨n1, n2, n3⟩ := nums1 h hk
  rw [words1 hk]
  refine ⟨fun w hw => ?_, by simp, by simp⟩
  simp only [List.mem_cons, List.not_mem_nil, or_false] at hw
  rcases hw with rfl | rfl | rfl | rfl | rfl
  ·exact l
  ·exact (whatN_ok (by decide)).1
  ·exact (int_facts n1).2.2.2.2
  ·exact (int_facts n2).2.2.2.2
  ·exact (int_facts n3).2.2.2.2
 ·obtain ⟨n1, n2⟩ := nums2 h hk
  rw [words2 hk]
  refine ⟨fun w hw => ?_, by simp, by simp⟩
  simp only [List.mem_cons, List.not_mem_nil, or_false] at hw
  rcases hw with rfl | rfl | rfl | rfl
  ·exact l
  ·exact (whatN_ok (by decide)).1
  ·exact (int_facts n1).2.2.2.2
  ·exact (int_facts n2).2.2.2.2
 ·rw [words3 hk]
  refine ⟨fun w hw => ?_, by simp, by simp⟩
  simp only [List.mem_cons, List.not_mem_nil, or_false] at hw
  rcases hw with rfl | rfl
  ·exact l
  ·exact (fldN_ok (nums3 h hk)).1
 ·rw [words4 hk]
  refine ⟨fun w hw => ?_, by simp, by simp⟩
  simp only [List.mem_cons, List.not_mem_nil, or_false] at hw
  rcases hw with rfl | rfl | rfl
  ·exact l
  ·exact (whatN_ok (by decide)).1
  ·exact name_ok (nums4 h hk)
 ·rw [words5 hk]
  refine ⟨fun w hw => ?_, by simp, by simp⟩
  simp only [List.mem_cons, List.not_mem_nil, or_false] at hw
  rcases hw with rfl | rfl | rfl
  ·exact l
  ·exact (whatN_ok (by decide)).1
  ·exact (int_facts (nums5 h hk)).2.2.2.2
 ·rw [words6 hk]
  refine ⟨fun w hw => ?_, by simp, by simp⟩
  simp only [List.mem_cons, List.not_mem_nil, or_false] at hw
  rcases hw with rfl | rfl
  ·exact l
  ·exact (whatN_ok (by decide)).1
 ·rw [words7 hk]
  refine ⟨fun w hw => ?_, by simp, by simp⟩
  simp only [List.mem_cons, List.not_mem_nil, or_false] at hw
  rcases hw with rfl | rfl
  ·exact l
  ·exact (whatN_ok (by decide)).1
 ·rw [words8 hk]
  refine ⟨fun w hw => ?_, by simp, by simp⟩
  simp only [List.mem_cons, List.not_mem_nil, or_false] at hw
  rcases hw with rfl | rfl | rfl
  ·exact l
  ·exact (whatN_ok (by decide)).1
  ·exact (int_facts (nums8 h hk)).2.2.2.2
theorem join_cons2 (a b : List UInt8) (r : List (List UInt8)) : Lib.join (a :: b :: r) [32] = a ++ 32 :: Lib.join (b :: r) [32] := by
 rw [Lib.join_cons, Lib.join_cons]
 simp [Lib.joinTail]
theorem split_join : ∀ (ws : List (List UInt8)), ws ≠ [] → (∀ w ∈ ws, (32 : UInt8) ∉ w) → splitL 32 (Lib.join ws [32]) = ws
 | [], h, _ => absurd rfl h
 | [a], _, h => by rw [Lib.join_one]; exact splitL_none (h a (by simp))
 | a :: b :: r, _, h => by
  rw [join_cons2, splitL_at (h a (by simp)), split_join (b :: r) (by simp) (fun w hw => h w (List.mem_cons_of_mem _ hw))]
theorem join_len : ∀ (ws : List (List UInt8)), (∀ w ∈ ws, w.length ≤ 60) → (Lib.join ws [32]).length ≤ 61 * ws.length
 | [], _ => by simp [Lib.join_nil]
 | [a], h => by rw [Lib.join_one]; have := h a (by simp); simp; omega
 | a :: b :: r, h => by
  have := join_len (b :: r) (fun w hw => h w (List.mem_cons_of_mem _ hw))
  have := h a (by simp)
  rw [join_cons2, List.length_append, List.length_cons, List.length_cons]
  omega
theorem join_no {k : UInt8} (hk : k ≠ 32) : ∀ (ws : List (List UInt8)), (∀ w ∈ ws, k ∉ w) → k ∉ Lib.join ws [32]
 | [], _ => by simp [Lib.join_nil]
 | [a], h => by rw [Lib.join_one]; exact h a (by simp)
 | a :: b :: r, h => by
  have := join_no hk (b :: r) (fun w hw => h w (List.mem_cons_of_mem _ hw))
  rw [join_cons2]
  intro hm
  rcases List.mem_append.1 hm with hm | hm
  ·exact h a (by simp) hm
  ·rcases List.mem_cons.1 hm with hm | hm
   ·exact hk hm
   ·exact this hm
theorem line_facts {x : D} (h : RuleOk x) : (lineR x).length ≤ 400 ∧ (10 : UInt8) ∉ lineR x ∧ partsL (lineR x) = wordsR x := by
 obtain ⟨h1, h2, h3⟩ := words_ok h
 refine ⟨?_, join_no (by decide) _ (fun w hw => (h1 w hw).n), ?_⟩
 ·have := join_len _ (fun w hw => (h1 w hw).l)
  unfold lineR
  omega
 ·unfold partsL lineR
  rw [split_join _ h2 (fun w hw => (h1 w hw).b)]
  rw [List.filter_eq_self]
  intro w hw
  have := (h1 w hw).ne
  cases w with
  | nil => exact absurd rfl this
  | cons c r => rfl
end Go.Proofs.YtohplnjpncjhoaaGreatDoor

namespace Go.Proofs.YtohplnjpncjhoaaGreatDoor
open Go Go.AM
set_option maxRecDepth 100000
set_option maxHeartbeats 4000000
set_option linter.unusedVariables false
set_option linter.unusedSimpArgs false
variable {N : Nat}
theorem bytesD_app (a b : List UInt8) : bytesD (a ++ b) = bytesD a ++ bytesD b := by simp [bytesD]
theorem bytesD_len (a : List UInt8) : (bytesD a).length = a.length := by simp [bytesD]
theorem dle {n : Nat} (h : n ≤ 1000000000000) : decide (n ≤ strMax) = true := decide_eq_true (by unfold strMax; omega)
theorem G27x0_eq {v : List UInt8} {b : Bool} {t : List UInt8} (h : t.length + v.length ≤ 1000000000) : G27x0 N v b (bytesD t) = some ((v.length : Int), (v.isEmpty && b), bytesD (t ++ v)) := by
 unfold G27x0 F27x0
 rw [bytesD_len, decide_eq_true (by unfold room; omega), dle (by omega), bytesD_app]; rfl
theorem fin9 {R : Type} {w : LD} {ws : List (List UInt8)} {fl : Bool} {t : List UInt8} {j : Int} {kr : Int → Bool → LD → Option R} {nw k : Nat} (hw : w.map D.toS = ws) (hnw : nw ≤ 10) (hk : k ≤ 10) (hj : (Lib.join ws [32]).length ≤ 400) (ht : t.length ≤ 900000000) :
  (bif (Nat.ble nw 140737488355328 && Nat.ble (Lib.join (w.map D.toS) ([32] : List UInt8)).length 140737488355328) then
   bif decide ((Lib.join (w.map D.toS) ([32] : List UInt8)).length + k ≤ strMax) then
    bif (G27x0 N (Lib.join (w.map D.toS) ([32] : List UInt8) ++ ([10] : List UInt8)) fl (bytesD t)).isSome then
     kr j ((G27x0 N (Lib.join (w.map D.toS) ([32] : List UInt8) ++ ([10] : List UInt8)) fl (bytesD t)).getD default).2.1 ((G27x0 N (Lib.join (w.map D.toS) ([32] : List UInt8) ++ ([10] : List UInt8)) fl (bytesD t)).getD default).2.2
    else none else none else none) = kr j false (bytesD (t ++ (Lib.join ws [32] ++ [10]))) := by
 have b1 : Nat.ble nw 140737488355328 = true := by rw [Nat.ble_eq]; omega
 have b2 : Nat.ble (Lib.join ws ([32] : List UInt8)).length 140737488355328 = true := by rw [Nat.ble_eq]; omega
 rw [hw, b1, b2, dle (by omega), G27x0_eq (by rw [List.length_append]; simp only [List.length_cons, List.length_nil]; omega)]
 have he : (Lib.join ws [32] ++ ([10] : List UInt8)).isEmpty = false := by cases Lib.join ws [32] <;> rfl
 rw [he]
 rfl
theorem V22_eq : V22x0 N = .s [] :: LV := rfl
theorem V23_eq : V23x0 N = .s [] :: WH := rfl
theorem V24_eq : V24x0 N = .s [] :: FL := rfl
theorem P32f (n : Int) (w : LD) : G9x0x32 N false n w = some w := rfl
theorem P32t {n : Int} (h : 1 ≤ n ∧ n ≤ 4) (a b : List UInt8) : G9x0x32 N true n [.s a, .s b] = some [.s a, .s (fldN n)] := by
 have : n = 1 ∨ n = 2 ∨ n = 3 ∨ n = 4 := by omega
 rcases this with rfl | rfl | rfl | rfl <;> rfl
theorem P53f (s : List UInt8) (w : LD) : G9x0x53 N false s w = some (.inr ()) := rfl
theorem P53bf (s : List UInt8) (w : LD) : G9x0x53b N false s w = some (.inr ()) := rfl
theorem P53bt (s a b : List UInt8) : G9x0x53b N true s [.s a, .s b] = some (.inl [.s a, .s b, .s s]) := rfl
theorem inlB_l {α β : Type} (x : α) : inlB (some (Sum.inl x : Sum α β)) = true := rfl
theorem inlV_l {α β : Type} [Inhabited α] (x : α) : inlV (some (Sum.inl x : Sum α β)) = x := rfl
theorem inlB_r {α β : Type} (x : β) : inlB (some (Sum.inr x : Sum α β)) = false := rfl
theorem from_in {fr : Int} (h : fr = 1 ∨ fr = 2 ∨ fr = 3) : inB fr (V22x0 N).length = true ∧ inB fr (V30x0 N).length = true := by
 rcases h with rfl | rfl | rfl <;> exact ⟨rfl, rfl⟩
theorem roomW2 : (decide (2 + 1 ≤ strMax) = true ∧ decide (3 + 1 ≤ strMax) = true ∧ decide (4 + 1 ≤ strMax) = true) ∧ (decide ((2 + 1) * 16 ≤ room) = true ∧ decide ((3 + 1) * 16 ≤ room) = true ∧ decide ((4 + 1) * 16 ≤ room) = true) := by
 unfold strMax room
 refine ⟨⟨?_, ?_, ?_⟩, ?_, ?_, ?_⟩ <;> exact decide_eq_true (by omega)
theorem round9 {R : Type} {xs : List D} {x : D} (h : RuleOk x) {i : Nat} (hi : i < xs.length) (hx : xs.getD i (.i 0) = x) (hn : xs.length ≤ 50) (fl : Bool) {t : List UInt8} (ht : t.length ≤ 900000000) (kr : Int → Bool → LD → Option R) (k0 : Bool × LD → Option R) :
  S9x0x18 N xs xs.length (i : Int) fl (bytesD t) kr k0 = kr ((i + 1 : Nat) : Int) false (bytesD (t ++ (lineR x ++ [10]))) := by
 have hlt : decide ((i : Int) < (xs.length : Int)) = true := decide_eq_true (by omega)
 have hin : inB (i : Int) xs.length = true := inB_of (by omega) (by omega)
 have hw2 : IntKind.wrap .i64 ((i : Int) + 1) = ((i + 1 : Nat) : Int) := wrapI (by omega) (by omega)
 have hj := (line_facts h).1
 obtain ⟨_, _, hwl⟩ := words_ok h
 have hfi := (from_in (N := N) h.f).1
 have hfr : ((V22x0 N).getD (rFrom x).toNat (.i 0)).toS = lev (rFrom x) := rfl
 obtain ⟨⟨ra, rb, rc⟩, rd, re, rf⟩ := roomW2
 unfold lineR at hj ⊢
 unfold S9x0x18
 rcases h.k with hk | hk | hk | hk | hk | hk | hk | hk
 ·obtain ⟨n1, n2, n3⟩ := nums1 h hk
  obtain ⟨_, _, i1, _⟩ := int_facts n1
  obtain ⟨_, _, i2, _⟩ := int_facts n2
  obtain ⟨_, _, i3, _⟩ := int_facts n3
  rw [words1 hk] at hj hwl ⊢
  have e1 : inB (1 : Int) (V23x0 N).length = true := rfl
  have e2 : ((V23x0 N).getD (1 : Int).toNat (.i 0)).toS = whatN 1 := rfl
  have e3 : ((1 : Int) == 3) = false := rfl
  have e4 : ((1 : Int) == 4) = false := rfl
  have e5 : G9x0x34 N 1 = some (.inl ()) := rfl
  simp only [hlt, hin, _root_.cond_true, Int.toNat_natCast, hx, hfi, bnd_eq, hk, e1, e2, e3, e4, e5, P32f, Option.isSome_some, getD_some, inlB_l, i1, i2, i3, List.length_append, List.length_cons, List.length_nil, Nat.zero_add, ra, rb, rc, rd, re, rf, Bool.and_self, P53f, inlB_r, inrQ_inr, _root_.cond_false, hw2]
  refine fin9 ?_ ?_ ?_ hj ht
  ·rfl
  ·first | decide | simp
  ·first | decide | simp
 ·obtain ⟨n1, n2⟩ := nums2 h hk
  obtain ⟨_, _, i1, _⟩ := int_facts n1
  obtain ⟨_, _, i2, _⟩ := int_facts n2
  rw [words2 hk] at hj hwl ⊢
  have e1 : inB (2 : Int) (V23x0 N).length = true := rfl
  have e2 : ((V23x0 N).getD (2 : Int).toNat (.i 0)).toS = whatN 2 := rfl
  have e3 : ((2 : Int) == 3) = false := rfl
  have e4 : ((2 : Int) == 4) = false := rfl
  have e5 : G9x0x34 N 2 = some (.inr (.inl ())) := rfl
  simp only [hlt, hin, _root_.cond_true, Int.toNat_natCast, hx, hfi, bnd_eq, hk, e1, e2, e3, e4, e5, P32f, Option.isSome_some, getD_some, inlB_l, i1, i2, List.length_append, List.length_cons, List.length_nil, Nat.zero_add, ra, rb, rc, rd, re, rf, Bool.and_self, P53f, inlB_r, inrQ_inr, _root_.cond_false, hw2]
  refine fin9 ?_ ?_ ?_ hj ht
  ·rfl
  ·first | decide | simp
  ·first | decide | simp
 ·have n1 := nums3 h hk
  rw [words3 hk] at hj hwl ⊢
  have e1 : inB (3 : Int) (V23x0 N).length = true := rfl
  have e3 : ((3 : Int) == 3) = true := rfl
  have e4 : ((3 : Int) == 4) = false := rfl
  have e5 : G9x0x34 N 3 = some (.inr (.inr (.inr ()))) := rfl
  simp only [hlt, hin, _root_.cond_true, Int.toNat_natCast, hx, hfi, bnd_eq, hk, e1, e3, e4, e5, P32t n1, Option.isSome_some, getD_some, inlB_l, List.length_append, List.length_cons, List.length_nil, Nat.zero_add, Bool.and_self, P53bf, inlB_r, inrQ_inr, _root_.cond_false, hw2]
  refine fin9 ?_ ?_ ?_ hj ht
  ·rfl
  ·first | decide | simp
  ·first | decide | simp
 ·rw [words4 hk] at hj hwl ⊢
  have e1 : inB (4 : Int) (V23x0 N).length = true := rfl
  have e2 : ((V23x0 N).getD (4 : Int).toNat (.i 0)).toS = whatN 4 := rfl
  have e3 : ((4 : Int) == 3) = false := rfl
  have e4 : ((4 : Int) == 4) = true := rfl
  have e5 : G9x0x34 N 4 = some (.inr (.inr (.inr ()))) := rfl
  simp only [hlt, hin, _root_.cond_true, Int.toNat_natCast, hx, hfi, bnd_eq, hk, e1, e2, e3, e4, e5, P32f, Option.isSome_some, getD_some, inlB_l, inlV_l, List.length_append, Nat.zero_add, Bool.and_self, P53bt, inlB_r, inrQ_inr, _root_.cond_false, hw2]
  refine fin9 ?_ ?_ ?_ hj ht
  ·rfl
  ·first | decide | simp
  ·first | decide | simp
 ·have n1 := nums5 h hk
  obtain ⟨_, _, i1, _⟩ := int_facts n1
  rw [words5 hk] at hj hwl ⊢
  have e1 : inB (5 : Int) (V23x0 N).length = true := rfl
  have e2 : ((V23x0 N).getD (5 : Int).toNat (.i 0)).toS = whatN 5 := rfl
  have e3 : ((5 : Int) == 3) = false := rfl
  have e4 : ((5 : Int) == 4) = false := rfl
  have e5 : G9x0x34 N 5 = some (.inr (.inr (.inl ()))) := rfl
  simp only [hlt, hin, _root_.cond_true, Int.toNat_natCast, hx, hfi, bnd_eq, hk, e1, e2, e3, e4, e5, P32f, Option.isSome_some, getD_some, inlB_l, i1, List.length_append, List.length_cons, List.length_nil, Nat.zero_add, ra, rb, rc, rd, re, rf, Bool.and_self, P53f, inlB_r, inrQ_inr, _root_.cond_false, hw2]
  refine fin9 ?_ ?_ ?_ hj ht
  ·rfl
  ·first | decide | simp
  ·first | decide | simp
 ·rw [words6 hk] at hj hwl ⊢
  have e1 : inB (6 : Int) (V23x0 N).length = true := rfl
  have e2 : ((V23x0 N).getD (6 : Int).toNat (.i 0)).toS = whatN 6 := rfl
  have e3 : ((6 : Int) == 3) = false := rfl
  have e4 : ((6 : Int) == 4) = false := rfl
  have e5 : G9x0x34 N 6 = some (.inr (.inr (.inr ()))) := rfl
  simp only [hlt, hin, _root_.cond_true, Int.toNat_natCast, hx, hfi, bnd_eq, hk, e1, e2, e3, e4, e5, P32f, Option.isSome_some, getD_some, inlB_l, List.length_append, Nat.zero_add, Bool.and_self, P53bf, inlB_r, inrQ_inr, _root_.cond_false, hw2]
  refine fin9 ?_ ?_ ?_ hj ht
  ·rfl
  ·first | decide | simp
  ·first | decide | simp
 ·rw [words7 hk] at hj hwl ⊢
  have e1 : inB (7 : Int) (V23x0 N).length = true := rfl
  have e2 : ((V23x0 N).getD (7 : Int).toNat (.i 0)).toS = whatN 7 := rfl
  have e3 : ((7 : Int) == 3) = false := rfl
  have e4 : ((7 : Int) == 4) = false := rfl
  have e5 : G9x0x34 N 7 = some (.inr (.inr (.inr ()))) := rfl
  simp only [hlt, hin, _root_.cond_true, Int.toNat_natCast, hx, hfi, bnd_eq, hk, e1, e2, e3, e4, e5, P32f, Option.isSome_some, getD_some, inlB_l, List.length_append, Nat.zero_add, Bool.and_self, P53bf, inlB_r, inrQ_inr, _root_.cond_false, hw2]
  refine fin9 ?_ ?_ ?_ hj ht
  ·rfl
  ·first | decide | simp
  ·first | decide | simp
 ·have n1 := nums8 h hk
  obtain ⟨_, _, i1, _⟩ := int_facts n1
  rw [words8 hk] at hj hwl ⊢
  have e1 : inB (8 : Int) (V23x0 N).length = true := rfl
  have e2 : ((V23x0 N).getD (8 : Int).toNat (.i 0)).toS = whatN 8 := rfl
  have e3 : ((8 : Int) == 3) = false := rfl
  have e4 : ((8 : Int) == 4) = false := rfl
  have e5 : G9x0x34 N 8 = some (.inr (.inr (.inl ()))) := rfl
  simp only [hlt, hin, _root_.cond_true, Int.toNat_natCast, hx, hfi, bnd_eq, hk, e1, e2, e3, e4, e5, P32f, Option.isSome_some, getD_some, inlB_l, i1, List.length_append, List.length_cons, List.length_nil, Nat.zero_add, ra, rb, rc, rd, re, rf, Bool.and_self, P53f, inlB_r, inrQ_inr, _root_.cond_false, hw2]
  refine fin9 ?_ ?_ ?_ hj ht
  ·rfl
  ·first | decide | simp
  ·first | decide | simp
theorem print9 {xs : List D} (hok : ∀ x ∈ xs, RuleOk x) (hn : xs.length ≤ 50) : ∀ (r : List D) (i m : Nat) (fl : Bool) (t : List UInt8), xs.drop i = r → i ≤ xs.length → t.length + 500 * r.length ≤ 900000000 → r.length < m →
  L9x0x18 N (R := Bool × LD) xs xs.length m (i : Int) fl (bytesD t) (fun p => some p) = some (fl && r.isEmpty, bytesD (t ++ r.flatMap fun x => lineR x ++ [10]))
 | _, _, 0, _, _, _, _, _, hm => by omega
 | [], i, m + 1, fl, t, hd, hi, ht, _ => by
  have hll := congrArg List.length hd
  simp at hll
  have : ¬ (i : Int) < (xs.length : Int) := by omega
  simp only [L9x0x18, S9x0x18, decide_eq_false this, _root_.cond_false]
  simp
 | x :: r, i, m + 1, fl, t, hd, hi, ht, hm => by
  obtain ⟨h1, h2, h3⟩ := at_dropD hd
  have hmem : x ∈ xs := List.mem_of_mem_drop (by rw [hd]; simp)
  rw [List.length_cons] at ht
  have hl := (line_facts (hok x hmem)).1
  have ih := print9 hok hn r (i + 1) m false (t ++ (lineR x ++ [10])) h3 (by omega) (by rw [List.length_append, List.length_append]; simp only [List.length_cons, List.length_nil]; omega) (by simp at hm; omega)
  unfold L9x0x18
  rw [round9 (hok x hmem) h1 h2 hn fl (by omega)]
  rw [ih]
  simp
theorem nums46 (hN : maxLen < N) : ∀ {ns : List D}, ns.length ≤ 3 → (∀ d ∈ ns, d.toI.natAbs < 1000000000) → G46x0 N ns = some (ns.flatMap fun d => 32 :: Lib.itoa d.toI) := by
 intro ns hn hb
 have hM : maxLen = 9223372036854775807 := rfl
 have key : ∀ (r : List D) (i m : Nat) (t : List UInt8), ns.drop i = r → i ≤ ns.length → t.length + 20 * r.length ≤ 1000 → r.length < m →
   L46x0x9 N (R := LB) ns ns.length m t (i : Int) (fun p => some p) = some (t ++ r.flatMap fun d => 32 :: Lib.itoa d.toI) := by
  intro r
  induction r with
  | nil =>
   intro i m t hd hi ht hm
   obtain ⟨m, rfl⟩ : ∃ k, m = k + 1 := ⟨m - 1, by simp at hm; omega⟩
   have hll := congrArg List.length hd
   simp at hll
   have : ¬ (i : Int) < (ns.length : Int) := by omega
   simp only [L46x0x9, S46x0x9, decide_eq_false this, _root_.cond_false]
   simp
  | cons d r ih =>
   intro i m t hd hi ht hm
   obtain ⟨m, rfl⟩ : ∃ k, m = k + 1 := ⟨m - 1, by omega⟩
   obtain ⟨h1, h2, h3⟩ := at_dropD hd
   have hmem : d ∈ ns := List.mem_of_mem_drop (by rw [hd]; simp)
   obtain ⟨_, _, i1, l1, _⟩ := int_facts (hb d hmem)
   have hlt : decide ((i : Int) < (ns.length : Int)) = true := decide_eq_true (by omega)
   have hin : inB (i : Int) ns.length = true := inB_of (by omega) (by omega)
   have hw2 : IntKind.wrap .i64 ((i : Int) + 1) = ((i + 1 : Nat) : Int) := wrapI (by omega) (by omega)
   rw [List.length_cons] at ht
   have := ih (i + 1) m (t ++ ([32] ++ Lib.itoa d.toI)) h3 (by omega) (by simp only [List.length_append, List.length_cons, List.length_nil]; omega) (by simp at hm; omega)
   simp (disch := omega) only [L46x0x9, S46x0x9, hlt, hin, _root_.cond_true, Int.toNat_natCast, h2, i1, bnd_eq, List.length_append, List.length_cons, List.length_nil, dle, hw2]
   rw [this]
   simp
 have q := key ns 0 N [] rfl (by omega) (by simp; omega) (by omega)
 have q : G46x0x9 N ns (ns.length : Int) [] 0 = _ := q
 unfold G46x0 F46x0
 rw [q]
 simp [bnd_eq]
def restR (x : D) : List UInt8 :=
 bif rKind x == 1 then whatN 1 ++ 32 :: (Lib.itoa (rX x) ++ 32 :: (Lib.itoa (rY x) ++ 32 :: Lib.itoa (rR x)))
 else bif rKind x == 2 then whatN 2 ++ 32 :: (Lib.itoa (rHf x) ++ 32 :: Lib.itoa (rHt x))
 else bif rKind x == 3 then fldN (rN x)
 else bif rKind x == 4 then whatN 4 ++ 32 :: rT x
 else bif rKind x == 5 then whatN 5 ++ 32 :: Lib.itoa (rN x)
 else bif rKind x == 6 then whatN 6
 else bif rKind x == 7 then whatN 7
 else whatN 8 ++ 32 :: Lib.itoa (rN x)
theorem line_rest (x : D) : lineR x = lev (rFrom x) ++ 32 :: restR x := by
 unfold lineR wordsR restR
 cases rKind x == 1 <;> cases rKind x == 2 <;> cases rKind x == 3 <;> cases rKind x == 4 <;> cases rKind x == 5 <;> cases rKind x == 6 <;> cases rKind x == 7 <;> simp only [_root_.cond_true, _root_.cond_false, join_cons2, Lib.join_one]
theorem what31 (hN : maxLen < N) {x : D} (h : RuleOk x) : G31x0 N (rKind x) (rX x) (rY x) (rR x) (rHf x) (rHt x) (rN x) (rT x) = some (restR x) := by
 unfold G31x0 F31x0 restR
 rcases h.k with hk | hk | hk | hk | hk | hk | hk | hk
 ·obtain ⟨n1, n2, n3⟩ := nums1 h hk
  obtain ⟨_, _, _, l1, _⟩ := int_facts n1
  obtain ⟨_, _, _, l2, _⟩ := int_facts n2
  obtain ⟨_, _, _, l3, _⟩ := int_facts n3
  have q := nums46 hN (ns := [.i (rX x), .i (rY x), .i (rR x)]) (by simp) (fun d hd => by
   simp only [List.mem_cons, List.not_mem_nil, or_false] at hd
   rcases hd with rfl | rfl | rfl
   ·exact n1
   ·exact n2
   ·exact n3)
  rw [hk, q]
  simp (disch := omega) only [beq_self_eq_true, _root_.cond_true, bnd_eq, Option.isSome_some, getD_some, List.flatMap_cons, List.flatMap_nil, List.length_append, List.length_cons, List.length_nil, iI, dle]
  simp [whatN, WH, D.toS, iI]
 ·obtain ⟨n1, n2⟩ := nums2 h hk
  obtain ⟨_, _, _, l1, _⟩ := int_facts n1
  obtain ⟨_, _, _, l2, _⟩ := int_facts n2
  have q := nums46 hN (ns := [.i (rHf x), .i (rHt x)]) (by simp) (fun d hd => by
   simp only [List.mem_cons, List.not_mem_nil, or_false] at hd
   rcases hd with rfl | rfl
   ·exact n1
   ·exact n2)
  rw [hk, q]
  simp (disch := omega) only [show ((2 : Int) == 1) = false from rfl, _root_.cond_false, beq_self_eq_true, _root_.cond_true, bnd_eq, Option.isSome_some, getD_some, List.flatMap_cons, List.flatMap_nil, List.length_append, List.length_cons, List.length_nil, iI, dle]
  simp [whatN, WH, D.toS, iI]
 ·have n1 := nums3 h hk
  rw [hk]
  have : rN x = 1 ∨ rN x = 2 ∨ rN x = 3 ∨ rN x = 4 := by omega
  rcases this with e | e | e | e <;> rw [e] <;> rfl
 ·have n1 := (name_ok (nums4 h hk)).l
  rw [hk]
  simp (disch := omega) only [show ((4 : Int) == 1) = false from rfl, show ((4 : Int) == 2) = false from rfl, show ((4 : Int) == 3) = false from rfl, _root_.cond_false, beq_self_eq_true, _root_.cond_true, List.length_append, List.length_cons, List.length_nil, dle]
  rfl
 ·have n1 := nums5 h hk
  obtain ⟨_, _, _, l1, _⟩ := int_facts n1
  have q := nums46 hN (ns := [.i (rN x)]) (by simp) (fun d hd => by
   simp only [List.mem_cons, List.not_mem_nil, or_false] at hd
   subst hd
   exact n1)
  rw [hk, q]
  simp (disch := omega) only [show ((5 : Int) == 1) = false from rfl, show ((5 : Int) == 2) = false from rfl, show ((5 : Int) == 3) = false from rfl, show ((5 : Int) == 4) = false from rfl, _root_.cond_false, beq_self_eq_true, _root_.cond_true, bnd_eq, Option.isSome_some, getD_some, List.flatMap_cons, List.flatMap_nil, List.length_append, List.length_cons, List.length_nil, iI, dle]
  simp [whatN, WH, D.toS, iI]
 ·rw [hk]; rfl
 ·rw [hk]; rfl
 ·have n1 := nums8 h hk
  obtain ⟨_, _, _, l1, _⟩ := int_facts n1
  have q := nums46 hN (ns := [.i (rN x)]) (by simp) (fun d hd => by
   simp only [List.mem_cons, List.not_mem_nil, or_false] at hd
   subst hd
   exact n1)
  rw [hk, q]
  simp (disch := omega) only [show ((8 : Int) == 1) = false from rfl, show ((8 : Int) == 2) = false from rfl, show ((8 : Int) == 3) = false from rfl, show ((8 : Int) == 4) = false from rfl, show ((8 : Int) == 5) = false from rfl, show ((8 : Int) == 6) = false from rfl, show ((8 : Int) == 7) = false from rfl, _root_.cond_false, beq_self_eq_true, _root_.cond_true, bnd_eq, Option.isSome_some, getD_some, List.flatMap_cons, List.flatMap_nil, List.length_append, List.length_cons, List.length_nil, iI, dle]
  simp [whatN, WH, D.toS, iI]
theorem print10 (hN : maxLen < N) {xs : List D} (hok : ∀ x ∈ xs, RuleOk x) (hn : xs.length ≤ 50) : ∀ (r : List D) (i m : Nat) (t : List UInt8), xs.drop i = r → i ≤ xs.length → t.length + 500 * r.length ≤ 900000000 → r.length < m →
  L10x0x18 N (R := LB) xs xs.length m t (i : Int) (fun p => some p) = some (t ++ r.flatMap fun x => lineR x ++ [10])
 | _, _, 0, _, _, _, _, hm => by omega
 | [], i, m + 1, t, hd, hi, ht, _ => by
  have hll := congrArg List.length hd
  simp at hll
  have : ¬ (i : Int) < (xs.length : Int) := by omega
  simp only [L10x0x18, S10x0x18, decide_eq_false this, _root_.cond_false]
  simp
 | x :: r, i, m + 1, t, hd, hi, ht, hm => by
  obtain ⟨h1, h2, h3⟩ := at_dropD hd
  have hmem : x ∈ xs := List.mem_of_mem_drop (by rw [hd]; simp)
  have hr := hok x hmem
  rw [List.length_cons] at ht
  have hl := (line_facts hr).1
  have hlr := line_rest x
  have hll := congrArg List.length hlr
  rw [List.length_append, List.length_cons] at hll
  have hlt : decide ((i : Int) < (xs.length : Int)) = true := decide_eq_true (by omega)
  have hin : inB (i : Int) xs.length = true := inB_of (by omega) (by omega)
  have hw2 : IntKind.wrap .i64 ((i : Int) + 1) = ((i + 1 : Nat) : Int) := wrapI (by omega) (by omega)
  have hfi := (from_in (N := N) hr.f).2
  have hfr : ((V30x0 N).getD (rFrom x).toNat (.i 0)).toS = lev (rFrom x) := rfl
  have ih := print10 hN hok hn r (i + 1) m (t ++ (lineR x ++ [10])) h3 (by omega) (by rw [List.length_append, List.length_append]; simp only [List.length_cons, List.length_nil]; omega) (by simp at hm; omega)
  have w31 := what31 hN hr
  simp (disch := omega) only [L10x0x18, S10x0x18, hlt, hin, _root_.cond_true, Int.toNat_natCast, h2, hfi, bnd_eq, hfr, w31, Option.isSome_some, getD_some, List.length_append, List.length_cons, List.length_nil, dle, hw2]
  have e : (lev (rFrom x) ++ [32] ++ restR x ++ [10] : List UInt8) = lineR x ++ [10] := by rw [hlr]; simp
  rw [e, ih]
  simp
end Go.Proofs.YtohplnjpncjhoaaGreatDoor

namespace Go.Proofs.YtohplnjpncjhoaaGreatDoor
open Go Go.AM
set_option maxRecDepth 100000
set_option maxHeartbeats 4000000
set_option linter.unusedVariables false
set_option linter.unusedSimpArgs false
variable {N : Nat}
theorem g34a (hN : maxLen < N) {fr : Int} (h : fr = 1 ∨ fr = 2 ∨ fr = 3) : G34x0 N (V22x0 N) (lev fr) = some fr := by
 rw [V22_eq, G34x0_eq hN (lev_ok h).1.ne (by decide), (lev_ok h).2]
 rcases h with rfl | rfl | rfl <;> rfl
theorem g34b (hN : maxLen < N) {k : Int} (h : k = 1 ∨ k = 2 ∨ k = 4 ∨ k = 5 ∨ k = 6 ∨ k = 7 ∨ k = 8) : G34x0 N (V24x0 N) (whatN k) = some (-1) := by
 rw [V24_eq, G34x0_eq hN (whatN_ok h).1.ne (by decide), (whatN_ok h).2.1]
 rfl
theorem g34c (hN : maxLen < N) {k : Int} (h : k = 1 ∨ k = 2 ∨ k = 4 ∨ k = 5 ∨ k = 6 ∨ k = 7 ∨ k = 8) : G34x0 N (V23x0 N) (whatN k) = some k := by
 rw [V23_eq, G34x0_eq hN (whatN_ok h).1.ne (by decide), (whatN_ok h).2.2]
 rcases h with rfl | rfl | rfl | rfl | rfl | rfl | rfl <;> rfl
theorem g34f (hN : maxLen < N) {n : Int} (h : 1 ≤ n ∧ n ≤ 4) : G34x0 N (V24x0 N) (fldN n) = some n := by
 rw [V24_eq, G34x0_eq hN (fldN_ok h).1.ne (by decide), (fldN_ok h).2]
 have : n = 1 ∨ n = 2 ∨ n = 3 ∨ n = 4 := by omega
 rcases this with rfl | rfl | rfl | rfl <;> rfl
theorem g35 {n : Int} (h : n.natAbs < 1000000000) : G35x0 N (Lib.itoa n) = some (n, true) := by
 obtain ⟨h1, h2, _, h4, _⟩ := int_facts h
 rw [G35x0_eq _ (by omega), h1, h2]
theorem from_pos {fr : Int} (h : fr = 1 ∨ fr = 2 ∨ fr = 3) : decide (fr > 0) = true ∧ decide (fr < 1) = false := by
 rcases h with rfl | rfl | rfl <;> exact ⟨rfl, rfl⟩
section
variable {fr : Int} (hf : fr = 1 ∨ fr = 2 ∨ fr = 3)
include hf
theorem read3 (hN : maxLen < N) {n : Int} (hn : 1 ≤ n ∧ n ≤ 4) : G14x0 N (strsD [lev fr, fldN n]) = some (fr, 3, 0, 0, 0, 0, 0, n, [], true) := by
 have l0 : decide (((strsD [lev fr, fldN n]).length : Int) < 2) = false := rfl
 have i0 : inB 0 (strsD [lev fr, fldN n]).length = true := rfl
 have i1 : inB 1 (strsD [lev fr, fldN n]).length = true := rfl
 have t0 : ((strsD [lev fr, fldN n]).getD 0 (.i 0)).toS = lev fr := rfl
 have t1 : ((strsD [lev fr, fldN n]).getD 1 (.i 0)).toS = fldN n := rfl
 have e2 : (((strsD [lev fr, fldN n]).length : Int) == 2) = true := rfl
 unfold G14x0 F14x0
 simp only [l0, i0, i1, t0, t1, e2, _root_.cond_false, _root_.cond_true, bnd_eq, g34a hN hf, g34f hN hn, Option.isSome_some, getD_some, decide_eq_true (by omega : n > 0), (from_pos hf).1]
theorem read67 (hN : maxLen < N) {k : Int} (hk : k = 6 ∨ k = 7) : G14x0 N (strsD [lev fr, whatN k]) = some (fr, k, 0, 0, 0, 0, 0, 0, [], true) := by
 have l0 : decide (((strsD [lev fr, whatN k]).length : Int) < 2) = false := rfl
 have i0 : inB 0 (strsD [lev fr, whatN k]).length = true := rfl
 have i1 : inB 1 (strsD [lev fr, whatN k]).length = true := rfl
 have t0 : ((strsD [lev fr, whatN k]).getD 0 (.i 0)).toS = lev fr := rfl
 have t1 : ((strsD [lev fr, whatN k]).getD 1 (.i 0)).toS = whatN k := rfl
 have d1 : decide (2 ≤ ((strsD [lev fr, whatN k]).length : Int)) = true := rfl
 have d2 : decide (((strsD [lev fr, whatN k]).length : Int) ≤ ((strsD [lev fr, whatN k]).length : Int)) = true := decide_eq_true (Int.le_refl _)
 have dr : ((strsD [lev fr, whatN k]).take ((strsD [lev fr, whatN k]).length : Int).toNat).drop 2 = [] := rfl
 have hk' : k = 1 ∨ k = 2 ∨ k = 4 ∨ k = 5 ∨ k = 6 ∨ k = 7 ∨ k = 8 := by omega
 have k1 : decide (k < 1) = false := decide_eq_false (by omega)
 have k4 : (k == 4) = false := by rcases hk with rfl | rfl <;> rfl
 have w : G14x0x46 N k = some (.inr (.inr (.inr ()))) := by rcases hk with rfl | rfl <;> rfl
 unfold G14x0 F14x0
 simp only [l0, i0, i1, t0, t1, _root_.cond_false, _root_.cond_true, bnd_eq, g34a hN hf, g34b hN hk', g34c hN hk', Option.isSome_some, getD_some, show decide ((-1 : Int) > 0) = false from rfl, (from_pos hf).2, k1, d1, d2, Bool.and_self, dr, k4, w, inlB_r, inrQ_inr, List.length_nil]
 rfl
theorem read4 (hN : maxLen < N) (s : List UInt8) : G14x0 N (strsD [lev fr, whatN 4, s]) = some (fr, 4, 0, 0, 0, 0, 0, 0, s, true) := by
 have l0 : decide (((strsD [lev fr, whatN 4, s]).length : Int) < 2) = false := rfl
 have i0 : inB 0 (strsD [lev fr, whatN 4, s]).length = true := rfl
 have i1 : inB 1 (strsD [lev fr, whatN 4, s]).length = true := rfl
 have t0 : ((strsD [lev fr, whatN 4, s]).getD 0 (.i 0)).toS = lev fr := rfl
 have t1 : ((strsD [lev fr, whatN 4, s]).getD 1 (.i 0)).toS = whatN 4 := rfl
 have d1 : decide (2 ≤ ((strsD [lev fr, whatN 4, s]).length : Int)) = true := rfl
 have d2 : decide (((strsD [lev fr, whatN 4, s]).length : Int) ≤ ((strsD [lev fr, whatN 4, s]).length : Int)) = true := decide_eq_true (Int.le_refl _)
 have dr : ((strsD [lev fr, whatN 4, s]).take ((strsD [lev fr, whatN 4, s]).length : Int).toNat).drop 2 = [.s s] := rfl
 have hk' : (4 : Int) = 1 ∨ (4 : Int) = 2 ∨ (4 : Int) = 4 ∨ (4 : Int) = 5 ∨ (4 : Int) = 6 ∨ (4 : Int) = 7 ∨ (4 : Int) = 8 := by omega
 unfold G14x0 F14x0
 simp only [l0, i0, i1, t0, t1, _root_.cond_false, _root_.cond_true, bnd_eq, g34a hN hf, g34b hN hk', g34c hN hk', Option.isSome_some, getD_some, show decide ((-1 : Int) > 0) = false from rfl, (from_pos hf).2, show decide ((4 : Int) < 1) = false from rfl, d1, d2, Bool.and_self, dr]
 rfl
theorem read58 (hN : maxLen < N) {k n : Int} (hk : k = 5 ∨ k = 8) (hn : n.natAbs < 1000000000) : G14x0 N (strsD [lev fr, whatN k, Lib.itoa n]) = some (fr, k, 0, 0, 0, 0, 0, n, [], true) := by
 have l0 : decide (((strsD [lev fr, whatN k, Lib.itoa n]).length : Int) < 2) = false := rfl
 have i0 : inB 0 (strsD [lev fr, whatN k, Lib.itoa n]).length = true := rfl
 have i1 : inB 1 (strsD [lev fr, whatN k, Lib.itoa n]).length = true := rfl
 have t0 : ((strsD [lev fr, whatN k, Lib.itoa n]).getD 0 (.i 0)).toS = lev fr := rfl
 have t1 : ((strsD [lev fr, whatN k, Lib.itoa n]).getD 1 (.i 0)).toS = whatN k := rfl
 have d1 : decide (2 ≤ ((strsD [lev fr, whatN k, Lib.itoa n]).length : Int)) = true := rfl
 have d2 : decide (((strsD [lev fr, whatN k, Lib.itoa n]).length : Int) ≤ ((strsD [lev fr, whatN k, Lib.itoa n]).length : Int)) = true := decide_eq_true (Int.le_refl _)
 have dr : ((strsD [lev fr, whatN k, Lib.itoa n]).take ((strsD [lev fr, whatN k, Lib.itoa n]).length : Int).toNat).drop 2 = [.s (Lib.itoa n)] := rfl
 have hk' : k = 1 ∨ k = 2 ∨ k = 4 ∨ k = 5 ∨ k = 6 ∨ k = 7 ∨ k = 8 := by omega
 have k1 : decide (k < 1) = false := decide_eq_false (by omega)
 have k4 : (k == 4) = false := by rcases hk with rfl | rfl <;> rfl
 have w : G14x0x46 N k = some (.inr (.inr (.inl ()))) := by rcases hk with rfl | rfl <;> rfl
 have r0 : inB 0 [D.s (Lib.itoa n)].length = true := rfl
 have r1 : (([D.s (Lib.itoa n)].length : Int) != 1) = false := rfl
 have r2 : ([D.s (Lib.itoa n)].getD 0 (.i 0)).toS = Lib.itoa n := rfl
 unfold G14x0 F14x0
 simp only [l0, i0, i1, t0, t1, _root_.cond_false, _root_.cond_true, bnd_eq, g34a hN hf, g34b hN hk', g34c hN hk', Option.isSome_some, getD_some, show decide ((-1 : Int) > 0) = false from rfl, (from_pos hf).2, k1, d1, d2, Bool.and_self, dr, k4, w, inlB_r, inrQ_inr, inlB_l, r0, r1, r2, g35 hn, Bool.not_true]
theorem read2 (hN : maxLen < N) {a b : Int} (ha : a.natAbs < 1000000000) (hb : b.natAbs < 1000000000) : G14x0 N (strsD [lev fr, whatN 2, Lib.itoa a, Lib.itoa b]) = some (fr, 2, 0, 0, 0, a, b, 0, [], true) := by
 have l0 : decide (((strsD [lev fr, whatN 2, Lib.itoa a, Lib.itoa b]).length : Int) < 2) = false := rfl
 have i0 : inB 0 (strsD [lev fr, whatN 2, Lib.itoa a, Lib.itoa b]).length = true := rfl
 have i1 : inB 1 (strsD [lev fr, whatN 2, Lib.itoa a, Lib.itoa b]).length = true := rfl
 have t0 : ((strsD [lev fr, whatN 2, Lib.itoa a, Lib.itoa b]).getD 0 (.i 0)).toS = lev fr := rfl
 have t1 : ((strsD [lev fr, whatN 2, Lib.itoa a, Lib.itoa b]).getD 1 (.i 0)).toS = whatN 2 := rfl
 have d1 : decide (2 ≤ ((strsD [lev fr, whatN 2, Lib.itoa a, Lib.itoa b]).length : Int)) = true := rfl
 have d2 : decide (((strsD [lev fr, whatN 2, Lib.itoa a, Lib.itoa b]).length : Int) ≤ ((strsD [lev fr, whatN 2, Lib.itoa a, Lib.itoa b]).length : Int)) = true := decide_eq_true (Int.le_refl _)
 have dr : ((strsD [lev fr, whatN 2, Lib.itoa a, Lib.itoa b]).take ((strsD [lev fr, whatN 2, Lib.itoa a, Lib.itoa b]).length : Int).toNat).drop 2 = [.s (Lib.itoa a), .s (Lib.itoa b)] := rfl
 have hk' : (2 : Int) = 1 ∨ (2 : Int) = 2 ∨ (2 : Int) = 4 ∨ (2 : Int) = 5 ∨ (2 : Int) = 6 ∨ (2 : Int) = 7 ∨ (2 : Int) = 8 := by omega
 have w : G14x0x46 N 2 = some (.inr (.inl ())) := rfl
 have r0 : inB 0 [D.s (Lib.itoa a), .s (Lib.itoa b)].length = true := rfl
 have r0' : inB 1 [D.s (Lib.itoa a), .s (Lib.itoa b)].length = true := rfl
 have r1 : (([D.s (Lib.itoa a), .s (Lib.itoa b)].length : Int) != 2) = false := rfl
 have r2 : ([D.s (Lib.itoa a), .s (Lib.itoa b)].getD 0 (.i 0)).toS = Lib.itoa a := rfl
 have r3 : ([D.s (Lib.itoa a), .s (Lib.itoa b)].getD 1 (.i 0)).toS = Lib.itoa b := rfl
 unfold G14x0 F14x0
 simp only [l0, i0, i1, t0, t1, _root_.cond_false, _root_.cond_true, bnd_eq, g34a hN hf, g34b hN hk', g34c hN hk', Option.isSome_some, getD_some, show decide ((-1 : Int) > 0) = false from rfl, (from_pos hf).2, show decide ((2 : Int) < 1) = false from rfl, show ((2 : Int) == 4) = false from rfl, d1, d2, Bool.and_self, dr, w, inlB_r, inrQ_inr, inlB_l, r0, r0', r1, r2, r3, g35 ha, g35 hb, Bool.not_true]
theorem read1 (hN : maxLen < N) {a b c : Int} (ha : a.natAbs < 1000000000) (hb : b.natAbs < 1000000000) (hc : c.natAbs < 1000000000) : G14x0 N (strsD [lev fr, whatN 1, Lib.itoa a, Lib.itoa b, Lib.itoa c]) = some (fr, 1, a, b, c, 0, 0, 0, [], true) := by
 have l0 : decide (((strsD [lev fr, whatN 1, Lib.itoa a, Lib.itoa b, Lib.itoa c]).length : Int) < 2) = false := rfl
 have i0 : inB 0 (strsD [lev fr, whatN 1, Lib.itoa a, Lib.itoa b, Lib.itoa c]).length = true := rfl
 have i1 : inB 1 (strsD [lev fr, whatN 1, Lib.itoa a, Lib.itoa b, Lib.itoa c]).length = true := rfl
 have t0 : ((strsD [lev fr, whatN 1, Lib.itoa a, Lib.itoa b, Lib.itoa c]).getD 0 (.i 0)).toS = lev fr := rfl
 have t1 : ((strsD [lev fr, whatN 1, Lib.itoa a, Lib.itoa b, Lib.itoa c]).getD 1 (.i 0)).toS = whatN 1 := rfl
 have d1 : decide (2 ≤ ((strsD [lev fr, whatN 1, Lib.itoa a, Lib.itoa b, Lib.itoa c]).length : Int)) = true := rfl
 have d2 : decide (((strsD [lev fr, whatN 1, Lib.itoa a, Lib.itoa b, Lib.itoa c]).length : Int) ≤ ((strsD [lev fr, whatN 1, Lib.itoa a, Lib.itoa b, Lib.itoa c]).length : Int)) = true := decide_eq_true (Int.le_refl _)
 have dr : ((strsD [lev fr, whatN 1, Lib.itoa a, Lib.itoa b, Lib.itoa c]).take ((strsD [lev fr, whatN 1, Lib.itoa a, Lib.itoa b, Lib.itoa c]).length : Int).toNat).drop 2 = [.s (Lib.itoa a), .s (Lib.itoa b), .s (Lib.itoa c)] := rfl
 have hk' : (1 : Int) = 1 ∨ (1 : Int) = 2 ∨ (1 : Int) = 4 ∨ (1 : Int) = 5 ∨ (1 : Int) = 6 ∨ (1 : Int) = 7 ∨ (1 : Int) = 8 := by omega
 have w : G14x0x46 N 1 = some (.inl ()) := rfl
 have r0 : inB 0 [D.s (Lib.itoa a), .s (Lib.itoa b), .s (Lib.itoa c)].length = true := rfl
 have r0' : inB 1 [D.s (Lib.itoa a), .s (Lib.itoa b), .s (Lib.itoa c)].length = true := rfl
 have r0'' : inB 2 [D.s (Lib.itoa a), .s (Lib.itoa b), .s (Lib.itoa c)].length = true := rfl
 have r1 : (([D.s (Lib.itoa a), .s (Lib.itoa b), .s (Lib.itoa c)].length : Int) != 3) = false := rfl
 have r2 : ([D.s (Lib.itoa a), .s (Lib.itoa b), .s (Lib.itoa c)].getD 0 (.i 0)).toS = Lib.itoa a := rfl
 have r3 : ([D.s (Lib.itoa a), .s (Lib.itoa b), .s (Lib.itoa c)].getD 1 (.i 0)).toS = Lib.itoa b := rfl
 have r4 : ([D.s (Lib.itoa a), .s (Lib.itoa b), .s (Lib.itoa c)].getD 2 (.i 0)).toS = Lib.itoa c := rfl
 unfold G14x0 F14x0
 simp only [l0, i0, i1, t0, t1, _root_.cond_false, _root_.cond_true, bnd_eq, g34a hN hf, g34b hN hk', g34c hN hk', Option.isSome_some, getD_some, show decide ((-1 : Int) > 0) = false from rfl, (from_pos hf).2, show decide ((1 : Int) < 1) = false from rfl, show ((1 : Int) == 4) = false from rfl, d1, d2, Bool.and_self, dr, w, inlB_r, inrQ_inr, inlB_l, r0, r0', r0'', r1, r2, r3, r4, g35 ha, g35 hb, g35 hc, Bool.not_true]
end
def RuleT (x : D) : Prop := ∃ f k a b c d e n s, x = .a [.i f, .i k, .i a, .i b, .i c, .i d, .i e, .i n, .s s]
theorem zero_facts {x : D} (h : RuleOk x) : (rKind x ≠ 1 → rX x = 0 ∧ rY x = 0 ∧ rR x = 0) ∧ (rKind x ≠ 2 → rHf x = 0 ∧ rHt x = 0) ∧ (rKind x ≠ 3 → rKind x ≠ 5 → rKind x ≠ 8 → rN x = 0) ∧ (rKind x ≠ 4 → rT x = []) := by
 have hz := h.z
 unfold zeroB at hz
 simp only [Bool.and_eq_true, Bool.or_eq_true, beq_iff_eq] at hz
 obtain ⟨⟨⟨z1, z2⟩, z3⟩, z4⟩ := hz
 refine ⟨fun hk => ?_, fun hk => ?_, fun k3 k5 k8 => ?_, fun hk => ?_⟩
 ·rcases z1 with z1 | z1
  ·exact absurd z1 hk
  ·exact ⟨z1.1.1, z1.1.2, z1.2⟩
 ·rcases z2 with z2 | z2
  ·exact absurd z2 hk
  ·exact z2
 ·rcases z3 with ((z3 | z3) | z3) | z3
  ·exact absurd z3 k3
  ·exact absurd z3 k5
  ·exact absurd z3 k8
  ·exact z3
 ·rcases z4 with z4 | z4
  ·exact absurd z4 hk
  ·exact z4
theorem read14 (hN : maxLen < N) {x : D} (h : RuleOk x) (ht : RuleT x) : ∃ r : RT, G14x0 N (strsD (wordsR x)) = some r ∧ okT r = true ∧ ruleOf r = x := by
 obtain ⟨z1, z2, z3, z4⟩ := zero_facts h
 have hx : x = .a [.i (rFrom x), .i (rKind x), .i (rX x), .i (rY x), .i (rR x), .i (rHf x), .i (rHt x), .i (rN x), .s (rT x)] := by
  obtain ⟨f, k, a, b, c, d, e, n, s, rfl⟩ := ht
  rfl
 rcases h.k with hk | hk | hk | hk | hk | hk | hk | hk
 ·obtain ⟨n1, n2, n3⟩ := nums1 h hk
  rw [words1 hk, read1 h.f hN n1 n2 n3]
  refine ⟨_, rfl, rfl, ?_⟩
  conv => rhs; rw [hx, hk, (z2 (by omega)).1, (z2 (by omega)).2, z3 (by omega) (by omega) (by omega), z4 (by omega)]
  rfl
 ·obtain ⟨n1, n2⟩ := nums2 h hk
  rw [words2 hk, read2 h.f hN n1 n2]
  refine ⟨_, rfl, rfl, ?_⟩
  conv => rhs; rw [hx, hk, (z1 (by omega)).1, (z1 (by omega)).2.1, (z1 (by omega)).2.2, z3 (by omega) (by omega) (by omega), z4 (by omega)]
  rfl
 ·have n1 := nums3 h hk
  rw [words3 hk, read3 h.f hN n1]
  refine ⟨_, rfl, rfl, ?_⟩
  conv => rhs; rw [hx, hk, (z1 (by omega)).1, (z1 (by omega)).2.1, (z1 (by omega)).2.2, (z2 (by omega)).1, (z2 (by omega)).2, z4 (by omega)]
  rfl
 ·rw [words4 hk, read4 h.f hN (rT x)]
  refine ⟨_, rfl, rfl, ?_⟩
  conv => rhs; rw [hx, hk, (z1 (by omega)).1, (z1 (by omega)).2.1, (z1 (by omega)).2.2, (z2 (by omega)).1, (z2 (by omega)).2, z3 (by omega) (by omega) (by omega)]
  rfl
 ·have n1 := nums5 h hk
  rw [words5 hk, read58 h.f hN (.inl rfl) n1]
  refine ⟨_, rfl, rfl, ?_⟩
  conv => rhs; rw [hx, hk, (z1 (by omega)).1, (z1 (by omega)).2.1, (z1 (by omega)).2.2, (z2 (by omega)).1, (z2 (by omega)).2, z4 (by omega)]
  rfl
 ·rw [words6 hk, read67 h.f hN (.inl rfl)]
  refine ⟨_, rfl, rfl, ?_⟩
  conv => rhs; rw [hx, hk, (z1 (by omega)).1, (z1 (by omega)).2.1, (z1 (by omega)).2.2, (z2 (by omega)).1, (z2 (by omega)).2, z3 (by omega) (by omega) (by omega), z4 (by omega)]
  rfl
 ·rw [words7 hk, read67 h.f hN (.inr rfl)]
  refine ⟨_, rfl, rfl, ?_⟩
  conv => rhs; rw [hx, hk, (z1 (by omega)).1, (z1 (by omega)).2.1, (z1 (by omega)).2.2, (z2 (by omega)).1, (z2 (by omega)).2, z3 (by omega) (by omega) (by omega), z4 (by omega)]
  rfl
 ·have n1 := nums8 h hk
  rw [words8 hk, read58 h.f hN (.inr rfl) n1]
  refine ⟨_, rfl, rfl, ?_⟩
  conv => rhs; rw [hx, hk, (z1 (by omega)).1, (z1 (by omega)).2.1, (z1 (by omega)).2.2, (z2 (by omega)).1, (z2 (by omega)).2, z4 (by omega)]
  rfl
end Go.Proofs.YtohplnjpncjhoaaGreatDoor

namespace Go.Proofs.YtohplnjpncjhoaaGreatDoor
open Go Go.AM
set_option maxRecDepth 100000
set_option maxHeartbeats 4000000
set_option linter.unusedVariables false
set_option linter.unusedSimpArgs false
variable {N : Nat}
def textV (xs : List D) : List UInt8 := xs.flatMap fun x => lineR x ++ [10]
theorem split_lines : ∀ {r : List D}, (∀ x ∈ r, RuleOk x) → splitL 10 (textV r) = r.map lineR ++ [[]]
 | [], _ => rfl
 | x :: r, h => by
  have hw : textV (x :: r) = lineR x ++ 10 :: textV r := by simp [textV]
  rw [hw, splitL_at (line_facts (h x (by simp))).2.1, split_lines (fun y hy => h y (by simp [hy]))]
  rfl
theorem textV_len : ∀ {r : List D}, (∀ x ∈ r, RuleOk x) → (textV r).length ≤ 401 * r.length
 | [], _ => by simp [textV]
 | x :: r, h => by
  have hw : textV (x :: r) = lineR x ++ 10 :: textV r := by simp [textV]
  have := textV_len (r := r) (fun y hy => h y (by simp [hy]))
  have := (line_facts (h x (by simp))).1
  rw [hw, List.length_append, List.length_cons, List.length_cons]
  omega
theorem read_lines (hN : maxLen < N) {xs : List D} (hx : xs.length ≤ 1000) : ∀ (r : List D) (i m : Nat) (fl : Bool) (acc : List D), xs.drop i = strsD (r.map lineR ++ [[]]) → i ≤ xs.length → r.length + 1 < m → acc.length ≤ i → (∀ x ∈ r, RuleOk x ∧ RuleT x) →
  L5x0x15 N (R := Sum (Int × Bool × LD) (Bool × LD)) (xs.length : Int) xs m (i : Int) fl acc (fun p => some (.inl p)) (fun p => some (.inr p)) = some (.inr (fl && r.isEmpty, acc ++ r))
 | _, _, 0, _, _, _, _, hm, _, _ => by omega
 | [], i, m + 1, fl, acc, hd, hi, hm, ha, _ => by
  obtain ⟨h1, h2, h3⟩ := at_dropD (p := .s []) (r := []) hd
  have hl := congrArg List.length h3
  simp at hl
  obtain ⟨m, rfl⟩ : ∃ k, m = k + 1 := ⟨m - 1, by simp at hm; omega⟩
  have hlt : decide ((i : Int) < (xs.length : Int)) = true := decide_eq_true (by omega)
  have hin : inB (i : Int) xs.length = true := inB_of (by omega) (by omega)
  have hlt2 : decide (i < xs.length) = true := decide_eq_true h1
  have hw2 : IntKind.wrap .i64 ((i : Int) + 1) = ((i + 1 : Nat) : Int) := wrapI (by omega) (by omega)
  have hend : decide (((i + 1 : Nat) : Int) < (xs.length : Int)) = false := decide_eq_false (by omega)
  have hg : ((xs.getD i (.i 0)).toS) = [] := by rw [h2]; rfl
  have hp : noEmpty (strsD (splitD ([] : List UInt8) [32])) = [] := by rw [noEmpty_parts]; rfl
  simp only [L5x0x15, S5x0x15, hlt, _root_.cond_true, hin, Int.toNat_natCast, hlt2, hg, hp, bnd_eq, hw2, hend, _root_.cond_false]
  simp
  rfl
 | x :: r, i, m + 1, fl, acc, hd, hi, hm, ha, hr => by
  obtain ⟨h1, h2, h3⟩ := at_dropD (p := .s (lineR x)) (r := strsD (r.map lineR ++ [[]])) hd
  obtain ⟨k1, k2⟩ := hr x (by simp)
  obtain ⟨f1, f2, f3⟩ := line_facts k1
  obtain ⟨q, q1, q2, q3⟩ := read14 hN k1 k2
  have hlt : decide ((i : Int) < (xs.length : Int)) = true := decide_eq_true (by omega)
  have hin : inB (i : Int) xs.length = true := inB_of (by omega) (by omega)
  have hlt2 : decide (i < xs.length) = true := decide_eq_true h1
  have hw2 : IntKind.wrap .i64 ((i : Int) + 1) = ((i + 1 : Nat) : Int) := wrapI (by omega) (by omega)
  have hg : ((xs.getD i (.i 0)).toS) = lineR x := by rw [h2]; rfl
  have hcc : (Nat.blt (lineR x).length 4294967281 && (!([32] : List UInt8).isEmpty)) = true := by
   rw [Bool.and_eq_true]; exact ⟨(by rw [Nat.blt_eq]; omega), rfl⟩
  have hp : noEmpty (strsD (splitD (lineR x) [32])) = strsD (wordsR x) := by rw [noEmpty_parts, f3]
  have hne : (((strsD (wordsR x)).length : Int) == 0) = false := by
   rw [beq_eq_false_iff_ne]
   have := (words_ok k1).2.1
   simp only [strsD, List.length_map, ne_eq]
   cases hw : wordsR x with
   | nil => exact absurd hw this
   | cons a b => simp only [List.length_cons]; omega
  have hrm := room16 (n := acc.length + 1) (k := 80) (by decide) (by omega)
  have ho : q.2.2.2.2.2.2.2.2.2 = true := q2
  have ih := read_lines hN hx r (i + 1) m false (acc ++ [x]) h3 (by omega) (by simp at hm; omega) (by simp; omega) (fun y hy => hr y (by simp [hy]))
  simp only [L5x0x15, S5x0x15, hlt, _root_.cond_true, hin, Int.toNat_natCast, hlt2, hg, hcc, hp, hne, _root_.cond_false, bnd_eq, q1, Option.isSome_some, getD_some, ho, Bool.not_true, hrm, hw2]
  have e : (D.a [(.i q.1), (.i q.2.1), (.i q.2.2.1), (.i q.2.2.2.1), (.i q.2.2.2.2.1), (.i q.2.2.2.2.2.1), (.i q.2.2.2.2.2.2.1), (.i q.2.2.2.2.2.2.2.1), (.s q.2.2.2.2.2.2.2.2.1)]) = x := q3
  rw [e, ih]
  simp
theorem firstE_zero {e : Int → Int} : ∀ {l : List D} {w : Int}, firstE e w l = 0 → ∀ i : Nat, i < l.length → e (w + i) = 0
 | [], w, _, i, hi => by simp at hi
 | x :: r, w, h, i, hi => by
  simp only [firstE] at h
  cases he : e w != 0 with
  | true =>
   rw [he] at h
   simp only [_root_.cond_true] at h
   rw [h] at he
   simp at he
  | false =>
   rw [he] at h
   cases i with
   | zero => simpa using he
   | succ i =>
    have := firstE_zero (l := r) (w := w + 1) h i (by simpa using hi)
    rw [show w + ((i + 1 : Nat) : Int) = w + 1 + (i : Int) by omega]
    exact this
theorem chk_zero {xs : List D} (h : chkV xs = 0) : xs.length ≤ 50 ∧ ∀ x ∈ xs, RuleOk x := by
 unfold chkV at h
 cases hl : decide ((xs.length : Int) > 50) with
 | true => rw [hl] at h; exact absurd (show (3 : Int) = 0 from h) (by decide)
 | false =>
  rw [hl] at h
  have := of_decide_eq_false hl
  refine ⟨by omega, fun x hx => ?_⟩
  obtain ⟨i, hi, rfl⟩ := List.getElem_of_mem hx
  have hz := firstE_zero h i hi
  rw [Int.zero_add, Int.toNat_natCast, List.getD_eq_getElem?_getD, List.getElem?_eq_getElem hi] at hz
  exact ruleOk_of hz
theorem lines_bytes (l : List UInt8) (b : Bool) (h : l = [] → b = true) : (isBytes (bytesD l) && (!(bytesD l).isEmpty || b)) = true := by
 rw [isBytes_bytesD]
 cases l with
 | nil => rw [h rfl]; rfl
 | cons c r => rfl
theorem law4 (hN : maxLen < N) (ht : G8x0 N = some true) {xs : List D} (hv : VeilOk xs) (hty : ∀ x ∈ xs, RuleT x) : G4x0 N xs = some true := by
 have hM : maxLen = 9223372036854775807 := rfl
 have c1 := G15x0_eq hN hv
 have c2 := G19x0_eq hN hv
 by_cases hc : chkV xs = 0
 ·rw [hc] at c1 c2
  obtain ⟨n1, n2⟩ := chk_zero hc
  have q9 := print9 (N := N) n2 n1 xs 0 N true [] rfl (by omega) (by simp; omega) (by omega)
  have q10 := print10 hN n2 n1 xs 0 N [] rfl (by omega) (by simp; omega) (by omega)
  have q9 : G9x0x18 N xs (xs.length : Int) 0 true [] = some (xs.isEmpty, bytesD (textV xs)) := q9
  have q10 : G10x0x18 N xs (xs.length : Int) [] 0 = some (textV xs) := q10
  have hemp : textV xs = [] → xs.isEmpty = true := by
   intro h0
   cases xs with
   | nil => rfl
   | cons x r =>
    have := congrArg List.length h0
    simp [textV] at this
  have p9 : G9x0 N xs = some (textV xs, 0) := by
   unfold G9x0 F9x0
   rw [c1]
   simp only [bnd_eq, Option.isSome_some, _root_.cond_true, getD_some, show ((0 : Int) != 0) = false from rfl, _root_.cond_false, q9, strD_bytesD]
   rw [lines_bytes _ _ hemp]
   rfl
  have p10 : G10x0 N xs = some (textV xs, 0) := by
   unfold G10x0 F10x0
   rw [c2]
   simp only [bnd_eq, Option.isSome_some, _root_.cond_true, getD_some, show ((0 : Int) != 0) = false from rfl, _root_.cond_false, q10]
  have hlen := textV_len n2
  have hsp : splitD (textV xs) [10] = xs.map lineR ++ [[]] := by rw [splitD_one, split_lines n2]
  have hsl : (strsD (xs.map lineR ++ [[]])).length = xs.length + 1 := by simp [strsD]
  have g5 : G5x0 N (textV xs) = some (xs.isEmpty, xs, 0, 0) := by
   have hl := read_lines hN (xs := strsD (xs.map lineR ++ [[]])) (by rw [hsl]; omega) xs 0 N true [] rfl (by omega) (by omega) (by simp) (fun x hx => ⟨n2 x hx, hty x hx⟩)
   have hl : G5x0x15 N ((strsD (xs.map lineR ++ [[]])).length : Int) (strsD (xs.map lineR ++ [[]])) 0 true [] = some (.inr (xs.isEmpty, xs)) := hl
   have hcc : (Nat.blt (textV xs).length 4294967281 && (!([10] : List UInt8).isEmpty)) = true := by
    rw [Bool.and_eq_true]; exact ⟨(by rw [Nat.blt_eq]; omega), rfl⟩
   unfold G5x0 F5x0
   rw [decide_eq_false (by omega : ¬ ((textV xs).length : Int) > 100000), hcc, hsp, hl]
   simp only [_root_.cond_false, _root_.cond_true, bnd_eq, inlB_r, inrQ_inr, Option.isSome_some, getD_some, c1, show ((0 : Int) != 0) = false from rfl]
  unfold G4x0 F4x0
  rw [p9, p10]
  simp only [bnd_eq, Option.isSome_some, _root_.cond_true, getD_some, beq_self_eq_true, Bool.not_true, bne_self_eq_false, _root_.cond_false, show ((0 : Int) != 0) = false from rfl, g5]
  unfold G4x0x25 F4x0x25
  rw [G7x0_self hN hv.l, ht]
  simp [bnd_eq]
 ·have hc' : (chkV xs != 0) = true := by simpa using hc
  have p9 : G9x0 N xs = some ([], chkV xs) := by
   unfold G9x0 F9x0
   rw [c1]
   simp only [bnd_eq, Option.isSome_some, _root_.cond_true, getD_some, hc']
  have p10 : G10x0 N xs = some ([], chkV xs) := by
   unfold G10x0 F10x0
   rw [c2]
   simp only [bnd_eq, Option.isSome_some, _root_.cond_true, getD_some, hc']
  unfold G4x0 F4x0
  rw [p9, p10]
  simp only [bnd_eq, Option.isSome_some, _root_.cond_true, getD_some, beq_self_eq_true, Bool.not_true, _root_.cond_false, bne_self_eq_false, hc', ht]
end Go.Proofs.YtohplnjpncjhoaaGreatDoor

namespace Go.Proofs.YtohplnjpncjhoaaGreatDoor
open Go Go.AM
set_option maxRecDepth 100000
set_option maxHeartbeats 4000000
theorem kinds24 : kinds Tryz.prog 24 = [.sl 40] := by kernel_rfl
theorem kinds40 : kinds Tryz.prog 40 = [.int .i64, .int .i64, .int .i64, .int .i64, .int .i64, .int .i64, .int .i64, .int .i64, .str] := by kernel_rfl
theorem int1 {m : Nat} {k : IntKind} {d : D} (h : TyK Tryz.prog m (.int k) d) : ∃ i, d = .i i := by
 cases m with
 | zero => exact h.elim
 | succ m => obtain ⟨i, h1, _⟩ := h; exact ⟨i, h1⟩
theorem str1 {m : Nat} {d : D} (h : TyK Tryz.prog m .str d) : ∃ s, d = .s s ∧ s.length ≤ maxLen := by
 cases m with
 | zero => exact h.elim
 | succ m => exact h
theorem sl1 {m : Nat} {e : TypeId} {d : D} (h : TyK Tryz.prog m (.sl e) d) : ∃ nl xs, d = .l nl xs ∧ xs.length ≤ maxLen ∧ (nl = true → xs = []) ∧ ∀ x ∈ xs, ∃ m', TyEl Tryz.prog (TyK Tryz.prog m') e x := by
 cases m with
 | zero => exact h.elim
 | succ m => obtain ⟨nl, xs, h1, h0, h2, h3⟩ := h; exact ⟨nl, xs, h1, h2, h0, fun x hx => ⟨m, h3 x hx⟩⟩
theorem rule1 {m : Nat} {x : D} (h : TyEl Tryz.prog (TyK Tryz.prog m) 40 x) : RuleT x ∧ (rT x).length ≤ maxLen := by
 unfold TyEl at h
 have : isAggB Tryz.prog 40 = true := by kernel_rfl
 rw [if_pos this, kinds40] at h
 obtain ⟨cs, rfl, hc⟩ := h
 obtain ⟨_, _, rfl, h0, hc⟩ := all2_cons hc
 obtain ⟨_, _, rfl, h1, hc⟩ := all2_cons hc
 obtain ⟨_, _, rfl, h2, hc⟩ := all2_cons hc
 obtain ⟨_, _, rfl, h3, hc⟩ := all2_cons hc
 obtain ⟨_, _, rfl, h4, hc⟩ := all2_cons hc
 obtain ⟨_, _, rfl, h5, hc⟩ := all2_cons hc
 obtain ⟨_, _, rfl, h6, hc⟩ := all2_cons hc
 obtain ⟨_, _, rfl, h7, hc⟩ := all2_cons hc
 obtain ⟨_, _, rfl, h8, hc⟩ := all2_cons hc
 obtain rfl := all2_nil hc
 obtain ⟨i0, rfl⟩ := int1 h0
 obtain ⟨i1, rfl⟩ := int1 h1
 obtain ⟨i2, rfl⟩ := int1 h2
 obtain ⟨i3, rfl⟩ := int1 h3
 obtain ⟨i4, rfl⟩ := int1 h4
 obtain ⟨i5, rfl⟩ := int1 h5
 obtain ⟨i6, rfl⟩ := int1 h6
 obtain ⟨i7, rfl⟩ := int1 h7
 obtain ⟨s, rfl, hs⟩ := str1 h8
 exact ⟨⟨i0, i1, i2, i3, i4, i5, i6, i7, s, rfl⟩, hs⟩
theorem arg24 {m : Nat} {ds : List D} (h : ArgOk Tryz.prog m 24 ds) : ∃ nl xs, ds = [.l nl xs] ∧ VeilOk xs ∧ ∀ x ∈ xs, RuleT x := by
 unfold ArgOk at h
 rw [kinds24] at h
 obtain ⟨_, _, rfl, h0, h⟩ := all2_cons h
 obtain rfl := all2_nil h
 obtain ⟨nl, xs, rfl, h1, h2, h3⟩ := sl1 h0
 exact ⟨nl, xs, rfl, ⟨h1, fun x hx => let ⟨m', q⟩ := h3 x hx; (rule1 q).2⟩, fun x hx => let ⟨m', q⟩ := h3 x hx; (rule1 q).1⟩
theorem callLaw (m : Nat) (dss : List (List D)) (h : All2 (ArgOk Tryz.prog m) Tryz.f4.params.toList dss) : CallOk Tryz.prog 4 (argVs Tryz.prog Tryz.f4.params.toList dss) [] ([.c (.b true)], []) := by
 have hp : Tryz.f4.params.toList = [24] := by kernel_rfl
 rw [hp] at h ⊢
 match dss, h with
 | [d0], ⟨h0, _⟩ =>
  obtain ⟨nl, xs, rfl, hv, hx⟩ := arg24 h0
  refine ok4x0 18446744073709551616 _ _ (A4x0 18446744073709551616 [.b nl, .l xs]) (by kernel_rfl) _ ?_
  have e : A4x0 18446744073709551616 [.b nl, .l xs] = bnd (G4x0 18446744073709551616 xs) fun q => [(q.isSome, ([.c (.b (q.getD default))], []))] := by kernel_rfl
  rw [e, law4 (by decide) told_ok hv hx]
  rfl
theorem Tryz.own : ownKnob Tryz.prog.godebug = none := by kernel_rfl
theorem Tryz.laidOut : laidOutB Tryz.prog = true := by kernel_rfl
theorem bulkOk {H : Type} : BulkOk (Rows.uptoBulk : DataW H → Nat) Rows.uptoBulkAll := by
 refine ⟨fun l => ?_, fun l => ?_, ?_, fun e s => ?_, fun p => ?_, ?_, fun d r => ?_⟩
 ·cases l <;> simp [Rows.uptoBulk]
 ·simp [Rows.uptoBulk]
 ·simp [Rows.uptoBulk]
 ·simp only [Rows.uptoBulk]; omega
 ·simp [Rows.uptoBulk]
 ·simp [Rows.uptoBulkAll]
 ·simp [Rows.uptoBulkAll]
theorem g0 : Tryz.prog.globalNamed "internal/bytealg.MaxLen" = some 0 := by kernel_rfl
theorem g1 : Tryz.prog.globalNamed "internal/strconv.uint64pow10" = some 1 := by kernel_rfl
theorem g2 : Tryz.prog.globalNamed "strconv.ErrSyntax" = some 4 := by kernel_rfl
theorem g3 : Tryz.prog.globalNamed "strconv.ErrRange" = some 5 := by kernel_rfl
theorem giW {W : World} (hs : W.ShapedOpen Tryz.prog) (hl : laidMetH Tryz.prog Rows.veilTextsComeBackRow.laid W) {M : Stab} (hM : ∀ b o, ¬ M b o) : GI Tryz.prog M W := by
 have hl : laidMet Tryz.prog Rows.veilTextsComeBackRow.laid W := hl
 refine gi_of g0 g1 g2 g3 ?_ ?_ ?_ ?_ hM
 ·exact gat_int (t := 3) (zero := #[.int .i64 0]) hs (of_decide_eq_true (by kernel_rfl)) (by kernel_rfl) rfl (by kernel_rfl) (by kernel_rfl) (by kernel_rfl)
 ·obtain ⟨ps, hv, _⟩ := hl
  obtain ⟨g, t, cs, fuel, p, q1, q2, q3, q4⟩ := laid_get (x := ("internal/strconv.uint64pow10", Rows.laid_internal_strconv_uint64pow10)) hv (by simp [Rows.veilTextsComeBackRow])
  obtain rfl := Option.some.inj ((show (Tryz.prog.globals[1]?).map (·.type) = some 151 by kernel_rfl).symm.trans (by rw [Option.some.inj (g1.symm.trans q1)]; exact q2))
  have hcs := Lib.cells_of_tab (k := .u64) (zs := (List.range 20).map fun i => ((10 ^ i : Nat) : Int)) (n := 20) (e := 121) (t := 151) (by kernel_rfl) (by kernel_rfl) (by kernel_rfl) (by kernel_rfl) (show DataW.trod _ _ _ _ _ _ fuel 151 cs.toList = some (Lib.tabData .u64 ((List.range 20).map fun i => ((10 ^ i : Nat) : Int)), p) from q4)
  refine gat_tab (k := .u64) (zs := (List.range 20).map fun i => ((10 ^ i : Nat) : Int)) g1 (show W.var? Tryz.prog _ = _ by rw [q3, ← hcs]) (by simp) fun i p z h1 h2 => ?_
  rw [List.getElem?_map] at h1 h2
  obtain ⟨j, j1, rfl⟩ := Option.map_eq_some_iff.1 h1
  rw [j1] at h2
  simp only [Option.map_some, Option.some.injEq] at h2
  subst h2
  rfl
 ·exact gat_err (t := 66) hl (show ("strconv.ErrSyntax", Rows.laid_strconv_ErrSyntax) ∈ Rows.veilTextsComeBackRow.laid by simp [Rows.veilTextsComeBackRow]) g2 (by kernel_rfl) (by kernel_rfl)
 ·exact gat_err (t := 66) hl (show ("strconv.ErrRange", Rows.laid_strconv_ErrRange) ∈ Rows.veilTextsComeBackRow.laid by simp [Rows.veilTextsComeBackRow]) g3 (by kernel_rfl) (by kernel_rfl)
abbrev synS : ByteArray := { data := #[105, 110, 118, 97, 108, 105, 100, 32, 115, 121, 110, 116, 97, 120] }
abbrev rngS : ByteArray := { data := #[118, 97, 108, 117, 101, 32, 111, 117, 116, 32, 111, 102, 32, 114, 97, 110, 103, 101] }
noncomputable def low : Nat := (World.holding Tryz.prog default ⟨#[], #[], []⟩).heap.size
def tabOf {H : Type} : DataW H → Array Value
 | .agg l => (l.map fun | .lit (.int k n) => Value.int k n | _ => undef).toArray
 | _ => #[]
def setG (h : Array Obj) (g : Nat) (vs : Array Value) : Array Obj := h.modify g fun
 | .cells _ t fr => .cells vs t fr
 | o => o
def flatOf {H : Type} : DataW H → Array Value
 | .agg l => (l.flatMap fun | .agg r => r.map (fun | .lit (.int k n) => Value.int k n | _ => undef) | _ => []).toArray
 | _ => #[]
noncomputable def laidWorld (os : Os) : World :=
 let w0 := World.holding Tryz.prog os ⟨#[.cells #[.string synS] 175, .cells #[.string rngS] 175], #[], []⟩
 { w0 with heap := setG (setG (setG (setG (setG (setG (setG w0.heap 1 (tabOf (H := Unit) Rows.laid_internal_strconv_uint64pow10)) 4 #[.iface 173 (.pointer (some ⟨low, 0, none⟩))]) 5 #[.iface 173 (.pointer (some ⟨low + 1, 0, none⟩))])
   6 (tabOf (H := Unit) Rows.laid_math_bits_deBruijn32tab)) 7 (tabOf (H := Unit) Rows.laid_math_bits_deBruijn64tab)) 2 (tabOf Rows.laid_unicode_utf8_first)) 3 (flatOf (H := Unit) Rows.laid_unicode_utf8_acceptRanges) }
def arg0 : Value := .agg #[.slice none 0 0]
def dat0 {H : Type} : DataW H := .agg [.nil]
theorem laid_met (os : Os) : laidMet Tryz.prog Rows.veilTextsComeBackRow.laid ((laidWorld os).forCall (fun _ _ => 0) ⟨#[], #[arg0], []⟩).memory :=
 laidMet_of_run' 8 (by kernel_rfl) (by kernel_rfl)
theorem reads (os : Os) {H : Type} (enc : TypeId × Value → H) : ∃ places, DataW.whole enc Tryz.prog ((laidWorld os).forCall (fun _ _ => 0) ⟨#[], #[arg0], []⟩).memory Tryz.f4.params.toList Rows.veilTextsComeBackSpec.vars false #[arg0].toList 8 = some ([dat0], [], places) :=
 ⟨[], by kernel_rfl⟩
theorem lifted (os : Os) (started : os.Started) (H : Type) (enc : TypeId × Value → H) (F : Stop.Interp) :
  ReturnsInHanded {} Tryz.checked os 4 .any ((OpenSpec.ofChange Rows.veilTextsComeBackSpec).preRow enc Tryz.prog Tryz.f4 Rows.veilTextsComeBackRow.domain false Rows.veilTextsComeBackRow.laid) (((OpenSpec.ofChange Rows.veilTextsComeBackSpec).at F).post enc Tryz.prog Tryz.f4 false true false false) := by
 obtain ⟨places, hx⟩ := reads os enc
 refine returnsInHanded_of_row (C := Tryz.checked) (s := OpenSpec.ofChange Rows.veilTextsComeBackSpec) Tryz.own started (by kernel_rfl) Tryz.func4
  (witness_row_at (enc := enc) (C := Tryz.checked) false (laidWorld os) #[arg0] rfl (by kernel_rfl) (by kernel_rfl) (by kernel_rfl)
   (OpenSpec.preRow_of_cond 8 hx (by kernel_rfl) (fun k hk => by cases hk) (by kernel_rfl) (laid_met os))) ?_
 intro W base args ds gs before hval hW _ _ _ hL hsh _
 exact law_callR (tb := 4) bulkOk [40] (by kernel_rfl) Tryz.laidOut rfl (by kernel_rfl) (by kernel_rfl) (by kernel_rfl) (fun l hl => by
  rw [show Tryz.f4.params.size = 1 by kernel_rfl] at hl
  match l, hl with
  | [_], _ => rfl) (fun m dss h _ => callLaw m dss h) (fun hM => giW hsh hL hM) hval hW
end Go.Proofs.YtohplnjpncjhoaaGreatDoor

