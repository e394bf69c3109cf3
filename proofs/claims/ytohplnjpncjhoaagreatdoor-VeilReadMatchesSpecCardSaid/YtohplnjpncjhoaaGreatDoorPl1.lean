/- A part of a proof of a law: lemmas. Conditions: those of each lemma. -/
import Derived.Test.YtohplnjpncjhoaaGreatDoorVRp2
import Derived.KernelRfl
import Derived.Test.YtohplnjpncjhoaaGreatDoorCards
import Derived.Test.YtohplnjpncjhoaaGreatDoorTie
import Derived.Deep.DeepHandedRow
import Derived.ProofKit
set_option linter.all false
set_option maxRecDepth 100000
namespace Go.Proofs.YtohplnjpncjhoaaGreatDoor
open Go Go.AM
set_option maxRecDepth 100000
set_option maxHeartbeats 4000000
variable {N : Nat}
theorem i64_atoi {l : List UInt8} (h : atoiOk l = true) : i64B (atoiV l) = true := by
 unfold atoiOk at h
 unfold atoiV
 cases ha : Lib.atoiAll l with
 | range => rw [ha] at h; cases h
 | ok v =>
  simp only
  unfold Lib.atoiAll at ha
  cases l with
  | nil => cases ha
  | cons c r =>
   simp only at ha
   split at ha
   ·cases ha
   ·cases ha
   ·rename_i u _
    unfold i64B
    split at ha
    ·cases ha
    ·split at ha
     ·cases ha
     ·cases ha
      rw [Bool.and_eq_true, decide_eq_true_eq, decide_eq_true_eq]
      split <;> omega
 | _ => rw [ha] at h; cases h
theorem G97x0_eq (v : List UInt8) : G97x0 N v = some (isNeg v) := by
 unfold G97x0 F97x0
 cases v with
 | nil => rfl
 | cons c r =>
  have h1 : decide ((1 : Int) ≤ ((c :: r).length : Int)) = true := decide_eq_true (by simp; omega)
  have h2 : decide (((c :: r).length : Int) ≥ 1) = true := decide_eq_true (by simp; omega)
  rw [h1]
  simp only [_root_.cond_true, bnd_eq]
  congr 1
  by_cases hc : c = 45
  ·subst hc; rfl
  ·have e1 : isNeg (c :: r) = false := by
    unfold isNeg
    split
    ·rename_i hh; injection hh with q; exact absurd q hc
    ·rfl
   rw [e1]
   simp [hc]
theorem drop_unsign {v : List UInt8} (h : isNeg v = true) : (v.take (v.length : Int).toNat).drop 1 = unsign v ∧ 1 ≤ v.length := by
 rcases unsign_cases v with ⟨_, q⟩ | ⟨q, _⟩
 ·rw [Int.toNat_natCast, List.take_length]
  constructor
  ·conv => lhs; rw [q]
   rfl
  ·rw [q]; simp
 ·rw [h] at q; cases q
theorem G51x0_eq (v : List UInt8) : G51x0 N v = some (unsign v) := by
 unfold G51x0 F51x0 G70x0 F70x0
 rw [G97x0_eq]
 cases h : isNeg v with
 | true =>
  obtain ⟨h1, h2⟩ := drop_unsign h
  simp only [bnd_eq, Option.isSome_some, _root_.cond_true, getD_some, h1, decide_eq_true (by omega : (1 : Int) ≤ (v.length : Int)), decide_eq_true (Int.le_refl (v.length : Int)), Bool.and_self]
 | false =>
  rcases unsign_cases v with ⟨q, _⟩ | ⟨_, q⟩
  ·rw [h] at q; cases q
  ·simp only [bnd_eq, Option.isSome_some, _root_.cond_true, _root_.cond_false, getD_some, q]
theorem G72x0_eq (v : List UInt8) : G72x0 N v = some (unsign v, isNeg v) := by
 unfold G72x0 F72x0 G98x0 F98x0
 rw [G97x0_eq]
 cases h : isNeg v with
 | true =>
  obtain ⟨h1, h2⟩ := drop_unsign h
  simp only [bnd_eq, Option.isSome_some, _root_.cond_true, getD_some, Bool.not_true, _root_.cond_false, h1, decide_eq_true (by omega : (1 : Int) ≤ (v.length : Int)), decide_eq_true (Int.le_refl (v.length : Int)), Bool.and_self]
 | false =>
  rcases unsign_cases v with ⟨q, _⟩ | ⟨_, q⟩
  ·rw [h] at q; cases q
  ·simp only [bnd_eq, Option.isSome_some, _root_.cond_true, Bool.not_false, getD_some, q]
theorem G35x0_eq (v : List UInt8) (hv : v.length ≤ 281474976710656) : G35x0 N v = some (atoiV v, numB 9 v) := by
 have hb : Nat.ble v.length 281474976710656 = true := by rw [Nat.ble_eq]; exact hv
 have hn := num_iff (k := 9) (by decide) v
 unfold G35x0 F35x0 G35x0x7 F35x0x7
 rw [hb]
 simp only [_root_.cond_true, G51x0_eq, bnd_eq, Option.isSome_some, getD_some]
 rw [← hn]
 have hd : decide (((unsign v).length : Int) ≤ 9) = decide ((unsign v).length ≤ 9) := by rw [Bool.eq_iff_iff]; simp; omega
 rw [hd]
 cases ha : atoiOk v with
 | false => rfl
 | true =>
  cases decide ((unsign v).length ≤ 9) with
  | false => rfl
  | true => rw [i64_atoi ha]; rfl
theorem dig_cond (n : Int) : (bif decide (n < 48) then true else decide (n > 57)) = !(decide (48 ≤ n) && decide (n ≤ 57)) := by
 by_cases h1 : n < 48
 ·rw [decide_eq_true h1, decide_eq_false (by omega : ¬ 48 ≤ n)]; rfl
 ·rw [decide_eq_false h1, decide_eq_true (by omega : 48 ≤ n)]
  by_cases h2 : n ≤ 57
  ·rw [decide_eq_true h2, decide_eq_false (by omega)]; rfl
  ·rw [decide_eq_false h2, decide_eq_true (by omega)]; rfl
theorem at_dropU {xs r : List UInt8} {p : UInt8} {i : Nat} (h : xs.drop i = p :: r) : i < xs.length ∧ xs.getD i 0 = p ∧ xs.drop (i + 1) = r := by
 have hl := congrArg List.length h
 rw [List.length_drop, List.length_cons] at hl
 have hi : i < xs.length := by omega
 rw [List.drop_eq_getElem_cons hi] at h
 injection h with h1 h2
 exact ⟨hi, by rw [List.getD_eq_getElem?_getD, List.getElem?_eq_getElem hi]; exact h1, h2⟩
theorem whole_loop {u : List UInt8} (hu : u.length ≤ 9) : ∀ (r : List UInt8) (i m acc : Nat), u.drop i = r → i ≤ u.length → r.length < m → (acc + 1) * 10 ^ r.length ≤ 1000000000 →
  L73x0x15 N (R := Sum Unit Int) u m (acc : Int) (i : Int) (fun p => some (.inl p)) (fun p => some (.inr p)) = some (bif r.all isDig then .inr (digV acc r : Int) else .inl ())
 | _, _, 0, _, _, _, hm, _ => by omega
 | [], i, m + 1, acc, hd, hi, _, _ => by
  have hl := congrArg List.length hd
  simp at hl
  have : ¬ (i : Int) < (u.length : Int) := by omega
  simp only [L73x0x15, S73x0x15, decide_eq_false this, _root_.cond_false, digV_nil]
  rfl
 | c :: r, i, m + 1, acc, hd, hi0, hm, hp => by
  obtain ⟨hi, hc, hr⟩ := at_dropU hd
  have hlt : (i : Int) < (u.length : Int) := by omega
  have hin : inB (i : Int) u.length = true := inB_of (by omega) (by omega)
  have hg : (u.getD (i : Int).toNat 0) = c := by rw [Int.toNat_natCast]; exact hc
  have hw2 : IntKind.wrap .i64 ((i : Int) + 1) = ((i + 1 : Nat) : Int) := wrapI (by omega) (by omega)
  have h10 : (acc + 1) * 10 * 10 ^ r.length ≤ 1000000000 := by
   rw [List.length_cons, Nat.pow_succ, Nat.mul_comm (10 ^ r.length) 10, ← Nat.mul_assoc] at hp
   exact hp
  have hpos : 1 ≤ 10 ^ r.length := Nat.one_le_pow _ _ (by decide)
  have hb : (acc + 1) * 10 ≤ 1000000000 := Nat.le_trans (Nat.le_mul_of_pos_right _ hpos) h10
  simp only [L73x0x15, S73x0x15, decide_eq_true hlt, _root_.cond_true, hin, bnd_eq, hg, hw2, dig_cond, List.all_cons]
  have hdig : (decide ((48 : Int) ≤ (c.toNat : Int)) && decide ((c.toNat : Int) ≤ 57)) = isDig c := by
   unfold isDig
   rw [Bool.eq_iff_iff]; simp only [Bool.and_eq_true, decide_eq_true_eq]; omega
  rw [hdig]
  cases hcd : isDig c with
  | false => rfl
  | true =>
   have hcc := isDig_iff.1 hcd
   have e1 : IntKind.wrap .i64 (IntKind.wrap .u8 ((c.toNat : Int) - 48)) = ((c.toNat - 48 : Nat) : Int) := by
    have : IntKind.wrap .u8 ((c.toNat : Int) - 48) = (c.toNat : Int) - 48 := by rw [IntKind.wrap_u8]; omega
    rw [this]
    exact (wrapI (by omega) (by omega)).trans (by omega)
   have e2 : IntKind.wrap .i64 (IntKind.wrap .i64 (10 * (acc : Int)) + ((c.toNat - 48 : Nat) : Int)) = ((acc * 10 + (c.toNat - 48) : Nat) : Int) := by
    rw [wrapI (x := 10 * (acc : Int)) (by omega) (by omega)]
    exact (wrapI (by omega) (by omega)).trans (by omega)
   rw [e1, e2]
   simp only [Bool.not_true, _root_.cond_false, Bool.true_and]
   have := whole_loop hu r (i + 1) m (acc * 10 + (c.toNat - 48)) hr (by omega) (by simp at hm; omega) (Nat.le_trans (Nat.mul_le_mul_right _ (by omega)) h10)
   rw [this, digV_cons]
theorem G73x0_eq (hN : maxLen < N) (u : List UInt8) : G73x0 N u = some (bif wholeL u && decide (u.length ≤ 9) then ((digV 0 u : Int), true) else (0, false)) := by
 have hM : maxLen = 9223372036854775807 := rfl
 unfold G73x0 F73x0
 cases u with
 | nil => rfl
 | cons c r =>
  have hin : inB 0 (c :: r).length = true := inB_of (by omega) (by simp)
  have hne : ((c :: r) == ([] : List UInt8)) = false := rfl
  rw [hin, hne]
  simp only [_root_.cond_true, _root_.cond_false, bnd_eq]
  by_cases h9 : (c :: r).length ≤ 9
  ·rw [decide_eq_false (by omega : ¬ ((c :: r).length : Int) > 9), decide_eq_true h9]
   simp only [_root_.cond_false, Bool.and_true]
   have hl := whole_loop (N := N) h9 (c :: r) 0 N 0 rfl (by omega) (by omega) (by
    have : 10 ^ (c :: r).length ≤ 10 ^ 9 := Nat.pow_le_pow_right (by decide) h9
    omega)
   have hl : G73x0x15 N (c :: r) 0 0 = some (bif (c :: r).all isDig then .inr (digV 0 (c :: r) : Int) else .inl ()) := hl
   rw [hl]
   have hh : (bif ((((c :: r).getD 0 0).toNat : Int) == 48) then (!((c :: r) == ([48] : List UInt8))) else false) = !(decide ((c :: r).length = 1) || decide ((c :: r).head? ≠ some 48)) := by
    show (bif ((c.toNat : Int) == 48) then (!((c :: r) == ([48] : List UInt8))) else false) = !(decide ((c :: r).length = 1) || decide (some c ≠ some 48))
    by_cases hc : c = 48
    ·subst hc
     cases r with
     | nil => rfl
     | cons d r => simp
    ·have hc' : ((c.toNat : Int) == 48) = false := by
      rw [beq_eq_false_iff_ne]
      intro e
      have h48 : c.toNat = (48 : UInt8).toNat := by show c.toNat = 48; omega
      exact hc (UInt8.toNat_inj.1 h48)
     rw [hc']
     simp [hc]
   rw [hh]
   have hw : wholeL (c :: r) = ((c :: r).all isDig && (decide ((c :: r).length = 1) || decide ((c :: r).head? ≠ some 48))) := by
    unfold wholeL
    rw [decide_eq_true (by simp : 1 ≤ (c :: r).length), Bool.and_true]
   rw [hw]
   cases (decide ((c :: r).length = 1) || decide ((c :: r).head? ≠ some 48)) <;> cases (c :: r).all isDig <;> rfl
  ·rw [decide_eq_true (by omega : ((c :: r).length : Int) > 9), decide_eq_false h9]
   simp only [_root_.cond_true, Bool.and_false, _root_.cond_false]
theorem G54x0_eq (hN : maxLen < N) (v : List UInt8) : ∃ n, G54x0 N v = some (n, numB 9 v) ∧ (numB 9 v = true → n = atoiV v) := by
 unfold G54x0 F54x0
 rw [G72x0_eq]
 simp only [bnd_eq, Option.isSome_some, _root_.cond_true, getD_some, G73x0_eq hN]
 have hb : numB 9 v = (wholeL (unsign v) && decide ((unsign v).length ≤ 9) && !(isNeg v && decide (digV 0 (unsign v) = 0))) := rfl
 cases hw : (wholeL (unsign v) && decide ((unsign v).length ≤ 9)) with
 | false =>
  have hf : numB 9 v = false := by rw [hb, hw]; rfl
  rw [hf]
  cases isNeg v with
  | false => exact ⟨0, rfl, fun h => by cases h⟩
  | true => exact ⟨_, rfl, fun h => by cases h⟩
 | true =>
  have hlt : digV 0 (unsign v) < 1000000000 := by
   simp only [Bool.and_eq_true, decide_eq_true_eq, wholeL] at hw
   have h1 := digV_lt (unsign v) 0 hw.1.1.1
   have h2 : 10 ^ (unsign v).length ≤ 10 ^ 9 := Nat.pow_le_pow_right (by decide) hw.2
   omega
  cases hg : isNeg v with
  | false =>
   have ht : numB 9 v = true := by rw [hb, hw, hg]; rfl
   rw [ht]
   refine ⟨_, rfl, fun _ => ?_⟩
   rw [num_val (by decide) ht]
   unfold numV
   rw [hg]
   rfl
  | true =>
   simp only [_root_.cond_true]
   have hz : ((digV 0 (unsign v) : Int) != 0) = !decide (digV 0 (unsign v) = 0) := by
    rw [Bool.eq_iff_iff]; simp
   have hn : numB 9 v = !decide (digV 0 (unsign v) = 0) := by rw [hb, hw, hg]; rfl
   refine ⟨IntKind.wrap .i64 (0 - (digV 0 (unsign v) : Int)), by rw [hz, hn], fun ht => ?_⟩
   rw [num_val (by decide) ht]
   unfold numV
   rw [hg, wrapI (by omega) (by omega)]
   show _ = -(digV 0 (unsign v) : Int)
   omega
end Go.Proofs.YtohplnjpncjhoaaGreatDoor

namespace Go.Proofs.YtohplnjpncjhoaaGreatDoor
open Go Go.AM
set_option maxRecDepth 100000
set_option maxHeartbeats 4000000
variable {N : Nat}
def firstX (x : List UInt8) : Int → List D → Sum Int Unit
 | _, [] => .inr ()
 | w, d :: r => bif x == d.toS then .inl w else firstX x (w + 1) r
def firstP (x : List UInt8) : Int → List D → Sum Int Unit
 | _, [] => .inr ()
 | w, d :: r => bif (bif decide (w > 0) then d.toS == x else false) then .inl w else firstP x (w + 1) r
theorem firstP_X {x : List UInt8} : ∀ {l : List D} {w : Int}, 0 < w → firstP x w l = firstX x w l
 | [], _, _ => rfl
 | d :: r, w, h => by
  simp only [firstP, firstX, decide_eq_true (show w > 0 from h), _root_.cond_true]
  rw [firstP_X (by omega), show (d.toS == x) = (x == d.toS) by rw [Bool.eq_iff_iff]; simp; exact eq_comm]
def posK (x : List UInt8) (r : List D) : Int := match firstX x 1 r with | .inl i => i | .inr _ => 0
theorem firstX_pos {x : List UInt8} : ∀ {l : List D} {w i : Int}, 0 < w → firstX x w l = .inl i → 0 < i
 | [], _, _, _, h => by cases h
 | d :: r, w, i, hw, h => by
  simp only [firstX] at h
  cases hx : x == d.toS with
  | true => rw [hx] at h; cases h; exact hw
  | false => rw [hx] at h; exact firstX_pos (by omega) h
theorem G34x0_eq (hN : maxLen < N) {x : List UInt8} (hx : x ≠ []) {r : List D} (hl : r.length ≤ 100) : G34x0 N (.s [] :: r) x = some (bif posK x r == 0 then -1 else posK x r) := by
 have hM : maxLen = 9223372036854775807 := rfl
 have hl2 : (D.s [] :: r).length ≤ maxLen := by simp; omega
 have h : G34x0x6 N (.s [] :: r) x ((D.s [] :: r).length : Int) 0 = some (firstX x 0 (.s [] :: r)) := by
  unfold G34x0x6
  refine (for_ind (.i 0 : D) (xs := .s [] :: r) (S := fun w kr => S34x0x6 N (.s [] :: r) x ((D.s [] :: r).length : Int) w kr _ _) (L := fun m w => L34x0x6 N (.s [] :: r) x ((D.s [] :: r).length : Int) m w _ _) (fun m w => rfl) (fun w l => some (firstX x w l)) hl2 ?_ ?_ hN).trans rfl
  ·intro kr
   have : ¬ (((D.s [] :: r).length : Nat) : Int) < ((D.s [] :: r).length : Int) := by omega
   simp only [S34x0x6, decide_eq_false this, _root_.cond_false, firstX]
  ·intro w kr h0 h1 hw hi hk
   simp only [S34x0x6, decide_eq_true h1, _root_.cond_true, hi, hw, hk, firstX]
   cases (x == ((D.s [] :: r).getD w.toNat (.i 0)).toS) <;> rfl
 have h0 : (x == (D.s []).toS) = false := by
  show (x == []) = false
  simpa using hx
 have e0 : firstX x 0 (.s [] :: r) = firstX x 1 r := by simp only [firstX, h0]; rfl
 unfold G34x0 F34x0 posK
 rw [h, e0]
 cases hf : firstX x 1 r with
 | inl i =>
  have := firstX_pos (by decide) hf
  simp only [bnd_eq, inlB_inl, inlV_inl, _root_.cond_true]
  rw [show (i == 0) = false by simp; omega]
  rfl
 | inr u => rfl
theorem G37x0_eq (hN : maxLen < N) {x : List UInt8} (hx : x ≠ []) {r : List D} (hl : r.length ≤ 100) : G37x0 N (.s [] :: r) x = some (posK x r) := by
 have hM : maxLen = 9223372036854775807 := rfl
 have hl2 : (D.s [] :: r).length ≤ maxLen := by simp; omega
 have h : G37x0x6 N x (.s [] :: r) ((D.s [] :: r).length : Int) 0 = some (firstP x 0 (.s [] :: r)) := by
  unfold G37x0x6
  refine (for_ind (.i 0 : D) (xs := .s [] :: r) (S := fun w kr => S37x0x6 N x (.s [] :: r) ((D.s [] :: r).length : Int) w kr _ _) (L := fun m w => L37x0x6 N x (.s [] :: r) ((D.s [] :: r).length : Int) m w _ _) (fun m w => rfl) (fun w l => some (firstP x w l)) hl2 ?_ ?_ hN).trans rfl
  ·intro kr
   have : ¬ (((D.s [] :: r).length : Nat) : Int) < ((D.s [] :: r).length : Int) := by omega
   simp only [S37x0x6, decide_eq_false this, _root_.cond_false, firstP]
  ·intro w kr h0 h1 hw hi hk
   simp only [S37x0x6, decide_eq_true h1, _root_.cond_true, hi, hw, hk, firstP, bnd_eq]
   cases (bif decide (w > 0) then ((D.s [] :: r).getD w.toNat (.i 0)).toS == x else false) <;> rfl
 have e0 : firstP x 0 (.s [] :: r) = firstX x 1 r := by
  simp only [firstP, decide_eq_false (by omega : ¬ (0 : Int) > 0), _root_.cond_false]
  exact firstP_X (by decide)
 unfold G37x0 F37x0 posK
 rw [h, e0]
 cases hf : firstX x 1 r <;> rfl
noncomputable def gV (N : Nat) (s : List UInt8) : Int := ((G54x0 N s).getD default).1
theorem gV_eq (hN : maxLen < N) (s : List UInt8) : G54x0 N s = some (gV N s, numB 9 s) ∧ (numB 9 s = true → gV N s = atoiV s) := by
 obtain ⟨n, h1, h2⟩ := G54x0_eq hN s
 have : gV N s = n := by unfold gV; rw [h1]; rfl
 rw [this]
 exact ⟨h1, h2⟩
theorem room8 {n : Nat} (h : n ≤ 1000000) : (decide (n * 8 ≤ room) && decide (n ≤ strMax)) = true := by
 have e1 : room = 140737488355328 := rfl
 have e2 : strMax = 9223372036854775807 := rfl
 rw [decide_eq_true (by omega), decide_eq_true (by omega)]; rfl
theorem at_dropD {xs r : List D} {p : D} {i : Nat} (h : xs.drop i = p :: r) : i < xs.length ∧ xs.getD i (.i 0) = p ∧ xs.drop (i + 1) = r := by
 have hl := congrArg List.length h
 rw [List.length_drop, List.length_cons] at hl
 have hi : i < xs.length := by omega
 rw [List.drop_eq_getElem_cons hi] at h
 injection h with h1 h2
 exact ⟨hi, by rw [List.getD_eq_getElem?_getD, List.getElem?_eq_getElem hi]; exact h1, h2⟩
theorem nums_loop (hN : maxLen < N) {xs : List D} (hx : xs.length ≤ 1000) : ∀ (r : List D) (i m : Nat) (ok fl : Bool) (acc : List D), xs.drop i = r → i ≤ xs.length → r.length < m → acc.length ≤ i →
  ∃ fl', L39x0x18 N (R := Bool × Bool × LD) xs (xs.length : Int) m ok (i : Int) fl acc (fun p => some p) = some (ok && r.all (fun d => numB 9 d.toS), fl', acc ++ r.map fun d => .i (gV N d.toS))
 | _, _, 0, _, _, _, _, _, hm, _ => by omega
 | [], i, m + 1, ok, fl, acc, hd, hi, _, _ => by
  have hl := congrArg List.length hd
  simp at hl
  have : ¬ (i : Int) < (xs.length : Int) := by omega
  exact ⟨fl, by simp only [L39x0x18, S39x0x18, decide_eq_false this, _root_.cond_false, List.all_nil, Bool.and_true, List.map_nil, List.append_nil]⟩
 | p :: r, i, m + 1, ok, fl, acc, hd, hi0, hm, ha => by
  have hM : maxLen = 9223372036854775807 := rfl
  obtain ⟨hi, hc, hr⟩ := at_dropD hd
  have hlt : (i : Int) < (xs.length : Int) := by omega
  have hin : inB (i : Int) xs.length = true := inB_of (by omega) (by omega)
  have hg : xs.getD (i : Int).toNat (.i 0) = p := by rw [Int.toNat_natCast]; exact hc
  have hw2 : IntKind.wrap .i64 ((i : Int) + 1) = ((i + 1 : Nat) : Int) := wrapI (by omega) (by omega)
  have hrm := room8 (n := acc.length + 1) (by omega)
  obtain ⟨fl', ih⟩ := nums_loop hN hx r (i + 1) m (bif ok then numB 9 p.toS else false) false (acc ++ [.i (gV N p.toS)]) hr (by omega) (by simp at hm; omega) (by simp; omega)
  refine ⟨fl', ?_⟩
  simp only [L39x0x18, S39x0x18, decide_eq_true hlt, _root_.cond_true, hin, bnd_eq, hg, hw2, (gV_eq hN p.toS).1, Option.isSome_some, getD_some, hrm]
  rw [ih, List.append_assoc]
  cases ok <;> rfl
theorem G39x0_eq (hN : maxLen < N) {xs : List D} {n : Nat} (hn : n ≤ 3) (hx : xs.length = n) : ∃ fl, G39x0 N xs (n : Int) = some (fl, xs.map (fun d => .i (gV N d.toS)), xs.all fun d => numB 9 d.toS) := by
 have hM : maxLen = 9223372036854775807 := rfl
 obtain ⟨fl, h⟩ := nums_loop hN (by omega : xs.length ≤ 1000) xs 0 N true true [] rfl (by omega) (by omega) (by simp)
 refine ⟨fl, ?_⟩
 have h : G39x0x18 N xs (xs.length : Int) true 0 true [] = some (true && xs.all (fun d => numB 9 d.toS), fl, [] ++ xs.map fun d => .i (gV N d.toS)) := h
 unfold G39x0 F39x0
 rw [show ((xs.length : Int) != (n : Int)) = false by rw [hx]; simp, h]
 rfl
theorem G39x0_ne {xs : List D} {n : Nat} (hn : n ≤ 3) (hx : xs.length ≠ n) : G39x0 N xs (n : Int) = some (false, List.replicate n (.i 0), false) := by
 unfold G39x0 F39x0
 have h2 := room8 (n := n) (by omega)
 rw [show ((xs.length : Int) != (n : Int)) = true by simp; omega, decide_eq_true (by omega : (0 : Int) ≤ (n : Int)), decide_eq_true (Int.le_refl (n : Int)), Int.toNat_natCast, h2]
 rfl
end Go.Proofs.YtohplnjpncjhoaaGreatDoor

namespace Go.Proofs.YtohplnjpncjhoaaGreatDoor
open Go Go.AM
set_option maxRecDepth 100000
set_option maxHeartbeats 4000000
variable {N : Nat}
def LV : List D := [(.s [102, 114, 105, 101, 110, 100]), (.s [99, 108, 117, 98]), (.s [97, 108, 108])]
def FL : List D := [(.s [112, 117, 108, 115, 101]), (.s [112, 111, 119, 101, 114]), (.s [115, 116, 101, 112, 115]), (.s [104, 101, 105, 103, 104, 116])]
def WH : List D := [(.s [112, 108, 97, 99, 101]), (.s [104, 111, 117, 114, 115]), (.s []), (.s [116, 97, 103]), (.s [115, 112, 111, 114, 116]), (.s [100, 97, 121]), (.s [110, 97, 109, 101]), (.s [103, 114, 105, 100])]
theorem posK_nn (x : List UInt8) (r : List D) : 0 ≤ posK x r := by
 unfold posK
 cases h : firstX x 1 r with
 | inl i => have := firstX_pos (by decide) h; simp only; omega
 | inr u => simp
abbrev RT : Type := Int × Int × Int × Int × Int × Int × Int × Int × LB × Bool
def okT (r : RT) : Bool := r.2.2.2.2.2.2.2.2.2
def textT (r : RT) : List UInt8 := r.2.2.2.2.2.2.2.2.1
section
variable {a b : List UInt8} {rest : List D}
def Agree (N : Nat) (v : List D) : Prop := (∃ r1 r2 : RT, G14x0 N v = some r1 ∧ G18x0 N v = some r2 ∧ okT r1 = false ∧ okT r2 = false) ∨ ∃ r : RT, G14x0 N v = some r ∧ G18x0 N v = some r ∧ (textT r = [] ∨ ∃ d ∈ v, textT r = d.toS)
theorem basics (rest : List D) (a b : List UInt8) : decide (((D.s a :: .s b :: rest).length : Int) < 2) = false ∧ inB 0 (D.s a :: .s b :: rest).length = true ∧ inB 1 (D.s a :: .s b :: rest).length = true ∧
  (decide ((2 : Int) ≤ ((D.s a :: .s b :: rest).length : Int)) && decide (((D.s a :: .s b :: rest).length : Int) ≤ ((D.s a :: .s b :: rest).length : Int))) = true ∧ (((D.s a :: .s b :: rest).take ((D.s a :: .s b :: rest).length : Int).toNat).drop 2) = rest ∧
  (((D.s a :: .s b :: rest).length : Int) == 2) = ((rest.length : Int) == 0) := by
 refine ⟨decide_eq_false (by simp; omega), inB_of (by omega) (by simp; omega), inB_of (by omega) (by simp; omega), ?_, by rw [Int.toNat_natCast, List.take_length]; rfl, ?_⟩
 ·rw [decide_eq_true (by simp; omega), decide_eq_true (Int.le_refl _)]; rfl
 ·simp only [List.length_cons]
  rw [Bool.eq_iff_iff]
  simp only [beq_iff_eq]
  omega
theorem iI (x : Int) : (D.i x).toI = x := rfl
theorem toS0 (x : D) (l : List D) : (x :: l).getD 0 (.i 0) = x := rfl
theorem toS1 (x y : D) (l : List D) : (x :: y :: l).getD 1 (.i 0) = y := rfl
theorem rule_eq (hN : maxLen < N) (ha : a ≠ []) (hb : b ≠ []) (hl : rest.length ≤ 1000000) (ht : ∀ d ∈ rest, d.toS.length ≤ 281474976710656) : Agree N (.s a :: .s b :: rest) := by
 obtain ⟨b1, b2, b3, b4, b5, b6⟩ := basics rest a b
 have g1 : G34x0 N (V22x0 N) a = some (bif posK a LV == 0 then -1 else posK a LV) := G34x0_eq hN ha (r := LV) (by decide)
 have g2 : G34x0 N (V24x0 N) b = some (bif posK b FL == 0 then -1 else posK b FL) := G34x0_eq hN hb (r := FL) (by decide)
 have g3 : G34x0 N (V23x0 N) b = some (bif posK b WH == 0 then -1 else posK b WH) := G34x0_eq hN hb (r := WH) (by decide)
 have p1 : G37x0 N (V30x0 N) a = some (posK a LV) := G37x0_eq hN ha (r := LV) (by decide)
 have p2 : G37x0 N (V38x0 N) b = some (posK b FL) := G37x0_eq hN hb (r := FL) (by decide)
 have n1 := posK_nn a LV
 have n2 := posK_nn b FL
 have n3 := posK_nn b WH
 have tA : (D.s a).toS = a := rfl
 have tB : (D.s b).toS = b := rfl
 by_cases k1 : posK a LV = 0
 ·-- no such level
  refine .inl ?_
  have r2 : ∃ r2, G18x0 N (.s a :: .s b :: rest) = some r2 ∧ okT r2 = false := by
   refine ⟨(0, 0, 0, 0, 0, 0, 0, 0, [], false), ?_, ?_⟩
   ·unfold G18x0 F18x0
    simp only [b1, b2, toS0, tA, p1, k1, bnd_eq, Option.isSome_some, _root_.cond_true, _root_.cond_false, getD_some, beq_self_eq_true]
   ·rfl
  obtain ⟨r2, e2, o2⟩ := r2
  by_cases k2 : posK b FL = 0
  ·refine ⟨(-1, (bif posK b WH == 0 then -1 else posK b WH), 0, 0, 0, 0, 0, 0, [], false), r2, ?_, e2, rfl, o2⟩
   unfold G14x0 F14x0
   simp only [b1, b2, b3, toS0, toS1, tA, tB, g1, g2, g3, k1, k2, bnd_eq, Option.isSome_some, _root_.cond_true, _root_.cond_false, getD_some, beq_self_eq_true, decide_eq_false (by omega : ¬ (-1 : Int) > 0), decide_eq_true (by omega : (-1 : Int) < 1)]
  ·have hk : (posK b FL == 0) = false := by simpa using k2
   refine ⟨(-1, 3, 0, 0, 0, 0, 0, posK b FL, [], false), r2, ?_, e2, rfl, o2⟩
   unfold G14x0 F14x0
   simp only [b1, b2, b3, toS0, toS1, tA, tB, g1, g2, k1, hk, bnd_eq, Option.isSome_some, _root_.cond_true, _root_.cond_false, getD_some, beq_self_eq_true, decide_eq_false (by omega : ¬ (-1 : Int) > 0), decide_eq_true (by omega : posK b FL > 0)]
 ·have hk1 : (posK a LV == 0) = false := by simpa using k1
  have hk1' : decide (posK a LV > 0) = true := decide_eq_true (by omega)
  have hk1'' : decide (posK a LV < 1) = false := decide_eq_false (by omega)
  by_cases k2 : posK b FL = 0
  ·rw [k2] at g2 p2
   have g2 : G34x0 N (V24x0 N) b = some (-1) := g2
   have m1 : decide ((-1 : Int) > 0) = false := by rfl
   have m0 : decide ((0 : Int) > 0) = false := by rfl
   by_cases wplace : b = [112, 108, 97, 99, 101]
   ·subst wplace
    have k3 : posK [112, 108, 97, 99, 101] WH = 1 := by rfl
    rw [k3] at g3
    have g3 : G34x0 N (V23x0 N) [112, 108, 97, 99, 101] = some 1 := g3
    have c1 : decide ((1 : Int) < 1) = false := by rfl
    have c4 : ((1 : Int) == 4) = false := by rfl
    have qplace : (([112, 108, 97, 99, 101] : List UInt8) == [112, 108, 97, 99, 101]) = true := by rfl
    have qhours : (([112, 108, 97, 99, 101] : List UInt8) == [104, 111, 117, 114, 115]) = false := by rfl
    have qtag : (([112, 108, 97, 99, 101] : List UInt8) == [116, 97, 103]) = false := by rfl
    have qsport : (([112, 108, 97, 99, 101] : List UInt8) == [115, 112, 111, 114, 116]) = false := by rfl
    have qgrid : (([112, 108, 97, 99, 101] : List UInt8) == [103, 114, 105, 100]) = false := by rfl
    have qday : (([112, 108, 97, 99, 101] : List UInt8) == [100, 97, 121]) = false := by rfl
    have qname : (([112, 108, 97, 99, 101] : List UInt8) == [110, 97, 109, 101]) = false := by rfl
    have g46 : G14x0x46 N 1 = some (.inl ()) := by rfl
    by_cases hz : rest.length = 3
    ·obtain ⟨p, q, s, rfl⟩ : ∃ p q s, rest = [p, q, s] := by match rest, hz with | [p, q, s], _ => exact ⟨p, q, s, rfl⟩
     have z2 : ((([p, q, s] : List D).length : Int) != 3) = false := by rfl
     have i0 : inB 0 ([p, q, s] : List D).length = true := by rfl
     have d0 : ([p, q, s] : List D).getD 0 (.i 0) = p := by rfl
     have a0 : G35x0 N p.toS = some (atoiV p.toS, numB 9 p.toS) := G35x0_eq _ (ht _ (by simp))
     have i1 : inB 1 ([p, q, s] : List D).length = true := by rfl
     have d1 : ([p, q, s] : List D).getD 1 (.i 0) = q := by rfl
     have a1 : G35x0 N q.toS = some (atoiV q.toS, numB 9 q.toS) := G35x0_eq _ (ht _ (by simp))
     have i2 : inB 2 ([p, q, s] : List D).length = true := by rfl
     have d2 : ([p, q, s] : List D).getD 2 (.i 0) = s := by rfl
     have a2 : G35x0 N s.toS = some (atoiV s.toS, numB 9 s.toS) := G35x0_eq _ (ht _ (by simp))
     obtain ⟨fl, gn⟩ := G39x0_eq (n := 3) hN (by decide) (show ([p, q, s] : List D).length = 3 from rfl)
     have gn : G39x0 N [p, q, s] 3 = some (fl, [.i (gV N p.toS), .i (gV N q.toS), .i (gV N s.toS)], (numB 9 p.toS && (numB 9 q.toS && (numB 9 s.toS && true)))) := gn
     have j0 : inB 0 ([D.i (gV N p.toS), D.i (gV N q.toS), D.i (gV N s.toS)] : List D).length = true := by rfl
     have e0 : (([D.i (gV N p.toS), D.i (gV N q.toS), D.i (gV N s.toS)] : List D).getD 0 (.i 0)).toI = gV N p.toS := by rfl
     have j1 : inB 1 ([D.i (gV N p.toS), D.i (gV N q.toS), D.i (gV N s.toS)] : List D).length = true := by rfl
     have e1 : (([D.i (gV N p.toS), D.i (gV N q.toS), D.i (gV N s.toS)] : List D).getD 1 (.i 0)).toI = gV N q.toS := by rfl
     have j2 : inB 2 ([D.i (gV N p.toS), D.i (gV N q.toS), D.i (gV N s.toS)] : List D).length = true := by rfl
     have e2 : (([D.i (gV N p.toS), D.i (gV N q.toS), D.i (gV N s.toS)] : List D).getD 2 (.i 0)).toI = gV N s.toS := by rfl
     cases h0 : numB 9 p.toS with
     | false =>
      refine .inl ⟨(posK a LV, 1, 0, 0, 0, 0, 0, 0, [], false), (posK a LV, 1, gV N p.toS, gV N q.toS, gV N s.toS, 0, 0, 0, [], false), ?_, ?_, rfl, rfl⟩
      ·unfold G14x0 F14x0; simp only [iI, b1, b2, b3, b4, b5, toS0, toS1, tA, tB, hk1, hk1', hk1'', bnd_eq, Option.isSome_some, _root_.cond_true, _root_.cond_false, getD_some, g1, g2, g3, p1, p2, m1, m0, Bool.not_true, Bool.not_false, c1, c4, z2, g46, inlB_inl, inlB_inr, inrQ_inr, i0, d0, a0, i1, d1, a1, i2, d2, a2, h0]
      ·unfold G18x0 F18x0 V18x0x78002 F18x0x78002 V18x0x92 F18x0x92; simp only [iI, b1, b2, b3, b4, b5, toS0, toS1, tA, tB, hk1, hk1', hk1'', bnd_eq, Option.isSome_some, _root_.cond_true, _root_.cond_false, getD_some, g1, g2, g3, p1, p2, m1, m0, Bool.not_true, Bool.not_false, qplace, qhours, qtag, qsport, qgrid, qday, qname, gn, j0, e0, j1, e1, j2, e2, h0, Bool.false_and, Bool.and_false, Bool.true_and]
     | true =>
     cases h1 : numB 9 q.toS with
     | false =>
      refine .inl ⟨(posK a LV, 1, atoiV p.toS, 0, 0, 0, 0, 0, [], false), (posK a LV, 1, gV N p.toS, gV N q.toS, gV N s.toS, 0, 0, 0, [], false), ?_, ?_, rfl, rfl⟩
      ·unfold G14x0 F14x0; simp only [iI, b1, b2, b3, b4, b5, toS0, toS1, tA, tB, hk1, hk1', hk1'', bnd_eq, Option.isSome_some, _root_.cond_true, _root_.cond_false, getD_some, g1, g2, g3, p1, p2, m1, m0, Bool.not_true, Bool.not_false, c1, c4, z2, g46, inlB_inl, inlB_inr, inrQ_inr, i0, d0, a0, i1, d1, a1, i2, d2, a2, h0, h1]
      ·unfold G18x0 F18x0 V18x0x78002 F18x0x78002 V18x0x92 F18x0x92; simp only [iI, b1, b2, b3, b4, b5, toS0, toS1, tA, tB, hk1, hk1', hk1'', bnd_eq, Option.isSome_some, _root_.cond_true, _root_.cond_false, getD_some, g1, g2, g3, p1, p2, m1, m0, Bool.not_true, Bool.not_false, qplace, qhours, qtag, qsport, qgrid, qday, qname, gn, j0, e0, j1, e1, j2, e2, h0, h1, Bool.false_and, Bool.and_false, Bool.true_and]
     | true =>
     cases h2 : numB 9 s.toS with
     | false =>
      refine .inl ⟨(posK a LV, 1, atoiV p.toS, atoiV q.toS, 0, 0, 0, 0, [], false), (posK a LV, 1, gV N p.toS, gV N q.toS, gV N s.toS, 0, 0, 0, [], false), ?_, ?_, rfl, rfl⟩
      ·unfold G14x0 F14x0; simp only [iI, b1, b2, b3, b4, b5, toS0, toS1, tA, tB, hk1, hk1', hk1'', bnd_eq, Option.isSome_some, _root_.cond_true, _root_.cond_false, getD_some, g1, g2, g3, p1, p2, m1, m0, Bool.not_true, Bool.not_false, c1, c4, z2, g46, inlB_inl, inlB_inr, inrQ_inr, i0, d0, a0, i1, d1, a1, i2, d2, a2, h0, h1, h2]
      ·unfold G18x0 F18x0 V18x0x78002 F18x0x78002 V18x0x92 F18x0x92; simp only [iI, b1, b2, b3, b4, b5, toS0, toS1, tA, tB, hk1, hk1', hk1'', bnd_eq, Option.isSome_some, _root_.cond_true, _root_.cond_false, getD_some, g1, g2, g3, p1, p2, m1, m0, Bool.not_true, Bool.not_false, qplace, qhours, qtag, qsport, qgrid, qday, qname, gn, j0, e0, j1, e1, j2, e2, h0, h1, h2, Bool.false_and, Bool.and_false, Bool.true_and]
     | true =>
     refine .inr ⟨(posK a LV, 1, atoiV p.toS, atoiV q.toS, atoiV s.toS, 0, 0, 0, [], true), ?_, ?_, .inl rfl⟩
     ·unfold G14x0 F14x0; simp only [iI, b1, b2, b3, b4, b5, toS0, toS1, tA, tB, hk1, hk1', hk1'', bnd_eq, Option.isSome_some, _root_.cond_true, _root_.cond_false, getD_some, g1, g2, g3, p1, p2, m1, m0, Bool.not_true, Bool.not_false, c1, c4, z2, g46, inlB_inl, inlB_inr, inrQ_inr, i0, d0, a0, i1, d1, a1, i2, d2, a2, h0, h1, h2]
     ·unfold G18x0 F18x0 V18x0x78002 F18x0x78002 V18x0x92 F18x0x92; simp only [iI, b1, b2, b3, b4, b5, toS0, toS1, tA, tB, hk1, hk1', hk1'', bnd_eq, Option.isSome_some, _root_.cond_true, _root_.cond_false, getD_some, g1, g2, g3, p1, p2, m1, m0, Bool.not_true, Bool.not_false, qplace, qhours, qtag, qsport, qgrid, qday, qname, gn, j0, e0, j1, e1, j2, e2, h0, h1, h2, (gV_eq hN p.toS).2 h0, (gV_eq hN q.toS).2 h1, (gV_eq hN s.toS).2 h2, Bool.and_self, Bool.and_true]; rfl
    ·have z2 : ((rest.length : Int) != 3) = true := by rw [bne_iff_ne]; omega
     have gn : G39x0 N rest 3 = some (false, [.i 0, .i 0, .i 0], false) := G39x0_ne (n := 3) (by decide) hz
     have j0 : inB 0 ([D.i 0, D.i 0, D.i 0] : List D).length = true := by rfl
     have e0 : (([D.i 0, D.i 0, D.i 0] : List D).getD 0 (.i 0)).toI = 0 := by rfl
     have j1 : inB 1 ([D.i 0, D.i 0, D.i 0] : List D).length = true := by rfl
     have e1 : (([D.i 0, D.i 0, D.i 0] : List D).getD 1 (.i 0)).toI = 0 := by rfl
     have j2 : inB 2 ([D.i 0, D.i 0, D.i 0] : List D).length = true := by rfl
     have e2 : (([D.i 0, D.i 0, D.i 0] : List D).getD 2 (.i 0)).toI = 0 := by rfl
     refine .inl ⟨(posK a LV, 1, 0, 0, 0, 0, 0, 0, [], false), (posK a LV, 1, 0, 0, 0, 0, 0, 0, [], false), ?_, ?_, rfl, rfl⟩
     ·unfold G14x0 F14x0; simp only [iI, b1, b2, b3, b4, b5, toS0, toS1, tA, tB, hk1, hk1', hk1'', bnd_eq, Option.isSome_some, _root_.cond_true, _root_.cond_false, getD_some, g1, g2, g3, p1, p2, m1, m0, Bool.not_true, Bool.not_false, c1, c4, z2, g46, inlB_inl, inlB_inr, inrQ_inr]
     ·unfold G18x0 F18x0 V18x0x78002 F18x0x78002 V18x0x92 F18x0x92; simp only [iI, b1, b2, b3, b4, b5, toS0, toS1, tA, tB, hk1, hk1', hk1'', bnd_eq, Option.isSome_some, _root_.cond_true, _root_.cond_false, getD_some, g1, g2, g3, p1, p2, m1, m0, Bool.not_true, Bool.not_false, qplace, qhours, qtag, qsport, qgrid, qday, qname, gn, j0, e0, j1, e1, j2, e2]
   by_cases whours : b = [104, 111, 117, 114, 115]
   ·subst whours
    have k3 : posK [104, 111, 117, 114, 115] WH = 2 := by rfl
    rw [k3] at g3
    have g3 : G34x0 N (V23x0 N) [104, 111, 117, 114, 115] = some 2 := g3
    have c1 : decide ((2 : Int) < 1) = false := by rfl
    have c4 : ((2 : Int) == 4) = false := by rfl
    have qplace : (([104, 111, 117, 114, 115] : List UInt8) == [112, 108, 97, 99, 101]) = false := by rfl
    have qhours : (([104, 111, 117, 114, 115] : List UInt8) == [104, 111, 117, 114, 115]) = true := by rfl
    have qtag : (([104, 111, 117, 114, 115] : List UInt8) == [116, 97, 103]) = false := by rfl
    have qsport : (([104, 111, 117, 114, 115] : List UInt8) == [115, 112, 111, 114, 116]) = false := by rfl
    have qgrid : (([104, 111, 117, 114, 115] : List UInt8) == [103, 114, 105, 100]) = false := by rfl
    have qday : (([104, 111, 117, 114, 115] : List UInt8) == [100, 97, 121]) = false := by rfl
    have qname : (([104, 111, 117, 114, 115] : List UInt8) == [110, 97, 109, 101]) = false := by rfl
    have g46 : G14x0x46 N 2 = some (.inr (.inl ())) := by rfl
    by_cases hz : rest.length = 2
    ·obtain ⟨p, q, rfl⟩ : ∃ p q, rest = [p, q] := by match rest, hz with | [p, q], _ => exact ⟨p, q, rfl⟩
     have z2 : ((([p, q] : List D).length : Int) != 2) = false := by rfl
     have i0 : inB 0 ([p, q] : List D).length = true := by rfl
     have d0 : ([p, q] : List D).getD 0 (.i 0) = p := by rfl
     have a0 : G35x0 N p.toS = some (atoiV p.toS, numB 9 p.toS) := G35x0_eq _ (ht _ (by simp))
     have i1 : inB 1 ([p, q] : List D).length = true := by rfl
     have d1 : ([p, q] : List D).getD 1 (.i 0) = q := by rfl
     have a1 : G35x0 N q.toS = some (atoiV q.toS, numB 9 q.toS) := G35x0_eq _ (ht _ (by simp))
     obtain ⟨fl, gn⟩ := G39x0_eq (n := 2) hN (by decide) (show ([p, q] : List D).length = 2 from rfl)
     have gn : G39x0 N [p, q] 2 = some (fl, [.i (gV N p.toS), .i (gV N q.toS)], (numB 9 p.toS && (numB 9 q.toS && true))) := gn
     have j0 : inB 0 ([D.i (gV N p.toS), D.i (gV N q.toS)] : List D).length = true := by rfl
     have e0 : (([D.i (gV N p.toS), D.i (gV N q.toS)] : List D).getD 0 (.i 0)).toI = gV N p.toS := by rfl
     have j1 : inB 1 ([D.i (gV N p.toS), D.i (gV N q.toS)] : List D).length = true := by rfl
     have e1 : (([D.i (gV N p.toS), D.i (gV N q.toS)] : List D).getD 1 (.i 0)).toI = gV N q.toS := by rfl
     cases h0 : numB 9 p.toS with
     | false =>
      refine .inl ⟨(posK a LV, 2, 0, 0, 0, 0, 0, 0, [], false), (posK a LV, 2, 0, 0, 0, gV N p.toS, gV N q.toS, 0, [], false), ?_, ?_, rfl, rfl⟩
      ·unfold G14x0 F14x0; simp only [iI, b1, b2, b3, b4, b5, toS0, toS1, tA, tB, hk1, hk1', hk1'', bnd_eq, Option.isSome_some, _root_.cond_true, _root_.cond_false, getD_some, g1, g2, g3, p1, p2, m1, m0, Bool.not_true, Bool.not_false, c1, c4, z2, g46, inlB_inl, inlB_inr, inrQ_inr, i0, d0, a0, i1, d1, a1, h0]
      ·unfold G18x0 F18x0 V18x0x78002 F18x0x78002 V18x0x92 F18x0x92; simp only [iI, b1, b2, b3, b4, b5, toS0, toS1, tA, tB, hk1, hk1', hk1'', bnd_eq, Option.isSome_some, _root_.cond_true, _root_.cond_false, getD_some, g1, g2, g3, p1, p2, m1, m0, Bool.not_true, Bool.not_false, qplace, qhours, qtag, qsport, qgrid, qday, qname, gn, j0, e0, j1, e1, h0, Bool.false_and, Bool.and_false, Bool.true_and]
     | true =>
     cases h1 : numB 9 q.toS with
     | false =>
      refine .inl ⟨(posK a LV, 2, 0, 0, 0, atoiV p.toS, 0, 0, [], false), (posK a LV, 2, 0, 0, 0, gV N p.toS, gV N q.toS, 0, [], false), ?_, ?_, rfl, rfl⟩
      ·unfold G14x0 F14x0; simp only [iI, b1, b2, b3, b4, b5, toS0, toS1, tA, tB, hk1, hk1', hk1'', bnd_eq, Option.isSome_some, _root_.cond_true, _root_.cond_false, getD_some, g1, g2, g3, p1, p2, m1, m0, Bool.not_true, Bool.not_false, c1, c4, z2, g46, inlB_inl, inlB_inr, inrQ_inr, i0, d0, a0, i1, d1, a1, h0, h1]
      ·unfold G18x0 F18x0 V18x0x78002 F18x0x78002 V18x0x92 F18x0x92; simp only [iI, b1, b2, b3, b4, b5, toS0, toS1, tA, tB, hk1, hk1', hk1'', bnd_eq, Option.isSome_some, _root_.cond_true, _root_.cond_false, getD_some, g1, g2, g3, p1, p2, m1, m0, Bool.not_true, Bool.not_false, qplace, qhours, qtag, qsport, qgrid, qday, qname, gn, j0, e0, j1, e1, h0, h1, Bool.false_and, Bool.and_false, Bool.true_and]
     | true =>
     refine .inr ⟨(posK a LV, 2, 0, 0, 0, atoiV p.toS, atoiV q.toS, 0, [], true), ?_, ?_, .inl rfl⟩
     ·unfold G14x0 F14x0; simp only [iI, b1, b2, b3, b4, b5, toS0, toS1, tA, tB, hk1, hk1', hk1'', bnd_eq, Option.isSome_some, _root_.cond_true, _root_.cond_false, getD_some, g1, g2, g3, p1, p2, m1, m0, Bool.not_true, Bool.not_false, c1, c4, z2, g46, inlB_inl, inlB_inr, inrQ_inr, i0, d0, a0, i1, d1, a1, h0, h1]
     ·unfold G18x0 F18x0 V18x0x78002 F18x0x78002 V18x0x92 F18x0x92; simp only [iI, b1, b2, b3, b4, b5, toS0, toS1, tA, tB, hk1, hk1', hk1'', bnd_eq, Option.isSome_some, _root_.cond_true, _root_.cond_false, getD_some, g1, g2, g3, p1, p2, m1, m0, Bool.not_true, Bool.not_false, qplace, qhours, qtag, qsport, qgrid, qday, qname, gn, j0, e0, j1, e1, h0, h1, (gV_eq hN p.toS).2 h0, (gV_eq hN q.toS).2 h1, Bool.and_self, Bool.and_true]; rfl
    ·have z2 : ((rest.length : Int) != 2) = true := by rw [bne_iff_ne]; omega
     have gn : G39x0 N rest 2 = some (false, [.i 0, .i 0], false) := G39x0_ne (n := 2) (by decide) hz
     have j0 : inB 0 ([D.i 0, D.i 0] : List D).length = true := by rfl
     have e0 : (([D.i 0, D.i 0] : List D).getD 0 (.i 0)).toI = 0 := by rfl
     have j1 : inB 1 ([D.i 0, D.i 0] : List D).length = true := by rfl
     have e1 : (([D.i 0, D.i 0] : List D).getD 1 (.i 0)).toI = 0 := by rfl
     refine .inl ⟨(posK a LV, 2, 0, 0, 0, 0, 0, 0, [], false), (posK a LV, 2, 0, 0, 0, 0, 0, 0, [], false), ?_, ?_, rfl, rfl⟩
     ·unfold G14x0 F14x0; simp only [iI, b1, b2, b3, b4, b5, toS0, toS1, tA, tB, hk1, hk1', hk1'', bnd_eq, Option.isSome_some, _root_.cond_true, _root_.cond_false, getD_some, g1, g2, g3, p1, p2, m1, m0, Bool.not_true, Bool.not_false, c1, c4, z2, g46, inlB_inl, inlB_inr, inrQ_inr]
     ·unfold G18x0 F18x0 V18x0x78002 F18x0x78002 V18x0x92 F18x0x92; simp only [iI, b1, b2, b3, b4, b5, toS0, toS1, tA, tB, hk1, hk1', hk1'', bnd_eq, Option.isSome_some, _root_.cond_true, _root_.cond_false, getD_some, g1, g2, g3, p1, p2, m1, m0, Bool.not_true, Bool.not_false, qplace, qhours, qtag, qsport, qgrid, qday, qname, gn, j0, e0, j1, e1]
   by_cases wtag : b = [116, 97, 103]
   ·subst wtag
    have k3 : posK [116, 97, 103] WH = 4 := by rfl
    rw [k3] at g3
    have g3 : G34x0 N (V23x0 N) [116, 97, 103] = some 4 := g3
    have c1 : decide ((4 : Int) < 1) = false := by rfl
    have c4 : ((4 : Int) == 4) = true := by rfl
    have qplace : (([116, 97, 103] : List UInt8) == [112, 108, 97, 99, 101]) = false := by rfl
    have qhours : (([116, 97, 103] : List UInt8) == [104, 111, 117, 114, 115]) = false := by rfl
    have qtag : (([116, 97, 103] : List UInt8) == [116, 97, 103]) = true := by rfl
    have qsport : (([116, 97, 103] : List UInt8) == [115, 112, 111, 114, 116]) = false := by rfl
    have qgrid : (([116, 97, 103] : List UInt8) == [103, 114, 105, 100]) = false := by rfl
    have qday : (([116, 97, 103] : List UInt8) == [100, 97, 121]) = false := by rfl
    have qname : (([116, 97, 103] : List UInt8) == [110, 97, 109, 101]) = false := by rfl
    have g46 : G14x0x46 N 4 = some (.inr (.inr (.inr ()))) := by rfl
    by_cases hz : rest.length = 1
    ·obtain ⟨p, rfl⟩ : ∃ p, rest = [p] := by match rest, hz with | [p], _ => exact ⟨p, rfl⟩
     have z1 : ((([p] : List D).length : Int) == 1) = true := by rfl
     have z2 : ((([p] : List D).length : Int) != 1) = false := by rfl
     have i0 : inB 0 ([p] : List D).length = true := by rfl
     refine .inr ⟨(posK a LV, 4, 0, 0, 0, 0, 0, 0, p.toS, true), ?_, ?_, .inr ⟨p, by simp, rfl⟩⟩
     ·unfold G14x0 F14x0; simp only [iI, b1, b2, b3, b4, b5, toS0, toS1, tA, tB, hk1, hk1', hk1'', bnd_eq, Option.isSome_some, _root_.cond_true, _root_.cond_false, getD_some, g1, g2, g3, p1, p2, m1, m0, Bool.not_true, Bool.not_false, c1, c4, z1, z2, i0]
     ·unfold G18x0 F18x0 V18x0x78002 F18x0x78002 V18x0x92 F18x0x92; simp only [iI, b1, b2, b3, b4, b5, toS0, toS1, tA, tB, hk1, hk1', hk1'', bnd_eq, Option.isSome_some, _root_.cond_true, _root_.cond_false, getD_some, g1, g2, g3, p1, p2, m1, m0, Bool.not_true, Bool.not_false, qplace, qhours, qtag, qsport, qgrid, qday, qname, z1, z2, i0]
    ·have z1 : ((rest.length : Int) == 1) = false := by rw [beq_eq_false_iff_ne]; omega
     have z2 : ((rest.length : Int) != 1) = true := by rw [bne_iff_ne]; omega
     have z3 : (bif ((rest.length : Int) != 0) then true else true) = true := by cases ((rest.length : Int) != 0) <;> rfl
     refine .inl ⟨(posK a LV, 4, 0, 0, 0, 0, 0, 0, [], false), (posK a LV, 0, 0, 0, 0, 0, 0, 0, [], false), ?_, ?_, rfl, rfl⟩
     ·unfold G14x0 F14x0; simp only [iI, b1, b2, b3, b4, b5, toS0, toS1, tA, tB, hk1, hk1', hk1'', bnd_eq, Option.isSome_some, _root_.cond_true, _root_.cond_false, getD_some, g1, g2, g3, p1, p2, m1, m0, Bool.not_true, Bool.not_false, c1, c4, z1, g46, inlB_inr, inrQ_inr, z3]
     ·unfold G18x0 F18x0 V18x0x78002 F18x0x78002 V18x0x92 F18x0x92; simp only [iI, b1, b2, b3, b4, b5, toS0, toS1, tA, tB, hk1, hk1', hk1'', bnd_eq, Option.isSome_some, _root_.cond_true, _root_.cond_false, getD_some, g1, g2, g3, p1, p2, m1, m0, Bool.not_true, Bool.not_false, qplace, qhours, qtag, qsport, qgrid, qday, qname, z2]
   by_cases wsport : b = [115, 112, 111, 114, 116]
   ·subst wsport
    have k3 : posK [115, 112, 111, 114, 116] WH = 5 := by rfl
    rw [k3] at g3
    have g3 : G34x0 N (V23x0 N) [115, 112, 111, 114, 116] = some 5 := g3
    have c1 : decide ((5 : Int) < 1) = false := by rfl
    have c4 : ((5 : Int) == 4) = false := by rfl
    have qplace : (([115, 112, 111, 114, 116] : List UInt8) == [112, 108, 97, 99, 101]) = false := by rfl
    have qhours : (([115, 112, 111, 114, 116] : List UInt8) == [104, 111, 117, 114, 115]) = false := by rfl
    have qtag : (([115, 112, 111, 114, 116] : List UInt8) == [116, 97, 103]) = false := by rfl
    have qsport : (([115, 112, 111, 114, 116] : List UInt8) == [115, 112, 111, 114, 116]) = true := by rfl
    have qgrid : (([115, 112, 111, 114, 116] : List UInt8) == [103, 114, 105, 100]) = false := by rfl
    have qday : (([115, 112, 111, 114, 116] : List UInt8) == [100, 97, 121]) = false := by rfl
    have qname : (([115, 112, 111, 114, 116] : List UInt8) == [110, 97, 109, 101]) = false := by rfl
    have g46 : G14x0x46 N 5 = some (.inr (.inr (.inl ()))) := by rfl
    by_cases hz : rest.length = 1
    ·obtain ⟨p, rfl⟩ : ∃ p, rest = [p] := by match rest, hz with | [p], _ => exact ⟨p, rfl⟩
     have z2 : ((([p] : List D).length : Int) != 1) = false := by rfl
     have i0 : inB 0 ([p] : List D).length = true := by rfl
     have d0 : ([p] : List D).getD 0 (.i 0) = p := by rfl
     have a0 : G35x0 N p.toS = some (atoiV p.toS, numB 9 p.toS) := G35x0_eq _ (ht _ (by simp))
     obtain ⟨fl, gn⟩ := G39x0_eq (n := 1) hN (by decide) (show ([p] : List D).length = 1 from rfl)
     have gn : G39x0 N [p] 1 = some (fl, [.i (gV N p.toS)], (numB 9 p.toS && true)) := gn
     have j0 : inB 0 ([D.i (gV N p.toS)] : List D).length = true := by rfl
     have e0 : (([D.i (gV N p.toS)] : List D).getD 0 (.i 0)).toI = gV N p.toS := by rfl
     cases h0 : numB 9 p.toS with
     | false =>
      refine .inl ⟨(posK a LV, 5, 0, 0, 0, 0, 0, 0, [], false), (posK a LV, 5, 0, 0, 0, 0, 0, gV N p.toS, [], false), ?_, ?_, rfl, rfl⟩
      ·unfold G14x0 F14x0; simp only [iI, b1, b2, b3, b4, b5, toS0, toS1, tA, tB, hk1, hk1', hk1'', bnd_eq, Option.isSome_some, _root_.cond_true, _root_.cond_false, getD_some, g1, g2, g3, p1, p2, m1, m0, Bool.not_true, Bool.not_false, c1, c4, z2, g46, inlB_inl, inlB_inr, inrQ_inr, i0, d0, a0, h0]
      ·unfold G18x0 F18x0 V18x0x78002 F18x0x78002 V18x0x92 F18x0x92; simp only [iI, b1, b2, b3, b4, b5, toS0, toS1, tA, tB, hk1, hk1', hk1'', bnd_eq, Option.isSome_some, _root_.cond_true, _root_.cond_false, getD_some, g1, g2, g3, p1, p2, m1, m0, Bool.not_true, Bool.not_false, qplace, qhours, qtag, qsport, qgrid, qday, qname, gn, j0, e0, h0, Bool.false_and, Bool.and_false, Bool.true_and]
     | true =>
     refine .inr ⟨(posK a LV, 5, 0, 0, 0, 0, 0, atoiV p.toS, [], true), ?_, ?_, .inl rfl⟩
     ·unfold G14x0 F14x0; simp only [iI, b1, b2, b3, b4, b5, toS0, toS1, tA, tB, hk1, hk1', hk1'', bnd_eq, Option.isSome_some, _root_.cond_true, _root_.cond_false, getD_some, g1, g2, g3, p1, p2, m1, m0, Bool.not_true, Bool.not_false, c1, c4, z2, g46, inlB_inl, inlB_inr, inrQ_inr, i0, d0, a0, h0]
     ·unfold G18x0 F18x0 V18x0x78002 F18x0x78002 V18x0x92 F18x0x92; simp only [iI, b1, b2, b3, b4, b5, toS0, toS1, tA, tB, hk1, hk1', hk1'', bnd_eq, Option.isSome_some, _root_.cond_true, _root_.cond_false, getD_some, g1, g2, g3, p1, p2, m1, m0, Bool.not_true, Bool.not_false, qplace, qhours, qtag, qsport, qgrid, qday, qname, gn, j0, e0, h0, (gV_eq hN p.toS).2 h0, Bool.and_self, Bool.and_true]; rfl
    ·have z2 : ((rest.length : Int) != 1) = true := by rw [bne_iff_ne]; omega
     have gn : G39x0 N rest 1 = some (false, [.i 0], false) := G39x0_ne (n := 1) (by decide) hz
     have j0 : inB 0 ([D.i 0] : List D).length = true := by rfl
     have e0 : (([D.i 0] : List D).getD 0 (.i 0)).toI = 0 := by rfl
     refine .inl ⟨(posK a LV, 5, 0, 0, 0, 0, 0, 0, [], false), (posK a LV, 5, 0, 0, 0, 0, 0, 0, [], false), ?_, ?_, rfl, rfl⟩
     ·unfold G14x0 F14x0; simp only [iI, b1, b2, b3, b4, b5, toS0, toS1, tA, tB, hk1, hk1', hk1'', bnd_eq, Option.isSome_some, _root_.cond_true, _root_.cond_false, getD_some, g1, g2, g3, p1, p2, m1, m0, Bool.not_true, Bool.not_false, c1, c4, z2, g46, inlB_inl, inlB_inr, inrQ_inr]
     ·unfold G18x0 F18x0 V18x0x78002 F18x0x78002 V18x0x92 F18x0x92; simp only [iI, b1, b2, b3, b4, b5, toS0, toS1, tA, tB, hk1, hk1', hk1'', bnd_eq, Option.isSome_some, _root_.cond_true, _root_.cond_false, getD_some, g1, g2, g3, p1, p2, m1, m0, Bool.not_true, Bool.not_false, qplace, qhours, qtag, qsport, qgrid, qday, qname, gn, j0, e0]
   by_cases wday : b = [100, 97, 121]
   ·subst wday
    have k3 : posK [100, 97, 121] WH = 6 := by rfl
    rw [k3] at g3
    have g3 : G34x0 N (V23x0 N) [100, 97, 121] = some 6 := g3
    have c1 : decide ((6 : Int) < 1) = false := by rfl
    have c4 : ((6 : Int) == 4) = false := by rfl
    have qplace : (([100, 97, 121] : List UInt8) == [112, 108, 97, 99, 101]) = false := by rfl
    have qhours : (([100, 97, 121] : List UInt8) == [104, 111, 117, 114, 115]) = false := by rfl
    have qtag : (([100, 97, 121] : List UInt8) == [116, 97, 103]) = false := by rfl
    have qsport : (([100, 97, 121] : List UInt8) == [115, 112, 111, 114, 116]) = false := by rfl
    have qgrid : (([100, 97, 121] : List UInt8) == [103, 114, 105, 100]) = false := by rfl
    have qday : (([100, 97, 121] : List UInt8) == [100, 97, 121]) = true := by rfl
    have qname : (([100, 97, 121] : List UInt8) == [110, 97, 109, 101]) = false := by rfl
    have g46 : G14x0x46 N 6 = some (.inr (.inr (.inr ()))) := by rfl
    by_cases hz : rest.length = 0
    ·have z1 : ((rest.length : Int) == 0) = true := by rw [hz]; rfl
     have z2 : ((rest.length : Int) != 0) = false := by rw [hz]; rfl
     refine .inr ⟨(posK a LV, 6, 0, 0, 0, 0, 0, 0, [], true), ?_, ?_, .inl rfl⟩
     ·unfold G14x0 F14x0; simp only [iI, b1, b2, b3, b4, b5, toS0, toS1, tA, tB, hk1, hk1', hk1'', bnd_eq, Option.isSome_some, _root_.cond_true, _root_.cond_false, getD_some, g1, g2, g3, p1, p2, m1, m0, Bool.not_true, Bool.not_false, c1, c4, z1, z2, g46, inlB_inr, inrQ_inr]
     ·unfold G18x0 F18x0 V18x0x78002 F18x0x78002 V18x0x92 F18x0x92; simp only [iI, b1, b2, b3, b4, b5, toS0, toS1, tA, tB, hk1, hk1', hk1'', bnd_eq, Option.isSome_some, _root_.cond_true, _root_.cond_false, getD_some, g1, g2, g3, p1, p2, m1, m0, Bool.not_true, Bool.not_false, qplace, qhours, qtag, qsport, qgrid, qday, qname, z1]
    ·have z1 : ((rest.length : Int) == 0) = false := by rw [beq_eq_false_iff_ne]; omega
     have z2 : ((rest.length : Int) != 0) = true := by rw [bne_iff_ne]; omega
     refine .inl ⟨(posK a LV, 6, 0, 0, 0, 0, 0, 0, [], false), (posK a LV, 6, 0, 0, 0, 0, 0, 0, [], false), ?_, ?_, rfl, rfl⟩
     ·unfold G14x0 F14x0; simp only [iI, b1, b2, b3, b4, b5, toS0, toS1, tA, tB, hk1, hk1', hk1'', bnd_eq, Option.isSome_some, _root_.cond_true, _root_.cond_false, getD_some, g1, g2, g3, p1, p2, m1, m0, Bool.not_true, Bool.not_false, c1, c4, z1, z2, g46, inlB_inr, inrQ_inr]
     ·unfold G18x0 F18x0 V18x0x78002 F18x0x78002 V18x0x92 F18x0x92; simp only [iI, b1, b2, b3, b4, b5, toS0, toS1, tA, tB, hk1, hk1', hk1'', bnd_eq, Option.isSome_some, _root_.cond_true, _root_.cond_false, getD_some, g1, g2, g3, p1, p2, m1, m0, Bool.not_true, Bool.not_false, qplace, qhours, qtag, qsport, qgrid, qday, qname, z1]
   by_cases wname : b = [110, 97, 109, 101]
   ·subst wname
    have k3 : posK [110, 97, 109, 101] WH = 7 := by rfl
    rw [k3] at g3
    have g3 : G34x0 N (V23x0 N) [110, 97, 109, 101] = some 7 := g3
    have c1 : decide ((7 : Int) < 1) = false := by rfl
    have c4 : ((7 : Int) == 4) = false := by rfl
    have qplace : (([110, 97, 109, 101] : List UInt8) == [112, 108, 97, 99, 101]) = false := by rfl
    have qhours : (([110, 97, 109, 101] : List UInt8) == [104, 111, 117, 114, 115]) = false := by rfl
    have qtag : (([110, 97, 109, 101] : List UInt8) == [116, 97, 103]) = false := by rfl
    have qsport : (([110, 97, 109, 101] : List UInt8) == [115, 112, 111, 114, 116]) = false := by rfl
    have qgrid : (([110, 97, 109, 101] : List UInt8) == [103, 114, 105, 100]) = false := by rfl
    have qday : (([110, 97, 109, 101] : List UInt8) == [100, 97, 121]) = false := by rfl
    have qname : (([110, 97, 109, 101] : List UInt8) == [110, 97, 109, 101]) = true := by rfl
    have g46 : G14x0x46 N 7 = some (.inr (.inr (.inr ()))) := by rfl
    by_cases hz : rest.length = 0
    ·have z1 : ((rest.length : Int) == 0) = true := by rw [hz]; rfl
     have z2 : ((rest.length : Int) != 0) = false := by rw [hz]; rfl
     refine .inr ⟨(posK a LV, 7, 0, 0, 0, 0, 0, 0, [], true), ?_, ?_, .inl rfl⟩
     ·unfold G14x0 F14x0; simp only [iI, b1, b2, b3, b4, b5, toS0, toS1, tA, tB, hk1, hk1', hk1'', bnd_eq, Option.isSome_some, _root_.cond_true, _root_.cond_false, getD_some, g1, g2, g3, p1, p2, m1, m0, Bool.not_true, Bool.not_false, c1, c4, z1, z2, g46, inlB_inr, inrQ_inr]
     ·unfold G18x0 F18x0 V18x0x78002 F18x0x78002 V18x0x92 F18x0x92; simp only [iI, b1, b2, b3, b4, b5, toS0, toS1, tA, tB, hk1, hk1', hk1'', bnd_eq, Option.isSome_some, _root_.cond_true, _root_.cond_false, getD_some, g1, g2, g3, p1, p2, m1, m0, Bool.not_true, Bool.not_false, qplace, qhours, qtag, qsport, qgrid, qday, qname, z1]
    ·have z1 : ((rest.length : Int) == 0) = false := by rw [beq_eq_false_iff_ne]; omega
     have z2 : ((rest.length : Int) != 0) = true := by rw [bne_iff_ne]; omega
     refine .inl ⟨(posK a LV, 7, 0, 0, 0, 0, 0, 0, [], false), (posK a LV, 7, 0, 0, 0, 0, 0, 0, [], false), ?_, ?_, rfl, rfl⟩
     ·unfold G14x0 F14x0; simp only [iI, b1, b2, b3, b4, b5, toS0, toS1, tA, tB, hk1, hk1', hk1'', bnd_eq, Option.isSome_some, _root_.cond_true, _root_.cond_false, getD_some, g1, g2, g3, p1, p2, m1, m0, Bool.not_true, Bool.not_false, c1, c4, z1, z2, g46, inlB_inr, inrQ_inr]
     ·unfold G18x0 F18x0 V18x0x78002 F18x0x78002 V18x0x92 F18x0x92; simp only [iI, b1, b2, b3, b4, b5, toS0, toS1, tA, tB, hk1, hk1', hk1'', bnd_eq, Option.isSome_some, _root_.cond_true, _root_.cond_false, getD_some, g1, g2, g3, p1, p2, m1, m0, Bool.not_true, Bool.not_false, qplace, qhours, qtag, qsport, qgrid, qday, qname, z1]
   by_cases wgrid : b = [103, 114, 105, 100]
   ·subst wgrid
    have k3 : posK [103, 114, 105, 100] WH = 8 := by rfl
    rw [k3] at g3
    have g3 : G34x0 N (V23x0 N) [103, 114, 105, 100] = some 8 := g3
    have c1 : decide ((8 : Int) < 1) = false := by rfl
    have c4 : ((8 : Int) == 4) = false := by rfl
    have qplace : (([103, 114, 105, 100] : List UInt8) == [112, 108, 97, 99, 101]) = false := by rfl
    have qhours : (([103, 114, 105, 100] : List UInt8) == [104, 111, 117, 114, 115]) = false := by rfl
    have qtag : (([103, 114, 105, 100] : List UInt8) == [116, 97, 103]) = false := by rfl
    have qsport : (([103, 114, 105, 100] : List UInt8) == [115, 112, 111, 114, 116]) = false := by rfl
    have qgrid : (([103, 114, 105, 100] : List UInt8) == [103, 114, 105, 100]) = true := by rfl
    have qday : (([103, 114, 105, 100] : List UInt8) == [100, 97, 121]) = false := by rfl
    have qname : (([103, 114, 105, 100] : List UInt8) == [110, 97, 109, 101]) = false := by rfl
    have g46 : G14x0x46 N 8 = some (.inr (.inr (.inl ()))) := by rfl
    by_cases hz : rest.length = 1
    ·obtain ⟨p, rfl⟩ : ∃ p, rest = [p] := by match rest, hz with | [p], _ => exact ⟨p, rfl⟩
     have z2 : ((([p] : List D).length : Int) != 1) = false := by rfl
     have i0 : inB 0 ([p] : List D).length = true := by rfl
     have d0 : ([p] : List D).getD 0 (.i 0) = p := by rfl
     have a0 : G35x0 N p.toS = some (atoiV p.toS, numB 9 p.toS) := G35x0_eq _ (ht _ (by simp))
     obtain ⟨fl, gn⟩ := G39x0_eq (n := 1) hN (by decide) (show ([p] : List D).length = 1 from rfl)
     have gn : G39x0 N [p] 1 = some (fl, [.i (gV N p.toS)], (numB 9 p.toS && true)) := gn
     have j0 : inB 0 ([D.i (gV N p.toS)] : List D).length = true := by rfl
     have e0 : (([D.i (gV N p.toS)] : List D).getD 0 (.i 0)).toI = gV N p.toS := by rfl
     cases h0 : numB 9 p.toS with
     | false =>
      refine .inl ⟨(posK a LV, 8, 0, 0, 0, 0, 0, 0, [], false), (posK a LV, 8, 0, 0, 0, 0, 0, gV N p.toS, [], false), ?_, ?_, rfl, rfl⟩
      ·unfold G14x0 F14x0; simp only [iI, b1, b2, b3, b4, b5, toS0, toS1, tA, tB, hk1, hk1', hk1'', bnd_eq, Option.isSome_some, _root_.cond_true, _root_.cond_false, getD_some, g1, g2, g3, p1, p2, m1, m0, Bool.not_true, Bool.not_false, c1, c4, z2, g46, inlB_inl, inlB_inr, inrQ_inr, i0, d0, a0, h0]
      ·unfold G18x0 F18x0 V18x0x78002 F18x0x78002 V18x0x92 F18x0x92; simp only [iI, b1, b2, b3, b4, b5, toS0, toS1, tA, tB, hk1, hk1', hk1'', bnd_eq, Option.isSome_some, _root_.cond_true, _root_.cond_false, getD_some, g1, g2, g3, p1, p2, m1, m0, Bool.not_true, Bool.not_false, qplace, qhours, qtag, qsport, qgrid, qday, qname, gn, j0, e0, h0, Bool.false_and, Bool.and_false, Bool.true_and]
     | true =>
     refine .inr ⟨(posK a LV, 8, 0, 0, 0, 0, 0, atoiV p.toS, [], true), ?_, ?_, .inl rfl⟩
     ·unfold G14x0 F14x0; simp only [iI, b1, b2, b3, b4, b5, toS0, toS1, tA, tB, hk1, hk1', hk1'', bnd_eq, Option.isSome_some, _root_.cond_true, _root_.cond_false, getD_some, g1, g2, g3, p1, p2, m1, m0, Bool.not_true, Bool.not_false, c1, c4, z2, g46, inlB_inl, inlB_inr, inrQ_inr, i0, d0, a0, h0]
     ·unfold G18x0 F18x0 V18x0x78002 F18x0x78002 V18x0x92 F18x0x92; simp only [iI, b1, b2, b3, b4, b5, toS0, toS1, tA, tB, hk1, hk1', hk1'', bnd_eq, Option.isSome_some, _root_.cond_true, _root_.cond_false, getD_some, g1, g2, g3, p1, p2, m1, m0, Bool.not_true, Bool.not_false, qplace, qhours, qtag, qsport, qgrid, qday, qname, gn, j0, e0, h0, (gV_eq hN p.toS).2 h0, Bool.and_self, Bool.and_true]; rfl
    ·have z2 : ((rest.length : Int) != 1) = true := by rw [bne_iff_ne]; omega
     have gn : G39x0 N rest 1 = some (false, [.i 0], false) := G39x0_ne (n := 1) (by decide) hz
     have j0 : inB 0 ([D.i 0] : List D).length = true := by rfl
     have e0 : (([D.i 0] : List D).getD 0 (.i 0)).toI = 0 := by rfl
     refine .inl ⟨(posK a LV, 8, 0, 0, 0, 0, 0, 0, [], false), (posK a LV, 8, 0, 0, 0, 0, 0, 0, [], false), ?_, ?_, rfl, rfl⟩
     ·unfold G14x0 F14x0; simp only [iI, b1, b2, b3, b4, b5, toS0, toS1, tA, tB, hk1, hk1', hk1'', bnd_eq, Option.isSome_some, _root_.cond_true, _root_.cond_false, getD_some, g1, g2, g3, p1, p2, m1, m0, Bool.not_true, Bool.not_false, c1, c4, z2, g46, inlB_inl, inlB_inr, inrQ_inr]
     ·unfold G18x0 F18x0 V18x0x78002 F18x0x78002 V18x0x92 F18x0x92; simp only [iI, b1, b2, b3, b4, b5, toS0, toS1, tA, tB, hk1, hk1', hk1'', bnd_eq, Option.isSome_some, _root_.cond_true, _root_.cond_false, getD_some, g1, g2, g3, p1, p2, m1, m0, Bool.not_true, Bool.not_false, qplace, qhours, qtag, qsport, qgrid, qday, qname, gn, j0, e0]
   have k3 : posK b WH = 0 := by
    have h3 : (b == ([] : List UInt8)) = false := by simpa using hb
    have qplace : (b == [112, 108, 97, 99, 101]) = false := by simpa using wplace
    have qhours : (b == [104, 111, 117, 114, 115]) = false := by simpa using whours
    have qtag : (b == [116, 97, 103]) = false := by simpa using wtag
    have qsport : (b == [115, 112, 111, 114, 116]) = false := by simpa using wsport
    have qday : (b == [100, 97, 121]) = false := by simpa using wday
    have qname : (b == [110, 97, 109, 101]) = false := by simpa using wname
    have qgrid : (b == [103, 114, 105, 100]) = false := by simpa using wgrid
    unfold posK WH
    simp only [firstX, show ∀ l : List UInt8, (D.s l).toS = l from fun _ => rfl, h3, qplace, qhours, qtag, qsport, qday, qname, qgrid, _root_.cond_false]
   rw [k3] at g3
   have g3 : G34x0 N (V23x0 N) b = some (-1) := g3
   have c1 : decide ((-1 : Int) < 1) = true := by rfl
   have qplace : (b == [112, 108, 97, 99, 101]) = false := by simpa using wplace
   have qhours : (b == [104, 111, 117, 114, 115]) = false := by simpa using whours
   have qtag : (b == [116, 97, 103]) = false := by simpa using wtag
   have qsport : (b == [115, 112, 111, 114, 116]) = false := by simpa using wsport
   have qday : (b == [100, 97, 121]) = false := by simpa using wday
   have qname : (b == [110, 97, 109, 101]) = false := by simpa using wname
   have qgrid : (b == [103, 114, 105, 100]) = false := by simpa using wgrid
   refine .inl ⟨(posK a LV, -1, 0, 0, 0, 0, 0, 0, [], false), (posK a LV, 0, 0, 0, 0, 0, 0, 0, [], false), ?_, ?_, rfl, rfl⟩
   ·unfold G14x0 F14x0; simp only [iI, b1, b2, b3, b4, b5, toS0, toS1, tA, tB, hk1, hk1', hk1'', bnd_eq, Option.isSome_some, _root_.cond_true, _root_.cond_false, getD_some, g1, g2, g3, p1, p2, m1, m0, Bool.not_true, Bool.not_false, c1]
   ·unfold G18x0 F18x0 V18x0x78002 F18x0x78002 V18x0x92 F18x0x92; simp only [iI, b1, b2, b3, b4, b5, toS0, toS1, tA, tB, hk1, hk1', hk1'', bnd_eq, Option.isSome_some, _root_.cond_true, _root_.cond_false, getD_some, g1, g2, g3, p1, p2, m1, m0, Bool.not_true, Bool.not_false, qplace, qhours, qtag, qsport, qday, qname, qgrid]
  ·have hk : (posK b FL == 0) = false := by simpa using k2
   have hk' : decide (posK b FL > 0) = true := decide_eq_true (by omega)
   refine .inr ⟨(posK a LV, 3, 0, 0, 0, 0, 0, posK b FL, [], (rest.length : Int) == 0), ?_, ?_, .inl rfl⟩
   ·unfold G14x0 F14x0
    simp only [b1, b2, b3, toS0, toS1, tA, tB, g1, g2, hk1, hk1', hk, hk', b6, bnd_eq, Option.isSome_some, _root_.cond_true, _root_.cond_false, getD_some]
   ·unfold G18x0 F18x0
    simp only [b1, b2, b3, b4, b5, toS0, toS1, tA, tB, p1, p2, hk1, hk', bnd_eq, Option.isSome_some, _root_.cond_true, _root_.cond_false, getD_some]
end
end Go.Proofs.YtohplnjpncjhoaaGreatDoor

namespace Go.Proofs.YtohplnjpncjhoaaGreatDoor
open Go Go.AM
set_option maxRecDepth 100000
set_option maxHeartbeats 4000000
variable {N : Nat}
def inI (n a b : Int) : Bool := decide (a ≤ n ∧ n ≤ b)
def ltr (n : Int) : Bool := decide (97 ≤ n ∧ n ≤ 122 ∨ 65 ≤ n ∧ n ≤ 90 ∨ 48 ≤ n ∧ n ≤ 57 ∨ n = 45 ∨ n = 95 ∨ n = 46)
def nameB (s : List UInt8) : Bool := s.all (fun c => ltr (c.toNat : Int)) && decide (1 ≤ s.length ∧ s.length ≤ 60)
theorem G56x0x6_eq (hN : maxLen < N) {s : List UInt8} (hs : s.length ≤ maxLen) : G56x0x6 N s 0 = some (bif s.all (fun c => ltr (c.toNat : Int)) then .inr () else .inl ()) := by
 unfold G56x0x6
 refine (for_ind (0 : UInt8) (S := fun w kr => S56x0x6 N s w kr _ _) (L := fun m w => L56x0x6 N s m w _ _) (fun m w => rfl) (fun _ l => some (bif l.all (fun c => ltr (c.toNat : Int)) then .inr () else .inl ())) hs ?_ ?_ hN).trans rfl
 ·intro kr; simp [S56x0x6]
 ·intro w kr h0 h1 hw hi hk
  simp only [S56x0x6, decide_eq_true h1, _root_.cond_true, hi, bnd_eq, hw, hk, List.all_cons]
  generalize ((s.getD w.toNat 0).toNat : Int) = n
  refine (cond_congr (c' := !ltr n) ?_).trans ?_
  ·rw [Bool.eq_iff_iff]; simp [ltr]; omega
  ·cases ltr n <;> rfl
theorem G56x0_eq (hN : maxLen < N) {s : List UInt8} (hs : s.length ≤ maxLen) : G56x0 N s = some (nameB s) := by
 unfold G56x0 F56x0
 rw [G56x0x6_eq hN hs]
 unfold nameB
 cases s.all (fun c => ltr (c.toNat : Int)) with
 | false => rfl
 | true =>
  simp only [bnd_eq, inlB_inr, inrQ_inr, _root_.cond_true, _root_.cond_false, Option.isSome_some, Bool.true_and]
  congr 1
  rw [Bool.eq_iff_iff]; simp; omega
theorem G53x0x6_eq (hN : maxLen < N) {s : List UInt8} (hs : s.length ≤ maxLen) : G53x0x6 N s s.length 0 = some (bif s.all (fun c => ltr (c.toNat : Int)) then .inr () else .inl ()) := by
 unfold G53x0x6
 refine (for_ind (0 : UInt8) (S := fun w kr => S53x0x6 N s s.length w kr _ _) (L := fun m w => L53x0x6 N s s.length m w _ _) (fun m w => rfl) (fun _ l => some (bif l.all (fun c => ltr (c.toNat : Int)) then .inr () else .inl ())) hs ?_ ?_ hN).trans rfl
 ·intro kr; simp [S53x0x6]
 ·intro w kr h0 h1 hw hi hk
  simp only [S53x0x6, decide_eq_true h1, _root_.cond_true, hi, bnd_eq, hw, hk, List.all_cons, V53x0x19, F53x0x19, V71x0, F71x0]
  generalize ((s.getD w.toNat 0).toNat : Int) = n
  refine (cond_congr (c' := !ltr n) ?_).trans ?_
  ·rw [Bool.eq_iff_iff]; simp [ltr]; omega
  ·cases ltr n <;> rfl
theorem G53x0_eq (hN : maxLen < N) {s : List UInt8} (hs : s.length ≤ maxLen) : G53x0 N s = some (nameB s) := by
 unfold G53x0 F53x0
 rw [G53x0x6_eq hN hs]
 unfold nameB
 cases s.all (fun c => ltr (c.toNat : Int)) with
 | false => rfl
 | true =>
  simp only [bnd_eq, inlB_inr, inrQ_inr, _root_.cond_true, _root_.cond_false, Option.isSome_some, Bool.true_and]
  congr 1
  rw [Bool.eq_iff_iff]; simp; omega
def firstE (e : Int → Int) : Int → List D → Int
 | _, [] => 0
 | w, _ :: r => bif e w != 0 then e w else firstE e (w + 1) r
def wayE (n : Int) : Sum Int Unit := bif n != 0 then .inl n else .inr ()
theorem wayE_cons {e : Int → Int} {w : Int} {x : D} {l : List D} : wayE (firstE e w (x :: l)) = bif e w != 0 then .inl (e w) else wayE (firstE e (w + 1) l) := by
 simp only [firstE]
 cases h : e w != 0 with
 | true => simp only [_root_.cond_true, wayE, h]
 | false => rfl
theorem V52x0_eq (n a b : Int) : V52x0 N n a b = inI n a b := by
 unfold V52x0 F52x0 inI
 rw [Bool.eq_iff_iff]; simp
theorem V55x0_eq (n a b : Int) : V55x0 N n a b = !inI n a b := by
 unfold V55x0 F55x0 inI
 rw [Bool.eq_iff_iff]; simp <;> omega
def zeroB (kd x y r hf ht n : Int) (s : List UInt8) : Bool :=
 (kd == 1 || (x == 0 && y == 0 && r == 0)) && (kd == 2 || (hf == 0 && ht == 0)) && (kd == 3 || kd == 5 || kd == 8 || n == 0) && (kd == 4 || s == [])
def kindE (kd x y r hf ht n : Int) (s : List UInt8) : Int :=
 bif kd == 1 then (bif inI x (-100000000) 100000000 && inI y (-100000000) 100000000 && inI r 0 1000000 then 0 else 9)
 else bif kd == 2 then (bif decide (hf < 0) || decide (hf > ht) || decide (ht ≥ 86400) then 9 else 0)
 else bif kd == 3 then (bif inI n 1 4 then 0 else 9)
 else bif kd == 8 then (bif inI n 1 1000000 then 0 else 9)
 else bif kd == 5 then (bif inI n 1 5 then 0 else 7)
 else bif kd == 4 then (bif nameB s then 0 else 8) else 0
def ruleE (fr kd x y r hf ht n : Int) (s : List UInt8) : Int :=
 bif !inI kd 1 8 then 7 else bif !inI fr 1 3 then 9 else bif kindE kd x y r hf ht n s != 0 then kindE kd x y r hf ht n s else bif zeroB kd x y r hf ht n s then 0 else 2
theorem kd_cases {kd : Int} (h : inI kd 1 8 = true) : kd = 1 ∨ kd = 2 ∨ kd = 3 ∨ kd = 4 ∨ kd = 5 ∨ kd = 6 ∨ kd = 7 ∨ kd = 8 := by
 have := of_decide_eq_true h
 omega
section
variable {fr kd x y r hf ht n : Int} {s : List UInt8}
theorem G36x0_eq (hN : maxLen < N) (hs : s.length ≤ maxLen) : G36x0 N fr kd x y r hf ht n s = some (ruleE fr kd x y r hf ht n s) := by
 unfold G36x0 F36x0
 simp only [bnd_eq, V52x0_eq]
 unfold ruleE
 cases hk : inI kd 1 8 with
 | false => rfl
 | true =>
 cases hfr : inI fr 1 3 with
 | false => rfl
 | true =>
 unfold kindE zeroB
 rcases kd_cases hk with rfl | rfl | rfl | rfl | rfl | rfl | rfl | rfl
 ·unfold G36x0x36029 F36x0x36029 V36x0x28 F36x0x28
  simp only [bnd_eq, V52x0_eq, beq_self_eq_true, Int.reduceBEq, _root_.cond_true, _root_.cond_false]
  cases inI x (-100000000) 100000000 <;> cases inI y (-100000000) 100000000 <;> cases inI r 0 1000000 <;> (try rfl) <;> simp only [inlB_inl, inlB_inr, inlV_inl, inrQ_inr, Option.isSome_some, getD_some, _root_.cond_true, _root_.cond_false, Bool.not_true, Bool.not_false] <;> cases hf == 0 <;> cases ht == 0 <;> cases n == 0 <;> cases s == [] <;> rfl
 ·unfold G36x0x36029 F36x0x36029 G36x0x48041 F36x0x48041
  simp only [bnd_eq, beq_self_eq_true, Int.reduceBEq, _root_.cond_true, _root_.cond_false]
  cases decide (hf < 0) <;> cases decide (hf > ht) <;> cases decide (ht ≥ 86400) <;> (try rfl) <;> simp only [inlB_inl, inlB_inr, inlV_inl, inrQ_inr, Option.isSome_some, getD_some, _root_.cond_true, _root_.cond_false, Bool.not_true, Bool.not_false] <;> cases x == 0 <;> cases y == 0 <;> cases r == 0 <;> cases n == 0 <;> cases s == [] <;> rfl
 ·unfold G36x0x36029 F36x0x36029 G36x0x48041 F36x0x48041 G36x0x60053 F36x0x60053
  simp only [bnd_eq, V52x0_eq, beq_self_eq_true, Int.reduceBEq, _root_.cond_true, _root_.cond_false]
  cases inI n 1 4 <;> (try rfl) <;> simp only [inlB_inl, inlB_inr, inlV_inl, inrQ_inr, Option.isSome_some, getD_some, _root_.cond_true, _root_.cond_false, Bool.not_true, Bool.not_false] <;> cases hf == 0 <;> cases ht == 0 <;> cases x == 0 <;> cases y == 0 <;> cases r == 0 <;> cases s == [] <;> rfl
 ·unfold G36x0x36029 F36x0x36029 G36x0x48041 F36x0x48041 G36x0x60053 F36x0x60053 G36x0x72065 F36x0x72065 G36x0x84077 F36x0x84077 G36x0x89 F36x0x89
  simp only [bnd_eq, V52x0_eq, G53x0_eq hN hs, beq_self_eq_true, Int.reduceBEq, _root_.cond_true, _root_.cond_false]
  cases nameB s <;> (try rfl) <;> simp only [inlB_inl, inlB_inr, inlV_inl, inrQ_inr, Option.isSome_some, getD_some, _root_.cond_true, _root_.cond_false, Bool.not_true, Bool.not_false] <;> cases hf == 0 <;> cases ht == 0 <;> cases x == 0 <;> cases y == 0 <;> cases r == 0 <;> cases n == 0 <;> rfl
 ·unfold G36x0x36029 F36x0x36029 G36x0x48041 F36x0x48041 G36x0x60053 F36x0x60053 G36x0x72065 F36x0x72065 G36x0x84077 F36x0x84077
  simp only [bnd_eq, V52x0_eq, beq_self_eq_true, Int.reduceBEq, _root_.cond_true, _root_.cond_false]
  cases inI n 1 5 <;> (try rfl) <;> simp only [inlB_inl, inlB_inr, inlV_inl, inrQ_inr, Option.isSome_some, getD_some, _root_.cond_true, _root_.cond_false, Bool.not_true, Bool.not_false] <;> cases hf == 0 <;> cases ht == 0 <;> cases x == 0 <;> cases y == 0 <;> cases r == 0 <;> cases s == [] <;> rfl
 ·unfold G36x0x36029 F36x0x36029 G36x0x48041 F36x0x48041 G36x0x60053 F36x0x60053 G36x0x72065 F36x0x72065 G36x0x84077 F36x0x84077 G36x0x89 F36x0x89
  simp only [bnd_eq, V52x0_eq, beq_self_eq_true, Int.reduceBEq, _root_.cond_true, _root_.cond_false]
  simp only [inlB_inl, inlB_inr, inlV_inl, inrQ_inr, Option.isSome_some, getD_some, _root_.cond_true, _root_.cond_false, Bool.not_true, Bool.not_false]
  cases hf == 0 <;> cases ht == 0 <;> cases x == 0 <;> cases y == 0 <;> cases r == 0 <;> cases n == 0 <;> cases s == [] <;> rfl
 ·unfold G36x0x36029 F36x0x36029 G36x0x48041 F36x0x48041 G36x0x60053 F36x0x60053 G36x0x72065 F36x0x72065 G36x0x84077 F36x0x84077 G36x0x89 F36x0x89
  simp only [bnd_eq, V52x0_eq, beq_self_eq_true, Int.reduceBEq, _root_.cond_true, _root_.cond_false]
  simp only [inlB_inl, inlB_inr, inlV_inl, inrQ_inr, Option.isSome_some, getD_some, _root_.cond_true, _root_.cond_false, Bool.not_true, Bool.not_false]
  cases hf == 0 <;> cases ht == 0 <;> cases x == 0 <;> cases y == 0 <;> cases r == 0 <;> cases n == 0 <;> cases s == [] <;> rfl
 ·unfold G36x0x36029 F36x0x36029 G36x0x48041 F36x0x48041 G36x0x60053 F36x0x60053 G36x0x72065 F36x0x72065
  simp only [bnd_eq, V52x0_eq, beq_self_eq_true, Int.reduceBEq, _root_.cond_true, _root_.cond_false]
  cases inI n 1 1000000 <;> (try rfl) <;> simp only [inlB_inl, inlB_inr, inlV_inl, inrQ_inr, Option.isSome_some, getD_some, _root_.cond_true, _root_.cond_false, Bool.not_true, Bool.not_false] <;> cases hf == 0 <;> cases ht == 0 <;> cases x == 0 <;> cases y == 0 <;> cases r == 0 <;> cases s == [] <;> rfl
theorem beq_c (a b : Int) : (a == b) = (b == a) := by rw [Bool.eq_iff_iff]; simp; exact eq_comm
theorem beq_cs (a b : List UInt8) : (a == b) = (b == a) := by rw [Bool.eq_iff_iff]; simp; exact eq_comm
theorem G40x0_eq (hN : maxLen < N) (hs : s.length ≤ maxLen) : G40x0 N fr kd x y r hf ht n s = some (ruleE fr kd x y r hf ht n s) := by
 unfold G40x0 F40x0
 simp only [bnd_eq, V55x0_eq]
 unfold ruleE
 cases hk : inI kd 1 8 with
 | false => rfl
 | true =>
 cases hfr : inI fr 1 3 with
 | false => rfl
 | true =>
 unfold kindE zeroB V40x0x27026 F40x0x27026 V57x0 F57x0 V57x0x15014 F57x0x15014 V40x0x52 F40x0x52 G40x0x58 F40x0x58
 rcases kd_cases hk with rfl | rfl | rfl | rfl | rfl | rfl | rfl | rfl
 ·unfold V40x0x25 F40x0x25
  simp only [bnd_eq, V55x0_eq, beq_self_eq_true, Int.reduceBEq, _root_.cond_true, _root_.cond_false, beq_c 0, beq_cs []]
  cases inI x (-100000000) 100000000 <;> cases inI y (-100000000) 100000000 <;> cases inI r 0 1000000 <;> (try rfl) <;> simp only [inlB_inl, inlB_inr, inlV_inl, inrQ_inr, Option.isSome_some, getD_some, _root_.cond_true, _root_.cond_false, Bool.not_true, Bool.not_false] <;> cases hf == 0 <;> cases ht == 0 <;> cases n == 0 <;> cases s == [] <;> rfl
 ·unfold V40x0x33032 F40x0x33032 V57x0x21020 F57x0x21020
  simp only [bnd_eq, beq_self_eq_true, Int.reduceBEq, _root_.cond_true, _root_.cond_false, beq_c 0, beq_cs []]
  cases decide (hf < 0) <;> cases decide (hf > ht) <;> cases decide (ht ≥ 86400) <;> (try rfl) <;> simp only [inlB_inl, inlB_inr, inlV_inl, inrQ_inr, Option.isSome_some, getD_some, _root_.cond_true, _root_.cond_false, Bool.not_true, Bool.not_false] <;> cases x == 0 <;> cases y == 0 <;> cases r == 0 <;> cases n == 0 <;> cases s == [] <;> rfl
 ·unfold V40x0x33032 F40x0x33032 V40x0x39038 F40x0x39038 V57x0x21020 F57x0x21020 V57x0x24002 F57x0x24002 V57x0x33032 F57x0x33032
  simp only [bnd_eq, V55x0_eq, beq_self_eq_true, Int.reduceBEq, _root_.cond_true, _root_.cond_false, beq_c 0, beq_cs []]
  cases inI n 1 4 <;> (try rfl) <;> simp only [inlB_inl, inlB_inr, inlV_inl, inrQ_inr, Option.isSome_some, getD_some, _root_.cond_true, _root_.cond_false, Bool.not_true, Bool.not_false] <;> cases hf == 0 <;> cases ht == 0 <;> cases x == 0 <;> cases y == 0 <;> cases r == 0 <;> cases s == [] <;> rfl
 ·unfold V40x0x33032 F40x0x33032 V40x0x39038 F40x0x39038 V40x0x44 F40x0x44 V57x0x21020 F57x0x21020 V57x0x24002 F57x0x24002 V57x0x33032 F57x0x33032 V57x0x27002 F57x0x27002 V57x0x38 F57x0x38
  simp only [bnd_eq, V55x0_eq, beq_self_eq_true, Int.reduceBEq, _root_.cond_true, _root_.cond_false, beq_c 0, beq_cs [], G56x0_eq hN hs]
  cases nameB s <;> (try rfl) <;> simp only [inlB_inl, inlB_inr, inlV_inl, inrQ_inr, Option.isSome_some, getD_some, _root_.cond_true, _root_.cond_false, Bool.not_true, Bool.not_false] <;> cases hf == 0 <;> cases ht == 0 <;> cases x == 0 <;> cases y == 0 <;> cases r == 0 <;> cases n == 0 <;> rfl
 ·unfold V40x0x33032 F40x0x33032 V40x0x39038 F40x0x39038 V40x0x44 F40x0x44 V57x0x21020 F57x0x21020 V57x0x24002 F57x0x24002 V57x0x33032 F57x0x33032 V57x0x27002 F57x0x27002
  simp only [bnd_eq, V55x0_eq, beq_self_eq_true, Int.reduceBEq, _root_.cond_true, _root_.cond_false, beq_c 0, beq_cs []]
  cases inI n 1 5 <;> (try rfl) <;> simp only [inlB_inl, inlB_inr, inlV_inl, inrQ_inr, Option.isSome_some, getD_some, _root_.cond_true, _root_.cond_false, Bool.not_true, Bool.not_false] <;> cases hf == 0 <;> cases ht == 0 <;> cases x == 0 <;> cases y == 0 <;> cases r == 0 <;> cases s == [] <;> rfl
 ·unfold V40x0x33032 F40x0x33032 V40x0x39038 F40x0x39038 V40x0x44 F40x0x44 V57x0x21020 F57x0x21020 V57x0x24002 F57x0x24002 V57x0x33032 F57x0x33032 V57x0x27002 F57x0x27002 V57x0x38 F57x0x38
  simp only [bnd_eq, beq_self_eq_true, Int.reduceBEq, _root_.cond_true, _root_.cond_false, beq_c 0, beq_cs []]
  simp only [inlB_inl, inlB_inr, inlV_inl, inrQ_inr, Option.isSome_some, getD_some, _root_.cond_true, _root_.cond_false, Bool.not_true, Bool.not_false]
  cases hf == 0 <;> cases ht == 0 <;> cases x == 0 <;> cases y == 0 <;> cases r == 0 <;> cases n == 0 <;> cases s == [] <;> rfl
 ·unfold V40x0x33032 F40x0x33032 V40x0x39038 F40x0x39038 V40x0x44 F40x0x44 V57x0x21020 F57x0x21020 V57x0x24002 F57x0x24002 V57x0x33032 F57x0x33032 V57x0x27002 F57x0x27002 V57x0x38 F57x0x38
  simp only [bnd_eq, beq_self_eq_true, Int.reduceBEq, _root_.cond_true, _root_.cond_false, beq_c 0, beq_cs []]
  simp only [inlB_inl, inlB_inr, inlV_inl, inrQ_inr, Option.isSome_some, getD_some, _root_.cond_true, _root_.cond_false, Bool.not_true, Bool.not_false]
  cases hf == 0 <;> cases ht == 0 <;> cases x == 0 <;> cases y == 0 <;> cases r == 0 <;> cases n == 0 <;> cases s == [] <;> rfl
 ·unfold V40x0x33032 F40x0x33032 V40x0x39038 F40x0x39038 V40x0x44 F40x0x44 V57x0x21020 F57x0x21020 V57x0x24002 F57x0x24002 V57x0x33032 F57x0x33032 V57x0x27002 F57x0x27002
  simp only [bnd_eq, V55x0_eq, beq_self_eq_true, Int.reduceBEq, _root_.cond_true, _root_.cond_false, beq_c 0, beq_cs []]
  cases inI n 1 1000000 <;> (try rfl) <;> simp only [inlB_inl, inlB_inr, inlV_inl, inrQ_inr, Option.isSome_some, getD_some, _root_.cond_true, _root_.cond_false, Bool.not_true, Bool.not_false] <;> cases hf == 0 <;> cases ht == 0 <;> cases x == 0 <;> cases y == 0 <;> cases r == 0 <;> cases s == [] <;> rfl
end

abbrev rFrom (x : D) : Int := (x.cell 0).toI
abbrev rKind (x : D) : Int := (x.cell 1).toI
abbrev rX (x : D) : Int := (x.cell 2).toI
abbrev rY (x : D) : Int := (x.cell 3).toI
abbrev rR (x : D) : Int := (x.cell 4).toI
abbrev rHf (x : D) : Int := (x.cell 5).toI
abbrev rHt (x : D) : Int := (x.cell 6).toI
abbrev rN (x : D) : Int := (x.cell 7).toI
abbrev rT (x : D) : List UInt8 := (x.cell 8).toS
def ruleD (x : D) : Int := ruleE (rFrom x) (rKind x) (rX x) (rY x) (rR x) (rHf x) (rHt x) (rN x) (rT x)
def chkV (xs : List D) : Int := bif decide ((xs.length : Int) > 50) then 3 else firstE (fun w => ruleD (xs.getD w.toNat (.i 0))) 0 xs
structure VeilOk (xs : List D) : Prop where
 l : xs.length ≤ maxLen
 t : ∀ x ∈ xs, (rT x).length ≤ maxLen
theorem getD_mem {xs : List D} {w : Int} (h0 : 0 ≤ w) (h1 : w < xs.length) : xs.getD w.toNat (.i 0) ∈ xs := by
 rw [List.getD_eq_getElem?_getD, List.getElem?_eq_getElem (by omega)]; exact List.getElem_mem _
section
variable {xs : List D}
theorem G15x0x12_eq (hN : maxLen < N) (h : VeilOk xs) : G15x0x12 N xs xs.length 0 = some (wayE (firstE (fun w => ruleD (xs.getD w.toNat (.i 0))) 0 xs)) := by
 unfold G15x0x12
 refine (for_ind (.i 0 : D) (S := fun w kr => S15x0x12 N xs xs.length w kr _ _) (L := fun m w => L15x0x12 N xs xs.length m w _ _) (fun m w => rfl) (fun w l => some (wayE (firstE (fun w => ruleD (xs.getD w.toNat (.i 0))) w l))) h.l ?_ ?_ hN).trans rfl
 ·intro kr; simp [S15x0x12, firstE, wayE]
 ·intro w kr h0 h1 hw hi hk
  simp only [S15x0x12, decide_eq_true h1, _root_.cond_true, hi, bnd_eq, hw, hk, G36x0_eq hN (h.t _ (getD_mem h0 h1)), Option.isSome_some, getD_some, wayE_cons]
  unfold ruleD
  generalize ruleE _ _ _ _ _ _ _ _ _ = e
  cases e != 0 <;> rfl
theorem G19x0x12_eq (hN : maxLen < N) (h : VeilOk xs) : G19x0x12 N xs xs.length 0 = some (wayE (firstE (fun w => ruleD (xs.getD w.toNat (.i 0))) 0 xs)) := by
 unfold G19x0x12
 refine (for_ind (.i 0 : D) (S := fun w kr => S19x0x12 N xs xs.length w kr _ _) (L := fun m w => L19x0x12 N xs xs.length m w _ _) (fun m w => rfl) (fun w l => some (wayE (firstE (fun w => ruleD (xs.getD w.toNat (.i 0))) w l))) h.l ?_ ?_ hN).trans rfl
 ·intro kr; simp [S19x0x12, firstE, wayE]
 ·intro w kr h0 h1 hw hi hk
  simp only [S19x0x12, decide_eq_true h1, _root_.cond_true, hi, bnd_eq, hw, hk, G40x0_eq hN (h.t _ (getD_mem h0 h1)), Option.isSome_some, getD_some, wayE_cons]
  unfold ruleD
  generalize ruleE _ _ _ _ _ _ _ _ _ = e
  cases e != 0 <;> rfl
theorem way_chk (b : Bool) (e : Int) : (bif b then some (3 : Int) else bif inlB (some (wayE e)) then some (inlV (some (wayE e))) else bif (inrQ (some (wayE e))).isSome then some 0 else none) = some (bif b then 3 else e) := by
 unfold wayE
 cases b with
 | true => rfl
 | false =>
  cases h : e != 0 with
  | true => rfl
  | false => simp only [bne_eq_false_iff_eq] at h; subst h; rfl
theorem G15x0_eq (hN : maxLen < N) (h : VeilOk xs) : G15x0 N xs = some (chkV xs) := by
 unfold G15x0 F15x0 chkV
 simp only [bnd_eq, G15x0x12_eq hN h]
 exact way_chk _ _
theorem G19x0_eq (hN : maxLen < N) (h : VeilOk xs) : G19x0 N xs = some (chkV xs) := by
 unfold G19x0 F19x0 chkV
 simp only [bnd_eq, G19x0x12_eq hN h]
 exact way_chk _ _

end
end Go.Proofs.YtohplnjpncjhoaaGreatDoor

namespace Go.Proofs.YtohplnjpncjhoaaGreatDoor
open Go Go.AM
set_option maxRecDepth 100000
set_option maxHeartbeats 4000000
variable {N : Nat}
def partsL (x : List UInt8) : List (List UInt8) := (splitL 32 x).filter fun s => !(s == [])
theorem noEmpty_parts (x : List UInt8) : noEmpty (strsD (splitD x [32])) = strsD (partsL x) := by
 unfold noEmpty strsD partsL
 rw [splitD_one, List.filter_map]
 rfl
theorem partsL_len (x : List UInt8) : (partsL x).length ≤ x.length + 1 := Nat.le_trans (List.length_filter_le _ _) (splitL_length 32 x).2
theorem partsL_ne {x s : List UInt8} (h : s ∈ partsL x) : s ≠ [] ∧ s.length ≤ x.length := by
 unfold partsL at h
 rw [List.mem_filter] at h
 exact ⟨by simpa using h.2, splitL_piece h.1⟩
theorem room16 {n k : Nat} (hk : k ≤ 100) (h : n ≤ 1000000) : (decide (n * k ≤ room) && decide (n ≤ strMax)) = true := by
 have e1 : room = 140737488355328 := rfl
 have e2 : strMax = 9223372036854775807 := rfl
 have : n * k ≤ 1000000 * 100 := Nat.mul_le_mul h hk
 rw [decide_eq_true (by omega), decide_eq_true (by omega)]; rfl
theorem G17_loop {xs : List D} (hx : xs.length ≤ 200000) : ∀ (r : List (List UInt8)) (i m : Nat) (fl : Bool) (acc : List D), xs.drop i = strsD r → i ≤ xs.length → r.length < m → acc.length ≤ i →
  ∃ fl', L17x0x9 N (R := Bool × LD) (xs.length : Int) xs m (i : Int) fl acc (fun p => some p) = some (fl', acc ++ strsD (r.filter fun s => !(s == [])))
 | _, _, 0, _, _, _, _, hm, _ => by omega
 | [], i, m + 1, fl, acc, hd, hi, _, _ => by
  have hl := congrArg List.length hd
  simp [strsD] at hl
  have : ¬ (i : Int) < (xs.length : Int) := by omega
  exact ⟨fl, by simp only [L17x0x9, S17x0x9, decide_eq_false this, _root_.cond_false, List.filter_nil, strsD, List.map_nil, List.append_nil]⟩
 | p :: r, i, m + 1, fl, acc, hd, hi0, hm, ha => by
  have hM : maxLen = 9223372036854775807 := rfl
  obtain ⟨hi, hc, hr⟩ := at_dropD (p := .s p) (r := strsD r) hd
  have hlt : (i : Int) < (xs.length : Int) := by omega
  have hin : inB (i : Int) xs.length = true := inB_of (by omega) (by omega)
  have hg : xs.getD (i : Int).toNat (.i 0) = .s p := by rw [Int.toNat_natCast]; exact hc
  have hp : (D.s p).toS = p := rfl
  have hlt2 : decide ((i : Int).toNat < xs.length) = true := decide_eq_true (by omega)
  have hw2 : IntKind.wrap .i64 ((i : Int) + 1) = ((i + 1 : Nat) : Int) := wrapI (by omega) (by omega)
  have hrm := room16 (n := acc.length + 1) (k := 16) (by decide) (by omega)
  cases hq : (p == ([] : List UInt8)) with
  | true =>
   obtain ⟨fl', ih⟩ := G17_loop hx r (i + 1) m fl acc hr (by omega) (by simp at hm; omega) (by omega)
   refine ⟨fl', ?_⟩
   simp only [L17x0x9, S17x0x9, decide_eq_true hlt, _root_.cond_true, hin, bnd_eq, hg, hp, hlt2, hw2, hq, G17x0x20, F17x0x20, Bool.not_true, _root_.cond_false, inlB_inr, inrQ_inr, Option.isSome_some, List.filter_cons]
   rw [ih]
   simp
  | false =>
   obtain ⟨fl', ih⟩ := G17_loop hx r (i + 1) m false (acc ++ [.s p]) hr (by omega) (by simp at hm; omega) (by simp; omega)
   refine ⟨fl', ?_⟩
   simp only [L17x0x9, S17x0x9, decide_eq_true hlt, _root_.cond_true, hin, bnd_eq, hg, hp, hlt2, hw2, hq, G17x0x20, F17x0x20, Bool.not_false, hrm, inlB_inl, inlV_inl, List.filter_cons]
   rw [ih, List.append_assoc]
   rfl
theorem G17x0_eq (hN : maxLen < N) {x : List UInt8} (hx : x.length ≤ 100000) : ∃ fl, G17x0 N x = some (fl, strsD (partsL x)) := by
 have hM : maxLen = 9223372036854775807 := rfl
 have hsp := splitL_length 32 x
 have hlen : (strsD (splitL 32 x)).length ≤ 200000 := by simp [strsD]; omega
 obtain ⟨fl, h⟩ := G17_loop (N := N) hlen (splitL 32 x) 0 N true [] rfl (by omega) (by omega) (by simp)
 refine ⟨fl, ?_⟩
 have h : G17x0x9 N ((strsD (splitL 32 x)).length : Int) (strsD (splitL 32 x)) 0 true [] = some (fl, strsD (partsL x)) := h
 have hc : (Nat.blt x.length 4294967281 && (!([32] : List UInt8).isEmpty)) = true := by
  rw [Bool.and_eq_true]; exact ⟨(by rw [Nat.blt_eq]; omega), rfl⟩
 unfold G17x0 F17x0
 rw [hc, splitD_one, h]
 rfl
noncomputable def R18 (N : Nat) (v : List D) : RT := (G18x0 N v).getD default
def ruleOf (r : RT) : D := .a [(.i r.1), (.i r.2.1), (.i r.2.2.1), (.i r.2.2.2.1), (.i r.2.2.2.2.1), (.i r.2.2.2.2.2.1), (.i r.2.2.2.2.2.2.1), (.i r.2.2.2.2.2.2.2.1), (.s r.2.2.2.2.2.2.2.2.1)]
theorem agree_parts (hN : maxLen < N) {x : List UInt8} (hx : x.length ≤ 100000) : Agree N (strsD (partsL x)) := by
 have hl := partsL_len x
 have hne : ∀ s ∈ partsL x, s ≠ [] ∧ s.length ≤ x.length := fun s hs => partsL_ne hs
 generalize partsL x = ps at hl hne
 match ps, hl, hne with
 | [], _, _ => exact .inr ⟨(0, 0, 0, 0, 0, 0, 0, 0, [], false), rfl, rfl, .inl rfl⟩
 | [a], _, _ => exact .inr ⟨(0, 0, 0, 0, 0, 0, 0, 0, [], false), rfl, rfl, .inl rfl⟩
 | a :: b :: r, hl, hne =>
  refine rule_eq (rest := strsD r) hN (hne a (by simp)).1 (hne b (by simp)).1 (by simp [strsD] at hl ⊢; omega) fun d hd => ?_
  unfold strsD at hd
  rw [List.mem_map] at hd
  obtain ⟨s, hs, rfl⟩ := hd
  have := (hne s (by simp [hs])).2
  show s.length ≤ _
  omega
noncomputable def walkF (N : Nat) : List (List UInt8) → Int → List D → Sum Int (List D)
 | [], _, acc => .inr acc
 | x :: r, w, acc => bif (partsL x).isEmpty then walkF N r (w + 1) acc else
   bif okT (R18 N (strsD (partsL x))) then walkF N r (w + 1) (acc ++ [ruleOf (R18 N (strsD (partsL x)))]) else .inl w
def ofP : Sum (Int × Bool × LD) (Bool × LD) → Sum Int (List D)
 | .inl p => .inl p.1
 | .inr p => .inr p.2
theorem prog_lines (hN : maxLen < N) {xs : List D} (hx : xs.length ≤ 200000) : ∀ (r : List (List UInt8)) (i m : Nat) (fl : Bool) (acc : List D), xs.drop i = strsD r → i ≤ xs.length → r.length < m → acc.length ≤ i → (∀ x ∈ r, x.length ≤ 100000) →
  ∃ z, L5x0x15 N (R := Sum (Int × Bool × LD) (Bool × LD)) (xs.length : Int) xs m (i : Int) fl acc (fun p => some (.inl p)) (fun p => some (.inr p)) = some z ∧ ofP z = walkF N r (i : Int) acc
 | _, _, 0, _, _, _, _, hm, _, _ => by omega
 | [], i, m + 1, fl, acc, hd, hi, _, _, _ => by
  have hl := congrArg List.length hd
  simp [strsD] at hl
  have : ¬ (i : Int) < (xs.length : Int) := by omega
  exact ⟨.inr (fl, acc), by simp only [L5x0x15, S5x0x15, decide_eq_false this, _root_.cond_false], rfl⟩
 | p :: r, i, m + 1, fl, acc, hd, hi0, hm, ha, ht => by
  have hM : maxLen = 9223372036854775807 := rfl
  have hpl := ht p (by simp)
  obtain ⟨hi, hc, hr⟩ := at_dropD (p := .s p) (r := strsD r) hd
  have hlt : (i : Int) < (xs.length : Int) := by omega
  have hin : inB (i : Int) xs.length = true := inB_of (by omega) (by omega)
  have hg : xs.getD (i : Int).toNat (.i 0) = .s p := by rw [Int.toNat_natCast]; exact hc
  have hp : (D.s p).toS = p := rfl
  have hlt2 : decide ((i : Int).toNat < xs.length) = true := decide_eq_true (by omega)
  have hw2 : IntKind.wrap .i64 ((i : Int) + 1) = ((i + 1 : Nat) : Int) := wrapI (by omega) (by omega)
  have hrm := room16 (n := acc.length + 1) (k := 80) (by decide) (by omega)
  have hcc : (Nat.blt p.length 4294967281 && (!([32] : List UInt8).isEmpty)) = true := by
   rw [Bool.and_eq_true]; exact ⟨(by rw [Nat.blt_eq]; omega), rfl⟩
  have hlen0 : (((strsD (partsL p)).length : Int) == 0) = (partsL p).isEmpty := by
   unfold strsD
   rw [List.length_map]
   cases partsL p <;> rfl
  cases he : (partsL p).isEmpty with
  | true =>
   obtain ⟨z, h1, h2⟩ := prog_lines hN hx r (i + 1) m fl acc hr (by omega) (by simp at hm; omega) (by omega) (fun x hx => ht x (by simp [hx]))
   refine ⟨z, ?_, ?_⟩
   ·simp only [L5x0x15, S5x0x15, decide_eq_true hlt, _root_.cond_true, hin, bnd_eq, hg, hp, hlt2, hw2, hcc, noEmpty_parts, hlen0, he]
    exact h1
   ·rw [h2]
    simp only [walkF, he, _root_.cond_true]
    rfl
  | false =>
   rcases agree_parts hN hpl with ⟨r1, r2, e1, e2, o1, o2⟩ | ⟨r0, e1, e2, _⟩
   ·refine ⟨.inl (i, fl, acc), ?_, ?_⟩
    ·have o1' : r1.2.2.2.2.2.2.2.2.2 = false := o1
     simp only [L5x0x15, S5x0x15, decide_eq_true hlt, _root_.cond_true, hin, bnd_eq, hg, hp, hlt2, hw2, hcc, noEmpty_parts, hlen0, he, _root_.cond_false, e1, Option.isSome_some, getD_some, o1', Bool.not_false]
    ·simp only [walkF, he, _root_.cond_false, R18, e2, getD_some, o2]
     rfl
   ·cases ho : r0.2.2.2.2.2.2.2.2.2 with
    | false =>
     refine ⟨.inl (i, fl, acc), ?_, ?_⟩
     ·simp only [L5x0x15, S5x0x15, decide_eq_true hlt, _root_.cond_true, hin, bnd_eq, hg, hp, hlt2, hw2, hcc, noEmpty_parts, hlen0, he, _root_.cond_false, e1, Option.isSome_some, getD_some, ho, Bool.not_false]
     ·simp only [walkF, he, _root_.cond_false, R18, e2, getD_some, okT, ho]
      rfl
    | true =>
     obtain ⟨z, h1, h2⟩ := prog_lines hN hx r (i + 1) m false (acc ++ [ruleOf r0]) hr (by omega) (by simp at hm; omega) (by simp; omega) (fun x hx => ht x (by simp [hx]))
     refine ⟨z, ?_, ?_⟩
     ·simp only [L5x0x15, S5x0x15, decide_eq_true hlt, _root_.cond_true, hin, bnd_eq, hg, hp, hlt2, hw2, hcc, noEmpty_parts, hlen0, he, _root_.cond_false, e1, Option.isSome_some, getD_some, ho, Bool.not_true, hrm]
      exact h1
     ·rw [h2]
      simp only [walkF, he, _root_.cond_false, R18, e2, getD_some, okT, ho, _root_.cond_true]
      rfl
theorem ref_lines (hN : maxLen < N) {xs : List D} (hx : xs.length ≤ 200000) : ∀ (r : List (List UInt8)) (i m : Nat) (fl : Bool) (acc : List D), xs.drop i = strsD r → i ≤ xs.length → r.length < m → acc.length ≤ i → (∀ x ∈ r, x.length ≤ 100000) →
  ∃ z, L6x0x15 N (R := Sum (Int × Bool × LD) (Bool × LD)) xs (xs.length : Int) m (i : Int) fl acc (fun p => some (.inl p)) (fun p => some (.inr p)) = some z ∧ ofP z = walkF N r (i : Int) acc
 | _, _, 0, _, _, _, _, hm, _, _ => by omega
 | [], i, m + 1, fl, acc, hd, hi, _, _, _ => by
  have hl := congrArg List.length hd
  simp [strsD] at hl
  have : ¬ (i : Int) < (xs.length : Int) := by omega
  exact ⟨.inr (fl, acc), by simp only [L6x0x15, S6x0x15, decide_eq_false this, _root_.cond_false], rfl⟩
 | p :: r, i, m + 1, fl, acc, hd, hi0, hm, ha, ht => by
  have hM : maxLen = 9223372036854775807 := rfl
  have hpl := ht p (by simp)
  obtain ⟨hi, hc, hr⟩ := at_dropD (p := .s p) (r := strsD r) hd
  have hlt : (i : Int) < (xs.length : Int) := by omega
  have hin : inB (i : Int) xs.length = true := inB_of (by omega) (by omega)
  have hg : xs.getD (i : Int).toNat (.i 0) = .s p := by rw [Int.toNat_natCast]; exact hc
  have hp : (D.s p).toS = p := rfl
  have hw2 : IntKind.wrap .i64 ((i : Int) + 1) = ((i + 1 : Nat) : Int) := wrapI (by omega) (by omega)
  have hrm := room16 (n := acc.length + 1) (k := 80) (by decide) (by omega)
  obtain ⟨f17, e17⟩ := G17x0_eq hN hpl
  have hlen0 : (((strsD (partsL p)).length : Int) == 0) = (partsL p).isEmpty := by
   unfold strsD
   rw [List.length_map]
   cases partsL p <;> rfl
  have e18 : ∃ r0, G18x0 N (strsD (partsL p)) = some r0 := by
   rcases agree_parts hN hpl with ⟨_, r2, _, e2, _, _⟩ | ⟨r0, _, e2, _⟩
   ·exact ⟨r2, e2⟩
   ·exact ⟨r0, e2⟩
  obtain ⟨r0, e2⟩ := e18
  cases he : (partsL p).isEmpty with
  | true =>
   obtain ⟨z, h1, h2⟩ := ref_lines hN hx r (i + 1) m fl acc hr (by omega) (by simp at hm; omega) (by omega) (fun x hx => ht x (by simp [hx]))
   refine ⟨z, ?_, ?_⟩
   ·simp only [L6x0x15, S6x0x15, decide_eq_true hlt, _root_.cond_true, hin, bnd_eq, hg, hp, hw2, e17, Option.isSome_some, getD_some, hlen0, he]
    exact h1
   ·rw [h2]
    simp only [walkF, he, _root_.cond_true]
    rfl
  | false =>
   cases ho : r0.2.2.2.2.2.2.2.2.2 with
   | false =>
    refine ⟨.inl (i, fl, acc), ?_, ?_⟩
    ·simp only [L6x0x15, S6x0x15, decide_eq_true hlt, _root_.cond_true, hin, bnd_eq, hg, hp, hw2, e17, Option.isSome_some, getD_some, hlen0, he, _root_.cond_false, e2, ho, Bool.not_false]
    ·simp only [walkF, he, _root_.cond_false, R18, e2, getD_some, okT, ho]
     rfl
   | true =>
    obtain ⟨z, h1, h2⟩ := ref_lines hN hx r (i + 1) m false (acc ++ [ruleOf r0]) hr (by omega) (by simp at hm; omega) (by simp; omega) (fun x hx => ht x (by simp [hx]))
    refine ⟨z, ?_, ?_⟩
    ·simp only [L6x0x15, S6x0x15, decide_eq_true hlt, _root_.cond_true, hin, bnd_eq, hg, hp, hw2, e17, Option.isSome_some, getD_some, hlen0, he, _root_.cond_false, e2, ho, Bool.not_true, hrm]
     exact h1
    ·rw [h2]
     simp only [walkF, he, _root_.cond_false, R18, e2, getD_some, okT, ho, _root_.cond_true]
     rfl
end Go.Proofs.YtohplnjpncjhoaaGreatDoor

namespace Go.Proofs.YtohplnjpncjhoaaGreatDoor
open Go Go.AM
set_option maxRecDepth 100000
set_option maxHeartbeats 4000000
variable {N : Nat}
theorem walkF_snoc : ∀ (l : List (List UInt8)) (w : Int) (acc : List D), walkF N (l ++ [[]]) w acc = walkF N l w acc
 | [], w, acc => by
  simp only [List.nil_append, walkF]
  rfl
 | x :: r, w, acc => by
  simp only [List.cons_append, walkF, walkF_snoc r]
theorem splitL_ne (c : UInt8) (s : List UInt8) : splitL c s ≠ [] := by
 intro e
 have := (splitL_length c s).1
 rw [e] at this
 simp at this
def linesR (s : List UInt8) : List (List UInt8) := bif (splitL 10 s).getLast? == some [] then (splitL 10 s).dropLast else splitL 10 s
theorem walk_lines (s : List UInt8) : walkF N (linesR s) 0 [] = walkF N (splitL 10 s) 0 [] := by
 unfold linesR
 cases h : (splitL 10 s).getLast? == some [] with
 | false => rfl
 | true =>
  have hl : (splitL 10 s).getLast? = some [] := by simpa using h
  have hs : splitL 10 s = (splitL 10 s).dropLast ++ [[]] := by
   rw [List.getLast?_eq_some_getLast (splitL_ne 10 s)] at hl
   have hg := Option.some.inj hl
   have := (List.dropLast_concat_getLast (splitL_ne 10 s)).symm
   rw [hg] at this
   exact this
  rw [_root_.cond_true]
  conv => rhs; rw [hs]
  rw [walkF_snoc]
theorem G16x0_eq {s : List UInt8} (hs : s.length ≤ 100000) : G16x0 N s = some (strsD (linesR s)) := by
 have hlen := splitL_length 10 s
 obtain ⟨l, hl⟩ : ∃ l, l = splitL 10 s := ⟨_, rfl⟩
 have hc : (Nat.blt s.length 4294967281 && (!([10] : List UInt8).isEmpty)) = true := by
  rw [Bool.and_eq_true]; exact ⟨(by rw [Nat.blt_eq]; omega), rfl⟩
 have hne := splitL_ne 10 s
 unfold G16x0 F16x0 linesR
 rw [hc, splitD_one]
 rw [← hl] at hlen hne ⊢
 have hn : (strsD l).length = l.length := by unfold strsD; simp
 have hw : IntKind.wrap .i64 (((strsD l).length : Int) - 1) = ((l.length - 1 : Nat) : Int) := by
  rw [hn]
  exact (wrapI (by omega) (by omega)).trans (by omega)
 have hi : inB ((l.length - 1 : Nat) : Int) (strsD l).length = true := by rw [hn]; exact inB_of (by omega) (by omega)
 have hd : decide (((l.length - 1 : Nat) : Int).toNat < (strsD l).length) = true := decide_eq_true (by rw [hn]; omega)
 have hg : ((strsD l).getD ((l.length - 1 : Nat) : Int).toNat (.i 0)).toS = l.getLast hne := by
  rw [Int.toNat_natCast, List.getD_eq_getElem?_getD, List.getElem?_eq_getElem (by rw [hn]; omega), Option.getD_some]
  unfold strsD
  rw [List.getElem_map, List.getLast_eq_getElem]
  rfl
 have hlast : (l.getLast? == some []) = (l.getLast hne == ([] : List UInt8)) := by
  rw [List.getLast?_eq_some_getLast hne]
  rw [Bool.eq_iff_iff]; simp
 rw [hw, hlast]
 simp only [_root_.cond_true, bnd_eq, hi, hd, hg, hw, G16x0x11, F16x0x11]
 cases l.getLast hne == ([] : List UInt8) with
 | false => rfl
 | true =>
  have h2 : (decide ((0 : Int) ≤ ((l.length - 1 : Nat) : Int)) && decide (((l.length - 1 : Nat) : Int) ≤ ((strsD l).length : Int))) = true := by
   rw [decide_eq_true (by omega), decide_eq_true (by rw [hn]; omega)]; rfl
  simp only [_root_.cond_true, h2, hw, inlB_inl, inlV_inl, Int.toNat_natCast]
  congr 1
  unfold strsD
  rw [List.dropLast_eq_take, List.map_take]
theorem text_parts (hN : maxLen < N) {x : List UInt8} (hx : x.length ≤ 100000) (ho : okT (R18 N (strsD (partsL x))) = true) : (rT (ruleOf (R18 N (strsD (partsL x))))).length ≤ 100000 := by
 show (textT (R18 N (strsD (partsL x)))).length ≤ 100000
 rcases agree_parts hN hx with ⟨r1, r2, e1, e2, o1, o2⟩ | ⟨r0, e1, e2, h⟩
 ·exfalso
  have : R18 N (strsD (partsL x)) = r2 := by unfold R18; rw [e2]; rfl
  rw [this, o2] at ho
  cases ho
 ·have : R18 N (strsD (partsL x)) = r0 := by unfold R18; rw [e2]; rfl
  rw [this]
  rcases h with h | ⟨d, hd, h⟩
  ·rw [h]; simp
  ·rw [h]
   unfold strsD at hd
   rw [List.mem_map] at hd
   obtain ⟨s, hs, rfl⟩ := hd
   have := (partsL_ne hs).2
   show s.length ≤ _
   omega
theorem walk_text (hN : maxLen < N) : ∀ (l : List (List UInt8)) (w : Int) (acc out : List D), (∀ x ∈ l, x.length ≤ 100000) → (∀ d ∈ acc, (rT d).length ≤ 100000) → walkF N l w acc = .inr out → out.length ≤ acc.length + l.length ∧ ∀ d ∈ out, (rT d).length ≤ 100000
 | [], w, acc, out, _, ha, h => by simp only [walkF] at h; cases h; exact ⟨by simp, ha⟩
 | x :: r, w, acc, out, hx, ha, h => by
  simp only [walkF] at h
  cases he : (partsL x).isEmpty with
  | true =>
   rw [he] at h
   have := walk_text hN r _ _ _ (fun y hy => hx y (by simp [hy])) ha h
   exact ⟨by simp; omega, this.2⟩
  | false =>
   rw [he] at h
   cases ho : okT (R18 N (strsD (partsL x))) with
   | false => rw [ho] at h; cases h
   | true =>
    rw [ho] at h
    have := walk_text hN r _ _ _ (fun y hy => hx y (by simp [hy])) (fun d hd => by
     rcases List.mem_append.1 hd with hd | hd
     ·exact ha d hd
     ·rw [List.mem_singleton] at hd
      subst hd
      exact text_parts hN (hx x (by simp)) ho) h
    exact ⟨by have := this.1; simp at this ⊢; omega, this.2⟩
theorem G7x0_self (hN : maxLen < N) {l : List D} (hl : l.length ≤ maxLen) : G7x0 N l l = some true := by
 have h : G20x0x12 N l l (l.length : Int) 0 = some (.inr ()) := by
  unfold G20x0x12
  refine (for_ind (.i 0 : D) (xs := l) (S := fun w kr => S20x0x12 N l l l.length w kr _ _) (L := fun m w => L20x0x12 N l l l.length m w _ _) (fun m w => rfl) (fun _ _ => some (.inr ())) hl ?_ ?_ hN).trans rfl
  ·intro kr
   have : ¬ (l.length : Int) < (l.length : Int) := by omega
   simp only [S20x0x12, decide_eq_false this, _root_.cond_false]
  ·intro w kr h0 h1 hw hi hk
   simp only [S20x0x12, decide_eq_true h1, hi, _root_.cond_true, bnd_eq, beq_self_eq_true, Bool.and_self, Bool.not_true, _root_.cond_false, hw, hk]
 unfold G7x0 F7x0 G20x0 F20x0
 rw [h]
 simp only [bne_self_eq_false, _root_.cond_false, bnd_eq]
 rfl
theorem read_eq (hN : maxLen < N) (s : List UInt8) : ∃ (f1 f2 : Bool) (l : List D) (at_ e : Int), l.length ≤ maxLen ∧ G5x0 N s = some (f1, l, at_, e) ∧ G6x0 N s = some (f2, l, at_, e) := by
 have hM : maxLen = 9223372036854775807 := rfl
 by_cases hbig : (s.length : Int) > 100000
 ·refine ⟨true, true, [], 0, 3, by simp [maxLen], ?_, ?_⟩
  ·unfold G5x0 F5x0; rw [decide_eq_true hbig]; rfl
  ·unfold G6x0 F6x0; rw [decide_eq_true hbig]; rfl
 have hs : s.length ≤ 100000 := by omega
 have hlen := splitL_length 10 s
 have hpc : ∀ x ∈ splitL 10 s, x.length ≤ 100000 := fun x hx => Nat.le_trans (splitL_piece hx) hs
 have hpc2 : ∀ x ∈ linesR s, x.length ≤ 100000 := by
  intro x hx
  unfold linesR at hx
  cases h : (splitL 10 s).getLast? == some [] with
  | false => rw [h] at hx; exact hpc x hx
  | true => rw [h] at hx; exact hpc x (List.dropLast_subset _ hx)
 have hlr : (linesR s).length ≤ (splitL 10 s).length := by
  unfold linesR
  cases (splitL 10 s).getLast? == some [] with
  | false => exact Nat.le_refl _
  | true => show (splitL 10 s).dropLast.length ≤ _; simp
 have hn1 : (strsD (splitL 10 s)).length = (splitL 10 s).length := by unfold strsD; simp
 have hn2 : (strsD (linesR s)).length = (linesR s).length := by unfold strsD; simp
 obtain ⟨z1, a1, a2⟩ := prog_lines hN (xs := strsD (splitL 10 s)) (by omega) (splitL 10 s) 0 N true [] rfl (by omega) (by omega) (by simp) hpc
 obtain ⟨z2, b1, b2⟩ := ref_lines hN (xs := strsD (linesR s)) (by omega) (linesR s) 0 N true [] rfl (by omega) (by omega) (by simp) hpc2
 have a1 : G5x0x15 N ((strsD (splitL 10 s)).length : Int) (strsD (splitL 10 s)) 0 true [] = some z1 := a1
 have b1 : G6x0x15 N (strsD (linesR s)) ((strsD (linesR s)).length : Int) 0 true [] = some z2 := b1
 have a2 : ofP z1 = walkF N (splitL 10 s) 0 [] := a2
 have b2 : ofP z2 = walkF N (linesR s) 0 [] := b2
 rw [walk_lines] at b2
 have hc : (Nat.blt s.length 4294967281 && (!([10] : List UInt8).isEmpty)) = true := by
  rw [Bool.and_eq_true]; exact ⟨(by rw [Nat.blt_eq]; omega), rfl⟩
 cases hw : walkF N (splitL 10 s) 0 [] with
 | inl w =>
  rw [hw] at a2 b2
  refine ⟨true, true, [], w, 6, by simp [maxLen], ?_, ?_⟩
  ·cases z1 with
   | inr p => cases a2
   | inl p =>
    have : p.1 = w := by cases a2; rfl
    unfold G5x0 F5x0
    rw [decide_eq_false hbig, hc, splitD_one, a1]
    simp only [_root_.cond_false, _root_.cond_true, bnd_eq, inlB_inl, inlV_inl, this]
  ·cases z2 with
   | inr p => cases b2
   | inl p =>
    have : p.1 = w := by cases b2; rfl
    unfold G6x0 F6x0
    rw [decide_eq_false hbig, G16x0_eq hs]
    simp only [_root_.cond_false, _root_.cond_true, bnd_eq, Option.isSome_some, getD_some, b1, inlB_inl, inlV_inl, this]
 | inr out =>
  rw [hw] at a2 b2
  have hout := walk_text hN _ _ _ _ hpc (fun d hd => by simp at hd) hw
  have hv : VeilOk out := ⟨by have := hout.1; simp at this; omega, fun x hx => by have := hout.2 x hx; omega⟩
  cases z1 with
  | inl p => cases a2
  | inr p =>
  cases z2 with
  | inl q => cases b2
  | inr q =>
  have hp : p.2 = out := by cases a2; rfl
  have hq : q.2 = out := by cases b2; rfl
  by_cases hz : chkV out = 0
  ·refine ⟨p.1, q.1, out, 0, 0, hv.l, ?_, ?_⟩
   ·unfold G5x0 F5x0
    rw [decide_eq_false hbig, hc, splitD_one, a1]
    simp only [_root_.cond_false, _root_.cond_true, bnd_eq, inlB_inr, inrQ_inr, Option.isSome_some, getD_some, hp, G15x0_eq hN hv, hz, bne_self_eq_false]
   ·unfold G6x0 F6x0
    rw [decide_eq_false hbig, G16x0_eq hs]
    simp only [_root_.cond_false, _root_.cond_true, bnd_eq, Option.isSome_some, getD_some, b1, inlB_inr, inrQ_inr, hq, G19x0_eq hN hv, hz, bne_self_eq_false]
  ·have hb : (chkV out != 0) = true := by simpa using hz
   refine ⟨true, true, [], 0, chkV out, by simp [maxLen], ?_, ?_⟩
   ·unfold G5x0 F5x0
    rw [decide_eq_false hbig, hc, splitD_one, a1]
    simp only [_root_.cond_false, _root_.cond_true, bnd_eq, inlB_inr, inrQ_inr, Option.isSome_some, getD_some, hp, G15x0_eq hN hv, hb]
   ·unfold G6x0 F6x0
    rw [decide_eq_false hbig, G16x0_eq hs]
    simp only [_root_.cond_false, _root_.cond_true, bnd_eq, Option.isSome_some, getD_some, b1, inlB_inr, inrQ_inr, hq, G19x0_eq hN hv, hb]
theorem law3 (hN : maxLen < N) (ht : G8x0 N = some true) (s : List UInt8) : G3x0 N s = some true := by
 obtain ⟨f1, f2, l, at_, e, hl, e1, e2⟩ := read_eq hN s
 unfold G3x0 F3x0 G3x0x10 F3x0x10
 rw [e1, e2]
 simp only [bnd_eq, Option.isSome_some, _root_.cond_true, getD_some, G7x0_self hN hl, beq_self_eq_true, ht]
theorem told_ok : G8x0 18446744073709551616 = some true := by kernel_rfl
end Go.Proofs.YtohplnjpncjhoaaGreatDoor

namespace Go.Proofs.YtohplnjpncjhoaaGreatDoor
open Go Go.AM
set_option maxRecDepth 100000
set_option maxHeartbeats 4000000
theorem kinds9 : kinds Tryz.prog 9 = [.str] := by kernel_rfl
theorem str1 {m : Nat} {d : D} (h : TyK Tryz.prog m .str d) : ∃ s, d = .s s ∧ s.length ≤ maxLen := by
 cases m with
 | zero => exact h.elim
 | succ m => exact h
theorem arg9 {m : Nat} {ds : List D} (h : ArgOk Tryz.prog m 9 ds) : ∃ s, ds = [.s s] := by
 unfold ArgOk at h
 rw [kinds9] at h
 obtain ⟨_, _, rfl, h0, h⟩ := all2_cons h
 obtain rfl := all2_nil h
 obtain ⟨s, rfl, _⟩ := str1 h0
 exact ⟨s, rfl⟩
theorem callLaw (m : Nat) (dss : List (List D)) (h : All2 (ArgOk Tryz.prog m) Tryz.f3.params.toList dss) : CallOk Tryz.prog 3 (argVs Tryz.prog Tryz.f3.params.toList dss) [] ([.c (.b true)], []) := by
 have hp : Tryz.f3.params.toList = [9] := by kernel_rfl
 rw [hp] at h ⊢
 match dss, h with
 | [d0], ⟨h0, _⟩ =>
  obtain ⟨s, rfl⟩ := arg9 h0
  refine ok3x0 18446744073709551616 _ _ (A3x0 18446744073709551616 [.s s]) (by kernel_rfl) _ ?_
  have e : A3x0 18446744073709551616 [.s s] = bnd (G3x0 18446744073709551616 s) fun q => [(q.isSome, ([.c (.b (q.getD default))], []))] := by kernel_rfl
  rw [e, law3 (by decide) told_ok s]
  rfl
theorem Tryz.own : ownKnob Tryz.prog.godebug = none := by kernel_rfl
theorem Tryz.laidOut : laidOutB Tryz.prog = true := by kernel_rfl
theorem bulkOk {H : Type} : BulkOk (Rows.uptoBulk : DataW H → Nat) Rows.uptoBulkAll := by
 refine ⟨fun l => ?_, fun l => ?_, ?_, fun e s => ?_, fun p => ?_, ?_, fun d r => ?_⟩
 ·cases l <;> simp [Rows.uptoBulk]
 ·simp [Rows.uptoBulk]
 ·simp [Rows.uptoBulk]
 ·simp only [Rows.uptoBulk]; omega
 ·simp [Rows.uptoBulk]
 ·simp [Rows.uptoBulkAll]
 ·simp [Rows.uptoBulkAll]
theorem g0 : Tryz.prog.globalNamed "internal/bytealg.MaxLen" = some 0 := by kernel_rfl
theorem g1 : Tryz.prog.globalNamed "internal/strconv.uint64pow10" = some 1 := by kernel_rfl
theorem g2 : Tryz.prog.globalNamed "strconv.ErrSyntax" = some 4 := by kernel_rfl
theorem g3 : Tryz.prog.globalNamed "strconv.ErrRange" = some 5 := by kernel_rfl
theorem giW {W : World} (hs : W.ShapedOpen Tryz.prog) (hl : laidMetH Tryz.prog Rows.veilReadMatchesSpecRow.laid W) {M : Stab} (hM : ∀ b o, ¬ M b o) : GI Tryz.prog M W := by
 have hl : laidMet Tryz.prog Rows.veilReadMatchesSpecRow.laid W := hl
 refine gi_of g0 g1 g2 g3 ?_ ?_ ?_ ?_ hM
 ·exact gat_int (t := 3) (zero := #[.int .i64 0]) hs (of_decide_eq_true (by kernel_rfl)) (by kernel_rfl) rfl (by kernel_rfl) (by kernel_rfl) (by kernel_rfl)
 ·obtain ⟨ps, hv, _⟩ := hl
  obtain ⟨g, t, cs, fuel, p, q1, q2, q3, q4⟩ := laid_get (x := ("internal/strconv.uint64pow10", Rows.laid_internal_strconv_uint64pow10)) hv (by simp [Rows.veilReadMatchesSpecRow])
  obtain rfl := Option.some.inj ((show (Tryz.prog.globals[1]?).map (·.type) = some 151 by kernel_rfl).symm.trans (by rw [Option.some.inj (g1.symm.trans q1)]; exact q2))
  have hcs := Lib.cells_of_tab (k := .u64) (zs := (List.range 20).map fun i => ((10 ^ i : Nat) : Int)) (n := 20) (e := 121) (t := 151) (by kernel_rfl) (by kernel_rfl) (by kernel_rfl) (by kernel_rfl) (show DataW.trod _ _ _ _ _ _ fuel 151 cs.toList = some (Lib.tabData .u64 ((List.range 20).map fun i => ((10 ^ i : Nat) : Int)), p) from q4)
  refine gat_tab (k := .u64) (zs := (List.range 20).map fun i => ((10 ^ i : Nat) : Int)) g1 (show W.var? Tryz.prog _ = _ by rw [q3, ← hcs]) (by simp) fun i p z h1 h2 => ?_
  rw [List.getElem?_map] at h1 h2
  obtain ⟨j, j1, rfl⟩ := Option.map_eq_some_iff.1 h1
  rw [j1] at h2
  simp only [Option.map_some, Option.some.injEq] at h2
  subst h2
  rfl
 ·exact gat_err (t := 66) hl (show ("strconv.ErrSyntax", Rows.laid_strconv_ErrSyntax) ∈ Rows.veilReadMatchesSpecRow.laid by simp [Rows.veilReadMatchesSpecRow]) g2 (by kernel_rfl) (by kernel_rfl)
 ·exact gat_err (t := 66) hl (show ("strconv.ErrRange", Rows.laid_strconv_ErrRange) ∈ Rows.veilReadMatchesSpecRow.laid by simp [Rows.veilReadMatchesSpecRow]) g3 (by kernel_rfl) (by kernel_rfl)
abbrev synS : ByteArray := { data := #[105, 110, 118, 97, 108, 105, 100, 32, 115, 121, 110, 116, 97, 120] }
abbrev rngS : ByteArray := { data := #[118, 97, 108, 117, 101, 32, 111, 117, 116, 32, 111, 102, 32, 114, 97, 110, 103, 101] }
noncomputable def low : Nat := (World.holding Tryz.prog default ⟨#[], #[], []⟩).heap.size
def tabOf {H : Type} : DataW H → Array Value
 | .agg l => (l.map fun | .lit (.int k n) => Value.int k n | _ => undef).toArray
 | _ => #[]
def setG (h : Array Obj) (g : Nat) (vs : Array Value) : Array Obj := h.modify g fun
 | .cells _ t fr => .cells vs t fr
 | o => o
def flatOf {H : Type} : DataW H → Array Value
 | .agg l => (l.flatMap fun | .agg r => r.map (fun | .lit (.int k n) => Value.int k n | _ => undef) | _ => []).toArray
 | _ => #[]
noncomputable def laidWorld (os : Os) : World :=
 let w0 := World.holding Tryz.prog os ⟨#[.cells #[.string synS] 175, .cells #[.string rngS] 175], #[], []⟩
 { w0 with heap := setG (setG (setG (setG (setG (setG (setG w0.heap 1 (tabOf (H := Unit) Rows.laid_internal_strconv_uint64pow10)) 4 #[.iface 173 (.pointer (some ⟨low, 0, none⟩))]) 5 #[.iface 173 (.pointer (some ⟨low + 1, 0, none⟩))])
   6 (tabOf (H := Unit) Rows.laid_math_bits_deBruijn32tab)) 7 (tabOf (H := Unit) Rows.laid_math_bits_deBruijn64tab)) 2 (tabOf Rows.laid_unicode_utf8_first)) 3 (flatOf (H := Unit) Rows.laid_unicode_utf8_acceptRanges) }
def arg0 : Value := .string ⟨#[]⟩
def dat0 {H : Type} : DataW H := .lit (.string [])
theorem laid_met (os : Os) : laidMet Tryz.prog Rows.veilReadMatchesSpecRow.laid ((laidWorld os).forCall (fun _ _ => 0) ⟨#[], #[arg0], []⟩).memory :=
 laidMet_of_run' 8 (by kernel_rfl) (by kernel_rfl)
theorem reads (os : Os) {H : Type} (enc : TypeId × Value → H) : ∃ places, DataW.whole enc Tryz.prog ((laidWorld os).forCall (fun _ _ => 0) ⟨#[], #[arg0], []⟩).memory Tryz.f3.params.toList Rows.veilReadMatchesSpecSpec.vars false #[arg0].toList 8 = some ([dat0], [], places) :=
 ⟨[], by kernel_rfl⟩
theorem lifted (os : Os) (started : os.Started) (H : Type) (enc : TypeId × Value → H) (F : Stop.Interp) :
  ReturnsInHanded {} Tryz.checked os 3 .any ((OpenSpec.ofChange Rows.veilReadMatchesSpecSpec).preRow enc Tryz.prog Tryz.f3 Rows.veilReadMatchesSpecRow.domain false Rows.veilReadMatchesSpecRow.laid) (((OpenSpec.ofChange Rows.veilReadMatchesSpecSpec).at F).post enc Tryz.prog Tryz.f3 false true false false) := by
 obtain ⟨places, hx⟩ := reads os enc
 refine returnsInHanded_of_row (C := Tryz.checked) (s := OpenSpec.ofChange Rows.veilReadMatchesSpecSpec) Tryz.own started (by kernel_rfl) Tryz.func3
  (witness_row_at (enc := enc) (C := Tryz.checked) false (laidWorld os) #[arg0] rfl (by kernel_rfl) (by kernel_rfl) (by kernel_rfl)
   (OpenSpec.preRow_of_cond 8 hx (by kernel_rfl) (fun k hk => by cases hk) (by kernel_rfl) (laid_met os))) ?_
 intro W base args ds gs before hval hW _ _ _ hL hsh _
 exact law_callR (tb := 4) bulkOk [] (by kernel_rfl) Tryz.laidOut rfl (by kernel_rfl) (by kernel_rfl) (by kernel_rfl) (fun l hl => by
  rw [show Tryz.f3.params.size = 1 by kernel_rfl] at hl
  match l, hl with
  | [_], _ => rfl) (fun m dss h _ => callLaw m dss h) (fun hM => giW hsh hL hM) hval hW
end Go.Proofs.YtohplnjpncjhoaaGreatDoor

